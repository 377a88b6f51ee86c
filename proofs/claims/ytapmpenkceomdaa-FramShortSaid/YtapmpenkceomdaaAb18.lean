/- A run cut in two, at an operation. -/
import Derived.Test.YtapmpenkceomdaaAb17
namespace Go.Ab
variable {P : Program}

def seqs : Code → List Code
  | .seq a b => seqs a ++ seqs b
  | c => [c]

section
variable (P) (C : Callee') (n : Nat)
def evSeqs : List Code → TS → AHeap → ARes
  | [], T, h => some (.normal, T, h)
  | c :: l, T, h => match evCode P C n c T h with
    | some (.normal, T', h') => evSeqs l T' h'
    | r => r
end

variable {C : Callee'} {n : Nat}

theorem evSeqs_append : ∀ (l m : List Code) (T : TS) (h : AHeap), evSeqs P C n (l ++ m) T h = match evSeqs P C n l T h with
    | some (.normal, T', h') => evSeqs P C n m T' h'
    | r => r := by
  intro l
  induction l with
  | nil => intro m T h; rfl
  | cons c l ih =>
    intro m T h
    simp only [List.cons_append, evSeqs]
    split
    · exact ih m _ _
    · rename_i hne
      split
      · exact absurd ‹_› (hne _ _)
      · rfl

theorem evCode_seqs : ∀ (c : Code) (T : TS) (h : AHeap), evCode P C n c T h = evSeqs P C n (seqs c) T h := by
  have one : ∀ (c : Code) (T : TS) (h : AHeap), evCode P C n c T h = evSeqs P C n [c] T h := by
    intro c T h
    simp only [evSeqs]
    split
    · assumption
    · rfl
  intro c
  induction c with
  | seq a b iha ihb =>
    intro T h
    simp only [seqs, evSeqs_append, evCode]
    rw [iha]
    split
    · rename_i T' h' he
      rw [he]
      exact ihb _ _
    · rename_i hne
      split
      · exact absurd ‹_› (hne _ _)
      · rfl
  | _ => intro T h; exact one _ T h

theorem evOps_append {ops : Array Oper} : ∀ (l m : List Oper) (T : TS) (h : AHeap), evOps P C ops (l ++ m) T h = match evOps P C ops l T h with
    | some (T', h') => evOps P C ops m T' h'
    | none => none := by
  intro l
  induction l with
  | nil => intro m T h; rfl
  | cons o l ih =>
    intro m T h
    simp only [List.cons_append, evOps]
    split
    · split
      · exact ih m _ _
      · rfl
    · exact ih m _ _

section
variable (P) (n d f r q : Nat)
/-- the run up to operation q of the r-th part -/
def upto (args : List Value) (h : AHeap) : Option (TS × AHeap) :=
  match P.funcs[f]? with
  | some fn => match fn.body with
    | some c => match evSeqs P (aCall P n d) n ((seqs c).take r) (TS.init args fn.ntmps) h with
      | some (.normal, T, h1) => match (seqs c)[r]? with
        | some (.region _ ops false) => evOps P (aCall P n d) ops (ops.toList.take q) T h1
        | _ => none
      | _ => none
    | none => none
  | none => none
/-- the run from there -/
def behind (T : TS) (h : AHeap) : Option (Value × AHeap) :=
  match P.funcs[f]? with
  | some fn => match fn.body with
    | some c =>
      if fn.name == "runtime.NumGoroutine" then none else
      match (seqs c)[r]? with
      | some (.region _ ops false) => match evOps P (aCall P n d) ops (ops.toList.drop q) T h with
        | some (T1, h1) => match evSeqs P (aCall P n d) n ((seqs c).drop (r + 1)) T1 h1 with
          | some (.exit _, _, _) => none
          | some (_, T, h') => match evRes P T h' fn.results.toList with
            | some vs => some (tupled vs, h')
            | none => none
          | none => none
        | none => none
      | _ => none
    | none => none
  | none => none
end

theorem aCall_split {d f r q : Nat} {args : List Value} {h h1 : AHeap} {T : TS} {x : Value × AHeap} (hu : upto P n d f r q args h = some (T, h1)) (hb : behind P n d f r q T h1 = some x) :
    aCall P n (d + 1) f args h = some x := by
  unfold upto at hu
  unfold behind at hb
  simp only [aCall]
  cases hf : P.funcs[f]? with
  | none => rw [hf] at hu; cases hu
  | some fn =>
    rw [hf] at hu hb
    simp only at hu hb ⊢
    cases hc : fn.body with
    | none => rw [hc] at hu; cases hu
    | some c =>
      rw [hc] at hu hb
      simp only at hu hb ⊢
      by_cases hn : (fn.name == "runtime.NumGoroutine") = true
      · rw [if_pos hn] at hb; cases hb
      · rw [if_neg hn] at hb ⊢
        rw [evCode_seqs]
        split at hu
        · rename_i T0 h0 he
          split at hu
          · rename_i id ops hr
            rw [hr] at hb
            simp only at hb
            have hlt : r < (seqs c).length := (List.getElem?_eq_some_iff.1 hr).1
            have hsplit : seqs c = (seqs c).take r ++ (Code.region id ops false :: (seqs c).drop (r + 1)) := by
              have : (seqs c)[r] = Code.region id ops false := (List.getElem?_eq_some_iff.1 hr).2
              rw [← this, List.getElem_cons_drop, List.take_append_drop]
            rw [hsplit, evSeqs_append, he]
            simp only [evSeqs, evCode]
            rw [← List.take_append_drop q ops.toList, evOps_append, hu]
            simp only
            cases hx : evOps P (aCall P n d) ops (ops.toList.drop q) T h1 with
            | none => rw [hx] at hb; cases hb
            | some y =>
              obtain ⟨T1, h2⟩ := y
              rw [hx] at hb
              exact hb
          · cases hu
        · cases hu

def regionOf (P : Program) (f r : Nat) : List Oper :=
  match P.funcs[f]? with
  | some fn => match fn.body with
    | some c => match (seqs c)[r]? with
      | some (.region _ ops false) => ops.toList
      | _ => []
    | none => []
  | none => []

/-- one operation of a part -/
theorem behind_step {d f r q : Nat} {T : TS} {h h' : AHeap} {o : Oper} {v : Value} (ho : (regionOf P f r)[q]? = some o) (hg : o.guard = none)
    (hop : aOper P (aCall P n d) T h o.op = some (v, h')) : behind P n d f r q T h = behind P n d f r (q + 1) (T.put o.dst v) h' := by
  unfold behind regionOf at *
  cases hf : P.funcs[f]? with
  | none => rfl
  | some fn =>
    rw [hf] at ho
    simp only at ho ⊢
    cases hc : fn.body with
    | none => rfl
    | some c =>
      rw [hc] at ho
      simp only at ho ⊢
      split
      · rfl
      · split
        · rename_i id ops hr
          rw [hr] at ho
          simp only at ho
          have hlt := (List.getElem?_eq_some_iff.1 ho).1
          have he := (List.getElem?_eq_some_iff.1 ho).2
          have : ops.toList.drop q = o :: ops.toList.drop (q + 1) := by rw [← he, List.getElem_cons_drop]
          rw [this]
          have hw : Region.wanted o (yieldedA ops T) = true := by simp [Region.wanted, hg]
          simp only [evOps, hw, if_true, hop]
        · rfl

end Go.Ab
