/- What an operation of clean code does is what the text's operation does. -/
import Derived.Test.YtapmpenkceomdaaAb19
namespace Go.Ab
variable {P : Program}

/-- slots as a function -/
def Sees (T : TS) (E : Env) : Prop := ∀ i, T.get i = E i

theorem Sees.o {T : TS} {E : Env} (s : Sees T E) {x : Operand} {y : TO} (h : tidyO x = some y) : T.ev x = some (y.ev E) := by
  cases x with
  | tmp t => cases h; simp only [TS.ev, TO.ev, s t]
  | const v =>
    simp only [tidyO] at h
    split at h
    · cases h; simp only [TS.ev, TO.ev, if_pos ‹_›]
    · cases h
  | global g => cases h
  | func f => cases h; rfl

theorem Sees.l {T : TS} {E : Env} (s : Sees T E) : ∀ {l : List Operand} {m : List TO}, tidyL l = some m → Go.Ab.evs T l = some (TO.evs E m)
  | [], m, h => by cases h; rfl
  | x :: l, m, h => by
    simp only [tidyL] at h
    split at h
    · rename_i y k h1 h2
      cases h
      simp only [Go.Ab.evs, TO.evs, s.o h1, s.l h2]
    · cases h

theorem Sees.oo {T : TS} {E : Env} (s : Sees T E) {x : Option Operand} {y : Option TO} (h : tidyOO x = some y) : evOpt T x = some (TO.evo E y) := by
  cases x with
  | none => cases h; rfl
  | some x =>
    simp only [tidyOO, Option.map_eq_some_iff] at h
    obtain ⟨z, h1, rfl⟩ := h
    simp only [evOpt, TO.evo, s.o h1, Option.map_some]

theorem splice_nil (l : List Value) (n : Nat) : splice l n [] = l := by simp [splice]
theorem splice_cons {l : List Value} {n : Nat} {v : Value} {vs : List Value} (h : n < l.length) : splice (l.set n v) (n + 1) vs = splice l n (v :: vs) := by
  unfold splice
  have e1 : (l.set n v).take (n + 1) = l.take n ++ [v] := by
    rw [List.take_succ_eq_append_getElem (by simpa using h), List.take_set_of_le (Nat.le_refl _)]
    simp
  have e2 : (l.set n v).drop (n + 1 + vs.length) = l.drop (n + (v :: vs).length) := by
    rw [List.drop_set_of_lt (by omega)]
    congr 1
    simp; omega
  rw [e1, e2]; simp
theorem foldl_splice : ∀ (vs : List Value) (off k : Nat) (xs : List Value), off + k + vs.length ≤ xs.length →
    (vs.zipIdx k).foldl (fun (cs : Array Value) (p : Value × Nat) => cs.setIfInBounds (off + p.2) p.1) ⟨xs⟩ = ⟨splice xs (off + k) vs⟩
  | [], off, k, xs, _ => by simp [splice_nil]
  | v :: vs, off, k, xs, h => by
    simp only [List.length_cons] at h
    simp only [List.zipIdx_cons, List.foldl_cons]
    have e : (⟨xs⟩ : Array Value).setIfInBounds (off + k) v = ⟨xs.set (off + k) v⟩ := by simp
    rw [e, foldl_splice vs off (k + 1) _ (by simp; omega), ← splice_cons (by omega)]
    rfl

theorem fillV_fill {pl : Nat → Option (Nat × Nat)} {off size i : Nat} {v : Value} {cells r : List Value} {l : List (Nat × Value)} (hp : pl i = some (off, size)) (h1 : v.cells.size = size)
    (h2 : off + size ≤ cells.length) (h : Instr.fill pl ⟨splice cells off v.cells.toList⟩ l = some ⟨r⟩) : Instr.fill pl ⟨cells⟩ ((i, v) :: l) = some ⟨r⟩ := by
  simp only [Instr.fill, hp]
  have e : ¬ ((v.cells.size ≠ size || decide (off + v.cells.size > (⟨cells⟩ : Array Value).size)) = true) := by
    simp only [Bool.or_eq_true, decide_eq_true_eq, not_or, h1]
    refine ⟨fun h => h rfl, ?_⟩
    show ¬ off + size > cells.length
    omega
  rw [if_neg e, ← h]
  congr 1
  have := foldl_splice v.cells.toList off 0 cells (by simp [h1]; omega)
  rw [← Array.foldl_toList]
  simpa using this

theorem Sees.p {T : TS} {E : Env} (s : Sees T E) {pl : Nat → Option (Nat × Nat)} : ∀ {l : List (Nat × Operand)} {m : List (Nat × Nat × TO)}, tidyP pl l = some m →
    ∃ vs, evParts T l = some vs ∧ ∀ cells r, fillV cells (evsP E m) = some r → Instr.fill pl ⟨cells⟩ vs = some ⟨r⟩
  | [], m, h => by cases h; exact ⟨[], rfl, fun cells r h => by cases h; rfl⟩
  | (i, x) :: l, m, h => by
    simp only [tidyP] at h
    split at h
    · rename_i off size y k h1 h2 h3
      cases h
      obtain ⟨vs, e1, e2⟩ := s.p h3
      refine ⟨(i, y.ev E) :: vs, by simp only [evParts, s.o h2, e1], fun cells r h => ?_⟩
      simp only [evsP, fillV] at h
      split at h
      · rename_i hc
        exact fillV_fill h1 hc.1 hc.2 (e2 _ _ h)
      · cases h
    · cases h

theorem Sees.q {T : TS} {E : Env} (s : Sees T E) {size : Nat} : ∀ {l : List (Nat × Operand)} {m : List (Nat × TO)}, tidyQ l = some m →
    ∃ vs, evParts T l = some vs ∧ ∀ cells r, fillV cells (evsQ E size m) = some r → Instr.fill (fun i => some (i * size, size)) ⟨cells⟩ vs = some ⟨r⟩
  | [], m, h => by cases h; exact ⟨[], rfl, fun cells r h => by cases h; rfl⟩
  | (i, x) :: l, m, h => by
    simp only [tidyQ] at h
    split at h
    · rename_i y k h2 h3
      cases h
      obtain ⟨vs, e1, e2⟩ := s.q h3
      refine ⟨(i, y.ev E) :: vs, by simp only [evParts, s.o h2, e1], fun cells r h => ?_⟩
      simp only [evsQ, fillV] at h
      split at h
      · rename_i hc
        exact fillV_fill rfl hc.1 hc.2 (e2 _ _ h)
      · cases h
    · cases h

theorem aEq_K (t : TypeId) (x y : Value) : aEq P t x y = aEqK (eqK P t) x y := by
  unfold aEq eqK
  cases P.underlying t with
  | none => rfl
  | some d =>
    cases d with
    | pointer e => cases x <;> first | rfl | (rename_i a; cases a <;> cases y <;> first | rfl | (rename_i b; cases b <;> rfl))
    | slice e => cases x <;> first | rfl | (rename_i a l c; cases a <;> cases y <;> first | rfl | (rename_i b m n; cases b <;> rfl))
    | bool => cases x <;> first | rfl | (cases y <;> rfl)
    | _ => rfl

theorem aBin_V (op : BinOp) (t : TypeId) (x y : Value) : aBin P op t x y = binV op (eqK P t) x y := by
  have e : aEq P t = aEqK (eqK P t) := by funext x y; exact aEq_K t x y
  unfold aBin binV
  rw [e]
  rfl

theorem aPart_V {t : TypeId} {ag : Bool} {k : Nat} (h : lay P t = some (ag, k)) (cs : List Value) (off : Nat) : aPart P t cs off = partV ag k cs off := by
  unfold aPart partV
  rw [h]
  cases ag <;> rfl

theorem aLoad_V {t : TypeId} {ag : Bool} {k : Nat} (h : lay P t = some (ag, k)) (a : Value) (g : AHeap) : aLoad P t a g = ldV ag k a g := by
  unfold aLoad ldV
  rw [h]
  cases ag <;> cases a <;> first | rfl | (rename_i a; rcases a with _ | ⟨n, off, _ | s⟩ <;> rfl)
theorem aStore_V {t : TypeId} {ag : Bool} {k : Nat} (h : lay P t = some (ag, k)) (a v : Value) (g : AHeap) : aStore P t a v g = stV k a v g := by
  unfold aStore stV
  rw [h]
  cases a <;> first | rfl | (rename_i a; rcases a with _ | ⟨n, off, _ | s⟩ <;> rfl)

/-- the block that a look goes to -/
def tBlock (E : Env) : TOp → Option Nat
  | .load _ _ x | .sliceT x _ _ | .sliceS _ x _ _ _ | .b2t x => match x.ev E with
    | .pointer (some a) | .slice (some a) _ _ => some a.block
    | _ => none
  | _ => none

theorem tidyCall_kind {c : Call} {t : TOp} (h : tidyCall P c = some t) : kindOf P (.call c) = t.kind := by
  obtain ⟨callee, args, ats⟩ := c
  unfold tidyCall at h
  simp only at h
  split at h
  · (repeat' split at h) <;> first | (cases h; done) | (cases h; simp_all [kindOf, TOp.kind])
  · simp only [Option.map_eq_some_iff] at h; obtain ⟨_, _, rfl⟩ := h; simp_all [kindOf, TOp.kind]
  · simp only [Option.map_eq_some_iff] at h; obtain ⟨_, _, rfl⟩ := h; simp_all [kindOf, TOp.kind]
  · (repeat' split at h) <;> first | (cases h; done) | (cases h; simp_all [kindOf, TOp.kind])
  · (repeat' split at h) <;> first | (cases h; done) | (cases h; simp_all [kindOf, TOp.kind])
  · (repeat' split at h) <;> first | (cases h; done) | (cases h; simp_all [kindOf, TOp.kind])
  · cases h

theorem tidyOp_kind {o : Op} {t : TOp} (h : tidyOp P o = some t) : kindOf P o = t.kind := by
  cases o <;> simp only [tidyOp] at h <;> try (cases h; done)
  case call c => exact tidyCall_kind h
  case convert s d x =>
    simp only [kindOf]
    (repeat' split at h) <;> first | (cases h; done) | (cases h; simp_all [TOp.kind])
  all_goals
    first
    | (simp only [Option.map_eq_some_iff] at h; obtain ⟨_, _, rfl⟩ := h; rfl)
    | ((repeat' split at h) <;> first | (cases h; done) | (cases h; rfl) | (simp only [Option.map_eq_some_iff] at h; obtain ⟨_, _, rfl⟩ := h; rfl))

end Go.Ab
