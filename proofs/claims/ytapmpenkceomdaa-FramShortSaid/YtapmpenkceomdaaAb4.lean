/- New blocks; append; slices. -/
import Derived.Test.YtapmpenkceomdaaAb3
namespace Go.Ab
variable {P : Program} {F : Fm} {w0 w : World} {β : Inj} {g : AHeap} {lim : Nat}

def Fr (lim : Nat) (g : AHeap) (β : Inj) : Prop := ∀ n, g.next ≤ n → n < lim → β n = none
/-- what is new lies between two numbers -/
def Gr (n n1 : Nat) (β β1 : Inj) : Prop := ∀ m, (m < n ∨ n1 ≤ m) → β1 m = β m
theorem Gr.refl (n : Nat) (β : Inj) : Gr n n β β := fun _ _ => rfl
theorem Gr.trans {n n1 n2 : Nat} {β β1 β2 : Inj} (h : Gr n n1 β β1) (h' : Gr n1 n2 β1 β2) (h1 : n ≤ n1) (h2 : n1 ≤ n2) : Gr n n2 β β2 := fun m hm => by
  rw [h' m (by omega), h m (by omega)]
theorem Fr.gr {g g1 : AHeap} {β β1 : Inj} {lim : Nat} (h : Fr lim g β) (h' : Gr g.next g1.next β β1) (h1 : g.next ≤ g1.next) : Fr lim g1 β1 := fun m hm hl => by
  rw [h' m (.inr hm)]; exact h m (by omega) hl

theorem HR.new {G : Nat → ABlk} (H : HR F w0 w G β) {n : Nat} (hβ : β n = none) {b : ABlk} (hst : b.st = 0) {w1 : World} {arr : Array Value} {ty : TypeId} {fz : Nat × Nat}
    (hnew : w1.heap[w.heap.size]? = some (.cells arr ty fz)) (hold : ∀ k, k < w.heap.size → w1.heap[k]? = w.heap[k]?) (hsz : w.heap.size < w1.heap.size) (hen : w1.os = w.os ∧ w1.output = w.output)
    {ys : List Value} (hc : LR β b.cells ys) (hy : ∃ r, arr.toList = ys ++ r) (hfz : ∀ k, k < arr.size → ¬ (fz.1 ≤ k ∧ k < fz.2)) :
    ∃ β1, β.le β1 ∧ β1 n = some ⟨w.heap.size, 0, b.cells.length, b.esz, arr.size⟩ ∧ (∀ G1 : Nat → ABlk, G1 n = b → (∀ m, m ≠ n → G1 m = G m) → HR F w0 w1 G1 β1) ∧ Gr n (n + 1) β β1 := by
  obtain ⟨r, hr⟩ := hy
  have hlen : b.cells.length ≤ arr.size := by rw [← Array.length_toList, hr, hc.1]; simp
  obtain ⟨β1, h1, h2, h3, h4⟩ := H.alloc hβ hst hnew hold hsz hen (fun i v hi => by
      obtain ⟨v', e, hv⟩ := hc.getElem? hi
      refine ⟨v', ?_, hv⟩
      rw [← Array.getElem?_toList, hr, List.getElem?_append_left (List.getElem?_eq_some_iff.1 e).1]
      exact e) hlen hfz
  exact ⟨β1, h1, h2, h4, fun m hm => h3 m (by omega)⟩

theorem push_new (w : World) (o : Obj) : ({ w with heap := w.heap.push o } : World).heap[w.heap.size]? = some o := by simp
theorem push_old (w : World) (o : Obj) : ∀ k, k < w.heap.size → ({ w with heap := w.heap.push o } : World).heap[k]? = w.heap[k]? := by
  intro k hk; simp [Array.getElem?_push, Nat.ne_of_lt hk]

/-- a new row of cells that is as long as the block -/
theorem HR.row {G : Nat → ABlk} (H : HR F w0 w G β) {n : Nat} (hβ : β n = none) {b : ABlk} (hst : b.st = 0) (ty : TypeId) {arr : Array Value} (hc : LR β b.cells arr.toList) :
    ∃ β1, β.le β1 ∧ β1 n = some ⟨w.heap.size, 0, b.cells.length, b.esz, arr.size⟩ ∧
      (∀ G1 : Nat → ABlk, G1 n = b → (∀ m, m ≠ n → G1 m = G m) → HR F w0 { w with heap := w.heap.push (.cells arr ty) } G1 β1) ∧ Gr n (n + 1) β β1 :=
  H.new hβ hst (push_new w _) (push_old w _) (by simp) ⟨rfl, rfl⟩ hc ⟨[], by simp⟩ (by intro k _; simp)

theorem repeatCells_length (z : List Value) : ∀ n, (repeatCells z n).length = n * z.length
  | 0 => by simp [repeatCells]
  | n + 1 => by simp [repeatCells, repeatCells_length z n, Nat.succ_mul, Nat.add_comm]

theorem repeatCells_range (z : Array Value) (hz : 0 < z.size) : ∀ n, ((Array.range (n * z.size)).map (fun i => z[i % z.size]!)).toList = repeatCells z.toList n := by
  intro n
  apply List.ext_getElem?
  intro i
  have hl := repeatCells_length z.toList n
  by_cases hi : i < n * z.size
  · have : ∀ n i, i < n * z.size → (repeatCells z.toList n)[i]? = z[i % z.size]? := by
      intro n
      induction n with
      | zero => intro i hi; omega
      | succ n ih =>
        intro i hi
        simp only [repeatCells]
        by_cases h : i < z.size
        · rw [List.getElem?_append_left (by simpa using h), Nat.mod_eq_of_lt h]; simp
        · rw [List.getElem?_append_right (by simp; omega)]
          simp only [Array.length_toList]
          rw [ih (i - z.size) (by rw [Nat.succ_mul] at hi; omega), Nat.mod_eq_sub_mod (by omega : i ≥ z.size)]
    rw [this n i hi]
    have hm : i % z.size < z.size := Nat.mod_lt _ hz
    simp [hi, hm]
  · rw [List.getElem?_eq_none (by simp; omega), List.getElem?_eq_none (by rw [hl]; simp; omega)]

theorem zeroOf_some {t : TypeId} {z : List Value} (h : zeroOf P t = some z) : ∃ i v, P.info? t = some i ∧ i.zero = some v ∧ v.cells.all closedCell = true ∧ z = v.cells.toList := by
  unfold zeroOf at h
  split at h
  · rename_i i hi
    split at h
    · rename_i v hv
      split at h
      · cases h; exact ⟨i, v, hi, hv, ‹_›, rfl⟩
      · cases h
    · cases h
  · cases h
theorem run_zero {t : TypeId} {i : TypeInfo} {v : Value} (h : P.info? t = some i) (hz : i.zero = some v) (w : World) : (zeroValue t).run P w = .ok v w := by
  simp [zeroValue, run_info h, hz]
theorem zeroOf_LR {t : TypeId} {z : List Value} (h : zeroOf P t = some z) : LR β z z := by
  obtain ⟨i, v, _, _, hc, rfl⟩ := zeroOf_some h
  exact .closed (by simpa using hc)

theorem elemOf_some {t e : TypeId} {size bytes : Nat} (h : elemOf P t = some (e, size, bytes)) : ∃ i, P.underlying t = some (.slice e) ∧ P.info? e = some i ∧ size = i.size ∧ bytes = i.bytes := by
  unfold elemOf at h
  split at h
  · rename_i e' hu
    split at h
    · rename_i i hi
      cases h; exact ⟨i, hu, hi, rfl, rfl⟩
    · cases h
  · cases h

theorem LR.set {xs ys : List Value} (h : LR β xs ys) {v u : Value} (hv : VR β v u) (k : Nat) : LR β (xs.set k v) (ys.set k u) :=
  ⟨by simp [h.1], fun i h1 h2 => by
    simp only [List.getElem_set]
    by_cases e : k = i
    · simp only [e, if_true]; exact hv
    · simp only [e, if_false]; exact h.2 i _ _⟩

theorem setFold {off : Nat} : ∀ (vs us : List Value) (k : Nat) (xs ys : Array Value), LR β vs us → LR β xs.toList ys.toList →
    LR β ((vs.zipIdx k).foldl (fun cs (c, j) => cs.setIfInBounds (off + j) c) xs).toList ((us.zipIdx k).foldl (fun cs (c, j) => cs.setIfInBounds (off + j) c) ys).toList
  | [], us, k, xs, ys, h, hx => by have := h.of_nil; subst this; exact hx
  | v :: vs, us, k, xs, ys, h, hx => by
    obtain ⟨u, us, rfl, hv, hs⟩ := h.of_cons
    simp only [List.zipIdx_cons, List.foldl_cons]
    refine setFold vs us (k + 1) _ _ hs ?_
    rw [Array.toList_setIfInBounds, Array.toList_setIfInBounds]
    exact hx.set hv _

theorem setFold_size {off : Nat} : ∀ (q : List (Value × Nat)) (c : Array Value), (q.foldl (fun cs (c, j) => cs.setIfInBounds (off + j) c) c).size = c.size
  | [], c => rfl
  | x :: q, c => by simp only [List.foldl_cons]; rw [setFold_size q]; simp

theorem fill_size {pl : Nat → Option (Nat × Nat)} : ∀ {ps : List (Nat × Value)} {c r : Array Value}, Instr.fill pl c ps = some r → r.size = c.size
  | [], c, r, h => by simp only [Instr.fill, Option.some.injEq] at h; rw [h]
  | (i, v) :: ps, c, r, h => by
    simp only [Instr.fill] at h
    split at h
    · cases h
    · split at h
      · cases h
      · rw [fill_size h, ← Array.foldl_toList]
        exact setFold_size _ _

theorem fillR {place : Nat → Option (Nat × Nat)} : ∀ {ps qs : List (Nat × Value)} {xs ys r : Array Value}, PR β ps qs → LR β xs.toList ys.toList → Instr.fill place xs ps = some r →
    ∃ r', Instr.fill place ys qs = some r' ∧ LR β r.toList r'.toList
  | [], [], xs, ys, r, _, hx, h => by simp only [Instr.fill, Option.some.injEq] at h; subst h; exact ⟨ys, rfl, hx⟩
  | (i, v) :: ps, (j, u) :: qs, xs, ys, r, hp, hx, h => by
    obtain ⟨rfl, hv, hp⟩ := hp
    simp only [Instr.fill] at h ⊢
    cases hpl : place i with
    | none => simp [hpl] at h
    | some p =>
      obtain ⟨off, size⟩ := p
      simp only [hpl] at h ⊢
      have hc := hv.cells
      have hs : v.cells.size = u.cells.size := by simpa using hc.1
      have hs' : xs.size = ys.size := by simpa using hx.1
      rw [← hs, ← hs']
      split at h
      · cases h
      · rename_i hcond
        rw [if_neg hcond]
        refine fillR hp ?_ h
        have := setFold (off := off) v.cells.toList u.cells.toList 0 xs ys hc hx
        rw [← Array.foldl_toList, ← Array.foldl_toList, Array.toList_zipIdx, Array.toList_zipIdx]
        exact this
  | [], _ :: _, _, _, _, hp, _, _ => hp.elim
  | _ :: _, [], _, _, _, hp, _, _ => hp.elim

theorem run_stringToBytes (w : World) (e : TypeId) (s : ByteArray) : ∃ arr : Array Value, ∃ r : List Value,
    (Conv.stringToBytes e s).run P w = .ok (.slice (some ⟨w.heap.size, 0, none⟩) s.size arr.size) { w with drawn := w.drawn + 1, heap := w.heap.push (.cells arr e (arr.size, arr.size + 1)) } ∧
    arr.toList = (s.data.toList.map fun b => Value.int .u8 b.toNat) ++ r ∧ s.size ≤ arr.size := by
  generalize hcap : Question.cut (.appendCap s.size 0 e) (w.tape w.drawn (.appendCap s.size 0 e)) = cap
  have hle : s.size ≤ cap := by rw [← hcap]; simp only [Question.cut]; omega
  let arr : Array Value := (s.data.map fun b => Value.int .u8 b.toNat) ++ Array.replicate (cap - s.size) (.int .u8 0)
  have hsz : arr.size = cap := by
    simp only [arr, Array.size_append, Array.size_map, Array.size_replicate]
    have : s.data.size = s.size := rfl
    omega
  refine ⟨arr, List.replicate (cap - s.size) (.int .u8 0), ?_, by simp [arr], by omega⟩
  have hsh : ({ w with drawn := w.drawn + 1, heap := w.heap.push (.cells arr e) } : World).shape? w.heap.size = some (e, arr.size) := by
    simp [World.shape?]
  have hfz : ({ w with drawn := w.drawn + 1, heap := w.heap.push (.cells arr e) } : World).freeze ⟨w.heap.size, arr.size, none⟩ 1 =
      { w with drawn := w.drawn + 1, heap := w.heap.push (.cells arr e (arr.size, arr.size + 1)) } := by
    simp only [World.freeze]
    rw [if_neg (by omega)]
    simp only [World.mk.injEq, and_true]
    apply Array.ext_getElem?
    intro k
    rw [Array.getElem?_modify]
    by_cases hk : w.heap.size = k
    · subst hk; simp
    · rw [if_neg hk]; simp [Array.getElem?_push, Ne.symm hk]
  have hf : (Question.appendCap s.size 0 e).forced = false := rfl
  simp only [Conv.stringToBytes, Sem.run_bind, run_choose, hf, Bool.false_eq_true, if_false, Result.andThen_ok, hcap, newRow, run_newObj, Sem.run_pure, markStringish, run_shape]
  rw [hsh]
  simp only [run_freeze, Result.andThen_ok]
  rw [hfz, hsz]

theorem run_convert_bytes {s d e : TypeId} {sd : TypeDesc} (hs : P.underlying s = some sd) (hd : P.underlying d = some (.slice e)) (he : P.underlying e = some (.int .u8)) (st : ByteArray) (w : World) :
    (convert s d (.string st)).run P w = (Conv.stringToBytes e st).run P w := by
  unfold convert
  rw [Sem.run_bind, run_under hs, Result.andThen_ok, Sem.run_bind, run_under hd, Result.andThen_ok]
  cases sd <;> (simp only; rw [Sem.run_bind, run_under he, Result.andThen_ok])

/-- operations of kind 2 -/
theorem simMake {G : Nat → ABlk} (H : HR F w0 w G β) {n : Nat} (hf : β n = none) {T : TS} {a : Act} (hT : TR β T a.tmps) {o : Oper} {v : Value} {b : ABlk}
    (h : aMake P T n o.op = some (v, b)) :
    ∃ v' w1 β1, (execOp a.eval o).run P w = .ok (.value v') w1 ∧ β.le β1 ∧ VR β1 v v' ∧ (∀ G1 : Nat → ABlk, G1 n = b → (∀ m, m ≠ n → G1 m = G m) → HR F w0 w1 G1 β1) ∧ Gr n (n + 1) β β1 := by
  unfold aMake at h
  split at h
  · -- alloc
    rename_i t ho
    split at h
    · rename_i z i hz hi
      cases h
      obtain ⟨i', u, hi', hzu, hc, rfl⟩ := zeroOf_some hz
      rw [hi] at hi'; cases hi'
      obtain ⟨β1, h1, h2, h3, h4⟩ := H.row hf (b := ⟨u.cells.toList, i.size, 0, none⟩) rfl t (arr := u.cells) (LR.closed (by simpa using hc))
      exact ⟨.pointer (some ⟨w.heap.size, 0, none⟩), _, β1, by simp [execOp, ho, Instr.alloc, run_zero hi hzu, newVar, newRow], h1, .ptr n 0 _ h2, h3, h4⟩
    · cases h
  · -- box
    rename_i t x ho
    split at h
    · rename_i v0 i hv hi
      cases h
      have hx := hT.ev hv
      obtain ⟨β1, h1, h2, h3, h4⟩ := H.row hf (b := ⟨v0.cells.toList, i.size, 0, none⟩) rfl t (arr := (a.eval x).cells) hx.cells
      exact ⟨.pointer (some ⟨w.heap.size, 0, none⟩), _, β1, by simp [execOp, ho, Instr.box, newVar, newRow], h1, .ptr n 0 _ h2, h3, h4⟩
    · cases h
  · -- buildSlice
    rename_i t len parts ho
    split at h
    · rename_i l hl
      have hp := hT.evParts hl
      unfold aBuildSlice at h
      split at h
      · cases h
      · rename_i e size bytes he
        obtain ⟨i, hu, hi, rfl, rfl⟩ := elemOf_some he
        split at h
        · cases h
        · rename_i z hz
          obtain ⟨i', u, hi', hzu, hc, rfl⟩ := zeroOf_some hz
          rw [hi] at hi'; cases hi'
          split at h
          · rename_i hcond
            obtain ⟨hz1, hz2, hz3⟩ := hcond
            split at h
            · rename_i cells hfill
              cases h
              have hz1' : u.cells.size = i.size := by simpa using hz1
              have hrep : LR β (repeatCells u.cells.toList len) ((Array.range (len * i.size)).map (fun k => u.cells[k % u.cells.size]!)).toList := by
                rw [← hz1', repeatCells_range u.cells (by omega)]
                refine .closed ?_
                have : ∀ n, (repeatCells u.cells.toList n).all closedCell = true := by
                  intro n
                  induction n with
                  | zero => rfl
                  | succ n ih => simp only [repeatCells, List.all_append, ih, Bool.and_true]; simpa using hc
                exact this len
              obtain ⟨r', hr1, hr2⟩ := fillR hp hrep hfill
              have hlen : cells.size = len * i.size := by
                rw [fill_size hfill]
                simp [repeatCells_length, hz1']
              obtain ⟨β1, h1, h2, h3, h4⟩ := H.row hf (b := ⟨cells.toList, i.size, 0, none⟩) rfl e (arr := r') hr2
              refine ⟨.slice (some ⟨w.heap.size, 0, none⟩) len len, _, β1, ?_, h1, ?_, h3, h4⟩
              · have hne : ¬ (len * i.size > 2 ^ 24) := by omega
                have e2 : (List.map (fun x => (x.1, a.eval x.2)) parts.toList) = (List.map (fun (x : Nat × Operand) => (x.fst, a.eval x.snd)) parts.toList) := rfl
                by_cases h0 : len = 0
                · subst h0
                  simp only [execOp, ho, Instr.buildSlice, Sem.run_bind, run_under hu, Result.andThen_ok, run_size hi, Nat.zero_mul]
                  have hz0 : ∀ f : Nat → Value, Array.map f (Array.range 0) = #[] := fun f => by simp
                  simp only [Nat.zero_mul, hz0] at hr1
                  simp [hz0, hr1, newRow]
                · have hpos : ¬ (len * i.size = 0) := by
                    intro h; rcases Nat.mul_eq_zero.1 h with h | h <;> omega
                  simp only [execOp, ho, Instr.buildSlice, Sem.run_bind, run_under hu, Result.andThen_ok, run_size hi, if_neg hne, if_neg hpos, run_zero hi hzu, Sem.run_pure]
                  simp only [Array.toList_map] at *
                  simp [hr1, newRow]
              · refine .sl n 0 _ len len len h2 (Nat.le_refl _) ?_ (.inl rfl)
                have := hr2.1
                simp only [Array.length_toList] at this
                simp only
                omega
            · cases h
          · cases h
    · cases h
  · -- makeSlice
    rename_i t l c ho
    split at h
    · rename_i lv cv hl hc
      unfold aMakeSlice at h
      split at h
      · rename_i e size bytes l1 c1 he
        have hl' := (hT.ev hl).int_inv
        have hc' := (hT.ev hc).int_inv
        obtain ⟨i, hu, hi, rfl, rfl⟩ := elemOf_some he
        split at h
        · cases h
        · rename_i z hz
          obtain ⟨i', u, hi', hzu, hcl, rfl⟩ := zeroOf_some hz
          rw [hi] at hi'; cases hi'
          split at h
          · rename_i hcond
            obtain ⟨hz1, hl0, hlc, hb1, hb2, hz3⟩ := hcond
            cases h
            have hz1' : u.cells.size = i.size := by simpa using hz1
            have hrep : LR β (repeatCells u.cells.toList c1.toNat) ((Array.range (c1.toNat * i.size)).map (fun k => u.cells[k % u.cells.size]!)).toList := by
              rw [← hz1', repeatCells_range u.cells (by omega)]
              refine .closed ?_
              have : ∀ n, (repeatCells u.cells.toList n).all closedCell = true := by
                intro n
                induction n with
                | zero => rfl
                | succ n ih => simp only [repeatCells, List.all_append, ih, Bool.and_true]; simpa using hcl
              exact this _
            obtain ⟨β1, h1, h2, h3, h4⟩ := H.row hf (b := ⟨repeatCells u.cells.toList c1.toNat, i.size, 0, none⟩) rfl e hrep
            have w1 : IntKind.i64.wrap l1 = l1 := by simp [IntKind.wrap, IntKind.bits, IntKind.signed]; omega
            have w2 : IntKind.i64.wrap c1 = c1 := by simp [IntKind.wrap, IntKind.bits, IntKind.signed]; omega
            refine ⟨.slice (some ⟨w.heap.size, 0, none⟩) l1.toNat c1.toNat, _, β1, ?_, h1, ?_, h3, h4⟩
            · have hnt : ¬ ((decide (c1 < 0) || decide ((i.bytes : Int) * c1 > 2 ^ 48)) = true ∨ l1 < 0 ∨ l1 > c1) := by
                simp only [Bool.or_eq_true, decide_eq_true_eq]; omega
              by_cases h0 : c1.toNat * i.size = 0
              · simp [execOp, ho, hl', hc', Instr.makeSlice, run_under hu, run_info hi, run_size hi, asInt, asIntOf, w1, w2, h0, newRow]
                rw [if_neg (by simp only [Bool.or_eq_true, decide_eq_true_eq] at hnt; omega)]
                have hz0 : ∀ f : Nat → Value, Array.map f (Array.range 0) = #[] := fun f => by simp
                simp [hz0]
              · simp [execOp, ho, hl', hc', Instr.makeSlice, run_under hu, run_info hi, run_size hi, asInt, asIntOf, w1, w2, h0, newRow, run_zero hi hzu]
                intro hh; exfalso; omega
            · refine .sl n 0 _ l1.toNat c1.toNat c1.toNat h2 (Nat.le_refl _) ?_ (.inl rfl)
              simp
          · cases h
      · cases h
    · cases h
  · -- a string's bytes
    rename_i s d x ho
    split at h
    · rename_i sd e st hs hd hx
      split at h
      · rename_i hu8
        cases h
        have hx' := (hT.ev hx).string_inv
        obtain ⟨arr, r, hrun, harr, hle⟩ := run_stringToBytes (P := P) w e st
        have hcells : LR β (st.data.toList.map fun b => Value.int .u8 b.toNat) (st.data.toList.map fun b => Value.int .u8 b.toNat) := .closed (by
          rw [List.all_map]; exact List.all_eq_true.2 fun x _ => rfl)
        obtain ⟨β1, h1, h2, h3, h4⟩ := H.new hf (b := ⟨st.data.toList.map fun b => .int .u8 b.toNat, 1, 0, none⟩) rfl
          (w1 := { w with drawn := w.drawn + 1, heap := w.heap.push (.cells arr e (arr.size, arr.size + 1)) }) (arr := arr) (ty := e) (fz := (arr.size, arr.size + 1))
          (by simp) (by intro k hk; simp [Array.getElem?_push, Nat.ne_of_lt hk]) (by simp) ⟨rfl, rfl⟩ hcells ⟨r, harr⟩ (by intro k hk; simp; omega)
        refine ⟨.slice (some ⟨w.heap.size, 0, none⟩) st.size arr.size, _, β1, ?_, h1, ?_, h3, h4⟩
        · have hx2 : a.eval x = .string st := hx'
          unfold execOp
          rw [ho]
          show (do pure (Next.value (← convert s d (a.eval x))) : Sem Next).run P w = _
          rw [hx2, Sem.run_bind, run_convert_bytes hs hd hu8, hrun]
          rfl
        · refine .sl n 0 _ st.size st.size arr.size h2 hle (by simp) (.inr ?_)
          show 0 + st.size * 1 = (st.data.toList.map fun b => Value.int .u8 b.toNat).length
          rw [List.length_map, Array.length_toList]
          have : st.data.size = st.size := rfl
          omega
      · cases h
    · cases h
  · cases h

end Go.Ab
