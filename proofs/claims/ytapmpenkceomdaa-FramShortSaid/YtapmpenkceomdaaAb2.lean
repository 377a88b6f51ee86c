/- The abstract heap and the model's memory: how the two stand to each other, and what keeps it so. -/
import Derived.Test.YtapmpenkceomdaaAb1
import Derived.Laws.IdiomCopy
namespace Go.Ab

structure BI where
  cb : Nat
  co : Nat
  size : Nat
  esz : Nat
  room : Nat

abbrev Inj := Nat → Option BI
def Inj.le (β β' : Inj) : Prop := ∀ n bi, β n = some bi → β' n = some bi
theorem Inj.le_refl (β : Inj) : β.le β := fun _ _ h => h
theorem Inj.le_trans {a b c : Inj} (h : a.le b) (h' : b.le c) : a.le c := fun n bi x => h' n bi (h n bi x)

inductive VR (β : Inj) : Value → Value → Prop
  | closed (v : Value) (h : closedCell v = true) : VR β v v
  | ptr (n off : Nat) (bi : BI) (h : β n = some bi) : VR β (.pointer (some ⟨n, off, none⟩)) (.pointer (some ⟨bi.cb, bi.co + off, none⟩))
  | sl (n off : Nat) (bi : BI) (len cap cap' : Nat) (h : β n = some bi) (h1 : cap ≤ cap') (h2 : bi.co + off + cap' * bi.esz ≤ bi.room)
      (h3 : cap' = cap ∨ off + cap * bi.esz = bi.size) : VR β (.slice (some ⟨n, off, none⟩) len cap) (.slice (some ⟨bi.cb, bi.co + off, none⟩) len cap')
  | slz (n off : Nat) (a : Addr) : VR β (.slice (some ⟨n, off, none⟩) 0 0) (.slice (some a) 0 0)
  | func (fn : Fn) (xs ys us vs : List Value) (hl : xs.length = ys.length) (h : ∀ i (h1 : i < xs.length) (h2 : i < ys.length), VR β xs[i] ys[i])
      (hl' : us.length = vs.length) (h' : ∀ i (h1 : i < us.length) (h2 : i < vs.length), VR β us[i] vs[i]) : VR β (.func fn ⟨xs⟩ ⟨us⟩) (.func fn ⟨ys⟩ ⟨vs⟩)
  | agg (xs ys : List Value) (hl : xs.length = ys.length) (h : ∀ i (h1 : i < xs.length) (h2 : i < ys.length), VR β xs[i] ys[i]) : VR β (.agg ⟨xs⟩) (.agg ⟨ys⟩)
  | tuple (xs ys : List Value) (hl : xs.length = ys.length) (h : ∀ i (h1 : i < xs.length) (h2 : i < ys.length), VR β xs[i] ys[i]) : VR β (.tuple ⟨xs⟩) (.tuple ⟨ys⟩)

theorem VR.mono {β β' : Inj} (hb : β.le β') {v v' : Value} (h : VR β v v') : VR β' v v' := by
  induction h with
  | closed v h => exact .closed v h
  | ptr n off bi h => exact .ptr n off bi (hb _ _ h)
  | sl n off bi len cap cap' h h1 h2 h3 => exact .sl n off bi len cap cap' (hb _ _ h) h1 h2 h3
  | slz n off a => exact .slz n off a
  | func fn xs ys us vs hl h hl' h' ih ih' => exact .func fn xs ys us vs hl ih hl' ih'
  | agg xs ys hl h ih => exact .agg xs ys hl ih
  | tuple xs ys hl h ih => exact .tuple xs ys hl ih

theorem VR.undef (β : Inj) : VR β undef undef := .tuple [] [] rfl (fun i h => by simp at h)

/-- lists of values, one by one -/
def LR (β : Inj) (xs ys : List Value) : Prop := xs.length = ys.length ∧ ∀ i (h1 : i < xs.length) (h2 : i < ys.length), VR β xs[i] ys[i]

theorem LR.nil (β : Inj) : LR β [] [] := ⟨rfl, fun i h => by simp at h⟩
theorem LR.cons {β : Inj} {x y : Value} {xs ys : List Value} (h : VR β x y) (hs : LR β xs ys) : LR β (x :: xs) (y :: ys) :=
  ⟨by simp [hs.1], fun i h1 h2 => by
    cases i with
    | zero => exact h
    | succ i => exact hs.2 i (by simpa using h1) (by simpa using h2)⟩
theorem LR.of_cons {β : Inj} {x : Value} {xs ys : List Value} (h : LR β (x :: xs) ys) : ∃ y l, ys = y :: l ∧ VR β x y ∧ LR β xs l := by
  obtain ⟨hl, h⟩ := h
  cases ys with
  | nil => simp at hl
  | cons y l =>
    exact ⟨y, l, rfl, h 0 (by simp) (by simp), by simpa using hl, fun i h1 h2 => h (i + 1) (by simpa using h1) (by simpa using h2)⟩
theorem LR.of_nil {β : Inj} {ys : List Value} (h : LR β [] ys) : ys = [] := by
  have := h.1
  cases ys <;> simp_all
theorem LR.mono {β β' : Inj} (hb : β.le β') {xs ys : List Value} (h : LR β xs ys) : LR β' xs ys := ⟨h.1, fun i h1 h2 => (h.2 i h1 h2).mono hb⟩
theorem LR.append {β : Inj} {xs ys us vs : List Value} (h : LR β xs ys) (h' : LR β us vs) : LR β (xs ++ us) (ys ++ vs) := by
  refine ⟨by simp [h.1, h'.1], fun i h1 h2 => ?_⟩
  by_cases e : i < xs.length
  · rw [List.getElem_append_left e, List.getElem_append_left (h.1 ▸ e)]
    exact h.2 i e _
  · have e' : ¬ i < ys.length := h.1 ▸ e
    rw [List.getElem_append_right (by omega), List.getElem_append_right (by omega)]
    have hl := h.1
    simp only [← hl]
    exact h'.2 _ _ _
theorem LR.getElem? {β : Inj} {xs ys : List Value} (h : LR β xs ys) {i : Nat} {v : Value} (hi : xs[i]? = some v) : ∃ v', ys[i]? = some v' ∧ VR β v v' := by
  obtain ⟨h1, rfl⟩ := List.getElem?_eq_some_iff.1 hi
  have h2 : i < ys.length := h.1 ▸ h1
  exact ⟨ys[i], List.getElem?_eq_getElem h2, h.2 i h1 h2⟩
theorem LR.of_getElem? {β : Inj} {xs ys : List Value} (hl : xs.length = ys.length) (h : ∀ (i : Nat) (v : Value), xs[i]? = some v → ∃ v' : Value, ys[i]? = some v' ∧ VR β v v') : LR β xs ys :=
  ⟨hl, fun i h1 h2 => by
    obtain ⟨v', e, hv⟩ := h i _ (List.getElem?_eq_getElem h1)
    rw [List.getElem?_eq_getElem h2] at e
    cases e; exact hv⟩
theorem LR.closed {β : Inj} : ∀ {xs : List Value}, xs.all closedCell = true → LR β xs xs
  | [], _ => .nil β
  | x :: xs, h => by
    simp only [List.all_cons, Bool.and_eq_true] at h
    exact .cons (.closed x h.1) (LR.closed h.2)
theorem LR.agg {β : Inj} {xs ys : List Value} (h : LR β xs ys) : VR β (.agg ⟨xs⟩) (.agg ⟨ys⟩) := .agg xs ys h.1 h.2
theorem LR.tuple {β : Inj} {xs ys : List Value} (h : LR β xs ys) : VR β (.tuple ⟨xs⟩) (.tuple ⟨ys⟩) := .tuple xs ys h.1 h.2
theorem LR.take {β : Inj} {xs ys : List Value} (h : LR β xs ys) (n : Nat) : LR β (xs.take n) (ys.take n) :=
  ⟨by simp [h.1], fun i h1 h2 => by simp only [List.getElem_take]; exact h.2 i _ _⟩
theorem LR.drop {β : Inj} {xs ys : List Value} (h : LR β xs ys) (n : Nat) : LR β (xs.drop n) (ys.drop n) :=
  ⟨by simp [h.1], fun i h1 h2 => by simp only [List.getElem_drop]; exact h.2 _ _ _⟩

theorem VR.agg_inv {β : Inj} {cs : Array Value} {v' : Value} (h : VR β (.agg cs) v') : ∃ ds : List Value, v' = .agg ⟨ds⟩ ∧ LR β cs.toList ds := by
  cases h with
  | closed _ h => simp [closedCell] at h
  | agg xs ys hl h => exact ⟨ys, rfl, hl, h⟩
theorem VR.tuple_inv {β : Inj} {cs : Array Value} {v' : Value} (h : VR β (.tuple cs) v') : ∃ ds : List Value, v' = .tuple ⟨ds⟩ ∧ LR β cs.toList ds := by
  cases h with
  | closed _ h => simp [closedCell] at h
  | tuple xs ys hl h => exact ⟨ys, rfl, hl, h⟩
theorem VR.int_inv {β : Inj} {k : IntKind} {n : Int} {v' : Value} (h : VR β (.int k n) v') : v' = .int k n := by cases h; rfl
theorem VR.bool_inv {β : Inj} {b : Bool} {v' : Value} (h : VR β (.bool b) v') : v' = .bool b := by cases h; rfl
theorem VR.string_inv {β : Inj} {s : ByteArray} {v' : Value} (h : VR β (.string s) v') : v' = .string s := by cases h; rfl
theorem VR.pnil_inv {β : Inj} {v' : Value} (h : VR β (.pointer none) v') : v' = .pointer none := by cases h; rfl
theorem VR.ptr_inv {β : Inj} {a : Addr} {v' : Value} (h : VR β (.pointer (some a)) v') :
    ∃ bi, β a.block = some bi ∧ a.spot = none ∧ v' = .pointer (some ⟨bi.cb, bi.co + a.off, none⟩) := by
  cases h with
  | closed _ h => simp [closedCell] at h
  | ptr n off bi h => exact ⟨bi, h, rfl, rfl⟩
theorem VR.snil_inv {β : Inj} {l c : Nat} {v' : Value} (h : VR β (.slice none l c) v') : l = 0 ∧ c = 0 ∧ v' = .slice none 0 0 := by
  cases h with
  | closed _ h =>
    unfold closedCell at h
    split at h <;> simp_all
theorem VR.sl_inv {β : Inj} {a : Addr} {l c : Nat} {v' : Value} (h : VR β (.slice (some a) l c) v') : a.spot = none ∧
    ((l = 0 ∧ c = 0 ∧ ∃ a', v' = .slice (some a') 0 0) ∨
     ∃ bi c', β a.block = some bi ∧ c ≤ c' ∧ bi.co + a.off + c' * bi.esz ≤ bi.room ∧ (c' = c ∨ a.off + c * bi.esz = bi.size) ∧ v' = .slice (some ⟨bi.cb, bi.co + a.off, none⟩) l c') := by
  cases h with
  | closed _ h => simp [closedCell] at h
  | sl n off bi len cap cap' h h1 h2 h3 => exact ⟨rfl, .inr ⟨bi, cap', h, h1, h2, h3, rfl⟩⟩
  | slz n off a => exact ⟨rfl, .inl ⟨rfl, rfl, a, rfl⟩⟩
theorem VR.func_inv {β : Inj} {fn : Fn} {a c : Array Value} {v' : Value} (h : VR β (.func fn a c) v') :
    ∃ a' c' : List Value, v' = .func fn ⟨a'⟩ ⟨c'⟩ ∧ LR β a.toList a' ∧ LR β c.toList c' := by
  cases h with
  | closed _ h => simp [closedCell] at h
  | func fn xs ys us vs hl h hl' h' => exact ⟨ys, vs, rfl, ⟨hl, h⟩, ⟨hl', h'⟩⟩

theorem VR.isCell {β : Inj} {v v' : Value} (h : VR β v v') : isCell v = v'.oneCell' := by
  cases h <;> rfl
theorem VR.cells {β : Inj} {v v' : Value} (h : VR β v v') : LR β v.cells.toList v'.cells.toList := by
  cases h with
  | agg xs ys hl h => exact ⟨hl, h⟩
  | closed v h =>
    have : v.cells = #[v] := by cases v <;> first | rfl | simp [closedCell] at h
    rw [this]; exact .cons (.closed v h) (.nil β)
  | ptr n off bi h => exact .cons (.ptr n off bi h) (.nil β)
  | sl n off bi len cap cap' h h1 h2 h3 => exact .cons (.sl n off bi len cap cap' h h1 h2 h3) (.nil β)
  | slz n off a => exact .cons (.slz n off a) (.nil β)
  | func fn xs ys us vs hl h hl' h' => exact .cons (.func fn xs ys us vs hl h hl' h') (.nil β)
  | tuple xs ys hl h => exact .cons (.tuple xs ys hl h) (.nil β)

/-! The heap -/
structure BR (β : Inj) (w : World) (b : ABlk) (bi : BI) (arr : Array Value) (ty : TypeId) (fz : Nat × Nat) : Prop where
  here : w.heap[bi.cb]? = some (.cells arr ty fz)
  size : bi.size = b.cells.length
  esz : bi.esz = b.esz
  room : bi.room = arr.size
  fits : bi.co + bi.size ≤ bi.room
  cell : ∀ i v, b.cells[i]? = some v → ∃ v', arr[bi.co + i]? = some v' ∧ VR β v v'
  free : b.st = 0 → ∀ k, k < arr.size → ¬ (fz.1 ≤ k ∧ k < fz.2)

/-- what is not touched: blocks of the model's memory; and what the abstract heap had there -/
structure Fm where
  p : Nat → Prop
  r : Nat → ABlk

structure HR (F : Fm) (w0 w : World) (g : Nat → ABlk) (β : Inj) : Prop where
  blk : ∀ n, (g n).st < 2 → ∃ bi arr ty fz, β n = some bi ∧ BR β w (g n) bi arr ty fz
  sep : ∀ n m bn bm, n ≠ m → (g n).st = 0 → (g m).st = 0 → β n = some bn → β m = some bm → bn.cb ≠ bm.cb
  shr : ∀ n m bn bm, (g n).st = 0 → (g m).st = 1 → β n = some bn → β m = some bm → bn.cb = bm.cb → (g n).prev = some m
  frF : ∀ n bi, (g n).st = 0 → β n = some bi → ¬ F.p bi.cb
  frC : ∀ n bi, (g n).st = 1 → β n = some bi → F.p bi.cb → g n = F.r n
  keep : ∀ k, F.p k → w.heap[k]? = w0.heap[k]?
  old : ∀ k, F.p k → k < w.heap.size
  env : w.os = w0.os ∧ w.output = w0.output

theorem setCells_env (b : Nat) : ∀ (vs : List Value) (o : Nat) (w : World), (w.setCells b o vs).os = w.os ∧ (w.setCells b o vs).output = w.output
  | [], _, _ => ⟨rfl, rfl⟩
  | _ :: vs, _, _ => setCells_env b vs _ _

theorem cell?_mk {w : World} {cb off : Nat} {arr : Array Value} {ty : TypeId} {fz : Nat × Nat} (h : w.heap[cb]? = some (.cells arr ty fz)) :
    w.cell? ⟨cb, off, none⟩ = arr[off]? := by simp [World.cell?, h]
theorem frozen?_mk {w : World} {cb off : Nat} {arr : Array Value} {ty : TypeId} {fz : Nat × Nat} (h : w.heap[cb]? = some (.cells arr ty fz)) :
    w.frozen? ⟨cb, off, none⟩ = (decide (fz.1 ≤ off) && decide (off < fz.2)) := by simp [World.frozen?, h]

section
variable {F : Fm} {w0 w : World} {g : Nat → ABlk} {β : Inj}

theorem HR.cell (H : HR F w0 w g β) {n off : Nat} {bi : BI} (hb : β n = some bi) (hs : (g n).st < 2) {v : Value} (hc : (g n).cells[off]? = some v) :
    ∃ v', w.cell? ⟨bi.cb, bi.co + off, none⟩ = some v' ∧ VR β v v' := by
  obtain ⟨bi', arr, ty, fz, hb', B⟩ := H.blk n hs
  rw [hb] at hb'; cases hb'
  obtain ⟨v', h1, h2⟩ := B.cell off v hc
  exact ⟨v', by rw [cell?_mk B.here]; exact h1, h2⟩

/-- a range of cells, as it lies in memory -/
theorem HR.range (H : HR F w0 w g β) {n off k : Nat} {bi : BI} (hb : β n = some bi) (hs : (g n).st < 2) (hk : off + k ≤ (g n).cells.length) :
    ∃ ys : List Value, LR β (((g n).cells.drop off).take k) ys ∧ ys.length = k ∧ ∀ j v, ys[j]? = some v → w.cell? ⟨bi.cb, bi.co + off + j, none⟩ = some v := by
  have key : ∀ j (hj : j < k), ∃ v', w.cell? ⟨bi.cb, bi.co + (off + j), none⟩ = some v' ∧ VR β ((g n).cells[off + j]'(by omega)) v' :=
    fun j hj => H.cell hb hs (List.getElem?_eq_getElem (by omega))
  refine ⟨(List.range k).map fun j => (w.cell? ⟨bi.cb, bi.co + (off + j), none⟩).getD undef, ⟨by simp; omega, fun i h1 h2 => ?_⟩, by simp, fun j v hj => ?_⟩
  · have hi : i < k := by simpa using h2
    obtain ⟨v', e, hv⟩ := key i hi
    simp only [List.getElem_map, List.getElem_range, e, Option.getD_some, List.getElem_take, List.getElem_drop]
    exact hv
  · obtain ⟨h1, e⟩ := List.getElem?_eq_some_iff.1 hj
    have hi : j < k := by simpa using h1
    obtain ⟨v', e', hv⟩ := key j hi
    simp only [List.getElem_map, List.getElem_range, e', Option.getD_some] at e
    rw [show bi.co + off + j = bi.co + (off + j) by omega, e', e]

theorem setCells_heap (b : Nat) : ∀ (vs : List Value) (o : Nat) (w : World) (arr : Array Value) (ty : TypeId) (fz : Nat × Nat), w.heap[b]? = some (.cells arr ty fz) → o + vs.length ≤ arr.size →
    ∃ arr' : Array Value, (w.setCells b o vs).heap[b]? = some (.cells arr' ty fz) ∧ arr'.size = arr.size ∧
      (∀ k, arr'[k]? = if o ≤ k ∧ k < o + vs.length then vs[k - o]? else arr[k]?) ∧ (∀ k, k ≠ b → (w.setCells b o vs).heap[k]? = w.heap[k]?) ∧
      (w.setCells b o vs).heap.size = w.heap.size
  | [], o, w, arr, ty, fz, h, _ => ⟨arr, h, rfl, fun k => by rw [if_neg (by simp only [List.length_nil]; omega)], fun _ _ => rfl, rfl⟩
  | v :: vs, o, w, arr, ty, fz, h, hl => by
    have hl' : o + (vs.length + 1) ≤ arr.size := by simpa using hl
    have h1 : (w.setCell ⟨b, o, none⟩ v).heap[b]? = some (.cells (arr.setIfInBounds o v) ty fz) := by
      simp [World.setCell, Array.getElem?_modify, h]
    obtain ⟨arr', a1, a2, a3, a4, a5⟩ := setCells_heap b vs (o + 1) (w.setCell ⟨b, o, none⟩ v) _ ty fz h1 (by simp; omega)
    refine ⟨arr', a1, by simpa using a2, fun k => ?_, fun k hk => ?_, ?_⟩
    · rw [a3 k]
      by_cases e : k = o
      · subst e
        rw [if_neg (by omega), if_pos (by simp)]
        simp [show k < arr.size by omega]
      · by_cases e1 : o + 1 ≤ k ∧ k < o + 1 + vs.length
        · rw [if_pos e1, if_pos (by simp; omega)]
          rw [show k - o = (k - (o + 1)) + 1 by omega]; simp
        · rw [if_neg e1, if_neg (by simp; omega)]
          simp [Ne.symm e]
    · show ((w.setCell ⟨b, o, none⟩ v).setCells b (o + 1) vs).heap[k]? = _
      rw [a4 k hk]
      simp [World.setCell, Array.getElem?_modify, Ne.symm hk]
    · show ((w.setCell ⟨b, o, none⟩ v).setCells b (o + 1) vs).heap.size = _
      rw [a5]; simp [World.setCell]

theorem splice_get (l vs : List Value) (off : Nat) (h : off + vs.length ≤ l.length) (i : Nat) :
    (splice l off vs)[i]? = if off ≤ i ∧ i < off + vs.length then vs[i - off]? else l[i]? := by
  unfold splice
  by_cases h1 : i < off
  · rw [if_neg (by omega), List.append_assoc, List.getElem?_append_left (by simp; omega), List.getElem?_take_of_lt h1]
  · by_cases h2 : i < off + vs.length
    · rw [if_pos ⟨by omega, h2⟩, List.append_assoc, List.getElem?_append_right (by simp; omega), List.getElem?_append_left (by simp; omega)]
      congr 1; simp; omega
    · rw [if_neg (by omega), List.getElem?_append_right (by simp; omega), List.getElem?_drop]
      congr 1; simp; omega
theorem splice_length (l vs : List Value) (off : Nat) (h : off + vs.length ≤ l.length) : (splice l off vs).length = l.length := by
  unfold splice; simp; omega

theorem HR.store (H : HR F w0 w g β) {n off : Nat} {bi : BI} (hb : β n = some bi) (hs : (g n).st = 0) {vs vs' : List Value} (hl : off + vs.length ≤ (g n).cells.length)
    (hv : LR β vs vs') {g1 : Nat → ABlk} (hn : g1 n = ⟨splice (g n).cells off vs, (g n).esz, 0, none⟩)
    (ho : ∀ m, m ≠ n → (g1 m = g m ∧ (g n).prev ≠ some m) ∨ (g1 m).st = 2) :
    HR F w0 (w.setCells bi.cb (bi.co + off) vs') g1 β := by
  obtain ⟨bi', arr, ty, fz, hb', B⟩ := H.blk n (by omega)
  rw [hb] at hb'; cases hb'
  have hvl := hv.1
  have hfit : bi.co + off + vs'.length ≤ arr.size := by have := B.fits; have := B.room; have := B.size; omega
  obtain ⟨arr', a1, a2, a3, a4, a5⟩ := setCells_heap bi.cb vs' (bi.co + off) w arr ty fz B.here hfit
  have alive : ∀ m, (g1 m).st = 0 → (g m).st = 0 := by
    intro m hm
    by_cases e : m = n
    · subst e; exact hs
    · rcases ho m e with ⟨h, _⟩ | h
      · rw [← h]; exact hm
      · omega
  have other : ∀ m bm, m ≠ n → (g1 m).st < 2 → β m = some bm → bm.cb ≠ bi.cb := by
    intro m bm e hm hbm ec
    rcases ho m e with ⟨h, hp⟩ | h
    · rw [h] at hm
      by_cases h0 : (g m).st = 0
      · exact H.sep m n bm bi e h0 hs hbm hb ec
      · exact hp (H.shr n m bi bm hs (by omega) hb hbm ec.symm)
    · omega
  refine ⟨fun m hm => ?_, fun m k bm bk e h1 h2 hbm hbk => H.sep m k bm bk e (alive m h1) (alive k h2) hbm hbk, fun m k bm bk h1 h2 hbm hbk ec => ?_,
    fun m bm h1 hbm => H.frF m bm (alive m h1) hbm, fun m bm h1 hbm hF => ?_, fun k hk => ?_, fun k hk => by rw [a5]; exact H.old k hk, by rw [(setCells_env _ _ _ _).1, (setCells_env _ _ _ _).2]; exact H.env⟩
  · by_cases e : m = n
    · subst e
      refine ⟨bi, arr', ty, fz, hb, ⟨a1, ?_, ?_, by rw [a2]; exact B.room, B.fits, fun i v hi => ?_, fun _ k hk => B.free hs k (a2 ▸ hk)⟩⟩
      · rw [hn]; simp only; rw [splice_length _ _ _ hl]; exact B.size
      · rw [hn]; exact B.esz
      · rw [hn] at hi
        simp only at hi
        rw [splice_get _ _ _ hl] at hi
        rw [a3]
        by_cases c : off ≤ i ∧ i < off + vs.length
        · rw [if_pos c] at hi
          rw [if_pos (by omega), show bi.co + i - (bi.co + off) = i - off by omega]
          exact hv.getElem? hi
        · rw [if_neg c] at hi
          rw [if_neg (by omega)]
          exact B.cell i v hi
    · rcases ho m e with ⟨h, _⟩ | h
      · obtain ⟨bm, arrm, tym, fzm, hbm, Bm⟩ := H.blk m (by rw [← h]; exact hm)
        refine ⟨bm, arrm, tym, fzm, hbm, ?_⟩
        rw [h]
        exact ⟨by rw [a4 _ (other m bm e hm hbm)]; exact Bm.here, Bm.size, Bm.esz, Bm.room, Bm.fits, Bm.cell, Bm.free⟩
      · omega
  · by_cases e : m = n
    · subst e
      have hk : k ≠ m := by intro hk; rw [hk, hn] at h2; simp at h2
      exact absurd ec.symm (other k bk hk (by omega) hbk ∘ fun x => by rw [hb] at hbm; cases hbm; exact x)
    · rcases ho m e with ⟨h, _⟩ | h
      · have hk : k ≠ n := by intro hk; rw [hk, hn] at h2; simp at h2
        rcases ho k hk with ⟨h', _⟩ | h'
        · rw [h]; exact H.shr m k bm bk (alive m h1) (by rw [← h']; exact h2) hbm hbk ec
        · omega
      · omega
  · have e : m ≠ n := fun e => by rw [e, hn] at h1; simp at h1
    rcases ho m e with ⟨h, _⟩ | h
    · rw [h] at h1 ⊢; exact H.frC m bm h1 hbm hF
    · omega
  · rw [a4 k (fun e => H.frF n bi hs hb (e ▸ hk))]; exact H.keep k hk

/-- some blocks are gone, or read alone -/
theorem HR.less (H : HR F w0 w g β) {g1 : Nat → ABlk} (h : ∀ m, g1 m = g m ∨ (g1 m).st = 2) : HR F w0 w g1 β := by
  have al : ∀ m k, k < 2 → (g1 m).st = k → g1 m = g m := fun m k hk e => by
    rcases h m with h | h
    · exact h
    · omega
  refine ⟨fun m hm => ?_, fun m k bm bk e h1 h2 => H.sep m k bm bk e (by rw [← al m 0 (by omega) h1]; exact h1) (by rw [← al k 0 (by omega) h2]; exact h2),
    fun m k bm bk h1 h2 hbm hbk ec => ?_, fun m bm h1 => H.frF m bm (by rw [← al m 0 (by omega) h1]; exact h1), fun m bm h1 hbm hF => ?_, H.keep, H.old, H.env⟩
  · have e1 := al m _ hm rfl
    rw [e1] at hm ⊢; exact H.blk m hm
  · have e1 := al m 0 (by omega) h1
    have e2 := al k 1 (by omega) h2
    rw [e1] at h1 ⊢; rw [e2] at h2
    exact H.shr m k bm bk h1 h2 hbm hbk ec
  · have e1 := al m 1 (by omega) h1
    rw [e1] at h1 ⊢
    exact H.frC m bm h1 hbm hF

/-- a block that has grown is read alone from then on; the one that it grew from is gone -/
theorem HR.mark (H : HR F w0 w g β) {n : Nat} (hs : (g n).st = 0) {g1 : Nat → ABlk} (hn : g1 n = ⟨(g n).cells, (g n).esz, 1, none⟩)
    (ho : ∀ m, m ≠ n → (g1 m = g m ∧ (g n).prev ≠ some m) ∨ (g1 m).st = 2) : HR F w0 w g1 β := by
  have al : ∀ m, m ≠ n → ∀ k, k < 2 → (g1 m).st = k → g1 m = g m := fun m e k hk hh => by
    rcases ho m e with ⟨h, _⟩ | h
    · exact h
    · omega
  have ne : ∀ m, (g1 m).st = 0 → m ≠ n := fun m h e => by rw [e, hn] at h; simp at h
  have a0 : ∀ m, (g1 m).st = 0 → (g m).st = 0 := fun m h => by rw [← al m (ne m h) 0 (by omega) h]; exact h
  refine ⟨fun m hm => ?_, fun m k bm bk e h1 h2 => H.sep m k bm bk e (a0 m h1) (a0 k h2), fun m k bm bk h1 h2 hbm hbk ec => ?_,
    fun m bm h1 => H.frF m bm (a0 m h1), fun m bm h1 hbm hF => ?_, H.keep, H.old, H.env⟩
  · by_cases e : m = n
    · subst e
      obtain ⟨bi, arr, ty, fz, hb, B⟩ := H.blk m (by omega)
      rw [hn]
      exact ⟨bi, arr, ty, fz, hb, ⟨B.here, B.size, B.esz, B.room, B.fits, B.cell, fun h => by simp at h⟩⟩
    · have e1 := al m e _ hm rfl
      rw [e1] at hm ⊢; exact H.blk m hm
  · have hm := ne m h1
    rw [al m hm 0 (by omega) h1]
    by_cases e : k = n
    · subst e
      exact absurd ec (H.sep m k bm bk hm (a0 m h1) hs hbm hbk)
    · have e2 := al k e 1 (by omega) h2
      rw [e2] at h2
      exact H.shr m k bm bk (a0 m h1) h2 hbm hbk ec
  · by_cases e : m = n
    · subst e
      exact absurd hF (H.frF m bm hs hbm)
    · have e1 := al m e 1 (by omega) h1
      rw [e1] at h1 ⊢
      exact H.frC m bm h1 hbm hF

/-- a new block -/
theorem HR.alloc (H : HR F w0 w g β) {n : Nat} (hβ : β n = none) {b : ABlk} (hst : b.st = 0) {w1 : World} {arr : Array Value} {ty : TypeId} {fz : Nat × Nat}
    (hnew : w1.heap[w.heap.size]? = some (.cells arr ty fz)) (hold : ∀ k, k < w.heap.size → w1.heap[k]? = w.heap[k]?) (hsz : w.heap.size < w1.heap.size) (hen : w1.os = w.os ∧ w1.output = w.output)
    (hc : ∀ (i : Nat) (v : Value), b.cells[i]? = some v → ∃ v' : Value, arr[i]? = some v' ∧ VR β v v') (hl : b.cells.length ≤ arr.size) (hf : ∀ k, k < arr.size → ¬ (fz.1 ≤ k ∧ k < fz.2)) :
    ∃ β1, β.le β1 ∧ β1 n = some ⟨w.heap.size, 0, b.cells.length, b.esz, arr.size⟩ ∧ (∀ m, m ≠ n → β1 m = β m) ∧
      ∀ g1 : Nat → ABlk, g1 n = b → (∀ m, m ≠ n → g1 m = g m) → HR F w0 w1 g1 β1 := by
  let β1 : Inj := fun m => if m = n then some ⟨w.heap.size, 0, b.cells.length, b.esz, arr.size⟩ else β m
  have hle : β.le β1 := fun m bi h => by
    have : m ≠ n := fun e => by rw [e, hβ] at h; cases h
    simp [β1, this, h]
  have hb1 : β1 n = some ⟨w.heap.size, 0, b.cells.length, b.esz, arr.size⟩ := by simp [β1]
  have hb2 : ∀ m, m ≠ n → β1 m = β m := fun m e => by simp [β1, e]
  have lt : ∀ m bm, m ≠ n → (g m).st < 2 → β1 m = some bm → bm.cb < w.heap.size := by
    intro m bm e hm hbm
    obtain ⟨bi, arr', ty', fz', hb, B⟩ := H.blk m hm
    rw [hb2 m e, hb] at hbm; cases hbm
    have := B.here
    exact (Array.getElem?_eq_some_iff.1 this).1
  refine ⟨β1, hle, hb1, hb2, fun g1 hn ho => ⟨fun m hm => ?_, fun m k bm bk e h1 h2 hbm hbk => ?_, fun m k bm bk h1 h2 hbm hbk ec => ?_, fun m bm h1 hbm hF => ?_, fun m bm h1 hbm hF => ?_, fun k hk => ?_, fun k hk => ?_, by rw [hen.1, hen.2]; exact H.env⟩⟩
  · by_cases e : m = n
    · subst e
      rw [hn]
      exact ⟨_, arr, ty, fz, hb1, ⟨hnew, rfl, rfl, rfl, by simpa using hl, fun i v hi => by
        obtain ⟨v', h1, h2⟩ := hc i v hi
        exact ⟨v', by simpa using h1, h2.mono hle⟩, fun _ => hf⟩⟩
    · rw [ho m e] at hm ⊢
      obtain ⟨bi, arr', ty', fz', hb, B⟩ := H.blk m hm
      refine ⟨bi, arr', ty', fz', by rw [hb2 m e]; exact hb, ⟨?_, B.size, B.esz, B.room, B.fits, fun i v hi => ?_, B.free⟩⟩
      · rw [hold _ (lt m bi e hm (by rw [hb2 m e]; exact hb))]; exact B.here
      · obtain ⟨v', h1, h2⟩ := B.cell i v hi
        exact ⟨v', h1, h2.mono hle⟩
  · by_cases em : m = n
    · have ek : k ≠ n := fun x => e (em.trans x.symm)
      rw [ho k ek] at h2
      have := lt k bk ek (by omega) hbk
      rw [em, hb1] at hbm; cases hbm
      simp; omega
    · rw [ho m em] at h1
      by_cases ek : k = n
      · have := lt m bm em (by omega) hbm
        rw [ek, hb1] at hbk; cases hbk
        simp; omega
      · rw [ho k ek] at h2
        exact H.sep m k bm bk e h1 h2 (by rw [← hb2 m em]; exact hbm) (by rw [← hb2 k ek]; exact hbk)
  · have ek : k ≠ n := fun x => by rw [x, hn, hst] at h2; cases h2
    rw [ho k ek] at h2
    have hk := lt k bk ek (by omega) hbk
    by_cases em : m = n
    · rw [em, hb1] at hbm; cases hbm
      simp at ec; omega
    · rw [ho m em] at h1 ⊢
      exact H.shr m k bm bk h1 h2 (by rw [← hb2 m em]; exact hbm) (by rw [← hb2 k ek]; exact hbk) ec
  · by_cases em : m = n
    · rw [em, hb1] at hbm; cases hbm
      have := H.old _ hF
      simp at this
    · rw [ho m em] at h1
      exact H.frF m bm h1 (by rw [← hb2 m em]; exact hbm) hF
  · have em : m ≠ n := fun x => by rw [x, hn, hst] at h1; cases h1
    rw [ho m em] at h1 ⊢
    exact H.frC m bm h1 (by rw [← hb2 m em]; exact hbm) hF
  · rw [hold k (H.old k hk)]; exact H.keep k hk
  · have := H.old k hk; omega

/-- a block grows where it is -/
theorem HR.grow (H : HR F w0 w g β) {n n1 off : Nat} {bi : BI} (hb : β n = some bi) (hs : (g n).st = 0) (hβ : β n1 = none) {vs vs' : List Value} (hv : LR β vs vs')
    (hoff : off ≤ (g n).cells.length) (hroom : bi.co + (g n).cells.length + vs.length ≤ bi.room)
    {g1 : Nat → ABlk} (hn : g1 n = ⟨(g n).cells, (g n).esz, 1, none⟩) (hn1 : g1 n1 = ⟨(g n).cells.drop off ++ vs, (g n).esz, 0, some n⟩)
    (ho : ∀ m, m ≠ n → m ≠ n1 → (g1 m = g m ∧ (g n).prev ≠ some m) ∨ (g1 m).st = 2) :
    ∃ β1, β.le β1 ∧ β1 n1 = some ⟨bi.cb, bi.co + off, (g n).cells.length - off + vs.length, (g n).esz, bi.room⟩ ∧ (∀ m, m ≠ n1 → β1 m = β m) ∧
      HR F w0 (w.setCells bi.cb (bi.co + (g n).cells.length) vs') g1 β1 := by
  let β1 : Inj := fun m => if m = n1 then some ⟨bi.cb, bi.co + off, (g n).cells.length - off + vs.length, (g n).esz, bi.room⟩ else β m
  have hne : n ≠ n1 := fun e => by rw [← e, hb] at hβ; cases hβ
  have hle : β.le β1 := fun m bi h => by
    have : m ≠ n1 := fun e => by rw [e, hβ] at h; cases h
    simp [β1, this, h]
  have hb1 : β1 n1 = some ⟨bi.cb, bi.co + off, (g n).cells.length - off + vs.length, (g n).esz, bi.room⟩ := by simp [β1]
  have hb2 : ∀ m, m ≠ n1 → β1 m = β m := fun m e => by simp [β1, e]
  obtain ⟨bi', arr, ty, fz, hb', B⟩ := H.blk n (by omega)
  rw [hb] at hb'; cases hb'
  have hvl := hv.1
  have hsz := B.size
  have hrm := B.room
  obtain ⟨arr', a1, a2, a3, a4, a5⟩ := setCells_heap bi.cb vs' (bi.co + (g n).cells.length) w arr ty fz B.here (by omega)
  have al : ∀ m, m ≠ n → m ≠ n1 → ∀ k, k < 2 → (g1 m).st = k → g1 m = g m ∧ (g n).prev ≠ some m := fun m e e1 k hk hh => by
    rcases ho m e e1 with h | h
    · exact h
    · omega
  have other : ∀ m bm, m ≠ n → m ≠ n1 → (g1 m).st < 2 → β1 m = some bm → bm.cb ≠ bi.cb := by
    intro m bm e e1 hm hbm ec
    obtain ⟨h, hp⟩ := al m e e1 _ hm rfl
    rw [h] at hm
    rw [hb2 m e1] at hbm
    by_cases h0 : (g m).st = 0
    · exact H.sep m n bm bi e h0 hs hbm hb ec
    · exact hp (H.shr n m bi bm hs (by omega) hb hbm ec.symm)
  have n0 : ∀ m, (g1 m).st = 0 → m ≠ n := fun m h e => by rw [e, hn] at h; simp at h
  have n1' : ∀ m, (g1 m).st = 1 → m ≠ n1 := fun m h e => by rw [e, hn1] at h; simp at h
  refine ⟨β1, hle, hb1, hb2, fun m hm => ?_, fun m k bm bk e h1 h2 hbm hbk => ?_, fun m k bm bk h1 h2 hbm hbk ec => ?_, fun m bm h1 hbm => ?_, fun m bm h1 hbm hF => ?_, fun k hk => ?_, fun k hk => by rw [a5]; exact H.old k hk, by rw [(setCells_env _ _ _ _).1, (setCells_env _ _ _ _).2]; exact H.env⟩
  · by_cases e : m = n
    · subst e
      rw [hn]
      refine ⟨bi, arr', ty, fz, by rw [hb2 m hne]; exact hb, ⟨a1, hsz, B.esz, by rw [a2]; exact hrm, B.fits, fun i v hi => ?_, fun h => by simp at h⟩⟩
      obtain ⟨v', h1, h2⟩ := B.cell i v hi
      refine ⟨v', ?_, h2.mono hle⟩
      have : i < (g m).cells.length := (List.getElem?_eq_some_iff.1 hi).1
      rw [a3, if_neg (by omega)]; exact h1
    · by_cases e1 : m = n1
      · subst e1
        rw [hn1]
        refine ⟨_, arr', ty, fz, hb1, ⟨a1, by simp, rfl, by simp only; rw [a2]; exact hrm, by simp only; omega, fun i v hi => ?_, fun _ k hk => B.free hs k (a2 ▸ hk)⟩⟩
        simp only at hi ⊢
        rw [a3]
        by_cases c : i < (g n).cells.length - off
        · rw [List.getElem?_append_left (by simp; omega), List.getElem?_drop] at hi
          rw [if_neg (by omega), show bi.co + off + i = bi.co + (off + i) by omega]
          obtain ⟨v', h1, h2⟩ := B.cell _ v hi
          exact ⟨v', h1, h2.mono hle⟩
        · rw [List.getElem?_append_right (by simp; omega)] at hi
          simp only [List.length_drop] at hi
          have := (List.getElem?_eq_some_iff.1 hi).1
          rw [if_pos (by omega)]
          obtain ⟨v', h1, h2⟩ := hv.getElem? hi
          exact ⟨v', by rw [show bi.co + off + i - (bi.co + (g n).cells.length) = i - ((g n).cells.length - off) by omega]; exact h1, h2.mono hle⟩
      · have hm' := hm
        obtain ⟨h, _⟩ := al m e e1 _ hm rfl
        rw [h] at hm ⊢
        obtain ⟨bm, arrm, tym, fzm, hbm, Bm⟩ := H.blk m hm
        refine ⟨bm, arrm, tym, fzm, by rw [hb2 m e1]; exact hbm, ⟨?_, Bm.size, Bm.esz, Bm.room, Bm.fits, fun i v hi => ?_, Bm.free⟩⟩
        · rw [a4 _ (other m bm e e1 hm' (by rw [hb2 m e1]; exact hbm))]; exact Bm.here
        · obtain ⟨v', h1, h2⟩ := Bm.cell i v hi
          exact ⟨v', h1, h2.mono hle⟩
  · have em := n0 m h1
    have ek := n0 k h2
    by_cases m1 : m = n1
    · have k1 : k ≠ n1 := fun x => e (m1.trans x.symm)
      rw [m1, hb1] at hbm; cases hbm
      exact (other k bk ek k1 (by omega) hbk).symm
    · by_cases k1 : k = n1
      · rw [k1, hb1] at hbk; cases hbk
        exact other m bm em m1 (by omega) hbm
      · obtain ⟨h, _⟩ := al m em m1 0 (by omega) h1
        obtain ⟨h', _⟩ := al k ek k1 0 (by omega) h2
        rw [h] at h1; rw [h'] at h2
        exact H.sep m k bm bk e h1 h2 (by rw [← hb2 m m1]; exact hbm) (by rw [← hb2 k k1]; exact hbk)
  · have em := n0 m h1
    have k1 := n1' k h2
    by_cases m1 : m = n1
    · rw [m1, hb1] at hbm; cases hbm
      by_cases ek : k = n
      · rw [m1, hn1, ek]
      · exact absurd ec.symm (other k bk ek k1 (by omega) hbk)
    · obtain ⟨h, _⟩ := al m em m1 0 (by omega) h1
      rw [h] at h1 ⊢
      by_cases ek : k = n
      · rw [ek, hb2 n hne, hb] at hbk; cases hbk
        exact absurd ec (H.sep m n bm bi em h1 hs (by rw [← hb2 m m1]; exact hbm) hb)
      · obtain ⟨h', _⟩ := al k ek k1 1 (by omega) h2
        rw [h'] at h2
        exact H.shr m k bm bk h1 h2 (by rw [← hb2 m m1]; exact hbm) (by rw [← hb2 k k1]; exact hbk) ec
  · have em := n0 m h1
    by_cases m1 : m = n1
    · rw [m1, hb1] at hbm; cases hbm
      exact H.frF n bi hs hb
    · obtain ⟨h, _⟩ := al m em m1 0 (by omega) h1
      rw [h] at h1
      exact H.frF m bm h1 (by rw [← hb2 m m1]; exact hbm)
  · have m1 := n1' m h1
    by_cases em : m = n
    · rw [em, hb2 n hne, hb] at hbm; cases hbm
      exact absurd hF (H.frF n bi hs hb)
    · obtain ⟨h, _⟩ := al m em m1 1 (by omega) h1
      rw [h] at h1 ⊢
      exact H.frC m bm h1 (by rw [← hb2 m m1]; exact hbm) hF
  · rw [a4 k (fun e => H.frF n bi hs hb (e ▸ hk))]; exact H.keep k hk

end
end Go.Ab
