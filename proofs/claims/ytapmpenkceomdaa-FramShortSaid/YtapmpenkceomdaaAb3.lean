/- Each operation of the abstract run is the model's own, whatever the tape says. -/
import Derived.Test.YtapmpenkceomdaaAb2
namespace Go.Ab
variable {P : Program} {F : Fm} {w0 w : World} {β : Inj}

def TR (β : Inj) (T : TS) (tmps : Array Value) : Prop := T.n = tmps.size ∧ ∀ i, VR β (T.get i) (tmps.getD i undef)

theorem TR.mono {β β' : Inj} (hb : β.le β') {T : TS} {tmps : Array Value} (h : TR β T tmps) : TR β' T tmps := ⟨h.1, fun i => (h.2 i).mono hb⟩

theorem TR.put {T : TS} {a : Act} (h : TR β T a.tmps) {dst : Option Tmp} {v v' : Value} (hv : VR β v v') : TR β (T.put dst v) (a.put dst v').tmps := by
  cases dst with
  | none => exact h
  | some d =>
    refine ⟨by simp [TS.put, Act.put, TS.n_set, h.1], fun i => ?_⟩
    simp only [TS.put, Act.put, TS.get_set]
    by_cases e : i = d ∧ d < T.n
    · rw [if_pos e]
      obtain ⟨rfl, hl⟩ := e
      rw [h.1] at hl
      simpa [Array.getD, hl] using hv
    · rw [if_neg e]
      have h2 := h.2 i
      rw [h.1] at e
      by_cases hi : i < a.tmps.size
      · have : i ≠ d := fun x => e ⟨x, x ▸ hi⟩
        simpa [Array.getD, hi, Array.getElem_setIfInBounds, Ne.symm this] using h2
      · simpa [Array.getD, hi] using h2

theorem TR.ev {T : TS} {a : Act} (h : TR β T a.tmps) {x : Operand} {v : Value} (hx : T.ev x = some v) : VR β v (a.eval x) := by
  cases x with
  | tmp t => simp only [TS.ev, Option.some.injEq] at hx; subst hx; exact h.2 t
  | const c =>
    simp only [TS.ev] at hx
    split at hx
    · cases hx; exact .closed _ ‹_›
    · cases hx
  | global g => simp [TS.ev] at hx
  | func f =>
    simp only [TS.ev, Option.some.injEq] at hx; subst hx
    exact .func _ [] [] [] [] rfl (fun i h => by simp at h) rfl (fun i h => by simp at h)

theorem TR.evs {T : TS} {a : Act} (h : TR β T a.tmps) : ∀ {xs : List Operand} {vs : List Value}, evs T xs = some vs → LR β vs (xs.map a.eval)
  | [], vs, hx => by simp only [Ab.evs, Option.some.injEq] at hx; subst hx; exact .nil β
  | x :: xs, vs, hx => by
    simp only [Ab.evs] at hx
    split at hx
    · cases hx; exact .cons (h.ev ‹_›) (TR.evs h ‹_›)
    · cases hx

theorem TR.evOpt {T : TS} {a : Act} (h : TR β T a.tmps) {x : Option Operand} {v : Option Value} (hx : evOpt T x = some v) :
    match v with | none => x.map a.eval = none | some v => ∃ v', x.map a.eval = some v' ∧ VR β v v' := by
  cases x with
  | none => simp only [Ab.evOpt, Option.some.injEq] at hx; subst hx; rfl
  | some x =>
    simp only [Ab.evOpt, Option.map_eq_some_iff] at hx
    obtain ⟨v, hv, rfl⟩ := hx
    exact ⟨_, rfl, h.ev hv⟩

def PR (β : Inj) : List (Nat × Value) → List (Nat × Value) → Prop
  | [], [] => True
  | (i, v) :: l, (j, u) :: m => i = j ∧ VR β v u ∧ PR β l m
  | _, _ => False

theorem TR.evParts {T : TS} {a : Act} (h : TR β T a.tmps) : ∀ {xs : List (Nat × Operand)} {vs : List (Nat × Value)}, evParts T xs = some vs → PR β vs (xs.map fun (i, x) => (i, a.eval x))
  | [], vs, hx => by simp only [Ab.evParts, Option.some.injEq] at hx; subst hx; trivial
  | (i, x) :: xs, vs, hx => by
    simp only [Ab.evParts] at hx
    split at hx
    · cases hx; exact ⟨rfl, h.ev ‹_›, TR.evParts h ‹_›⟩
    · cases hx

theorem run_info {t : TypeId} {i : TypeInfo} (h : P.info? t = some i) (w : World) : (typeInfo t).run P w = .ok i w := by simp [typeInfo, h]
theorem run_size {t : TypeId} {i : TypeInfo} (h : P.info? t = some i) (w : World) : (sizeOf t).run P w = .ok i.size w := by simp [sizeOf, run_info h]
theorem run_under {t : TypeId} {d : TypeDesc} (h : P.underlying t = some d) (w : World) : (underlying t).run P w = .ok d w := by simp [underlying, h]

theorem lay_some {t : TypeId} {b : Bool} {k : Nat} (h : lay P t = some (b, k)) : ∃ d i, P.underlying t = some d ∧ P.info? t = some i ∧ k = i.size ∧
    (isAgg t).run P w = .ok b w := by
  unfold lay at h
  split at h
  · rename_i d i hd hi
    simp only [Option.some.injEq, Prod.mk.injEq] at h
    obtain ⟨h1, h2⟩ := h
    refine ⟨d, i, hd, hi, h2.symm, ?_⟩
    simp only [isAgg, Sem.run_bind, run_under hd, Result.andThen_ok]
    subst h1
    cases d <;> rfl
  · cases h

theorem addr_add (b o n : Nat) : (⟨b, o, none⟩ : Addr).add n = ⟨b, o + n, none⟩ := by
  unfold Addr.add; split <;> simp_all

/-- a load -/
theorem simLoad {g : AHeap} (H : HR F w0 w g.get β) {t : TypeId} {a a' v : Value} (ha : VR β a a') (h : aLoad P t a g = some v) :
    ∃ v', (Instr.loadAt t a').run P w = .ok v' w ∧ VR β v v' := by
  unfold aLoad at h
  split at h
  · rename_i n off k hl
    obtain ⟨d, i, hd, hi, hk, hagg⟩ := lay_some (w := w) hl
    obtain ⟨bi, hb, _, rfl⟩ := ha.ptr_inv
    simp only [Option.map_eq_some_iff] at h
    obtain ⟨l, h, rfl⟩ := h
    unfold AHeap.loadN at h
    simp only at h
    split at h
    · rename_i hc
      cases h
      obtain ⟨ys, y1, y2, y3⟩ := H.range hb hc.1 hc.2
      have hrun := run_loadCells_list (P := P) w ⟨bi.cb, bi.co + off, none⟩ ys (fun j v hj => by rw [addr_add]; exact y3 j v hj)
      rw [y2] at hrun
      refine ⟨.agg ⟨ys⟩, ?_, y1.agg⟩
      simp [Instr.loadAt, Instr.sureAddr, loadVar, hagg, run_size hi, ← hk, hrun]
    · cases h
  · rename_i n off k hl
    obtain ⟨d, i, hd, hi, hk, hagg⟩ := lay_some (w := w) hl
    obtain ⟨bi, hb, _, rfl⟩ := ha.ptr_inv
    unfold AHeap.load1 at h
    simp only at h
    split at h
    · rename_i hc
      obtain ⟨v', h1, h2⟩ := H.cell hb hc h
      refine ⟨v', ?_, h2⟩
      simp [Instr.loadAt, Instr.sureAddr, loadVar, hagg, h1]
    · cases h
  · cases h

/-- a store -/
theorem simStoreN {g g1 : AHeap} (H : HR F w0 w g.get β) {n off : Nat} {bi : BI} (hb : β n = some bi) {vs vs' : List Value} (hv : LR β vs vs') (h : g.storeN n off vs = some g1) :
    ∃ w1, (storeCells ⟨bi.cb, bi.co + off, none⟩ vs').run P w = .ok () w1 ∧ HR F w0 w1 g1.get β ∧ g1.next = g.next := by
  unfold AHeap.storeN at h
  split at h
  · cases h
    have := hv.of_nil; subst this
    exact ⟨w, rfl, H, rfl⟩
  · simp only at h
    split at h
    · rename_i hne hc
      obtain ⟨hs, hl, hcell⟩ := hc
      cases h
      have hlt : n < g.next := by
        by_cases e : n < g.next
        · exact e
        · simp [AHeap.get, e, deadBlk] at hs
      obtain ⟨bi', arr, ty, fz, hb', B⟩ := H.blk n (by omega)
      rw [hb] at hb'; cases hb'
      have h1 := B.fits
      have h2 := B.room
      have h3 := B.size
      have hvl := hv.1
      have hone : ∀ v ∈ vs', v.oneCell' = true := by
        intro v hm
        obtain ⟨i, hi, rfl⟩ := List.mem_iff_getElem.1 hm
        rw [← (hv.2 i (by omega) hi).isCell]
        exact List.all_eq_true.1 hcell _ (List.getElem_mem _)
      have hrun := run_storeCells_cells (P := P) bi.cb (bi.co + off) vs' 0 w (fun j hj => by
          rw [cell?_mk B.here]; simp; omega) (fun j hj => by
          rw [frozen?_mk B.here]
          have := B.free hs (bi.co + off + 0 + j) (by omega)
          simp; omega) hone
      refine ⟨_, hrun, ?_, ?_⟩
      · refine H.store hb hs hl hv (g1 := AHeap.get _) ?_ (fun m hm => ?_)
        · rw [AHeap.get_upd]
          have : n < (g.kill (g.get n).prev).next := by cases (g.get n).prev <;> exact hlt
          rw [if_pos ⟨rfl, this⟩, hs]
        · rw [AHeap.get_upd, if_neg (fun e => hm e.1)]
          cases hp : (g.get n).prev with
          | none => exact .inl ⟨rfl, by simp⟩
          | some p =>
            by_cases e : m = p
            · subst e
              right
              simp only [AHeap.kill, AHeap.get_upd]
              by_cases el : m < g.next
              · rw [if_pos ⟨trivial, el⟩]
              · rw [if_neg (fun x => el x.2)]; simp [AHeap.get, el, deadBlk]
            · left
              refine ⟨?_, by simpa using Ne.symm e⟩
              simp only [AHeap.kill, AHeap.get_upd]
              rw [if_neg (fun x => e x.1)]
      · cases (g.get n).prev <;> rfl
    · cases h

theorem simStore {g g1 : AHeap} (H : HR F w0 w g.get β) {t : TypeId} {a a' v v' : Value} (ha : VR β a a') (hv : VR β v v') (h : aStore P t a v g = some g1) :
    ∃ w1, (Instr.storeAt t a' v').run P w = .ok () w1 ∧ HR F w0 w1 g1.get β ∧ g1.next = g.next := by
  unfold aStore at h
  split at h
  · rename_i n off b k hl
    obtain ⟨d, i, hd, hi, hk, _⟩ := lay_some (w := w) hl
    obtain ⟨bi, hb, _, rfl⟩ := ha.ptr_inv
    split at h
    · rename_i hsz
      have hc := hv.cells
      obtain ⟨w1, h1, h2, h3⟩ := simStoreN (P := P) H hb hc h
      refine ⟨w1, ?_, h2, h3⟩
      have hsz' : v'.cells.size = i.size := by
        have := hc.1
        simp only [Array.length_toList] at this
        omega
      simp [Instr.storeAt, Instr.sureAddr, storeVar, run_size hi, hsz', h1]
    · cases h
  · cases h

end Go.Ab
