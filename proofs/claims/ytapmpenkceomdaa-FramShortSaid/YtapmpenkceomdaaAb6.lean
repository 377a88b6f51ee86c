/- Operations that only compute, or only look: all of them. -/
import Derived.Test.YtapmpenkceomdaaAb5
namespace Go.Ab
variable {P : Program} {F : Fm} {w0 w : World} {β : Inj} {g : AHeap} {lim : Nat}

theorem simBuild {t : TypeId} {ps qs : List (Nat × Value)} {v : Value} (hp : PR β ps qs) (h : aBuild P t ps = some v) :
    ∃ v', (Instr.build t ⟨qs⟩).run P w = .ok v' w ∧ VR β v v' := by
  unfold aBuild at h
  split at h
  · cases h
  · rename_i z hz
    obtain ⟨i, u, hi, hzu, hc, rfl⟩ := zeroOf_some hz
    have hzz : LR β u.cells.toList u.cells.toList := .closed (by simpa using hc)
    split at h
    · rename_i fields hu
      split at h
      · rename_i l hl
        simp only [Option.map_eq_some_iff] at h
        obtain ⟨r, hr, rfl⟩ := h
        obtain ⟨r', hr1, hr2⟩ := fillR hp hzz hr
        refine ⟨.agg r', ?_, hr2.agg⟩
        have hpl : ∀ (fs : List Field) (l : List (Nat × Nat)), places P fs = some l → (fs.mapM (fun f => do pure (f.offset, ← sizeOf f.type) : Field → Sem (Nat × Nat))).run P w = .ok l w := by
          intro fs
          induction fs with
          | nil => intro l h; simp only [places, Option.some.injEq] at h; subst h; rfl
          | cons f fs ih =>
            intro l h
            simp only [places] at h
            split at h
            · rename_i i' l' hi' hl'
              cases h
              rw [List.mapM_cons, Sem.run_bind, Sem.run_bind, run_size hi']
              simp only [Result.andThen_ok, Sem.run_pure]
              rw [Sem.run_bind, ih _ hl']; rfl
            · cases h
        have h1 := hpl _ _ hl
        have h2 : (fields.mapM (fun f => do pure (f.offset, ← sizeOf f.type) : Field → Sem (Nat × Nat))).run P w = .ok ⟨l⟩ w := by
          rw [Array.mapM_eq_mapM_toList, Sem.run_map, h1]; rfl
        unfold Instr.build
        rw [Sem.run_bind, run_zero hi hzu, Result.andThen_ok, Sem.run_bind, run_under hu, Result.andThen_ok]
        simp only
        rw [Sem.run_bind, h2, Result.andThen_ok]
        have h3 : Instr.fill (fun x => (⟨l⟩ : Array (Nat × Nat))[x]?) u.cells qs = some r' := by simpa using hr1
        rw [h3]; rfl
      · cases h
    · rename_i n e hu
      split at h
      · rename_i i' hi'
        simp only [Option.map_eq_some_iff] at h
        obtain ⟨r, hr, rfl⟩ := h
        obtain ⟨r', hr1, hr2⟩ := fillR hp hzz hr
        refine ⟨.agg r', ?_, hr2.agg⟩
        unfold Instr.build
        rw [Sem.run_bind, run_zero hi hzu, Result.andThen_ok, Sem.run_bind, run_under hu, Result.andThen_ok]
        simp only
        rw [Sem.run_bind, run_size hi', Result.andThen_ok]
        have h3 : Instr.fill (fun k => some (k * i'.size, i'.size)) u.cells qs = some r' := hr1
        rw [h3]; rfl
      · cases h
    · cases h

theorem simPart {t : TypeId} {xs ys : List Value} {off : Nat} {v : Value} (hx : LR β xs ys) (h : aPart P t xs off = some v) :
    ∃ v', (part t ⟨ys⟩ off).run P w = .ok v' w ∧ VR β v v' := by
  unfold aPart at h
  split at h
  · rename_i k hl
    obtain ⟨d, i, hd, hi, hk, hagg⟩ := lay_some (w := w) hl
    split at h
    · cases h
      refine ⟨.agg ⟨(ys.drop off).take k⟩, ?_, ((hx.drop off).take k).agg⟩
      unfold part
      rw [Sem.run_bind, hagg, Result.andThen_ok]
      simp only [if_true, Sem.run_bind, run_size hi, Result.andThen_ok, Sem.run_pure, ← hk]
      congr 2
      apply Array.ext'
      simp [List.extract_eq_take_drop]
    · cases h
  · rename_i k hl
    obtain ⟨d, i, hd, hi, hk, hagg⟩ := lay_some (w := w) hl
    obtain ⟨v', e, hv⟩ := hx.getElem? h
    refine ⟨v', ?_, hv⟩
    unfold part
    rw [Sem.run_bind, hagg, Result.andThen_ok]
    simp [e]
  · cases h

theorem simFieldAddr {s : TypeId} {x x' v : Value} {f : Nat} (hx : VR β x x') (h : aFieldAddr P s x f = some v) :
    ∃ v', (Instr.fieldAt s x' f).run P w = .ok v' w ∧ VR β v v' := by
  unfold aFieldAddr at h
  split at h
  · rename_i fields n off hu
    obtain ⟨bi, hb, _, rfl⟩ := hx.ptr_inv
    split at h
    · rename_i fd hf
      split at h
      · rename_i i hi
        split at h
        · cases h
        · rename_i hz
          cases h
          refine ⟨.pointer (some ⟨bi.cb, bi.co + (off + fd.offset), none⟩), ?_, .ptr n (off + fd.offset) bi hb⟩
          unfold Instr.fieldAt
          rw [Sem.run_bind, run_under hu, Result.andThen_ok]
          simp only [hf]
          simp only [Instr.sureAddr, fieldPlace, pure_bind, Sem.run_bind, run_size hi, Result.andThen_ok, if_neg hz, Sem.run_pure, addr_add, Nat.add_assoc]
      · cases h
    · cases h
  · cases h

theorem simField {s : TypeId} {x x' v : Value} {f : Nat} (hx : VR β x x') (h : aField P s x f = some v) :
    ∃ v', (Instr.field s x' f).run P w = .ok v' w ∧ VR β v v' := by
  unfold aField at h
  split at h
  · rename_i fields cs hu
    obtain ⟨ds, rfl, hl⟩ := hx.agg_inv
    split at h
    · rename_i fd hf
      obtain ⟨v', h1, h2⟩ := simPart (w := w) hl h
      refine ⟨v', ?_, h2⟩
      unfold Instr.field
      rw [Sem.run_bind, run_under hu, Result.andThen_ok]
      simp only [hf, asAgg, pure_bind, h1]
    · cases h
  · cases h

theorem simIndexAddr {t : TypeId} {x x' i i' v : Value} (hx : VR β x x') (hi : VR β i i') (h : aIndexAddr P t x i = some v) :
    ∃ v', (Instr.indexAt t x' i').run P w = .ok v' w ∧ VR β v v' := by
  unfold aIndexAddr at h
  split at h
  · rename_i e n off len cap k j hu
    have ei := hi.int_inv; subst ei
    split at h
    · rename_i inf hinf
      split at h
      · rename_i hr
        cases h
        obtain ⟨_, ⟨hl, _, _, _⟩ | ⟨bi, c', hb, _, _, _, rfl⟩⟩ := hx.sl_inv
        · omega
        · refine ⟨.pointer (some ⟨bi.cb, bi.co + (off + j.toNat * inf.size), none⟩), ?_, .ptr n _ bi hb⟩
          unfold Instr.indexAt
          simp only [asIntOf, pure_bind, Sem.run_bind, run_under hu, Result.andThen_ok]
          simp only [Sem.run_pure, Result.andThen_ok, Sem.run_bind, if_pos hr, run_size hinf, addr_add, Nat.add_assoc]
      · cases h
    · cases h
  · rename_i len e n off k j hu
    have ei := hi.int_inv; subst ei
    obtain ⟨bi, hb, _, rfl⟩ := hx.ptr_inv
    split at h
    · rename_i inf hinf
      split at h
      · rename_i hr
        cases h
        refine ⟨.pointer (some ⟨bi.cb, bi.co + (off + j.toNat * inf.size), none⟩), ?_, .ptr n _ bi hb⟩
        unfold Instr.indexAt
        simp only [asIntOf, pure_bind, Sem.run_bind, run_under hu, Result.andThen_ok]
        simp only [Instr.sureAddr, Sem.run_pure, Result.andThen_ok, Sem.run_bind, if_pos hr, run_size hinf, addr_add, Nat.add_assoc]
      · cases h
    · cases h
  · cases h

theorem simIndex {t : TypeId} {x x' i i' v : Value} (hx : VR β x x') (hi : VR β i i') (h : aIndex P t x i = some v) :
    ∃ v', (Instr.index t x' i').run P w = .ok v' w ∧ VR β v v' := by
  unfold aIndex at h
  split at h
  · rename_i s k j hu
    have ei := hi.int_inv; subst ei
    have es := hx.string_inv; subst es
    split at h
    · rename_i h0
      split at h
      · rename_i b hb
        cases h
        refine ⟨_, ?_, .closed _ rfl⟩
        unfold Instr.index
        simp only [asIntOf, pure_bind, Sem.run_bind, run_under hu, Result.andThen_ok, if_pos h0, hb, Sem.run_pure]
      · cases h
    · cases h
  · rename_i len e cs k j hu
    have ei := hi.int_inv; subst ei
    obtain ⟨ds, rfl, hl⟩ := hx.agg_inv
    split at h
    · rename_i inf hinf
      split at h
      · rename_i hr
        obtain ⟨v', h1, h2⟩ := simPart (w := w) hl h
        refine ⟨v', ?_, h2⟩
        unfold Instr.index
        simp only [asIntOf, pure_bind, Sem.run_bind, run_under hu, Result.andThen_ok, if_pos hr, run_size hinf, h1]
      · cases h
    · cases h
  · cases h

theorem simMax {l : List Value} : ∀ {l' : List Value} {x : Int} {v : Value}, LR β l l' → aMaxF x l = some v → (l'.foldlM Builtin.max2 (.int .i64 x)).run P w = .ok v w ∧ closedCell v = true := by
  induction l with
  | nil =>
    intro l' x v hl h
    have := hl.of_nil; subst this
    simp only [aMaxF, Option.some.injEq] at h; subst h
    exact ⟨rfl, rfl⟩
  | cons y l ih =>
    intro l' x v hl h
    obtain ⟨y', l', rfl, hy, hl2⟩ := hl.of_cons
    cases y with
    | int k n =>
      cases k with
      | i64 =>
        have := hy.int_inv; subst this
        obtain ⟨h1, h2⟩ := ih hl2 h
        refine ⟨?_, h2⟩
        rw [List.foldlM_cons, Sem.run_bind]
        exact h1
      | _ => simp [aMaxF] at h
    | _ => simp [aMaxF] at h

theorem simMin {l : List Value} : ∀ {l' : List Value} {x : Int} {v : Value}, LR β l l' → aMinF x l = some v → (l'.foldlM Builtin.min2 (.int .i64 x)).run P w = .ok v w ∧ closedCell v = true := by
  induction l with
  | nil =>
    intro l' x v hl h
    have := hl.of_nil; subst this
    simp only [aMinF, Option.some.injEq] at h; subst h
    exact ⟨rfl, rfl⟩
  | cons y l ih =>
    intro l' x v hl h
    obtain ⟨y', l', rfl, hy, hl2⟩ := hl.of_cons
    cases y with
    | int k n =>
      cases k with
      | i64 =>
        have := hy.int_inv; subst this
        obtain ⟨h1, h2⟩ := ih hl2 h
        refine ⟨?_, h2⟩
        rw [List.foldlM_cons, Sem.run_bind]
        exact h1
      | _ => simp [aMinF] at h
    | _ => simp [aMinF] at h

/-- operations of kind 0 -/
theorem simPure {T : TS} {a : Act} (hT : TR β T a.tmps) {o : Oper} {v : Value} (h : aPure P T o.op = some v) :
    ∃ v', (execOp a.eval o).run P w = .ok (.value v') w ∧ VR β v v' := by
  have wrap : ∀ {s : Sem Value} {v' : Value}, s.run P w = .ok v' w → (do pure (Next.value (← s)) : Sem Next).run P w = .ok (.value v') w := by
    intro s v' hs; rw [Sem.run_bind, hs]; rfl
  unfold aPure at h
  split at h
  · rename_i x ho
    exact ⟨_, by simp only [execOp, ho, Sem.run_pure], hT.ev h⟩
  · rename_i x ho
    exact ⟨_, by simp only [execOp, ho, Sem.run_pure], hT.ev h⟩
  · rename_i c x y ho
    split at h
    · rename_i b vx vy hc hx hy
      have ec := (hT.ev hc).bool_inv
      cases h
      cases b
      · exact ⟨_, by simp only [execOp, ho, ec, asBool, pure_bind, Sem.run_pure]; rfl, hT.ev hy⟩
      · exact ⟨_, by simp only [execOp, ho, ec, asBool, pure_bind, Sem.run_pure]; rfl, hT.ev hx⟩
    · cases h
  · rename_i t parts ho
    split at h
    · rename_i l hl
      obtain ⟨v', h1, h2⟩ := simBuild (w := w) (hT.evParts hl) h
      refine ⟨v', ?_, h2⟩
      simp only [execOp, ho]
      apply wrap
      have : (parts.map fun x => (x.1, a.eval x.2)) = ⟨List.map (fun x => (x.1, a.eval x.2)) parts.toList⟩ := by
        apply Array.ext'; simp
      exact this ▸ h1
    · cases h
  · rename_i x ho
    split at h
    · rename_i ad hx
      cases h
      obtain ⟨bi, hb, hs, e⟩ := (hT.ev hx).ptr_inv
      exact ⟨_, by simp only [execOp, ho, e, Sem.run_pure], e ▸ hT.ev hx⟩
    · rename_i f c d hx
      cases h
      obtain ⟨c', d', e, _, _⟩ := (hT.ev hx).func_inv
      exact ⟨_, by simp only [execOp, ho, e, Sem.run_pure], e ▸ hT.ev hx⟩
    · cases h
  · rename_i op t x y t' ho
    split at h
    · rename_i vx vy hx hy
      obtain ⟨h1, h2⟩ := simBin (w := w) (xo := x) (yo := y) (hT.ev hx) (hT.ev hy) h
      exact ⟨v, by simp only [execOp, ho]; exact wrap h1, .closed _ h2⟩
    · cases h
  · rename_i op t x ho
    split at h
    · rename_i vx hx
      obtain ⟨h1, h2⟩ := simUn (P := P) (w := w) (hT.ev hx) h
      exact ⟨v, by simp only [execOp, ho]; exact wrap h1, .closed _ h2⟩
    · cases h
  · rename_i fn x y ho
    split at h
    · rename_i va vb ha hb
      cases h
      have h1 := hT.evs ha
      have h2 := hT.evs hb
      refine ⟨.func fn ⟨x.toList.map a.eval⟩ ⟨y.toList.map a.eval⟩, ?_, .func fn _ _ _ _ h1.1 h1.2 h2.1 h2.2⟩
      simp only [execOp, ho]
      apply wrap
      have : ∀ z : Array Operand, z.map a.eval = ⟨z.toList.map a.eval⟩ := fun z => by apply Array.ext'; simp
      simp only [Instr.makeFunc, Sem.run_pure, this]
    · cases h
  · rename_i s x f ho
    split at h
    · rename_i vx hx
      obtain ⟨v', h1, h2⟩ := simFieldAddr (w := w) (hT.ev hx) h
      exact ⟨v', by simp only [execOp, ho]; exact wrap h1, h2⟩
    · cases h
  · rename_i s x f ho
    split at h
    · rename_i vx hx
      obtain ⟨v', h1, h2⟩ := simField (w := w) (hT.ev hx) h
      exact ⟨v', by simp only [execOp, ho]; exact wrap h1, h2⟩
    · cases h
  · rename_i t x i ho
    split at h
    · rename_i vx vi hx hi
      obtain ⟨v', h1, h2⟩ := simIndexAddr (w := w) (hT.ev hx) (hT.ev hi) h
      exact ⟨v', by simp only [execOp, ho]; exact wrap h1, h2⟩
    · cases h
  · rename_i t x i ho
    split at h
    · rename_i vx vi hx hi
      obtain ⟨v', h1, h2⟩ := simIndex (w := w) (hT.ev hx) (hT.ev hi) h
      exact ⟨v', by simp only [execOp, ho]; exact wrap h1, h2⟩
    · cases h
  · rename_i x i ho
    split at h
    · rename_i vs hx
      obtain ⟨ds, e, hl⟩ := (hT.ev hx).tuple_inv
      obtain ⟨v', e', hv⟩ := hl.getElem? (i := i) (by simpa using h)
      refine ⟨v', ?_, hv⟩
      simp only [execOp, ho]
      apply wrap
      rw [e]
      simp [Instr.extract, e']
    · cases h
  · rename_i s d x ho
    split at h
    · rename_i sd k kk n hs hd hx
      cases h
      have e := (hT.ev hx).int_inv
      refine ⟨_, ?_, .closed _ rfl⟩
      simp only [execOp, ho]
      apply wrap
      rw [e]
      unfold convert
      rw [Sem.run_bind, run_under hs, Result.andThen_ok, Sem.run_bind, run_under hd, Result.andThen_ok]
      cases sd <;> rfl
    · rename_i st hs hd hx
      cases h
      have e := (hT.ev hx).string_inv
      refine ⟨_, ?_, .closed _ rfl⟩
      simp only [execOp, ho]
      apply wrap
      rw [e]
      unfold convert
      rw [Sem.run_bind, run_under hs, Result.andThen_ok, Sem.run_bind, run_under hd, Result.andThen_ok]
      rfl
    · cases h
  · rename_i args at_ ho
    split at h
    · rename_i x t hargs hat
      have ea : args = #[x] := by apply Array.ext'; simpa using hargs
      have et : at_ = #[t] := by apply Array.ext'; simpa using hat
      subst ea et
      split at h
      · rename_i s hu hx
        have e := (hT.ev hx).string_inv
        cases h
        refine ⟨_, ?_, .closed _ rfl⟩
        simp only [execOp, ho, resolve, pure_bind, invoke, builtin]
        apply wrap
        simp [Builtin.len_, run_under hu, e, goInt]
      · rename_i el b n c hu hx
        have e : ∃ b' c', a.eval x = .slice b' n c' := by
          cases b with
          | none => obtain ⟨rfl, rfl, e⟩ := (hT.ev hx).snil_inv; exact ⟨_, _, e⟩
          | some b => obtain ⟨_, ⟨rfl, rfl, a', e⟩ | ⟨bi, c', _, _, _, _, e⟩⟩ := (hT.ev hx).sl_inv <;> exact ⟨_, _, e⟩
        obtain ⟨b', c', e⟩ := e
        cases h
        refine ⟨_, ?_, .closed _ rfl⟩
        simp only [execOp, ho, resolve, pure_bind, invoke, builtin]
        apply wrap
        simp [Builtin.len_, run_under hu, e, goInt]
      · rename_i n el vx hu hx
        cases h
        refine ⟨_, ?_, .closed _ rfl⟩
        simp only [execOp, ho, resolve, pure_bind, invoke, builtin]
        apply wrap
        simp [Builtin.len_, run_under hu, goInt]
      · cases h
    · cases h
  · rename_i args at_ ho
    split at h
    · rename_i x l hl
      obtain ⟨y, l', e, hy, hl'⟩ := (hT.evs hl).of_cons
      have ey := hy.int_inv; subst ey
      obtain ⟨h1, h2⟩ := simMax (w := w) (P := P) hl' h
      refine ⟨v, ?_, .closed _ h2⟩
      simp only [execOp, ho, resolve, pure_bind, invoke, builtin]
      apply wrap
      simp only [Builtin.max_, Array.toList_map, e]
      exact h1
    · cases h
  · rename_i args at_ ho
    split at h
    · rename_i x l hl
      obtain ⟨y, l', e, hy, hl'⟩ := (hT.evs hl).of_cons
      have ey := hy.int_inv; subst ey
      obtain ⟨h1, h2⟩ := simMin (w := w) (P := P) hl' h
      refine ⟨v, ?_, .closed _ h2⟩
      simp only [execOp, ho, resolve, pure_bind, invoke, builtin]
      apply wrap
      simp only [Builtin.min_, Array.toList_map, e]
      exact h1
    · cases h
  · cases h

end Go.Ab
