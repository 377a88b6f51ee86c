/- Operations that do more; regions in the text's order. -/
import Derived.Test.YtapmpenkceomdaaAb8
namespace Go.Ab
variable {P : Program} {F : Fm} {w0 w : World} {β : Inj} {g : AHeap} {lim : Nat}

/-- the calls that the abstract run makes are the model's -/
structure CS (P : Program) (C : Callee') : Prop where
  mono : ∀ {f args g v g1}, C f args g = some (v, g1) → g.next ≤ g1.next
  func : ∀ {f args g v g1}, C f args g = some (v, g1) → ∃ fn c, P.funcs[f]? = some fn ∧ fn.body = some c ∧ (fn.name == "runtime.NumGoroutine") = false
  calls : ∀ {f args g v g1}, C f args g = some (v, g1) → ∀ {F w0 w β lim} {args' : List Value}, HR F w0 w g.get β → Fr lim g β → g1.next ≤ lim → LR β args args' →
    Calls P f ⟨args'⟩ w fun e w1 => ∃ v' β1, e = .returned v' ∧ β.le β1 ∧ HR F w0 w1 g1.get β1 ∧ VR β1 v v' ∧ Gr g.next g1.next β β1

theorem storeN_next {g g1 : AHeap} {n off : Nat} {vs : List Value} (h : g.storeN n off vs = some g1) : g1.next = g.next := by
  unfold AHeap.storeN at h
  split at h
  · cases h; rfl
  · simp only at h
    split at h
    · cases h; exact kill_next _ _
    · cases h

theorem aAppend_next {size bytes n : Nat} {s v : Value} {vs : List Value} {g g1 : AHeap} (h : aAppend size bytes s n vs g = some (v, g1)) : g.next ≤ g1.next := by
  unfold aAppend at h
  split at h
  · split at h
    · split at h
      · cases h; exact Nat.le_refl _
      · split at h
        · cases h; exact Nat.le_refl _
        · split at h
          · simp only [Option.map_eq_some_iff] at h
            obtain ⟨g2, h1, h2⟩ := h
            cases h2; rw [storeN_next h1]; exact Nat.le_refl _
          · cases h
      · cases h
    · split at h
      · split at h
        · cases h; exact Nat.le_succ _
        · split at h
          · cases h
          · dsimp only at h
            split at h
            · cases h
            · split at h
              · split at h
                · cases h
                  show g.next ≤ (g.kill _).next + 1
                  rw [kill_next]; omega
                · cases h
              · cases h; exact Nat.le_succ _
        · cases h
      · cases h
  · cases h

theorem aDo_next {C : Callee'} (hC : CS P C) {T : TS} {o : Op} {v : Value} {g g1 : AHeap} (h : aDo P C T g o = some (v, g1)) : g.next ≤ g1.next := by
  unfold aDo at h
  split at h
  · split at h
    · simp only [Option.map_eq_some_iff] at h
      obtain ⟨g2, h1, h2⟩ := h
      cases h2
      unfold aStore at h1
      split at h1
      · split at h1
        · rw [storeN_next h1]; exact Nat.le_refl _
        · cases h1
      · cases h1
    · cases h
  · split at h
    · split at h
      · split at h
        · cases h
        · split at h
          all_goals first
            | (split at h
               · split at h
                 · exact aAppend_next h
                 · cases h
               · cases h)
            | cases h
      · cases h
    · cases h
  · split at h
    · split at h
      · split at h
        · cases h; exact Nat.le_refl _
        · split at h
          · cases h; exact Nat.le_refl _
          · split at h
            · split at h
              · simp only [Option.map_eq_some_iff] at h
                obtain ⟨g2, h1, h2⟩ := h
                cases h2; rw [storeN_next h1]; exact Nat.le_refl _
              · cases h
            · cases h
        · cases h
      · cases h
    · cases h
  · split at h
    · exact hC.mono h
    · cases h
  · cases h

theorem aOper_next {C : Callee'} (hC : CS P C) {T : TS} {o : Op} {v : Value} {g g1 : AHeap} (h : aOper P C T g o = some (v, g1)) : g.next ≤ g1.next := by
  unfold aOper at h
  split at h
  · simp only [Option.map_eq_some_iff] at h
    obtain ⟨_, _, h2⟩ := h; cases h2; exact Nat.le_refl _
  · simp only [Option.map_eq_some_iff] at h
    obtain ⟨_, _, h2⟩ := h; cases h2; exact Nat.le_refl _
  · simp only [Option.map_eq_some_iff] at h
    obtain ⟨⟨_, _⟩, _, h2⟩ := h; cases h2; exact Nat.le_succ _
  · exact aDo_next hC h

theorem evs_two {T : TS} {a : Act} (hT : TR β T a.tmps) {args : Array Operand} {s x : Value} (h : evs T args.toList = some [s, x]) :
    ∃ s' x', args.map a.eval = #[s', x'] ∧ VR β s s' ∧ VR β x x' := by
  obtain ⟨s', l, e, hs, hl⟩ := (hT.evs h).of_cons
  obtain ⟨x', l', e', hx, hl'⟩ := hl.of_cons
  have := hl'.of_nil; subst this; subst e'
  exact ⟨s', x', by apply Array.ext'; simpa using e, hs, hx⟩
theorem evs_one {T : TS} {a : Act} (hT : TR β T a.tmps) {args : Array Operand} {s : Value} (h : evs T args.toList = some [s]) :
    ∃ s', args.map a.eval = #[s'] ∧ VR β s s' := by
  obtain ⟨s', l, e, hs, hl⟩ := (hT.evs h).of_cons
  have := hl.of_nil; subst this
  exact ⟨s', by apply Array.ext'; simpa using e, hs⟩

section
variable {Q : Exit → Act → World → Prop} {next : Act → World → Prop}

theorem upon_val {o : Oper} {a : Act} {w1 : World} {v : Value} (h : (execOp a.eval o).run P w = .ok (.value v) w1) (hn : next (a.put o.dst v) w1) : o.wp P a w next Q := by
  unfold Oper.wp; rw [h]; exact hn

/-- operations of kind 3 -/
theorem simDo {C : Callee'} (hC : CS P C) (H : HR F w0 w g.get β) (hf : Fr lim g β) {T : TS} {a : Act} (hT : TR β T a.tmps) {o : Oper} {v : Value} {g1 : AHeap}
    (h : aDo P C T g o.op = some (v, g1)) (hlim : g1.next ≤ lim)
    (hk : ∀ v' w1 β1, β.le β1 → HR F w0 w1 g1.get β1 → VR β1 v v' → Gr g.next g1.next β β1 → next (a.put o.dst v') w1) : o.wp P a w next Q := by
  have wrap : ∀ {s : Sem Value} {v' : Value} {w1 : World}, s.run P w = .ok v' w1 → (do pure (Next.value (← s)) : Sem Next).run P w = .ok (.value v') w1 := by
    intro s v' w1 hs; rw [Sem.run_bind, hs]; rfl
  unfold aDo at h
  split at h
  · -- store
    rename_i t x y ho
    split at h
    · rename_i va vv hx hy
      simp only [Option.map_eq_some_iff] at h
      obtain ⟨g2, h1, h2⟩ := h
      cases h2
      obtain ⟨w1, r, H1, hnx⟩ := simStore (P := P) H (hT.ev hx) (hT.ev hy) h1
      have hr : (execOp a.eval o).run P w = .ok .skip w1 := by
        simp only [execOp, ho]; rw [Sem.run_bind, r]; rfl
      unfold Oper.wp; rw [hr]
      exact hk undef w1 β β.le_refl H1 (.undef β) (by rw [hnx]; exact .refl _ _)
    · cases h
  · -- append
    rename_i args ats ho
    split at h
    · rename_i s x t ts hargs hats
      obtain ⟨s', x', ea, hs, hx⟩ := evs_two hT hargs
      split at h
      · rename_i e size bytes he
        obtain ⟨i, hu, hi, rfl, rfl⟩ := elemOf_some he
        have go : ∀ (u : TypeId) (us : List TypeId) (du : TypeDesc), ats.toList = t :: u :: us → P.underlying u = some du → (∀ k, du ≠ .int k) →
            (match aSource i.size x g, zeroOf P e with
              | some (n, vs), some z => if z.length = i.size then aAppend i.size i.bytes s n vs g else none
              | _, _ => none) = some (v, g1) → o.wp P a w next Q := by
          intro u us du hats hdu hni h
          split at h
          · rename_i n vs z hsrc hz
            split at h
            · rename_i hzl
              obtain ⟨i', zv, hi', hzu, hc, rfl⟩ := zeroOf_some hz
              rw [hi] at hi'; cases hi'
              have h0 : ats[0]? = some t := by rw [← Array.getElem?_toList, hats]; rfl
              have h1 : ats[1]? = some u := by rw [← Array.getElem?_toList, hats]; rfl
              obtain ⟨v', w1, β1, r, k1, k2, k3, k4, _⟩ := simAppend (P := P) (ty := o.type) H hf h0 h1 hu hi hdu hni hzu (by simpa using hzl) hs hx hsrc h hlim
              refine upon_val (v := v') (w1 := w1) ?_ (hk v' w1 β1 k1 k2 k3 k4)
              simp only [execOp, ho, resolve, pure_bind, invoke, builtin]
              apply wrap
              rw [ea]; exact r
            · cases h
          · cases h
        split at h
        · cases h
        · rename_i u us
          split at h
          · exact go u us _ hats ‹_› (by simp) h
          · exact go u us _ hats ‹_› (by simp) h
          · cases h
      · cases h
    · cases h
  · -- clear
    rename_i args ats ho
    split at h
    · rename_i ba n cap t hargs hats
      obtain ⟨s', ea, hs⟩ := evs_one hT hargs
      have et : ats = #[t] := by apply Array.ext'; simpa using hats
      split at h
      · rename_i e size bytes he
        obtain ⟨i, hu, hi, rfl, rfl⟩ := elemOf_some he
        have done : ∀ w1 β1, β.le β1 → HR F w0 w1 g1.get β1 → Gr g.next g1.next β β1 → v = .tuple #[] → (Builtin.clear_ ats o.type #[s']).run P w = .ok (.tuple #[]) w1 → o.wp P a w next Q := by
          intro w1 β1 k1 k2 k4 ev r
          refine upon_val (v := .tuple #[]) (w1 := w1) ?_ (hk _ w1 β1 k1 k2 (by rw [ev]; exact .undef β1) k4)
          simp only [execOp, ho, resolve, pure_bind, invoke, builtin]
          apply wrap
          rw [ea]; exact r
        split at h
        · cases h
          obtain ⟨rfl, rfl, rfl⟩ := hs.snil_inv
          refine done w β β.le_refl H (.refl _ _) rfl ?_
          subst et
          simp [Builtin.clear_, run_under hu]
        · rename_i b off
          split at h
          · rename_i h0
            subst h0
            cases h
            refine done w β β.le_refl H (.refl _ _) rfl ?_
            subst et
            obtain ⟨_, ⟨_, _, a', rfl⟩ | ⟨bi, cap', _, _, _, _, rfl⟩⟩ := hs.sl_inv <;> simp [Builtin.clear_, run_under hu]
          · rename_i h0
            split at h
            · rename_i z hz
              split at h
              · rename_i hzl
                simp only [Option.map_eq_some_iff] at h
                obtain ⟨g2, h1, h2⟩ := h
                cases h2
                obtain ⟨i', zv, hi', hzu, hc, rfl⟩ := zeroOf_some hz
                rw [hi] at hi'; cases hi'
                obtain ⟨_, ⟨rfl, _, _, _⟩ | ⟨bi, cap', hb, _, _, _, rfl⟩⟩ := hs.sl_inv
                · exact absurd rfl h0
                · have hcl : ∀ n, (repeatCells zv.cells.toList n).all closedCell = true := by
                    intro n
                    induction n with
                    | zero => rfl
                    | succ n ih => simp only [repeatCells, List.all_append, ih, Bool.and_true]; simpa using hc
                  obtain ⟨w1, r, H1, hnx⟩ := simStoreN (P := P) H hb (LR.closed (hcl n)) h1
                  refine done w1 β β.le_refl H1 (by rw [hnx]; exact .refl _ _) rfl ?_
                  subst et
                  have hzc : (Builtin.zeroCells zv.cells n).toList = repeatCells zv.cells.toList n := by
                    rcases Nat.eq_zero_or_pos zv.cells.size with hz0 | hz0
                    · have e1 : (Builtin.zeroCells zv.cells n).toList = [] := by
                        apply List.eq_nil_of_length_eq_zero; simp [Builtin.zeroCells, hz0]
                      have e2 : repeatCells zv.cells.toList n = [] := by
                        apply List.eq_nil_of_length_eq_zero; rw [repeatCells_length]; simp [hz0]
                      rw [e1, e2]
                    · exact repeatCells_range zv.cells hz0 n
                  unfold Builtin.clear_
                  simp only [List.getElem?_toArray, List.getElem?_cons_zero]
                  rw [Sem.run_bind, run_under hu, Result.andThen_ok]
                  have : n ≠ 0 := h0
                  cases n with
                  | zero => exact absurd rfl this
                  | succ n =>
                    simp only [Sem.run_bind, run_zero hi hzu, Result.andThen_ok, hzc, r, Sem.run_pure]
              · cases h
            · cases h
        · cases h
      · cases h
    · cases h
  · -- a call
    rename_i f args ats ho
    split at h
    · rename_i fid pre cap l hfv hargs
      obtain ⟨pre', cap', ef, hp, hcp⟩ := (hT.ev hfv).func_inv
      have hl := hT.evs hargs
      obtain ⟨fn, c, h1, h2, h3⟩ := hC.func h
      have hcalls := hC.calls h H hf hlim ((hp.append hl).append hcp)
      have hr : (execOp a.eval o).run P w = .ok (.enter fid ⟨pre' ++ args.toList.map a.eval ++ cap'⟩) w := by
        have e1 : (⟨pre'⟩ : Array Value) ++ args.map a.eval ++ (⟨cap'⟩ : Array Value) = ⟨pre' ++ args.toList.map a.eval ++ cap'⟩ := by apply Array.ext'; simp
        simp only [execOp, ho, resolve, ef, Deferred.ofValue, pure_bind, invoke, callFunc]
        rw [Sem.run_bind, run_program, Result.andThen_ok, h1]
        simp only [h3, Bool.false_eq_true, if_false, h2, Option.isNone_some, Sem.run_pure, e1]
      unfold Oper.wp; rw [hr]
      refine hcalls.mono fun e w1 he => ?_
      obtain ⟨v', β1, rfl, k1, k2, k3, k4⟩ := he
      exact hk v' w1 β1 k1 k2 k3 k4
    · cases h
  · cases h

/-- any operation -/
theorem simOper {C : Callee'} (hC : CS P C) (H : HR F w0 w g.get β) (hf : Fr lim g β) {T : TS} {a : Act} (hT : TR β T a.tmps) {o : Oper} {v : Value} {g1 : AHeap}
    (h : aOper P C T g o.op = some (v, g1)) (hlim : g1.next ≤ lim)
    (hk : ∀ v' w1 β1, β.le β1 → HR F w0 w1 g1.get β1 → VR β1 v v' → Gr g.next g1.next β β1 → next (a.put o.dst v') w1) : o.wp P a w next Q := by
  unfold aOper at h
  split at h
  · simp only [Option.map_eq_some_iff] at h
    obtain ⟨u, h1, h2⟩ := h
    cases h2
    obtain ⟨v', r, hv⟩ := simPure (P := P) (w := w) hT h1
    exact upon_val r (hk v' w β β.le_refl H hv (.refl _ _))
  · simp only [Option.map_eq_some_iff] at h
    obtain ⟨u, h1, h2⟩ := h
    cases h2
    obtain ⟨v', r, hv⟩ := simLook (P := P) H hT h1
    exact upon_val r (hk v' w β β.le_refl H hv (.refl _ _))
  · simp only [Option.map_eq_some_iff] at h
    obtain ⟨⟨u, b⟩, h1, h2⟩ := h
    cases h2
    obtain ⟨v', w1, β1, r, k1, k2, k3, k4⟩ := simMake (P := P) H (hf g.next (Nat.le_refl _) hlim) hT h1
    exact upon_val r (hk v' w1 β1 k1 (k3 _ (by rw [AHeap.get_alloc, if_pos rfl]) (fun m hm => by rw [AHeap.get_alloc, if_neg hm])) k2 k4)
  · exact simDo hC H hf hT h hlim hk

theorem yielded_eq {T : TS} {a : Act} (hT : TR β T a.tmps) (ops : Array Oper) : yieldedA ops T = yielded ops a.tmps := by
  funext j
  unfold yieldedA yielded
  cases hd : (ops[j]?).bind (·.dst) with
  | none => rfl
  | some d =>
    simp only [Option.bind_some]
    have h2 := hT.2 d
    have h1 := hT.1
    by_cases hlt : d < a.tmps.size
    · rw [Array.getElem?_eq_getElem hlt]
      have e : a.tmps.getD d undef = a.tmps[d] := by simp [Array.getD, hlt]
      rw [e] at h2
      revert h2
      generalize T.get d = x
      generalize a.tmps[d] = y
      intro h2
      cases h2 <;> first | rfl | (cases x <;> rfl)
    · rw [Array.getElem?_eq_none (Nat.le_of_not_lt hlt)]
      have : T.get d = undef := by unfold TS.get; rw [if_neg (by rw [h1]; exact hlt)]
      rw [this]; rfl

theorem simOps {C : Callee'} (hC : CS P C) {ops : Array Oper} : ∀ (l : List Oper) {g g1 : AHeap} {T T1 : TS} {a : Act} {w : World} {β : Inj}, evOps P C ops l T g = some (T1, g1) →
    HR F w0 w g.get β → Fr lim g β → g1.next ≤ lim → TR β T a.tmps →
    (∀ a1 w1 β1, a1.defers = a.defers → β.le β1 → HR F w0 w1 g1.get β1 → Gr g.next g1.next β β1 → TR β1 T1 a1.tmps → Q .normal a1 w1) → wpList P ops Q l a w := by
  have mono : ∀ (l : List Oper) {g g1 : AHeap} {T T1 : TS}, evOps P C ops l T g = some (T1, g1) → g.next ≤ g1.next := by
    intro l
    induction l with
    | nil => intro g g1 T T1 h; simp only [evOps, Option.some.injEq, Prod.mk.injEq] at h; rw [h.2]; exact Nat.le_refl _
    | cons o l ih =>
      intro g g1 T T1 h
      simp only [evOps] at h
      split at h
      · split at h
        · exact Nat.le_trans (aOper_next hC ‹_›) (ih h)
        · cases h
      · exact ih h
  intro l
  induction l with
  | nil =>
    intro g g1 T T1 a w β h H hf hlim hT hk
    simp only [evOps, Option.some.injEq, Prod.mk.injEq] at h
    obtain ⟨rfl, rfl⟩ := h
    exact hk a w β rfl β.le_refl H (.refl _ _) hT
  | cons o l ih =>
    intro g g1 T T1 a w β h H hf hlim hT hk
    simp only [evOps] at h
    rw [yielded_eq hT] at h
    unfold wpList
    split at h
    · rename_i hw
      rw [if_pos hw]
      left
      split at h
      · rename_i v g2 ho
        have hm := mono l h
        have hm0 := aOper_next hC ho
        refine simOper hC H hf hT ho (by omega) (fun v' w1 β1 k1 k2 k3 k4 => ?_)
        refine ih h k2 (hf.gr k4 hm0) hlim ((hT.mono k1).put k3) (fun a1 w2 β2 e1 e2 e3 e4 e5 => hk a1 w2 β2 (by rw [e1]; cases o.dst <;> rfl) (Inj.le_trans k1 e2) e3 (k4.trans e4 hm0 hm) e5)
      · cases h
    · rename_i hw
      rw [if_neg hw]
      refine ih h H hf hlim (hT.put (.undef β)) (fun a1 w2 β2 e1 e2 e3 e4 e5 => hk a1 w2 β2 (by rw [e1]; cases o.dst <;> rfl) e2 e3 e4 e5)

end
end Go.Ab
