/- Code and calls: the abstract run is the model's, whatever the tape says (regions that draw: a premise, met in Ab12). -/
import Derived.Test.YtapmpenkceomdaaAb9
import Derived.LoopN
namespace Go.Ab
variable {P : Program}

def toExit : AExit → Exit
  | .normal => .normal
  | .exit id => .exit id
  | .ret => .ret

/-- what is promised behind a piece of code -/
def Then (Q : Exit → Act → World → Prop) (F : Fm) (w0 : World) (n : Nat) (β : Inj) (a : Act) (e : AExit) (T1 : TS) (g1 : AHeap) : Prop :=
  ∀ a1 w1 β1, a1.defers = a.defers → β.le β1 → HR F w0 w1 g1.get β1 → Gr n g1.next β β1 → TR β1 T1 a1.tmps → Q (toExit e) a1 w1

/-- regions that draw their order -/
structure DS (P : Program) (C : Callee') : Prop where
  mono : ∀ {ops T g T1 g1}, drawOk ops = true → evDraw P C ops (Region.before ops) ops.toList 0 T g [] = some (T1, g1) → g.next ≤ g1.next
  wp : ∀ {ops T g T1 g1}, drawOk ops = true → evDraw P C ops (Region.before ops) ops.toList 0 T g [] = some (T1, g1) →
    ∀ {F w0 w β lim a Q} (id : Nat), HR F w0 w g.get β → Fr lim g β → g1.next ≤ lim → TR β T a.tmps → Then Q F w0 g.next β a .normal T1 g1 → (Code.region id ops true).wp P Q a w

theorem evOps_next {C : Callee'} (hC : CS P C) {ops : Array Oper} : ∀ (l : List Oper) {g g1 : AHeap} {T T1 : TS}, evOps P C ops l T g = some (T1, g1) → g.next ≤ g1.next := by
  intro l
  induction l with
  | nil => intro g g1 T T1 h; simp only [evOps, Option.some.injEq, Prod.mk.injEq] at h; rw [h.2]; exact Nat.le_refl _
  | cons o l ih =>
    intro g g1 T T1 h
    simp only [evOps] at h
    split at h
    · split at h
      · exact Nat.le_trans (aOper_next hC ‹_›) (ih h)
      · cases h
    · exact ih h

theorem iter_next {f : TS → AHeap → ARes} (hf : ∀ {T g e T1 g1}, f T g = some (e, T1, g1) → g.next ≤ g1.next) : ∀ (k : Nat) {T g e T1 g1}, iter f k T g = some (e, T1, g1) → g.next ≤ g1.next := by
  intro k
  induction k with
  | zero => intro T g e T1 g1 h; cases h
  | succ k ih =>
    intro T g e T1 g1 h
    simp only [iter] at h
    split at h
    · exact Nat.le_trans (hf ‹_›) (ih h)
    · exact hf h

theorem evCode_next {C : Callee'} (hC : CS P C) (hD : DS P C) (n : Nat) : ∀ (c : Code) {T g e T1 g1}, evCode P C n c T g = some (e, T1, g1) → g.next ≤ g1.next := by
  intro c
  induction c with
  | skip => intro T g e T1 g1 h; simp only [evCode, Option.some.injEq, Prod.mk.injEq] at h; rw [h.2.2]; exact Nat.le_refl _
  | region id ops draw =>
    intro T g e T1 g1 h
    cases draw with
    | false =>
      simp only [evCode, Option.map_eq_some_iff] at h
      obtain ⟨⟨T', g'⟩, h1, h2⟩ := h
      cases h2
      exact evOps_next hC _ h1
    | true =>
      simp only [evCode] at h
      split at h
      · simp only [Option.map_eq_some_iff] at h
        obtain ⟨⟨T', g'⟩, h1, h2⟩ := h
        cases h2
        exact hD.mono ‹_› h1
      · cases h
  | seq a b iha ihb =>
    intro T g e T1 g1 h
    simp only [evCode] at h
    split at h
    · exact Nat.le_trans (iha ‹_›) (ihb h)
    · exact iha h
  | cond c a b iha ihb =>
    intro T g e T1 g1 h
    simp only [evCode] at h
    split at h
    · exact iha h
    · exact ihb h
    · cases h
  | block id a iha =>
    intro T g e T1 g1 h
    simp only [evCode] at h
    split at h
    · split at h
      · cases h; exact iha ‹_›
      · cases h; exact iha ‹_›
    · exact iha h
  | loop a iha => intro T g e T1 g1 h; exact iter_next (fun h => iha h) n h
  | exit id => intro T g e T1 g1 h; simp only [evCode, Option.some.injEq, Prod.mk.injEq] at h; rw [h.2.2]; exact Nat.le_refl _
  | ret => intro T g e T1 g1 h; simp only [evCode, Option.some.injEq, Prod.mk.injEq] at h; rw [h.2.2]; exact Nat.le_refl _
  | _ => intro T g e T1 g1 h; simp [evCode] at h

theorem simRounds {C : Callee'} (hC : CS P C) (hD : DS P C) {n : Nat} {c : Code} {F : Fm} {w0 : World} {lim : Nat}
    (ih : ∀ {T g e T1 g1 a w β Q}, evCode P C n c T g = some (e, T1, g1) → HR F w0 w g.get β → Fr lim g β → g1.next ≤ lim → TR β T a.tmps → Then Q F w0 g.next β a e T1 g1 → c.wp P Q a w) :
    ∀ (k : Nat) {T g e T1 g1 a w β Q}, iter (evCode P C n c) k T g = some (e, T1, g1) → HR F w0 w g.get β → Fr lim g β → g1.next ≤ lim → TR β T a.tmps → Then Q F w0 g.next β a e T1 g1 →
      Code.rounds P c Q k a w := by
  intro k
  induction k with
  | zero => intro T g e T1 g1 a w β Q h; cases h
  | succ k ihk =>
    intro T g e T1 g1 a w β Q h H hf hlim hT hk
    simp only [iter] at h
    show c.wp P (Exit.then (Code.rounds P c Q k) Q) a w
    split at h
    · rename_i T2 g2 h1
      have hm := iter_next (fun h => evCode_next hC hD n c h) k h
      have hm0 := evCode_next hC hD n c h1
      refine ih h1 H hf (by omega) hT (fun a1 w1 β1 e1 e2 e3 e4 e5 => ?_)
      exact ihk h e3 (hf.gr e4 hm0) hlim e5 (fun a2 w2 β2 q1 q2 q3 q4 q5 => hk a2 w2 β2 (q1.trans e1) (Inj.le_trans e2 q2) q3 (e4.trans q4 hm0 hm) q5)
    · rename_i hne
      refine ih h H hf hlim hT (fun a1 w1 β1 e1 e2 e3 e4 e5 => ?_)
      have := hk a1 w1 β1 e1 e2 e3 e4 e5
      cases e with
      | normal => exact absurd h (hne T1 g1)
      | exit id => exact this
      | ret => exact this

theorem simCode {C : Callee'} (hC : CS P C) (hD : DS P C) (n : Nat) {F : Fm} {w0 : World} {lim : Nat} : ∀ (c : Code) {T g e T1 g1 a w β Q}, evCode P C n c T g = some (e, T1, g1) →
    HR F w0 w g.get β → Fr lim g β → g1.next ≤ lim → TR β T a.tmps → Then Q F w0 g.next β a e T1 g1 → c.wp P Q a w := by
  intro c
  induction c with
  | skip =>
    intro T g e T1 g1 a w β Q h H hf hlim hT hk
    simp only [evCode, Option.some.injEq, Prod.mk.injEq] at h
    obtain ⟨rfl, rfl, rfl⟩ := h
    exact wp_skip (hk a w β rfl β.le_refl H (.refl _ _) hT)
  | region id ops draw =>
    intro T g e T1 g1 a w β Q h H hf hlim hT hk
    cases draw with
    | false =>
      simp only [evCode, Option.map_eq_some_iff] at h
      obtain ⟨⟨T', g'⟩, h1, h2⟩ := h
      cases h2
      exact wp_region_list (simOps hC _ h1 H hf hlim hT hk)
    | true =>
      simp only [evCode] at h
      split at h
      · simp only [Option.map_eq_some_iff] at h
        obtain ⟨⟨T', g'⟩, h1, h2⟩ := h
        cases h2
        exact hD.wp ‹_› h1 id H hf hlim hT hk
      · cases h
  | seq x y ihx ihy =>
    intro T g e T1 g1 a w β Q h H hf hlim hT hk
    simp only [evCode] at h
    refine wp_seq ?_
    split at h
    · rename_i T2 g2 h1
      have hm := evCode_next hC hD n y h
      have hm0 := evCode_next hC hD n x h1
      refine ihx h1 H hf (by omega) hT (fun a1 w1 β1 e1 e2 e3 e4 e5 => ?_)
      exact ihy h e3 (hf.gr e4 hm0) hlim e5 (fun a2 w2 β2 q1 q2 q3 q4 q5 => hk a2 w2 β2 (q1.trans e1) (Inj.le_trans e2 q2) q3 (e4.trans q4 hm0 hm) q5)
    · rename_i hne
      refine ihx h H hf hlim hT (fun a1 w1 β1 e1 e2 e3 e4 e5 => ?_)
      have := hk a1 w1 β1 e1 e2 e3 e4 e5
      cases e with
      | normal => exact absurd h (hne T1 g1)
      | exit id => exact this
      | ret => exact this
  | cond c x y ihx ihy =>
    intro T g e T1 g1 a w β Q h H hf hlim hT hk
    simp only [evCode] at h
    split at h
    · rename_i hc
      exact wp_cond_true (hT.ev hc).bool_inv (ihx h H hf hlim hT hk)
    · rename_i hc
      exact wp_cond_false (hT.ev hc).bool_inv (ihy h H hf hlim hT hk)
    · cases h
  | block id x ihx =>
    intro T g e T1 g1 a w β Q h H hf hlim hT hk
    simp only [evCode] at h
    refine wp_block ?_
    split at h
    · rename_i j T2 g2 h1
      split at h
      · rename_i hj
        cases h
        refine ihx h1 H hf hlim hT (fun a1 w1 β1 e1 e2 e3 e4 e5 => ?_)
        have := hk a1 w1 β1 e1 e2 e3 e4 e5
        simp only [toExit, Exit.inBlock, hj, if_true]
        exact this
      · rename_i hj
        cases h
        refine ihx h1 H hf hlim hT (fun a1 w1 β1 e1 e2 e3 e4 e5 => ?_)
        have := hk a1 w1 β1 e1 e2 e3 e4 e5
        simp only [toExit, Exit.inBlock, hj, if_false]
        exact this
    · rename_i hne
      refine ihx h H hf hlim hT (fun a1 w1 β1 e1 e2 e3 e4 e5 => ?_)
      have := hk a1 w1 β1 e1 e2 e3 e4 e5
      cases e with
      | normal => exact this
      | exit j => exact absurd h (hne j T1 g1)
      | ret => exact this
  | loop x ihx =>
    intro T g e T1 g1 a w β Q h H hf hlim hT hk
    exact wp_loop_rounds n (simRounds hC hD (fun {_ _ _ _ _ _ _ _ _} h1 h2 h3 h4 h5 h6 => ihx h1 h2 h3 h4 h5 h6) n h H hf hlim hT hk)
  | exit id =>
    intro T g e T1 g1 a w β Q h H hf hlim hT hk
    simp only [evCode, Option.some.injEq, Prod.mk.injEq] at h
    obtain ⟨rfl, rfl, rfl⟩ := h
    exact wp_exit (hk a w β rfl β.le_refl H (.refl _ _) hT)
  | ret =>
    intro T g e T1 g1 a w β Q h H hf hlim hT hk
    simp only [evCode, Option.some.injEq, Prod.mk.injEq] at h
    obtain ⟨rfl, rfl, rfl⟩ := h
    exact wp_ret (hk a w β rfl β.le_refl H (.refl _ _) hT)
  | _ => intro T g e T1 g1 a w β Q h; simp [evCode] at h

/-! calls -/
theorem TR_ofArgs {β : Inj} {n : Nat} : ∀ (args args' : List Value) (i : Nat) (T : TS) (tmps : Array Value), LR β args args' → T.n = tmps.size → i + args.length ≤ T.n →
    (∀ k, k < i → VR β (T.get k) (tmps.getD k undef)) → (∀ k, i ≤ k → k < i + args.length → tmps[k]? = args'[k - i]?) → (∀ k, i + args.length ≤ k → VR β (T.get k) (tmps.getD k undef)) →
    TR β (TS.ofArgs n args i T) tmps := by
  intro args
  induction args with
  | nil =>
    intro args' i T tmps hl hn hi h1 h2 h3
    exact ⟨hn, fun k => by
      by_cases hk : k < i
      · exact h1 k hk
      · exact h3 k (by simpa using hk)⟩
  | cons v args ih =>
    intro args' i T tmps hl hn hi h1 h2 h3
    obtain ⟨v', l', rfl, hv, hl'⟩ := hl.of_cons
    simp only [TS.ofArgs]
    simp only [List.length_cons] at hi h2 h3
    refine ih l' (i + 1) (T.set i v) tmps hl' (by rw [TS.n_set]; exact hn) (by rw [TS.n_set]; omega) (fun k hk => ?_) (fun k hk1 hk2 => ?_) (fun k hk => ?_)
    · rw [TS.get_set]
      by_cases e : k = i
      · rw [if_pos ⟨e, by omega⟩]
        have := h2 i (Nat.le_refl _) (by omega)
        simp only [Nat.sub_self, List.getElem?_cons_zero] at this
        subst e
        have hlt : k < tmps.size := by rw [← hn]; omega
        simp only [Array.getD, hlt, dif_pos]
        rw [Array.getElem?_eq_getElem hlt] at this
        cases this
        exact hv
      · rw [if_neg (fun x => e x.1)]
        exact h1 k (by omega)
    · have := h2 k (by omega) (by omega)
      rw [this, show k - i = (k - (i + 1)) + 1 by omega]; rfl
    · rw [TS.get_set, if_neg (by omega)]
      exact h3 k (by omega)

theorem TR_init {β : Inj} {args args' : List Value} (h : LR β args args') (n : Nat) :
    TR β (TS.init args n) ((⟨args'⟩ : Array Value) ++ Array.replicate (n - (⟨args'⟩ : Array Value).size) undef) := by
  have hl := h.1
  have hget : ∀ k, TS.get ⟨.leaf, max args.length n⟩ k = undef := by
    intro k; unfold TS.get; split <;> rfl
  refine TR_ofArgs args args' 0 _ _ h ?_ (by simp only; omega) (fun k hk => by omega) (fun k hk1 hk2 => ?_) (fun k hk => ?_)
  · simp; omega
  · simp only [Nat.zero_add] at hk2
    rw [Array.getElem?_append_left (by simp; omega)]
    simp
  · rw [hget]
    have : ((⟨args'⟩ : Array Value) ++ Array.replicate (n - (⟨args'⟩ : Array Value).size) undef).getD k undef = undef := by
      rw [Array.getD_eq_getD_getElem?, Array.getElem?_append_right (by simp; omega), Array.getElem?_replicate]
      split <;> rfl
    rw [this]; exact .undef β

theorem evRes_next {T : TS} {g : AHeap} {F : Fm} {w0 w : World} {β : Inj} (H : HR F w0 w g.get β) {tmps : Array Value} (hT : TR β T tmps) : ∀ {rs : List ResultVar} {vs : List Value}, evRes P T g rs = some vs →
    ∃ vs' : List Value, (rs.mapM (fun | .tmp t => pure (tmps.getD t undef) | .cell a t => do loadVar t (← asAddr (tmps.getD a undef)) : ResultVar → Sem Value)).run P w = .ok vs' w ∧ LR β vs vs' := by
  intro rs
  induction rs with
  | nil => intro vs h; simp only [evRes, Option.some.injEq] at h; subst h; exact ⟨[], rfl, .nil β⟩
  | cons r rs ih =>
    intro vs h
    simp only [evRes] at h
    split at h
    · rename_i v vs' hv hvs
      cases h
      obtain ⟨us, r1, r2⟩ := ih hvs
      cases r with
      | tmp t =>
        simp only [Option.some.injEq] at hv
        subst hv
        refine ⟨tmps.getD t undef :: us, ?_, .cons (hT.2 t) r2⟩
        rw [List.mapM_cons, Sem.run_bind, Sem.run_pure, Result.andThen_ok, Sem.run_bind, r1]; rfl
      | cell a t =>
        simp only at hv
        obtain ⟨v', q1, q2⟩ := simLoad (P := P) H (hT.2 a) hv
        refine ⟨v' :: us, ?_, .cons q2 r2⟩
        have q3 : (do loadVar t (← asAddr (tmps.getD a undef)) : Sem Value).run P w = .ok v' w := by
          have h2 := hT.2 a
          revert h2 hv q1
          generalize T.get a = y
          generalize tmps.getD a undef = y'
          intro hv q1 h2
          unfold aLoad at hv
          split at hv
          · obtain ⟨bi, _, _, ea⟩ := h2.ptr_inv
            rw [ea] at q1 ⊢; exact q1
          · obtain ⟨bi, _, _, ea⟩ := h2.ptr_inv
            rw [ea] at q1 ⊢; exact q1
          · cases hv
        rw [List.mapM_cons, Sem.run_bind, q3, Result.andThen_ok, Sem.run_bind, r1]; rfl
    · cases h

theorem tupled_VR {β : Inj} {vs vs' : List Value} (h : LR β vs vs') : VR β (tupled vs) (if h : (⟨vs'⟩ : Array Value).size = 1 then (⟨vs'⟩ : Array Value)[0] else .tuple ⟨vs'⟩) := by
  unfold tupled
  split
  · rename_i v
    obtain ⟨v', l, rfl, hv, hl⟩ := h.of_cons
    have := hl.of_nil; subst this
    exact hv
  · rename_i hne
    have hl := h.1
    have : ¬ (⟨vs'⟩ : Array Value).size = 1 := by
      intro e
      simp at e
      rw [e] at hl
      match vs, hl with
      | [v], _ => exact hne v rfl
    rw [dif_neg this]
    exact h.tuple

theorem simCall (hD : ∀ C, CS P C → DS P C) (n : Nat) : ∀ d, CS P (aCall P n d) := by
  intro d
  induction d with
  | zero => exact { mono := fun h => (by cases h), func := fun h => (by cases h), calls := fun h => (by cases h) }
  | succ d ih =>
    have hDS := hD _ ih
    have open_ : ∀ {f args g v g1}, aCall P n (d + 1) f args g = some (v, g1) → ∃ fn c e T vs, P.funcs[f]? = some fn ∧ fn.body = some c ∧ (fn.name == "runtime.NumGoroutine") = false ∧
        evCode P (aCall P n d) n c (TS.init args fn.ntmps) g = some (e, T, g1) ∧ (∀ id, e ≠ .exit id) ∧ evRes P T g1 fn.results.toList = some vs ∧ v = tupled vs := by
      intro f args g v g1 h
      simp only [aCall] at h
      split at h
      · rename_i fn hfn
        split at h
        · rename_i c hc
          split at h
          · cases h
          · rename_i hname
            cases hev : evCode P (aCall P n d) n c (TS.init args fn.ntmps) g with
            | none => rw [hev] at h; cases h
            | some r =>
              obtain ⟨e, T, g2⟩ := r
              rw [hev] at h
              have fin : (match evRes P T g2 fn.results.toList with | some vs => some (tupled vs, g2) | none => none) = some (v, g1) → (∀ id, e ≠ .exit id) → ∃ fn c e T vs, P.funcs[f]? = some fn ∧ fn.body = some c ∧ (fn.name == "runtime.NumGoroutine") = false ∧
                  evCode P (aCall P n d) n c (TS.init args fn.ntmps) g = some (e, T, g1) ∧ (∀ id, e ≠ .exit id) ∧ evRes P T g1 fn.results.toList = some vs ∧ v = tupled vs := by
                intro h he
                split at h
                · rename_i vs hvs
                  cases h
                  exact ⟨fn, c, e, T, vs, hfn, hc, by simpa using hname, hev, he, hvs, rfl⟩
                · cases h
              cases e with
              | exit id => cases h
              | normal => exact fin h (by simp)
              | ret => exact fin h (by simp)
        · cases h
      · cases h
    refine { mono := fun h => ?_, func := fun h => ?_, calls := fun {f args g v g1} h {F w0 w β lim args'} H hf hlim hl => ?_ }
    · obtain ⟨fn, c, e, T, vs, _, _, _, h4, _⟩ := open_ h
      exact evCode_next ih hDS n c h4
    · obtain ⟨fn, c, e, T, vs, h1, h2, h3, _⟩ := open_ h
      exact ⟨fn, c, h1, h2, h3⟩
    · obtain ⟨fn, c, e, T, vs, h1, h2, h3, h4, h5, h6, rfl⟩ := open_ h
      refine calls_of_wp h1 h2 ?_
      refine simCode ih hDS n c h4 H hf hlim (TR_init hl fn.ntmps) (fun a1 w1 β1 e1 e2 e3 e4 e5 => ?_)
      have hres : a1.defers = [] ∧ ∃ v', (results fn a1.tmps).run P w1 = .ok v' w1 ∧ ∃ v'' β', Ending.returned v' = .returned v'' ∧ β.le β' ∧ HR F w0 w1 g1.get β' ∧ VR β' (tupled vs) v'' ∧ Gr g.next g1.next β β' := by
        refine ⟨e1, ?_⟩
        obtain ⟨vs', r1, r2⟩ := evRes_next (P := P) e3 e5 h6
        refine ⟨_, ?_, _, β1, rfl, e2, e3, tupled_VR r2, e4⟩
        unfold results
        rw [Array.mapM_eq_mapM_toList, Sem.run_bind, Sem.run_map]
        have key : ∀ (m : Sem (List Value)) (k : List Value → World → Result (Array Value)) (k' : Array Value → World → Result Value), m.run P w1 = .ok vs' w1 → ((m.run P w1).andThen k).andThen k' = (k vs' w1).andThen k' := fun m k k' h => by rw [h]; rfl
        exact key _ _ _ r1
      cases e with
      | normal => exact hres
      | exit id => exact absurd rfl (h5 id)
      | ret => exact hres

end Go.Ab
