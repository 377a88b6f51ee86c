/- A region that draws its order: whatever the order, it comes to what the text's order comes to. -/
import Derived.Test.YtapmpenkceomdaaAb11
namespace Go.Ab
variable {P : Program} {F : Fm} {w0 w w1 : World} {β β1 : Inj}

/-! two heaps side by side -/
def Fm.with (F : Fm) (Ex : Nat → Prop) (G X : Nat → ABlk) (β : Inj) : Fm :=
  ⟨fun k => F.p k ∨ ∃ m bi, Ex m ∧ (G m).st = 0 ∧ β m = some bi ∧ bi.cb = k, X⟩

theorem HR.enter {G X : Nat → ABlk} (H : HR F w0 w G β) (hX : ∀ m, X m = G m ∨ (X m).st = 2) (Ex : Nat → Prop) (hEx : ∀ m, Ex m → (X m).st = 2) :
    HR (F.with Ex G X β) w w X β := by
  have HX := H.less hX
  refine ⟨HX.blk, HX.sep, HX.shr, fun n bi hn hb hF => ?_, fun _ _ _ _ _ => rfl, fun _ _ => rfl, fun k hk => ?_, ⟨rfl, rfl⟩⟩
  · rcases hF with hF | ⟨m, bm, hm, hm0, hbm, hc⟩
    · exact HX.frF n bi hn hb hF
    · have hne : n ≠ m := fun e => by rw [e, hEx m hm] at hn; cases hn
      have hGn : (G n).st = 0 := by
        rcases hX n with h | h
        · rw [← h]; exact hn
        · omega
      exact H.sep n m bi bm hne hGn hm0 hb hbm hc.symm
  · rcases hk with hk | ⟨m, bm, hm, hm0, hbm, rfl⟩
    · exact H.old k hk
    · obtain ⟨bi, arr, ty, fz, hb, B⟩ := H.blk m (by omega)
      rw [hbm] at hb; cases hb
      exact (Array.getElem?_eq_some_iff.1 B.here).1

theorem HR.merge {G X h : Nat → ABlk} (H : HR F w0 w G β) (hX : ∀ m, X m = G m ∨ (X m).st = 2) (Ex : Nat → Prop) (hG : ∀ m, Ex m → (G m).st = 0)
    (K : HR (F.with Ex G X β) w w1 h β1) (hle : β.le β1) {G' : Nat → ABlk} (hG' : ∀ m, (Ex m ∧ G' m = G m) ∨ (¬ Ex m ∧ G' m = h m) ∨ (G' m).st = 2) : HR F w0 w1 G' β1 := by
  have inj : ∀ m bm, (G m).st < 2 → β1 m = some bm → β m = some bm := by
    intro m bm hm hbm
    obtain ⟨bi, _, _, _, hb, _⟩ := H.blk m hm
    have := hle m bi hb
    rw [hbm] at this; cases this; exact hb
  have exF : ∀ m bm, Ex m → β1 m = some bm → (F.with Ex G X β).p bm.cb := fun m bm hm hbm => .inr ⟨m, bm, hm, hG m hm, inj m bm (by rw [hG m hm]; omega) hbm, rfl⟩
  have grownX : ∀ m bm, (h m).st = 1 → β1 m = some bm → (F.with Ex G X β).p bm.cb → h m = G m := by
    intro m bm hm hbm hF
    have e : h m = X m := K.frC m bm hm hbm hF
    rcases hX m with h' | h'
    · rw [e, h']
    · rw [e] at hm; omega
  refine ⟨fun m hm => ?_, fun n m bn bm hne hn hm hbn hbm => ?_, fun n m bn bm hn hm hbn hbm ec => ?_, fun n bn hn hbn hF => ?_, fun m bm hm hbm hF => ?_, fun k hk => ?_, fun k hk => K.old k (.inl hk), ⟨K.env.1.trans H.env.1, K.env.2.trans H.env.2⟩⟩
  · rcases hG' m with ⟨e, h'⟩ | ⟨e, h'⟩ | h'
    · obtain ⟨bi, arr, ty, fz, hb, B⟩ := H.blk m (by rw [hG m e]; omega)
      rw [h']
      refine ⟨bi, arr, ty, fz, hle m bi hb, ⟨?_, B.size, B.esz, B.room, B.fits, fun i v hi => ?_, B.free⟩⟩
      · rw [K.keep bi.cb (exF m bi e (hle m bi hb))]; exact B.here
      · obtain ⟨v', h1, h2⟩ := B.cell i v hi
        exact ⟨v', h1, h2.mono hle⟩
    · rw [h'] at hm ⊢; exact K.blk m hm
    · omega
  · rcases hG' n with ⟨en, hn'⟩ | ⟨en, hn'⟩ | hn'
    · rcases hG' m with ⟨em, hm'⟩ | ⟨em, hm'⟩ | hm'
      · exact H.sep n m bn bm hne (hG n en) (hG m em) (inj n bn (by rw [hG n en]; omega) hbn) (inj m bm (by rw [hG m em]; omega) hbm)
      · rw [hm'] at hm
        intro ec
        exact K.frF m bm hm hbm (ec ▸ exF n bn en hbn)
      · omega
    · rcases hG' m with ⟨em, hm'⟩ | ⟨em, hm'⟩ | hm'
      · rw [hn'] at hn
        intro ec
        exact K.frF n bn hn hbn (ec ▸ exF m bm em hbm)
      · rw [hn'] at hn; rw [hm'] at hm
        exact K.sep n m bn bm hne hn hm hbn hbm
      · omega
    · omega
  · rcases hG' m with ⟨em, hm'⟩ | ⟨em, hm'⟩ | hm'
    · rw [hm', hG m em] at hm; omega
    · rw [hm'] at hm
      rcases hG' n with ⟨en, hn'⟩ | ⟨en, hn'⟩ | hn'
      · have e := grownX m bm hm hbm (ec ▸ exF n bn en hbn)
        rw [hn']
        rw [e] at hm
        exact H.shr n m bn bm (hG n en) hm (inj n bn (by rw [hG n en]; omega) hbn) (inj m bm (by omega) hbm) ec
      · rw [hn'] at hn ⊢
        exact K.shr n m bn bm hn hm hbn hbm ec
      · omega
    · omega
  · rcases hG' n with ⟨en, hn'⟩ | ⟨en, hn'⟩ | hn'
    · exact H.frF n bn (hG n en) (inj n bn (by rw [hG n en]; omega) hbn) hF
    · rw [hn'] at hn; exact K.frF n bn hn hbn (.inl hF)
    · omega
  · rcases hG' m with ⟨em, hm'⟩ | ⟨em, hm'⟩ | hm'
    · rw [hm', hG m em] at hm; omega
    · rw [hm'] at hm ⊢
      have e := grownX m bm hm hbm (.inl hF)
      rw [e] at hm ⊢
      exact H.frC m bm hm (inj m bm (by omega) hbm) hF
    · omega
  · rw [K.keep k (.inl hk)]; exact H.keep k hk

/-! what stands ahead of what -/
def inner (acc : Array Nat) (o : Oper) : Nat := o.after.foldl (fun s e => if Region.binds .any e then s ||| 2 ^ e.on ||| acc.getD e.on 0 else s) 0

theorem inner_spec (acc : Array Nat) (o : Oper) (j : Nat) (h : (inner acc o).testBit j = true) : ∃ e ∈ o.after, Region.binds .any e = true ∧ (e.on = j ∨ (acc.getD e.on 0).testBit j = true) := by
  have key : ∀ (l : List Edge) (s : Nat), (l.foldl (fun s e => if Region.binds .any e then s ||| 2 ^ e.on ||| acc.getD e.on 0 else s) s).testBit j = true →
      s.testBit j = true ∨ ∃ e ∈ l, Region.binds .any e = true ∧ (e.on = j ∨ (acc.getD e.on 0).testBit j = true) := by
    intro l
    induction l with
    | nil => intro s h; exact .inl h
    | cons e l ih =>
      intro s h
      simp only [List.foldl_cons] at h
      rcases ih _ h with h1 | ⟨e', he', h2⟩
      · by_cases hb : Region.binds .any e = true
        · rw [if_pos hb] at h1
          simp only [Nat.testBit_or, Bool.or_eq_true, Nat.testBit_two_pow, decide_eq_true_eq] at h1
          rcases h1 with (h1 | h1) | h1
          · exact .inl h1
          · exact .inr ⟨e, by simp, hb, .inl h1⟩
          · exact .inr ⟨e, by simp, hb, .inr h1⟩
        · rw [if_neg hb] at h1; exact .inl h1
      · exact .inr ⟨e', by simp [he'], h2⟩
  unfold inner at h
  rw [← Array.foldl_toList] at h
  rcases key _ _ h with h1 | ⟨e, he, h2⟩
  · simp at h1
  · exact ⟨e, by simpa using he, h2⟩

theorem before_fold : ∀ (l : List Oper) (acc : Array Nat), (∀ x, x < acc.size → ((l.foldl (fun acc o => acc.push (inner acc o)) acc).getD x 0) = acc.getD x 0) ∧
    ∀ i o, l[i]? = some o → ∃ acc', (l.foldl (fun acc o => acc.push (inner acc o)) acc).getD (acc.size + i) 0 = inner acc' o ∧
      ∀ x, x < acc.size + i → acc'.getD x 0 = (l.foldl (fun acc o => acc.push (inner acc o)) acc).getD x 0 := by
  intro l
  induction l with
  | nil => intro acc; exact ⟨fun _ _ => rfl, fun i o h => by simp at h⟩
  | cons o l ih =>
    intro acc
    simp only [List.foldl_cons]
    obtain ⟨h1, h2⟩ := ih (acc.push (inner acc o))
    have hp : ∀ x, x < acc.size → (acc.push (inner acc o)).getD x 0 = acc.getD x 0 := fun x hx => by
      simp [Array.getD, hx, Nat.lt_succ_of_lt hx, Array.getElem_push_lt]
    refine ⟨fun x hx => ?_, fun i u hi => ?_⟩
    · rw [h1 x (by simp; omega), hp x hx]
    · cases i with
      | zero =>
        simp only [List.getElem?_cons_zero, Option.some.injEq] at hi
        subst hi
        refine ⟨acc, ?_, fun x hx => ?_⟩
        · rw [h1 _ (by simp)]
          simp [Array.getD]
        · rw [h1 x (by simp; omega), hp x (by omega)]
      | succ i =>
        simp only [List.getElem?_cons_succ] at hi
        obtain ⟨acc', q1, q2⟩ := h2 i u hi
        simp only [Array.size_push] at q1 q2
        refine ⟨acc', ?_, fun x hx => q2 x (by omega)⟩
        rw [show acc.size + (i + 1) = acc.size + 1 + i by omega]; exact q1

theorem before_spec {ops : Array Oper} {i : Nat} {o : Oper} (hi : ops[i]? = some o) (hon : ∀ e ∈ o.after, Region.binds .any e = true → e.on < i) {j : Nat} (h : ordered (Region.before ops) i j = true) :
    ∃ e ∈ o.after, Region.binds .any e = true ∧ (e.on = j ∨ ordered (Region.before ops) e.on j = true) := by
  have e : Region.before ops = ops.toList.foldl (fun acc o => acc.push (inner acc o)) #[] := by
    unfold Region.before; rw [← Array.foldl_toList]; rfl
  unfold ordered at h ⊢
  rw [e] at h ⊢
  obtain ⟨_, h2⟩ := before_fold ops.toList #[]
  obtain ⟨acc', q1, q2⟩ := h2 i o (by simpa using hi)
  simp only [Array.size_empty, Nat.zero_add] at q1 q2
  rw [q1] at h
  obtain ⟨ed, he, hb, hj⟩ := inner_spec acc' o j h
  refine ⟨ed, he, hb, ?_⟩
  rcases hj with hj | hj
  · exact .inl hj
  · right; rw [← q2 ed.on (hon ed he hb)]; exact hj

/-! the run in the text's order, step by step -/
structure Trc (P : Program) (C : Callee') (ops : Array Oper) (n : Nat) where
  T : Nat → TS
  g : Nat → AHeap
  log : Nat → List Ent
  v : Nat → Value
  step : ∀ i o, i < n → ops[i]? = some o → dStep P C ops (Region.before ops) i o (T i) (g i) (log i) = some (v i, g (i + 1), log (i + 1)) ∧ T (i + 1) = (T i).put o.dst (v i)

theorem trace_of {C : Callee'} {ops : Array Oper} {B : Array Nat} : ∀ (l : List Oper) (i : Nat) {T T1 : TS} {g g1 : AHeap} {log : List Ent}, evDraw P C ops B l i T g log = some (T1, g1) →
    ∃ (Ts : Nat → TS) (gs : Nat → AHeap) (logs : Nat → List Ent) (vs : Nat → Value), Ts i = T ∧ gs i = g ∧ logs i = log ∧ Ts (i + l.length) = T1 ∧ gs (i + l.length) = g1 ∧
      ∀ k o, l[k]? = some o → dStep P C ops B (i + k) o (Ts (i + k)) (gs (i + k)) (logs (i + k)) = some (vs (i + k), gs (i + k + 1), logs (i + k + 1)) ∧ Ts (i + k + 1) = (Ts (i + k)).put o.dst (vs (i + k)) := by
  intro l
  induction l with
  | nil =>
    intro i T T1 g g1 log h
    simp only [evDraw, Option.some.injEq, Prod.mk.injEq] at h
    obtain ⟨rfl, rfl⟩ := h
    exact ⟨fun _ => T, fun _ => g, fun _ => log, fun _ => undef, rfl, rfl, rfl, rfl, rfl, fun k o h => by simp at h⟩
  | cons o l ih =>
    intro i T T1 g g1 log h
    simp only [evDraw] at h
    split at h
    · rename_i v g' log' hs
      obtain ⟨Ts, gs, logs, vs, a1, a2, a3, a4, a5, a6⟩ := ih (i + 1) h
      refine ⟨fun k => if k = i then T else Ts k, fun k => if k = i then g else gs k, fun k => if k = i then log else logs k, fun k => if k = i then v else vs k, by simp, by simp, by simp, ?_, ?_, fun k u hk => ?_⟩
      · simp only [List.length_cons]; rw [if_neg (by omega), ← a4]; congr 1; omega
      · simp only [List.length_cons]; rw [if_neg (by omega), ← a5]; congr 1; omega
      · cases k with
        | zero =>
          simp only [List.getElem?_cons_zero, Option.some.injEq] at hk
          subst hk
          simp only [Nat.add_zero, if_true, if_neg (Nat.succ_ne_self i)]
          exact ⟨by rw [hs, a2, a3], a1⟩
        | succ k =>
          simp only [List.getElem?_cons_succ] at hk
          have := a6 k u hk
          have e : i + (k + 1) = i + 1 + k := by omega
          simp only [e, if_neg (show ¬ i + 1 + k = i by omega), if_neg (show ¬ i + 1 + k + 1 = i by omega)]
          exact this
    · cases h

end Go.Ab
