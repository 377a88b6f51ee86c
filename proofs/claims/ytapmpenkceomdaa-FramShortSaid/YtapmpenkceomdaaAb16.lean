/- A region that draws its order, done; calls. -/
import Derived.Test.YtapmpenkceomdaaAb15
import Derived.Orders
namespace Go.Ab
variable {P : Program}

section
variable {C : Callee'} {ops : Array Oper} {tr : Trc P C ops ops.size} {F : Fm} {w0 w : World} {lim : Nat} {β0 β : Inj} {a0 a : Act} {S : Array Bool} {E : Nat} {G : Nat → ABlk}

theorem count_set {S : Array Bool} {i : Nat} (hi : i < S.size) (hn : ¬ inS S i) : (S.setIfInBounds i true).toList.count false + 1 = S.toList.count false := by
  have h : S[i] = false := by
    unfold inS at hn
    simpa [Array.getD, hi] using hn
  have hpos : 0 < S.toList.count false := List.count_pos_iff.2 (by rw [← h]; simp)
  rw [Array.toList_setIfInBounds, List.count_set (by simpa using hi)]
  have e : (S.toList[i]'(by simpa using hi) == false) = true := by rw [Array.getElem_toList, h]; rfl
  rw [if_pos e, if_neg (by decide)]
  omega

theorem ready_spec {i : Nat} (hsz : S.size = ops.size) : i ∈ Region.ready .any ops S ↔ ¬ inS S i ∧ ∃ o, ops[i]? = some o ∧ ∀ e ∈ o.after, Region.binds .any e = true → inS S e.on := by
  rw [mem_ready]
  unfold inS
  constructor
  · rintro ⟨h1, o, h2, h3⟩
    have hlt : i < S.size := by rw [hsz]; exact (Array.getElem?_eq_some_iff.1 h2).1
    exact ⟨by simpa [Array.getD, hlt] using h1, o, h2, h3⟩
  · rintro ⟨h1, o, h2, h3⟩
    have hlt : i < S.size := by rw [hsz]; exact (Array.getElem?_eq_some_iff.1 h2).1
    exact ⟨by simpa [Array.getD, hlt] using h1, o, h2, h3⟩

/-- nothing is ready: all is done -/
theorem all_done (st : Stat ops) (hsz : S.size = ops.size) (h : Region.ready .any ops S = []) : ∀ i, i < ops.size → inS S i := by
  intro i
  induction i using Nat.strongRecOn with
  | _ i ih =>
    intro hi
    apply Classical.byContradiction
    intro hn
    have ho : ops[i]? = some ops[i] := Array.getElem?_eq_getElem hi
    have : i ∈ Region.ready .any ops S := (ready_spec hsz).2 ⟨hn, _, ho, fun e he hb => ih e.on (st.on i _ ho e he hb) (by have := st.on i _ ho e he hb; omega)⟩
    rw [h] at this
    cases this

theorem done_none (hsz : S.size = ops.size) (h : S.toList.count false = 0) : Region.ready .any ops S = [] := by
  rw [List.eq_nil_iff_forall_not_mem]
  intro i hi
  obtain ⟨h1, o, h2, _⟩ := (ready_spec hsz).1 hi
  have hlt : i < S.size := by rw [hsz]; exact (Array.getElem?_eq_some_iff.1 h2).1
  have := count_set hlt h1
  omega

theorem tset_all (h : ∀ i, i < ops.size → inS S i) : ∀ k, k ≤ ops.size → tset tr S k = tr.T k := by
  intro k
  induction k with
  | zero => intro _; rfl
  | succ k ih =>
    intro hk
    have ho : ops[k]? = some ops[k] := Array.getElem?_eq_getElem (show k < ops.size by omega)
    simp only [tset]
    have hk' : S.getD k false = true := h k (by omega)
    rw [if_pos hk', ih (by omega), (tr.cases ho).1, dstOf_eq ho]

theorem not_inS_replicate (n i : Nat) : ¬ inS (Array.replicate n false) i := by
  unfold inS
  rw [Array.getD_eq_getD_getElem?, Array.getElem?_replicate]
  split <;> simp

theorem tset_none (n : Nat) : ∀ k, tset tr (Array.replicate n false) k = tr.T 0 := by
  intro k
  induction k with
  | zero => rfl
  | succ k ih =>
    simp only [tset]
    have h : ¬ (Array.replicate n false).getD k false = true := not_inS_replicate n k
    rw [if_neg h, ih]

theorem J.init (hC : CS P C) (H : HR F w0 w (tr.g 0).get β) (hf : Fr lim (tr.g 0) β) (hlim : (tr.g ops.size).next ≤ lim) (hT : TR β (tr.T 0) a.tmps) :
    J tr F w0 lim β a (Array.replicate ops.size false) a w β 0 (tr.g 0).get := by
  refine ⟨by simp, fun i o h => absurd h (not_inS_replicate _ _), by rw [tset_none]; exact hT, H, Nat.zero_le _, fun k hk => ⟨fun h => absurd h (not_inS_replicate _ _), fun h => by omega⟩, .inl rfl,
    fun k hk h => absurd h (not_inS_replicate _ _), fun k hk h => absurd h (not_inS_replicate _ _), fun k hk _ => ?_, fun _ _ => rfl, fun k hk _ m h1 h2 => ?_, fun m h1 h2 => ?_, fun _ _ => rfl, β.le_refl, rfl⟩
  · have := tr.next_mono hC (p := 0) (q := k) (by omega) (Nat.le_of_lt (tr.isA_lt hk))
    have : ¬ tr.name k < (tr.g 0).next := by unfold Trc.name; omega
    simp [AHeap.get, this, deadBlk]
  · have q1 := tr.next_mono hC (p := 0) (q := k) (by omega) (by omega)
    have q2 := tr.next_mono hC (p := k + 1) (q := ops.size) (by omega) (Nat.le_refl _)
    exact hf m (by omega) (by omega)
  · have q1 := tr.next_mono hC (p := 0) (q := ops.size) (by omega) (Nat.le_refl _)
    exact hf m (by omega) h2

theorem J.heap (hC : CS P C) (j : J tr F w0 lim β0 a0 S a w β E G) (h : ∀ i, i < ops.size → inS S i) : G = (tr.g ops.size).get := by
  funext m
  have hno : ∀ f, E ≤ f → f < ops.size → ¬ tr.isE f := fun f h1 h2 h3 => by
    have := (j.en f h3).1 (h f h2); omega
  by_cases hA : ∃ k, tr.isA k ∧ m = tr.name k
  · obtain ⟨k, hk, rfl⟩ := hA
    have hs := h k (tr.isA_lt hk)
    by_cases hkE : k < E
    · rw [j.ga k hk hs hkE]
      exact (tr.stable hC j.le (Nat.le_refl _) hno _ (tr.name_lt hC hk hkE j.le)).symm
    · exact j.seen hC hk hs (by omega) (tr.isA_lt hk) (Nat.le_refl _) (fun f q1 q2 => hno f (by omega) q2)
  · rw [j.go m (fun k hk e => hA ⟨k, hk, e⟩)]
    by_cases hb : m < (tr.g E).next
    · exact (tr.stable hC j.le (Nat.le_refl _) hno m hb).symm
    · by_cases hb2 : m < (tr.g ops.size).next
      · obtain ⟨k, _, _, hk, e⟩ := tr.fresh hC j.le (Nat.le_refl _) hno m (by omega) hb2
        exact absurd ⟨k, hk, e⟩ hA
      · simp [AHeap.get, hb, hb2]

theorem J.walk (hC : CS P C) (h0 : tr.log 0 = []) (st : Stat ops) {Q : Exit → Act → World → Prop}
    (hQ : ∀ a w β, a.defers = a0.defers → β0.le β → HR F w0 w (tr.g ops.size).get β → Gr (tr.g 0).next (tr.g ops.size).next β0 β → TR β (tr.T ops.size) a.tmps → Q .normal a w) :
    ∀ (fuel : Nat) (S : Array Bool) (a : Act) (w : World) (β : Inj) (E : Nat) (G : Nat → ABlk), S.toList.count false ≤ fuel → J tr F w0 lim β0 a0 S a w β E G → wpAny P .any ops Q fuel S a w := by
  have fin : ∀ {S : Array Bool} {a : Act} {w : World} {β : Inj} {E : Nat} {G : Nat → ABlk}, J tr F w0 lim β0 a0 S a w β E G → Region.ready .any ops S = [] → Q .normal a w := by
    intro S a w β E G j h
    have hall := all_done st j.size h
    have hG := j.heap hC hall
    have hs := j.slots
    rw [tset_all hall _ (Nat.le_refl _)] at hs
    exact hQ a w β j.df j.ble (hG ▸ j.hr) j.gr hs
  intro fuel
  induction fuel with
  | zero =>
    intro S a w β E G hn j
    have h := done_none j.size (by omega)
    exact ⟨h, fin j h⟩
  | succ fuel ih =>
    intro S a w β E G hn j
    refine ⟨fin j, fun i hi => ?_⟩
    obtain ⟨hni, o, ho, he⟩ := (ready_spec j.size).1 hi
    have hlt : i < ops.size := (Array.getElem?_eq_some_iff.1 ho).1
    have hcnt := count_set (by rw [j.size]; exact hlt) hni
    have go : ∀ {a' : Act} {w' : World} {β' : Inj} {E' : Nat} {G' : Nat → ABlk}, J tr F w0 lim β0 a0 (S.setIfInBounds i true) a' w' β' E' G' → wpAny P .any ops Q fuel (S.setIfInBounds i true) a' w' :=
      fun {_ _ _ _ _} j' => ih _ _ _ _ _ _ (by omega) j'
    obtain ⟨hag, hgd, _⟩ := j.agree st ho hni he
    have hwd : Region.wanted o (yielded ops a.tmps) = Region.wanted o (yieldedA ops (tr.T i)) := by
      rw [← yielded_eq j.slots]
      exact wanted_congr hgd
    unfold wpOp
    simp only [ho]
    rw [hwd]
    obtain ⟨_, hcs⟩ := tr.cases ho
    have nA : (¬ Region.wanted o (yieldedA ops (tr.T i)) = true ∨ kindOf P o.op ≠ 2) → ¬ tr.isA i := fun h hA => by
      have := tr.isA_of ho hA
      rcases h with h | h
      · exact h this.1
      · exact h this.2
    have nE : (¬ Region.wanted o (yieldedA ops (tr.T i)) = true ∨ kindOf P o.op = 0 ∨ kindOf P o.op = 1 ∨ kindOf P o.op = 2) → ¬ tr.isE i := fun h hE => by
      have := tr.isE_of ho hE
      rcases h with h | h | h | h
      · exact h this.1
      · exact this.2.1 h
      · exact this.2.2.1 h
      · exact this.2.2.2 h
    rcases hcs with ⟨h1, h2, _⟩ | ⟨h1, h2, h3, _⟩ | ⟨h1, h2, h3, h4, _⟩ | ⟨h1, h2, b, h3, h4, _⟩ | ⟨h1, h2, h3, h4, h', h5, h6, _⟩
    · rw [if_neg h1]
      exact go (j.same st ho hni he (nA (.inl h1)) (nE (.inl h1)) (by rw [h2]; exact .undef β))
    · rw [if_pos h1]; left
      rw [← aPure_congr hag] at h3
      obtain ⟨v', r, hv⟩ := simPure (P := P) (w := w) j.slots h3
      exact upon_val r (go (j.same st ho hni he (nA (.inr (by rw [h2]; decide))) (nE (.inr (.inl h2))) hv))
    · rw [if_pos h1]; left
      obtain ⟨v', r, hv⟩ := j.look hC h0 st ho hni he h1 h2 h3 h4
      exact upon_val r (go (j.same st ho hni he (nA (.inr (by rw [h2]; decide))) (nE (.inr (.inr (.inl h2)))) hv))
    · rw [if_pos h1]; left
      have hA : tr.isA i := ⟨o, ⟨ho, h1⟩, h2⟩
      rw [← aMake_congr hag] at h3
      have hnx : (tr.g (i + 1)).next = (tr.g i).next + 1 := by rw [h4]; rfl
      obtain ⟨v', w1, β1, r, k1, k2, k3, k4⟩ := simMake (P := P) j.hr (j.fr i hlt hni (tr.g i).next (Nat.le_refl _) (by omega)) j.slots h3
      obtain ⟨G1, j'⟩ := j.make hC h0 st ho hni he hA h4 k1 k2 k3 k4
      exact upon_val r (go j')
    · rw [if_pos h1]; left
      exact j.eff hC h0 st ho hni he ⟨o, ⟨ho, h1⟩, h2⟩ h3 h4 h5 h6 (fun a' w' β' E' G' j' => go j')

end

theorem trc_of {C : Callee'} {ops : Array Oper} {T T1 : TS} {g g1 : AHeap} (h : evDraw P C ops (Region.before ops) ops.toList 0 T g [] = some (T1, g1)) :
    ∃ tr : Trc P C ops ops.size, tr.T 0 = T ∧ tr.g 0 = g ∧ tr.log 0 = [] ∧ tr.T ops.size = T1 ∧ tr.g ops.size = g1 := by
  obtain ⟨Ts, gs, logs, vs, a1, a2, a3, a4, a5, a6⟩ := trace_of ops.toList 0 h
  refine ⟨⟨Ts, gs, logs, vs, fun i o hi ho => ?_⟩, a1, a2, a3, by simpa using a4, by simpa using a5⟩
  have := a6 i o (by simpa using ho)
  simpa using this

theorem simDraw (hm : P.follows .mixedOrders = true) (C : Callee') (hC : CS P C) : DS P C where
  mono := fun {ops T g T1 g1} _ h => by
    obtain ⟨tr, a1, a2, a3, a4, a5⟩ := trc_of h
    rw [← a2, ← a5]
    exact tr.next_mono hC (Nat.zero_le _) (Nat.le_refl _)
  wp := fun {ops T g T1 g1} hok h {F w0 w β lim a Q} id H hf hlim hT hk => by
    obtain ⟨tr, a1, a2, a3, a4, a5⟩ := trc_of h
    subst a1 a2 a4 a5
    refine wp_region_any hm (J.walk (tr := tr) (F := F) (w0 := w0) (lim := lim) (β0 := β) (a0 := a) hC a3 (stat_of hok) (fun a1 w1 β1 e1 e2 e3 e4 e5 => hk a1 w1 β1 e1 e2 e3 e4 e5) _ _ _ _ β 0 (tr.g 0).get ?_
      (J.init hC (H.congr rfl ⟨rfl, rfl⟩) hf hlim hT))
    rw [Array.toList_replicate]
    simp

/-- whatever the tape says: a call is what the abstract run says -/
theorem sound (hm : P.follows .mixedOrders = true) (n d : Nat) : CS P (aCall P n d) := simCall (simDraw hm) n d

end Go.Ab
