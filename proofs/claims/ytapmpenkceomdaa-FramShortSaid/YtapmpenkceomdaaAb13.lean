/- A region that draws its order: the invariant, and its steps. -/
import Derived.Test.YtapmpenkceomdaaAb12
namespace Go.Ab
variable {P : Program}

section
variable {C : Callee'} {ops : Array Oper} (tr : Trc P C ops ops.size)

def Trc.wantd (i : Nat) (o : Oper) : Prop := ops[i]? = some o ∧ Region.wanted o (yieldedA ops (tr.T i)) = true
def Trc.isA (i : Nat) : Prop := ∃ o, tr.wantd i o ∧ kindOf P o.op = 2
def Trc.isE (i : Nat) : Prop := ∃ o, tr.wantd i o ∧ kindOf P o.op ≠ 0 ∧ kindOf P o.op ≠ 1 ∧ kindOf P o.op ≠ 2
def Trc.name (i : Nat) : Nat := (tr.g i).next
def dstOf (ops : Array Oper) (i : Nat) : Option Tmp := (ops[i]?).bind (·.dst)

/-- what an operation did -/
theorem Trc.cases {i : Nat} {o : Oper} (hi : ops[i]? = some o) :
    tr.T (i + 1) = (tr.T i).put o.dst (tr.v i) ∧
    ((¬ Region.wanted o (yieldedA ops (tr.T i)) = true ∧ tr.v i = undef ∧ tr.g (i + 1) = tr.g i ∧ tr.log (i + 1) = tr.log i) ∨
     (Region.wanted o (yieldedA ops (tr.T i)) = true ∧ kindOf P o.op = 0 ∧ aPure P (tr.T i) o.op = some (tr.v i) ∧ tr.g (i + 1) = tr.g i ∧ tr.log (i + 1) = tr.log i) ∨
     (Region.wanted o (yieldedA ops (tr.T i)) = true ∧ kindOf P o.op = 1 ∧ aLook P (tr.T i) (maskH (tr.g i) (hids (Region.before ops) i (tr.log i))) o.op = some (tr.v i) ∧
        (∀ e ∈ tr.log i, e.kind = 3 → ordered (Region.before ops) i e.i = false → ∀ b, lookBlock (tr.T i) o.op = some b → (b < e.pre.next ∧ aLook P (tr.T i) e.pre o.op = some (tr.v i)) ∨ e.post ≤ b) ∧
        tr.g (i + 1) = tr.g i ∧ ∃ x y, tr.log (i + 1) = ⟨i, 1, 0, x, y, tr.T i, o.op, tr.v i⟩ :: tr.log i) ∨
     (Region.wanted o (yieldedA ops (tr.T i)) = true ∧ kindOf P o.op = 2 ∧ ∃ b, aMake P (tr.T i) (tr.g i).next o.op = some (tr.v i, b) ∧ tr.g (i + 1) = (tr.g i).alloc b ∧
        ∃ x y z u q, tr.log (i + 1) = ⟨i, 2, (tr.g i).next, x, y, z, u, q⟩ :: tr.log i) ∨
     (Region.wanted o (yieldedA ops (tr.T i)) = true ∧ (kindOf P o.op ≠ 0 ∧ kindOf P o.op ≠ 1 ∧ kindOf P o.op ≠ 2) ∧
        (∀ m ∈ hids (Region.before ops) i (tr.log i), ((tr.g i).get m).st = 0) ∧ (∀ e ∈ tr.log i, e.kind = 3 → ordered (Region.before ops) i e.i = true) ∧
        ∃ h1, aDo P C (tr.T i) (maskH (tr.g i) (hids (Region.before ops) i (tr.log i))) o.op = some (tr.v i, h1) ∧
          tr.g (i + 1) = unmaskH h1 (tr.g i) (hids (Region.before ops) i (tr.log i)) ∧
          (∀ e ∈ tr.log i, e.kind = 1 → ordered (Region.before ops) i e.i = false → aLook P e.T (tr.g (i + 1)) e.op = some e.v) ∧
          ∃ z u q, tr.log (i + 1) = ⟨i, 3, 0, tr.g i, (tr.g (i + 1)).next, z, u, q⟩ :: tr.log i)) := by
  have hlt : i < ops.size := (Array.getElem?_eq_some_iff.1 hi).1
  obtain ⟨hs, hT⟩ := tr.step i o hlt hi
  refine ⟨hT, ?_⟩
  unfold dStep at hs
  split at hs
  · rename_i hw
    right
    split at hs
    · rename_i hk
      simp only [Option.map_eq_some_iff] at hs
      obtain ⟨v, hv, e⟩ := hs
      simp only [Prod.mk.injEq] at e
      obtain ⟨rfl, e2, e3⟩ := e
      exact .inl ⟨hw, hk, hv, e2.symm, e3.symm⟩
    · rename_i hk
      split at hs
      · rename_i v hv
        split at hs
        · rename_i hall
          simp only [Option.some.injEq, Prod.mk.injEq] at hs
          obtain ⟨rfl, e2, e3⟩ := hs
          refine .inr (.inl ⟨hw, hk, hv, fun e he h3 ho b hb => ?_, e2.symm, _, _, e3.symm⟩)
          have := List.all_eq_true.1 hall e he
          simp only [h3, beq_self_eq_true, Bool.not_true, Bool.false_or, ho, hb, Bool.or_eq_true, Bool.and_eq_true, decide_eq_true_eq] at this
          rcases this with ⟨q1, q2⟩ | q
          · exact .inl ⟨q1, seenAt_eq q2⟩
          · exact .inr q
        · cases hs
      · cases hs
    · rename_i hk
      simp only [Option.map_eq_some_iff] at hs
      obtain ⟨⟨v, b⟩, hv, e⟩ := hs
      simp only [Prod.mk.injEq] at e
      obtain ⟨rfl, e2, e3⟩ := e
      exact .inr (.inr (.inl ⟨hw, hk, b, hv, e2.symm, _, _, _, _, _, e3.symm⟩))
    · rename_i h0 h1 h2
      split at hs
      · rename_i hall
        simp only [Bool.and_eq_true] at hall
        obtain ⟨ha1, ha2⟩ := hall
        split at hs
        · rename_i v h1' hv
          split at hs
          · rename_i hall3
            simp only [Option.some.injEq, Prod.mk.injEq] at hs
            obtain ⟨rfl, e2, e3⟩ := hs
            refine .inr (.inr (.inr ⟨hw, ⟨h0, h1, h2⟩, fun m hm => ?_, fun e he h3 => ?_, h1', hv, e2.symm, fun e he h3 ho => ?_, ?_⟩))
            · simpa using List.all_eq_true.1 ha1 m hm
            · have := List.all_eq_true.1 ha2 e he
              simpa [h3] using this
            · have := List.all_eq_true.1 hall3 e he
              simp only [h3, beq_self_eq_true, Bool.not_true, Bool.false_or, ho] at this
              rw [← e2]; exact seenAt_eq this
            · refine ⟨tr.T i, o.op, tr.v i, ?_⟩
              rw [← e3, ← e2, unmaskH_next]
          · cases hs
        · cases hs
      · cases hs
  · rename_i hw
    simp only [Option.some.injEq, Prod.mk.injEq] at hs
    obtain ⟨e1, e2, e3⟩ := hs
    exact .inl ⟨hw, e1.symm, e2.symm, e3.symm⟩

variable {tr}
theorem Trc.isA_lt {i : Nat} (h : tr.isA i) : i < ops.size := by
  obtain ⟨o, ⟨h, _⟩, _⟩ := h; exact (Array.getElem?_eq_some_iff.1 h).1
theorem Trc.isE_lt {i : Nat} (h : tr.isE i) : i < ops.size := by
  obtain ⟨o, ⟨h, _⟩, _⟩ := h; exact (Array.getElem?_eq_some_iff.1 h).1

theorem Trc.isA_of {i : Nat} {o : Oper} (hi : ops[i]? = some o) (h : tr.isA i) : Region.wanted o (yieldedA ops (tr.T i)) = true ∧ kindOf P o.op = 2 := by
  obtain ⟨o', ⟨h1, h2⟩, h3⟩ := h
  rw [hi] at h1; cases h1; exact ⟨h2, h3⟩
theorem Trc.isE_of {i : Nat} {o : Oper} (hi : ops[i]? = some o) (h : tr.isE i) : Region.wanted o (yieldedA ops (tr.T i)) = true ∧ kindOf P o.op ≠ 0 ∧ kindOf P o.op ≠ 1 ∧ kindOf P o.op ≠ 2 := by
  obtain ⟨o', ⟨h1, h2⟩, h3⟩ := h
  rw [hi] at h1; cases h1; exact ⟨h2, h3⟩

/-- a new block -/
theorem Trc.alc {i : Nat} (h : tr.isA i) : ∃ b, tr.g (i + 1) = (tr.g i).alloc b ∧ b.st = 0 := by
  obtain ⟨o, ⟨hi, hw⟩, hk⟩ := h
  obtain ⟨_, hc⟩ := tr.cases hi
  rcases hc with ⟨h, _⟩ | ⟨_, h, _⟩ | ⟨_, h, _⟩ | ⟨_, _, b, h1, h2, _⟩ | ⟨_, h, _⟩
  · exact absurd hw h
  · omega
  · omega
  · exact ⟨b, h2, aMake_st h1⟩
  · exact absurd hk h.2.2
/-- neither -/
theorem Trc.same {i : Nat} (hi : i < ops.size) (h1 : ¬ tr.isA i) (h2 : ¬ tr.isE i) : tr.g (i + 1) = tr.g i := by
  have hio : ops[i]? = some ops[i] := Array.getElem?_eq_getElem hi
  obtain ⟨_, hc⟩ := tr.cases hio
  rcases hc with ⟨_, _, h, _⟩ | ⟨_, _, _, h, _⟩ | ⟨_, _, _, _, h, _⟩ | ⟨hw, hk, _⟩ | ⟨hw, hk, _⟩
  · exact h
  · exact h
  · exact h
  · exact absurd ⟨_, ⟨hio, hw⟩, hk⟩ h1
  · exact absurd ⟨_, ⟨hio, hw⟩, hk⟩ h2

theorem Trc.next_le (hC : CS P C) {i : Nat} (hi : i < ops.size) : (tr.g i).next ≤ (tr.g (i + 1)).next := by
  have hio : ops[i]? = some ops[i] := Array.getElem?_eq_getElem hi
  obtain ⟨_, hc⟩ := tr.cases hio
  rcases hc with ⟨_, _, h, _⟩ | ⟨_, _, _, h, _⟩ | ⟨_, _, _, _, h, _⟩ | ⟨_, _, b, _, h, _⟩ | ⟨_, _, _, _, h1, hd, h, _⟩
  · rw [h]; exact Nat.le_refl _
  · rw [h]; exact Nat.le_refl _
  · rw [h]; exact Nat.le_refl _
  · rw [h]; exact Nat.le_succ _
  · rw [h, unmaskH_next]
    have := aDo_next hC hd
    rwa [maskH_next] at this
theorem Trc.next_mono (hC : CS P C) {p q : Nat} (h : p ≤ q) (hq : q ≤ ops.size) : (tr.g p).next ≤ (tr.g q).next := by
  induction q with
  | zero => have : p = 0 := by omega
            rw [this]; exact Nat.le_refl _
  | succ q ih =>
    by_cases e : p = q + 1
    · rw [e]; exact Nat.le_refl _
    · exact Nat.le_trans (ih (by omega) (by omega)) (tr.next_le hC (by omega))

theorem Trc.name_lt (hC : CS P C) {k q : Nat} (hk : tr.isA k) (h : k < q) (hq : q ≤ ops.size) : tr.name k < (tr.g q).next := by
  obtain ⟨b, e, _⟩ := tr.alc hk
  have : (tr.g (k + 1)).next = (tr.g k).next + 1 := by rw [e]; rfl
  have := tr.next_mono hC (p := k + 1) (q := q) (by omega) hq
  unfold Trc.name; omega
theorem Trc.name_inj (hC : CS P C) {j k : Nat} (hj : tr.isA j) (hk : tr.isA k) (h : tr.name j = tr.name k) : j = k := by
  rcases Nat.lt_trichotomy j k with h1 | h1 | h1
  · have := tr.name_lt hC hj h1 (Nat.le_of_lt (tr.isA_lt hk)); unfold Trc.name at *; omega
  · exact h1
  · have := tr.name_lt hC hk h1 (Nat.le_of_lt (tr.isA_lt hj)); unfold Trc.name at *; omega

/-- as long as nothing does more -/
theorem Trc.stable (hC : CS P C) {p : Nat} : ∀ {q : Nat}, p ≤ q → q ≤ ops.size → (∀ k, p ≤ k → k < q → ¬ tr.isE k) → ∀ m, m < (tr.g p).next → (tr.g q).get m = (tr.g p).get m := by
  intro q
  induction q with
  | zero => intro h1 _ _ m _; have : p = 0 := by omega
            rw [this]
  | succ q ih =>
    intro h1 h2 h3 m hm
    by_cases e : p = q + 1
    · rw [e]
    · have hih := ih (by omega) (by omega) (fun k a b => h3 k a (by omega)) m hm
      rw [← hih]
      by_cases hA : tr.isA q
      · obtain ⟨b, eg, _⟩ := tr.alc hA
        have := tr.next_mono hC (p := p) (q := q) (by omega) (by omega)
        rw [eg, AHeap.get_alloc, if_neg (by omega)]
      · rw [tr.same (by omega) hA (h3 q (by omega) (by omega))]
theorem Trc.fresh (_ : CS P C) {p : Nat} : ∀ {q : Nat}, p ≤ q → q ≤ ops.size → (∀ k, p ≤ k → k < q → ¬ tr.isE k) → ∀ m, (tr.g p).next ≤ m → m < (tr.g q).next → ∃ k, p ≤ k ∧ k < q ∧ tr.isA k ∧ m = tr.name k := by
  intro q
  induction q with
  | zero => intro h1 _ _ m h4 h5; have : p = 0 := by omega
            rw [this] at h4; omega
  | succ q ih =>
    intro h1 h2 h3 m h4 h5
    by_cases e : p = q + 1
    · rw [e] at h4; omega
    · by_cases hlt : m < (tr.g q).next
      · obtain ⟨k, a, b, c, d⟩ := ih (by omega) (by omega) (fun k a b => h3 k a (by omega)) m h4 hlt
        exact ⟨k, a, by omega, c, d⟩
      · by_cases hA : tr.isA q
        · obtain ⟨b, eg, _⟩ := tr.alc hA
          have : (tr.g (q + 1)).next = (tr.g q).next + 1 := by rw [eg]; rfl
          exact ⟨q, by omega, by omega, hA, by unfold Trc.name; omega⟩
        · rw [tr.same (by omega) hA (h3 q (by omega) (by omega))] at h5; omega

/-- the log -/
structure LogOk (tr : Trc P C ops ops.size) (i : Nat) : Prop where
  ent : ∀ e ∈ tr.log i, e.i < i ∧ ((e.kind = 1) ∨ (e.kind = 2 ∧ tr.isA e.i ∧ e.name = tr.name e.i) ∨ (e.kind = 3 ∧ tr.isE e.i ∧ e.pre = tr.g e.i ∧ e.post = (tr.g (e.i + 1)).next))
  alc : ∀ k, k < i → tr.isA k → ∃ e ∈ tr.log i, e.kind = 2 ∧ e.i = k ∧ e.name = tr.name k
  eff : ∀ k, k < i → tr.isE k → ∃ e ∈ tr.log i, e.kind = 3 ∧ e.i = k ∧ e.pre = tr.g k ∧ e.post = (tr.g (k + 1)).next
  lk : ∀ k o, k < i → tr.wantd k o → kindOf P o.op = 1 → ∃ e ∈ tr.log i, e.kind = 1 ∧ e.i = k ∧ e.T = tr.T k ∧ e.op = o.op ∧ e.v = tr.v k

theorem Trc.logOk (h0 : tr.log 0 = []) : ∀ i, i ≤ ops.size → LogOk tr i := by
  intro i
  induction i with
  | zero => intro _; exact ⟨fun e he => by rw [h0] at he; simp at he, fun k hk => by omega, fun k hk => by omega, fun k o hk => by omega⟩
  | succ i ih =>
    intro hi
    have L := ih (by omega)
    have hio : ops[i]? = some ops[i] := Array.getElem?_eq_getElem (by omega)
    obtain ⟨_, hc⟩ := tr.cases hio
    -- the log as it was
    have keep : tr.log (i + 1) = tr.log i → ¬ tr.isA i → ¬ tr.isE i → (∀ o, tr.wantd i o → kindOf P o.op ≠ 1) → LogOk tr (i + 1) := by
      intro e hA hE hL
      refine ⟨fun x hx => ?_, fun k hk h => ?_, fun k hk h => ?_, fun k o hk h1 h2 => ?_⟩
      · rw [e] at hx; obtain ⟨a, b⟩ := L.ent x hx; exact ⟨by omega, b⟩
      · rw [e]; exact L.alc k (by rcases Nat.lt_succ_iff_lt_or_eq.1 hk with h' | h'; exact h'; exact absurd (h' ▸ h) hA) h
      · rw [e]; exact L.eff k (by rcases Nat.lt_succ_iff_lt_or_eq.1 hk with h' | h'; exact h'; exact absurd (h' ▸ h) hE) h
      · rw [e]
        rcases Nat.lt_succ_iff_lt_or_eq.1 hk with h' | h'
        · exact L.lk k o h' h1 h2
        · subst h'; exact absurd h2 (hL o h1)
    have more : ∀ x, tr.log (i + 1) = x :: tr.log i → x.i = i → ((x.kind = 1) ∨ (x.kind = 2 ∧ tr.isA x.i ∧ x.name = tr.name x.i) ∨ (x.kind = 3 ∧ tr.isE x.i ∧ x.pre = tr.g x.i ∧ x.post = (tr.g (x.i + 1)).next)) →
        (tr.isA i → x.kind = 2 ∧ x.name = tr.name i) → (tr.isE i → x.kind = 3 ∧ x.pre = tr.g i ∧ x.post = (tr.g (i + 1)).next) →
        (∀ o, tr.wantd i o → kindOf P o.op = 1 → x.kind = 1 ∧ x.T = tr.T i ∧ x.op = o.op ∧ x.v = tr.v i) → LogOk tr (i + 1) := by
      intro x e hx h1 hA hE hL
      refine ⟨fun y hy => ?_, fun k hk h => ?_, fun k hk h => ?_, fun k o hk q1 q2 => ?_⟩
      · rw [e] at hy
        rcases List.mem_cons.1 hy with rfl | hy
        · exact ⟨by omega, h1⟩
        · obtain ⟨a, b⟩ := L.ent y hy; exact ⟨by omega, b⟩
      · rw [e]
        rcases Nat.lt_succ_iff_lt_or_eq.1 hk with h' | h'
        · obtain ⟨y, a, b⟩ := L.alc k h' h; exact ⟨y, by simp [a], b⟩
        · subst h'; obtain ⟨a, b⟩ := hA h; exact ⟨x, by simp, a, hx, b⟩
      · rw [e]
        rcases Nat.lt_succ_iff_lt_or_eq.1 hk with h' | h'
        · obtain ⟨y, a, b⟩ := L.eff k h' h; exact ⟨y, by simp [a], b⟩
        · subst h'; obtain ⟨a, b⟩ := hE h; exact ⟨x, by simp, a, hx, b⟩
      · rw [e]
        rcases Nat.lt_succ_iff_lt_or_eq.1 hk with h' | h'
        · obtain ⟨y, a, b⟩ := L.lk k o h' q1 q2; exact ⟨y, by simp [a], b⟩
        · subst h'; obtain ⟨a, b⟩ := hL o q1 q2; exact ⟨x, by simp, a, hx, b⟩
    have un : ∀ o, tr.wantd i o → o = ops[i] ∧ Region.wanted ops[i] (yieldedA ops (tr.T i)) = true := by
      intro o h
      obtain ⟨h1, h2⟩ := h
      rw [hio] at h1; cases h1; exact ⟨rfl, h2⟩
    rcases hc with ⟨hw, _, _, e⟩ | ⟨hw, hk, _, _, e⟩ | ⟨hw, hk, _, _, _, x, y, e⟩ | ⟨hw, hk, b, _, _, x, y, z, u, q, e⟩ | ⟨hw, hk, _, _, h1, _, _, _, z, u, q, e⟩
    · exact keep e (fun ⟨o, h, _⟩ => hw (un o h).2) (fun ⟨o, h, _⟩ => hw (un o h).2) (fun o h => absurd (un o h).2 hw)
    · exact keep e (fun ⟨o, h, h2⟩ => by rw [(un o h).1] at h2; omega) (fun ⟨o, h, h2⟩ => by rw [(un o h).1] at h2; omega) (fun o h => by rw [(un o h).1]; omega)
    · exact more _ e rfl (.inl rfl) (fun ⟨o, h, h2⟩ => by rw [(un o h).1] at h2; omega) (fun ⟨o, h, h2⟩ => by rw [(un o h).1] at h2; omega) (fun o h _ => ⟨rfl, rfl, by rw [(un o h).1], rfl⟩)
    · exact more _ e rfl (.inr (.inl ⟨rfl, ⟨_, ⟨hio, hw⟩, hk⟩, rfl⟩)) (fun _ => ⟨rfl, rfl⟩) (fun ⟨o, h, h2⟩ => by rw [(un o h).1] at h2; omega) (fun o h h2 => by rw [(un o h).1] at h2; omega)
    · exact more _ e rfl (.inr (.inr ⟨rfl, ⟨_, ⟨hio, hw⟩, hk⟩, rfl, rfl⟩)) (fun ⟨o, h, h2⟩ => by rw [(un o h).1] at h2; omega) (fun _ => ⟨rfl, rfl, rfl⟩) (fun o h h2 => by rw [(un o h).1] at h2; omega)

theorem Trc.mem_hids (h0 : tr.log 0 = []) {i : Nat} (hi : i ≤ ops.size) (m : Nat) :
    m ∈ hids (Region.before ops) i (tr.log i) ↔ ∃ k, k < i ∧ tr.isA k ∧ ordered (Region.before ops) i k = false ∧ m = tr.name k := by
  have L := tr.logOk h0 i hi
  unfold hids
  simp only [List.mem_map, List.mem_filter, Bool.and_eq_true, beq_iff_eq, Bool.not_eq_true']
  constructor
  · rintro ⟨e, ⟨he, hk, ho⟩, rfl⟩
    obtain ⟨h1, h2 | ⟨h2, h3, h4⟩ | ⟨h2, _⟩⟩ := L.ent e he
    · omega
    · exact ⟨e.i, h1, h3, ho, h4⟩
    · omega
  · rintro ⟨k, hk, hA, ho, rfl⟩
    obtain ⟨e, he, h1, h2, h3⟩ := L.alc k hk hA
    exact ⟨e, ⟨he, h1, by rw [h2]; exact ho⟩, h3⟩

/-- a block that an operation doesn't stand behind is as it was -/
theorem Trc.kept (hC : CS P C) (h0 : tr.log 0 = []) {k : Nat} (hk : tr.isA k) {p : Nat} (hp : k < p) : ∀ {q : Nat}, p ≤ q → q ≤ ops.size → (∀ f, p ≤ f → f < q → tr.isE f → ordered (Region.before ops) f k = false) →
    (tr.g q).get (tr.name k) = (tr.g p).get (tr.name k) := by
  intro q
  induction q with
  | zero => intro h1 _ _; have : p = 0 := by omega
            rw [this]
  | succ q ih =>
    intro h1 h2 h3
    by_cases e : p = q + 1
    · rw [e]
    · rw [← ih (by omega) (by omega) (fun f a b => h3 f a (by omega))]
      by_cases hE : tr.isE q
      · have ho := h3 q (by omega) (by omega) hE
        obtain ⟨o, ⟨hq, hw⟩, hkd⟩ := hE
        obtain ⟨_, hc⟩ := tr.cases hq
        rcases hc with ⟨h, _⟩ | ⟨_, h, _⟩ | ⟨_, h, _⟩ | ⟨_, h, _⟩ | ⟨_, _, _, _, h1', hd, hg, _⟩
        · exact absurd hw h
        · omega
        · omega
        · omega
        · rw [hg, unmaskH_get, if_pos]
          refine ⟨(tr.mem_hids h0 (by omega) _).2 ⟨k, by omega, hk, ho, rfl⟩, ?_⟩
          have := aDo_next hC hd
          rw [maskH_next] at this
          have := tr.name_lt hC hk (q := q) (by omega) (by omega)
          omega
      · exact tr.stable hC (by omega) h2 (fun j a b => by have : j = q := by omega
                                                          rw [this]; exact hE) _ (tr.name_lt hC hk (by omega) (by omega))

end
end Go.Ab
