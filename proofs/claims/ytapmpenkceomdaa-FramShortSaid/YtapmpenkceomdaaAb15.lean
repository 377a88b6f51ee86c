/- A region that draws its order: the invariant kept, and the region done. -/
import Derived.Test.YtapmpenkceomdaaAb14
namespace Go.Ab
variable {P : Program}

section
variable {C : Callee'} {ops : Array Oper}

structure J (tr : Trc P C ops ops.size) (F : Fm) (w0 : World) (lim : Nat) (β0 : Inj) (a0 : Act) (S : Array Bool) (a : Act) (w : World) (β : Inj) (E : Nat) (G : Nat → ABlk) : Prop where
  size : S.size = ops.size
  closed : ∀ i o, inS S i → ops[i]? = some o → ∀ e ∈ o.after, Region.binds .any e = true → inS S e.on
  slots : TR β (tset tr S ops.size) a.tmps
  hr : HR F w0 w G β
  le : E ≤ ops.size
  en : ∀ k, tr.isE k → (inS S k ↔ k < E)
  em : E = 0 ∨ ∃ f, E = f + 1 ∧ tr.isE f
  ga : ∀ k, tr.isA k → inS S k → k < E → G (tr.name k) = (tr.g E).get (tr.name k)
  gb : ∀ k, tr.isA k → inS S k → E ≤ k → G (tr.name k) = (tr.g (k + 1)).get (tr.name k)
  gd : ∀ k, tr.isA k → ¬ inS S k → (G (tr.name k)).st = 2
  go : ∀ m, (∀ k, tr.isA k → m ≠ tr.name k) → G m = (tr.g E).get m
  fr : ∀ k, k < ops.size → ¬ inS S k → ∀ m, (tr.g k).next ≤ m → m < (tr.g (k + 1)).next → β m = none
  fo : ∀ m, (tr.g ops.size).next ≤ m → m < lim → β m = none
  gr : Gr (tr.g 0).next (tr.g ops.size).next β0 β
  ble : β0.le β
  df : a.defers = a0.defers

variable {tr : Trc P C ops ops.size} {F : Fm} {w0 w : World} {lim : Nat} {β0 β : Inj} {a0 a : Act} {S : Array Bool} {E : Nat} {G : Nat → ABlk}

theorem put_defers (a : Act) (d : Option Tmp) (v : Value) : (a.put d v).defers = a.defers := by cases d <;> rfl

/-- what an operation that is next sees of the slots -/
theorem J.agree (st : Stat ops) (j : J tr F w0 lim β0 a0 S a w β E G) {i : Nat} {o : Oper} (hi : ops[i]? = some o) (hni : ¬ inS S i)
    (he : ∀ e ∈ o.after, Region.binds .any e = true → inS S e.on) :
    Agree (tset tr S ops.size) (tr.T i) o.op ∧ (∀ b, o.guard = some b → yieldedA ops (tset tr S ops.size) b.1 = yieldedA ops (tr.T i) b.1) ∧
    (∀ j' t, j' < ops.size → i < j' → dstOf ops i = some t → dstOf ops j' = some t → ¬ inS S j') := by
  have hlt : i < ops.size := (Array.getElem?_eq_some_iff.1 hi).1
  have hbef := closed_before st j.closed i o hi he
  have hcl : ∀ k, inS S k → k < ops.size → ∀ m, ordered (Region.before ops) k m = true → inS S m := fun k hk hkl m hm =>
    closed_before st j.closed k _ (Array.getElem?_eq_getElem hkl) (j.closed k _ hk (Array.getElem?_eq_getElem hkl)) m hm
  have key : ∀ t, t ∈ Ab.slots o → (tset tr S ops.size).get t = (tr.T i).get t := by
    intro t ht
    refine agree_slot (by omega) hni (fun k hk hne hd => ⟨fun hlt' => ?_, fun hlt' hs => ?_⟩)
    · have hko : ops[k]? = some ops[k] := Array.getElem?_eq_getElem hk
      rcases st.apart k i o _ hlt' hi hko with h | h
      · exact hbef k h
      · exact absurd ht ((apart_dst h).2 t (by rw [← dstOf_eq hko]; exact hd))
    · have hko : ops[k]? = some ops[k] := Array.getElem?_eq_getElem hk
      rcases st.apart i k _ o hlt' hko hi with h | h
      · exact hni (hcl k hs hk i h)
      · exact (apart_dst h).1 t (by rw [← dstOf_eq hko]; exact hd) ht
  refine ⟨fun x hx => ?_, fun b hb => ?_, fun k t hk hlt' hdi hdk hs => ?_⟩
  · cases x with
    | tmp t =>
      simp only [TS.ev]
      rw [key t (mem_slots hx)]
    | _ => rfl
  · obtain ⟨j0, want⟩ := b
    obtain ⟨⟨e, hm, h1, h2⟩, h3⟩ := st.guard i o j0 want hi hb
    have hj0 : j0 < i := h1 ▸ st.on i o hi e hm h2
    have hs0 : inS S j0 := h1 ▸ he e hm h2
    unfold yieldedA
    cases hd : (ops[j0]?).bind (·.dst) with
    | none => rfl
    | some d =>
      simp only
      have : (tset tr S ops.size).get d = (tr.T i).get d := by
        refine agree_slot (by omega) hni (fun k hk hne hdk => ?_)
        have hk0 : k = j0 := h3 k d hk hdk hd
        subst hk0
        exact ⟨fun _ => hs0, fun h => by omega⟩
      rw [this]
  · have hko : ops[k]? = some ops[k] := Array.getElem?_eq_getElem hk
    rcases st.apart i k _ o hlt' hko hi with h | h
    · exact hni (hcl k hs hk i h)
    · have h1 : o.dst = some t := by rw [← dstOf_eq hi]; exact hdi
      have h2 : ops[k].dst = some t := by rw [← dstOf_eq hko]; exact hdk
      exact (apart_dst h).1 t h2 (dst_mem_slots h1)

theorem wanted_congr {o : Oper} {y y' : Nat → Option Bool} (h : ∀ b, o.guard = some b → y b.1 = y' b.1) : Region.wanted o y = Region.wanted o y' := by
  unfold Region.wanted
  cases hg : o.guard with
  | none => rfl
  | some b => obtain ⟨j, want⟩ := b; simp only; rw [h (j, want) hg]

/-- the slots behind -/
theorem J.slots' (st : Stat ops) (j : J tr F w0 lim β0 a0 S a w β E G) {i : Nat} {o : Oper} (hi : ops[i]? = some o) (hni : ¬ inS S i)
    (he : ∀ e ∈ o.after, Region.binds .any e = true → inS S e.on) {β' : Inj} (hb : β.le β') {v' : Value} (hv : VR β' (tr.v i) v') :
    TR β' (tset tr (S.setIfInBounds i true) ops.size) (a.put o.dst v').tmps := by
  have hlt : i < ops.size := (Array.getElem?_eq_some_iff.1 hi).1
  have h1 := (j.slots.mono hb).put (dst := o.dst) hv
  obtain ⟨_, _, hw⟩ := j.agree st hi hni he
  refine ⟨?_, fun t => ?_⟩
  · rw [tset_n, ← tset_n (tr := tr) S ops.size, ← put_n (tset tr S ops.size) o.dst (tr.v i)]; exact h1.1
  · rw [tset_put hlt j.size hni (fun k t hk hlt' h1 h2 => hw k t hk hlt' h1 h2) t, dstOf_eq hi]
    exact h1.2 t

/-- an operation that leaves the heap alone -/
theorem J.same (st : Stat ops) (j : J tr F w0 lim β0 a0 S a w β E G) {i : Nat} {o : Oper} (hi : ops[i]? = some o) (hni : ¬ inS S i)
    (he : ∀ e ∈ o.after, Region.binds .any e = true → inS S e.on) (hA : ¬ tr.isA i) (hE : ¬ tr.isE i) {v' : Value} (hv : VR β (tr.v i) v') :
    J tr F w0 lim β0 a0 (S.setIfInBounds i true) (a.put o.dst v') w β E G := by
  have hlt : i < ops.size := (Array.getElem?_eq_some_iff.1 hi).1
  have hS : ∀ k, inS (S.setIfInBounds i true) k ↔ inS S k ∨ k = i := inS_set (by rw [j.size]; exact hlt)
  refine ⟨by simp [j.size], fun k u hk hu e hm hb => ?_, j.slots' st hi hni he (Inj.le_refl β) hv, j.hr, j.le, fun k hk => ?_, j.em, fun k hk hs hlt' => ?_, fun k hk hs hlt' => ?_, fun k hk hs => ?_, j.go, fun k hk hs => ?_, j.fo, j.gr, j.ble, by rw [put_defers]; exact j.df⟩
  · rw [hS] at hk ⊢
    rcases hk with hk | rfl
    · exact .inl (j.closed k u hk hu e hm hb)
    · rw [hi] at hu; cases hu; exact .inl (he e hm hb)
  · rw [hS, ← j.en k hk]
    constructor
    · rintro (h | rfl)
      · exact h
      · exact absurd hk hE
    · exact .inl
  · rcases (hS k).1 hs with h | rfl
    · exact j.ga k hk h hlt'
    · exact absurd hk hA
  · rcases (hS k).1 hs with h | rfl
    · exact j.gb k hk h hlt'
    · exact absurd hk hA
  · exact j.gd k hk (fun h => hs ((hS k).2 (.inl h)))
  · exact j.fr k hk (fun h => hs ((hS k).2 (.inl h)))

/-- the heap as an operation at the text's place would see it -/
theorem J.seen (hC : CS P C) (j : J tr F w0 lim β0 a0 S a w β E G) {k : Nat} (hk : tr.isA k) (hs : inS S k) (hkE : E ≤ k) {q : Nat} (hq : k < q) (hqn : q ≤ ops.size) (hno : ∀ f, k < f → f < q → ¬ tr.isE f) :
    G (tr.name k) = (tr.g q).get (tr.name k) := by
  rw [j.gb k hk hs hkE]
  exact (tr.stable hC hq hqn (fun f a b => hno f (by omega) b) _ (tr.name_lt hC hk (Nat.lt_succ_self k) (tr.isA_lt hk))).symm

/-- a look -/
theorem J.look (hC : CS P C) (h0 : tr.log 0 = []) (st : Stat ops) (j : J tr F w0 lim β0 a0 S a w β E G) {i : Nat} {o : Oper} (hi : ops[i]? = some o) (hni : ¬ inS S i)
    (he : ∀ e ∈ o.after, Region.binds .any e = true → inS S e.on) (hw : Region.wanted o (yieldedA ops (tr.T i)) = true) (hk : kindOf P o.op = 1)
    (hv : aLook P (tr.T i) (maskH (tr.g i) (hids (Region.before ops) i (tr.log i))) o.op = some (tr.v i))
    (hsee : ∀ e ∈ tr.log i, e.kind = 3 → ordered (Region.before ops) i e.i = false → ∀ b, lookBlock (tr.T i) o.op = some b → (b < e.pre.next ∧ aLook P (tr.T i) e.pre o.op = some (tr.v i)) ∨ e.post ≤ b) :
    ∃ v', (execOp a.eval o).run P w = .ok (.value v') w ∧ VR β (tr.v i) v' := by
  have hlt : i < ops.size := (Array.getElem?_eq_some_iff.1 hi).1
  have hbef := closed_before st j.closed i o hi he
  have L := tr.logOk h0 i (by omega)
  obtain ⟨hag, _, _⟩ := j.agree st hi hni he
  -- it is enough that some heap that has the block as it is now lets it be seen
  have enough : (∀ b, lookBlock (tr.T i) o.op = some b → ∃ Y : AHeap, Y.get b = G b ∧ aLook P (tr.T i) Y o.op = some (tr.v i)) → ∃ v', (execOp a.eval o).run P w = .ok (.value v') w ∧ VR β (tr.v i) v' := by
    intro h
    have hZ : ∃ Z : AHeap, (∀ m, Z.get m = G m ∨ (Z.get m).st = 2) ∧ aLook P (tr.T i) Z o.op = some (tr.v i) := by
      cases hb : lookBlock (tr.T i) o.op with
      | none =>
        refine ⟨⟨.leaf, 0⟩, fun m => .inr (by simp [AHeap.get, deadBlk]), ?_⟩
        rw [← hv]
        exact aLook_block (fun b h => by rw [hb] at h; cases h)
      | some b =>
        obtain ⟨Y, hY, hl⟩ := h b hb
        refine ⟨⟨Tr.set .leaf b (Y.get b), b + 1⟩, fun m => ?_, ?_⟩
        · simp only [AHeap.get, Tr.get_set]
          by_cases e : m = b
          · subst e; left; simp; exact hY
          · right
            by_cases hm : m < b + 1
            · simp [e, hm, Tr.get, deadBlk]
            · simp [hm, deadBlk]
        · rw [← hl]
          refine aLook_block (fun b' h' => ?_)
          rw [hb] at h'; cases h'
          simp [AHeap.get, Tr.get_set]
    obtain ⟨Z, hZ1, hZ2⟩ := hZ
    refine simLook (j.hr.less hZ1) j.slots ?_
    rw [aLook_congr hag]; exact hZ2
  refine enough (fun b hb => ?_)
  have hlast : aLook P (tr.T i) (tr.g i) o.op = some (tr.v i) := by
    by_cases hm : b ∈ hids (Region.before ops) i (tr.log i)
    · exact aLook_dead hb (by rw [maskH_get, if_pos hm]; decide) hv _
    · rw [← hv]; exact aLook_block (fun b' h' => by rw [hb] at h'; cases h'; rw [maskH_get, if_neg hm])
  -- gone: seen in any case
  by_cases hdead' : ¬ ((maskH (tr.g i) (hids (Region.before ops) i (tr.log i))).get b).st < 2
  · have hdead := hdead'
    exact ⟨⟨Tr.set .leaf b (G b), b + 1⟩, by simp [AHeap.get, Tr.get_set], aLook_dead hb hdead hv _⟩
  have hdead : ((maskH (tr.g i) (hids (Region.before ops) i (tr.log i))).get b).st < 2 := Decidable.not_not.1 hdead'
  have hnh : b ∉ hids (Region.before ops) i (tr.log i) := by
    intro hm; rw [maskH_get, if_pos hm] at hdead; simp [deadBlk] at hdead
  rw [maskH_get, if_neg hnh] at hdead
  have hbn := get_lt hdead
  -- the first operation that does more, not yet done, from p on
  have first : ∀ p, p ≤ i → (∀ f, p ≤ f → f < i → tr.isE f → ¬ inS S f) → b < (tr.g p).next → ∃ Y : AHeap, Y.get b = (tr.g p).get b ∧ aLook P (tr.T i) Y o.op = some (tr.v i) := by
    intro p hp hno hbp
    by_cases hex : ∃ f, p ≤ f ∧ f < i ∧ tr.isE f
    · obtain ⟨f, hf⟩ := hex
      have : ∃ f, (p ≤ f ∧ f < i ∧ tr.isE f) ∧ ∀ k, p ≤ k → k < f → ¬ tr.isE k := by
        induction f using Nat.strongRecOn with
        | _ f ih =>
          by_cases h : ∃ k, p ≤ k ∧ k < f ∧ tr.isE k
          · obtain ⟨k, h1, h2, h3⟩ := h
            exact ih k h2 ⟨h1, by omega, h3⟩
          · exact ⟨f, hf, fun k h1 h2 h3 => h ⟨k, h1, h2, h3⟩⟩
      obtain ⟨f, ⟨h1, h2, h3⟩, h4⟩ := this
      obtain ⟨e, q1, q2, q3, q4, q5⟩ := L.eff f h2 h3
      have ho : ordered (Region.before ops) i e.i = false := by
        rw [q3]
        by_cases h : ordered (Region.before ops) i f = true
        · exact absurd (hbef f h) (hno f h1 h2 h3)
        · simpa using h
      have hst := tr.stable hC h1 (by omega) h4 b hbp
      have hnx := tr.next_mono hC h1 (by omega)
      rcases hsee e q1 q2 ho b hb with ⟨_, h⟩ | h
      · exact ⟨e.pre, by rw [q4]; exact hst, h⟩
      · rw [q5] at h
        have := tr.next_mono hC (p := p) (q := f + 1) (by omega) (by omega)
        omega
    · exact ⟨tr.g i, tr.stable hC hp (by omega) (fun f h1 h2 h3 => hex ⟨f, h1, h2, h3⟩) b hbp, hlast⟩
  by_cases hE : E ≤ i
  · -- nothing behind the text's place is done that does more
    have hno : ∀ f, E ≤ f → f < i → tr.isE f → ¬ inS S f := fun f h1 _ h3 hs => by have := (j.en f h3).1 hs; omega
    by_cases hbE : b < (tr.g E).next
    · obtain ⟨Y, y1, y2⟩ := first E hE hno hbE
      refine ⟨Y, ?_, y2⟩
      rw [y1]
      by_cases hA : ∃ k, tr.isA k ∧ b = tr.name k
      · obtain ⟨k, hkA, rfl⟩ := hA
        have hkE : k < E := by
          rcases Nat.lt_or_ge k E with h | h
          · exact h
          · have := tr.next_mono hC h (Nat.le_of_lt (tr.isA_lt hkA)); unfold Trc.name at hbE; omega
        by_cases hs : inS S k
        · exact (j.ga k hkA hs hkE).symm
        · exfalso
          refine hnh ((tr.mem_hids h0 (by omega) _).2 ⟨k, by omega, hkA, ?_, rfl⟩)
          by_cases h : ordered (Region.before ops) i k = true
          · exact absurd (hbef k h) hs
          · simpa using h
      · exact (j.go b (fun k hkA e => hA ⟨k, hkA, e⟩)).symm
    · by_cases hA : ∃ k, tr.isA k ∧ b = tr.name k
      · obtain ⟨k, hkA, rfl⟩ := hA
        have hki : k < i := by
          rcases Nat.lt_or_ge k i with h | h
          · exact h
          · have := tr.next_mono hC h (Nat.le_of_lt (tr.isA_lt hkA)); unfold Trc.name at hbn; omega
        have hkE : E ≤ k := by
          rcases Nat.lt_or_ge k E with h | h
          · exact absurd (tr.name_lt hC hkA h j.le) hbE
          · exact h
        have hs : inS S k := by
          by_cases h : ordered (Region.before ops) i k = true
          · exact hbef k h
          · exact absurd ((tr.mem_hids h0 (by omega) _).2 ⟨k, hki, hkA, by simpa using h, rfl⟩) hnh
        obtain ⟨Y, y1, y2⟩ := first (k + 1) (by omega) (fun f h1 => hno f (by omega)) (tr.name_lt hC hkA (Nat.lt_succ_self k) (tr.isA_lt hkA))
        exact ⟨Y, by rw [y1, j.gb k hkA hs hkE], y2⟩
      · -- made by an operation that does more and isn't done: it can't be seen
        exfalso
        have : ∃ f, E ≤ f ∧ f < i ∧ tr.isE f ∧ (tr.g f).next ≤ b ∧ b < (tr.g (f + 1)).next := by
          have step : ∀ d q, q ≤ ops.size → q = E + d → b < (tr.g q).next → ∃ f, E ≤ f ∧ f < q ∧ (tr.g f).next ≤ b ∧ b < (tr.g (f + 1)).next := by
            intro d
            induction d with
            | zero => intro q _ hq hb'; rw [hq] at hb'; exact absurd hb' (by simpa using hbE)
            | succ d ih =>
              intro q hq1 hq hb'
              by_cases hl : b < (tr.g (E + d)).next
              · obtain ⟨f, h1, h2, h3⟩ := ih (E + d) (by omega) rfl hl
                exact ⟨f, h1, by omega, h3⟩
              · exact ⟨E + d, by omega, by omega, by omega, by rw [show E + d + 1 = q by omega]; exact hb'⟩
          obtain ⟨f, h1, h2, h3, h4⟩ := step (i - E) i (by omega) (by omega) hbn
          refine ⟨f, h1, h2, ?_, h3, h4⟩
          by_cases hEf : tr.isE f
          · exact hEf
          · exfalso
            by_cases hAf : tr.isA f
            · refine hA ⟨f, hAf, ?_⟩
              obtain ⟨bb, e, _⟩ := tr.alc hAf
              have : (tr.g (f + 1)).next = (tr.g f).next + 1 := by rw [e]; rfl
              unfold Trc.name; omega
            · rw [tr.same (by omega) hAf hEf] at h4; omega
        obtain ⟨f, h1, h2, h3, h4, h5⟩ := this
        obtain ⟨e, q1, q2, q3, q4, q5⟩ := L.eff f h2 h3
        have ho : ordered (Region.before ops) i e.i = false := by
          rw [q3]
          by_cases h : ordered (Region.before ops) i f = true
          · exact absurd (hbef f h) (hno f h1 h2 h3)
          · simpa using h
        rcases hsee e q1 q2 ho b hb with ⟨h, _⟩ | h
        · rw [q4] at h; omega
        · rw [q5] at h; omega
  · -- something that stands behind it in the text is done: it was held against that
    rcases j.em with h | ⟨f, hf, hfE⟩
    · omega
    · have hfi : f ≠ i := by
        rintro rfl
        have := (tr.isE_of hi hfE).2.2.1
        exact this hk
      have hfs : inS S f := (j.en f hfE).2 (by omega)
      have hfl := tr.isE_lt hfE
      have hfo : ops[f]? = some ops[f] := Array.getElem?_eq_getElem hfl
      have hor : ordered (Region.before ops) f i = false := by
        by_cases h : ordered (Region.before ops) f i = true
        · exact absurd (closed_before st j.closed f _ hfo (j.closed f _ hfs hfo) i h) hni
        · simpa using h
      obtain ⟨e, q1, q2, q3, q4, q5, q6⟩ := (tr.logOk h0 f (by omega)).lk i o (by omega) ⟨hi, hw⟩ hk
      obtain ⟨_, hcs⟩ := tr.cases hfo
      have hfw := tr.isE_of hfo hfE
      rcases hcs with ⟨h, _⟩ | ⟨_, h, _⟩ | ⟨_, h, _⟩ | ⟨_, h, _⟩ | ⟨_, _, _, _, h1, _, _, hall, _⟩
      · exact absurd hfw.1 h
      · exact absurd h hfw.2.1
      · exact absurd h hfw.2.2.1
      · exact absurd h hfw.2.2.2
      · have hs := hall e q1 q2 (by rw [q3]; exact hor)
        rw [q4, q5, q6, ← hf] at hs
        refine ⟨tr.g E, ?_, hs⟩
        by_cases hA : ∃ k, tr.isA k ∧ b = tr.name k
        · obtain ⟨k, hkA, rfl⟩ := hA
          have hki : k < i := by
            rcases Nat.lt_or_ge k i with h | h
            · exact h
            · have := tr.next_mono hC h (Nat.le_of_lt (tr.isA_lt hkA)); unfold Trc.name at hbn; omega
          have hs : inS S k := by
            by_cases h : ordered (Region.before ops) i k = true
            · exact hbef k h
            · exact absurd ((tr.mem_hids h0 (by omega) _).2 ⟨k, hki, hkA, by simpa using h, rfl⟩) hnh
          exact (j.ga k hkA hs (by omega)).symm
        · exact (j.go b (fun k hkA e => hA ⟨k, hkA, e⟩)).symm

/-- a new block -/
theorem J.make (hC : CS P C) (h0 : tr.log 0 = []) (st : Stat ops) (j : J tr F w0 lim β0 a0 S a w β E G) {i : Nat} {o : Oper} (hi : ops[i]? = some o) (hni : ¬ inS S i)
    (he : ∀ e ∈ o.after, Region.binds .any e = true → inS S e.on) (hA : tr.isA i) {b : ABlk} (hg : tr.g (i + 1) = (tr.g i).alloc b)
    {w1 : World} {β1 : Inj} {v' : Value} (hb : β.le β1) (hv : VR β1 (tr.v i) v') (hr : ∀ G1 : Nat → ABlk, G1 (tr.name i) = b → (∀ m, m ≠ tr.name i → G1 m = G m) → HR F w0 w1 G1 β1)
    (hgr : Gr (tr.name i) (tr.name i + 1) β β1) : ∃ G1, J tr F w0 lim β0 a0 (S.setIfInBounds i true) (a.put o.dst v') w1 β1 E G1 := by
  have hlt : i < ops.size := (Array.getElem?_eq_some_iff.1 hi).1
  have hbef := closed_before st j.closed i o hi he
  have hS : ∀ k, inS (S.setIfInBounds i true) k ↔ inS S k ∨ k = i := inS_set (by rw [j.size]; exact hlt)
  have hE : ¬ tr.isE i := fun h => (tr.isE_of hi h).2.2.2 (tr.isA_of hi hA).2
  let G1 : Nat → ABlk := fun m => if m = tr.name i then b else G m
  have g1 : G1 (tr.name i) = b := by simp [G1]
  have g2 : ∀ m, m ≠ tr.name i → G1 m = G m := fun m hm => by simp [G1, hm]
  have hbi : (tr.g (i + 1)).get (tr.name i) = b := by rw [hg, AHeap.get_alloc]; simp [Trc.name]
  have hnx : (tr.g (i + 1)).next = tr.name i + 1 := by rw [hg]; rfl
  have hne : ∀ k, tr.isA k → k ≠ i → tr.name k ≠ tr.name i := fun k hk h e => h (tr.name_inj hC hk hA e)
  have hgs : Gr (tr.g 0).next (tr.g ops.size).next β β1 := fun m hm => hgr m (by
    have h1 := tr.next_mono hC (p := 0) (q := i) (by omega) (by omega)
    have h2 := tr.next_mono hC (p := i + 1) (q := ops.size) (by omega) (Nat.le_refl _)
    unfold Trc.name at *; omega)
  refine ⟨G1, by simp [j.size], fun k u hk hu e hm hb' => ?_, j.slots' st hi hni he hb hv, hr G1 g1 g2, j.le, fun k hk => ?_, j.em, fun k hk hs hlt' => ?_, fun k hk hs hlt' => ?_, fun k hk hs => ?_, fun m hm => ?_, fun k hk hs m h1 h2 => ?_, fun m h1 h2 => ?_, fun m hm => ?_, Inj.le_trans j.ble hb, by rw [put_defers]; exact j.df⟩
  · rw [hS] at hk ⊢
    rcases hk with hk | rfl
    · exact .inl (j.closed k u hk hu e hm hb')
    · rw [hi] at hu; cases hu; exact .inl (he e hm hb')
  · rw [hS, ← j.en k hk]
    constructor
    · rintro (h | rfl)
      · exact h
      · exact absurd hk hE
    · exact .inl
  · by_cases e : k = i
    · subst e
      rw [g1, ← hbi]
      -- all that was done behind it in the text stood apart from it
      refine (tr.kept hC h0 hk (Nat.lt_succ_self k) hlt' j.le (fun f hf1 hf2 hfE => ?_)).symm
      have hfs : inS S f := (j.en f hfE).2 hf2
      have hfl := tr.isE_lt hfE
      have hfo : ops[f]? = some ops[f] := Array.getElem?_eq_getElem (tr.isE_lt hfE)
      by_cases h : ordered (Region.before ops) f k = true
      · exact absurd (closed_before st j.closed f _ hfo (j.closed f _ hfs hfo) k h) hni
      · simpa using h
    · rw [g2 _ (hne k hk e)]
      exact j.ga k hk (((hS k).1 hs).resolve_right e) hlt'
  · by_cases e : k = i
    · subst e; rw [g1, hbi]
    · rw [g2 _ (hne k hk e)]
      exact j.gb k hk (((hS k).1 hs).resolve_right e) hlt'
  · have e : k ≠ i := fun e => hs ((hS k).2 (.inr e))
    rw [g2 _ (hne k hk e)]
    exact j.gd k hk (fun h => hs ((hS k).2 (.inl h)))
  · rw [g2 m (hm i hA)]; exact j.go m hm
  · have e : k ≠ i := fun e => hs ((hS k).2 (.inr e))
    rw [hgr m ?_]
    · exact j.fr k hk (fun h => hs ((hS k).2 (.inl h))) m h1 h2
    · rcases Nat.lt_or_ge k i with h | h
      · have := tr.next_mono hC (p := k + 1) (q := i) (by omega) (by omega); unfold Trc.name at *; omega
      · have := tr.next_mono hC (p := i + 1) (q := k) (by omega) (by omega); omega
  · rw [hgr m (by have := tr.next_mono hC (p := i + 1) (q := ops.size) (by omega) (Nat.le_refl _); omega)]
    exact j.fo m h1 h2
  · rw [hgs m hm, j.gr m hm]


/-- an operation that does more -/
theorem J.eff {Q : Exit → Act → World → Prop} {K : Act → World → Prop} (hC : CS P C) (h0 : tr.log 0 = []) (st : Stat ops) (j : J tr F w0 lim β0 a0 S a w β E G) {i : Nat} {o : Oper} (hi : ops[i]? = some o) (hni : ¬ inS S i)
    (he : ∀ e ∈ o.after, Region.binds .any e = true → inS S e.on) (hE : tr.isE i)
    (hal : ∀ m ∈ hids (Region.before ops) i (tr.log i), ((tr.g i).get m).st = 0) (hch : ∀ e ∈ tr.log i, e.kind = 3 → ordered (Region.before ops) i e.i = true)
    {h1 : AHeap} (hd : aDo P C (tr.T i) (maskH (tr.g i) (hids (Region.before ops) i (tr.log i))) o.op = some (tr.v i, h1))
    (hg : tr.g (i + 1) = unmaskH h1 (tr.g i) (hids (Region.before ops) i (tr.log i)))
    (hK : ∀ a' w' β' E' G', J tr F w0 lim β0 a0 (S.setIfInBounds i true) a' w' β' E' G' → K a' w') : o.wp P a w K Q := by
  have hlt : i < ops.size := (Array.getElem?_eq_some_iff.1 hi).1
  have hbef := closed_before st j.closed i o hi he
  have hS : ∀ k, inS (S.setIfInBounds i true) k ↔ inS S k ∨ k = i := inS_set (by rw [j.size]; exact hlt)
  have L := tr.logOk h0 i (by omega)
  have hmem := tr.mem_hids h0 (i := i) (by omega)
  obtain ⟨hag, _, _⟩ := j.agree st hi hni he
  have hnA : ¬ tr.isA i := fun h => (tr.isE_of hi hE).2.2.2 (tr.isA_of hi h).2
  have hnx1 : (tr.g (i + 1)).next = h1.next := by rw [hg, unmaskH_next]
  have hnx0 : (tr.g i).next ≤ h1.next := by have := aDo_next hC hd; rwa [maskH_next] at this
  -- all that does more and stands ahead is done; nothing that stands behind is
  have pre : ∀ f, tr.isE f → f < i → inS S f := fun f hf hlt' => by
    obtain ⟨e, q1, q2, q3, _⟩ := L.eff f hlt' hf
    have := hch e q1 q2
    rw [q3] at this
    exact hbef f this
  have post : ∀ f, tr.isE f → i < f → ¬ inS S f := fun f hf hlt' hs => by
    have hfl := tr.isE_lt hf
    have hfo : ops[f]? = some ops[f] := Array.getElem?_eq_getElem hfl
    obtain ⟨_, hcs⟩ := tr.cases hfo
    have hfw := tr.isE_of hfo hf
    rcases hcs with ⟨h, _⟩ | ⟨_, h, _⟩ | ⟨_, h, _⟩ | ⟨_, h, _⟩ | ⟨_, _, _, hch', _⟩
    · exact absurd hfw.1 h
    · exact absurd h hfw.2.1
    · exact absurd h hfw.2.2.1
    · exact absurd h hfw.2.2.2
    · obtain ⟨e, q1, q2, q3, _⟩ := (tr.logOk h0 f (by omega)).eff i hlt' hE
      have := hch' e q1 q2
      rw [q3] at this
      exact hni (closed_before st j.closed f _ hfo (j.closed f _ hs hfo) i this)
  have hEi : E ≤ i := by
    rcases Nat.lt_or_ge i E with h | h
    · exact absurd ((j.en i hE).2 h) hni
    · exact h
  have hno : ∀ f, E ≤ f → f < i → ¬ tr.isE f := fun f q1 q2 q3 => by have := (j.en f q3).1 (pre f q3 q2); omega
  -- the heap now is the text's
  have now : ∀ k, tr.isA k → inS S k → k < i → G (tr.name k) = (tr.g i).get (tr.name k) := fun k hk hs hki => by
    rcases Nat.lt_or_ge k E with h | h
    · rw [j.ga k hk hs h]
      exact (tr.stable hC hEi (by omega) hno _ (tr.name_lt hC hk h j.le)).symm
    · exact j.seen hC hk hs h hki (by omega) (fun f q1 q2 => hno f (by omega) q2)
  have nowo : ∀ m, (∀ k, tr.isA k → m ≠ tr.name k) → G m = (tr.g i).get m := fun m hm => by
    rw [j.go m hm]
    by_cases hb : m < (tr.g E).next
    · exact (tr.stable hC hEi (by omega) hno m hb).symm
    · by_cases hb2 : m < (tr.g i).next
      · obtain ⟨k, _, _, hk, e⟩ := tr.fresh hC hEi (by omega) hno m (by omega) hb2
        exact absurd e (hm k hk)
      · simp [AHeap.get, hb, hb2]
  let X := maskH (tr.g i) (hids (Region.before ops) i (tr.log i))
  have hXn : X.next = (tr.g i).next := maskH_next _ _
  let Ex : Nat → Prop := fun m => ∃ k, tr.isA k ∧ inS S k ∧ m = tr.name k ∧ ((k < i ∧ ordered (Region.before ops) i k = false) ∨ i < k)
  have hXG : ∀ m, X.get m = G m ∨ (X.get m).st = 2 := fun m => by
    by_cases hm : m ∈ hids (Region.before ops) i (tr.log i)
    · right; simp only [X]; rw [maskH_get, if_pos hm]; rfl
    · by_cases hA : ∃ k, tr.isA k ∧ m = tr.name k
      · obtain ⟨k, hk, rfl⟩ := hA
        have hki : k ≠ i := fun e => hnA (e ▸ hk)
        rcases Nat.lt_or_ge k i with hlt' | hge
        · have hs : inS S k := by
            by_cases h : ordered (Region.before ops) i k = true
            · exact hbef k h
            · exact absurd ((hmem _).2 ⟨k, hlt', hk, by simpa using h, rfl⟩) hm
          left; simp only [X]; rw [maskH_get, if_neg hm]; exact (now k hk hs hlt').symm
        · right; simp only [X]; rw [maskH_get, if_neg hm]
          have := tr.next_mono hC hge (Nat.le_of_lt (tr.isA_lt hk))
          have : ¬ tr.name k < (tr.g i).next := by unfold Trc.name; omega
          simp [AHeap.get, this, deadBlk]
      · left; simp only [X]; rw [maskH_get, if_neg hm]; exact (nowo m (fun k hk e => hA ⟨k, hk, e⟩)).symm
  have hEx2 : ∀ m, Ex m → (X.get m).st = 2 := by
    rintro m ⟨k, hk, hs, rfl, h | h⟩
    · have hm : tr.name k ∈ hids (Region.before ops) i (tr.log i) := (hmem _).2 ⟨k, h.1, hk, h.2, rfl⟩
      simp only [X]; rw [maskH_get, if_pos hm]; rfl
    · have hm : tr.name k ∉ hids (Region.before ops) i (tr.log i) := fun hm => by
        obtain ⟨k', h1', h2', _, h4'⟩ := (hmem _).1 hm
        have := tr.name_inj hC hk h2' h4'; omega
      simp only [X]; rw [maskH_get, if_neg hm]
      have := tr.next_mono hC (p := i) (q := k) (by omega) (Nat.le_of_lt (tr.isA_lt hk))
      have : ¬ tr.name k < (tr.g i).next := by unfold Trc.name; omega
      simp [AHeap.get, this, deadBlk]
  have hEx0 : ∀ m, Ex m → (G m).st = 0 := by
    rintro m ⟨k, hk, hs, rfl, h | h⟩
    · rw [now k hk hs h.1]
      exact hal _ ((hmem _).2 ⟨k, h.1, hk, h.2, rfl⟩)
    · rw [j.gb k hk hs (by omega)]
      obtain ⟨b, e, eb⟩ := tr.alc hk
      rw [e, AHeap.get_alloc]
      simp [Trc.name, eb]
  have HX := j.hr.enter hXG Ex hEx2
  have hfr : Fr h1.next X β := fun m q1 q2 => by
    rw [hXn] at q1
    exact j.fr i hlt hni m q1 (by rw [hnx1]; exact q2)
  have hd' : aDo P C (tset tr S ops.size) X o.op = some (tr.v i, h1) := by rw [aDo_congr hag]; exact hd
  refine simDo hC HX hfr j.slots hd' (Nat.le_refl _) (fun v' w1 β1 k1 k2 k3 k4 => ?_)
  rw [hXn, ← hnx1] at k4
  let G1 : Nat → ABlk := fun m => @ite _ (Ex m) (Classical.propDecidable _) (G m) (@ite _ (∃ k, tr.isA k ∧ ¬ inS S k ∧ m = tr.name k) (Classical.propDecidable _) deadBlk (h1.get m))
  have gEx : ∀ m, Ex m → G1 m = G m := fun m hm => by simp only [G1]; rw [if_pos hm]
  have gD : ∀ m, ¬ Ex m → (∃ k, tr.isA k ∧ ¬ inS S k ∧ m = tr.name k) → G1 m = deadBlk := fun m hm hm' => by simp only [G1]; rw [if_neg hm, if_pos hm']
  have gH : ∀ m, ¬ Ex m → ¬ (∃ k, tr.isA k ∧ ¬ inS S k ∧ m = tr.name k) → G1 m = h1.get m := fun m hm hm' => by simp only [G1]; rw [if_neg hm, if_neg hm']
  have HM := j.hr.merge hXG Ex hEx0 k2 k1 (G' := G1) (fun m => by
    by_cases hm : Ex m
    · exact .inl ⟨hm, gEx m hm⟩
    · by_cases hm' : ∃ k, tr.isA k ∧ ¬ inS S k ∧ m = tr.name k
      · right; right; rw [gD m hm hm']; rfl
      · exact .inr (.inl ⟨hm, gH m hm hm'⟩))
  have exN : ∀ k, tr.isA k → Ex (tr.name k) → inS S k ∧ ((k < i ∧ ordered (Region.before ops) i k = false) ∨ i < k) := fun k hk hx => by
    obtain ⟨k', q1, q2, q3, q4⟩ := hx
    have := tr.name_inj hC hk q1 q3
    subst this; exact ⟨q2, q4⟩
  have nd : ∀ k, tr.isA k → inS S k → ¬ ∃ k', tr.isA k' ∧ ¬ inS S k' ∧ tr.name k = tr.name k' := fun k hk hs ⟨k', q1, q2, q3⟩ => by
    have := tr.name_inj hC hk q1 q3
    subst this; exact q2 hs
  refine hK _ w1 β1 (i + 1) G1 ⟨by simp [j.size], fun k u hk hu e hm hb' => ?_, j.slots' st hi hni he k1 k3, HM, hlt, fun k hk => ?_, .inr ⟨i, rfl, hE⟩, fun k hk hs hlt' => ?_, fun k hk hs hlt' => ?_, fun k hk hs => ?_, fun m hm => ?_, fun k hk hs m q1 q2 => ?_, fun m q1 q2 => ?_, fun m hm => ?_, Inj.le_trans j.ble k1, by rw [put_defers]; exact j.df⟩
  · rw [hS] at hk ⊢
    rcases hk with hk | rfl
    · exact .inl (j.closed k u hk hu e hm hb')
    · rw [hi] at hu; cases hu; exact .inl (he e hm hb')
  · rw [hS]
    constructor
    · rintro (h | rfl)
      · rcases Nat.lt_trichotomy k i with q | q | q
        · omega
        · omega
        · exact absurd h (post k hk q)
      · omega
    · intro h
      by_cases e : k = i
      · exact .inr e
      · exact .inl (pre k hk (by omega))
  · -- made ahead of it
    have hki : k ≠ i := fun e => hnA (e ▸ hk)
    have hs' : inS S k := ((hS k).1 hs).resolve_right hki
    by_cases hx : Ex (tr.name k)
    · rw [gEx _ hx]
      have hx' := exN k hk hx
      have hko : k < i ∧ ordered (Region.before ops) i k = false := by
        rcases hx'.2 with h | h
        · exact h
        · omega
      rw [now k hk hs' hko.1, hg, unmaskH_get, if_pos]
      refine ⟨(hmem _).2 ⟨k, hko.1, hk, hko.2, rfl⟩, ?_⟩
      have := tr.name_lt hC hk hko.1 (by omega)
      omega
    · rw [gH _ hx (nd k hk hs'), hg, unmaskH_get, if_neg]
      rintro ⟨hm, _⟩
      obtain ⟨k', q1, q2, q3, q4⟩ := (hmem _).1 hm
      have := tr.name_inj hC hk q2 q4
      subst this
      exact hx ⟨k, hk, hs', rfl, .inl ⟨q1, q3⟩⟩
  · have hki : k ≠ i := fun e => hnA (e ▸ hk)
    have hs' : inS S k := ((hS k).1 hs).resolve_right hki
    rw [gEx _ ⟨k, hk, hs', rfl, .inr (by omega)⟩]
    exact j.gb k hk hs' (by omega)
  · have hs' : ¬ inS S k := fun h => hs ((hS k).2 (.inl h))
    by_cases hx : Ex (tr.name k)
    · exact absurd (exN k hk hx).1 hs'
    · rw [gD _ hx ⟨k, hk, hs', rfl⟩]; rfl
  · have hx : ¬ Ex m := fun ⟨k, q1, _, q3, _⟩ => hm k q1 q3
    rw [gH m hx (fun ⟨k, q1, _, q3⟩ => hm k q1 q3), hg, unmaskH_get, if_neg]
    rintro ⟨hm', _⟩
    obtain ⟨k', _, q2, _, q4⟩ := (hmem _).1 hm'
    exact hm k' q2 q4
  · have hki : k ≠ i := fun e => hs ((hS k).2 (.inr e))
    rw [k4 m ?_]
    · exact j.fr k hk (fun h => hs ((hS k).2 (.inl h))) m q1 q2
    · rcases Nat.lt_or_ge k i with h | h
      · have := tr.next_mono hC (p := k + 1) (q := i) (by omega) (by omega); omega
      · have := tr.next_mono hC (p := i + 1) (q := k) (by omega) (by omega); omega
  · rw [k4 m (by have := tr.next_mono hC (p := i + 1) (q := ops.size) (by omega) (Nat.le_refl _); omega)]
    exact j.fo m q1 q2
  · rw [k4 m (by
      have h1 := tr.next_mono hC (p := 0) (q := i) (by omega) (by omega)
      have h2 := tr.next_mono hC (p := i + 1) (q := ops.size) (by omega) (Nat.le_refl _)
      omega), j.gr m hm]

end
end Go.Ab
