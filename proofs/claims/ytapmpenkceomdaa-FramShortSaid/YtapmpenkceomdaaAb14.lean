/- A region that draws its order: one operation more. -/
import Derived.Test.YtapmpenkceomdaaAb13
namespace Go.Ab
variable {P : Program}

section
variable {C : Callee'} {ops : Array Oper} {tr : Trc P C ops ops.size}

theorem mem_slots {o : Oper} {t : Tmp} (h : Operand.tmp t ∈ o.op.operands) : t ∈ slots o := by
  unfold slots
  rw [List.mem_append]; right
  rw [List.mem_filterMap]
  exact ⟨.tmp t, by simpa using h, rfl⟩
theorem dst_mem_slots {o : Oper} {t : Tmp} (h : o.dst = some t) : t ∈ slots o := by
  unfold slots; rw [h]; simp

def inS (S : Array Bool) (i : Nat) : Prop := S.getD i false = true

/-- the slots that the operations in S have left -/
def tset (tr : Trc P C ops ops.size) (S : Array Bool) : Nat → TS
  | 0 => tr.T 0
  | k + 1 => if S.getD k false = true then (tset tr S k).put (dstOf ops k) (tr.v k) else tset tr S k

theorem put_n (T : TS) (d : Option Tmp) (v : Value) : (T.put d v).n = T.n := by cases d <;> rfl
theorem put_get (T : TS) (d : Option Tmp) (v : Value) (t : Nat) : (T.put d v).get t = if d = some t ∧ t < T.n then v else T.get t := by
  cases d with
  | none => simp [TS.put]
  | some d =>
    simp only [TS.put, TS.get_set, Option.some.injEq]
    by_cases e : t = d
    · subst e; simp
    · rw [if_neg (fun x => e x.1), if_neg (fun x => e x.1.symm)]

theorem dstOf_eq {i : Nat} {o : Oper} (h : ops[i]? = some o) : dstOf ops i = o.dst := by simp [dstOf, h]

theorem Trc.T_n : ∀ i, i ≤ ops.size → (tr.T i).n = (tr.T 0).n := by
  intro i
  induction i with
  | zero => intro _; rfl
  | succ i ih =>
    intro hi
    rw [(tr.cases (Array.getElem?_eq_getElem (show i < ops.size by omega))).1, put_n, ih (by omega)]
theorem tset_n (S : Array Bool) : ∀ i, (tset tr S i).n = (tr.T 0).n := by
  intro i
  induction i with
  | zero => rfl
  | succ i ih => simp only [tset]; split <;> simp [put_n, ih]

/-- a slot that only what stands ahead has written is as it was in the text's order -/
theorem agree_slot {S : Array Bool} {i t : Nat} (hi : i ≤ ops.size) (hni : ¬ inS S i)
    (h : ∀ j, j < ops.size → j ≠ i → dstOf ops j = some t → (j < i → inS S j) ∧ (i < j → ¬ inS S j)) : (tset tr S ops.size).get t = (tr.T i).get t := by
  have lo : ∀ k, k ≤ i → (tset tr S k).get t = (tr.T k).get t := by
    intro k
    induction k with
    | zero => intro _; rfl
    | succ k ih =>
      intro hk
      have hih := ih (by omega)
      have hko : ops[k]? = some ops[k] := Array.getElem?_eq_getElem (show k < ops.size by omega)
      rw [(tr.cases hko).1]
      have hn : (tset tr S k).n = (tr.T k).n := by rw [tset_n, tr.T_n k (by omega)]
      simp only [tset]
      by_cases hd : dstOf ops k = some t
      · have : S.getD k false = true := (h k (by omega) (by omega) hd).1 (by omega)
        rw [if_pos this, put_get, put_get, hn, dstOf_eq hko, hih]
      · rw [← dstOf_eq hko]
        have e : ∀ (X : TS) (y : Value), (X.put (dstOf ops k) y).get t = X.get t := fun X y => by rw [put_get, if_neg (fun x => hd x.1)]
        rw [e]
        by_cases hs : S.getD k false = true
        · rw [if_pos hs, e, hih]
        · rw [if_neg hs, hih]
  have hi' : ∀ k, i ≤ k → k ≤ ops.size → (tset tr S k).get t = (tset tr S i).get t := by
    intro k
    induction k with
    | zero => intro h _; have : i = 0 := by omega
              rw [this]
    | succ k ih =>
      intro hk hk2
      by_cases e : i = k + 1
      · rw [e]
      · rw [← ih (by omega) (by omega)]
        simp only [tset]
        split
        · rename_i hs
          rw [put_get, if_neg]
          rintro ⟨hd, _⟩
          by_cases ek : k = i
          · exact hni (ek ▸ hs)
          · exact (h k (by omega) ek hd).2 (by omega) hs
        · rfl
  rw [hi' _ hi (Nat.le_refl _), lo i (Nat.le_refl _)]

theorem inS_set {S : Array Bool} {i : Nat} (hi : i < S.size) (k : Nat) : inS (S.setIfInBounds i true) k ↔ inS S k ∨ k = i := by
  unfold inS
  by_cases e : k = i
  · subst e; simp [Array.getD, hi]
  · simp only [e, or_false]
    simp only [Array.getD_eq_getD_getElem?, Array.getElem?_setIfInBounds, Ne.symm e, if_false]

/-- the slots with one operation more -/
theorem tset_put {S : Array Bool} {i : Nat} (hi : i < ops.size) (hS : S.size = ops.size) (hni : ¬ inS S i)
    (h : ∀ j t, j < ops.size → i < j → dstOf ops i = some t → dstOf ops j = some t → ¬ inS S j) (t : Nat) :
    (tset tr (S.setIfInBounds i true) ops.size).get t = ((tset tr S ops.size).put (dstOf ops i) (tr.v i)).get t := by
  have lo : ∀ k, k ≤ i → tset tr (S.setIfInBounds i true) k = tset tr S k := by
    intro k
    induction k with
    | zero => intro _; rfl
    | succ k ih =>
      intro hk
      simp only [tset]
      rw [ih (by omega)]
      have : (S.setIfInBounds i true).getD k false = S.getD k false := by
        simp only [Array.getD_eq_getD_getElem?, Array.getElem?_setIfInBounds, show ¬ i = k by omega, if_false]
      rw [this]
  have hi1 : ∀ k, i + 1 ≤ k → k ≤ ops.size → (tset tr (S.setIfInBounds i true) k).get t = ((tset tr S k).put (dstOf ops i) (tr.v i)).get t := by
    intro k
    induction k with
    | zero => intro h; omega
    | succ k ih =>
      intro hk hk2
      by_cases e : k = i
      · subst e
        simp only [tset]
        have h1 : (S.setIfInBounds k true).getD k false = true := by simp [Array.getD, hS, hi]
        have h2 : ¬ S.getD k false = true := hni
        rw [if_pos h1, if_neg h2, lo k (Nat.le_refl _)]
      · have hih := ih (by omega) (by omega)
        simp only [tset]
        have h1 : (S.setIfInBounds i true).getD k false = S.getD k false := by
          simp only [Array.getD_eq_getD_getElem?, Array.getElem?_setIfInBounds, Ne.symm e, if_false]
        rw [h1]
        split
        · rename_i hs
          rw [put_get, hih, put_get, put_get, put_get, tset_n, tset_n, put_n, tset_n]
          by_cases hd : dstOf ops k = some t ∧ t < (tr.T 0).n
          · rw [if_pos hd]
            rw [if_neg]
            · rw [if_pos hd]
            · rintro ⟨hdi, _⟩
              exact h k t (by omega) (by omega) hdi hd.1 hs
          · rw [if_neg hd, if_neg hd]
        · exact hih
  exact hi1 _ hi (Nat.le_refl _)

/-! the static facts -/
structure Stat (ops : Array Oper) : Prop where
  on : ∀ (i : Nat) (o : Oper), ops[i]? = some o → ∀ e ∈ o.after, Region.binds .any e = true → e.on < i
  guard : ∀ (i : Nat) (o : Oper) (j : Nat) (b : Bool), ops[i]? = some o → o.guard = some (j, b) → (∃ e ∈ o.after, e.on = j ∧ Region.binds .any e = true) ∧ ∀ k t, k < ops.size → dstOf ops k = some t → dstOf ops j = some t → k = j
  apart : ∀ (i j : Nat) (o u : Oper), i < j → ops[j]? = some o → ops[i]? = some u → ordered (Region.before ops) j i = true ∨ apart o u = true

theorem zipAll {f : Oper × Nat → Bool} (h : ops.toList.zipIdx.all f = true) {i : Nat} {o : Oper} (hi : ops[i]? = some o) : f (o, i) = true := by
  refine List.all_eq_true.1 h (o, i) ?_
  rw [List.mem_zipIdx_iff_getElem?]
  simpa using hi

theorem stat_of (h : drawOk ops = true) : Stat ops := by
  unfold drawOk at h
  simp only [Bool.and_eq_true] at h
  obtain ⟨h1, h2⟩ := h
  refine ⟨fun i o hi e he hb => ?_, fun i o j b hi hg => ?_, fun i j o u hij ho hu => ?_⟩
  · have := zipAll h1 hi
    simp only [Bool.and_eq_true] at this
    have := Array.all_eq_true_iff_forall_mem.1 this.1 e he
    simp only [Bool.or_eq_true, decide_eq_true_eq] at this
    rcases this with h | h
    · exact h
    · cases hgr : e.ground <;> rw [hgr] at h <;> simp at h
      simp [Region.binds, hgr] at hb
  · have := zipAll h1 hi
    simp only [Bool.and_eq_true, hg] at this
    obtain ⟨_, h3, h4⟩ := this
    refine ⟨?_, fun k t hk hd hj => ?_⟩
    · obtain ⟨e, he, hb⟩ : ∃ e ∈ o.after, (e.on == j && Region.binds .any e) = true := by
        rw [← Array.any_toList] at h3
        obtain ⟨e, he, hb⟩ := List.any_eq_true.1 h3
        exact ⟨e, by simpa using he, hb⟩
      simp only [Bool.and_eq_true, beq_iff_eq] at hb
      exact ⟨e, he, hb.1, hb.2⟩
    · have hko : ops[k]? = some ops[k] := Array.getElem?_eq_getElem hk
      have := zipAll h4 hko
      rw [dstOf_eq hko] at hd
      have hjd : (ops.getD j default).dst = some t := by
        unfold dstOf at hj
        cases hjo : ops[j]? with
        | none => rw [hjo] at hj; cases hj
        | some u => rw [hjo] at hj; simp only [Option.bind_some] at hj; simp [Array.getD_eq_getD_getElem?, hjo, hj]
      simp only [hd, hjd, Option.isNone_some, Bool.or_false, bne_self_eq_false, beq_iff_eq] at this
      exact this
  · have := zipAll h2 ho
    have := zipAll this hu
    simp only [Bool.or_eq_true, Bool.not_eq_true', decide_eq_false_iff_not] at this
    rcases this with (h | h) | h
    · exact absurd hij h
    · exact .inl h
    · exact .inr h

theorem apart_dst {o u : Oper} (h : apart o u = true) : (∀ d, o.dst = some d → d ∉ slots u) ∧ (∀ d, u.dst = some d → d ∉ slots o) := by
  unfold apart at h
  simp only [Bool.and_eq_true] at h
  refine ⟨fun d hd => ?_, fun d hd => ?_⟩
  · have := h.1; rw [hd] at this; simpa using this
  · have := h.2; rw [hd] at this; simpa using this

/-- what stands ahead of what is done is done -/
theorem closed_before (st : Stat ops) {S : Array Bool} (hcl : ∀ i o, inS S i → ops[i]? = some o → ∀ e ∈ o.after, Region.binds .any e = true → inS S e.on) :
    ∀ i o, ops[i]? = some o → (∀ e ∈ o.after, Region.binds .any e = true → inS S e.on) → ∀ j, ordered (Region.before ops) i j = true → inS S j := by
  intro i
  induction i using Nat.strongRecOn with
  | _ i ih =>
    intro o hi he j hj
    obtain ⟨e, hm, hb, hj'⟩ := before_spec hi (st.on i o hi) hj
    have hs := he e hm hb
    rcases hj' with rfl | hj'
    · exact hs
    · have hlt := st.on i o hi e hm hb
      have hlt2 : i < ops.size := (Array.getElem?_eq_some_iff.1 hi).1
      have ho : ops[e.on]? = some ops[e.on] := Array.getElem?_eq_getElem (by omega)
      exact ih e.on hlt _ ho (hcl e.on _ hs ho) j hj'

end
end Go.Ab
