/- What an operation depends on. -/
import Derived.Test.YtapmpenkceomdaaAb10
import Derived.Orders
namespace Go.Ab
variable {P : Program}

/-! operands -/
theorem evs_congr {T T' : TS} {l : List Operand} (h : ∀ x ∈ l, T.ev x = T'.ev x) : evs T l = evs T' l := by
  induction l with
  | nil => rfl
  | cons x l ih => simp only [evs]; rw [h x (by simp), ih fun y hy => h y (by simp [hy])]
theorem evParts_congr {T T' : TS} {l : List (Nat × Operand)} (h : ∀ x ∈ l, T.ev x.2 = T'.ev x.2) : evParts T l = evParts T' l := by
  induction l with
  | nil => rfl
  | cons x l ih => obtain ⟨i, x⟩ := x; simp only [evParts]; rw [h (i, x) (by simp), ih fun y hy => h y (by simp [hy])]
theorem evOpt_congr {T T' : TS} {x : Option Operand} (h : ∀ y ∈ x.toArray, T.ev y = T'.ev y) : evOpt T x = evOpt T' x := by
  cases x with
  | none => rfl
  | some x => simp only [evOpt]; rw [h x (by simp)]

def Agree (T T' : TS) (o : Op) : Prop := ∀ x ∈ o.operands, T.ev x = T'.ev x

theorem aPure_congr {T T' : TS} {o : Op} (h : Agree T T' o) : aPure P T o = aPure P T' o := by
  unfold Agree at h
  cases o with
  | call c =>
    obtain ⟨callee, args, ats⟩ := c
    cases callee with
    | builtin b =>
      have ha : ∀ x ∈ args.toList, T.ev x = T'.ev x := fun x hx => h x (by simp [Op.operands, Call.operands]; simpa using hx)
      cases b <;> simp only [aPure] <;> first
        | rfl
        | (rw [evs_congr ha])
        | skip
      cases hl : args.toList with
      | nil => rfl
      | cons x l =>
        cases l with
        | nil =>
          rw [hl] at ha
          have e := ha x (by simp)
          cases ats.toList with
          | nil => rfl
          | cons t l => cases l with
            | nil => simp only [e]
            | cons _ _ => rfl
        | cons _ _ => rfl
    | _ => rfl
  | build t parts => simp only [aPure]; rw [evParts_congr fun x hx => h x.2 (by simp only [Op.operands]; simp; exact ⟨x.1, by simpa using hx⟩)]
  | makeFunc fn a b =>
    simp only [aPure]
    rw [evs_congr (l := a.toList) fun x hx => h x (by simp only [Op.operands]; simp; left; simpa using hx), evs_congr (l := b.toList) fun x hx => h x (by simp only [Op.operands]; simp; right; simpa using hx)]
  | move x => simp only [aPure]; rw [h x (by simp [Op.operands])]
  | assign x => simp only [aPure]; rw [h x (by simp [Op.operands])]
  | pick c a b => simp only [aPure]; rw [h c (by simp [Op.operands]), h a (by simp [Op.operands]), h b (by simp [Op.operands])]
  | nilCheck x => simp only [aPure]; rw [h x (by simp [Op.operands])]
  | binOp op t x y u => simp only [aPure]; rw [h x (by simp [Op.operands]), h y (by simp [Op.operands])]
  | unOp op t x => simp only [aPure]; rw [h x (by simp [Op.operands])]
  | fieldAddr s x f => simp only [aPure]; rw [h x (by simp [Op.operands])]
  | field s x f => simp only [aPure]; rw [h x (by simp [Op.operands])]
  | indexAddr t x i => simp only [aPure]; rw [h x (by simp [Op.operands]), h i (by simp [Op.operands])]
  | index t x i => simp only [aPure]; rw [h x (by simp [Op.operands]), h i (by simp [Op.operands])]
  | extract x i => simp only [aPure]; rw [h x (by simp [Op.operands])]
  | convert s d x => simp only [aPure]; rw [h x (by simp [Op.operands])]
  | _ => rfl

theorem aLook_congr {T T' : TS} {o : Op} (h : Agree T T' o) (g : AHeap) : aLook P T g o = aLook P T' g o := by
  unfold Agree at h
  cases o with
  | load t x => simp only [aLook]; rw [h x (by simp [Op.operands])]
  | slice t x lo hi mx =>
    simp only [aLook]
    rw [h x (by simp [Op.operands]), evOpt_congr (x := lo) fun y hy => h y (by simp only [Op.operands]; simp at hy ⊢; simp [hy]),
      evOpt_congr (x := hi) fun y hy => h y (by simp only [Op.operands]; simp at hy ⊢; simp [hy]),
      evOpt_congr (x := mx) fun y hy => h y (by simp only [Op.operands]; simp at hy ⊢; simp [hy])]
  | convert s d x => simp only [aLook]; rw [h x (by simp [Op.operands])]
  | _ => rfl

theorem aMake_congr {T T' : TS} {o : Op} (h : Agree T T' o) (n : Nat) : aMake P T n o = aMake P T' n o := by
  unfold Agree at h
  cases o with
  | box t x => simp only [aMake]; rw [h x (by simp [Op.operands])]
  | buildSlice t len parts => simp only [aMake]; rw [evParts_congr fun x hx => h x.2 (by simp only [Op.operands]; simp; exact ⟨x.1, by simpa using hx⟩)]
  | makeSlice t l c => simp only [aMake]; rw [h l (by simp [Op.operands]), h c (by simp [Op.operands])]
  | convert s d x => simp only [aMake]; rw [h x (by simp [Op.operands])]
  | _ => rfl

theorem aDo_congr {C : Callee'} {T T' : TS} {o : Op} (h : Agree T T' o) (g : AHeap) : aDo P C T g o = aDo P C T' g o := by
  unfold Agree at h
  cases o with
  | store t a v => simp only [aDo]; rw [h a (by simp [Op.operands]), h v (by simp [Op.operands])]
  | call c =>
    obtain ⟨callee, args, ats⟩ := c
    have ha : ∀ x ∈ args.toList, T.ev x = T'.ev x := fun x hx => h x (by simp only [Op.operands, Call.operands]; simp; right; simpa using hx)
    cases callee with
    | builtin b => cases b <;> simp only [aDo] <;> first | rfl | rw [evs_congr ha]
    | value f => simp only [aDo]; rw [evs_congr ha, h f (by simp [Op.operands, Call.operands])]
    | _ => rfl
  | _ => rfl

theorem aMake_st {T : TS} {n : Nat} {o : Op} {v : Value} {b : ABlk} (h : aMake P T n o = some (v, b)) : b.st = 0 := by
  unfold aMake at h
  split at h
  · split at h
    · cases h; rfl
    · cases h
  · split at h
    · cases h; rfl
    · cases h
  · split at h
    · unfold aBuildSlice at h
      split at h
      · cases h
      · split at h
        · cases h
        · split at h
          · split at h
            · cases h; rfl
            · cases h
          · cases h
    · cases h
  · split at h
    · unfold aMakeSlice at h
      split at h
      · split at h
        · cases h
        · split at h
          · cases h; rfl
          · cases h
      · cases h
    · cases h
  · split at h
    · split at h
      · cases h; rfl
      · cases h
    · cases h
  · cases h

/-! what is looked at -/
theorem loadN_congr {g g' : AHeap} {n : Nat} (h : g'.get n = g.get n) (off k : Nat) : g'.loadN n off k = g.loadN n off k := by simp only [AHeap.loadN, h]
theorem load1_congr {g g' : AHeap} {n : Nat} (h : g'.get n = g.get n) (off : Nat) : g'.load1 n off = g.load1 n off := by simp only [AHeap.load1, h]

theorem aLook_block {T : TS} {o : Op} {g g' : AHeap} (h : ∀ b, lookBlock T o = some b → g'.get b = g.get b) : aLook P T g' o = aLook P T g o := by
  cases o with
  | load t x =>
    simp only [aLook]
    simp only [lookBlock] at h
    cases hx : T.ev x with
    | none => rfl
    | some a =>
      rw [hx] at h
      simp only
      unfold aLoad
      cases a with
      | pointer a => cases a with
        | none => rfl
        | some a =>
          obtain ⟨n, off, sp⟩ := a
          cases sp with
          | some _ => rfl
          | none =>
            have this : g'.get n = g.get n := h n rfl
            cases lay P t with
            | none => rfl
            | some p =>
              obtain ⟨b, k⟩ := p
              cases b <;> simp only [loadN_congr this, load1_congr this]
      | _ => rfl
  | slice t x lo hi mx =>
    simp only [aLook]
    simp only [lookBlock] at h
    cases hx : T.ev x with
    | none => rfl
    | some a =>
      rw [hx] at h
      cases evOpt T lo <;> cases evOpt T hi <;> cases evOpt T mx <;> try rfl
      rename_i vlo vhi vmx
      show aSlice P t a vlo vhi vmx g' = aSlice P t a vlo vhi vmx g
      unfold aSlice
      cases a with
      | slice a len cap => cases a with
        | none =>
          cases P.underlying t with
          | none => rfl
          | some du => cases du <;> rfl
        | some a =>
          have := h a.block rfl
          obtain ⟨n, off, sp⟩ := a
          cases sp with
          | some _ =>
            cases P.underlying t with
            | none => rfl
            | some du => cases du <;> rfl
          | none =>
            simp only at this
            cases P.underlying t with
            | none => rfl
            | some du => cases du <;> first | rfl | simp only [this]
      | _ =>
        cases P.underlying t with
        | none => rfl
        | some du => cases du <;> rfl
  | convert s d x =>
    simp only [aLook]
    simp only [lookBlock] at h
    cases P.underlying s with
    | none => rfl
    | some ds =>
      cases ds <;> try rfl
      cases P.underlying d with
      | none => rfl
      | some dd =>
        cases dd <;> try rfl
        cases hx : T.ev x with
        | none => rfl
        | some a =>
          rw [hx] at h
          cases a with
          | slice a len cap => cases a with
            | none => rfl
            | some a =>
              have := h a.block rfl
              obtain ⟨n, off, sp⟩ := a
              cases sp with
              | some _ => rfl
              | none => simp only [loadN_congr this]
          | _ => rfl
  | _ => rfl

/-- what is seen though the block is gone is seen in any case -/
theorem aLook_dead {T : TS} {o : Op} {g : AHeap} {v : Value} {b : Nat} (hb : lookBlock T o = some b) (hd : ¬ (g.get b).st < 2) (h : aLook P T g o = some v) (g' : AHeap) : aLook P T g' o = some v := by
  cases o with
  | load t x =>
    simp only [aLook] at h ⊢
    simp only [lookBlock] at hb
    cases hx : T.ev x with
    | none => rw [hx] at h; cases h
    | some a =>
      rw [hx] at h hb
      simp only at h ⊢
      unfold aLoad at h
      split at h
      · cases hb
        simp [AHeap.loadN, hd] at h
      · cases hb
        simp [AHeap.load1, hd] at h
      · cases h
  | slice t x lo hi mx =>
    simp only [aLook] at h ⊢
    simp only [lookBlock] at hb
    cases hx : T.ev x with
    | none => rw [hx] at h; cases h
    | some a =>
      rw [hx] at h hb
      cases h1 : evOpt T lo <;> cases h2 : evOpt T hi <;> cases h3 : evOpt T mx <;> rw [h1, h2, h3] at h <;> simp only [reduceCtorEq] at h ⊢
      rename_i vlo vhi vmx
      unfold aSlice at h ⊢
      cases a with
      | slice a len cap => cases a with
        | none => cases hb
        | some a =>
          obtain ⟨n, off, sp⟩ := a
          cases sp with
          | some _ => 
            cases hu : P.underlying t with
            | none => rw [hu] at h; cases h
            | some du =>
              rw [hu] at h
              cases du <;> simp only [reduceCtorEq] at h
              rename_i e
              cases hi : P.info? e with
              | none => rw [hi] at h; cases h
              | some inf =>
                rw [hi] at h
                simp only at h
                split at h
                · cases h
                · split at h
                  · cases h
                  · split at h
                    · cases h
                    · split at h
                      · cases h
                      · split at h <;> cases h
          | none =>
            cases hb
            have e0 : ∀ (q : Nat), (cap = 0 ∨ (g.get n).st < 2 ∧ (g.get n).esz = q) → (cap = 0 ∨ (g'.get n).st < 2 ∧ (g'.get n).esz = q) := by
              intro q hq
              rcases hq with hq | hq
              · exact .inl hq
              · exact absurd hq.1 hd
            cases hu : P.underlying t with
            | none => rw [hu] at h; cases h
            | some du =>
              rw [hu] at h
              cases du <;> simp only [reduceCtorEq] at h
              rename_i e
              simp only
              cases hi : P.info? e with
              | none => rw [hi] at h; cases h
              | some inf =>
                rw [hi] at h
                simp only at h ⊢
                split at h
                · cases h
                · rename_i m hm
                  split at h
                  · cases h
                  · rename_i hn
                    rw [if_neg hn]
                    split at h
                    · cases h
                    · rename_i b' hb'
                      split at h
                      · cases h
                      · rename_i l hl
                        split at h
                        · cases h
                        · rename_i hbm
                          rw [if_neg hbm]
                          split at h
                          · rename_i hc
                            rw [if_pos (e0 _ hc)]; exact h
                          · cases h
      | _ =>
        cases hu : P.underlying t with
        | none => rw [hu] at h; cases h
        | some du => rw [hu] at h; cases du <;> first | (cases h; done) | exact h
  | convert s d x =>
    simp only [aLook] at h ⊢
    simp only [lookBlock] at hb
    cases hx : T.ev x with
    | none => rw [hx] at hb; cases hb
    | some a =>
      rw [hx] at h hb
      split at h
      · rename_i e ba len cap hs hdd hxx
        cases hxx
        split at h
        · split at h
          · cases hb
          · cases hb
            simp [AHeap.loadN, hd] at h
          · cases h
        · cases h
      · cases h
  | _ => cases h

/-! equal values -/
mutual
theorem beqV_eq : ∀ {a b : Value}, beqV a b = true → a = b
  | .bool a, b, h => by cases b <;> simp_all [beqV]
  | .int k a, b, h => by cases b <;> simp_all [beqV]
  | .string a, b, h => by
    cases b <;> simp only [beqV, Bool.false_eq_true, beq_iff_eq] at h
    rename_i b
    obtain ⟨⟨a⟩⟩ := a
    obtain ⟨⟨b⟩⟩ := b
    simp only at h
    rw [h]
  | .pointer a, b, h => by cases b <;> simp_all [beqV]
  | .slice a l c, b, h => by cases b <;> simp_all [beqV]
  | .nilFunc, b, h => by cases b <;> simp_all [beqV]
  | .nilIface, b, h => by cases b <;> simp_all [beqV]
  | .agg ⟨a⟩, b, h => by
    cases b <;> simp only [beqV, Bool.false_eq_true] at h
    rename_i b
    obtain ⟨b⟩ := b
    rw [beqVs_eq h]
  | .float _ _, b, h => by cases b <;> simp [beqV] at h
  | .complex _ _ _, b, h => by cases b <;> simp [beqV] at h
  | .map _, b, h => by cases b <;> simp [beqV] at h
  | .chan _, b, h => by cases b <;> simp [beqV] at h
  | .func _ _ _, b, h => by cases b <;> simp [beqV] at h
  | .iface _ _, b, h => by cases b <;> simp [beqV] at h
  | .tuple _, b, h => by cases b <;> simp [beqV] at h
theorem beqVs_eq : ∀ {a b : List Value}, beqVs a b = true → a = b
  | [], b, h => by cases b <;> simp_all [beqVs]
  | x :: a, b, h => by
    cases b with
    | nil => simp [beqVs] at h
    | cons y b =>
      simp only [beqVs, Bool.and_eq_true] at h
      rw [beqV_eq h.1, beqVs_eq h.2]
end

theorem seenAt_eq {T : TS} {o : Op} {v : Value} {g : AHeap} (h : seenAt P T o v g = true) : aLook P T g o = some v := by
  unfold seenAt at h
  cases hl : aLook P T g o with
  | none => rw [hl] at h; cases h
  | some u => rw [hl] at h; rw [beqV_eq h]

/-! masks -/
theorem maskH_next : ∀ (l : List Nat) (g : AHeap), (maskH g l).next = g.next
  | [], _ => rfl
  | _ :: l, _ => maskH_next l _
theorem maskH_get : ∀ (l : List Nat) (g : AHeap) (m : Nat), (maskH g l).get m = if m ∈ l then deadBlk else g.get m
  | [], g, m => by simp [maskH]
  | n :: l, g, m => by
    simp only [maskH, maskH_get l, AHeap.get_upd, List.mem_cons]
    by_cases h1 : m ∈ l
    · simp [h1]
    · by_cases h2 : m = n
      · subst h2
        by_cases h3 : m < g.next
        · simp [h1, h3]
        · simp [h1, h3, AHeap.get]
      · simp [h1, h2]
theorem unmaskH_next : ∀ (l : List Nat) (g old : AHeap), (unmaskH g old l).next = g.next
  | [], _, _ => rfl
  | _ :: l, _, _ => unmaskH_next l _ _
theorem unmaskH_get : ∀ (l : List Nat) (g old : AHeap) (m : Nat), (unmaskH g old l).get m = if m ∈ l ∧ m < g.next then old.get m else g.get m
  | [], g, old, m => by simp [unmaskH]
  | n :: l, g, old, m => by
    simp only [unmaskH, unmaskH_get l, AHeap.get_upd, List.mem_cons]
    have e : (g.upd n (old.get n)).next = g.next := rfl
    rw [e]
    by_cases h1 : m ∈ l
    · by_cases h3 : m < g.next
      · simp [h1, h3]
      · have : m = n → ¬ n < g.next := fun h => by omega
        by_cases h2 : m = n
        · simp [h2]; intro h; omega
        · simp [h1, h3, h2]
    · by_cases h2 : m = n
      · subst h2
        by_cases h3 : m < g.next <;> simp [h1, h3]
      · simp [h1, h2]

end Go.Ab
