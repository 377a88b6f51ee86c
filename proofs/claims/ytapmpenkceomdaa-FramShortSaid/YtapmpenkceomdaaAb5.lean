/- Operations that only compute, or only look. -/
import Derived.Test.YtapmpenkceomdaaAb4
namespace Go.Ab
variable {P : Program} {F : Fm} {w0 w : World} {β : Inj} {g : AHeap} {lim : Nat}

theorem run_eqGuard_int (op : BinOp) (t : TypeId) (x y : Operand) (k k' : IntKind) (a b : Int) : (eqGuard op t x y (.int k a) (.int k' b)).run P w = .ok () w := by
  unfold eqGuard; cases op <;> rfl
theorem run_eqGuard_str (op : BinOp) (t : TypeId) (x y : Operand) (a b : ByteArray) : (eqGuard op t x y (.string a) (.string b)).run P w = .ok () w := by
  unfold eqGuard; cases op <;> rfl

theorem run_int {op : BinOp} {t : TypeId} {k : IntKind} {a b : Int} {v : Value} (h1 : op ≠ .shl) (h2 : op ≠ .shr) (h : aInt op k a b = some v) :
    (binOp op t (.int k a) (.int k b)).run P w = .ok v w := by
  cases op <;> simp only [aInt, bits, Option.map_some, Option.some.injEq, reduceCtorEq, ne_eq] at h h1 h2 <;>
    first
    | (subst h; simp [binOp, Op.intArith, Op.intBits, Op.intCmp]; done)
    | (split at h
       · cases h
       · rename_i hb; cases h; simp [binOp, Op.intDiv, hb])

theorem run_shift {k k' : IntKind} {a b : Int} (hb : ¬ b < 0) :
    (binOp .shl 0 (.int k a) (.int k' b)).run P w = .ok (.int k (k.wrap (a * 2 ^ (min b.toNat k.bits)))) w ∧
    (binOp .shr 0 (.int k a) (.int k' b)).run P w = .ok (.int k (a.fdiv (2 ^ (min b.toNat k.bits)))) w := by
  constructor <;> simp [binOp, Op.shift, hb]

theorem run_equal_bool {t : TypeId} (hu : P.underlying t = some .bool) (a b : Bool) : (Op.equal t (.bool a) (.bool b)).run P w = .ok (a == b) w := by
  have : ∀ d, (Op.equalIn (d + 1) t (.bool a) (.bool b)).run P w = .ok (a == b) w := fun d => by
    simp only [Op.equalIn, Sem.run_bind, run_under hu, Result.andThen_ok]; rfl
  exact this 9999
theorem run_equal_ptr {t e : TypeId} (hu : P.underlying t = some (.pointer e)) (b : Option Addr) : (Op.equal t (.pointer none) (.pointer b)).run P w = .ok b.isNone w := by
  have : ∀ d, (Op.equalIn (d + 1) t (.pointer none) (.pointer b)).run P w = .ok b.isNone w := fun d => by
    simp only [Op.equalIn, Sem.run_bind, run_under hu, Result.andThen_ok]; rfl
  exact this 9999
theorem run_equal_ptr' {t e : TypeId} (hu : P.underlying t = some (.pointer e)) (a : Addr) : (Op.equal t (.pointer (some a)) (.pointer none)).run P w = .ok false w := by
  have : ∀ d, (Op.equalIn (d + 1) t (.pointer (some a)) (.pointer none)).run P w = .ok false w := fun d => by
    simp only [Op.equalIn, Sem.run_bind, run_under hu, Result.andThen_ok]; rfl
  exact this 9999
theorem run_equal_sl {t e : TypeId} (hu : P.underlying t = some (.slice e)) (b : Option Addr) (l c m d : Nat) : (Op.equal t (.slice none l c) (.slice b m d)).run P w = .ok b.isNone w := by
  have : ∀ k, (Op.equalIn (k + 1) t (.slice none l c) (.slice b m d)).run P w = .ok b.isNone w := fun k => by
    simp only [Op.equalIn, Sem.run_bind, run_under hu, Result.andThen_ok]; rfl
  exact this 9999
theorem run_equal_sl' {t e : TypeId} (hu : P.underlying t = some (.slice e)) (a : Addr) (l c m d : Nat) : (Op.equal t (.slice (some a) l c) (.slice none m d)).run P w = .ok false w := by
  have : ∀ k, (Op.equalIn (k + 1) t (.slice (some a) l c) (.slice none m d)).run P w = .ok false w := fun k => by
    simp only [Op.equalIn, Sem.run_bind, run_under hu, Result.andThen_ok]; rfl
  exact this 9999

theorem simEq {op : BinOp} {t : TypeId} {xo yo : Operand} {x y x' y' : Value} {r : Bool} (hx : VR β x x') (hy : VR β y y') (hr : aEq P t x y = some r) :
    (eqGuard op t xo yo x' y').run P w = .ok () w ∧ (binOp .eql t x' y').run P w = .ok (.bool r) w ∧ (binOp .neq t x' y').run P w = .ok (.bool !r) w := by
  have fin : ∀ (X Y : Value), (Op.equal t X Y).run P w = .ok r w → (binOp .eql t X Y = do pure (.bool (← Op.equal t X Y))) → (binOp .neq t X Y = do pure (.bool (!(← Op.equal t X Y)))) →
      (binOp .eql t X Y).run P w = .ok (.bool r) w ∧ (binOp .neq t X Y).run P w = .ok (.bool !r) w := by
    intro X Y h e1 e2
    rw [e1, e2, Sem.run_bind, Sem.run_bind, h]
    exact ⟨rfl, rfl⟩
  unfold aEq at hr
  split at hr
  · rename_i a b hu
    have e1 := hx.bool_inv; have e2 := hy.bool_inv; subst e1 e2
    cases hr
    exact ⟨by unfold eqGuard; cases op <;> rfl, fin _ _ (run_equal_bool hu a b) rfl rfl⟩
  · rename_i p b hu
    have e1 := hx.pnil_inv; subst e1
    have hb : ∃ b', y' = .pointer b' ∧ b'.isNone = b.isNone := by
      cases b with
      | none => exact ⟨none, hy.pnil_inv, rfl⟩
      | some b => obtain ⟨bi, _, _, h⟩ := hy.ptr_inv; exact ⟨_, h, rfl⟩
    obtain ⟨b', rfl, hb⟩ := hb
    cases hr
    exact ⟨by unfold eqGuard; cases op <;> rfl, fin _ _ (by rw [run_equal_ptr hu, ← hb]) rfl rfl⟩
  · rename_i p b hu
    obtain ⟨bi, _, _, e1⟩ := hx.ptr_inv; subst e1
    have e2 := hy.pnil_inv; subst e2
    cases hr
    exact ⟨by unfold eqGuard; cases op <;> rfl, fin _ _ (run_equal_ptr' hu _) rfl rfl⟩
  · rename_i e l1 c1 b l2 c2 hu
    obtain ⟨rfl, rfl, e1⟩ := hx.snil_inv; subst e1
    have hb : ∃ b' l' c', y' = .slice b' l' c' ∧ b'.isNone = b.isNone := by
      cases b with
      | none => obtain ⟨_, _, h⟩ := hy.snil_inv; exact ⟨_, _, _, h, rfl⟩
      | some b => obtain ⟨_, ⟨_, _, a', h⟩ | ⟨bi, c', _, _, _, _, h⟩⟩ := hy.sl_inv <;> exact ⟨_, _, _, h, rfl⟩
    obtain ⟨b', l', c', rfl, hb⟩ := hb
    cases hr
    exact ⟨by unfold eqGuard; cases op <;> rfl, fin _ _ (by rw [run_equal_sl hu, ← hb]) rfl rfl⟩
  · rename_i e b l1 c1 l2 c2 hu
    obtain ⟨rfl, rfl, e1⟩ := hy.snil_inv; subst e1
    have hb : ∃ b' l' c', x' = .slice (some b') l' c' := by
      obtain ⟨_, ⟨_, _, a', h⟩ | ⟨bi, c', _, _, _, _, h⟩⟩ := hx.sl_inv <;> exact ⟨_, _, _, h⟩
    obtain ⟨b', l', c', rfl⟩ := hb
    cases hr
    exact ⟨by unfold eqGuard; cases op <;> rfl, fin _ _ (run_equal_sl' hu _ _ _ _ _) rfl rfl⟩
  · cases hr

theorem simBin {op : BinOp} {t : TypeId} {xo yo : Operand} {x y x' y' v : Value} (hx : VR β x x') (hy : VR β y y') (h : aBin P op t x y = some v) :
    (do eqGuard op t xo yo x' y'; binOp op t x' y').run P w = .ok v w ∧ closedCell v = true := by
  unfold aBin at h
  split at h
  · rename_i k a k' b
    have e1 := hx.int_inv; have e2 := hy.int_inv; subst e1 e2
    split at h
    · cases h
    · cases h
      refine ⟨?_, rfl⟩
      rw [Sem.run_bind, run_eqGuard_int, Result.andThen_ok]
      simp [binOp, Op.shift, *]
  · rename_i k a k' b
    have e1 := hx.int_inv; have e2 := hy.int_inv; subst e1 e2
    split at h
    · cases h
    · cases h
      refine ⟨?_, rfl⟩
      rw [Sem.run_bind, run_eqGuard_int, Result.andThen_ok]
      simp [binOp, Op.shift, *]
  · rename_i k a k' b n1 n2
    have e1 := hx.int_inv; have e2 := hy.int_inv; subst e1 e2
    split at h
    · rename_i hk
      subst hk
      refine ⟨?_, ?_⟩
      · rw [Sem.run_bind, run_eqGuard_int, Result.andThen_ok]
        exact run_int n1 n2 h
      · revert h
        cases op <;> simp only [aInt, bits, Option.map_some, Option.some.injEq, reduceCtorEq, false_implies] <;> first
          | (intro h; subst h; rfl)
          | (split <;> intro h <;> first | (cases h; rfl) | (cases h; done))
    · cases h
  all_goals first
    | (rename_i a b
       have e1 := hx.string_inv; have e2 := hy.string_inv; subst e1 e2
       first
       | (cases h
          refine ⟨?_, rfl⟩
          rw [Sem.run_bind, run_eqGuard_str, Result.andThen_ok]
          simp [binOp, Op.stringOp]; done)
       | (split at h
          · cases h
          · cases h
            refine ⟨?_, rfl⟩
            rw [Sem.run_bind, run_eqGuard_str, Result.andThen_ok]
            simp only [binOp, Op.stringOp]
            rw [if_neg ‹_›]; rfl))
    | (cases h; done)
    | skip
  split at h
  · rename_i e he
    simp only [Option.map_eq_some_iff] at h
    obtain ⟨r, hr, rfl⟩ := h
    refine ⟨?_, rfl⟩
    obtain ⟨k2, k3, k4⟩ := simEq (w := w) (op := op) (xo := xo) (yo := yo) hx hy hr
    rw [Sem.run_bind, k2, Result.andThen_ok]
    cases op <;> simp only [isEq, Option.some.injEq, reduceCtorEq] at he
    · subst he; rw [k3]; cases r <;> rfl
    · subst he; rw [k4]; cases r <;> rfl
  · cases h

theorem simUn {op : UnOp} {x x' v : Value} (hx : VR β x x') (h : aUn op x = some v) : (Op.unary op x').run P w = .ok v w ∧ closedCell v = true := by
  unfold aUn at h
  split at h
  · have e := hx.int_inv; subst e; cases h; exact ⟨by simp [Op.unary, Op.intArith], rfl⟩
  · rename_i k n
    have e := hx.int_inv; subst e
    simp only [bits, Option.map_some, Option.some.injEq] at h
    subst h
    exact ⟨by simp [Op.unary, Op.intBits], rfl⟩
  · have e := hx.bool_inv; subst e; cases h; exact ⟨by simp [Op.unary], rfl⟩
  · cases h

end Go.Ab
