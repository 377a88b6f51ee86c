/- BlobForms: the run is cut where the place in the row of cases is known. -/
import Derived.Test.YtapmpenkceomdaaAb18
import Derived.KernelRfl
import Derived.Test.YtapmpenkceomdaaProg
namespace Go.Proofs.Ytapmpenkceomdaa.blobForms
open Go.Ab

def e1 (a : Int) : Int := IntKind.i64.wrap ((BitVec.ofInt 64 a &&& BitVec.ofInt 64 255).toNat)
noncomputable def U (a : Int) : Option (TS × AHeap) := upto Try.prog 100000 59 9 7 5 [.int .i64 a] ⟨.leaf, 0⟩
noncomputable def T0 (a : Int) : TS := ((U a).getD (⟨.leaf, 0⟩, ⟨.leaf, 0⟩)).1
noncomputable def h0 (a : Int) : AHeap := ((U a).getD (⟨.leaf, 0⟩, ⟨.leaf, 0⟩)).2
noncomputable def oo : Oper := ((regionOf Try.prog 9 7)[5]?).getD default
def saysTrue (r : Option (Value × AHeap)) : Bool := match r with
  | some (.bool b, _) => b
  | _ => false
noncomputable def rest (a x : Int) : Option (Value × AHeap) := behind Try.prog 100000 59 9 7 6 ((T0 a).put (some 77) (.int .i64 x)) (h0 a)
theorem u1 (a : Int) : (U a).isSome = true := by kernel_rfl
theorem u2 : ((regionOf Try.prog 9 7)[5]?).isSome = true := by kernel_rfl
theorem u3 : oo.guard = none := by kernel_rfl
theorem u4 : oo.dst = some 77 := by kernel_rfl
theorem u5 : oo.op = .binOp .rem 3 (.tmp 74) (.tmp 76) 3 := by kernel_rfl
theorem u6 (a : Int) : (T0 a).ev (.tmp 74) = some (.int .i64 (e1 a)) := by kernel_rfl
theorem u7 (a : Int) : (T0 a).ev (.tmp 76) = some (.int .i64 9) := by kernel_rfl

theorem wrap_small (m : Int) (h0 : 0 ≤ m) (h : m < 2 ^ 63) : IntKind.i64.wrap m = m := by
  simp only [IntKind.wrap]
  have e : m % 2 ^ IntKind.i64.bits = m := Int.emod_eq_of_lt h0 (by show m < 2 ^ 64; omega)
  rw [e]
  have n : ¬ m ≥ 2 ^ (IntKind.i64.bits - 1) := by show ¬ m ≥ 2 ^ 63; omega
  simp [n]

theorem e1_range (a : Int) : 0 ≤ e1 a ∧ e1 a < 256 := by
  have h : (BitVec.ofInt 64 a &&& BitVec.ofInt 64 255).toNat ≤ 255 := by
    rw [BitVec.toNat_and]
    exact Nat.and_le_right
  unfold e1
  generalize (BitVec.ofInt 64 a &&& BitVec.ofInt 64 255).toNat = m at h
  rw [wrap_small m (by omega) (by omega)]; omega

theorem cut (a : Int) {x : Value × AHeap} (h : rest a ((e1 a).tmod 9) = some x) : aCall Try.prog 100000 60 9 [.int .i64 a] ⟨.leaf, 0⟩ = some x := by
  have hU : U a = some (T0 a, h0 a) := by
    have := u1 a
    unfold T0 h0
    cases hu : U a with
    | none => rw [hu] at this; cases this
    | some y => rfl
  have ho : (regionOf Try.prog 9 7)[5]? = some oo := by
    have := u2
    unfold oo
    cases hu : (regionOf Try.prog 9 7)[5]? with
    | none => rw [hu] at this; cases this
    | some y => rfl
  refine aCall_split (r := 7) (q := 5) hU ?_
  have hop : aOper Try.prog (aCall Try.prog 100000 59) (T0 a) (h0 a) oo.op = some (.int .i64 ((e1 a).tmod 9), h0 a) := by
    rw [u5]
    show (aPure Try.prog (T0 a) (.binOp .rem 3 (.tmp 74) (.tmp 76) 3)).map (fun v => (v, h0 a)) = _
    simp only [aPure, u6, u7]
    rfl
  rw [behind_step ho u3 hop, u4]
  exact h

end Go.Proofs.Ytapmpenkceomdaa.blobForms
