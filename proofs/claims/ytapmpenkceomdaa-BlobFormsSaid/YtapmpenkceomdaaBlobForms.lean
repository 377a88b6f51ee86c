/- BlobForms answers true whatever its number is: the run is the same for all numbers but for the place in the row of cases, and each place of the row was run. -/
import Derived.Test.YtapmpenkceomdaaBf0
import Derived.Test.YtapmpenkceomdaaBf1
import Derived.Test.YtapmpenkceomdaaBf2
import Derived.Test.YtapmpenkceomdaaRows
import Derived.WalkKit
import Derived.ProofKit
import Derived.OpenShut
import Derived.Test.YtapmpenkceomdaaFacts
import Derived.Test.YtapmpenkceomdaaFactsB
import Derived.Test.YtapmpenkceomdaaFactsC
namespace Go.Proofs.Ytapmpenkceomdaa.blobForms
open Go.ChangeShapes Go.WideShapes Go.ChangeAt Go.RowKit Go.Ab
set_option linter.unusedVariables false

theorem own : ownKnob Try.prog.godebug = none := by kernel_rfl

theorem says {r : Option (Value × AHeap)} (h : saysTrue r = true) : ∃ g, r = some (.bool true, g) := by
  unfold saysTrue at h
  split at h
  · rename_i b g
    exact ⟨g, by rw [h]⟩
  · cases h

theorem walk (a0 : Int) (w0 : (Lit.int .i64 a0).wf = true) (w : World) :
    Calls Try.prog 9 #[.int .i64 a0] w fun e w' => e = .returned (.bool true) ∧ Old w w' := by
  have hr := e1_range a0
  have : saysTrue (rest a0 ((e1 a0).tmod 9)) = true := by
    generalize e1 a0 = y at hr ⊢
    obtain ⟨m, rfl⟩ := Int.eq_ofNat_of_zero_le hr.1
    have e : (m : Int).tmod 9 = ((m % 9 : Nat) : Int) := rfl
    rw [e]
    have hlt : m % 9 < 9 := Nat.mod_lt _ (by decide)
    generalize m % 9 = x at hlt
    have : x = 0 ∨ x = 1 ∨ x = 2 ∨ x = 3 ∨ x = 4 ∨ x = 5 ∨ x = 6 ∨ x = 7 ∨ x = 8 := by omega
    rcases this with rfl | rfl | rfl | rfl | rfl | rfl | rfl | rfl | rfl
    · exact c0 a0
    · exact c1 a0
    · exact c2 a0
    · exact c3 a0
    · exact c4 a0
    · exact c5 a0
    · exact c6 a0
    · exact c7 a0
    · exact c8 a0
  obtain ⟨g, hg⟩ := says this
  exact run_closed (by kernel_rfl) rfl (cut a0 hg) w

set_option maxRecDepth 100000 in
theorem lifted (os : Os) (started : os.Started) (H : Type) (enc : TypeId × Value → H) :
    ReturnsInHanded {} Try.checked os 9 .any (Rows.blobFormsSpec.pre6 enc Try.prog Try.f9 Rows.blobFormsRow.domain false) (Rows.blobFormsSpec.post enc Try.prog Try.f9 false true false false) := by
  refine returnsInHanded_of_change (C := Try.checked) own started (by kernel_rfl) Try.func9
    (ChangeSpec.witness6 (enc := enc) (C := Try.checked) false ⟨#[], #[.int .i64 0], []⟩ 8 (by kernel_rfl) (by kernel_rfl) (by kernel_rfl) (by kernel_rfl)) ?_
  intro W base args ds gs before hval0 hW hcnd _
  have hval : ∀ (j : Nat) t v, Try.f9.params[j]? = some t → args[j]? = some v → Value.okWide Try.prog W .any base t v := hval0
  have hW' := hW
  obtain ⟨p, q, hA0, hV, rfl, hfz, hnd⟩ := hW
  have hA : DataW.TrodAll enc Try.prog W 0 (fun _ => true) true Try.f9.params.toList args.toList ds p := hA0
  rw [Try.params9] at hA hval
  obtain ⟨v0, vs0, d0, ds0, p0, q0, hargs, rfl, rfl, h0, r0⟩ := trodAll_cons hA
  obtain ⟨rfl, rfl, rfl⟩ := trodAll_nil r0
  obtain rfl : args = #[v0] := by cases args; simp_all
  obtain ⟨rfl, rfl⟩ := trodVars_none hV
  obtain ⟨a0, rfl, rfl, rfl, w0⟩ := open_int Try.underlying3 (hval 0 3 v0 rfl rfl) h0
  clear hA0 hval0
  simp only [List.append_nil] at hW'
  refine (walk a0 w0 W).mono fun e W' ⟨he, hg⟩ => ?_
  subst he
  exact ⟨_, rfl, post_of_old (pa := []) (pv := []) hW' (fun _ _ _ => (trodAll_cons_mk (shut_bool Try.underlying4 _) trodAll_mk0)) (fun sp _ => (trodAll_cons_mk (shut_int Try.underlying3 w0) trodAll_mk0)) (fun _ _ => rfl) rfl
    hg (ok_one (by kernel_rfl) rfl (okWide_bool_mk Try.underlying4 _))⟩

theorem inPlace : Try.prog.inPlace 9 = Rows.blobFormsRow.inPlace := by kernel_rfl
theorem unfollowed : Try.prog.unfollowed 9 = Rows.blobFormsRow.unfollowed := by kernel_rfl
theorem recurses : Try.prog.recurses 9 = Rows.blobFormsRow.recurses := by kernel_rfl
theorem named : Try.prog.varsNamed 9 = Rows.blobFormsRow.named := by kernel_rfl
theorem joined : joinedFacts Try.prog 9 Try.f9 Rows.blobFormsSpec Rows.blobFormsRow = true := by
  unfold joinedFacts
  rw [facts.laid, facts.rowed, facts.stops, facts.knobs, facts.heard, facts.enter, facts.lifted, facts.keys, inPlace, unfollowed, recurses, named]
  kernel_rfl

theorem over : Rows.blobFormsRow.holds Try.pinned (OpenSpec.ofChange Rows.blobFormsSpec) :=
  OpenClaim.holds_of_wide 9 Try.f9 rfl rfl rfl rfl rfl rfl rfl ⟨rfl, rfl, rfl, rfl, rfl⟩ rfl rfl rfl rfl rfl (by kernel_rfl) Try.func9 joined
    (of_decide_eq_true (by kernel_rfl)) (by unfold Func.isWrapper; first | (rw [if_pos (by decide +kernel)]; kernel_rfl) | (rw [if_neg (by decide +kernel)]; exact ⟨rfl, rfl⟩))
    (fun os started H enc _ => lifted os started H enc)

/-- the statement -/
theorem proved : Rows.BlobFormsSaid :=
  over
end Go.Proofs.Ytapmpenkceomdaa.blobForms
