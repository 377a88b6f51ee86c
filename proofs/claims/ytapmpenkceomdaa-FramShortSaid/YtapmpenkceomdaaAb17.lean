/- A law that the abstract run answers: what was there stays as it was. -/
import Derived.Test.YtapmpenkceomdaaAb16
import Derived.ChangeSame
import Derived.Below
namespace Go.Ab
open Go.ChangeShapes Go.WideShapes

/-- what was there stays -/
structure Old (W W' : World) : Prop where
  os : W'.os = W.os
  output : W'.output = W.output
  size : W.heap.size ≤ W'.heap.size
  block : ∀ k, k < W.heap.size → W'.heap[k]? = W.heap[k]?

theorem Old.frame {W W' : World} (h : Old W W') (may : MemPlace → Prop) : W.keptBut W' may := by
  refine ⟨h.os, h.output, fun i hi => ?_⟩
  rw [h.block i hi]
  split <;> simp_all

theorem Old.frozen {W W' : World} (h : Old W W') {a : Addr} (ha : a.block < W.heap.size) : W'.frozen? a = W.frozen? a := by
  simp only [World.frozen?, h.block a.block ha]

section
variable {P : Program}

/-- all of the memory is a frame -/
def topF (w : World) : Fm := ⟨fun k => k < w.heap.size, fun _ => deadBlk⟩

theorem top_HR (w : World) : HR (topF w) w w (AHeap.get ⟨.leaf, 0⟩) (fun _ => none) := by
  have h : ∀ n, (AHeap.get ⟨.leaf, 0⟩ n).st = 2 := fun n => by simp [AHeap.get, deadBlk]
  refine ⟨fun n hn => ?_, fun n m bn bm _ hn => ?_, fun n m bn bm hn => ?_, fun n bn hn => ?_, fun n bn hn => ?_, fun k _ => rfl, fun k hk => hk, ⟨rfl, rfl⟩⟩ <;> rw [h n] at hn <;> omega

theorem HR.oldTop {w w1 : World} {g : Nat → ABlk} {β : Inj} (H : HR (topF w) w w1 g β) : Old w w1 := by
  refine ⟨H.env.1, H.env.2, ?_, fun k hk => H.keep k hk⟩
  rcases Nat.eq_zero_or_pos w.heap.size with h | h
  · omega
  · have := H.old (w.heap.size - 1) (show w.heap.size - 1 < w.heap.size by omega); omega

/-- from an empty abstract heap -/
theorem run_closed (hm : P.follows .mixedOrders = true) {n d f : Nat} {args : List Value} {b : Bool} {g1 : AHeap} (hargs : args.all closedCell = true)
    (h : aCall P n d f args ⟨.leaf, 0⟩ = some (.bool b, g1)) (w : World) : Calls P f ⟨args⟩ w fun e w' => e = .returned (.bool b) ∧ Old w w' := by
  have hs := sound hm n d
  refine (hs.calls h (top_HR w) (lim := g1.next) (fun _ _ _ => rfl) (Nat.le_refl _) (LR.closed hargs)).mono ?_
  rintro e w1 ⟨v', β1, rfl, _, h2, h3, _⟩
  refine ⟨?_, h2.oldTop⟩
  rw [h3.bool_inv]

end

section
variable {H : Type} {enc : TypeId × Value → H} {P : Program}

/-- what a law is asked for: the arguments read as they did -/
theorem post_of_old {f : Func} {s : ChangeSpec} {apart fresh handsOn again : Bool} {W W' : World} {args : Array Value} {v : Value} {ds gs : List (DataW H)} {before pa pv : List MemPlace}
    (hW : DataW.Whole enc P f.params.toList s.vars apart W args.toList ds gs before)
    (hres : ∀ (b : Nat) (sp : Nat → Bool) (hd : Bool), DataW.TrodAll enc P W' b sp hd f.resultTypes.toList (v.resultList f.resultTypes.size) (s.fn H (ds ++ gs)).results [])
    (hargs : ∀ sp : Nat → Bool, (∀ p ∈ before, sp p.block = true) → DataW.TrodAll enc P W' 0 sp true f.params.toList args.toList (s.fn H (ds ++ gs)).args pa)
    (hvars : ∀ sp : Nat → Bool, (∀ p ∈ before, sp p.block = true) → DataW.TrodVars enc P W' sp s.vars (s.fn H (ds ++ gs)).vars pv)
    (hps : before = pa ++ pv) (ho : Old W W')
    (hok : ∀ (j : Nat) (t : TypeId) (r : Value), f.resultTypes[j]? = some t → (v.resultList f.resultTypes.size)[j]? = some r → Value.okWide P W' .any 0 t r) :
    s.post enc P f apart fresh handsOn again W args v W' := by
  have hold : ∀ p ∈ before, (fun b => decide (b < W.heap.size)) p.block = true := fun p hp => by simpa using hW.lt p hp
  have hlt := fun p hp => hW.lt p hp
  refine ⟨ds, gs, before, [], pa, pv, hW, hres _ _ _, hargs _ hold, hvars _ hold, World.keptBut_mono (fun p hp => ⟨hp, ?_⟩) (ho.frame (· ∈ before)), fun _ => ?_⟩
  · rw [hps, List.mem_append] at hp
    exact Or.inr hp
  · obtain ⟨_, _, _, _, _, hz, hn⟩ := hW
    refine ⟨hok, _, _, ([] ++ pa) ++ pv, ⟨[] ++ pa, pv, trodAll_append (hargs _ (fun _ _ => rfl)) (hres _ _ _), hvars _ (fun _ _ => rfl), rfl, ?_, ?_⟩, ?_⟩
    · intro b off hp
      have hb : MemPlace.cell b off ∈ before := by rw [hps]; simpa using hp
      rw [ho.frozen (a := ⟨b, off, none⟩) (hlt _ hb)]
      exact hz b off hb
    · intro ha
      have := hn ha
      rw [hps] at this
      simpa using this
    · intro p hp _
      rw [hps]
      simpa using hp

end
end Go.Ab
