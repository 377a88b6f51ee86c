/- Each kind of operation: what clean code says, the text's operation does. -/
import Derived.Test.YtapmpenkceomdaaAb20
namespace Go.Ab
variable {P : Program} {T : TS} {E : Env}

theorem call_pure (s : Sees T E) {c : Call} {t : TOp} (h : tidyCall P c = some t) (hk : t.kind = 0) {v : Value} (hv : tPure E t = some v) : aPure P T (.call c) = some v := by
  obtain ⟨callee, args, ats⟩ := c
  unfold tidyCall at h
  simp only at h
  split at h
  · split at h
    · rename_i x t' ha hb
      split at h
      · rename_i y h1 h2
        cases h
        simp only [aPure, ha, hb, h1, s.o h2, tPure, lenTV] at hv ⊢
        split at hv
        · rename_i z hz; rw [hz]; exact hv
        · cases hv
      · rename_i y h1 h2
        cases h
        simp only [aPure, ha, hb, h1, s.o h2, tPure, lenSV] at hv ⊢
        split at hv
        · rename_i z hz; rw [hz]; exact hv
        · cases hv
      · rename_i y h1 h2
        cases h
        simp only [aPure, ha, hb, h1, s.o h2, tPure] at hv ⊢
        exact hv
      · cases h
    · cases h
  · simp only [Option.map_eq_some_iff] at h
    obtain ⟨l, h1, rfl⟩ := h
    simp only [aPure, s.l h1, tPure, mxV] at hv ⊢
    split at hv
    · rename_i hl; rw [hl]; exact hv
    · cases hv
  · simp only [Option.map_eq_some_iff] at h
    obtain ⟨l, h1, rfl⟩ := h
    simp only [aPure, s.l h1, tPure, mnV] at hv ⊢
    split at hv
    · rename_i hl; rw [hl]; exact hv
    · cases hv
  · (repeat' split at h) <;> first | (cases h; done) | (cases h; cases hk)
  · (repeat' split at h) <;> first | (cases h; done) | (cases h; cases hk)
  · (repeat' split at h) <;> first | (cases h; done) | (cases h; cases hk)
  · cases h

theorem tidyOp_pure (s : Sees T E) {o : Op} {t : TOp} (h : tidyOp P o = some t) (hk : t.kind = 0) {v : Value} (hv : tPure E t = some v) : aPure P T o = some v := by
  cases o <;> simp only [tidyOp] at h <;> try (cases h; done)
  case call c => exact call_pure s h hk hv
  case move x =>
    simp only [Option.map_eq_some_iff] at h; obtain ⟨y, h1, rfl⟩ := h
    simp only [aPure, s.o h1]; exact hv
  case assign x =>
    simp only [Option.map_eq_some_iff] at h; obtain ⟨y, h1, rfl⟩ := h
    simp only [aPure, s.o h1]; exact hv
  case pick c a b =>
    split at h
    · rename_i c' a' b' h1 h2 h3
      cases h
      simp only [aPure, s.o h1, s.o h2, s.o h3, tPure, pickV] at hv ⊢
      split at hv
      · rename_i z hz; rw [hz]; exact hv
      · cases hv
    · cases h
  case alloc t => split at h <;> first | (cases h; done) | (cases h; cases hk)
  case box t x => split at h <;> first | (cases h; done) | (cases h; cases hk)
  case buildSlice => (repeat' split at h) <;> first | (cases h; done) | (cases h; cases hk)
  case makeSlice => (repeat' split at h) <;> first | (cases h; done) | (cases h; cases hk)
  case store => (repeat' split at h) <;> first | (cases h; done) | (cases h; cases hk)
  case load => (repeat' split at h) <;> first | (cases h; done) | (cases h; cases hk)
  case slice => (repeat' split at h) <;> first | (cases h; done) | (cases h; cases hk)
  case build t parts =>
    split at h
    · rename_i z fields h1 h2
      split at h
      · rename_i l h3
        simp only [Option.map_eq_some_iff] at h; obtain ⟨m, h4, rfl⟩ := h
        obtain ⟨vs, e1, e2⟩ := s.p h4
        simp only [tPure, Option.map_eq_some_iff] at hv
        obtain ⟨r, h5, rfl⟩ := hv
        simp only [aPure, e1, aBuild, h1, h2, h3, e2 _ _ h5, Option.map_some]
      · cases h
    · rename_i z n e h1 h2
      split at h
      · rename_i i h3
        simp only [Option.map_eq_some_iff] at h; obtain ⟨m, h4, rfl⟩ := h
        obtain ⟨vs, e1, e2⟩ := s.p h4
        simp only [tPure, Option.map_eq_some_iff] at hv
        obtain ⟨r, h5, rfl⟩ := hv
        simp only [aPure, e1, aBuild, h1, h2, h3, e2 _ _ h5, Option.map_some]
      · cases h
    · cases h
  case nilCheck x =>
    simp only [Option.map_eq_some_iff] at h; obtain ⟨y, h1, rfl⟩ := h
    simp only [aPure, s.o h1, tPure, nilcV] at hv ⊢
    split at hv
    · rename_i hz; rw [hz]; exact hv
    · rename_i hz; rw [hz]; exact hv
    · cases hv
  case binOp op t x y yt =>
    split at h
    · rename_i h1 h2
      cases h
      simp only [aPure, s.o h1, s.o h2, aBin_V]; exact hv
    · cases h
  case unOp op t x =>
    simp only [Option.map_eq_some_iff] at h; obtain ⟨y, h1, rfl⟩ := h
    simp only [aPure, s.o h1]; exact hv
  case makeFunc fn a b =>
    split at h
    · rename_i h1 h2
      cases h
      simp only [aPure, s.l h1, s.l h2]; exact hv
    · cases h
  case fieldAddr t x f =>
    split at h
    · rename_i fields y h1 h2
      split at h
      · rename_i fd h3
        split at h
        · rename_i i h4
          split at h
          · cases h
          · rename_i hz
            cases h
            simp only [aPure, s.o h2, tPure, faddrV] at hv ⊢
            split at hv
            · rename_i n off he; rw [he]; simp only [aFieldAddr, h1, h3, h4, if_neg hz]; exact hv
            · cases hv
        · cases h
      · cases h
    · cases h
  case field t x f =>
    split at h
    · rename_i fields y h1 h2
      split at h
      · rename_i fd h3
        split at h
        · rename_i ag k h4
          cases h
          simp only [aPure, s.o h2, tPure, fldV] at hv ⊢
          split at hv
          · rename_i cs he; rw [he]; simp only [aField, h1, h3, aPart_V h4]; exact hv
          · cases hv
        · cases h
      · cases h
    · cases h
  case indexAddr t x i =>
    split at h
    · rename_i h1 h2 h3
      split at h
      · rename_i inf h4
        cases h
        simp only [aPure, s.o h2, s.o h3, tPure, iaddrSV] at hv ⊢
        split at hv
        · rename_i hx hi; rw [hx, hi]; simp only [aIndexAddr, h1, h4]; exact hv
        · cases hv
      · cases h
    · rename_i h1 h2 h3
      split at h
      · rename_i inf h4
        cases h
        simp only [aPure, s.o h2, s.o h3, tPure, iaddrAV] at hv ⊢
        split at hv
        · rename_i hx hi; rw [hx, hi]; simp only [aIndexAddr, h1, h4]; exact hv
        · cases hv
      · cases h
    · cases h
  case index t x i =>
    split at h
    · rename_i h1 h2 h3
      cases h
      simp only [aPure, s.o h2, s.o h3, tPure, idxTV] at hv ⊢
      split at hv
      · rename_i hx hi; rw [hx, hi]; simp only [aIndex, h1]; exact hv
      · cases hv
    · rename_i h1 h2 h3
      split at h
      · rename_i inf ag k h4 h5
        cases h
        simp only [aPure, s.o h2, s.o h3, tPure, idxAV] at hv ⊢
        split at hv
        · rename_i hx hi; rw [hx, hi]; simp only [aIndex, h1, h4, aPart_V h5]; exact hv
        · cases hv
      · cases h
    · cases h
  case extract x i =>
    simp only [Option.map_eq_some_iff] at h; obtain ⟨y, h1, rfl⟩ := h
    simp only [aPure, s.o h1, tPure, extV] at hv ⊢
    split at hv
    · rename_i hx; rw [hx]; exact hv
    · cases hv
  case convert a d x =>
    split at h
    · split at h <;> cases h; cases hk
    · cases h
    · split at h <;> cases h; cases hk
    · rename_i h1 h2 h3
      cases h
      simp only [tPure, convTV] at hv
      split at hv
      · rename_i hx; cases hv; simp only [aPure, h1, h2, s.o h3, hx]
      · cases hv
    · rename_i h1 h2 h3
      cases h
      simp only [tPure, convV] at hv
      split at hv
      · rename_i hx; cases hv; simp only [aPure, h1, h2, s.o h3, hx]
      · cases hv
    · cases h

theorem tidyOp_look (s : Sees T E) {o : Op} {t : TOp} (h : tidyOp P o = some t) (hk : t.kind = 1) (g : AHeap) {v : Value} (hv : tLook E g t = some v) : aLook P T g o = some v := by
  cases o <;> simp only [tidyOp] at h <;> try (cases h; done)
  case load t x =>
    split at h
    · rename_i h1 h2
      cases h
      simp only [aLook, s.o h2, aLoad_V h1]; exact hv
    · cases h
  case slice t x lo hi mx =>
    split at h
    · rename_i h1 h2 h3 h4 h5
      cases h
      simp only [tLook, sliceTV] at hv
      split at hv
      · rename_i hx
        have h6 := s.oo h5
        simp only [TO.evo] at h6
        simp only [aLook, s.o h2, s.oo h3, s.oo h4, h6, aSlice, h1, hx]
        exact hv
      · cases hv
    · rename_i h1 h2 h3 h4 h5
      split at h
      · rename_i inf h6
        cases h
        simp only [tLook, sliceSV] at hv
        split at hv
        · rename_i hx
          simp only [aLook, s.o h2, s.oo h3, s.oo h4, s.oo h5, aSlice, h1, hx, h6]
          exact hv
        · cases hv
      · cases h
    · cases h
  case convert a d x =>
    split at h
    · rename_i h1 h2 h3
      split at h
      · rename_i hu
        cases h
        have h4 := hu
        unfold isU8 at h4
        split at h4
        · rename_i h5
          simp only [aLook, h1, h2, s.o h3, tLook, b2tV] at hv ⊢
          split at hv
          · rename_i hx; rw [hx]; simp only [h5]; exact hv
          · rename_i hx; rw [hx]; simp only [h5]; exact hv
          · cases hv
        · cases h4
      · cases h
    · cases h
    · split at h <;> cases h; cases hk
    · cases h; cases hk
    · cases h; cases hk
    · cases h
  case call c =>
    obtain ⟨callee, args, ats⟩ := c
    unfold tidyCall at h
    simp only at h
    split at h <;> (repeat' split at h) <;> first | (cases h; done) | (cases h; cases hk) | (simp only [Option.map_eq_some_iff] at h; obtain ⟨_, _, rfl⟩ := h; cases hk)
  all_goals
    (repeat' split at h) <;> first | (cases h; done) | (cases h; cases hk) | (simp only [Option.map_eq_some_iff] at h; obtain ⟨_, _, rfl⟩ := h; cases hk)

theorem tidyOp_block (s : Sees T E) {o : Op} {t : TOp} (h : tidyOp P o = some t) (hk : t.kind = 1) : lookBlock T o = tBlock E t := by
  cases o <;> simp only [tidyOp] at h <;> try (cases h; done)
  case load t x =>
    split at h
    · rename_i h1 h2
      cases h
      simp only [lookBlock, tBlock, s.o h2]
      generalize TO.ev E _ = v
      cases v <;> first | rfl | (rename_i a; cases a <;> rfl) | (rename_i a _ _; cases a <;> rfl)
    · cases h
  case slice t x lo hi mx =>
    split at h
    · rename_i h1 h2 h3 h4 h5
      cases h
      simp only [lookBlock, tBlock, s.o h2]
      generalize TO.ev E _ = v
      cases v <;> first | rfl | (rename_i a; cases a <;> rfl) | (rename_i a _ _; cases a <;> rfl)
    · rename_i h1 h2 h3 h4 h5
      split at h
      · cases h
        simp only [lookBlock, tBlock, s.o h2]
        generalize TO.ev E _ = v
        cases v <;> first | rfl | (rename_i a; cases a <;> rfl) | (rename_i a _ _; cases a <;> rfl)
      · cases h
    · cases h
  case convert a d x =>
    split at h
    · rename_i h1 h2 h3
      split at h
      · cases h
        simp only [lookBlock, tBlock, s.o h3]
        generalize TO.ev E _ = v
        cases v <;> first | rfl | (rename_i a; cases a <;> rfl) | (rename_i a _ _; cases a <;> rfl)
      · cases h
    · cases h
    · split at h <;> cases h; cases hk
    · cases h; cases hk
    · cases h; cases hk
    · cases h
  case call c =>
    obtain ⟨callee, args, ats⟩ := c
    unfold tidyCall at h
    simp only at h
    split at h <;> (repeat' split at h) <;> first | (cases h; done) | (cases h; cases hk) | (simp only [Option.map_eq_some_iff] at h; obtain ⟨_, _, rfl⟩ := h; cases hk)
  all_goals
    (repeat' split at h) <;> first | (cases h; done) | (cases h; cases hk) | (simp only [Option.map_eq_some_iff] at h; obtain ⟨_, _, rfl⟩ := h; cases hk)

theorem tidyOp_make (s : Sees T E) {o : Op} {t : TOp} (h : tidyOp P o = some t) (hk : t.kind = 2) (n : Nat) {r : Value × ABlk} (hv : tMake E n t = some r) : aMake P T n o = some r := by
  cases o <;> simp only [tidyOp] at h <;> try (cases h; done)
  case alloc t =>
    split at h
    · rename_i h1 h2
      cases h
      simp only [aMake, h1, h2]; exact hv
    · cases h
  case box t x =>
    split at h
    · rename_i h1 h2
      cases h
      simp only [aMake, s.o h1, h2]; exact hv
    · cases h
  case buildSlice t len parts =>
    split at h
    · rename_i h1 h2
      split at h
      · rename_i h3
        cases h
        obtain ⟨vs, e1, e2⟩ := s.q h2
        simp only [tMake, bsliceV] at hv
        simp only [aMake, e1, aBuildSlice, h1, h3]
        split at hv
        · rename_i hc
          rw [if_pos hc]
          split at hv
          · rename_i cells h5
            cases hv
            rw [e2 _ _ h5]
          · cases hv
        · cases hv
      · cases h
    · cases h
  case makeSlice t l c =>
    split at h
    · rename_i h1 h2 h3
      split at h
      · rename_i h4
        cases h
        simp only [tMake, msliceV] at hv
        simp only [aMake, s.o h2, s.o h3, aMakeSlice, h1]
        split at hv
        · rename_i hl hc
          rw [hl, hc]
          simp only [h4]
          exact hv
        · cases hv
      · cases h
    · cases h
  case convert a d x =>
    split at h
    · split at h <;> cases h; cases hk
    · cases h
    · rename_i h1 h2 h3
      split at h
      · rename_i hu
        cases h
        have h4 := hu
        unfold isU8 at h4
        split at h4
        · rename_i h5
          simp only [tMake, t2bV] at hv
          split at hv
          · rename_i hx
            cases hv
            simp only [aMake, h1, h2, s.o h3, hx, h5]
          · cases hv
        · cases h4
      · cases h
    · cases h; cases hk
    · cases h; cases hk
    · cases h
  case call c =>
    obtain ⟨callee, args, ats⟩ := c
    unfold tidyCall at h
    simp only at h
    split at h <;> (repeat' split at h) <;> first | (cases h; done) | (cases h; cases hk) | (simp only [Option.map_eq_some_iff] at h; obtain ⟨_, _, rfl⟩ := h; cases hk)
  all_goals
    (repeat' split at h) <;> first | (cases h; done) | (cases h; cases hk) | (simp only [Option.map_eq_some_iff] at h; obtain ⟨_, _, rfl⟩ := h; cases hk)

theorem tidyOp_do {C : Callee'} (s : Sees T E) {o : Op} {t : TOp} (h : tidyOp P o = some t) (hk : t.kind = 3) (g : AHeap) {r : Value × AHeap} (hv : tDo C E g t = some r) : aDo P C T g o = some r := by
  cases o <;> simp only [tidyOp] at h <;> try (cases h; done)
  case store t a v =>
    split at h
    · rename_i h1 h2 h3
      cases h
      simp only [aDo, s.o h2, s.o h3, aStore_V h1]; exact hv
    · cases h
  case call c =>
    obtain ⟨callee, args, ats⟩ := c
    unfold tidyCall at h
    simp only at h
    split at h
    · (repeat' split at h) <;> first | (cases h; done) | (cases h; cases hk)
    · simp only [Option.map_eq_some_iff] at h; obtain ⟨_, _, rfl⟩ := h; cases hk
    · simp only [Option.map_eq_some_iff] at h; obtain ⟨_, _, rfl⟩ := h; cases hk
    · split at h
      · rename_i h1 h2
        split at h
        · rename_i h3 h4
          split at h
          · rename_i h5
            split at h
            · rename_i hz
              cases h
              simp only [tDo, appendV] at hv
              simp only [aDo, s.l h1, h2, h3, h4, TO.evs, h5]
              split at hv
              · rename_i hs; rw [hs]; simp only [if_pos hz]; exact hv
              · cases hv
            · cases h
          · cases h
        · rename_i h3 h4
          split at h
          · rename_i h5
            split at h
            · rename_i hz
              cases h
              simp only [tDo, appendV] at hv
              simp only [aDo, s.l h1, h2, h3, h4, TO.evs, h5]
              split at hv
              · rename_i hs; rw [hs]; simp only [if_pos hz]; exact hv
              · cases hv
            · cases h
          · cases h
        · cases h
      · cases h
    · split at h
      · rename_i h1 h2
        split at h
        · rename_i h3
          split at h
          · rename_i h5
            cases h
            simp only [tDo, clearV] at hv
            simp only [aDo, s.l h1, h2, TO.evs]
            split at hv
            · rename_i hx; rw [hx]; simp only [h3]; exact hv
            · rename_i hx
              rw [hx]
              simp only [h3]
              split at hv
              · rename_i hn; rw [if_pos hn]; exact hv
              · rename_i hn; rw [if_neg hn]; simp only [h5]; exact hv
            · cases hv
          · cases h
        · cases h
      · cases h
    · split at h
      · rename_i h1 h2
        cases h
        simp only [tDo, callV] at hv
        simp only [aDo, s.o h1, s.l h2]
        split at hv
        · rename_i hx; rw [hx]; exact hv
        · cases hv
      · cases h
    · cases h
  case convert a d x =>
    (repeat' split at h) <;> first | (cases h; done) | (cases h; cases hk)
  all_goals
    (repeat' split at h) <;> first | (cases h; done) | (cases h; cases hk) | (simp only [Option.map_eq_some_iff] at h; obtain ⟨_, _, rfl⟩ := h; cases hk)

end Go.Ab
