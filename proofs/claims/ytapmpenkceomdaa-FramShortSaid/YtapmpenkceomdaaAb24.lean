/- Slices: what they read as, what is one's own; cutting, appending, bytes. -/
import Derived.Test.YtapmpenkceomdaaAb23
namespace Go.Ab

/-- a slice's cells; its block lies from 'lo' on, below 'hi' -/
def Sl (lo hi : Nat) (h : AHeap) (v : Value) (sz : Nat) (cs : List Value) : Prop :=
  (v = .slice none 0 0 ∧ cs = []) ∨
  ∃ m off len cap, v = .slice (some ⟨m, off, none⟩) len cap ∧ (lo ≤ m ∧ m < hi) ∧ (h.get m).st < 2 ∧ (h.get m).esz = sz ∧ off + cap * sz ≤ (h.get m).cells.length ∧ len ≤ cap ∧
    cs.length = len * sz ∧ ((h.get m).cells.drop off).take (len * sz) = cs

/-- a slice that is a whole block, alive, not below 'lo' -/
def Own (lo : Nat) (h : AHeap) (v : Value) (sz : Nat) (cs : List Value) : Prop :=
  (v = .slice none 0 0 ∧ cs = []) ∨
  ∃ m len p, v = .slice (some ⟨m, 0, none⟩) len len ∧ lo ≤ m ∧ m < h.next ∧ h.get m = ⟨cs, sz, 0, p⟩ ∧ cs.length = len * sz ∧ ∀ j, p = some j → lo ≤ j ∧ j < m

variable {h h' : AHeap} {v : Value} {sz hi lo : Nat} {cs : List Value}

theorem Sl.nil : Sl lo hi h (.slice none 0 0) sz [] := .inl ⟨rfl, rfl⟩
theorem Own.nil : Own lo h (.slice none 0 0) sz [] := .inl ⟨rfl, rfl⟩
theorem Sl.ext {S : Nat → Prop} {to : Nat} (s : Sl lo hi h v sz cs) (x : Ext S to h h') (hl : hi ≤ to) (hs : ∀ m, lo ≤ m → m < hi → ¬ S m) : Sl lo hi h' v sz cs := by
  rcases s with ⟨rfl, rfl⟩ | ⟨m, off, len, cap, rfl, h1, h2, h3, h4, h5, h6, h7⟩
  · exact .inl ⟨rfl, rfl⟩
  · have e := x.get m (by omega) (hs m h1.1 h1.2)
    exact .inr ⟨m, off, len, cap, rfl, h1, by rw [e]; exact h2, by rw [e]; exact h3, by rw [e]; exact h4, h5, h6, by rw [e]; exact h7⟩
theorem Sl.keep {to : Nat} (s : Sl lo hi h v sz cs) (x : Ext no to h h') (hl : hi ≤ to) : Sl lo hi h' v sz cs := s.ext x hl fun _ _ _ x => x
theorem Sl.more {lo' hi' : Nat} (s : Sl lo hi h v sz cs) (hk : lo' ≤ lo) (hl : hi ≤ hi') : Sl lo' hi' h v sz cs := by
  rcases s with ⟨rfl, rfl⟩ | ⟨m, off, len, cap, rfl, h1, h2, h3, h4, h5, h6, h7⟩
  · exact .inl ⟨rfl, rfl⟩
  · exact .inr ⟨m, off, len, cap, rfl, by omega, h2, h3, h4, h5, h6, h7⟩
theorem Own.less {lo' : Nat} (s : Own lo h v sz cs) (hl : lo' ≤ lo) : Own lo' h v sz cs := by
  rcases s with ⟨rfl, rfl⟩ | ⟨m, len, p, rfl, h1, h2, h3, h4, h5⟩
  · exact .inl ⟨rfl, rfl⟩
  · exact .inr ⟨m, len, p, rfl, by omega, h2, h3, h4, fun j hj => by have := h5 j hj; omega⟩
theorem Own.sl (s : Own lo h v sz cs) : Sl lo h.next h v sz cs := by
  rcases s with ⟨rfl, rfl⟩ | ⟨m, len, p, rfl, h1, h2, h3, h4, h5⟩
  · exact .inl ⟨rfl, rfl⟩
  · refine .inr ⟨m, 0, len, len, rfl, ⟨h1, h2⟩, by rw [h3]; show 0 < 2; decide, by rw [h3], by rw [h3]; simp [h4], Nat.le_refl _, h4, ?_⟩
    rw [h3, List.drop_zero, ← h4, List.take_length]
theorem Own.ext {S : Nat → Prop} {to : Nat} (s : Own lo h v sz cs) (x : Ext S to h h') (hl : h.next ≤ to) (hs : ∀ m, lo ≤ m → m < h.next → ¬ S m) : Own lo h' v sz cs := by
  rcases s with ⟨rfl, rfl⟩ | ⟨m, len, p, rfl, h1, h2, h3, h4, h5⟩
  · exact .inl ⟨rfl, rfl⟩
  · exact .inr ⟨m, len, p, rfl, h1, by have := x.next; omega, by rw [x.get m (by omega) (hs m h1 h2)]; exact h3, h4, h5⟩
theorem Own.keep {to : Nat} (s : Own lo h v sz cs) (x : Ext no to h h') (hl : h.next ≤ to) : Own lo h' v sz cs := s.ext x hl fun _ _ _ x => x
theorem Own.mk {len : Nat} (hl : lo ≤ h.next) (hc : cs.length = len * sz) : Own lo (h.alloc ⟨cs, sz, 0, none⟩) (.slice (some ⟨h.next, 0, none⟩) len len) sz cs :=
  .inr ⟨h.next, len, none, rfl, hl, Nat.lt_succ_self _, by rw [get_alloc, if_pos rfl], hc, fun j hj => by cases hj⟩

theorem Sl.size (s : Sl lo hi h v sz cs) : ∃ n, cs.length = n * sz := by
  rcases s with ⟨rfl, rfl⟩ | ⟨m, off, len, cap, rfl, h1, h2, h3, h4, h5, h6, h7⟩
  · exact ⟨0, by simp⟩
  · exact ⟨len, h6⟩
theorem size_inj {a b : Nat} (hs : 0 < sz) (e : a * sz = b * sz) : a = b := Nat.eq_of_mul_eq_mul_right hs e

/-- of a slice of n elements: its address, if it has one -/
theorem Sl.cases {n : Nat} (s : Sl lo hi h v sz cs) (hn : cs.length = n * sz) (hs : 0 < sz) :
    (v = .slice none 0 0 ∧ cs = [] ∧ n = 0) ∨ ∃ m off cap, v = .slice (some ⟨m, off, none⟩) n cap ∧ (lo ≤ m ∧ m < hi) ∧ (h.get m).st < 2 ∧ (h.get m).esz = sz ∧ off + cap * sz ≤ (h.get m).cells.length ∧ n ≤ cap ∧
    ((h.get m).cells.drop off).take (n * sz) = cs := by
  rcases s with ⟨rfl, rfl⟩ | ⟨m, off, len, cap, rfl, h1, h2, h3, h4, h5, h6, h7⟩
  · refine .inl ⟨rfl, rfl, ?_⟩
    have : 0 * sz = n * sz := by simpa using hn
    exact (size_inj hs this).symm
  · have : len = n := size_inj hs (by omega)
    subst this
    exact .inr ⟨m, off, cap, rfl, h1, h2, h3, h4, h5, h7⟩
theorem Sl.len {n : Nat} (s : Sl lo hi h v sz cs) (hn : cs.length = n * sz) (hs : 0 < sz) : lenSV v = some (.int .i64 n) := by
  rcases s.cases hn hs with ⟨rfl, rfl, rfl⟩ | ⟨m, off, cap, rfl, _⟩
  · rfl
  · rfl
theorem Sl.source {n : Nat} (s : Sl lo hi h v sz cs) (hn : cs.length = n * sz) (hs : 0 < sz) : aSource sz v h = some (n, cs) := by
  rcases s.cases hn hs with ⟨rfl, rfl, rfl⟩ | ⟨m, off, cap, rfl, h1, h2, h3, h4, h5, h6⟩
  · rfl
  · simp only [aSource]
    by_cases e : n = 0
    · subst e
      have : cs = [] := by rw [← List.length_eq_zero_iff]; simpa using hn
      rw [if_pos rfl, this]
    · have hm := Nat.mul_le_mul_right sz h5
      rw [if_neg e, loadN_of rfl h2 (by omega), h6]
      rfl

theorem mul_lt_of {i n sz : Nat} (h : i < n) : i * sz + sz ≤ n * sz := by
  have := Nat.mul_le_mul_right sz (show i + 1 ≤ n from h)
  rw [Nat.add_mul] at this
  omega

/-- the place of an element -/
theorem Sl.at {n : Nat} {k : IntKind} {i : Int} (s : Sl lo hi h v sz cs) (hn : cs.length = n * sz) (hs : 0 < sz) (h0 : 0 ≤ i) (h1 : i < n) :
    ∃ m o, iaddrSV sz v (.int k i) = some (.pointer (some ⟨m, o, none⟩)) ∧ (lo ≤ m ∧ m < hi) ∧ (h.get m).st < 2 ∧ o + sz ≤ (h.get m).cells.length ∧ ((h.get m).cells.drop o).take sz = (cs.drop (i.toNat * sz)).take sz := by
  rcases s.cases hn hs with ⟨rfl, rfl, rfl⟩ | ⟨m, off, cap, rfl, h2, h3, h4, h5, h6, h7⟩
  · omega
  · obtain ⟨j, rfl⟩ := Int.eq_ofNat_of_zero_le h0
    have hj : j < n := by omega
    have e1 := mul_lt_of (sz := sz) hj
    have e2 := Nat.mul_le_mul_right sz h6
    refine ⟨m, off + j * sz, ?_, h2, h3, by omega, ?_⟩
    · simp only [iaddrSV, Int.toNat_natCast]
      rw [if_pos ⟨h0, h1⟩]
    · rw [← h7]
      simp only [Int.toNat_natCast, List.drop_take, List.take_take, List.drop_drop]
      rw [Nat.min_eq_left (by omega)]
theorem Sl.load {n : Nat} {k : IntKind} {i : Int} (s : Sl lo hi h v 1 cs) (hn : cs.length = n) (h0 : 0 ≤ i) (h1 : i < n) :
    ∃ m o, iaddrSV 1 v (.int k i) = some (.pointer (some ⟨m, o, none⟩)) ∧ (lo ≤ m ∧ m < hi) ∧ (h.get m).st < 2 ∧ h.load1 m o = cs[i.toNat]? ∧ (h.get m).cells[o]? = cs[i.toNat]? := by
  obtain ⟨m, o, e1, e2, e3, e4, e5⟩ := s.at (n := n) (k := k) (by omega) (by decide) h0 h1
  have e6 : (h.get m).cells[o]? = cs[i.toNat]? := by
    have := congrArg (·[0]?) e5
    simp only [List.getElem?_take, Nat.zero_lt_one, if_true, List.getElem?_drop, Nat.add_zero, Nat.mul_one] at this
    exact this
  exact ⟨m, o, e1, e2, e3, by rw [load1_of rfl e3, e6], e6⟩
theorem Sl.loadN {n : Nat} {k : IntKind} {i : Int} (s : Sl lo hi h v sz cs) (hn : cs.length = n * sz) (hs : 0 < sz) (h0 : 0 ≤ i) (h1 : i < n) :
    ∃ m o, iaddrSV sz v (.int k i) = some (.pointer (some ⟨m, o, none⟩)) ∧ (lo ≤ m ∧ m < hi) ∧ (h.get m).st < 2 ∧ h.loadN m o sz = some ((cs.drop (i.toNat * sz)).take sz) := by
  obtain ⟨m, o, e1, e2, e3, e4, e5⟩ := s.at (k := k) hn hs h0 h1
  exact ⟨m, o, e1, e2, e3, by rw [loadN_of rfl e3 e4, e5]⟩

/-! Cutting -/
theorem bound_some {d y x : Nat} (hx : x ≤ y) : aBound (some (.int .i64 x)) d y = some x := by
  simp only [aBound]; rw [if_pos ⟨by omega, by omega⟩]; rfl
theorem Sl.cut {n a b : Nat} (s : Sl lo hi h v sz cs) (hn : cs.length = n * sz) (hs : 0 < sz) (hab : a ≤ b) (hb : b ≤ n) :
    ∃ v', Sl lo hi h v' sz ((cs.drop (a * sz)).take ((b - a) * sz)) ∧ ∀ lo' hi' : Option Value, (lo' = some (.int .i64 a) ∨ (lo' = none ∧ a = 0)) → (hi' = some (.int .i64 b) ∨ (hi' = none ∧ b = n)) → sliceSV sz v lo' hi' none h = some v' := by
  rcases s.cases hn hs with ⟨rfl, rfl, rfl⟩ | ⟨m, off, cap, rfl, h2, h3, h4, h5, h6, h7⟩
  · obtain rfl : b = 0 := by omega
    obtain rfl : a = 0 := by omega
    refine ⟨.slice none 0 0, ?_, ?_⟩
    · exact .inl ⟨rfl, by simp⟩
    · rintro lo' hi' (rfl | ⟨rfl, _⟩) (rfl | ⟨rfl, _⟩) <;> rfl
  · refine ⟨.slice (some ⟨m, off + a * sz, none⟩) (b - a) (cap - a), ?_, ?_⟩
    · have e1 := Nat.mul_le_mul_right sz h6
      have e2 := Nat.mul_le_mul_right sz hb
      have e3 := Nat.mul_le_mul_right sz hab
      have e4 : (b - a) * sz = b * sz - a * sz := Nat.sub_mul _ _ _
      have e5 : (cap - a) * sz = cap * sz - a * sz := Nat.sub_mul _ _ _
      refine .inr ⟨m, _, b - a, cap - a, rfl, h2, h3, h4, by omega, by omega, ?_, ?_⟩
      · rw [List.length_take, List.length_drop, hn]; omega
      · rw [← h7]
        simp only [List.drop_take, List.take_take, List.drop_drop]
        rw [Nat.min_eq_left (by omega)]
    · have hc : cap = 0 ∨ ((h.get m).st < 2 ∧ (h.get m).esz = sz) := .inr ⟨h3, h4⟩
      intro lo' hi' hlo hhi
      have e1 : aBound hi' n cap = some b := by
        rcases hhi with rfl | ⟨rfl, rfl⟩
        · exact bound_some (by omega)
        · rfl
      have e2 : aBound lo' 0 b = some a := by
        rcases hlo with rfl | ⟨rfl, rfl⟩
        · exact bound_some hab
        · rfl
      have e3 : aBound none cap cap = some cap := rfl
      simp only [sliceSV, e3, e1, e2, Option.isSome_none, Bool.false_and, Bool.false_eq_true, if_false]
      rw [if_neg (by omega), if_pos hc]

theorem Own.clip {n : Nat} (s : Own lo h v sz cs) (hn : cs.length = n * sz) (hs : 0 < sz) : sliceSV sz v none (some (.int .i64 n)) (some (.int .i64 n)) h = some v := by
  rcases s with ⟨rfl, rfl⟩ | ⟨m, len, p, rfl, h1, h2, h3, h4, h5⟩
  · have : 0 * sz = n * sz := by simpa using hn
    have := size_inj hs this
    subst this; rfl
  · have : len = n := size_inj hs (by omega)
    subst this
    have e1 : aBound (some (.int .i64 len)) len len = some len := bound_some (Nat.le_refl _)
    have e2 : aBound none 0 len = some 0 := rfl
    simp only [sliceSV, e1, e2, Option.isSome_some, Option.isNone_some, Bool.and_false, Bool.false_eq_true, if_false, Nat.sub_zero, Nat.zero_mul, Nat.add_zero]
    rw [if_neg (by omega), if_pos (.inr ⟨by rw [h3]; show 0 < 2; decide, by rw [h3]⟩)]

/-! Appending to what is one's own -/
theorem append_own {bytes n len : Nat} {x : Value} {xs : List Value} (s : Own lo h v sz cs) (hl : lo ≤ h.next) (hn : cs.length = len * sz) (hx : aSource sz x h = some (n, xs)) (hxs : xs.length = n * sz)
    (hc : xs.all isCell = true) (hs : 0 < sz) (hb : 0 < bytes) (hbd : (len + n) * bytes ≤ 2 ^ 47) (hbd' : len + n ≤ 2 ^ 47) :
    ∃ v' h', appendV sz bytes v x h = some (v', h') ∧ Ext no lo h h' ∧ Own lo h' v' sz (cs ++ xs) := by
  simp only [appendV, hx]
  by_cases e : n = 0
  · subst e
    have hxs' : xs = [] := by rw [← List.length_eq_zero_iff]; simpa using hxs
    subst hxs'
    refine ⟨v, h, ?_, Ext.refl _ _ _, by simpa using s⟩
    rcases s with ⟨rfl, rfl⟩ | ⟨m, len', p, rfl, h1, h2, h3, h4, h5⟩
    · simp [aAppend]
    · simp [aAppend]
  · rcases s with ⟨rfl, rfl⟩ | ⟨m, len', p, rfl, h1, h2, h3, h4, h5⟩
    · have hl0 : len = 0 := by
        have : 0 * sz = len * sz := by simpa using hn
        exact (size_inj hs this).symm
      subst hl0
      refine ⟨.slice (some ⟨h.next, 0, none⟩) n n, h.alloc ⟨xs, sz, 0, none⟩, ?_, (Ext.refl _ _ _).alloc hl _, ?_⟩
      · simp only [aAppend]
        rw [if_neg (by omega), if_pos ⟨by simpa using hbd, by omega, trivial, hs, hb, hc⟩]
      · simpa using Own.mk hl hxs
    · have : len' = len := size_inj hs (by omega)
      subst this
      refine ⟨.slice (some ⟨h.next, 0, none⟩) (len' + n) (len' + n), ((h.kill p).upd m ⟨cs, sz, 1, none⟩).alloc ⟨cs ++ xs, sz, 0, some m⟩, ?_, ?_, ?_⟩
      · simp only [aAppend]
        rw [if_neg (by omega), if_pos ⟨hbd, hbd', True.intro, hs, hb, hc⟩, loadN_of h3 (show 0 < 2 by decide) (by simp [h4])]
        simp only [h3, List.drop_zero, Nat.zero_add]
        rw [if_neg (by simp), if_pos (by simp [h4])]
        simp only [if_true]
        rw [← h4, List.take_length]
      · refine Ext.alloc ((Ext.kill (Ext.refl _ _ _) fun j hj => (h5 j hj).1).upd (.inl h1) _) ?_ _
        simp only [upd_next, kill_next]; exact hl
      · refine .inr ⟨h.next, len' + n, some m, rfl, hl, ?_, ?_, ?_, fun j hj => by cases hj; exact ⟨h1, h2⟩⟩
        · simp [alloc_next, upd_next, kill_next]
        · rw [get_alloc]; simp only [upd_next, kill_next, if_true]
        · simp [h4, hxs, Nat.add_mul]

/-- the same, of what was one's own some time ago: only blocks of that time are turned, and the slice that was is still there -/
theorem append_grow {g : AHeap} {bytes n len : Nat} {x : Value} {xs : List Value} (s : Own lo g v sz cs) (y : Ext no g.next g h) (hl : lo ≤ g.next) (hn : cs.length = len * sz) (hx : aSource sz x h = some (n, xs)) (hxs : xs.length = n * sz)
    (hc : xs.all isCell = true) (hs : 0 < sz) (hb : 0 < bytes) (hbd : (len + n) * bytes ≤ 2 ^ 47) (hbd' : len + n ≤ 2 ^ 47) :
    ∃ v' h', appendV sz bytes v x h = some (v', h') ∧ Ext (fun j => lo ≤ j ∧ j < g.next) h.next h h' ∧ Own lo h' v' sz (cs ++ xs) ∧ Sl lo g.next h' v sz cs := by
  have yn := y.next
  have s0 := s
  have sh : Own lo h v sz cs := s.keep y (Nat.le_refl _)
  simp only [appendV, hx]
  by_cases e : n = 0
  · subst e
    have hxs' : xs = [] := by rw [← List.length_eq_zero_iff]; simpa using hxs
    subst hxs'
    refine ⟨v, h, ?_, Ext.refl _ _ _, by simpa using sh, s0.sl.keep y (Nat.le_refl _)⟩
    rcases s with ⟨rfl, rfl⟩ | ⟨m, len', p, rfl, h1, h2, h3, h4, h5⟩
    · simp [aAppend]
    · simp [aAppend]
  · rcases s with ⟨rfl, rfl⟩ | ⟨m, len', p, rfl, h1, h2, h3, h4, h5⟩
    · have hl0 : len = 0 := by
        have : 0 * sz = len * sz := by simpa using hn
        exact (size_inj hs this).symm
      subst hl0
      refine ⟨.slice (some ⟨h.next, 0, none⟩) n n, h.alloc ⟨xs, sz, 0, none⟩, ?_, (Ext.refl _ _ _).alloc (Nat.le_refl _) _, ?_, Sl.nil⟩
      · simp only [aAppend]
        rw [if_neg (by omega), if_pos ⟨by simpa using hbd, by omega, trivial, hs, hb, hc⟩]
      · simpa using Own.mk (by omega) hxs
    · have : len' = len := size_inj hs (by omega)
      subst this
      have h3' : h.get m = ⟨cs, sz, 0, p⟩ := (y.get m h2 (fun x => x)).trans h3
      have hk : ∀ j, j < h.next → ¬ (lo ≤ j ∧ j < g.next) → (h.kill p).get j = h.get j := by
        intro j hj hn'
        have q := (Ext.kill (Ext.refl (fun j => lo ≤ j ∧ j < g.next) 0 h) (p := p) (fun _ _ => Nat.zero_le _))
        cases p with
        | none => rfl
        | some i =>
          have := h5 i rfl
          have q := Ext.kill (lo := i) (Ext.refl no i h) (p := some i) (fun m hm => by cases hm; exact Nat.le_refl _)
          by_cases hji : j < i
          · exact q.get j hji (fun x => x)
          · have hji' : ¬ j = i := by rintro rfl; exact hn' ⟨this.1, by omega⟩
            show (AHeap.kill h (some i)).get j = _
            simp only [AHeap.kill]
            rw [AHeap.get_upd, if_neg (by simp [hji'])]
      refine ⟨.slice (some ⟨h.next, 0, none⟩) (len' + n) (len' + n), ((h.kill p).upd m ⟨cs, sz, 1, none⟩).alloc ⟨cs ++ xs, sz, 0, some m⟩, ?_, ⟨?_, ?_⟩, ?_, ?_⟩
      · simp only [aAppend]
        rw [if_neg (by omega), if_pos ⟨hbd, hbd', True.intro, hs, hb, hc⟩, loadN_of h3' (show 0 < 2 by decide) (by simp [h4])]
        simp only [h3', List.drop_zero, Nat.zero_add]
        rw [if_neg (by simp), if_pos (by simp [h4])]
        simp only [if_true]
        rw [← h4, List.take_length]
      · simp only [alloc_next, upd_next, kill_next]; omega
      · intro j hj hn'
        rw [get_alloc, if_neg (by simp only [upd_next, kill_next]; omega), AHeap.get_upd, if_neg (by rintro ⟨rfl, _⟩; exact hn' ⟨h1, h2⟩)]
        exact hk j hj hn'
      · refine .inr ⟨h.next, len' + n, some m, rfl, by omega, ?_, ?_, ?_, fun j hj => by cases hj; exact ⟨h1, by omega⟩⟩
        · simp [alloc_next, upd_next, kill_next]
        · rw [get_alloc]; simp only [upd_next, kill_next, if_true]
        · simp [h4, hxs, Nat.add_mul]
      · have gm : (((h.kill p).upd m ⟨cs, sz, 1, none⟩).alloc ⟨cs ++ xs, sz, 0, some m⟩).get m = ⟨cs, sz, 1, none⟩ := by
          rw [get_alloc, if_neg (by simp only [upd_next, kill_next]; omega)]
          exact get_upd_self _ (by rw [kill_next]; omega)
        refine .inr ⟨m, 0, len', len', rfl, ⟨h1, h2⟩, by rw [gm]; show 1 < 2; decide, by rw [gm], by rw [gm]; simp [h4], Nat.le_refl _, h4, ?_⟩
        rw [gm, List.drop_zero, ← h4, List.take_length]

/-! Bytes, whole numbers -/
def u8v (x : UInt8) : Value := .int .u8 x.toNat
def bsv (l : List UInt8) : List Value := l.map u8v
def isv (l : List Int) : List Value := l.map (.int .i64)
theorem bsv_length (l : List UInt8) : (bsv l).length = l.length := by simp [bsv]
theorem isv_length (l : List Int) : (isv l).length = l.length := by simp [isv]
theorem bsv_append (l m : List UInt8) : bsv (l ++ m) = bsv l ++ bsv m := by simp [bsv]
theorem isv_append (l m : List Int) : isv (l ++ m) = isv l ++ isv m := by simp [isv]
theorem bsv_cells (l : List UInt8) : (bsv l).all isCell = true := by simp [bsv, isCell, u8v]
theorem isv_cells (l : List Int) : (isv l).all isCell = true := by simp [isv, isCell]
theorem bsv_drop (l : List UInt8) (n : Nat) : (bsv l).drop n = bsv (l.drop n) := by simp [bsv]
theorem bsv_take (l : List UInt8) (n : Nat) : (bsv l).take n = bsv (l.take n) := by simp [bsv]
theorem isv_drop (l : List Int) (n : Nat) : (isv l).drop n = isv (l.drop n) := by simp [isv]
theorem isv_take (l : List Int) (n : Nat) : (isv l).take n = isv (l.take n) := by simp [isv]
theorem bytesOf_bsv : ∀ l : List UInt8, bytesOf (bsv l) = some l
  | [] => rfl
  | x :: l => by
    show (bytesOf (bsv l)).map _ = _
    rw [bytesOf_bsv l]
    simp
abbrev Bytes (lo hi : Nat) (h : AHeap) (v : Value) (l : List UInt8) : Prop := Sl lo hi h v 1 (bsv l)
abbrev Ints (lo hi : Nat) (h : AHeap) (v : Value) (l : List Int) : Prop := Sl lo hi h v 1 (isv l)
abbrev OwnB (lo : Nat) (h : AHeap) (v : Value) (l : List UInt8) : Prop := Own lo h v 1 (bsv l)
abbrev OwnI (lo : Nat) (h : AHeap) (v : Value) (l : List Int) : Prop := Own lo h v 1 (isv l)
theorem lenB {l : List UInt8} (s : Bytes lo hi h v l) : lenSV v = some (.int .i64 l.length) := Sl.len s (by simp [bsv_length]) (by decide)
theorem lenI {l : List Int} (s : Ints lo hi h v l) : lenSV v = some (.int .i64 l.length) := Sl.len s (by simp [isv_length]) (by decide)
theorem loadB {l : List UInt8} {k : IntKind} {i : Nat} (s : Bytes lo hi h v l) (hlt : i < l.length) :
    ∃ m o, iaddrSV 1 v (.int k i) = some (.pointer (some ⟨m, o, none⟩)) ∧ (lo ≤ m ∧ m < hi) ∧ h.load1 m o = some (.int .u8 l[i].toNat) := by
  obtain ⟨m, o, e1, e2, e3, e4, e5⟩ := Sl.load (k := k) (i := i) s (bsv_length l) (by omega) (by omega)
  refine ⟨m, o, e1, e2, ?_⟩
  rw [e4, Int.toNat_natCast]
  simp [bsv, u8v, List.getElem?_eq_getElem hlt]
theorem loadI {l : List Int} {k : IntKind} {i : Nat} (s : Ints lo hi h v l) (hlt : i < l.length) :
    ∃ m o, iaddrSV 1 v (.int k i) = some (.pointer (some ⟨m, o, none⟩)) ∧ (lo ≤ m ∧ m < hi) ∧ h.load1 m o = some (.int .i64 l[i]) := by
  obtain ⟨m, o, e1, e2, e3, e4, e5⟩ := Sl.load (k := k) (i := i) s (isv_length l) (by omega) (by omega)
  refine ⟨m, o, e1, e2, ?_⟩
  rw [e4, Int.toNat_natCast]
  simp [isv, List.getElem?_eq_getElem hlt]
theorem cutB {l : List UInt8} {a b : Nat} (s : Bytes lo hi h v l) (hab : a ≤ b) (hb : b ≤ l.length) :
    ∃ v', Bytes lo hi h v' ((l.drop a).take (b - a)) ∧ ∀ lo' hi' : Option Value, (lo' = some (.int .i64 a) ∨ (lo' = none ∧ a = 0)) → (hi' = some (.int .i64 b) ∨ (hi' = none ∧ b = l.length)) → sliceSV 1 v lo' hi' none h = some v' := by
  obtain ⟨v', e1, e2⟩ := Sl.cut (n := l.length) s (by simp [bsv_length]) (by decide) hab hb
  refine ⟨v', ?_, e2⟩
  simpa [bsv_drop, bsv_take] using e1
theorem cutI {l : List Int} {a b : Nat} (s : Ints lo hi h v l) (hab : a ≤ b) (hb : b ≤ l.length) :
    ∃ v', Ints lo hi h v' ((l.drop a).take (b - a)) ∧ ∀ lo' hi' : Option Value, (lo' = some (.int .i64 a) ∨ (lo' = none ∧ a = 0)) → (hi' = some (.int .i64 b) ∨ (hi' = none ∧ b = l.length)) → sliceSV 1 v lo' hi' none h = some v' := by
  obtain ⟨v', e1, e2⟩ := Sl.cut (n := l.length) s (by simp [isv_length]) (by decide) hab hb
  refine ⟨v', ?_, e2⟩
  simpa [isv_drop, isv_take] using e1
theorem b2tB {l : List UInt8} (s : Bytes lo hi h v l) : b2tV v h = some (.string ⟨⟨l⟩⟩) := by
  rcases Sl.cases (n := l.length) s (by simp [bsv_length]) (by decide) with ⟨rfl, e, _⟩ | ⟨m, off, cap, rfl, h2, h3, h4, h5, h6, h7⟩
  · have : l = [] := by simpa [bsv] using e
    subst this; rfl
  · simp only [b2tV]
    rw [Nat.mul_one] at h5 h7
    rw [loadN_of rfl h3 (by omega), h7]
    simp only [bytesOf_bsv, Option.map_some]
theorem appendB {n a b : Nat} {x : Value} {l m : List UInt8} (s : OwnB lo h v l) (hl : lo ≤ h.next) (hx : Bytes a b h x m) (hbd : l.length + m.length ≤ n) (hn : n ≤ 2 ^ 47) :
    ∃ v' h', appendV 1 1 v x h = some (v', h') ∧ Ext no lo h h' ∧ OwnB lo h' v' (l ++ m) := by
  have := append_own (bytes := 1) (n := m.length) (len := l.length) s hl (by simp [bsv_length]) (Sl.source hx (by simp [bsv_length]) (by decide)) (by simp [bsv_length]) (bsv_cells m) (by decide) (by decide) (by omega) (by omega)
  rw [← bsv_append] at this
  exact this
theorem appendI {n a b : Nat} {x : Value} {l m : List Int} (s : OwnI lo h v l) (hl : lo ≤ h.next) (hx : Ints a b h x m) (hbd : l.length + m.length ≤ n) (hn : n ≤ 2 ^ 44) :
    ∃ v' h', appendV 1 8 v x h = some (v', h') ∧ Ext no lo h h' ∧ OwnI lo h' v' (l ++ m) := by
  have := append_own (bytes := 8) (n := m.length) (len := l.length) s hl (by simp [isv_length]) (Sl.source hx (by simp [isv_length]) (by decide)) (by simp [isv_length]) (isv_cells m) (by decide) (by decide) (by omega) (by omega)
  rw [← isv_append] at this
  exact this

theorem isCell_int (k : IntKind) (n : Int) : isCell (.int k n) = true := rfl
theorem isCell_bool (b : Bool) : isCell (.bool b) = true := rfl
theorem isCell_string (b : ByteArray) : isCell (.string b) = true := rfl
theorem isCell_pointer (a : Option Addr) : isCell (.pointer a) = true := rfl
theorem isCell_slice (a : Option Addr) (l c : Nat) : isCell (.slice a l c) = true := rfl
theorem cells_int (k : IntKind) (n : Int) : (Value.int k n).cells = ⟨[.int k n]⟩ := rfl
theorem cells_bool (b : Bool) : (Value.bool b).cells = ⟨[.bool b]⟩ := rfl
theorem cells_string (b : ByteArray) : (Value.string b).cells = ⟨[.string b]⟩ := rfl
theorem cells_pointer (a : Option Addr) : (Value.pointer a).cells = ⟨[.pointer a]⟩ := rfl
theorem cells_slice (a : Option Addr) (l c : Nat) : (Value.slice a l c).cells = ⟨[.slice a l c]⟩ := rfl
theorem cells_agg (l : List Value) : (Value.agg ⟨l⟩).cells = ⟨l⟩ := rfl

theorem cells_of {v : Value} (hc : isCell v = true) : v.cells = ⟨[v]⟩ := by cases v <;> first | rfl | cases hc
theorem Sl.cell (s : Sl lo hi h v sz cs) : isCell v = true := by
  rcases s with ⟨rfl, _⟩ | ⟨m, off, len, cap, rfl, _⟩ <;> rfl
theorem st_cell {p o : Nat} {cells : List Value} {v : Value} (hb : h.get p = ⟨cells, sz, 0, none⟩) (hc : isCell v = true) (ho : o < cells.length) :
    stV 1 (.pointer (some ⟨p, o, none⟩)) v h = some (h.upd p ⟨cells.set o v, sz, 0, none⟩) := by
  rw [st_p, cells_of hc]
  show (if ([v] : List Value).length = 1 then h.storeN p o [v] else none) = _
  rw [if_pos (show [v].length = 1 from rfl), store_of hb hc ho]
theorem ld_cell {p o : Nat} {cells : List Value} {q : Option Nat} {s : Nat} (hb : h.get p = ⟨cells, sz, s, q⟩) (hs : s < 2) : h.load1 p o = cells[o]? := load1_of hb hs
/-- one byte, ready to be appended -/
theorem bslice_one (z : Value) (k : IntKind) (x : Int) (n : Nat) : bsliceV [z] 1 1 [(0 * 1, 1, .int k x)] n = some (.slice (some ⟨n, 0, none⟩) 1 1, ⟨[.int k x], 1, 0, none⟩) := by
  simp [bsliceV, repeatCells, fillV, splice, cells_int]
theorem splice_whole {cells vs : List Value} (hl : vs.length = cells.length) : splice cells 0 vs = vs := by
  unfold splice; simp [hl]
theorem st_part {p o k : Nat} {cells vs : List Value} (hb : h.get p = ⟨cells, sz, 0, none⟩) (hk : vs.length = k) (hl : o + k ≤ cells.length) (hc : vs.all isCell = true) (hne : vs ≠ []) :
    stV k (.pointer (some ⟨p, o, none⟩)) (.agg ⟨vs⟩) h = some (h.upd p ⟨splice cells o vs, sz, 0, none⟩) := by
  rw [st_p, cells_agg]
  show (if vs.length = k then h.storeN p o vs else none) = _
  rw [if_pos hk]
  unfold AHeap.storeN
  cases vs with
  | nil => exact absurd rfl hne
  | cons a l =>
    simp only [hb, hc, kill_none]
    rw [if_pos ⟨trivial, by omega, trivial⟩]
theorem st_whole {p k : Nat} {cells vs : List Value} (hb : h.get p = ⟨cells, sz, 0, none⟩) (hk : vs.length = k) (hl : cells.length = k) (hc : vs.all isCell = true) (hne : vs ≠ []) :
    stV k (.pointer (some ⟨p, 0, none⟩)) (.agg ⟨vs⟩) h = some (h.upd p ⟨vs, sz, 0, none⟩) := by
  rw [st_part hb hk (by omega) hc hne, splice_whole (by omega)]
theorem ld_whole {p k s : Nat} {cells : List Value} {q : Option Nat} (hb : h.get p = ⟨cells, sz, s, q⟩) (hs : s < 2) (hl : cells.length = k) : h.loadN p 0 k = some cells := by
  rw [loadN_of hb hs (by simp; omega)]
  simp [← hl]
theorem ld_part {p o k s : Nat} {cells : List Value} {q : Option Nat} (hb : h.get p = ⟨cells, sz, s, q⟩) (hs : s < 2) (hl : o + k ≤ cells.length) : h.loadN p o k = some ((cells.drop o).take k) :=
  loadN_of hb hs hl
theorem ld_upd {p k : Nat} {cells : List Value} {q : Option Nat} (hm : p < h.next) (hl : cells.length = k) : (h.upd p ⟨cells, sz, 0, q⟩).loadN p 0 k = some cells :=
  ld_whole (get_upd_self _ hm) (by decide) hl
theorem stoC {p o : Nat} {cells : List Value} {v : Value} (hb : h.get p = ⟨cells, sz, 0, none⟩) (hc : isCell v = true) (ho : o < cells.length) :
    ∃ g, stV 1 (.pointer (some ⟨p, o, none⟩)) v h = some g ∧ g.next = h.next ∧ Ext (one p) h.next h g ∧ g.get p = ⟨cells.set o v, sz, 0, none⟩ :=
  ⟨_, st_cell hb hc ho, rfl, (Ext.refl (one p) _ _).upd (.inr rfl) _, get_upd_self _ (lt_next (by rw [hb]; show 0 < 2; decide))⟩
theorem stoW {p k : Nat} {cells vs : List Value} (hb : h.get p = ⟨cells, sz, 0, none⟩) (hk : vs.length = k) (hl : cells.length = k) (hc : vs.all isCell = true) (hne : vs ≠ []) :
    ∃ g, stV k (.pointer (some ⟨p, 0, none⟩)) (.agg ⟨vs⟩) h = some g ∧ g.next = h.next ∧ Ext (one p) h.next h g ∧ g.get p = ⟨vs, sz, 0, none⟩ :=
  ⟨_, st_whole hb hk hl hc hne, rfl, (Ext.refl (one p) _ _).upd (.inr rfl) _, get_upd_self _ (lt_next (by rw [hb]; show 0 < 2; decide))⟩
theorem stoP {p o k : Nat} {cells vs : List Value} (hb : h.get p = ⟨cells, sz, 0, none⟩) (hk : vs.length = k) (hl : o + k ≤ cells.length) (hc : vs.all isCell = true) (hne : vs ≠ []) :
    ∃ g, stV k (.pointer (some ⟨p, o, none⟩)) (.agg ⟨vs⟩) h = some g ∧ g.next = h.next ∧ Ext (one p) h.next h g ∧ g.get p = ⟨splice cells o vs, sz, 0, none⟩ :=
  ⟨_, st_part hb hk hl hc hne, rfl, (Ext.refl (one p) _ _).upd (.inr rfl) _, get_upd_self _ (lt_next (by rw [hb]; show 0 < 2; decide))⟩
/-- a new block, given a name -/
theorem boxed (h : AHeap) (b : ABlk) : ∃ h0, h.alloc b = h0 ∧ Ext no h.next h h0 ∧ h0.next = h.next + 1 ∧ h0.get h.next = b := ⟨_, rfl, Ext.new _ _ _, rfl, by rw [get_alloc, if_pos rfl]⟩
/-- what a whole block reads as -/
theorem Sl.of_block {m len : Nat} {q : Option Nat} {st : Nat} (hb : h.get m = ⟨cs, sz, st, q⟩) (hs : st < 2) (hc : cs.length = len * sz) (hlo : lo ≤ m) (hhi : m < hi) : Sl lo hi h (.slice (some ⟨m, 0, none⟩) len len) sz cs :=
  .inr ⟨m, 0, len, len, rfl, ⟨hlo, hhi⟩, by rw [hb]; exact hs, by rw [hb], by rw [hb]; simp [hc], Nat.le_refl _, hc, by rw [hb, List.drop_zero, ← hc, List.take_length]⟩
theorem bslice_1 {z a : Value} (m : Nat) (ha : isCell a = true) : bsliceV [z] 1 1 [(0 * 1, 1, a)] m = some (.slice (some ⟨m, 0, none⟩) 1 1, ⟨[a], 1, 0, none⟩) := by
  simp [bsliceV, repeatCells, fillV, splice, cells_of ha]
theorem bslice_2 {z a b : Value} (m : Nat) (ha : isCell a = true) (hb : isCell b = true) :
    bsliceV [z] 1 2 [(0 * 1, 1, a), (1 * 1, 1, b)] m = some (.slice (some ⟨m, 0, none⟩) 2 2, ⟨[a, b], 1, 0, none⟩) := by
  simp [bsliceV, repeatCells, fillV, splice, cells_of ha, cells_of hb]
theorem bslice_3 {z a b c : Value} (m : Nat) (ha : isCell a = true) (hb : isCell b = true) (hc : isCell c = true) :
    bsliceV [z] 1 3 [(0 * 1, 1, a), (1 * 1, 1, b), (2 * 1, 1, c)] m = some (.slice (some ⟨m, 0, none⟩) 3 3, ⟨[a, b, c], 1, 0, none⟩) := by
  simp [bsliceV, repeatCells, fillV, splice, cells_of ha, cells_of hb, cells_of hc]
theorem bslice_4 {z a b c d : Value} (m : Nat) (ha : isCell a = true) (hb : isCell b = true) (hc : isCell c = true) (hd : isCell d = true) :
    bsliceV [z] 1 4 [(0 * 1, 1, a), (1 * 1, 1, b), (2 * 1, 1, c), (3 * 1, 1, d)] m = some (.slice (some ⟨m, 0, none⟩) 4 4, ⟨[a, b, c, d], 1, 0, none⟩) := by
  simp [bsliceV, repeatCells, fillV, splice, cells_of ha, cells_of hb, cells_of hc, cells_of hd]
def partsFrom : Nat → List Value → List (Nat × Nat × Value)
  | _, [] => []
  | i, v :: l => (i * 1, 1, v) :: partsFrom (i + 1) l
theorem fill_parts (z : Value) : ∀ (vs pre : List Value), vs.all isCell = true → fillV (pre ++ repeatCells [z] vs.length) (partsFrom pre.length vs) = some (pre ++ vs)
  | [], pre, _ => by simp [repeatCells, partsFrom, fillV]
  | v :: l, pre, h => by
    simp only [List.all_cons, Bool.and_eq_true] at h
    have ih := fill_parts z l (pre ++ [v]) h.2
    have e : splice (pre ++ repeatCells [z] (l.length + 1)) (pre.length * 1) [v] = pre ++ [v] ++ repeatCells [z] l.length := by
      simp [splice, repeatCells]
    simp only [List.length_cons, partsFrom, fillV, cells_of h.1]
    rw [if_pos ⟨rfl, by simp [repeatCells]⟩, e]
    simpa using ih
theorem bslice_all {z : Value} (vs : List Value) (m : Nat) (hc : vs.all isCell = true) (hl : vs.length ≤ 2 ^ 20) :
    bsliceV [z] 1 vs.length (partsFrom 0 vs) m = some (.slice (some ⟨m, 0, none⟩) vs.length vs.length, ⟨vs, 1, 0, none⟩) := by
  have := fill_parts z vs [] hc
  simp only [List.nil_append, List.length_nil] at this
  simp only [bsliceV, this]
  rw [if_pos ⟨rfl, by omega, by decide⟩]
theorem bslice_zero (z : List Value) (sz n : Nat) (h1 : z.length = sz) (h2 : 0 < sz) : bsliceV z sz 0 [] n = some (.slice (some ⟨n, 0, none⟩) 0 0, ⟨[], sz, 0, none⟩) := by
  simp [bsliceV, repeatCells, fillV, h1, h2]

theorem nil_nil : binV .eql 3 (.slice none 0 0) (.slice none 0 0) = some (.bool true) := by simp [binV, isEq, aEqK]
theorem nil_not (a : Addr) (l c : Nat) : binV .eql 3 (.slice (some a) l c) (.slice none 0 0) = some (.bool false) := by simp [binV, isEq, aEqK]
/-- a step whose outcome is known -/
theorem use {α β : Type} {r : Option (α × β)} {R K : α → β → Prop} (hr : ∃ v h', r = some (v, h') ∧ R v h') (hk : ∀ v h', R v h' → K v h') : twoP r K := by
  obtain ⟨v, h', rfl, hR⟩ := hr
  exact hk v h' hR
theorem use1 {α : Type} {r : Option α} {K : α → Prop} {v : α} (hr : r = some v) (hk : K v) : oneP r K := by rw [hr]; exact hk
theorem useE {α β : Type} {r : Option (α × β)} {K : α → β → Prop} {v : α} {h' : β} (hr : r = some (v, h')) (hk : K v h') : twoP r K := by rw [hr]; exact hk

/-! Whole numbers -/
theorem wrap_i64 {x : Int} (h0 : -9223372036854775808 ≤ x) (h1 : x < 9223372036854775808) : IntKind.i64.wrap x = x := by
  simp only [IntKind.wrap, IntKind.bits, IntKind.signed, Int.reducePow, Nat.reduceSub, Bool.true_and]
  split <;> (rename_i hc; simp at hc; omega)
theorem wrap_u8 {x : Int} (h0 : 0 ≤ x) (h1 : x < 256) : IntKind.u8.wrap x = x := by
  simp only [IntKind.wrap, IntKind.bits, IntKind.signed, Int.reducePow, Bool.false_and, Bool.false_eq_true, if_false]
  omega
theorem wrap_u8' (x : Int) : IntKind.u8.wrap x = x % 256 := by
  simp only [IntKind.wrap, IntKind.bits, IntKind.signed, Int.reducePow, Bool.false_and, Bool.false_eq_true, if_false]
theorem wrap_u32' (x : Int) : IntKind.u32.wrap x = x % 4294967296 := by
  simp only [IntKind.wrap, IntKind.bits, IntKind.signed, Int.reducePow, Bool.false_and, Bool.false_eq_true, if_false]
theorem wrap_u64' (x : Int) : IntKind.u64.wrap x = x % 18446744073709551616 := by
  simp only [IntKind.wrap, IntKind.bits, IntKind.signed, Int.reducePow, Bool.false_and, Bool.false_eq_true, if_false]
/-- a number that is none below 0 and fits, of n bits -/
def fits (k : IntKind) (n : Nat) : Prop := n < match k with
  | .i8 => 128 | .i16 => 32768 | .i32 => 2147483648 | .i64 => 9223372036854775808 | .u8 => 256 | .u16 => 65536 | .u32 => 4294967296 | .u64 => 18446744073709551616
theorem fits_i64 {n : Nat} (h : n < 9223372036854775808) : fits .i64 n := h
theorem fits_u8 {n : Nat} (h : n < 256) : fits .u8 n := h
theorem fits_u32 {n : Nat} (h : n < 4294967296) : fits .u32 n := h
theorem fits_u64 {n : Nat} (h : n < 18446744073709551616) : fits .u64 n := h
theorem wrap_fits {k : IntKind} {n : Nat} (h : fits k n) : k.wrap n = n := by
  unfold fits at h
  cases k <;> simp only at h <;> simp only [IntKind.wrap, IntKind.bits, IntKind.signed, Int.reducePow, Nat.reduceSub, Bool.true_and, Bool.false_and, Bool.false_eq_true, if_false] <;> first | omega | (split <;> (rename_i hc; simp at hc; omega))
theorem fits_lt {k : IntKind} {n : Nat} (h : fits k n) : n < 2 ^ k.bits := by
  unfold fits at h
  cases k <;> simp only at h <;> simp only [IntKind.bits, Nat.reducePow] <;> omega
theorem ofInt_nat (w n : Nat) (h : n < 2 ^ w) : (BitVec.ofInt w (n : Int)).toNat = n := by
  simp only [BitVec.ofInt_natCast, BitVec.toNat_ofNat]
  exact Nat.mod_eq_of_lt h
theorem fits_mono {k : IntKind} {a b : Nat} (h : fits k b) (hab : a ≤ b) : fits k a := by unfold fits at h ⊢; omega
theorem b_and (q : Nat) {k : IntKind} {a b : Nat} (ha : fits k a) (hb : fits k b) : binV .and q (.int k a) (.int k b) = some (.int k ((a &&& b : Nat) : Int)) := by
  simp only [binV, if_true, aInt, bits, Option.map_some, BitVec.toNat_and, ofInt_nat _ _ (fits_lt ha), ofInt_nat _ _ (fits_lt hb)]
  rw [wrap_fits (fits_mono ha Nat.and_le_left)]
theorem or_fits {k : IntKind} {a b : Nat} (ha : fits k a) (hb : fits k b) : fits k (a ||| b) := by
  unfold fits at ha hb ⊢
  cases k
  · exact Nat.or_lt_two_pow (n := 7) ha hb
  · exact Nat.or_lt_two_pow (n := 15) ha hb
  · exact Nat.or_lt_two_pow (n := 31) ha hb
  · exact Nat.or_lt_two_pow (n := 63) ha hb
  · exact Nat.or_lt_two_pow (n := 8) ha hb
  · exact Nat.or_lt_two_pow (n := 16) ha hb
  · exact Nat.or_lt_two_pow (n := 32) ha hb
  · exact Nat.or_lt_two_pow (n := 64) ha hb
theorem xor_fits {k : IntKind} {a b : Nat} (ha : fits k a) (hb : fits k b) : fits k (a ^^^ b) := by
  unfold fits at ha hb ⊢
  cases k
  · exact Nat.xor_lt_two_pow (n := 7) ha hb
  · exact Nat.xor_lt_two_pow (n := 15) ha hb
  · exact Nat.xor_lt_two_pow (n := 31) ha hb
  · exact Nat.xor_lt_two_pow (n := 63) ha hb
  · exact Nat.xor_lt_two_pow (n := 8) ha hb
  · exact Nat.xor_lt_two_pow (n := 16) ha hb
  · exact Nat.xor_lt_two_pow (n := 32) ha hb
  · exact Nat.xor_lt_two_pow (n := 64) ha hb
theorem b_or (q : Nat) {k : IntKind} {a b : Nat} (ha : fits k a) (hb : fits k b) : binV .or q (.int k a) (.int k b) = some (.int k ((a ||| b : Nat) : Int)) := by
  simp only [binV, if_true, aInt, bits, Option.map_some, BitVec.toNat_or, ofInt_nat _ _ (fits_lt ha), ofInt_nat _ _ (fits_lt hb)]
  rw [wrap_fits (or_fits ha hb)]
theorem b_xor (q : Nat) {k : IntKind} {a b : Nat} (ha : fits k a) (hb : fits k b) : binV .xor q (.int k a) (.int k b) = some (.int k ((a ^^^ b : Nat) : Int)) := by
  simp only [binV, if_true, aInt, bits, Option.map_some, BitVec.toNat_xor, ofInt_nat _ _ (fits_lt ha), ofInt_nat _ _ (fits_lt hb)]
  rw [wrap_fits (xor_fits ha hb)]
theorem b_shrN (q : Nat) {k j : IntKind} {a s : Nat} (hs : s ≤ k.bits) : binV .shr q (.int k a) (.int j s) = some (.int k ((a / 2 ^ s : Nat) : Int)) := by
  rw [b_shr, if_neg (by omega), Int.toNat_natCast, Nat.min_eq_left hs, Int.fdiv_eq_ediv_of_nonneg _ (by exact_mod_cast Nat.zero_le _)]
  simp
theorem b_addN (q : Nat) {k : IntKind} {a b : Nat} (h : fits k (a + b)) : binV .add q (.int k a) (.int k b) = some (.int k ((a + b : Nat) : Int)) := by
  rw [b_add, ← Int.natCast_add, wrap_fits h]
theorem b_mulN (q : Nat) {k : IntKind} {a b : Nat} (h : fits k (a * b)) : binV .mul q (.int k a) (.int k b) = some (.int k ((a * b : Nat) : Int)) := by
  rw [b_mul, ← Int.natCast_mul, wrap_fits h]
theorem b_shlN (q : Nat) {k j : IntKind} {a s : Nat} (hs : s ≤ k.bits) (h : fits k (a * 2 ^ s)) : binV .shl q (.int k a) (.int j s) = some (.int k ((a * 2 ^ s : Nat) : Int)) := by
  rw [b_shl, if_neg (by omega), Int.toNat_natCast, Nat.min_eq_left hs]
  have : (a : Int) * 2 ^ s = ((a * 2 ^ s : Nat) : Int) := by simp
  rw [this, wrap_fits h]
theorem convN {k j : IntKind} {a : Nat} (h : fits k a) : convV k (.int j a) = some (.int k a) := by rw [conv_int, wrap_fits h]

/-- some bits of a number -/
def andN (a : Int) (b : Nat) : Nat := (BitVec.ofInt 64 a &&& BitVec.ofInt 64 (b : Int)).toNat
theorem andN_le (a : Int) {b : Nat} (hb : b < 9223372036854775808) : andN a b ≤ b := by
  unfold andN
  rw [BitVec.toNat_and, ofInt_nat 64 b (by omega)]
  exact Nat.and_le_right
theorem b_andI (q : Nat) (a : Int) (b : Nat) (hb : b < 9223372036854775808) : binV .and q (.int .i64 a) (.int .i64 b) = some (.int .i64 ((andN a b : Nat) : Int)) := by
  have h : fits .i64 (andN a b) := fits_i64 (by have := andN_le a hb; omega)
  simp only [binV, if_true, aInt, bits, Option.map_some]
  rw [← wrap_fits h]; rfl
theorem andN_nat (a b : Nat) (ha : a < 9223372036854775808) (hb : b < 9223372036854775808) : andN a b = a &&& b := by
  unfold andN
  rw [BitVec.toNat_and, ofInt_nat 64 a (by omega), ofInt_nat 64 b (by omega)]
def shrI (a : Int) (s : Nat) : Int := a.fdiv (2 ^ s)
theorem b_shrI (q : Nat) {j : IntKind} (a : Int) (s : Nat) (hs : s ≤ 64) : binV .shr q (.int .i64 a) (.int j s) = some (.int .i64 (shrI a s)) := by
  rw [b_shr, if_neg (by omega), Int.toNat_natCast, Nat.min_eq_left (show s ≤ IntKind.i64.bits from hs)]
  rfl
theorem b_remN (q : Nat) {k : IntKind} (a b : Nat) (hb : b ≠ 0) : binV .rem q (.int k a) (.int k b) = some (.int k ((a % b : Nat) : Int)) := by
  rw [b_rem, if_neg (by omega)]; rfl
theorem b_quoN (q : Nat) {k : IntKind} (a b : Nat) (hb : b ≠ 0) (h : fits k a) : binV .quo q (.int k a) (.int k b) = some (.int k ((a / b : Nat) : Int)) := by
  rw [b_quo, if_neg (by omega)]
  have e : Int.tdiv (a : Int) (b : Int) = ((a / b : Nat) : Int) := rfl
  rw [e, wrap_fits (fits_mono h (Nat.div_le_self _ _))]
theorem b_subN (q : Nat) {k : IntKind} {a b : Nat} (hab : b ≤ a) (h : fits k a) : binV .sub q (.int k a) (.int k b) = some (.int k ((a - b : Nat) : Int)) := by
  have e : (a : Int) - (b : Int) = ((a - b : Nat) : Int) := by omega
  rw [b_sub, e, wrap_fits (fits_mono h (Nat.sub_le _ _))]
theorem append_byte {l : List UInt8} {x : Nat} (s : OwnB lo h v l) (hl : lo ≤ h.next) (hx : x < 256) (hb : l.length < 2 ^ 46) :
    ∃ v' h', appendV 1 1 v (.slice (some ⟨h.next, 0, none⟩) 1 1) (h.alloc ⟨[.int .u8 x], 1, 0, none⟩) = some (v', h') ∧ Ext no lo h h' ∧ OwnB lo h' v' (l ++ [UInt8.ofNat x]) := by
  have e : [Value.int .u8 x] = bsv [UInt8.ofNat x] := by
    simp only [bsv, u8v, List.map_cons, List.map_nil]
    have : (UInt8.ofNat x).toNat = x := by simp; omega
    rw [this]
  rw [e]
  have x1 : Ext no h.next h (h.alloc ⟨bsv [UInt8.ofNat x], 1, 0, none⟩) := Ext.new _ _ _
  have o1 : OwnB h.next (h.alloc ⟨bsv [UInt8.ofNat x], 1, 0, none⟩) (.slice (some ⟨h.next, 0, none⟩) 1 1) [UInt8.ofNat x] := Own.mk (Nat.le_refl _) rfl
  obtain ⟨v', h', e1, e2, e3⟩ := appendB (n := 2 ^ 47) (s.keep x1 (Nat.le_refl _)) (by rw [alloc_next]; omega) o1.sl (by simp; omega) (Nat.le_refl _)
  exact ⟨v', h', e1, x1.less hl |>.trans e2 (Nat.le_refl _), e3⟩
theorem blk {S : Nat → Prop} {to m : Nat} {b : ABlk} (x : Ext S to h h') (hb : h.get m = b) (hm : m < to) (hs : ¬ S m) : h'.get m = b := (x.get m hm hs).trans hb
theorem blk0 {to m : Nat} {b : ABlk} (x : Ext no to h h') (hb : h.get m = b) (hm : m < to) : h'.get m = b := blk x hb hm fun x => x
theorem Ext.none {S : Nat → Prop} {to : Nat} (x : Ext no to h h') : Ext S to h h' := x.wk (Nat.le_refl _) fun _ _ x => x.elim
theorem Ext.upd1 {to m : Nat} (a : Ext (one m) to h h') (b : ABlk) : Ext (one m) to h (h'.upd m b) := a.upd (.inr rfl) b
theorem Ext.upd0 (to m : Nat) (h : AHeap) (b : ABlk) : Ext (one m) to h (h.upd m b) := (Ext.refl (one m) to h).upd1 b
theorem useM {r : Option AHeap} {K : Value → AHeap → Prop} {g : AHeap} (hr : r = some g) (hk : K undef g) : twoP (r.map fun x => (undef, x)) K := by rw [hr]; exact hk
/-- one number is appended -/
theorem append_int {l : List Int} {x : Int} (s : OwnI lo h v l) (hl : lo ≤ h.next) (hb : l.length < 2 ^ 40) :
    ∃ v' h', appendV 1 8 v (.slice (some ⟨h.next, 0, none⟩) 1 1) (h.alloc ⟨[.int .i64 x], 1, 0, none⟩) = some (v', h') ∧ Ext no lo h h' ∧ OwnI lo h' v' (l ++ [x]) := by
  have x1 : Ext no h.next h (h.alloc ⟨isv [x], 1, 0, none⟩) := Ext.new _ _ _
  have o1 : OwnI h.next (h.alloc ⟨isv [x], 1, 0, none⟩) (.slice (some ⟨h.next, 0, none⟩) 1 1) [x] := Own.mk (Nat.le_refl _) rfl
  obtain ⟨v', h', e1, e2, e3⟩ := appendI (n := 2 ^ 44) (s.keep x1 (Nat.le_refl _)) (by rw [alloc_next]; omega) o1.sl (by simp; omega) (Nat.le_refl _)
  exact ⟨v', h', e1, x1.less hl |>.trans e2 (Nat.le_refl _), e3⟩
theorem append_byte_grow {g : AHeap} {l : List UInt8} {x : Nat} (s : OwnB lo g v l) (y : Ext no g.next g h) (hl : lo ≤ g.next) (hx : x < 256) (hb : l.length < 2 ^ 46) :
    ∃ v' h', appendV 1 1 v (.slice (some ⟨h.next, 0, none⟩) 1 1) (h.alloc ⟨[.int .u8 x], 1, 0, none⟩) = some (v', h') ∧ Ext (fun j => lo ≤ j ∧ j < g.next) h.next h h' ∧ OwnB lo h' v' (l ++ [UInt8.ofNat x]) ∧ Bytes lo g.next h' v l := by
  have yn := y.next
  have e : [Value.int .u8 x] = bsv [UInt8.ofNat x] := by
    simp only [bsv, u8v, List.map_cons, List.map_nil]
    have : (UInt8.ofNat x).toNat = x := by simp; omega
    rw [this]
  rw [e]
  have x1 : Ext no h.next h (h.alloc ⟨bsv [UInt8.ofNat x], 1, 0, none⟩) := Ext.new _ _ _
  have o1 : OwnB h.next (h.alloc ⟨bsv [UInt8.ofNat x], 1, 0, none⟩) (.slice (some ⟨h.next, 0, none⟩) 1 1) [UInt8.ofNat x] := Own.mk (Nat.le_refl _) rfl
  obtain ⟨v', h', e1, e2, e3, e4⟩ := append_grow (bytes := 1) (n := 1) (len := l.length) s (y.trans x1 (by omega)) hl (by simp [bsv_length]) (Sl.source o1.sl (by simp [bsv_length]) (by decide)) (by simp [bsv_length]) (bsv_cells _) (by decide) (by decide) (by omega) (by omega)
  rw [← bsv_append] at e3
  exact ⟨v', h', e1, (x1.none (S := fun j => lo ≤ j ∧ j < g.next)).trans (e2.less (by rw [alloc_next]; omega)) (Nat.le_refl _), e3, e4⟩
theorem depth {K d : Nat} (h : K + 1 ≤ d) : ∃ d', d = d' + 1 ∧ K ≤ d' := ⟨d - 1, by omega, by omega⟩

end Go.Ab
