/- What clean code must do for a wish to hold; and that the abstract run then does it. -/
import Derived.Test.YtapmpenkceomdaaAb21
namespace Go.Ab

/-- a mark: what it is of stays as it is where a rewriting passes -/
structure Tag {α : Type} (a : α) : Type where
def oneP {α : Type} (r : Option α) (k : α → Prop) (_ : Tag k := ⟨⟩) : Prop :=
  match r with
  | some a => k a
  | none => False
def twoP {α β : Type} (r : Option (α × β)) (k : α → β → Prop) (_ : Tag k := ⟨⟩) : Prop :=
  match r with
  | some (a, b) => k a b
  | none => False
theorem oneP_some {α : Type} (a : α) (k : α → Prop) : oneP (some a) k = k a := rfl
theorem twoP_some {α β : Type} (a : α) (b : β) (k : α → β → Prop) : twoP (some (a, b)) k = k a b := rfl
theorem oneP_inv {α : Type} {r : Option α} {k : α → Prop} (h : oneP r k) : ∃ a, r = some a ∧ k a := by
  cases r with
  | none => exact h.elim
  | some a => exact ⟨a, rfl, h⟩
theorem twoP_inv {α β : Type} {r : Option (α × β)} {k : α → β → Prop} (h : twoP r k) : ∃ a b, r = some (a, b) ∧ k a b := by
  rcases r with _ | ⟨a, b⟩
  · exact h.elim
  · exact ⟨a, b, rfl, h⟩

/-- guarded: the slot says whether it is done -/
def gate (g : Option (Nat × Bool)) (E : Env) (yes no : Prop) (_ : Tag yes := ⟨⟩) (_ : Tag no := ⟨⟩) : Prop :=
  match g with
  | none => yes
  | some (t, b) => match E t with
    | .bool c => if c = b then yes else no
    | _ => no

section
variable (C : Callee')

def stepOp (o : TOp) (E : Env) (h : AHeap) (k : Value → AHeap → Prop) (_ : Tag k := ⟨⟩) : Prop :=
  match o.kind with
  | 0 => oneP (tPure E o) fun v => k v h
  | 1 => oneP (tLook E h o) fun v => k v h
  | 2 => twoP (tMake E h.next o) fun v b => k v (h.alloc b)
  | _ => twoP (tDo C E h o) fun v h' => k v h'

def wOps : List SOp → Env → AHeap → (Q : Env → AHeap → Prop) → (_ : Tag Q := ⟨⟩) → Prop
  | [], E, h, Q, _ => Q E h
  | o :: r, E, h, Q, _ => gate o.guard E (stepOp C o.op E h fun v h' => wOps r (updO E o.dst v) h' Q) (wOps r (updO E o.dst undef) h Q)

structure LE where
  i : Nat
  kind : Nat
  name : Nat
  pre : AHeap
  post : Nat
  E : Env
  op : TOp
  v : Value

def hidsT (un : List Nat) : List LE → List Nat
  | [] => []
  | e :: l => if e.kind == 2 && un.contains e.i then e.name :: hidsT un l else hidsT un l
/-- seen still, by what is plain -/
def seesT (E : Env) (o : TOp) (v : Value) (h : AHeap) : Prop := tLook E h o = some v ∧ beqV v v = true
def lookOkT (un : List Nat) (E : Env) (o : TOp) (v : Value) : List LE → Prop
  | [] => True
  | e :: l => (if e.kind == 3 && un.contains e.i then match tBlock E o with
      | some n => (n < e.pre.next ∧ seesT E o v e.pre) ∨ e.post ≤ n
      | none => True else True) ∧ lookOkT un E o v l
def aliveT (h : AHeap) : List Nat → Prop
  | [] => True
  | n :: l => (h.get n).st = 0 ∧ aliveT h l
def freeOf3 (un : List Nat) : List LE → Bool
  | [] => true
  | e :: l => !(e.kind == 3 && un.contains e.i) && freeOf3 un l
def sawT (un : List Nat) (h : AHeap) : List LE → Prop
  | [] => True
  | e :: l => (if e.kind == 1 && un.contains e.i then seesT e.E e.op e.v h else True) ∧ sawT un h l

def wDraw : List (SOp × List Nat) → Nat → Env → AHeap → List LE → (Q : Env → AHeap → Prop) → (_ : Tag Q := ⟨⟩) → Prop
  | [], _, E, h, _, Q, _ => Q E h
  | (o, un) :: r, i, E, h, log, Q, _ =>
    gate o.guard E
      (match o.op.kind with
      | 0 => oneP (tPure E o.op) fun v => wDraw r (i + 1) (updO E o.dst v) h log Q
      | 1 => oneP (tLook E (maskH h (hidsT un log)) o.op) fun v => lookOkT un E o.op v log ∧ wDraw r (i + 1) (updO E o.dst v) h (⟨i, 1, 0, h, 0, E, o.op, v⟩ :: log) Q
      | 2 => twoP (tMake E h.next o.op) fun v b => wDraw r (i + 1) (updO E o.dst v) (h.alloc b) (⟨i, 2, h.next, h, 0, E, o.op, v⟩ :: log) Q
      | _ => aliveT h (hidsT un log) ∧ freeOf3 un log = true ∧ twoP (tDo C E (maskH h (hidsT un log)) o.op) fun v h1 =>
          sawT un (unmaskH h1 h (hidsT un log)) log ∧ wDraw r (i + 1) (updO E o.dst v) (unmaskH h1 h (hidsT un log)) (⟨i, 3, 0, h, h1.next, E, o.op, v⟩ :: log) Q)
      (wDraw r (i + 1) (updO E o.dst undef) h log Q)

abbrev Wish := AExit → Env → AHeap → Prop

def condP (v : Value) (a b : Prop) (_ : Tag a := ⟨⟩) (_ : Tag b := ⟨⟩) : Prop :=
  match v with
  | .bool c => if c = true then a else b
  | _ => False

def thenP (k : Env → AHeap → Prop) (Q : Wish) (_ : Tag k := ⟨⟩) (_ : Tag Q := ⟨⟩) : Wish := fun e E h =>
  match e with
  | .normal => k E h
  | .exit j => Q (.exit j) E h
  | .ret => Q .ret E h
def blockP (id : Nat) (Q : Wish) (_ : Tag Q := ⟨⟩) : Wish := fun e E h =>
  match e with
  | .normal => Q .normal E h
  | .exit j => if j = id then Q .normal E h else Q (.exit j) E h
  | .ret => Q .ret E h

def wIter (f : Env → AHeap → Wish → Prop) : Nat → Env → AHeap → Wish → Prop
  | 0, _, _, _ => False
  | n + 1, E, h, Q => f E h (thenP (fun E' h' => wIter f n E' h' Q) Q)

def wS (n : Nat) : SC → Env → AHeap → (Q : Wish) → (_ : Tag Q := ⟨⟩) → Prop
  | .skip, E, h, Q, _ => Q .normal E h
  | .ops l, E, h, Q, _ => wOps C l E h (Q .normal)
  | .draw l, E, h, Q, _ => wDraw C l 0 E h [] (Q .normal)
  | .seq a b, E, h, Q, _ => wS n a E h (thenP (fun E' h' => wS n b E' h' Q) Q)
  | .cond c a b, E, h, Q, _ => condP (c.ev E) (wS n a E h Q) (wS n b E h Q)
  | .block id a, E, h, Q, _ => wS n a E h (blockP id Q)
  | .loop a, E, h, Q, _ => wIter (fun E h Q => wS n a E h Q) n E h Q
  | .exit id, E, h, Q, _ => Q (.exit id) E h
  | .ret, E, h, Q, _ => Q .ret E h
end

/-! Soundness -/
variable {P : Program} {C : Callee'}

/-- slots, and how many there are -/
def Sees2 (nt : Nat) (T : TS) (E : Env) : Prop := T.n = nt ∧ Sees T E

theorem Sees2.put {nt : Nat} {T : TS} {E : Env} (s : Sees2 nt T E) {d : Option Nat} (hd : dstOk nt d = true) (v : Value) :
    Sees2 nt (T.put d v) (updO E d v) := by
  cases d with
  | none => exact s
  | some d =>
    have hd' : d < nt := by simpa [dstOk] using hd
    refine ⟨s.1, fun i => ?_⟩
    simp only [TS.put, TS.get_set, updO, upd, s.1]
    by_cases e : i = d
    · rw [if_pos ⟨e, hd'⟩, if_pos e]
    · rw [if_neg (fun h => e h.1), if_neg e]; exact s.2 i

theorem tidyOper_inv {ops : Array Oper} {nt : Nat} {o : Oper} {s : SOp} (h : tidyOper P ops nt o = some s) :
    dstOk nt o.dst = true ∧ s.dst = o.dst ∧ tidyOp P o.op = some s.op ∧
    ((o.guard = none ∧ s.guard = none) ∨ ∃ j b d, o.guard = some (j, b) ∧ (ops[j]?).bind (·.dst) = some d ∧ s.guard = some (d, b)) := by
  unfold tidyOper at h
  split at h
  · rename_i hd
    refine ⟨hd, ?_⟩
    split at h
    · rename_i h1 h2
      cases h
      exact ⟨rfl, h1, .inl ⟨h2, rfl⟩⟩
    · rename_i j b h1 h2
      split at h
      · rename_i d h3
        cases h
        exact ⟨rfl, h1, .inr ⟨j, b, d, h2, h3, rfl⟩⟩
      · cases h
    · cases h
  · cases h

/-- a guard says the same -/
theorem gate_inv {ops : Array Oper} {nt : Nat} {o : Oper} {s : SOp} {T : TS} {E : Env} (ht : tidyOper P ops nt o = some s) (hs : Sees2 nt T E) {yes no : Prop} (h : gate s.guard E yes no) :
    (Region.wanted o (yieldedA ops T) = true ∧ yes) ∨ (Region.wanted o (yieldedA ops T) = false ∧ no) := by
  obtain ⟨_, _, _, hg | ⟨j, b, d, hg, hj, hg'⟩⟩ := tidyOper_inv ht
  · rw [hg.2] at h
    left
    refine ⟨?_, h⟩
    unfold Region.wanted
    rw [hg.1]
  · rw [hg'] at h
    simp only [gate] at h
    unfold Region.wanted
    rw [hg]
    simp only [yieldedA, hj, hs.2 d]
    split at h
    · rename_i c hc
      simp only [hc]
      split at h
      · rename_i e; subst e; left; exact ⟨by simp, h⟩
      · rename_i e; right; exact ⟨by simpa using e, h⟩
    · rename_i hn
      right
      refine ⟨?_, h⟩
      cases hv : E d with
      | bool c => exact absurd hv (hn c)
      | _ => rfl

theorem stepOp_inv {T : TS} {E : Env} (s : Sees T E) {o : Op} {t : TOp} (ht : tidyOp P o = some t) {h : AHeap} {k : Value → AHeap → Prop} (hk : stepOp C t E h k) :
    ∃ v h', aOper P C T h o = some (v, h') ∧ k v h' := by
  unfold stepOp at hk
  unfold aOper
  rw [tidyOp_kind ht]
  split at hk
  · rename_i he
    obtain ⟨v, h1, h2⟩ := oneP_inv hk
    exact ⟨v, h, by rw [he]; simp only [tidyOp_pure s ht he h1, Option.map_some], h2⟩
  · rename_i he
    obtain ⟨v, h1, h2⟩ := oneP_inv hk
    exact ⟨v, h, by rw [he]; simp only [tidyOp_look s ht he h h1, Option.map_some], h2⟩
  · rename_i he
    obtain ⟨v, b, h1, h2⟩ := twoP_inv hk
    exact ⟨v, _, by rw [he]; simp only [tidyOp_make s ht he _ h1, Option.map_some], h2⟩
  · rename_i e0 e1 e2
    have he : t.kind = 3 := by
      cases t <;> simp_all [TOp.kind]
    obtain ⟨v, b, h1, h2⟩ := twoP_inv hk
    exact ⟨v, b, by rw [he]; exact tidyOp_do s ht he h h1, h2⟩

theorem wOps_sound {ops : Array Oper} {nt : Nat} : ∀ {l : List Oper} {m : List SOp}, tidyOpers P ops nt l = some m → ∀ {T : TS} {E : Env} {h : AHeap} {Q : Env → AHeap → Prop}, Sees2 nt T E → wOps C m E h Q →
    ∃ T' E' h', evOps P C ops l T h = some (T', h') ∧ Sees2 nt T' E' ∧ Q E' h' := by
  intro l
  induction l with
  | nil =>
    intro m hm T E h Q s hw
    cases hm
    exact ⟨T, E, h, rfl, s, hw⟩
  | cons o l ih =>
    intro m hm T E h Q s hw
    simp only [tidyOpers] at hm
    split at hm
    · rename_i x m' h1 h2
      cases hm
      simp only [wOps] at hw
      obtain ⟨hd, hdst, hop, _⟩ := tidyOper_inv h1
      simp only [evOps]
      rcases gate_inv h1 s hw with ⟨hq, hw⟩ | ⟨hq, hw⟩
      · rw [if_pos hq]
        obtain ⟨v, h', e1, e2⟩ := stepOp_inv s.2 hop hw
        rw [e1]
        rw [hdst] at e2
        exact ih h2 (s.put hd v) e2
      · rw [hq]
        simp only [Bool.false_eq_true, if_false]
        rw [hdst] at hw
        exact ih h2 (s.put hd undef) hw
    · cases hm

/-! Regions that draw -/
structure ER (P : Program) (m : List SOp) (i : Nat) (e : Ent) (f : LE) : Prop where
  hi : f.i = e.i
  lt : e.i < i
  kind : f.kind = e.kind
  name : f.name = e.name
  pre : f.pre = e.pre
  post : f.post = e.post
  v : f.v = e.v
  place : ∃ o, m[e.i]? = some o ∧ o.op.kind = e.kind
  look : e.kind = 1 → Sees e.T f.E ∧ tidyOp P e.op = some f.op ∧ f.op.kind = 1

def LogR (P : Program) (m : List SOp) (i : Nat) : List Ent → List LE → Prop
  | [], [] => True
  | e :: l, f :: k => ER P m i e f ∧ LogR P m i l k
  | _, _ => False

theorem LogR.cons {m : List SOp} {i : Nat} {e : Ent} {f : LE} {l : List Ent} {k : List LE} (h : ER P m i e f) (r : LogR P m i l k) : LogR P m i (e :: l) (f :: k) := ⟨h, r⟩
theorem LogR.nil {m : List SOp} {i : Nat} : LogR P m i [] [] := trivial
theorem LogR.next {m : List SOp} {i : Nat} : ∀ {l : List Ent} {k : List LE}, LogR P m i l k → LogR P m (i + 1) l k
  | [], [], _ => trivial
  | _ :: _, _ :: _, ⟨h, r⟩ => ⟨{ h with lt := Nat.lt_succ_of_lt h.lt }, r.next⟩

theorem mem_free {B : Array Nat} {i k : Nat} {l : List SOp} {j : Nat} : ∀ {n : Nat}, (free B i k l n).contains j = true ↔ (j < n ∧ ∃ o, l[j]? = some o ∧ clash k o.op.kind = true ∧ ordered B i j = false)
  | 0 => by simp [free]
  | n + 1 => by
    simp only [free]
    split
    · rename_i o ho
      split
      · rename_i hc
        simp only [Bool.and_eq_true, Bool.not_eq_eq_eq_not, Bool.not_true] at hc
        simp only [List.contains_cons, Bool.or_eq_true, beq_iff_eq, mem_free (n := n)]
        constructor
        · rintro (rfl | ⟨h1, h2⟩)
          · exact ⟨by omega, o, ho, hc.1, hc.2⟩
          · exact ⟨by omega, h2⟩
        · rintro ⟨h1, h2⟩
          by_cases e : j = n
          · exact .inl e
          · exact .inr ⟨by omega, h2⟩
      · rename_i hc
        rw [mem_free (n := n)]
        constructor
        · rintro ⟨h1, h2⟩; exact ⟨by omega, h2⟩
        · rintro ⟨h1, o', h2, h3, h4⟩
          by_cases e : j = n
          · subst e
            rw [ho] at h2; cases h2
            exact absurd (by simp [h3, h4]) hc
          · exact ⟨by omega, o', h2, h3, h4⟩
    · rename_i ho
      rw [mem_free (n := n)]
      constructor
      · rintro ⟨h1, h2⟩; exact ⟨by omega, h2⟩
      · rintro ⟨h1, o', h2, h3, h4⟩
        by_cases e : j = n
        · subst e; rw [ho] at h2; cases h2
        · exact ⟨by omega, o', h2, h3, h4⟩

theorem ER.free {B : Array Nat} {m : List SOp} {i k : Nat} {e : Ent} {f : LE} (h : ER P m i e f) (hc : clash k e.kind = true) : (Go.Ab.free B i k m i).contains f.i = !ordered B i e.i := by
  obtain ⟨o, ho, hk⟩ := h.place
  rw [h.hi]
  cases hb : ordered B i e.i with
  | false => exact mem_free.2 ⟨h.lt, o, ho, by rw [hk]; exact hc, hb⟩
  | true =>
    cases hx : (Go.Ab.free B i k m i).contains e.i with
    | false => rfl
    | true =>
      obtain ⟨_, _, _, _, h4⟩ := mem_free.1 hx
      rw [hb] at h4; cases h4

theorem hids_T {B : Array Nat} {m : List SOp} {i k : Nat} (hk : clash k 2 = true) : ∀ {l : List Ent} {f : List LE}, LogR P m i l f → hids B i l = hidsT (free B i k m i) f
  | [], [], _ => rfl
  | e :: l, f :: g, ⟨h, r⟩ => by
    have ih := hids_T (B := B) hk r
    unfold hids at ih ⊢
    simp only [hidsT, List.filter_cons]
    by_cases h2 : e.kind = 2
    · have h3 := h.free (B := B) (k := k) (by rw [h2]; exact hk)
      rw [h.kind, h3, h2]
      cases ordered B i e.i
      · simp only [beq_self_eq_true, Bool.not_false, Bool.and_true, if_true, List.map_cons, h.name, ih]
      · simp only [beq_self_eq_true, Bool.not_true, Bool.and_false, Bool.false_eq_true, if_false, ih]
    · have h3 : (e.kind == 2) = false := by simpa using h2
      rw [h.kind, h3]
      simp only [Bool.false_and, Bool.false_eq_true, if_false, ih]

theorem seen_T {T : TS} {E : Env} (s : Sees T E) {o : Op} {t : TOp} (ht : tidyOp P o = some t) (hk : t.kind = 1) {v : Value} {h : AHeap} (hs : seesT E t v h) : seenAt P T o v h = true := by
  unfold seenAt
  rw [tidyOp_look s ht hk h hs.1]
  exact hs.2

theorem look_T {B : Array Nat} {m : List SOp} {i : Nat} {T : TS} {E : Env} (s : Sees T E) {o : Op} {t : TOp} (ht : tidyOp P o = some t) (hk : t.kind = 1) {v : Value} : ∀ {l : List Ent} {f : List LE}, LogR P m i l f →
    lookOkT (free B i 1 m i) E t v f → lookOk P B i T o v l = true
  | [], [], _, _ => rfl
  | e :: l, f :: g, ⟨h, r⟩, hl => by
    simp only [lookOkT] at hl
    have ih := look_T (B := B) s ht hk r hl.2
    unfold lookOk at ih ⊢
    simp only [List.all_cons, ih, Bool.and_true]
    by_cases h2 : e.kind = 3
    · have h3 := h.free (B := B) (k := 1) (by rw [h2]; rfl)
      have hl1 := hl.1
      rw [h.kind, h3, h2] at hl1
      rw [h2]
      cases hb : ordered B i e.i
      · rw [hb] at hl1
        simp only [beq_self_eq_true, Bool.not_false, Bool.and_true, if_true] at hl1
        rw [tidyOp_block s ht hk]
        simp only [beq_self_eq_true, Bool.not_true, Bool.false_or]
        split
        · rename_i n hn
          rw [hn] at hl1
          simp only at hl1
          rcases hl1 with ⟨h4, h5⟩ | h4
          · rw [h.pre] at h4 h5
            rw [seen_T s ht hk h5]
            simp [h4]
          · rw [h.post] at h4
            simp [h4]
        · rfl
      · simp
    · have h3 : (e.kind == 3) = false := by simpa using h2
      rw [h3]; rfl

theorem alive_T {h : AHeap} : ∀ {l : List Nat}, aliveT h l → (l.all fun n => (h.get n).st == 0) = true
  | [], _ => rfl
  | n :: l, ⟨h1, h2⟩ => by simp only [List.all_cons, alive_T h2, h1, beq_self_eq_true, Bool.and_self]

theorem free3_T {B : Array Nat} {m : List SOp} {i : Nat} : ∀ {l : List Ent} {f : List LE}, LogR P m i l f → freeOf3 (free B i 3 m i) f = true → (l.all fun e => !(e.kind == 3) || ordered B i e.i) = true
  | [], [], _, _ => rfl
  | e :: l, f :: g, ⟨h, r⟩, hl => by
    simp only [freeOf3, Bool.and_eq_true] at hl
    simp only [List.all_cons, free3_T (B := B) r hl.2, Bool.and_true]
    by_cases h2 : e.kind = 3
    · have h3 := h.free (B := B) (k := 3) (by rw [h2]; rfl)
      have hl1 := hl.1
      rw [h.kind, h3, h2] at hl1
      rw [h2]
      simpa using hl1
    · have h3 : (e.kind == 3) = false := by simpa using h2
      rw [h3]; rfl

theorem saw_T {B : Array Nat} {m : List SOp} {i : Nat} {h : AHeap} : ∀ {l : List Ent} {f : List LE}, LogR P m i l f → sawT (free B i 3 m i) h f →
    (l.all fun e => !(e.kind == 1) || ordered B i e.i || seenAt P e.T e.op e.v h) = true
  | [], [], _, _ => rfl
  | e :: l, f :: g, ⟨hh, r⟩, hl => by
    simp only [sawT] at hl
    simp only [List.all_cons, saw_T (B := B) r hl.2, Bool.and_true]
    by_cases h2 : e.kind = 1
    · have h3 := hh.free (B := B) (k := 3) (by rw [h2]; rfl)
      have hl1 := hl.1
      rw [hh.kind, h3, h2] at hl1
      obtain ⟨a1, a2, a3⟩ := hh.look h2
      rw [h2]
      cases hb : ordered B i e.i
      · rw [hb] at hl1
        simp only [beq_self_eq_true, Bool.not_false, Bool.and_true, if_true] at hl1
        rw [hh.v] at hl1
        rw [seen_T a1 a2 a3 hl1]
        simp
      · simp
    · have h3 : (e.kind == 1) = false := by simpa using h2
      rw [h3]; rfl

theorem wDraw_sound {ops : Array Oper} {B : Array Nat} {nt : Nat} {m : List SOp} : ∀ {l : List Oper} {m' : List SOp} {i : Nat}, tidyOpers P ops nt l = some m' → (∀ j o, m'[j]? = some o → m[i + j]? = some o) →
    ∀ {T : TS} {E : Env} {h : AHeap} {log : List Ent} {logT : List LE} {Q : Env → AHeap → Prop}, Sees2 nt T E → LogR P m i log logT → wDraw C (frees B m m' i) i E h logT Q →
    ∃ T' E' h', evDraw P C ops B l i T h log = some (T', h') ∧ Sees2 nt T' E' ∧ Q E' h' := by
  intro l
  induction l with
  | nil =>
    intro m' i hm _ T E h log logT Q s _ hw
    cases hm
    exact ⟨T, E, h, rfl, s, hw⟩
  | cons o l ih =>
    intro m' i hm hat T E h log logT Q s hlog hw
    simp only [tidyOpers] at hm
    split at hm
    · rename_i x m'' h1 h2
      cases hm
      have hx : m[i]? = some x := by simpa using hat 0 x rfl
      have hat' : ∀ j o, m''[j]? = some o → m[i + 1 + j]? = some o := fun j o hj => by
        have := hat (j + 1) o (by simpa using hj)
        rw [← this]; congr 1; omega
      simp only [frees, wDraw] at hw
      obtain ⟨hd, hdst, hop, _⟩ := tidyOper_inv h1
      simp only [evDraw, dStep]
      rcases gate_inv h1 s hw with ⟨hq, hw⟩ | ⟨hq, hw⟩
      · rw [if_pos hq, tidyOp_kind hop]
        rw [hdst] at hw
        have nx := hlog.next
        split at hw
        · rename_i hk
          obtain ⟨v, e1, e2⟩ := oneP_inv hw
          rw [hk]
          simp only [tidyOp_pure s.2 hop hk e1, Option.map_some]
          exact ih h2 hat' (s.put hd v) nx e2
        · rename_i hk
          obtain ⟨v, e1, e3, e2⟩ := oneP_inv hw
          rw [hk] at e1 e3 ⊢
          rw [← hids_T (B := B) rfl hlog] at e1
          simp only [tidyOp_look s.2 hop hk _ e1, look_T (B := B) s.2 hop hk hlog e3, if_true]
          exact ih h2 hat' (s.put hd v) (LogR.cons ⟨rfl, Nat.lt_succ_self _, rfl, rfl, rfl, rfl, rfl, ⟨x, hx, hk⟩, fun _ => ⟨s.2, hop, hk⟩⟩ nx) e2
        · rename_i hk
          obtain ⟨v, b, e1, e2⟩ := twoP_inv hw
          rw [hk]
          simp only [tidyOp_make s.2 hop hk _ e1, Option.map_some]
          exact ih h2 hat' (s.put hd v) (LogR.cons ⟨rfl, Nat.lt_succ_self _, rfl, rfl, rfl, rfl, rfl, ⟨x, hx, hk⟩, fun h => by cases h⟩ nx) e2
        · rename_i n0 n1 n2
          have hk : x.op.kind = 3 := by
            cases ht : x.op <;> simp_all [TOp.kind]
          obtain ⟨a1, a2, a3⟩ := hw
          obtain ⟨v, g, e1, e3, e2⟩ := twoP_inv a3
          rw [hk] at a1 a2 e1 e2 e3 ⊢
          rw [← hids_T (B := B) rfl hlog] at a1 e1 e2 e3
          simp only [alive_T a1, free3_T (B := B) hlog a2, Bool.and_self, if_true, tidyOp_do s.2 hop hk _ e1, saw_T (B := B) hlog e3]
          exact ih h2 hat' (s.put hd v) (LogR.cons ⟨rfl, Nat.lt_succ_self _, rfl, rfl, rfl, rfl, rfl, ⟨x, hx, hk⟩, fun h => by cases h⟩ nx) e2
      · rw [hq]
        simp only [Bool.false_eq_true, if_false]
        rw [hdst] at hw
        exact ih h2 hat' (s.put hd undef) hlog.next hw
    · cases hm

theorem hidsT_nil : ∀ l : List LE, hidsT [] l = []
  | [] => rfl
  | e :: l => by simp [hidsT, hidsT_nil l]
theorem lookOkT_nil (E : Env) (o : TOp) (v : Value) : ∀ l : List LE, lookOkT [] E o v l
  | [] => trivial
  | e :: l => ⟨by simp, lookOkT_nil E o v l⟩
theorem freeOf3_nil : ∀ l : List LE, freeOf3 [] l = true
  | [] => rfl
  | e :: l => by simp [freeOf3, freeOf3_nil l]
theorem sawT_nil (h : AHeap) : ∀ l : List LE, sawT [] h l
  | [] => trivial
  | e :: l => ⟨by simp, sawT_nil h l⟩

theorem wDraw_of_wOps {B : Array Nat} {m : List SOp} : ∀ {l : List SOp} {i : Nat} {E : Env} {h : AHeap} {log : List LE} {Q : Env → AHeap → Prop}, ((frees B m l i).all fun x => x.2.isEmpty) = true →
    wOps C l E h Q → wDraw C (frees B m l i) i E h log Q := by
  intro l
  induction l with
  | nil => intro i E h log Q _ hw; exact hw
  | cons o l ih =>
    intro i E h log Q hall hw
    simp only [frees, List.all_cons, Bool.and_eq_true] at hall
    have hun : free B i o.op.kind m i = [] := by simpa using hall.1
    simp only [frees, wDraw]
    rw [hun]
    simp only [wOps] at hw
    have ga : ∀ {g : Option (Nat × Bool)} {y n y' n' : Prop}, gate g E y n → (y → y') → (n → n') → gate g E y' n' := by
      intro g y n y' n' hg h1 h2
      unfold gate at hg ⊢
      split
      · exact h1 hg
      · rename_i t b
        split
        · rename_i c hc
          simp only [hc] at hg
          split
          · rename_i e; rw [if_pos e] at hg; exact h1 hg
          · rename_i e; rw [if_neg e] at hg; exact h2 hg
        · rename_i hn
          cases hv : E t with
          | bool c => exact absurd hv (hn c)
          | _ => simp only [hv] at hg; exact h2 hg
    refine ga hw (fun hw => ?_) (fun hw => ih hall.2 hw)
    unfold stepOp at hw
    split at hw
    · rename_i hk
      obtain ⟨v, e1, e2⟩ := oneP_inv hw
      rw [e1]
      exact ih hall.2 e2
    · rename_i hk
      obtain ⟨v, e1, e2⟩ := oneP_inv hw
      rw [hidsT_nil]
      show oneP (tLook E h o.op) _
      rw [e1]
      exact ⟨lookOkT_nil _ _ _ _, ih hall.2 e2⟩
    · rename_i hk
      obtain ⟨v, b, e1, e2⟩ := twoP_inv hw
      rw [e1]
      exact ih hall.2 e2
    · rename_i n0 n1 n2
      obtain ⟨v, b, e1, e2⟩ := twoP_inv hw
      rw [hidsT_nil]
      refine ⟨trivial, freeOf3_nil _, ?_⟩
      show twoP (tDo C E h o.op) _
      rw [e1]
      exact ⟨sawT_nil _ _, ih hall.2 e2⟩

/-! Code -/
def Got (P : Program) (C : Callee') (n nt : Nat) (c : Code) (T : TS) (h : AHeap) (Q : Wish) : Prop :=
  ∃ e T' E' h', evCode P C n c T h = some (e, T', h') ∧ Sees2 nt T' E' ∧ Q e E' h'

theorem iter_sound {n nt : Nat} {c : Code} {f : Env → AHeap → Wish → Prop} (hf : ∀ {T : TS} {E : Env} {h : AHeap} {Q : Wish}, Sees2 nt T E → f E h Q → Got P C n nt c T h Q) :
    ∀ {k : Nat} {T : TS} {E : Env} {h : AHeap} {Q : Wish}, Sees2 nt T E → wIter f k E h Q → ∃ e T' E' h', iter (evCode P C n c) k T h = some (e, T', h') ∧ Sees2 nt T' E' ∧ Q e E' h' := by
  intro k
  induction k with
  | zero => intro T E h Q _ hw; exact hw.elim
  | succ k ih =>
    intro T E h Q s hw
    obtain ⟨e, T', E', h', e1, s', q⟩ := hf s hw
    simp only [iter, e1]
    cases e with
    | normal => exact ih s' q
    | exit j => exact ⟨_, _, _, _, rfl, s', q⟩
    | ret => exact ⟨_, _, _, _, rfl, s', q⟩

theorem wS_sound {n nt : Nat} : ∀ {c : Code} {x : SC}, tidyC P nt c = some x → ∀ {T : TS} {E : Env} {h : AHeap} {Q : Wish}, Sees2 nt T E → wS C n x E h Q → Got P C n nt c T h Q := by
  intro c
  induction c with
  | skip => intro x hx T E h Q s hw; cases hx; exact ⟨_, T, E, h, rfl, s, hw⟩
  | exit id => intro x hx T E h Q s hw; cases hx; exact ⟨_, T, E, h, rfl, s, hw⟩
  | ret => intro x hx T E h Q s hw; cases hx; exact ⟨_, T, E, h, rfl, s, hw⟩
  | region id ops d =>
    intro x hx T E h Q s hw
    cases d with
    | false =>
      simp only [tidyC, Option.map_eq_some_iff] at hx
      obtain ⟨m, h1, rfl⟩ := hx
      obtain ⟨T', E', h', e1, e2, e3⟩ := wOps_sound h1 s hw
      exact ⟨.normal, T', E', h', by simp only [evCode, e1, Option.map_some], e2, e3⟩
    | true =>
      simp only [tidyC] at hx
      split at hx
      · rename_i hd
        split at hx
        · rename_i m hm
          have fin : wDraw C (frees (Region.before ops) m m 0) 0 E h [] (Q .normal) → Got P C n nt (.region id ops true) T h Q := fun hw => by
            obtain ⟨T', E', h', e1, e2, e3⟩ := wDraw_sound (log := []) hm (fun j o h => by simpa using h) s LogR.nil hw
            exact ⟨.normal, T', E', h', by simp only [evCode, hd, if_true, e1, Option.map_some], e2, e3⟩
          split at hx
          · rename_i ha
            cases hx
            exact fin (wDraw_of_wOps ha hw)
          · cases hx
            exact fin hw
        · cases hx
      · cases hx
  | seq a b iha ihb =>
    intro x hx T E h Q s hw
    simp only [tidyC] at hx
    have go : ∀ {x y : SC}, tidyC P nt a = some x → tidyC P nt b = some y → wS C n x E h (thenP (fun E' h' => wS C n y E' h' Q) Q) → Got P C n nt (.seq a b) T h Q := by
      intro x y hx hy hw
      obtain ⟨e, T', E', h', e1, e2, e3⟩ := iha hx s hw
      cases e with
      | normal =>
        obtain ⟨e, T2, E2, h2, f1, f2, f3⟩ := ihb hy e2 e3
        exact ⟨e, T2, E2, h2, by simp only [evCode, e1, f1], f2, f3⟩
      | exit j => exact ⟨_, T', E', h', by simp only [evCode, e1], e2, e3⟩
      | ret => exact ⟨_, T', E', h', by simp only [evCode, e1], e2, e3⟩
    split at hx
    · rename_i h1 h2
      cases hx
      exact go h1 h2 hw
    · rename_i h1 h2
      cases hx
      refine go h1 h2 ?_
      have : (thenP (fun E' h' => wS C n .skip E' h' Q) Q) = Q := by
        funext e E' h'
        cases e <;> rfl
      rw [this]; exact hw
    · rename_i h1 h2
      cases hx
      exact go h1 h2 hw
    · cases hx
  | cond c a b iha ihb =>
    intro x hx T E h Q s hw
    simp only [tidyC] at hx
    split at hx
    · rename_i h1 h2 h3
      cases hx
      simp only [wS, condP] at hw
      split at hw
      · rename_i v hv
        have := s.2.o h1
        rw [hv] at this
        split at hw
        · rename_i e
          subst e
          obtain ⟨e, T', E', h', e1, e2, e3⟩ := iha h2 s hw
          exact ⟨e, T', E', h', by simp only [evCode, this, e1], e2, e3⟩
        · rename_i e
          have e' : v = false := by simpa using e
          subst e'
          obtain ⟨e, T', E', h', e1, e2, e3⟩ := ihb h3 s hw
          exact ⟨e, T', E', h', by simp only [evCode, this, e1], e2, e3⟩
      · exact hw.elim
    · cases hx
  | block id a ih =>
    intro x hx T E h Q s hw
    simp only [tidyC, Option.map_eq_some_iff] at hx
    obtain ⟨y, h1, rfl⟩ := hx
    obtain ⟨e, T', E', h', e1, e2, e3⟩ := ih h1 s hw
    cases e with
    | normal => exact ⟨_, T', E', h', by simp only [evCode, e1], e2, e3⟩
    | ret => exact ⟨_, T', E', h', by simp only [evCode, e1], e2, e3⟩
    | exit j =>
      simp only [blockP] at e3
      by_cases e : j = id
      · rw [if_pos e] at e3
        exact ⟨_, T', E', h', by simp only [evCode, e1, if_pos e], e2, e3⟩
      · rw [if_neg e] at e3
        exact ⟨_, T', E', h', by simp only [evCode, e1, if_neg e], e2, e3⟩
  | loop a ih =>
    intro x hx T E h Q s hw
    simp only [tidyC, Option.map_eq_some_iff] at hx
    obtain ⟨y, h1, rfl⟩ := hx
    exact iter_sound (fun s hw => ih h1 s hw) s hw
  | _ => intro x hx; cases hx

/-! A function -/
def resP (E : Env) (h : AHeap) : List TRes → Option (List Value)
  | [] => some []
  | .t i :: l => (resP E h l).map (E i :: ·)
  | .cell i ag k :: l => match ldV ag k (E i) h, resP E h l with
    | some v, some vs => some (v :: vs)
    | _, _ => none
def envOf : List Value → Nat → Env
  | [], _ => fun _ => undef
  | v :: l, i => upd (envOf l (i + 1)) i v
def doneP (res : List TRes) (R : Value → AHeap → Prop) (_ : Tag R := ⟨⟩) : Wish := fun e E h =>
  match e with
  | .exit _ => False
  | _ => oneP (resP E h res) fun vs => R (tupled vs) h

theorem res_T {nt : Nat} {T : TS} {E : Env} {h : AHeap} (s : Sees2 nt T E) : ∀ {l : List ResultVar} {m : List TRes} {vs : List Value}, tidyR P l = some m → resP E h m = some vs → evRes P T h l = some vs
  | [], m, vs, hm, hv => by cases hm; exact hv
  | .tmp i :: l, m, vs, hm, hv => by
    simp only [tidyR, Option.map_eq_some_iff] at hm
    obtain ⟨m', h1, rfl⟩ := hm
    simp only [resP, Option.map_eq_some_iff] at hv
    obtain ⟨vs', h2, rfl⟩ := hv
    simp only [evRes, res_T s h1 h2, s.2 i]
  | .cell i t :: l, m, vs, hm, hv => by
    simp only [tidyR] at hm
    split at hm
    · rename_i ag k m' h1 h2
      cases hm
      simp only [resP] at hv
      split at hv
      · rename_i v vs' h3 h4
        cases hv
        simp only [evRes, res_T s h2 h4, s.2 i, aLoad_V h1, h3]
      · cases hv
    · cases hm

theorem ofArgs_sees : ∀ (l : List Value) (i : Nat) (T : TS) (E0 : Env), i + l.length ≤ T.n → (∀ j, T.get j = E0 j) →
    (TS.ofArgs T.n l i T).n = T.n ∧ ∀ j, (TS.ofArgs T.n l i T).get j = if i ≤ j ∧ j < i + l.length then (l[j - i]?).getD undef else E0 j
  | [], i, T, E0, _, h => ⟨rfl, fun j => by
      simp only [TS.ofArgs, List.length_nil]
      rw [if_neg (by omega), h j]⟩
  | v :: l, i, T, E0, hl, h => by
    simp only [List.length_cons] at hl
    have ih := ofArgs_sees l (i + 1) (T.set i v) (fun j => if j = i then v else E0 j) (by rw [TS.n_set]; omega) (fun j => by
      rw [TS.get_set, h j]
      by_cases e : j = i
      · rw [if_pos ⟨e, by omega⟩, if_pos e]
      · rw [if_neg (fun x => e x.1), if_neg e])
    rw [TS.n_set] at ih
    simp only [TS.ofArgs]
    refine ⟨ih.1, fun j => ?_⟩
    rw [ih.2 j]
    by_cases e : j = i
    · subst e
      rw [if_neg (by omega), if_pos rfl, if_pos (by simp)]
      simp
    · by_cases hj : i + 1 ≤ j ∧ j < i + 1 + l.length
      · rw [if_pos hj, if_pos (by simp; omega)]
        have : j - i = (j - (i + 1)) + 1 := by omega
        rw [this, List.getElem?_cons_succ]
      · rw [if_neg hj, if_neg e, if_neg (by simp; omega)]

theorem envOf_get : ∀ (l : List Value) (i j : Nat), envOf l i j = if i ≤ j ∧ j < i + l.length then (l[j - i]?).getD undef else undef
  | [], i, j => by simp only [envOf, List.length_nil]; rw [if_neg (by omega)]
  | v :: l, i, j => by
    simp only [envOf, upd]
    by_cases e : j = i
    · subst e; rw [if_pos rfl, if_pos (by simp)]; simp
    · rw [if_neg e, envOf_get l (i + 1) j]
      by_cases hj : i + 1 ≤ j ∧ j < i + 1 + l.length
      · rw [if_pos hj, if_pos (by simp; omega)]
        have : j - i = (j - (i + 1)) + 1 := by omega
        rw [this, List.getElem?_cons_succ]
      · rw [if_neg hj, if_neg (by simp; omega)]

theorem init_sees {args : List Value} {nt : Nat} (h : args.length ≤ nt) : Sees2 nt (TS.init args nt) (envOf args 0) := by
  have hm : max args.length nt = nt := by omega
  unfold TS.init
  rw [hm]
  have := ofArgs_sees args 0 ⟨.leaf, nt⟩ (fun _ => undef) (by simpa using h) (fun j => by simp [TS.get, Tr.get])
  refine ⟨this.1, fun j => ?_⟩
  rw [this.2 j, envOf_get]

/-- **a call does what clean code must do** -/
theorem call_of {P : Program} {n d f : Nat} {F : TFn} {args : List Value} {h : AHeap} {R : Value → AHeap → Prop} (hF : tidyF P f = some F) (hl : args.length ≤ F.nt)
    (hw : wS (aCall P n d) n F.body (envOf args 0) h (doneP F.res R)) : ∃ v h', aCall P n (d + 1) f args h = some (v, h') ∧ R v h' := by
  unfold tidyF at hF
  split at hF
  · rename_i fn hfn
    split at hF
    · rename_i c hc
      split at hF
      · cases hF
      · rename_i hname
        split at hF
        · rename_i b r h1 h2
          cases hF
          simp only at hl hw
          obtain ⟨e, T', E', h', e1, e2, e3⟩ := wS_sound h1 (init_sees hl) hw
          simp only [aCall, hfn, hc, if_neg hname, e1]
          cases e with
          | exit j => exact e3.elim
          | normal =>
            obtain ⟨vs, h3, h4⟩ := oneP_inv e3
            exact ⟨_, _, by simp only [res_T e2 h2 h3], h4⟩
          | ret =>
            obtain ⟨vs, h3, h4⟩ := oneP_inv e3
            exact ⟨_, _, by simp only [res_T e2 h2 h3], h4⟩
        · cases hF
    · cases hF
  · cases hF

end Go.Ab
