/- Steps of clean code as rewriting rules; loops; what a slice reads as; what is kept. -/
import Derived.Test.YtapmpenkceomdaaAb22
namespace Go.Ab
variable {C : Callee'} {E : Env} {h : AHeap} {k : Value → AHeap → Prop}

def fnv (f : Nat) : TO := .c (.func (.func f) ⟨[]⟩ ⟨[]⟩)

theorem upd_apply (E : Env) (i j : Nat) (v : Value) : upd E i v j = if j = i then v else E j := rfl
theorem updO_some (i : Nat) (v : Value) : updO E (some i) v = upd E i v := rfl
theorem updO_none (v : Value) : updO E none v = E := rfl
theorem ev_t (i : Nat) : TO.ev E (.t i) = E i := rfl
theorem ev_c (v : Value) : TO.ev E (.c v) = v := rfl
theorem evs_nil : TO.evs E [] = [] := rfl
theorem evs_cons (x : TO) (l : List TO) : TO.evs E (x :: l) = x.ev E :: TO.evs E l := rfl
theorem evo_none : TO.evo E none = none := rfl
theorem evo_some (x : TO) : TO.evo E (some x) = some (x.ev E) := rfl
theorem evsP_nil : evsP E [] = [] := rfl
theorem evsP_cons (a b : Nat) (x : TO) (l : List (Nat × Nat × TO)) : evsP E ((a, b, x) :: l) = (a, b, x.ev E) :: evsP E l := rfl
theorem evsQ_nil (s : Nat) : evsQ E s [] = [] := rfl
theorem evsQ_cons (s i : Nat) (x : TO) (l : List (Nat × TO)) : evsQ E s ((i, x) :: l) = (i * s, s, x.ev E) :: evsQ E s l := rfl

theorem s_mv (x : TO) : stepOp C (.mv x) E h k = k (x.ev E) h := rfl
theorem s_pick (c a b : TO) : stepOp C (.pick c a b) E h k = oneP (pickV (c.ev E) (a.ev E) (b.ev E)) fun v => k v h := rfl
theorem s_build (z : List Value) (ps : List (Nat × Nat × TO)) : stepOp C (.build z ps) E h k = oneP (fillV z (evsP E ps)) fun l => k (.agg ⟨l⟩) h := by
  show oneP ((fillV z (evsP E ps)).map fun l => Value.agg ⟨l⟩) _ = _
  cases fillV z (evsP E ps) <;> rfl
theorem s_nilc (x : TO) : stepOp C (.nilc x) E h k = oneP (nilcV (x.ev E)) fun v => k v h := rfl
theorem s_bin (op : BinOp) (q : Nat) (x y : TO) : stepOp C (.bin op q x y) E h k = oneP (binV op q (x.ev E) (y.ev E)) fun v => k v h := rfl
theorem s_un (op : UnOp) (x : TO) : stepOp C (.un op x) E h k = oneP (aUn op (x.ev E)) fun v => k v h := rfl
theorem s_mkf (fn : Fn) (a b : List TO) : stepOp C (.mkf fn a b) E h k = k (.func fn ⟨TO.evs E a⟩ ⟨TO.evs E b⟩) h := rfl
theorem s_faddr (off : Nat) (x : TO) : stepOp C (.faddr off x) E h k = oneP (faddrV off (x.ev E)) fun v => k v h := rfl
theorem s_fld (ag : Bool) (off n : Nat) (x : TO) : stepOp C (.fld ag off n x) E h k = oneP (fldV ag off n (x.ev E)) fun v => k v h := rfl
theorem s_iaddrS (s : Nat) (x i : TO) : stepOp C (.iaddrS s x i) E h k = oneP (iaddrSV s (x.ev E) (i.ev E)) fun v => k v h := rfl
theorem s_iaddrA (n s : Nat) (x i : TO) : stepOp C (.iaddrA n s x i) E h k = oneP (iaddrAV n s (x.ev E) (i.ev E)) fun v => k v h := rfl
theorem s_idxT (x i : TO) : stepOp C (.idxT x i) E h k = oneP (idxTV (x.ev E) (i.ev E)) fun v => k v h := rfl
theorem s_idxA (n s : Nat) (ag : Bool) (m : Nat) (x i : TO) : stepOp C (.idxA n s ag m x i) E h k = oneP (idxAV n s ag m (x.ev E) (i.ev E)) fun v => k v h := rfl
theorem s_ext (x : TO) (i : Nat) : stepOp C (.ext x i) E h k = oneP (extV (x.ev E) i) fun v => k v h := rfl
theorem s_conv (j : IntKind) (x : TO) : stepOp C (.conv j x) E h k = oneP (convV j (x.ev E)) fun v => k v h := rfl
theorem s_convT (x : TO) : stepOp C (.convT x) E h k = oneP (convTV (x.ev E)) fun v => k v h := rfl
theorem s_lenT (x : TO) : stepOp C (.lenT x) E h k = oneP (lenTV (x.ev E)) fun v => k v h := rfl
theorem s_lenS (x : TO) : stepOp C (.lenS x) E h k = oneP (lenSV (x.ev E)) fun v => k v h := rfl
theorem s_lenA (n : Nat) (x : TO) : stepOp C (.lenA n x) E h k = k (.int .i64 n) h := rfl
theorem s_mx (l : List TO) : stepOp C (.mx l) E h k = oneP (mxV (TO.evs E l)) fun v => k v h := rfl
theorem s_mn (l : List TO) : stepOp C (.mn l) E h k = oneP (mnV (TO.evs E l)) fun v => k v h := rfl
theorem s_load (ag : Bool) (n : Nat) (x : TO) : stepOp C (.load ag n x) E h k = oneP (ldV ag n (x.ev E) h) fun v => k v h := rfl
theorem s_sliceT (x : TO) (lo hi : Option TO) : stepOp C (.sliceT x lo hi) E h k = oneP (sliceTV (x.ev E) (TO.evo E lo) (TO.evo E hi)) fun v => k v h := rfl
theorem s_sliceS (s : Nat) (x : TO) (lo hi mx : Option TO) : stepOp C (.sliceS s x lo hi mx) E h k = oneP (sliceSV s (x.ev E) (TO.evo E lo) (TO.evo E hi) (TO.evo E mx) h) fun v => k v h := rfl
theorem s_b2t (x : TO) : stepOp C (.b2t x) E h k = oneP (b2tV (x.ev E) h) fun v => k v h := rfl
theorem s_alloc (z : List Value) (s : Nat) : stepOp C (.alloc z s) E h k = k (.pointer (some ⟨h.next, 0, none⟩)) (h.alloc ⟨z, s, 0, none⟩) := rfl
theorem s_box (s : Nat) (x : TO) : stepOp C (.box s x) E h k = k (.pointer (some ⟨h.next, 0, none⟩)) (h.alloc ⟨(x.ev E).cells.toList, s, 0, none⟩) := rfl
theorem s_bslice (z : List Value) (s len : Nat) (ps : List (Nat × TO)) : stepOp C (.bslice z s len ps) E h k = twoP (bsliceV z s len (evsQ E s ps) h.next) fun v b => k v (h.alloc b) := rfl
theorem s_mslice (z : List Value) (s b : Nat) (l c : TO) : stepOp C (.mslice z s b l c) E h k = twoP (msliceV z s b (l.ev E) (c.ev E) h.next) fun v b => k v (h.alloc b) := rfl
theorem s_t2b (x : TO) : stepOp C (.t2b x) E h k = twoP (t2bV (x.ev E) h.next) fun v b => k v (h.alloc b) := rfl
theorem s_store (n : Nat) (a v : TO) : stepOp C (.store n a v) E h k = oneP (stV n (a.ev E) (v.ev E) h) fun h' => k undef h' := by
  show twoP ((stV n (a.ev E) (v.ev E) h).map fun h' => (undef, h')) k = _
  cases stV n (a.ev E) (v.ev E) h <;> rfl
theorem s_append (s b : Nat) (x y : TO) : stepOp C (.append s b x y) E h k = twoP (appendV s b (x.ev E) (y.ev E) h) fun v h' => k v h' := rfl
theorem s_clear (z : List Value) (s : Nat) (x : TO) : stepOp C (.clear z s x) E h k = twoP (clearV z s (x.ev E) h) fun v h' => k v h' := rfl
theorem s_call (f : TO) (l : List TO) : stepOp C (.call f l) E h k = twoP (callV C (f.ev E) (TO.evs E l) h) fun v h' => k v h' := rfl
theorem s_callf (f : Nat) (l : List TO) : stepOp C (.call (fnv f) l) E h k = twoP (C f (TO.evs E l) h) fun v h' => k v h' := by
  show twoP (C f (([] : List Value) ++ TO.evs E l ++ []) h) k = _
  rw [List.append_nil, List.nil_append]

theorem s_callt (i : Nat) (l : List TO) : stepOp C (.call (.t i) l) E h k = twoP (callV C (E i) (TO.evs E l) h) fun v h' => k v h' := rfl
theorem callV_fn (f : Nat) (a c l : List Value) : callV C (.func (.func f) ⟨a⟩ ⟨c⟩) l h = C f (a ++ l ++ c) h := rfl
theorem w_nil (Q : Env → AHeap → Prop) : wOps C [] E h Q = Q E h := rfl
theorem w_cons (d : Option Nat) (o : TOp) (r : List SOp) (Q : Env → AHeap → Prop) :
    wOps C (⟨d, o, none⟩ :: r) E h Q = stepOp C o E h fun v h' => wOps C r (updO E d v) h' Q := rfl
theorem w_consG (d : Option Nat) (o : TOp) (t : Nat) (b : Bool) (r : List SOp) (Q : Env → AHeap → Prop) :
    wOps C (⟨d, o, some (t, b)⟩ :: r) E h Q = gate (some (t, b)) E (stepOp C o E h fun v h' => wOps C r (updO E d v) h' Q) (wOps C r (updO E d undef) h Q) := rfl
/-- a guard whose slot is known -/
def gateV (v : Value) (b : Bool) (yes no : Prop) (_ : Tag yes := ⟨⟩) (_ : Tag no := ⟨⟩) : Prop :=
  match v with
  | .bool c => if c = b then yes else no
  | _ => no
theorem gateV_undef (b : Bool) (yes no : Prop) : gateV undef b yes no = no := rfl
theorem gate_V (t : Nat) (b : Bool) (yes no : Prop) : gate (some (t, b)) E yes no = gateV (E t) b yes no := rfl
theorem gateV_tt (yes no : Prop) : gateV (.bool true) true yes no = yes := rfl
theorem gateV_tf (yes no : Prop) : gateV (.bool true) false yes no = no := rfl
theorem gateV_ft (yes no : Prop) : gateV (.bool false) true yes no = no := rfl
theorem gateV_ff (yes no : Prop) : gateV (.bool false) false yes no = yes := rfl
theorem condP_true (a b : Prop) : condP (.bool true) a b = a := rfl
theorem condP_false (a b : Prop) : condP (.bool false) a b = b := rfl

section
variable {n : Nat} {Q : Wish}
theorem w_skip : wS C n .skip E h Q = Q .normal E h := rfl
theorem w_ops (l : List SOp) : wS C n (.ops l) E h Q = wOps C l E h (Q .normal) := rfl
theorem w_draw (l : List (SOp × List Nat)) : wS C n (.draw l) E h Q = wDraw C l 0 E h [] (Q .normal) := rfl
theorem w_seq (a b : SC) : wS C n (.seq a b) E h Q = wS C n a E h (thenP (fun E' h' => wS C n b E' h' Q) Q) := rfl
theorem w_cond (c : TO) (a b : SC) : wS C n (.cond c a b) E h Q = condP (c.ev E) (wS C n a E h Q) (wS C n b E h Q) := rfl
theorem w_block (i : Nat) (a : SC) : wS C n (.block i a) E h Q = wS C n a E h (blockP i Q) := rfl
theorem w_exit (i : Nat) : wS C n (.exit i) E h Q = Q (.exit i) E h := rfl
theorem w_ret : wS C n .ret E h Q = Q .ret E h := rfl
end

theorem then_normal (R : Env → AHeap → Prop) (Q : Wish) : (thenP R Q) .normal E h = R E h := rfl
theorem then_exit (R : Env → AHeap → Prop) (Q : Wish) (j : Nat) : (thenP R Q) (.exit j) E h = Q (.exit j) E h := rfl
theorem then_ret (R : Env → AHeap → Prop) (Q : Wish) : (thenP R Q) .ret E h = Q .ret E h := rfl
theorem block_normal (i : Nat) (Q : Wish) : (blockP i Q) .normal E h = Q .normal E h := rfl
theorem block_exit (i : Nat) (Q : Wish) (j : Nat) : (blockP i Q) (.exit j) E h = if j = i then Q .normal E h else Q (.exit j) E h := rfl
theorem block_ret (i : Nat) (Q : Wish) : (blockP i Q) .ret E h = Q .ret E h := rfl
theorem done_normal (r : List TRes) (R : Value → AHeap → Prop) : (doneP r R) .normal E h = oneP (resP E h r) fun vs => R (tupled vs) h := rfl
theorem done_ret (r : List TRes) (R : Value → AHeap → Prop) : (doneP r R) .ret E h = oneP (resP E h r) fun vs => R (tupled vs) h := rfl
theorem res_nil : resP E h [] = some [] := rfl
theorem res_t (i : Nat) (l : List TRes) : resP E h (.t i :: l) = (resP E h l).map (E i :: ·) := rfl
theorem res_cell (i : Nat) (ag : Bool) (m : Nat) (l : List TRes) : resP E h (.cell i ag m :: l) = match ldV ag m (E i) h, resP E h l with
    | some v, some vs => some (v :: vs)
    | _, _ => none := rfl
theorem tupled_one (v : Value) : tupled [v] = v := rfl
theorem tupled_two (v u : Value) (l : List Value) : tupled (v :: u :: l) = .tuple ⟨v :: u :: l⟩ := rfl
theorem env_nil (i : Nat) : envOf [] i = fun _ => undef := rfl
theorem env_cons (v : Value) (l : List Value) (i : Nat) : envOf (v :: l) i = upd (envOf l (i + 1)) i v := rfl

/-! Wishes that follow -/
theorem oneP_mono {α : Type} {r : Option α} {k k' : α → Prop} (hk : ∀ a, k a → k' a) (hr : oneP r k) : oneP r k' := by
  cases r with
  | none => exact hr
  | some a => exact hk _ hr
theorem twoP_mono {α β : Type} {r : Option (α × β)} {k k' : α → β → Prop} (hk : ∀ a b, k a b → k' a b) (hr : twoP r k) : twoP r k' := by
  rcases r with _ | ⟨a, b⟩
  · exact hr
  · exact hk _ _ hr
theorem stepOp_mono {o : TOp} {k k' : Value → AHeap → Prop} (hk : ∀ v h, k v h → k' v h) (hs : stepOp C o E h k) : stepOp C o E h k' := by
  unfold stepOp at hs ⊢
  split
  · rename_i e; rw [e] at hs; exact oneP_mono (fun v => hk v h) hs
  · rename_i e; rw [e] at hs; exact oneP_mono (fun v => hk v h) hs
  · rename_i e; rw [e] at hs; exact twoP_mono (fun v b => hk v _) hs
  · rename_i e0 e1 e2
    split at hs
    · exact absurd ‹_› e0
    · exact absurd ‹_› e1
    · exact absurd ‹_› e2
    · exact twoP_mono hk hs
theorem gate_mono {g : Option (Nat × Bool)} {y n y' n' : Prop} (h1 : y → y') (h2 : n → n') (hg : gate g E y n) : gate g E y' n' := by
  rcases g with _ | ⟨t, b⟩
  · exact h1 hg
  · rw [gate_V] at hg ⊢
    unfold gateV at hg ⊢
    cases hv : E t <;> rw [hv] at hg <;> simp only at hg ⊢ <;> try exact h2 hg
    rename_i c
    by_cases e : c = b
    · rw [if_pos e] at hg ⊢; exact h1 hg
    · rw [if_neg e] at hg ⊢; exact h2 hg
theorem wOps_mono {Q Q' : Env → AHeap → Prop} (hq : ∀ E h, Q E h → Q' E h) : ∀ {l : List SOp} {E : Env} {h : AHeap}, wOps C l E h Q → wOps C l E h Q' := by
  intro l
  induction l with
  | nil => intro E h hw; exact hq _ _ hw
  | cons o l ih =>
    intro E h hw
    simp only [wOps] at hw ⊢
    exact gate_mono (fun hs => stepOp_mono (fun v h' hk => ih hk) hs) ih hw
theorem wDraw_mono {Q Q' : Env → AHeap → Prop} (hq : ∀ E h, Q E h → Q' E h) : ∀ {l : List (SOp × List Nat)} {i : Nat} {E : Env} {h : AHeap} {g : List LE}, wDraw C l i E h g Q → wDraw C l i E h g Q' := by
  intro l
  induction l with
  | nil => intro i E h g hw; exact hq _ _ hw
  | cons o l ih =>
    intro i E h g hw
    obtain ⟨o, un⟩ := o
    simp only [wDraw] at hw ⊢
    refine gate_mono (fun hs => ?_) ih hw
    split
    · rename_i e; rw [e] at hs; exact oneP_mono (fun v hk => ih hk) hs
    · rename_i e; rw [e] at hs; exact oneP_mono (fun v hk => ⟨hk.1, ih hk.2⟩) hs
    · rename_i e; rw [e] at hs; exact twoP_mono (fun v b hk => ih hk) hs
    · rename_i e0 e1 e2
      split at hs
      · exact absurd ‹_› e0
      · exact absurd ‹_› e1
      · exact absurd ‹_› e2
      · exact ⟨hs.1, hs.2.1, twoP_mono (fun v b hk => ⟨hk.1, ih hk.2⟩) hs.2.2⟩
theorem then_mono {R R' : Env → AHeap → Prop} {Q Q' : Wish} (h1 : ∀ E h, R E h → R' E h) (h2 : ∀ e E h, Q e E h → Q' e E h) (e : AExit) (E : Env) (h : AHeap) (x : (thenP R Q) e E h) : (thenP R' Q') e E h := by
  cases e with
  | normal => exact h1 _ _ x
  | exit j => exact h2 _ _ _ x
  | ret => exact h2 _ _ _ x
theorem wIter_mono {f : Env → AHeap → Wish → Prop} (hf : ∀ {E h} {Q Q' : Wish}, (∀ e E h, Q e E h → Q' e E h) → f E h Q → f E h Q') {Q Q' : Wish} (hq : ∀ e E h, Q e E h → Q' e E h) :
    ∀ {k : Nat} {E : Env} {h : AHeap}, wIter f k E h Q → wIter f k E h Q' := by
  intro k
  induction k with
  | zero => intro E h hw; exact hw
  | succ k ih => intro E h hw; exact hf (then_mono (fun E h x => ih x) hq) hw
theorem wS_mono {n : Nat} : ∀ {c : SC} {E : Env} {h : AHeap} {Q Q' : Wish}, (∀ e E h, Q e E h → Q' e E h) → wS C n c E h Q → wS C n c E h Q' := by
  intro c
  induction c with
  | skip => intro E h Q Q' hq hw; exact hq _ _ _ hw
  | ops l => intro E h Q Q' hq hw; exact wOps_mono (fun E h => hq _ E h) hw
  | draw l => intro E h Q Q' hq hw; exact wDraw_mono (fun E h => hq _ E h) hw
  | seq a b iha ihb => intro E h Q Q' hq hw; exact iha (then_mono (fun E h x => ihb hq x) hq) hw
  | cond c a b iha ihb =>
    intro E h Q Q' hq hw
    simp only [wS, condP] at hw ⊢
    split at hw
    · rename_i v hv
      split at hw
      · rename_i e; rw [if_pos e]; exact iha hq hw
      · rename_i e; rw [if_neg e]; exact ihb hq hw
    · exact hw.elim
  | block i a ih =>
    intro E h Q Q' hq hw
    refine ih (fun e E h x => ?_) hw
    cases e with
    | normal => exact hq _ _ _ x
    | ret => exact hq _ _ _ x
    | exit j =>
      simp only [blockP] at x ⊢
      split at x
      · rename_i e; rw [if_pos e]; exact hq _ _ _ x
      · rename_i e; rw [if_neg e]; exact hq _ _ _ x
  | loop a ih => intro E h Q Q' hq hw; exact wIter_mono (f := fun E h Q => wS C n a E h Q) (fun hq hw => ih hq hw) hq hw
  | exit i => intro E h Q Q' hq hw; exact hq _ _ _ hw
  | ret => intro E h Q Q' hq hw; exact hq _ _ _ hw

/-- one piece, then the other -/
theorem w_cut {n : Nat} {a b : SC} {Q : Wish} (R : Env → AHeap → Prop) (h1 : wS C n a E h (thenP R Q)) (h2 : ∀ E' h', R E' h' → wS C n b E' h' Q) : wS C n (.seq a b) E h Q :=
  show wS C n a E h (thenP (fun E' h' => wS C n b E' h' Q) Q) from wS_mono (then_mono h2 fun _ _ _ x => x) h1

/-- a loop: 'I m' holds with at most m rounds ahead -/
def roundP (I : Nat → Env → AHeap → Prop) (m : Nat) (Q : Wish) (_ : Tag Q := ⟨⟩) (_ : Tag I := ⟨⟩) : Wish := fun e E h =>
  match e with
  | .normal => ∃ j, j < m ∧ I j E h
  | .exit i => Q (.exit i) E h
  | .ret => Q .ret E h
theorem round_normal (I : Nat → Env → AHeap → Prop) (m : Nat) (Q : Wish) : (roundP I m Q) .normal E h = ∃ j, j < m ∧ I j E h := rfl
theorem round_exit (I : Nat → Env → AHeap → Prop) (m : Nat) (Q : Wish) (i : Nat) : (roundP I m Q) (.exit i) E h = Q (.exit i) E h := rfl
theorem round_ret (I : Nat → Env → AHeap → Prop) (m : Nat) (Q : Wish) : (roundP I m Q) .ret E h = Q .ret E h := rfl
theorem wIter_inv {n N : Nat} {a : SC} {Q : Wish} (I : Nat → Env → AHeap → Prop) (step : ∀ m E h, I m E h → wS C N a E h (roundP I m Q)) :
    ∀ {m : Nat} {E : Env} {h : AHeap}, m < n → I m E h → wIter (fun E h Q => wS C N a E h Q) n E h Q := by
  induction n with
  | zero => intro m E h hm; omega
  | succ n ih =>
    intro m E h hm hi
    refine wS_mono (fun e E' h' x => ?_) (step m E h hi)
    cases e with
    | normal =>
      obtain ⟨j, hj, x⟩ := x
      exact ih (by omega) x
    | exit i => exact x
    | ret => exact x
theorem w_loop {n : Nat} {a : SC} {Q : Wish} (I : Nat → Env → AHeap → Prop) (m : Nat) (hm : m < n) (h0 : I m E h) (step : ∀ m E h, I m E h → wS C n a E h (roundP I m Q)) : wS C n (.loop a) E h Q :=
  wIter_inv I step hm h0

/-! Values -/
theorem b_int (op : BinOp) (q : Nat) (j : IntKind) (a b : Int) (h1 : op ≠ .shl) (h2 : op ≠ .shr) : binV op q (.int j a) (.int j b) = aInt op j a b := by
  cases op <;> first | (exact absurd rfl h1) | (exact absurd rfl h2) | simp [binV]
theorem b_add (q : Nat) (j : IntKind) (a b : Int) : binV .add q (.int j a) (.int j b) = some (.int j (j.wrap (a + b))) := by simp [binV, aInt]
theorem b_sub (q : Nat) (j : IntKind) (a b : Int) : binV .sub q (.int j a) (.int j b) = some (.int j (j.wrap (a - b))) := by simp [binV, aInt]
theorem b_mul (q : Nat) (j : IntKind) (a b : Int) : binV .mul q (.int j a) (.int j b) = some (.int j (j.wrap (a * b))) := by simp [binV, aInt]
theorem b_quo (q : Nat) (j : IntKind) (a b : Int) : binV .quo q (.int j a) (.int j b) = if b = 0 then none else some (.int j (j.wrap (a.tdiv b))) := by simp [binV, aInt]
theorem b_rem (q : Nat) (j : IntKind) (a b : Int) : binV .rem q (.int j a) (.int j b) = if b = 0 then none else some (.int j (a.tmod b)) := by simp [binV, aInt]
theorem b_eql (q : Nat) (j : IntKind) (a b : Int) : binV .eql q (.int j a) (.int j b) = some (.bool (decide (a = b))) := by simp [binV, aInt]; rfl
theorem b_neq (q : Nat) (j : IntKind) (a b : Int) : binV .neq q (.int j a) (.int j b) = some (.bool (decide (a ≠ b))) := by
  simp only [binV, aInt, if_true, Option.some.injEq, Value.bool.injEq]
  by_cases e : a = b <;> simp [e]
theorem b_lss (q : Nat) (j : IntKind) (a b : Int) : binV .lss q (.int j a) (.int j b) = some (.bool (decide (a < b))) := by simp [binV, aInt]
theorem b_leq (q : Nat) (j : IntKind) (a b : Int) : binV .leq q (.int j a) (.int j b) = some (.bool (decide (a ≤ b))) := by simp [binV, aInt]
theorem b_gtr (q : Nat) (j : IntKind) (a b : Int) : binV .gtr q (.int j a) (.int j b) = some (.bool (decide (b < a))) := by simp [binV, aInt]
theorem b_geq (q : Nat) (j : IntKind) (a b : Int) : binV .geq q (.int j a) (.int j b) = some (.bool (decide (b ≤ a))) := by simp [binV, aInt]
theorem b_shl (q : Nat) (j i : IntKind) (a b : Int) : binV .shl q (.int j a) (.int i b) = if b < 0 then none else some (.int j (j.wrap (a * 2 ^ (min b.toNat j.bits)))) := by simp [binV]
theorem b_shr (q : Nat) (j i : IntKind) (a b : Int) : binV .shr q (.int j a) (.int i b) = if b < 0 then none else some (.int j (a.fdiv (2 ^ (min b.toNat j.bits)))) := by simp [binV]
theorem b_beq (a b : Bool) : binV .eql 1 (.bool a) (.bool b) = some (.bool (a == b)) := by simp [binV, isEq, aEqK]
theorem b_bne (a b : Bool) : binV .neq 1 (.bool a) (.bool b) = some (.bool (a != b)) := by simp [binV, isEq, aEqK, bne]
theorem b_seq (a b : ByteArray) : binV .eql 0 (.string a) (.string b) = some (.bool (a.toList == b.toList)) := by simp [binV]
theorem b_sne (a b : ByteArray) : binV .neq 0 (.string a) (.string b) = some (.bool !(a.toList == b.toList)) := by simp [binV]
theorem pick_b (c : Bool) (a b : Value) : pickV (.bool c) a b = some (if c then a else b) := rfl
theorem un_not (b : Bool) : aUn .not (.bool b) = some (.bool !b) := rfl
theorem conv_int (j i : IntKind) (a : Int) : convV j (.int i a) = some (.int j (j.wrap a)) := rfl
theorem mx_two (a b : Int) : mxV [.int .i64 a, .int .i64 b] = some (.int .i64 (max a b)) := by
  show some (Value.int .i64 (if b > a then b else a)) = _
  congr 2; split <;> omega
theorem mn_two (a b : Int) : mnV [.int .i64 a, .int .i64 b] = some (.int .i64 (min a b)) := by
  show some (Value.int .i64 (if b < a then b else a)) = _
  congr 2; split <;> omega
theorem nilc_p (a : Addr) : nilcV (.pointer (some a)) = some (.pointer (some a)) := rfl
theorem faddr_p (off m o : Nat) : faddrV off (.pointer (some ⟨m, o, none⟩)) = some (.pointer (some ⟨m, o + off, none⟩)) := rfl
theorem len_s (a : Option Addr) (l c : Nat) : lenSV (.slice a l c) = some (.int .i64 l) := rfl
theorem len_t (s : ByteArray) : lenTV (.string s) = some (.int .i64 s.size) := rfl
theorem ld_one (m o j : Nat) : ldV false j (.pointer (some ⟨m, o, none⟩)) h = h.load1 m o := rfl
theorem ld_agg (m o j : Nat) : ldV true j (.pointer (some ⟨m, o, none⟩)) h = (h.loadN m o j).map fun l => .agg ⟨l⟩ := rfl
theorem st_p (m o j : Nat) (v : Value) : stV j (.pointer (some ⟨m, o, none⟩)) v h = if v.cells.size = j then h.storeN m o v.cells.toList else none := rfl
theorem ext_t (l : List Value) (i : Nat) : extV (.tuple ⟨l⟩) i = l[i]? := by simp [extV]

theorem alloc_next (b : ABlk) : (h.alloc b).next = h.next + 1 := rfl
theorem get_alloc (m : Nat) (b : ABlk) : (h.alloc b).get m = if m = h.next then b else h.get m := AHeap.get_alloc h m b
theorem upd_next (m : Nat) (b : ABlk) : (h.upd m b).next = h.next := rfl
theorem kill_none : h.kill none = h := rfl

/-- a block that is alive is looked at -/
theorem load1_of {m o : Nat} {b : ABlk} (hb : h.get m = b) (hs : b.st < 2) : h.load1 m o = b.cells[o]? := by
  unfold AHeap.load1
  rw [hb]
  simp [hs]
theorem loadN_of {m o j : Nat} {b : ABlk} (hb : h.get m = b) (hs : b.st < 2) (hl : o + j ≤ b.cells.length) : h.loadN m o j = some ((b.cells.drop o).take j) := by
  unfold AHeap.loadN
  rw [hb]
  simp [hs, hl]

/-! What is kept: below 'lo', but for S -/
abbrev no : Nat → Prop := fun _ => False
abbrev one (p : Nat) : Nat → Prop := fun m => m = p
structure Ext (S : Nat → Prop) (lo : Nat) (h h' : AHeap) : Prop where
  next : h.next ≤ h'.next
  get : ∀ m, m < lo → ¬ S m → h'.get m = h.get m
theorem Ext.refl (S : Nat → Prop) (lo : Nat) (h : AHeap) : Ext S lo h h := ⟨Nat.le_refl _, fun _ _ _ => rfl⟩
theorem Ext.wk {S S' : Nat → Prop} {lo lo' : Nat} {h1 h2 : AHeap} (a : Ext S lo h1 h2) (hl : lo' ≤ lo) (hs : ∀ m, m < lo' → S m → S' m) : Ext S' lo' h1 h2 :=
  ⟨a.next, fun m hm hn => a.get m (by omega) fun x => hn (hs m hm x)⟩
theorem Ext.less {S : Nat → Prop} {lo lo' : Nat} {h1 h2 : AHeap} (a : Ext S lo h1 h2) (hl : lo' ≤ lo) : Ext S lo' h1 h2 := a.wk hl fun _ _ x => x
theorem Ext.trans {S : Nat → Prop} {lo lo' : Nat} {h1 h2 h3 : AHeap} (a : Ext S lo h1 h2) (b : Ext S lo' h2 h3) (hl : lo ≤ lo') : Ext S lo h1 h3 :=
  ⟨Nat.le_trans a.next b.next, fun m hm hn => by rw [b.get m (by omega) hn, a.get m hm hn]⟩
/-- what changes only what is not below 'lo', or in S -/
theorem Ext.then {S S' : Nat → Prop} {lo lo' : Nat} {h1 h2 h3 : AHeap} (a : Ext S lo h1 h2) (b : Ext S' lo' h2 h3) (hl : lo ≤ lo') (hs : ∀ m, m < lo → S' m → S m) : Ext S lo h1 h3 :=
  a.trans (b.wk hl hs) (Nat.le_refl _)
theorem Ext.alloc {S : Nat → Prop} {lo : Nat} {h h' : AHeap} (a : Ext S lo h h') (hl : lo ≤ h'.next) (b : ABlk) : Ext S lo h (h'.alloc b) :=
  ⟨Nat.le_succ_of_le a.next, fun m hm hn => by rw [get_alloc, if_neg (by omega), a.get m hm hn]⟩
theorem Ext.upd {S : Nat → Prop} {lo : Nat} {h h' : AHeap} (a : Ext S lo h h') {m : Nat} (hl : lo ≤ m ∨ S m) (b : ABlk) : Ext S lo h (h'.upd m b) :=
  ⟨a.next, fun j hj hn => by
    rw [AHeap.get_upd, if_neg, a.get j hj hn]
    rintro ⟨rfl, _⟩
    rcases hl with hl | hl
    · omega
    · exact hn hl⟩
theorem Ext.kill {S : Nat → Prop} {lo : Nat} {h h' : AHeap} (a : Ext S lo h h') {p : Option Nat} (hl : ∀ m, p = some m → lo ≤ m) : Ext S lo h (h'.kill p) := by
  cases p with
  | none => exact a
  | some m => exact a.upd (.inl (hl m rfl)) _
theorem Ext.new (S : Nat → Prop) (h : AHeap) (b : ABlk) : Ext S h.next h (h.alloc b) := (Ext.refl S h.next h).alloc (Nat.le_refl _) b

theorem get_dead {h : AHeap} {m : Nat} (hm : h.next ≤ m) : h.get m = deadBlk := by
  unfold AHeap.get
  rw [if_neg (by omega)]
theorem lt_next {h : AHeap} {m : Nat} (hs : (h.get m).st < 2) : m < h.next := by
  by_cases e : m < h.next
  · exact e
  · rw [get_dead (by omega)] at hs
    simp [deadBlk] at hs
/-- a store into a block that stands by itself -/
theorem store_of {h : AHeap} {m o : Nat} {cells : List Value} {sz : Nat} {v : Value} (hb : h.get m = ⟨cells, sz, 0, none⟩) (hc : isCell v = true) (ho : o < cells.length) :
    h.storeN m o [v] = some (h.upd m ⟨cells.set o v, sz, 0, none⟩) := by
  have e : splice cells o [v] = cells.set o v := by rw [← splice_cons ho, splice_nil]
  simp only [AHeap.storeN, hb, List.length_cons, List.length_nil, List.all_cons, List.all_nil, hc, kill_none, e, Bool.and_true, true_and, and_true]
  rw [if_pos (by omega)]
theorem get_upd_self {h : AHeap} {m : Nat} (b : ABlk) (hm : m < h.next) : (h.upd m b).get m = b := by rw [AHeap.get_upd, if_pos ⟨rfl, hm⟩]

set_option linter.defProp false in
/-- the rules of a run -/
def run := And.intro @w_skip (And.intro @w_ops (And.intro @w_seq (And.intro @w_cond (And.intro @w_block (And.intro @w_exit (And.intro @w_ret (And.intro @w_nil (And.intro @w_cons (And.intro @w_consG (And.intro @gate_V (And.intro @gateV_undef (And.intro @gateV_tt (And.intro @gateV_tf (And.intro @gateV_ft (And.intro @gateV_ff (And.intro @condP_true (And.intro @condP_false (And.intro @s_mv (And.intro @s_pick (And.intro @s_build (And.intro @s_nilc (And.intro @s_bin (And.intro @s_un (And.intro @s_mkf (And.intro @s_faddr (And.intro @s_fld (And.intro @s_iaddrS (And.intro @s_iaddrA (And.intro @s_idxT (And.intro @s_idxA (And.intro @s_ext (And.intro @s_conv (And.intro @s_convT (And.intro @s_lenT (And.intro @s_lenS (And.intro @s_lenA (And.intro @s_mx (And.intro @s_mn (And.intro @s_load (And.intro @s_sliceT (And.intro @s_sliceS (And.intro @s_b2t (And.intro @s_alloc (And.intro @s_box (And.intro @s_bslice (And.intro @s_mslice (And.intro @s_t2b (And.intro @s_store (And.intro @s_append (And.intro @s_clear (And.intro @s_callf (And.intro @ev_t (And.intro @ev_c (And.intro @evs_nil (And.intro @evs_cons (And.intro @evo_none (And.intro @evo_some (And.intro @evsP_nil (And.intro @evsP_cons (And.intro @evsQ_nil (And.intro @evsQ_cons (And.intro @upd_apply (And.intro @updO_some (And.intro @updO_none (And.intro @oneP_some (And.intro @twoP_some (And.intro @then_normal (And.intro @then_exit (And.intro @then_ret (And.intro @block_normal (And.intro @block_exit (And.intro @block_ret (And.intro @done_normal (And.intro @done_ret (And.intro @res_nil (And.intro @res_t (And.intro @res_cell (And.intro @tupled_one (And.intro @tupled_two (And.intro @env_nil (And.intro @env_cons (And.intro @b_eql (And.intro @b_neq (And.intro @b_lss (And.intro @b_leq (And.intro @b_gtr (And.intro @b_geq (And.intro @b_beq (And.intro @b_bne (And.intro @b_seq (And.intro @b_sne (And.intro @pick_b (And.intro @un_not (And.intro @mx_two (And.intro @mn_two (And.intro @nilc_p (And.intro @faddr_p (And.intro @len_s (And.intro @len_t (And.intro @ld_one (And.intro @ld_agg (And.intro @round_normal (And.intro @round_exit (And.intro @round_ret (And.intro @s_callt @callV_fn)))))))))))))))))))))))))))))))))))))))))))))))))))))))))))))))))))))))))))))))))))))))))))))))))))))))))

end Go.Ab
