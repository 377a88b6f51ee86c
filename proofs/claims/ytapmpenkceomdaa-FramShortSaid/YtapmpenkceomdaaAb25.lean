/- Regions that draw, as rewriting rules. -/
import Derived.Test.YtapmpenkceomdaaAb24
namespace Go.Ab
variable {C : Callee'} {E : Env} {h : AHeap} {i : Nat} {d : Option Nat} {un : List Nat} {r : List (SOp × List Nat)} {g : List LE} {Q : Env → AHeap → Prop}

theorem d_nil : wDraw C [] i E h g Q = Q E h := rfl
theorem d_guard (o : TOp) (t : Nat) (b : Bool) : wDraw C ((⟨d, o, some (t, b)⟩, un) :: r) i E h g Q = gateV (E t) b (wDraw C ((⟨d, o, none⟩, un) :: r) i E h g Q) (wDraw C r (i + 1) (updO E d undef) h g Q) := rfl
theorem d_mv (x : TO) : wDraw C ((⟨d, .mv x, none⟩, un) :: r) i E h g Q = wDraw C r (i + 1) (updO E d (x.ev E)) h g Q := rfl
theorem d_pick (c a b : TO) : wDraw C ((⟨d, .pick c a b, none⟩, un) :: r) i E h g Q = oneP (pickV (c.ev E) (a.ev E) (b.ev E)) fun v => wDraw C r (i + 1) (updO E d v) h g Q := rfl
theorem d_nilc (x : TO) : wDraw C ((⟨d, .nilc x, none⟩, un) :: r) i E h g Q = oneP (nilcV (x.ev E)) fun v => wDraw C r (i + 1) (updO E d v) h g Q := rfl
theorem d_bin (op : BinOp) (q : Nat) (x y : TO) : wDraw C ((⟨d, .bin op q x y, none⟩, un) :: r) i E h g Q = oneP (binV op q (x.ev E) (y.ev E)) fun v => wDraw C r (i + 1) (updO E d v) h g Q := rfl
theorem d_un (op : UnOp) (x : TO) : wDraw C ((⟨d, .un op x, none⟩, un) :: r) i E h g Q = oneP (aUn op (x.ev E)) fun v => wDraw C r (i + 1) (updO E d v) h g Q := rfl
theorem d_mkf (fn : Fn) (a b : List TO) : wDraw C ((⟨d, .mkf fn a b, none⟩, un) :: r) i E h g Q = wDraw C r (i + 1) (updO E d (.func fn ⟨TO.evs E a⟩ ⟨TO.evs E b⟩)) h g Q := rfl
theorem d_faddr (off : Nat) (x : TO) : wDraw C ((⟨d, .faddr off x, none⟩, un) :: r) i E h g Q = oneP (faddrV off (x.ev E)) fun v => wDraw C r (i + 1) (updO E d v) h g Q := rfl
theorem d_fld (ag : Bool) (off n : Nat) (x : TO) : wDraw C ((⟨d, .fld ag off n x, none⟩, un) :: r) i E h g Q = oneP (fldV ag off n (x.ev E)) fun v => wDraw C r (i + 1) (updO E d v) h g Q := rfl
theorem d_iaddrS (s : Nat) (x y : TO) : wDraw C ((⟨d, .iaddrS s x y, none⟩, un) :: r) i E h g Q = oneP (iaddrSV s (x.ev E) (y.ev E)) fun v => wDraw C r (i + 1) (updO E d v) h g Q := rfl
theorem d_iaddrA (n s : Nat) (x y : TO) : wDraw C ((⟨d, .iaddrA n s x y, none⟩, un) :: r) i E h g Q = oneP (iaddrAV n s (x.ev E) (y.ev E)) fun v => wDraw C r (i + 1) (updO E d v) h g Q := rfl
theorem d_idxT (x y : TO) : wDraw C ((⟨d, .idxT x y, none⟩, un) :: r) i E h g Q = oneP (idxTV (x.ev E) (y.ev E)) fun v => wDraw C r (i + 1) (updO E d v) h g Q := rfl
theorem d_idxA (n s : Nat) (ag : Bool) (m : Nat) (x y : TO) : wDraw C ((⟨d, .idxA n s ag m x y, none⟩, un) :: r) i E h g Q = oneP (idxAV n s ag m (x.ev E) (y.ev E)) fun v => wDraw C r (i + 1) (updO E d v) h g Q := rfl
theorem d_ext (x : TO) (j : Nat) : wDraw C ((⟨d, .ext x j, none⟩, un) :: r) i E h g Q = oneP (extV (x.ev E) j) fun v => wDraw C r (i + 1) (updO E d v) h g Q := rfl
theorem d_conv (j : IntKind) (x : TO) : wDraw C ((⟨d, .conv j x, none⟩, un) :: r) i E h g Q = oneP (convV j (x.ev E)) fun v => wDraw C r (i + 1) (updO E d v) h g Q := rfl
theorem d_convT (x : TO) : wDraw C ((⟨d, .convT x, none⟩, un) :: r) i E h g Q = oneP (convTV (x.ev E)) fun v => wDraw C r (i + 1) (updO E d v) h g Q := rfl
theorem d_lenT (x : TO) : wDraw C ((⟨d, .lenT x, none⟩, un) :: r) i E h g Q = oneP (lenTV (x.ev E)) fun v => wDraw C r (i + 1) (updO E d v) h g Q := rfl
theorem d_lenS (x : TO) : wDraw C ((⟨d, .lenS x, none⟩, un) :: r) i E h g Q = oneP (lenSV (x.ev E)) fun v => wDraw C r (i + 1) (updO E d v) h g Q := rfl
theorem d_lenA (n : Nat) (x : TO) : wDraw C ((⟨d, .lenA n x, none⟩, un) :: r) i E h g Q = wDraw C r (i + 1) (updO E d (.int .i64 n)) h g Q := rfl
theorem d_mx (l : List TO) : wDraw C ((⟨d, .mx l, none⟩, un) :: r) i E h g Q = oneP (mxV (TO.evs E l)) fun v => wDraw C r (i + 1) (updO E d v) h g Q := rfl
theorem d_mn (l : List TO) : wDraw C ((⟨d, .mn l, none⟩, un) :: r) i E h g Q = oneP (mnV (TO.evs E l)) fun v => wDraw C r (i + 1) (updO E d v) h g Q := rfl
theorem d_build (z : List Value) (ps : List (Nat × Nat × TO)) : wDraw C ((⟨d, .build z ps, none⟩, un) :: r) i E h g Q = oneP ((fillV z (evsP E ps)).map fun l => .agg ⟨l⟩) fun v => wDraw C r (i + 1) (updO E d v) h g Q := rfl
theorem d_load (ag : Bool) (n : Nat) (x : TO) : wDraw C ((⟨d, .load ag n x, none⟩, un) :: r) i E h g Q = oneP (ldV ag n (x.ev E) (maskH h (hidsT un g))) fun v => lookOkT un E (.load ag n x) v g ∧ wDraw C r (i + 1) (updO E d v) h (⟨i, 1, 0, h, 0, E, .load ag n x, v⟩ :: g) Q := rfl
theorem l_load (ag : Bool) (n : Nat) (x : TO) : tLook E h (.load ag n x) = ldV ag n (x.ev E) h := rfl
theorem k_load (ag : Bool) (n : Nat) (x : TO) : tBlock E (.load ag n x) = match x.ev E with
    | .pointer (some a) | .slice (some a) _ _ => some a.block
    | _ => none := rfl
theorem d_sliceS (s : Nat) (x : TO) (lo hi mx : Option TO) : wDraw C ((⟨d, .sliceS s x lo hi mx, none⟩, un) :: r) i E h g Q = oneP (sliceSV s (x.ev E) (TO.evo E lo) (TO.evo E hi) (TO.evo E mx) (maskH h (hidsT un g))) fun v => lookOkT un E (.sliceS s x lo hi mx) v g ∧ wDraw C r (i + 1) (updO E d v) h (⟨i, 1, 0, h, 0, E, .sliceS s x lo hi mx, v⟩ :: g) Q := rfl
theorem l_sliceS (s : Nat) (x : TO) (lo hi mx : Option TO) : tLook E h (.sliceS s x lo hi mx) = sliceSV s (x.ev E) (TO.evo E lo) (TO.evo E hi) (TO.evo E mx) h := rfl
theorem k_sliceS (s : Nat) (x : TO) (lo hi mx : Option TO) : tBlock E (.sliceS s x lo hi mx) = match x.ev E with
    | .pointer (some a) | .slice (some a) _ _ => some a.block
    | _ => none := rfl
theorem d_b2t (x : TO) : wDraw C ((⟨d, .b2t x, none⟩, un) :: r) i E h g Q = oneP (b2tV (x.ev E) (maskH h (hidsT un g))) fun v => lookOkT un E (.b2t x) v g ∧ wDraw C r (i + 1) (updO E d v) h (⟨i, 1, 0, h, 0, E, .b2t x, v⟩ :: g) Q := rfl
theorem l_b2t (x : TO) : tLook E h (.b2t x) = b2tV (x.ev E) h := rfl
theorem k_b2t (x : TO) : tBlock E (.b2t x) = match x.ev E with
    | .pointer (some a) | .slice (some a) _ _ => some a.block
    | _ => none := rfl
theorem d_alloc (z : List Value) (s : Nat) : wDraw C ((⟨d, .alloc z s, none⟩, un) :: r) i E h g Q = twoP (some (.pointer (some ⟨h.next, 0, none⟩), (⟨z, s, 0, none⟩ : ABlk))) fun v b => wDraw C r (i + 1) (updO E d v) (h.alloc b) (⟨i, 2, h.next, h, 0, E, .alloc z s, v⟩ :: g) Q := rfl
theorem d_box (s : Nat) (x : TO) : wDraw C ((⟨d, .box s x, none⟩, un) :: r) i E h g Q = twoP (some (.pointer (some ⟨h.next, 0, none⟩), (⟨(x.ev E).cells.toList, s, 0, none⟩ : ABlk))) fun v b => wDraw C r (i + 1) (updO E d v) (h.alloc b) (⟨i, 2, h.next, h, 0, E, .box s x, v⟩ :: g) Q := rfl
theorem d_bslice (z : List Value) (s len : Nat) (ps : List (Nat × TO)) : wDraw C ((⟨d, .bslice z s len ps, none⟩, un) :: r) i E h g Q = twoP (bsliceV z s len (evsQ E s ps) h.next) fun v b => wDraw C r (i + 1) (updO E d v) (h.alloc b) (⟨i, 2, h.next, h, 0, E, .bslice z s len ps, v⟩ :: g) Q := rfl
theorem d_mslice (z : List Value) (s b : Nat) (l c : TO) : wDraw C ((⟨d, .mslice z s b l c, none⟩, un) :: r) i E h g Q = twoP (msliceV z s b (l.ev E) (c.ev E) h.next) fun v b1 => wDraw C r (i + 1) (updO E d v) (h.alloc b1) (⟨i, 2, h.next, h, 0, E, .mslice z s b l c, v⟩ :: g) Q := rfl
theorem d_t2b (x : TO) : wDraw C ((⟨d, .t2b x, none⟩, un) :: r) i E h g Q = twoP (t2bV (x.ev E) h.next) fun v b => wDraw C r (i + 1) (updO E d v) (h.alloc b) (⟨i, 2, h.next, h, 0, E, .t2b x, v⟩ :: g) Q := rfl
theorem d_append (s b : Nat) (x y : TO) : wDraw C ((⟨d, .append s b x y, none⟩, un) :: r) i E h g Q = (aliveT h (hidsT un g) ∧ freeOf3 un g = true ∧ twoP (appendV s b (x.ev E) (y.ev E) (maskH h (hidsT un g))) fun v h1 => sawT un (unmaskH h1 h (hidsT un g)) g ∧ wDraw C r (i + 1) (updO E d v) (unmaskH h1 h (hidsT un g)) (⟨i, 3, 0, h, h1.next, E, .append s b x y, v⟩ :: g) Q) := rfl
theorem d_clear (z : List Value) (s : Nat) (x : TO) : wDraw C ((⟨d, .clear z s x, none⟩, un) :: r) i E h g Q = (aliveT h (hidsT un g) ∧ freeOf3 un g = true ∧ twoP (clearV z s (x.ev E) (maskH h (hidsT un g))) fun v h1 => sawT un (unmaskH h1 h (hidsT un g)) g ∧ wDraw C r (i + 1) (updO E d v) (unmaskH h1 h (hidsT un g)) (⟨i, 3, 0, h, h1.next, E, .clear z s x, v⟩ :: g) Q) := rfl
theorem d_call (f : TO) (l : List TO) : wDraw C ((⟨d, .call f l, none⟩, un) :: r) i E h g Q = (aliveT h (hidsT un g) ∧ freeOf3 un g = true ∧ twoP (callV C (f.ev E) (TO.evs E l) (maskH h (hidsT un g))) fun v h1 => sawT un (unmaskH h1 h (hidsT un g)) g ∧ wDraw C r (i + 1) (updO E d v) (unmaskH h1 h (hidsT un g)) (⟨i, 3, 0, h, h1.next, E, .call f l, v⟩ :: g) Q) := rfl
theorem d_store (n : Nat) (a v : TO) : wDraw C ((⟨d, .store n a v, none⟩, un) :: r) i E h g Q = (aliveT h (hidsT un g) ∧ freeOf3 un g = true ∧ twoP ((stV n (a.ev E) (v.ev E) (maskH h (hidsT un g))).map fun h3 => (undef, h3)) fun u h1 => sawT un (unmaskH h1 h (hidsT un g)) g ∧ wDraw C r (i + 1) (updO E d u) (unmaskH h1 h (hidsT un g)) (⟨i, 3, 0, h, h1.next, E, .store n a v, u⟩ :: g) Q) := rfl
theorem d_callf (f : Nat) (l : List TO) : wDraw C ((⟨d, .call (fnv f) l, none⟩, un) :: r) i E h g Q = (aliveT h (hidsT un g) ∧ freeOf3 un g = true ∧ twoP (C f (TO.evs E l) (maskH h (hidsT un g))) fun v h1 => sawT un (unmaskH h1 h (hidsT un g)) g ∧ wDraw C r (i + 1) (updO E d v) (unmaskH h1 h (hidsT un g)) (⟨i, 3, 0, h, h1.next, E, .call (fnv f) l, v⟩ :: g) Q) := by
  rw [d_call]
  have e : callV C (TO.ev E (fnv f)) (TO.evs E l) (maskH h (hidsT un g)) = C f (TO.evs E l) (maskH h (hidsT un g)) := by
    show C f (([] : List Value) ++ TO.evs E l ++ []) _ = _
    rw [List.append_nil, List.nil_append]
  rw [e]
theorem d_callt (j : Nat) (l : List TO) : wDraw C ((⟨d, .call (.t j) l, none⟩, un) :: r) i E h g Q = (aliveT h (hidsT un g) ∧ freeOf3 un g = true ∧ twoP (callV C (E j) (TO.evs E l) (maskH h (hidsT un g))) fun v h1 => sawT un (unmaskH h1 h (hidsT un g)) g ∧ wDraw C r (i + 1) (updO E d v) (unmaskH h1 h (hidsT un g)) (⟨i, 3, 0, h, h1.next, E, .call (.t j) l, v⟩ :: g) Q) := rfl
theorem mask_nil : maskH h [] = h := rfl
theorem unmask_nil (k : AHeap) : unmaskH h k [] = h := rfl
theorem alive_nil : aliveT h [] = True := rfl
theorem hids_nil : hidsT [] g = [] := hidsT_nil g
theorem look_nil (o : TOp) (v : Value) : lookOkT [] E o v g = True := eq_true (lookOkT_nil E o v g)
theorem free3_nil : freeOf3 [] g = true := freeOf3_nil g
theorem saw_nil : sawT [] h g = True := eq_true (sawT_nil h g)
theorem hids_e : hidsT un [] = [] := rfl
theorem look_e (o : TOp) (v : Value) : lookOkT un E o v [] = True := rfl
theorem free3_e : freeOf3 un [] = true := rfl
theorem saw_e : sawT un h [] = True := rfl
theorem hids_c (e : LE) : hidsT un (e :: g) = if e.kind == 2 && un.contains e.i then e.name :: hidsT un g else hidsT un g := rfl
theorem look_c (o : TOp) (v : Value) (e : LE) : lookOkT un E o v (e :: g) = ((if e.kind == 3 && un.contains e.i then match tBlock E o with
      | some n => (n < e.pre.next ∧ seesT E o v e.pre) ∨ e.post ≤ n
      | none => True else True) ∧ lookOkT un E o v g) := rfl
theorem free3_c (e : LE) : freeOf3 un (e :: g) = (!(e.kind == 3 && un.contains e.i) && freeOf3 un g) := rfl
theorem saw_c (e : LE) : sawT un h (e :: g) = ((if e.kind == 1 && un.contains e.i then seesT e.E e.op e.v h else True) ∧ sawT un h g) := rfl
theorem sees_of (o : TOp) (v : Value) : seesT E o v h = (tLook E h o = some v ∧ beqV v v = true) := rfl
theorem beq_int (k : IntKind) (a : Int) : beqV (.int k a) (.int k a) = true := by simp [beqV]
theorem beq_bool (a : Bool) : beqV (.bool a) (.bool a) = true := by simp [beqV]
theorem beq_string (a : ByteArray) : beqV (.string a) (.string a) = true := by simp [beqV]
theorem beq_slice (a : Option Addr) (l c : Nat) : beqV (.slice a l c) (.slice a l c) = true := by
  simp [beqV]
theorem beq_pointer (a : Option Addr) : beqV (.pointer a) (.pointer a) = true := by simp [beqV]
theorem beqVs_of : ∀ {l : List Value}, (∀ v ∈ l, beqV v v = true) → beqVs l l = true
  | [], _ => rfl
  | v :: l, h => by
    simp only [beqVs, h v (by simp), beqVs_of (l := l) (fun u hu => h u (by simp [hu])), Bool.and_self]
theorem beq_agg {l : List Value} (h : ∀ v ∈ l, beqV v v = true) : beqV (.agg ⟨l⟩) (.agg ⟨l⟩) = true := by
  simp only [beqV]; exact beqVs_of h
theorem Sl.beq {lo hi sz : Nat} {v : Value} {cs : List Value} (s : Sl lo hi h v sz cs) : beqV v v = true := by
  rcases s with ⟨rfl, _⟩ | ⟨m, off, len, cap, rfl, _⟩ <;> exact beq_slice _ _ _
set_option linter.defProp false in
/-- the rules of a run of regions that draw -/
def rund := And.intro @w_draw (And.intro @d_nil (And.intro @d_guard (And.intro @d_mv (And.intro @d_pick (And.intro @d_nilc (And.intro @d_bin (And.intro @d_un (And.intro @d_mkf (And.intro @d_faddr (And.intro @d_fld (And.intro @d_iaddrS (And.intro @d_iaddrA (And.intro @d_idxT (And.intro @d_idxA (And.intro @d_ext (And.intro @d_conv (And.intro @d_convT (And.intro @d_lenT (And.intro @d_lenS (And.intro @d_lenA (And.intro @d_mx (And.intro @d_mn (And.intro @d_build (And.intro @d_load (And.intro @l_load (And.intro @d_sliceS (And.intro @l_sliceS (And.intro @d_b2t (And.intro @l_b2t (And.intro @d_alloc (And.intro @d_box (And.intro @d_bslice (And.intro @d_mslice (And.intro @d_t2b (And.intro @d_append (And.intro @d_clear (And.intro @d_store (And.intro @mask_nil (And.intro @unmask_nil (And.intro @alive_nil (And.intro @hids_nil (And.intro @look_nil (And.intro @free3_nil (And.intro @saw_nil (And.intro @hids_e (And.intro @look_e (And.intro @free3_e (And.intro @saw_e (And.intro @hids_c (And.intro @look_c (And.intro @free3_c (And.intro @saw_c (And.intro @sees_of (And.intro @beq_int (And.intro @beq_bool (And.intro @beq_string (And.intro @beq_slice (And.intro @beq_pointer (And.intro @d_callf (And.intro @k_load (And.intro @k_sliceS (And.intro @k_b2t (And.intro @l_load (And.intro @l_sliceS (And.intro @l_b2t @d_callt)))))))))))))))))))))))))))))))))))))))))))))))))))))))))))))))))

end Go.Ab
