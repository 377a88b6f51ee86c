/- Clean code: a function's text in which all types are looked up. Definitions, and how it is made of the program's text. -/
import Derived.Test.YtapmpenkceomdaaAb18
namespace Go.Ab

inductive TO where
  | t (i : Nat)
  | c (v : Value)

abbrev Env := Nat → Value
def TO.ev (E : Env) : TO → Value
  | .t i => E i
  | .c v => v
def TO.evs (E : Env) : List TO → List Value
  | [] => []
  | x :: l => x.ev E :: TO.evs E l
def TO.evo (E : Env) : Option TO → Option Value
  | none => none
  | some x => some (x.ev E)
def upd (E : Env) (i : Nat) (v : Value) : Env := fun j => if j = i then v else E j
def updO (E : Env) : Option Nat → Value → Env
  | none, _ => E
  | some i, v => upd E i v

inductive TOp where
  | mv (x : TO)
  | pick (c a b : TO)
  | build (z : List Value) (parts : List (Nat × Nat × TO))
  | nilc (x : TO)
  | bin (op : BinOp) (q : Nat) (x y : TO)
  | un (op : UnOp) (x : TO)
  | mkf (fn : Fn) (a b : List TO)
  | faddr (off : Nat) (x : TO)
  | fld (ag : Bool) (off k : Nat) (x : TO)
  | iaddrS (size : Nat) (x i : TO)
  | iaddrA (len size : Nat) (x i : TO)
  | idxT (x i : TO)
  | idxA (len size : Nat) (ag : Bool) (k : Nat) (x i : TO)
  | ext (x : TO) (i : Nat)
  | conv (k : IntKind) (x : TO)
  | convT (x : TO)
  | lenT (x : TO)
  | lenS (x : TO)
  | lenA (n : Nat) (x : TO)
  | mx (l : List TO)
  | mn (l : List TO)
  | load (ag : Bool) (k : Nat) (x : TO)
  | sliceT (x : TO) (lo hi : Option TO)
  | sliceS (size : Nat) (x : TO) (lo hi mx : Option TO)
  | b2t (x : TO)
  | alloc (z : List Value) (size : Nat)
  | box (size : Nat) (x : TO)
  | bslice (z : List Value) (size len : Nat) (parts : List (Nat × TO))
  | mslice (z : List Value) (size bytes : Nat) (l c : TO)
  | t2b (x : TO)
  | store (k : Nat) (a v : TO)
  | append (size bytes : Nat) (s x : TO)
  | clear (z : List Value) (size : Nat) (x : TO)
  | call (f : TO) (args : List TO)

def TOp.kind : TOp → Nat
  | .load .. | .sliceT .. | .sliceS .. | .b2t .. => 1
  | .alloc .. | .box .. | .bslice .. | .mslice .. | .t2b .. => 2
  | .store .. | .append .. | .clear .. | .call .. => 3
  | _ => 0

/-! What the operations do, types looked up -/
def ldV (ag : Bool) (k : Nat) (a : Value) (h : AHeap) : Option Value :=
  match ag, a with
  | true, .pointer (some ⟨n, off, none⟩) => (h.loadN n off k).map fun l => .agg ⟨l⟩
  | false, .pointer (some ⟨n, off, none⟩) => h.load1 n off
  | _, _ => none

def stV (k : Nat) (a v : Value) (h : AHeap) : Option AHeap :=
  match a with
  | .pointer (some ⟨n, off, none⟩) => if v.cells.size = k then h.storeN n off v.cells.toList else none
  | _ => none

/-- parts laid into cells -/
def fillV (cells : List Value) : List (Nat × Nat × Value) → Option (List Value)
  | [] => some cells
  | (off, size, v) :: rest => if v.cells.size = size ∧ off + size ≤ cells.length then fillV (splice cells off v.cells.toList) rest else none

def partV (ag : Bool) (k : Nat) (cs : List Value) (off : Nat) : Option Value :=
  match ag with
  | true => if off + k ≤ cs.length then some (.agg ⟨(cs.drop off).take k⟩) else none
  | false => cs[off]?

def faddrV (off : Nat) (a : Value) : Option Value :=
  match a with
  | .pointer (some ⟨n, o, none⟩) => some (.pointer (some ⟨n, o + off, none⟩))
  | _ => none
def fldV (ag : Bool) (off k : Nat) (x : Value) : Option Value :=
  match x with
  | .agg cs => partV ag k cs.toList off
  | _ => none
def iaddrSV (size : Nat) (x i : Value) : Option Value :=
  match x, i with
  | .slice (some ⟨n, off, none⟩) len _, .int _ i => if 0 ≤ i ∧ i < len then some (.pointer (some ⟨n, off + i.toNat * size, none⟩)) else none
  | _, _ => none
def iaddrAV (len size : Nat) (x i : Value) : Option Value :=
  match x, i with
  | .pointer (some ⟨n, off, none⟩), .int _ i => if 0 ≤ i ∧ i < len then some (.pointer (some ⟨n, off + i.toNat * size, none⟩)) else none
  | _, _ => none
def idxTV (x i : Value) : Option Value :=
  match x, i with
  | .string s, .int _ i => if 0 ≤ i then match s[i.toNat]? with
      | some b => some (.int .u8 b.toNat)
      | none => none
    else none
  | _, _ => none
def idxAV (len size : Nat) (ag : Bool) (k : Nat) (x i : Value) : Option Value :=
  match x, i with
  | .agg cs, .int _ i => if 0 ≤ i ∧ i < len then partV ag k cs.toList (i.toNat * size) else none
  | _, _ => none
def sliceTV (x : Value) (lo hi : Option Value) : Option Value :=
  match x with
  | .string s => match aBound hi s.size s.size with
      | none => none
      | some b => match aBound lo 0 b with
        | none => none
        | some a => some (.string (s.extract a b))
  | _ => none
def sliceSV (size : Nat) (x : Value) (lo hi mx : Option Value) (h : AHeap) : Option Value :=
  match x with
  | .slice a len cap =>
      match aBound mx cap cap with
      | none => none
      | some m =>
        if mx.isSome && hi.isNone then none else
        match aBound hi len m with
        | none => none
        | some b => match aBound lo 0 b with
          | none => none
          | some l =>
            if m < b then none else
            match a with
            | none => some (.slice none (b - l) (m - l))
            | some ⟨n, off, none⟩ =>
              if cap = 0 ∨ ((h.get n).st < 2 ∧ (h.get n).esz = size) then some (.slice (some ⟨n, off + l * size, none⟩) (b - l) (m - l)) else none
            | _ => none
  | _ => none
def aEqK (q : Nat) (x y : Value) : Option Bool :=
  match q, x, y with
  | 1, .bool a, .bool b => some (a == b)
  | 2, .pointer none, .pointer b => some b.isNone
  | 2, .pointer (some _), .pointer none => some false
  | 3, .slice none _ _, .slice b _ _ => some b.isNone
  | 3, .slice (some _) _ _, .slice none _ _ => some false
  | _, _, _ => none
def binV (op : BinOp) (q : Nat) (x y : Value) : Option Value :=
  match op, x, y with
  | .shl, .int k a, .int _ b => if b < 0 then none else some (.int k (k.wrap (a * 2 ^ (min b.toNat k.bits))))
  | .shr, .int k a, .int _ b => if b < 0 then none else some (.int k (a.fdiv (2 ^ (min b.toNat k.bits))))
  | op, .int k a, .int k' b => if k = k' then aInt op k a b else none
  | .add, .string a, .string b => if (((a.size + b.size : Nat) : Int) > IntKind.i64.max) then none else some (.string (a ++ b))
  | .eql, .string a, .string b => some (.bool (a.toList == b.toList))
  | .neq, .string a, .string b => some (.bool !(a.toList == b.toList))
  | .lss, .string a, .string b => some (.bool (Op.bytesLess a.toList b.toList))
  | .leq, .string a, .string b => some (.bool (Op.bytesLess a.toList b.toList || a.toList == b.toList))
  | .gtr, .string a, .string b => some (.bool !(Op.bytesLess a.toList b.toList || a.toList == b.toList))
  | .geq, .string a, .string b => some (.bool !(Op.bytesLess a.toList b.toList))
  | _, .string _, .string _ => none
  | op, x, y => match isEq op with
    | some e => (aEqK q x y).map fun r => .bool (r == e)
    | none => none
def pickV (c a b : Value) : Option Value :=
  match c with
  | .bool c => some (if c then a else b)
  | _ => none
def nilcV : Value → Option Value
  | .pointer (some a) => some (.pointer (some a))
  | .func (.func f) c d => some (.func (.func f) c d)
  | _ => none
def extV (x : Value) (i : Nat) : Option Value :=
  match x with
  | .tuple vs => vs[i]?
  | _ => none
def convV (k : IntKind) : Value → Option Value
  | .int _ n => some (.int k (k.wrap n))
  | _ => none
def convTV : Value → Option Value
  | .string s => some (.string s)
  | _ => none
def lenTV : Value → Option Value
  | .string s => some (.int .i64 s.size)
  | _ => none
def lenSV : Value → Option Value
  | .slice _ n _ => some (.int .i64 n)
  | _ => none
def mxV : List Value → Option Value
  | .int .i64 x :: l => aMaxF x l
  | _ => none
def mnV : List Value → Option Value
  | .int .i64 x :: l => aMinF x l
  | _ => none
def b2tV (x : Value) (h : AHeap) : Option Value :=
  match x with
  | .slice none _ _ => some (.string .empty)
  | .slice (some ⟨n, off, none⟩) len _ => match h.loadN n off len with
    | some l => (bytesOf l).map fun bs => .string ⟨⟨bs⟩⟩
    | none => none
  | _ => none
def bsliceV (z : List Value) (size len : Nat) (parts : List (Nat × Nat × Value)) (n : Nat) : Option (Value × ABlk) :=
  if z.length = size ∧ len * size ≤ 2 ^ 24 ∧ 0 < size then
    match fillV (repeatCells z len) parts with
    | some cells => some (.slice (some ⟨n, 0, none⟩) len len, ⟨cells, size, 0, none⟩)
    | none => none
  else none
def msliceV (z : List Value) (size bytes : Nat) (l c : Value) (n : Nat) : Option (Value × ABlk) :=
  match l, c with
  | .int .i64 l, .int .i64 c =>
    if z.length = size ∧ 0 ≤ l ∧ l ≤ c ∧ bytes * c ≤ 2 ^ 47 ∧ c ≤ 2 ^ 47 ∧ 0 < size then
      some (.slice (some ⟨n, 0, none⟩) l.toNat c.toNat, ⟨repeatCells z c.toNat, size, 0, none⟩)
    else none
  | _, _ => none
def t2bV (x : Value) (n : Nat) : Option (Value × ABlk) :=
  match x with
  | .string s => some (.slice (some ⟨n, 0, none⟩) s.size s.size, ⟨s.data.toList.map fun b => .int .u8 b.toNat, 1, 0, none⟩)
  | _ => none
def appendV (size bytes : Nat) (s x : Value) (h : AHeap) : Option (Value × AHeap) :=
  match aSource size x h with
  | some (n, vs) => aAppend size bytes s n vs h
  | none => none
def clearV (z : List Value) (size : Nat) (x : Value) (h : AHeap) : Option (Value × AHeap) :=
  match x with
  | .slice none _ _ => some (.tuple #[], h)
  | .slice (some ⟨b, off, none⟩) n _ => if n = 0 then some (.tuple #[], h) else
    if z.length = size then (h.storeN b off (repeatCells z n)).map fun h' => (.tuple #[], h') else none
  | _ => none
def callV (C : Callee') (f : Value) (l : List Value) (h : AHeap) : Option (Value × AHeap) :=
  match f with
  | .func (.func g) a c => C g (a.toList ++ l ++ c.toList) h
  | _ => none

def evsP (E : Env) : List (Nat × Nat × TO) → List (Nat × Nat × Value)
  | [] => []
  | (a, b, x) :: l => (a, b, x.ev E) :: evsP E l
def evsQ (E : Env) (size : Nat) : List (Nat × TO) → List (Nat × Nat × Value)
  | [] => []
  | (i, x) :: l => (i * size, size, x.ev E) :: evsQ E size l

def tPure (E : Env) : TOp → Option Value
  | .mv x => some (x.ev E)
  | .pick c a b => pickV (c.ev E) (a.ev E) (b.ev E)
  | .build z parts => (fillV z (evsP E parts)).map fun l => .agg ⟨l⟩
  | .nilc x => nilcV (x.ev E)
  | .bin op q x y => binV op q (x.ev E) (y.ev E)
  | .un op x => aUn op (x.ev E)
  | .mkf fn a b => some (.func fn ⟨TO.evs E a⟩ ⟨TO.evs E b⟩)
  | .faddr off x => faddrV off (x.ev E)
  | .fld ag off k x => fldV ag off k (x.ev E)
  | .iaddrS size x i => iaddrSV size (x.ev E) (i.ev E)
  | .iaddrA len size x i => iaddrAV len size (x.ev E) (i.ev E)
  | .idxT x i => idxTV (x.ev E) (i.ev E)
  | .idxA len size ag k x i => idxAV len size ag k (x.ev E) (i.ev E)
  | .ext x i => extV (x.ev E) i
  | .conv k x => convV k (x.ev E)
  | .convT x => convTV (x.ev E)
  | .lenT x => lenTV (x.ev E)
  | .lenS x => lenSV (x.ev E)
  | .lenA n _ => some (.int .i64 n)
  | .mx l => mxV (TO.evs E l)
  | .mn l => mnV (TO.evs E l)
  | _ => none
def tLook (E : Env) (h : AHeap) : TOp → Option Value
  | .load ag k x => ldV ag k (x.ev E) h
  | .sliceT x lo hi => sliceTV (x.ev E) (TO.evo E lo) (TO.evo E hi)
  | .sliceS size x lo hi mx => sliceSV size (x.ev E) (TO.evo E lo) (TO.evo E hi) (TO.evo E mx) h
  | .b2t x => b2tV (x.ev E) h
  | _ => none
def tMake (E : Env) (n : Nat) : TOp → Option (Value × ABlk)
  | .alloc z size => some (.pointer (some ⟨n, 0, none⟩), ⟨z, size, 0, none⟩)
  | .box size x => some (.pointer (some ⟨n, 0, none⟩), ⟨(x.ev E).cells.toList, size, 0, none⟩)
  | .bslice z size len parts => bsliceV z size len (evsQ E size parts) n
  | .mslice z size bytes l c => msliceV z size bytes (l.ev E) (c.ev E) n
  | .t2b x => t2bV (x.ev E) n
  | _ => none
def tDo (C : Callee') (E : Env) (h : AHeap) : TOp → Option (Value × AHeap)
  | .store k a v => (stV k (a.ev E) (v.ev E) h).map fun h' => (undef, h')
  | .append size bytes s x => appendV size bytes (s.ev E) (x.ev E) h
  | .clear z size x => clearV z size (x.ev E) h
  | .call f args => callV C (f.ev E) (TO.evs E args) h
  | _ => none

/-! Of the program's text -/
def tidyO : Operand → Option TO
  | .tmp t => some (.t t)
  | .const v => if closedCell v then some (.c v) else none
  | .global _ => none
  | .func f => some (.c (.func (.func f) #[] #[]))
def tidyL : List Operand → Option (List TO)
  | [] => some []
  | x :: l => match tidyO x, tidyL l with
    | some y, some m => some (y :: m)
    | _, _ => none
def tidyOO : Option Operand → Option (Option TO)
  | none => some none
  | some x => (tidyO x).map some
/-- parts by their places -/
def tidyP (pl : Nat → Option (Nat × Nat)) : List (Nat × Operand) → Option (List (Nat × Nat × TO))
  | [] => some []
  | (i, x) :: l => match pl i, tidyO x, tidyP pl l with
    | some (off, size), some y, some m => some ((off, size, y) :: m)
    | _, _, _ => none
def tidyQ : List (Nat × Operand) → Option (List (Nat × TO))
  | [] => some []
  | (i, x) :: l => match tidyO x, tidyQ l with
    | some y, some m => some ((i, y) :: m)
    | _, _ => none

section
variable (P : Program)
def eqK (t : TypeId) : Nat :=
  match P.underlying t with
  | some .bool => 1
  | some (.pointer _) => 2
  | some (.slice _) => 3
  | _ => 0
def isU8 (t : TypeId) : Bool :=
  match P.underlying t with
  | some (.int .u8) => true
  | _ => false
def tidyCall (c : Call) : Option TOp :=
  match c.callee with
  | .builtin .len => match c.args.toList, c.argTypes.toList with
    | [x], [t] => match P.underlying t, tidyO x with
      | some .string, some x => some (.lenT x)
      | some (.slice _), some x => some (.lenS x)
      | some (.array n _), some x => some (.lenA n x)
      | _, _ => none
    | _, _ => none
  | .builtin .max => (tidyL c.args.toList).map .mx
  | .builtin .min => (tidyL c.args.toList).map .mn
  | .builtin .append => match tidyL c.args.toList, c.argTypes.toList with
    | some [s, x], t :: u :: _ => match elemOf P t, P.underlying u with
      | some (e, size, bytes), some (.slice _) => match zeroOf P e with
        | some z => if z.length = size then some (.append size bytes s x) else none
        | none => none
      | some (e, size, bytes), some .string => match zeroOf P e with
        | some z => if z.length = size then some (.append size bytes s x) else none
        | none => none
      | _, _ => none
    | _, _ => none
  | .builtin .clear => match tidyL c.args.toList, c.argTypes.toList with
    | some [x], [t] => match elemOf P t with
      | some (e, size, _) => match zeroOf P e with
        | some z => some (.clear z size x)
        | none => none
      | none => none
    | _, _ => none
  | .value f => match tidyO f, tidyL c.args.toList with
    | some f, some l => some (.call f l)
    | _, _ => none
  | _ => none
def tidyOp : Op → Option TOp
  | .move x | .assign x => (tidyO x).map .mv
  | .pick c a b => match tidyO c, tidyO a, tidyO b with
    | some c, some a, some b => some (.pick c a b)
    | _, _, _ => none
  | .build t parts => match zeroOf P t, P.underlying t with
    | some z, some (.struct fields) => match places P fields.toList with
      | some l => (tidyP (l[·]?) parts.toList).map (.build z)
      | none => none
    | some z, some (.array _ e) => match P.info? e with
      | some i => (tidyP (fun k => some (k * i.size, i.size)) parts.toList).map (.build z)
      | none => none
    | _, _ => none
  | .nilCheck x => (tidyO x).map .nilc
  | .binOp op t x y _ => match tidyO x, tidyO y with
    | some x, some y => some (.bin op (eqK P t) x y)
    | _, _ => none
  | .unOp op _ x => (tidyO x).map (.un op)
  | .makeFunc fn a b => match tidyL a.toList, tidyL b.toList with
    | some a, some b => some (.mkf fn a b)
    | _, _ => none
  | .fieldAddr s x f => match P.underlying s, tidyO x with
    | some (.struct fields), some x => match fields[f]? with
      | some fd => match P.info? fd.type with
        | some i => if i.size = 0 then none else some (.faddr fd.offset x)
        | none => none
      | none => none
    | _, _ => none
  | .field s x f => match P.underlying s, tidyO x with
    | some (.struct fields), some x => match fields[f]? with
      | some fd => match lay P fd.type with
        | some (ag, k) => some (.fld ag fd.offset k x)
        | none => none
      | none => none
    | _, _ => none
  | .indexAddr t x i => match P.underlying t, tidyO x, tidyO i with
    | some (.slice e), some x, some i => match P.info? e with
      | some inf => some (.iaddrS inf.size x i)
      | none => none
    | some (.array len e), some x, some i => match P.info? e with
      | some inf => some (.iaddrA len inf.size x i)
      | none => none
    | _, _, _ => none
  | .index t x i => match P.underlying t, tidyO x, tidyO i with
    | some .string, some x, some i => some (.idxT x i)
    | some (.array len e), some x, some i => match P.info? e, lay P e with
      | some inf, some (ag, k) => some (.idxA len inf.size ag k x i)
      | _, _ => none
    | _, _, _ => none
  | .extract x i => (tidyO x).map (.ext · i)
  | .convert s d x => match P.underlying s, P.underlying d, tidyO x with
    | some (.slice e), some .string, some x => if isU8 P e then some (.b2t x) else none
    | some (.slice _), _, _ => none
    | some .string, some (.slice e), some x => if isU8 P e then some (.t2b x) else none
    | some .string, some .string, some x => some (.convT x)
    | some _, some (.int k), some x => some (.conv k x)
    | _, _, _ => none
  | .load t x => match lay P t, tidyO x with
    | some (ag, k), some x => some (.load ag k x)
    | _, _ => none
  | .slice t x lo hi mx => match P.underlying t, tidyO x, tidyOO lo, tidyOO hi, tidyOO mx with
    | some .string, some x, some lo, some hi, some none => some (.sliceT x lo hi)
    | some (.slice e), some x, some lo, some hi, some mx => match P.info? e with
      | some inf => some (.sliceS inf.size x lo hi mx)
      | none => none
    | _, _, _, _, _ => none
  | .alloc t => match zeroOf P t, P.info? t with
    | some z, some i => some (.alloc z i.size)
    | _, _ => none
  | .box t x => match tidyO x, P.info? t with
    | some x, some i => some (.box i.size x)
    | _, _ => none
  | .buildSlice t len parts => match elemOf P t, tidyQ parts.toList with
    | some (e, size, _), some l => match zeroOf P e with
      | some z => some (.bslice z size len l)
      | none => none
    | _, _ => none
  | .makeSlice t l c => match elemOf P t, tidyO l, tidyO c with
    | some (e, size, bytes), some l, some c => match zeroOf P e with
      | some z => some (.mslice z size bytes l c)
      | none => none
    | _, _, _ => none
  | .store t a v => match lay P t, tidyO a, tidyO v with
    | some (_, k), some a, some v => some (.store k a v)
    | _, _, _ => none
  | .call c => tidyCall P c
  | _ => none

structure SOp where
  dst : Option Nat
  op : TOp
  guard : Option (Nat × Bool)

inductive SC where
  | skip
  | ops (l : List SOp)
  | draw (l : List (SOp × List Nat))
  | seq (a b : SC)
  | cond (c : TO) (a b : SC)
  | block (id : Nat) (a : SC)
  | loop (a : SC)
  | exit (id : Nat)
  | ret

def dstOk (nt : Nat) : Option Nat → Bool
  | none => true
  | some d => decide (d < nt)
def tidyOper (ops : Array Oper) (nt : Nat) (o : Oper) : Option SOp :=
  if dstOk nt o.dst then
    match tidyOp P o.op, o.guard with
    | some t, none => some ⟨o.dst, t, none⟩
    | some t, some (j, b) => match (ops[j]?).bind (·.dst) with
      | some d => some ⟨o.dst, t, some (d, b)⟩
      | none => none
    | none, _ => none
  else none
def tidyOpers (ops : Array Oper) (nt : Nat) : List Oper → Option (List SOp)
  | [] => some []
  | o :: l => match tidyOper P ops nt o, tidyOpers ops nt l with
    | some s, some m => some (s :: m)
    | _, _ => none

def clash (a b : Nat) : Bool := (a == 1 && b == 2) || (a == 1 && b == 3) || (a == 3 && (b == 1 || b == 2 || b == 3))

/-- the operations ahead, in the text's order, that are not ahead in every order, and are of a kind that matters -/
def free (B : Array Nat) (i k : Nat) (l : List SOp) : Nat → List Nat
  | 0 => []
  | j + 1 => match l[j]? with
    | some o => if clash k o.op.kind && !ordered B i j then j :: free B i k l j else free B i k l j
    | none => free B i k l j
def frees (B : Array Nat) (l : List SOp) : List SOp → Nat → List (SOp × List Nat)
  | [], _ => []
  | o :: r, i => (o, free B i o.op.kind l i) :: frees B l r (i + 1)

def tidyC (nt : Nat) : Code → Option SC
  | .skip => some .skip
  | .region _ ops false => (tidyOpers P ops nt ops.toList).map .ops
  | .region _ ops true => if drawOk ops then match tidyOpers P ops nt ops.toList with
      | some l => let m := frees (Region.before ops) l l 0
        if m.all (fun x => x.2.isEmpty) then some (.ops l) else some (.draw m)
      | none => none
    else none
  | .seq a b => match tidyC nt a, tidyC nt b with
    | some .skip, some b => some b
    | some a, some .skip => some a
    | some a, some b => some (.seq a b)
    | _, _ => none
  | .cond c a b => match tidyO c, tidyC nt a, tidyC nt b with
    | some c, some a, some b => some (.cond c a b)
    | _, _, _ => none
  | .block id a => (tidyC nt a).map (.block id)
  | .loop a => (tidyC nt a).map .loop
  | .exit id => some (.exit id)
  | .ret => some .ret
  | _ => none

inductive TRes where
  | t (i : Nat)
  | cell (i : Nat) (ag : Bool) (k : Nat)
def tidyR : List ResultVar → Option (List TRes)
  | [] => some []
  | .tmp i :: l => (tidyR l).map (.t i :: ·)
  | .cell i t :: l => match lay P t, tidyR l with
    | some (ag, k), some m => some (.cell i ag k :: m)
    | _, _ => none

structure TFn where
  body : SC
  nt : Nat
  res : List TRes
def tidyF (f : Nat) : Option TFn :=
  match P.funcs[f]? with
  | some fn => match fn.body with
    | some c => if fn.name == "runtime.NumGoroutine" then none else
      match tidyC P fn.ntmps c, tidyR P fn.results.toList with
      | some b, some r => some ⟨b, fn.ntmps, r⟩
      | _, _ => none
    | none => none
  | none => none
end
end Go.Ab
