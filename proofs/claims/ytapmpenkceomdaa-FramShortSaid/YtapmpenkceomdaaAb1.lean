/- The abstract run of a program of the model: a heap of numbered blocks, no capacities drawn, no orders drawn. Definitions alone. -/
import Derived.Tactics
namespace Go.Ab

/-! Tries over numbers -/
inductive Tr (α : Type) where
  | leaf
  | node (l : Tr α) (v : Option α) (r : Tr α)

def Tr.get {α : Type} : Tr α → Nat → Option α
  | .leaf, _ => none
  | .node l v r, n => if n = 0 then v else if n % 2 = 1 then l.get (n / 2) else r.get (n / 2 - 1)

def Tr.setF {α : Type} : Nat → Tr α → Nat → α → Tr α
  | 0, t, _, _ => t
  | f + 1, t, n, x =>
    match t with
    | .leaf =>
      if n = 0 then .node .leaf (some x) .leaf
      else if n % 2 = 1 then .node (Tr.setF f .leaf (n / 2) x) none .leaf
      else .node .leaf none (Tr.setF f .leaf (n / 2 - 1) x)
    | .node l v r =>
      if n = 0 then .node l (some x) r
      else if n % 2 = 1 then .node (Tr.setF f l (n / 2) x) v r
      else .node l v (Tr.setF f r (n / 2 - 1) x)

def Tr.set {α : Type} (t : Tr α) (n : Nat) (x : α) : Tr α := Tr.setF (n + 1) t n x

theorem Tr.get_setF {α : Type} (x : α) : ∀ (f : Nat) (t : Tr α) (n m : Nat), n < f → (Tr.setF f t n x).get m = if m = n then some x else t.get m := by
  intro f
  induction f with
  | zero => intro t n m h; omega
  | succ f ih =>
    intro t n m h
    cases t with
    | leaf =>
      unfold Tr.setF
      by_cases h0 : n = 0
      · simp only [h0, if_true, Tr.get]
        by_cases hm : m = 0 <;> simp [hm]
      · rw [if_neg h0]
        by_cases h1 : n % 2 = 1
        · rw [if_pos h1]
          simp only [Tr.get]
          by_cases hm : m = 0
          · rw [if_pos hm, if_neg (by omega)]
          · rw [if_neg hm]
            by_cases hm1 : m % 2 = 1
            · rw [if_pos hm1, ih _ _ _ (by omega)]
              by_cases e : m = n
              · rw [if_pos (by omega), if_pos e]
              · rw [if_neg (by omega), if_neg e]; simp [Tr.get]
            · rw [if_neg hm1, if_neg (by omega)]
        · rw [if_neg h1]
          simp only [Tr.get]
          by_cases hm : m = 0
          · rw [if_pos hm, if_neg (by omega)]
          · rw [if_neg hm]
            by_cases hm1 : m % 2 = 1
            · rw [if_pos hm1, if_neg (by omega)]
            · rw [if_neg hm1, ih _ _ _ (by omega)]
              by_cases e : m = n
              · rw [if_pos (by omega), if_pos e]
              · rw [if_neg (by omega), if_neg e]; simp [Tr.get]
    | node l v r =>
      by_cases h0 : n = 0
      · simp only [Tr.setF, h0, if_true, Tr.get]
        by_cases hm : m = 0 <;> simp [hm]
      · by_cases h1 : n % 2 = 1
        · simp only [Tr.setF, if_neg h0, if_pos h1, Tr.get]
          by_cases hm : m = 0
          · simp only [if_pos hm]; rw [if_neg (by omega)]
          · simp only [if_neg hm]
            by_cases hm1 : m % 2 = 1
            · simp only [if_pos hm1]
              rw [ih _ _ _ (by omega)]
              by_cases e : m = n
              · rw [if_pos (by omega), if_pos e]
              · rw [if_neg (by omega), if_neg e]
            · simp only [if_neg hm1]; rw [if_neg (by omega)]
        · simp only [Tr.setF, if_neg h0, if_neg h1, Tr.get]
          by_cases hm : m = 0
          · simp only [if_pos hm]; rw [if_neg (by omega)]
          · simp only [if_neg hm]
            by_cases hm1 : m % 2 = 1
            · simp only [if_pos hm1]; rw [if_neg (by omega)]
            · simp only [if_neg hm1]
              rw [ih _ _ _ (by omega)]
              by_cases e : m = n
              · rw [if_pos (by omega), if_pos e]
              · rw [if_neg (by omega), if_neg e]

theorem Tr.get_set {α : Type} (t : Tr α) (n m : Nat) (x : α) : (t.set n x).get m = if m = n then some x else t.get m :=
  Tr.get_setF x (n + 1) t n m (by omega)

/-! The heap. A block's state: 0 alive; 1 read alone (it has grown, or came in); 2 gone -/
structure ABlk where
  cells : List Value
  esz : Nat
  st : Nat
  prev : Option Nat

def deadBlk : ABlk := ⟨[], 0, 2, none⟩

structure AHeap where
  t : Tr ABlk
  next : Nat

def AHeap.get (h : AHeap) (n : Nat) : ABlk := if n < h.next then (h.t.get n).getD deadBlk else deadBlk
def AHeap.upd (h : AHeap) (n : Nat) (b : ABlk) : AHeap := { h with t := h.t.set n b }
def AHeap.alloc (h : AHeap) (b : ABlk) : AHeap := ⟨h.t.set h.next b, h.next + 1⟩
def AHeap.kill (h : AHeap) : Option Nat → AHeap
  | none => h
  | some m => h.upd m { h.get m with st := 2 }

theorem AHeap.get_upd (h : AHeap) (n m : Nat) (b : ABlk) : (h.upd n b).get m = if m = n ∧ n < h.next then b else h.get m := by
  unfold AHeap.get AHeap.upd
  simp only [Tr.get_set]
  by_cases e : m = n
  · subst e
    by_cases l : m < h.next <;> simp [l]
  · simp [e]
theorem AHeap.get_alloc (h : AHeap) (m : Nat) (b : ABlk) : (h.alloc b).get m = if m = h.next then b else h.get m := by
  unfold AHeap.get AHeap.alloc
  simp only [Tr.get_set]
  by_cases e : m = h.next
  · subst e; simp
  · by_cases l : m < h.next
    · simp [e, l, Nat.lt_succ_of_lt l]
    · have : ¬ m < h.next + 1 := by omega
      simp [e, l, this]

def splice (l : List Value) (off : Nat) (vs : List Value) : List Value := l.take off ++ vs ++ l.drop (off + vs.length)

/-- a value that one cell may hold -/
def isCell : Value → Bool
  | .agg _ | .tuple _ => false
  | _ => true

/-- a value without addresses -/
def closedCell : Value → Bool
  | .bool _ | .int _ _ | .string _ | .pointer none | .nilFunc | .nilIface => true
  | .slice none 0 0 => true
  | _ => false

def AHeap.load1 (h : AHeap) (n off : Nat) : Option Value :=
  let b := h.get n
  if b.st < 2 then b.cells[off]? else none
def AHeap.loadN (h : AHeap) (n off k : Nat) : Option (List Value) :=
  let b := h.get n
  if b.st < 2 ∧ off + k ≤ b.cells.length then some ((b.cells.drop off).take k) else none
def AHeap.storeN (h : AHeap) (n off : Nat) (vs : List Value) : Option AHeap :=
  match vs with
  | [] => some h
  | _ =>
    let b := h.get n
    if b.st = 0 ∧ off + vs.length ≤ b.cells.length ∧ vs.all isCell then
      some ((h.kill b.prev).upd n { b with cells := splice b.cells off vs, prev := none })
    else none

/-! The slots of a call -/
structure TS where
  t : Tr Value
  n : Nat

def TS.get (T : TS) (i : Nat) : Value := if i < T.n then (T.t.get i).getD undef else undef
def TS.set (T : TS) (i : Nat) (v : Value) : TS := { T with t := T.t.set i v }
def TS.put (T : TS) : Option Tmp → Value → TS
  | some d, v => T.set d v
  | none, _ => T
def TS.ofArgs (n : Nat) : List Value → Nat → TS → TS
  | [], _, T => T
  | v :: vs, i, T => TS.ofArgs n vs (i + 1) (T.set i v)
def TS.init (args : List Value) (n : Nat) : TS := TS.ofArgs n args 0 ⟨.leaf, max args.length n⟩

theorem TS.get_set (T : TS) (i j : Nat) (v : Value) : (T.set i v).get j = if j = i ∧ i < T.n then v else T.get j := by
  unfold TS.get TS.set
  simp only [Tr.get_set]
  by_cases e : j = i
  · subst e
    by_cases l : j < T.n <;> simp [l]
  · simp [e]
theorem TS.n_set (T : TS) (i : Nat) (v : Value) : (T.set i v).n = T.n := rfl

def TS.ev (T : TS) : Operand → Option Value
  | .tmp t => some (T.get t)
  | .const v => if closedCell v then some v else none
  | .global _ => none
  | .func f => some (.func (.func f) #[] #[])

def evs (T : TS) : List Operand → Option (List Value)
  | [] => some []
  | x :: xs => match T.ev x, evs T xs with
    | some v, some vs => some (v :: vs)
    | _, _ => none

/-! Operations -/
section
variable (P : Program)

/-- is a type's value an aggregate, and how many cells has it -/
def lay (t : TypeId) : Option (Bool × Nat) :=
  match P.underlying t, P.info? t with
  | some d, some i => some ((match d with | .struct _ | .array _ _ => true | _ => false), i.size)
  | _, _ => none

/-- a slice type's element: its cells, its bytes -/
def elemOf (t : TypeId) : Option (TypeId × Nat × Nat) :=
  match P.underlying t with
  | some (.slice e) => match P.info? e with
    | some i => some (e, i.size, i.bytes)
    | none => none
  | _ => none

def zeroOf (t : TypeId) : Option (List Value) :=
  match P.info? t with
  | some i => match i.zero with
    | some v => if v.cells.all closedCell then some v.cells.toList else none
    | none => none
  | none => none

def aLoad (t : TypeId) (a : Value) (h : AHeap) : Option Value :=
  match a, lay P t with
  | .pointer (some ⟨n, off, none⟩), some (true, k) => (h.loadN n off k).map fun l => .agg ⟨l⟩
  | .pointer (some ⟨n, off, none⟩), some (false, _) => h.load1 n off
  | _, _ => none

def aStore (t : TypeId) (a v : Value) (h : AHeap) : Option AHeap :=
  match a, lay P t with
  | .pointer (some ⟨n, off, none⟩), some (_, k) => if v.cells.size = k then h.storeN n off v.cells.toList else none
  | _, _ => none

def places (fs : List Field) : Option (List (Nat × Nat)) :=
  match fs with
  | [] => some []
  | f :: fs => match P.info? f.type, places fs with
    | some i, some l => some ((f.offset, i.size) :: l)
    | _, _ => none

def aBuild (t : TypeId) (parts : List (Nat × Value)) : Option Value :=
  match zeroOf P t with
  | none => none
  | some z =>
    match P.underlying t with
    | some (.struct fields) => match places P fields.toList with
      | some l => (Instr.fill (l[·]?) ⟨z⟩ parts).map .agg
      | none => none
    | some (.array _ e) => match P.info? e with
      | some i => (Instr.fill (fun k => some (k * i.size, i.size)) ⟨z⟩ parts).map .agg
      | none => none
    | _ => none

def repeatCells (z : List Value) : Nat → List Value
  | 0 => []
  | n + 1 => z ++ repeatCells z n

def aBuildSlice (t : TypeId) (len : Nat) (parts : List (Nat × Value)) (n : Nat) : Option (Value × ABlk) :=
  match elemOf P t with
  | none => none
  | some (e, size, _) =>
    match zeroOf P e with
    | none => none
    | some z =>
      if z.length = size ∧ len * size ≤ 2 ^ 24 ∧ 0 < size then
        match Instr.fill (fun i => some (i * size, size)) ⟨repeatCells z len⟩ parts with
        | some cells => some (.slice (some ⟨n, 0, none⟩) len len, ⟨cells.toList, size, 0, none⟩)
        | none => none
      else none

def aMakeSlice (t : TypeId) (l c : Value) (n : Nat) : Option (Value × ABlk) :=
  match elemOf P t, l, c with
  | some (e, size, bytes), .int .i64 l, .int .i64 c =>
    match zeroOf P e with
    | none => none
    | some z =>
      if z.length = size ∧ 0 ≤ l ∧ l ≤ c ∧ bytes * c ≤ 2 ^ 47 ∧ c ≤ 2 ^ 47 ∧ 0 < size then
        some (.slice (some ⟨n, 0, none⟩) l.toNat c.toNat, ⟨repeatCells z c.toNat, size, 0, none⟩)
      else none
  | _, _, _ => none

def aFieldAddr (s : TypeId) (a : Value) (f : Nat) : Option Value :=
  match P.underlying s, a with
  | some (.struct fields), .pointer (some ⟨n, off, none⟩) => match fields[f]? with
    | some fd => match P.info? fd.type with
      | some i => if i.size = 0 then none else some (.pointer (some ⟨n, off + fd.offset, none⟩))
      | none => none
    | none => none
  | _, _ => none

def aPart (t : TypeId) (cs : List Value) (off : Nat) : Option Value :=
  match lay P t with
  | some (true, k) => if off + k ≤ cs.length then some (.agg ⟨(cs.drop off).take k⟩) else none
  | some (false, _) => cs[off]?
  | none => none

def aField (s : TypeId) (x : Value) (f : Nat) : Option Value :=
  match P.underlying s, x with
  | some (.struct fields), .agg cs => match fields[f]? with
    | some fd => aPart P fd.type cs.toList fd.offset
    | none => none
  | _, _ => none

def aIndexAddr (t : TypeId) (x i : Value) : Option Value :=
  match P.underlying t, x, i with
  | some (.slice e), .slice (some ⟨n, off, none⟩) len _, .int _ i =>
    match P.info? e with
    | some inf => if 0 ≤ i ∧ i < len then some (.pointer (some ⟨n, off + i.toNat * inf.size, none⟩)) else none
    | none => none
  | some (.array len e), .pointer (some ⟨n, off, none⟩), .int _ i =>
    match P.info? e with
    | some inf => if 0 ≤ i ∧ i < len then some (.pointer (some ⟨n, off + i.toNat * inf.size, none⟩)) else none
    | none => none
  | _, _, _ => none

def aIndex (t : TypeId) (x i : Value) : Option Value :=
  match P.underlying t, x, i with
  | some .string, .string s, .int _ i =>
    if 0 ≤ i then match s[i.toNat]? with
      | some b => some (.int .u8 b.toNat)
      | none => none
    else none
  | some (.array len e), .agg cs, .int _ i =>
    match P.info? e with
    | some inf => if 0 ≤ i ∧ i < len then aPart P e cs.toList (i.toNat * inf.size) else none
    | none => none
  | _, _, _ => none

def aBound (x : Option Value) (d y : Nat) : Option Nat :=
  match x with
  | none => some d
  | some (.int _ i) => if 0 ≤ i ∧ i ≤ y then some i.toNat else none
  | _ => none

def aSlice (t : TypeId) (x : Value) (lo hi mx : Option Value) (h : AHeap) : Option Value :=
  match P.underlying t, x with
  | some .string, .string s =>
    match mx with
    | some _ => none
    | none => match aBound hi s.size s.size with
      | none => none
      | some b => match aBound lo 0 b with
        | none => none
        | some a => some (.string (s.extract a b))
  | some (.slice e), .slice a len cap =>
    match P.info? e with
    | none => none
    | some inf =>
      match aBound mx cap cap with
      | none => none
      | some m =>
        if mx.isSome && hi.isNone then none else
        match aBound hi len m with
        | none => none
        | some b => match aBound lo 0 b with
          | none => none
          | some l =>
            if m < b then none else
            match a with
            | none => some (.slice none (b - l) (m - l))
            | some ⟨n, off, none⟩ =>
              if cap = 0 ∨ ((h.get n).st < 2 ∧ (h.get n).esz = inf.size) then some (.slice (some ⟨n, off + l * inf.size, none⟩) (b - l) (m - l)) else none
            | _ => none
  | _, _ => none

def bits (op : BinOp) (k : IntKind) (x y : Int) : Option Int :=
  let a := BitVec.ofInt k.bits x
  let b := BitVec.ofInt k.bits y
  match op with
  | .and => some (k.wrap (a &&& b).toNat)
  | .or => some (k.wrap (a ||| b).toNat)
  | .xor => some (k.wrap (a ^^^ b).toNat)
  | .andNot => some (k.wrap (a &&& ~~~b).toNat)
  | _ => none

def aInt (op : BinOp) (k : IntKind) (a b : Int) : Option Value :=
  match op with
  | .add => some (.int k (k.wrap (a + b)))
  | .sub => some (.int k (k.wrap (a - b)))
  | .mul => some (.int k (k.wrap (a * b)))
  | .quo => if b = 0 then none else some (.int k (k.wrap (a.tdiv b)))
  | .rem => if b = 0 then none else some (.int k (a.tmod b))
  | .and | .or | .xor | .andNot => (bits op k a b).map (.int k)
  | .eql => some (.bool (a == b))
  | .neq => some (.bool (a != b))
  | .lss => some (.bool (a < b))
  | .leq => some (.bool (a ≤ b))
  | .gtr => some (.bool (a > b))
  | .geq => some (.bool (a ≥ b))
  | _ => none

def isEq : BinOp → Option Bool
  | .eql => some true
  | .neq => some false
  | _ => none

def aEq (t : TypeId) (x y : Value) : Option Bool :=
  match P.underlying t, x, y with
  | some .bool, .bool a, .bool b => some (a == b)
  | some (.pointer _), .pointer none, .pointer b => some b.isNone
  | some (.pointer _), .pointer (some _), .pointer none => some false
  | some (.slice _), .slice none _ _, .slice b _ _ => some b.isNone
  | some (.slice _), .slice (some _) _ _, .slice none _ _ => some false
  | _, _, _ => none

def aBin (op : BinOp) (t : TypeId) (x y : Value) : Option Value :=
  match op, x, y with
  | .shl, .int k a, .int _ b => if b < 0 then none else some (.int k (k.wrap (a * 2 ^ (min b.toNat k.bits))))
  | .shr, .int k a, .int _ b => if b < 0 then none else some (.int k (a.fdiv (2 ^ (min b.toNat k.bits))))
  | op, .int k a, .int k' b => if k = k' then aInt op k a b else none
  | .add, .string a, .string b => if (((a.size + b.size : Nat) : Int) > IntKind.i64.max) then none else some (.string (a ++ b))
  | .eql, .string a, .string b => some (.bool (a.toList == b.toList))
  | .neq, .string a, .string b => some (.bool !(a.toList == b.toList))
  | .lss, .string a, .string b => some (.bool (Op.bytesLess a.toList b.toList))
  | .leq, .string a, .string b => some (.bool (Op.bytesLess a.toList b.toList || a.toList == b.toList))
  | .gtr, .string a, .string b => some (.bool !(Op.bytesLess a.toList b.toList || a.toList == b.toList))
  | .geq, .string a, .string b => some (.bool !(Op.bytesLess a.toList b.toList))
  | _, .string _, .string _ => none
  | op, x, y => match isEq op with
    | some e => (aEq P t x y).map fun r => .bool (r == e)
    | none => none

def aUn (op : UnOp) (x : Value) : Option Value :=
  match op, x with
  | .neg, .int k n => some (.int k (k.wrap (0 - n)))
  | .xor, .int k n => (bits .xor k (if k.signed then -1 else k.max) n).map (.int k)
  | .not, .bool b => some (.bool !b)
  | _, _ => none

def bytesOf : List Value → Option (List UInt8)
  | [] => some []
  | .int .u8 n :: l => (bytesOf l).map (UInt8.ofNat n.toNat :: ·)
  | _ :: _ => none

def aSource (size : Nat) (x : Value) (h : AHeap) : Option (Nat × List Value) :=
  match x with
  | .slice none 0 _ => some (0, [])
  | .slice (some ⟨n, off, none⟩) len _ => if len = 0 then some (0, []) else (h.loadN n off (len * size)).map fun l => (len, l)
  | .string s => if size = 1 then some (s.size, s.data.toList.map fun b => .int .u8 b.toNat) else none
  | _ => none

def aAppend (size bytes : Nat) (s : Value) (n : Nat) (vs : List Value) (h : AHeap) : Option (Value × AHeap) :=
  match s with
  | .slice base len cap =>
    if len + n ≤ cap then
      match base with
      | none => some (.slice none (len + n) cap, h)
      | some ⟨b, off, none⟩ =>
        if n = 0 then some (.slice base (len + n) cap, h)
        else if (h.get b).esz = size then (h.storeN b (off + len * size) vs).map fun h' => (.slice base (len + n) cap, h')
        else none
      | _ => none
    else if (len + n) * bytes ≤ 2 ^ 47 ∧ len + n ≤ 2 ^ 47 ∧ len = cap ∧ 0 < size ∧ 0 < bytes ∧ vs.all isCell then
      match base with
      | none => some (.slice (some ⟨h.next, 0, none⟩) n n, h.alloc ⟨vs, size, 0, none⟩)
      | some ⟨b, off, none⟩ =>
        match h.loadN b off (len * size) with
        | none => none
        | some old =>
          let k := h.get b
          if k.esz ≠ size then none
          else if off + len * size = k.cells.length then
            if k.st = 0 then
              let h1 := (h.kill k.prev).upd b ⟨k.cells, k.esz, 1, none⟩
              some (.slice (some ⟨h.next, 0, none⟩) (len + n) (len + n), h1.alloc ⟨old ++ vs, size, 0, some b⟩)
            else none
          else some (.slice (some ⟨h.next, 0, none⟩) (len + n) (len + n), h.alloc ⟨old ++ vs, size, 0, none⟩)
      | _ => none
    else none
  | _ => none

def aMaxF (x : Int) : List Value → Option Value
  | [] => some (.int .i64 x)
  | .int .i64 y :: l => aMaxF (if y > x then y else x) l
  | _ :: _ => none
def aMinF (x : Int) : List Value → Option Value
  | [] => some (.int .i64 x)
  | .int .i64 y :: l => aMinF (if y < x then y else x) l
  | _ :: _ => none

def evParts (T : TS) : List (Nat × Operand) → Option (List (Nat × Value))
  | [] => some []
  | (i, x) :: l => match T.ev x, evParts T l with
    | some v, some vs => some ((i, v) :: vs)
    | _, _ => none

def evOpt (T : TS) : Option Operand → Option (Option Value)
  | none => some none
  | some x => (T.ev x).map some

/-- what an operation is: 0 it computes; 1 it looks at the heap; 2 it makes a block; 3 it may do more -/
def kindOf (o : Op) : Nat :=
  match o with
  | .move _ | .assign _ | .pick .. | .build .. | .nilCheck _ | .binOp .. | .unOp .. | .makeFunc .. | .fieldAddr .. | .field .. | .indexAddr .. | .index .. | .extract .. => 0
  | .call { callee := .builtin .len, .. } | .call { callee := .builtin .max, .. } | .call { callee := .builtin .min, .. } => 0
  | .load .. | .slice .. => 1
  | .alloc _ | .box .. | .buildSlice .. | .makeSlice .. => 2
  | .convert s d _ => match P.underlying s, P.underlying d with
    | some (.slice _), _ => 1
    | _, some (.slice _) => 2
    | _, _ => 0
  | _ => 3

/-- operations of kind 0 -/
def aPure (T : TS) (o : Op) : Option Value :=
  match o with
  | .move x | .assign x => T.ev x
  | .pick c a b => match T.ev c, T.ev a, T.ev b with
    | some (.bool c), some a, some b => some (if c then a else b)
    | _, _, _ => none
  | .build t parts => match evParts T parts.toList with
    | some l => aBuild P t l
    | none => none
  | .nilCheck x => match T.ev x with
    | some (.pointer (some a)) => some (.pointer (some a))
    | some (.func (.func f) c d) => some (.func (.func f) c d)
    | _ => none
  | .binOp op t x y _ => match T.ev x, T.ev y with
    | some x, some y => aBin P op t x y
    | _, _ => none
  | .unOp op _ x => match T.ev x with
    | some x => aUn op x
    | none => none
  | .makeFunc fn a b => match evs T a.toList, evs T b.toList with
    | some a, some b => some (.func fn ⟨a⟩ ⟨b⟩)
    | _, _ => none
  | .fieldAddr s x f => match T.ev x with
    | some x => aFieldAddr P s x f
    | none => none
  | .field s x f => match T.ev x with
    | some x => aField P s x f
    | none => none
  | .indexAddr t x i => match T.ev x, T.ev i with
    | some x, some i => aIndexAddr P t x i
    | _, _ => none
  | .index t x i => match T.ev x, T.ev i with
    | some x, some i => aIndex P t x i
    | _, _ => none
  | .extract x i => match T.ev x with
    | some (.tuple vs) => vs[i]?
    | _ => none
  | .convert s d x => match P.underlying s, P.underlying d, T.ev x with
    | some _, some (.int k), some (.int _ n) => some (.int k (k.wrap n))
    | some .string, some .string, some (.string s) => some (.string s)
    | _, _, _ => none
  | .call { callee := .builtin .len, args, argTypes } => match args.toList, argTypes.toList with
    | [x], [t] => match P.underlying t, T.ev x with
      | some .string, some (.string s) => some (.int .i64 s.size)
      | some (.slice _), some (.slice _ n _) => some (.int .i64 n)
      | some (.array n _), some _ => some (.int .i64 n)
      | _, _ => none
    | _, _ => none
  | .call { callee := .builtin .max, args, .. } => match evs T args.toList with
    | some (.int .i64 x :: l) => aMaxF x l
    | _ => none
  | .call { callee := .builtin .min, args, .. } => match evs T args.toList with
    | some (.int .i64 x :: l) => aMinF x l
    | _ => none
  | _ => none

/-- operations of kind 1 -/
def aLook (T : TS) (h : AHeap) (o : Op) : Option Value :=
  match o with
  | .load t x => match T.ev x with
    | some a => aLoad P t a h
    | none => none
  | .slice t x lo hi mx => match T.ev x, evOpt T lo, evOpt T hi, evOpt T mx with
    | some x, some lo, some hi, some mx => aSlice P t x lo hi mx h
    | _, _, _, _ => none
  | .convert s d x => match P.underlying s, P.underlying d, T.ev x with
    | some (.slice e), some .string, some (.slice a len _) =>
      match P.underlying e with
      | some (.int .u8) => match a with
        | none => some (.string .empty)
        | some ⟨n, off, none⟩ => match h.loadN n off len with
          | some l => (bytesOf l).map fun bs => .string ⟨⟨bs⟩⟩
          | none => none
        | _ => none
      | _ => none
    | _, _, _ => none
  | _ => none

/-- operations of kind 2: the block that is made at 'h.next' -/
def aMake (T : TS) (n : Nat) (o : Op) : Option (Value × ABlk) :=
  match o with
  | .alloc t => match zeroOf P t, P.info? t with
    | some z, some i => some (.pointer (some ⟨n, 0, none⟩), ⟨z, i.size, 0, none⟩)
    | _, _ => none
  | .box t x => match T.ev x, P.info? t with
    | some v, some i => some (.pointer (some ⟨n, 0, none⟩), ⟨v.cells.toList, i.size, 0, none⟩)
    | _, _ => none
  | .buildSlice t len parts => match evParts T parts.toList with
    | some l => aBuildSlice P t len l n
    | none => none
  | .makeSlice t l c => match T.ev l, T.ev c with
    | some l, some c => aMakeSlice P t l c n
    | _, _ => none
  | .convert s d x => match P.underlying s, P.underlying d, T.ev x with
    | some _, some (.slice e), some (.string s) =>
      match P.underlying e with
      | some (.int .u8) => some (.slice (some ⟨n, 0, none⟩) s.size s.size, ⟨s.data.toList.map fun b => .int .u8 b.toNat, 1, 0, none⟩)
      | _ => none
    | _, _, _ => none
  | _ => none

abbrev Callee' := FuncId → List Value → AHeap → Option (Value × AHeap)

/-- operations of kind 3 -/
def aDo (C : Callee') (T : TS) (h : AHeap) (o : Op) : Option (Value × AHeap) :=
  match o with
  | .store t a v => match T.ev a, T.ev v with
    | some a, some v => (aStore P t a v h).map fun h' => (undef, h')
    | _, _ => none
  | .call { callee := .builtin .append, args, argTypes } => match evs T args.toList, argTypes.toList with
    | some [s, x], t :: ts => match elemOf P t with
      | some (e, size, bytes) =>
        match ts with
        | [] => none
        | u :: _ => match P.underlying u with
          | some (.slice _) | some .string => match aSource size x h, zeroOf P e with
            | some (n, vs), some z => if z.length = size then aAppend size bytes s n vs h else none
            | _, _ => none
          | _ => none
      | none => none
    | _, _ => none
  | .call { callee := .builtin .clear, args, argTypes } => match evs T args.toList, argTypes.toList with
    | some [.slice a n _], [t] => match elemOf P t with
      | some (e, size, _) => match a with
        | none => some (.tuple #[], h)
        | some ⟨b, off, none⟩ => if n = 0 then some (.tuple #[], h) else match zeroOf P e with
          | some z => if z.length = size then (h.storeN b off (repeatCells z n)).map fun h' => (.tuple #[], h') else none
          | none => none
        | _ => none
      | none => none
    | _, _ => none
  | .call { callee := .value f, args, .. } => match T.ev f, evs T args.toList with
    | some (.func (.func g) a c), some l => C g (a.toList ++ l ++ c.toList) h
    | _, _ => none
  | _ => none

def aOper (C : Callee') (T : TS) (h : AHeap) (o : Op) : Option (Value × AHeap) :=
  match kindOf P o with
  | 0 => (aPure P T o).map fun v => (v, h)
  | 1 => (aLook P T h o).map fun v => (v, h)
  | 2 => (aMake P T h.next o).map fun (v, b) => (v, h.alloc b)
  | _ => aDo P C T h o

def yieldedA (ops : Array Oper) (T : TS) (j : Nat) : Option Bool :=
  match (ops[j]?).bind (·.dst) with
  | some d => match T.get d with
    | .bool b => some b
    | _ => none
  | none => none

def evOps (C : Callee') (ops : Array Oper) : List Oper → TS → AHeap → Option (TS × AHeap)
  | [], T, h => some (T, h)
  | o :: rest, T, h =>
    if Region.wanted o (yieldedA ops T) then
      match aOper P C T h o.op with
      | some (v, h') => evOps C ops rest (T.put o.dst v) h'
      | none => none
    else evOps C ops rest (T.put o.dst undef) h

inductive AExit where
  | normal
  | exit (id : Nat)
  | ret

abbrev ARes := Option (AExit × TS × AHeap)

def iter (f : TS → AHeap → ARes) : Nat → TS → AHeap → ARes
  | 0, _, _ => none
  | k + 1, T, h =>
    match f T h with
    | some (.normal, T', h') => iter f k T' h'
    | r => r

/-! A region that draws its order: run in the text's order, with checks that any other order does the same -/
structure Ent where
  i : Nat
  kind : Nat
  name : Nat        -- kind 2: the block
  pre : AHeap       -- kind 3: the heap ahead of it
  post : Nat        -- kind 3: the next number behind it
  T : TS            -- kind 1: the slots
  op : Op           -- kind 1
  v : Value         -- kind 1: what it saw

def ordered (B : Array Nat) (i j : Nat) : Bool := (B.getD i 0).testBit j

def lookBlock (T : TS) (o : Op) : Option Nat :=
  match o with
  | .load _ x | .slice _ x _ _ _ | .convert _ _ x => match T.ev x with
    | some (.pointer (some a)) | some (.slice (some a) _ _) => some a.block
    | _ => none
  | _ => none

mutual
def beqV : Value → Value → Bool
  | .bool a, .bool b => a == b
  | .int k a, .int j b => k == j && a == b
  | .string a, .string b => a.data.toList == b.data.toList
  | .pointer a, .pointer b => a == b
  | .slice a l c, .slice b m d => a == b && l == m && c == d
  | .nilFunc, .nilFunc => true
  | .nilIface, .nilIface => true
  | .agg ⟨a⟩, .agg ⟨b⟩ => beqVs a b
  | _, _ => false
def beqVs : List Value → List Value → Bool
  | [], [] => true
  | a :: l, b :: m => beqV a b && beqVs l m
  | _, _ => false
end

def hids (B : Array Nat) (i : Nat) (log : List Ent) : List Nat :=
  (log.filter fun e => e.kind == 2 && !ordered B i e.i).map (·.name)

def maskH (h : AHeap) : List Nat → AHeap
  | [] => h
  | n :: l => maskH (h.upd n deadBlk) l
def unmaskH (h old : AHeap) : List Nat → AHeap
  | [] => h
  | n :: l => unmaskH (h.upd n (old.get n)) old l

/-- may what was looked at be seen behind, and ahead of, an operation that does more -/
def seenAt (T : TS) (o : Op) (v : Value) (h : AHeap) : Bool := match aLook P T h o with
  | some u => beqV u v
  | none => false

/-- what was looked at is seen ahead of each operation that does more and isn't ahead of this one -/
def lookOk (B : Array Nat) (i : Nat) (T : TS) (o : Op) (v : Value) (log : List Ent) : Bool :=
  log.all fun e => !(e.kind == 3) || ordered B i e.i || (match lookBlock T o with
    | some n => (decide (n < e.pre.next) && seenAt P T o v e.pre) || decide (e.post ≤ n)
    | none => true)

/-- one operation: its value, the heap, the log -/
def dStep (C : Callee') (ops : Array Oper) (B : Array Nat) (i : Nat) (o : Oper) (T : TS) (h : AHeap) (log : List Ent) : Option (Value × AHeap × List Ent) :=
  if Region.wanted o (yieldedA ops T) then
    match kindOf P o.op with
    | 0 => (aPure P T o.op).map fun v => (v, h, log)
    | 1 => match aLook P T (maskH h (hids B i log)) o.op with
      | some v =>
        if lookOk P B i T o.op v log then
          some (v, h, ⟨i, 1, 0, h, 0, T, o.op, v⟩ :: log)
        else none
      | none => none
    | 2 => (aMake P T h.next o.op).map fun (v, b) => (v, h.alloc b, ⟨i, 2, h.next, h, 0, T, o.op, v⟩ :: log)
    | _ =>
      if ((hids B i log).all fun n => (h.get n).st == 0) && (log.all fun e => !(e.kind == 3) || ordered B i e.i) then
        match aDo P C T (maskH h (hids B i log)) o.op with
        | some (v, h1) =>
          if log.all fun e => !(e.kind == 1) || ordered B i e.i || seenAt P e.T e.op e.v (unmaskH h1 h (hids B i log)) then
            some (v, unmaskH h1 h (hids B i log), ⟨i, 3, 0, h, h1.next, T, o.op, v⟩ :: log)
          else none
        | none => none
      else none
  else some (undef, h, log)

def evDraw (C : Callee') (ops : Array Oper) (B : Array Nat) : List Oper → Nat → TS → AHeap → List Ent → Option (TS × AHeap)
  | [], _, T, h, _ => some (T, h)
  | o :: rest, i, T, h, log => match dStep P C ops B i o T h log with
    | some (v, h', log') => evDraw C ops B rest (i + 1) (T.put o.dst v) h' log'
    | none => none

/-- an operation's slots -/
def slots (o : Oper) : List Tmp := o.dst.toList ++ o.op.operands.toList.filterMap fun | .tmp t => some t | _ => none
/-- neither writes what the other names -/
def apart (o u : Oper) : Bool :=
  (match o.dst with | some d => !((slots u).contains d) | none => true) && (match u.dst with | some d => !((slots o).contains d) | none => true)

/-- what a region that draws must be -/
def drawOk (ops : Array Oper) : Bool :=
  (ops.toList.zipIdx.all fun (o, i) => o.after.all (fun e => e.on < i || (match e.ground with | .gcOnly _ => e.on != i && e.on < ops.size | _ => false)) &&
    match o.guard with
    | none => true
    | some (j, _) => o.after.any (fun e => e.on == j && Region.binds .any e) &&
      ops.toList.zipIdx.all fun (u, k) => k == j || u.dst.isNone || u.dst != (ops.getD j default).dst) &&
  (let B := Region.before ops
   ops.toList.zipIdx.all fun (o, j) => ops.toList.zipIdx.all fun (u, i) => !(decide (i < j)) || ordered B j i || apart o u)

def evCode (C : Callee') (n : Nat) : Code → TS → AHeap → ARes
  | .skip, T, h => some (.normal, T, h)
  | .region _ ops false, T, h => (evOps P C ops ops.toList T h).map fun (T', h') => (.normal, T', h')
  | .region _ ops true, T, h => if drawOk ops then (evDraw P C ops (Region.before ops) ops.toList 0 T h []).map fun (T', h') => (.normal, T', h') else none
  | .seq a b, T, h => match evCode C n a T h with
    | some (.normal, T', h') => evCode C n b T' h'
    | r => r
  | .cond c a b, T, h => match T.ev c with
    | some (.bool true) => evCode C n a T h
    | some (.bool false) => evCode C n b T h
    | _ => none
  | .block id a, T, h => match evCode C n a T h with
    | some (.exit j, T', h') => if j = id then some (.normal, T', h') else some (.exit j, T', h')
    | r => r
  | .loop a, T, h => iter (evCode C n a) n T h
  | .exit id, T, h => some (.exit id, T, h)
  | .ret, T, h => some (.ret, T, h)
  | _, _, _ => none

def evRes (T : TS) (h : AHeap) : List ResultVar → Option (List Value)
  | [] => some []
  | r :: rs =>
    match (match r with
      | .tmp t => some (T.get t)
      | .cell a t => aLoad P t (T.get a) h), evRes T h rs with
    | some v, some vs => some (v :: vs)
    | _, _ => none

def tupled : List Value → Value
  | [v] => v
  | vs => .tuple ⟨vs⟩

/-- a call: at most d calls deep, loops of at most n rounds -/
def aCall (n : Nat) : Nat → FuncId → List Value → AHeap → Option (Value × AHeap)
  | 0, _, _, _ => none
  | d + 1, f, args, h =>
    match P.funcs[f]? with
    | some fn => match fn.body with
      | some c =>
        if fn.name == "runtime.NumGoroutine" then none else
        match evCode P (aCall n d) n c (TS.init args fn.ntmps) h with
        | some (.exit _, _, _) => none
        | some (_, T, h') => match evRes P T h' fn.results.toList with
          | some vs => some (tupled vs, h')
          | none => none
        | none => none
      | none => none
    | none => none

end
end Go.Ab
