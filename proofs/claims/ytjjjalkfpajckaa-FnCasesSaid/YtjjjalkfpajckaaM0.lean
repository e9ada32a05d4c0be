/- The texts PmA, PmB, PmC, PmD, PmE, PmK0, PmF of this work: A small machine over the model's own code: values whose addresses name rows of a list, one order, no capacities that are left open. -/
import Derived.Tactics
import Derived.LoopN
import Derived.Orders
import Derived.StillTail
import Derived.Laws.CopyRow
import Derived.Laws.MakeOwn
import Derived.ChangeKeysEq
import Derived.Laws.AppendOwn
/- A small machine over the model's own code: values whose addresses name rows of a list, one order, no capacities that are left open. -/
set_option linter.unusedVariables false
set_option linter.unusedSimpArgs false
namespace Go.Pm

/-- A row of memory: its cells, how many cells an element has, whether it may only be read. -/
structure Row where
  cells : List Value
  sz : Nat
  ro : Bool

/-- Memory: rows by their numbers; 'none': a row that is gone. An address is ⟨row, offset, some (the row's length when the address was made)⟩. -/
abbrev Hp := List (Option Row)

def rowAt (h : Hp) (a : Addr) : Option Row :=
  match h[a.block]? with
  | some (some x) => if a.spot = some x.cells.length then some x else none
  | _ => none

def one : Value → Bool
  | .agg _ | .tuple _ => false
  | _ => true

/-- Values that lead nowhere. -/
def plainC : Value → Bool
  | .bool _ | .int _ _ | .string _ | .pointer none | .nilFunc | .slice none 0 0 => true
  | _ => false
def plain : Value → Bool
  | .agg cs => cs.toList.all plainC
  | .tuple cs => cs.toList.all plainC
  | v => plainC v

abbrev Slots := List (Nat × Value)
structure St where
  s : Slots
  h : Hp

def get : Slots → Nat → Option Value
  | [], _ => none
  | (k, v) :: r, t => if k = t then some v else get r t

def ev (s : Slots) : Operand → Option Value
  | .tmp t => get s t
  | .const v => if plain v then some v else none
  | .global _ => none
  | .func f => some (.func (.func f) #[] #[])

def evs (s : Slots) : List Operand → Option (List Value)
  | [] => some []
  | x :: r => (ev s x).bind fun v => (evs s r).map fun l => v :: l

def put (s : Slots) (d : Option Tmp) (v : Value) : Slots :=
  match d with
  | some d => (d, v) :: s
  | none => s

/-- The slots that a loop's head keeps. -/
def keep (K : List Nat) (s : Slots) : Slots := K.filterMap fun t => (get s t).map fun v => (t, v)

def splice : List Value → Nat → List Value → List Value
  | cs, _, [] => cs
  | cs, o, v :: r => splice (cs.set o v) (o + 1) r

def aggD : TypeDesc → Bool
  | .struct _ | .array _ _ => true
  | _ => false

def asI : Value → Option Int
  | .int _ n => some n
  | _ => none

def binI (op : BinOp) (k : IntKind) (a b : Int) : Option Value :=
  match op with
  | .add => some (.int k (k.wrap (a + b)))
  | .sub => some (.int k (k.wrap (a - b)))
  | .mul => some (.int k (k.wrap (a * b)))
  | .quo => if b = 0 then none else some (.int k (k.wrap (a.tdiv b)))
  | .rem => if b = 0 then none else some (.int k (a.tmod b))
  | .and => some (.int k (k.wrap (BitVec.ofInt k.bits a &&& BitVec.ofInt k.bits b).toNat))
  | .or => some (.int k (k.wrap (BitVec.ofInt k.bits a ||| BitVec.ofInt k.bits b).toNat))
  | .xor => some (.int k (k.wrap (BitVec.ofInt k.bits a ^^^ BitVec.ofInt k.bits b).toNat))
  | .andNot => some (.int k (k.wrap (BitVec.ofInt k.bits a &&& ~~~ BitVec.ofInt k.bits b).toNat))
  | .eql => some (.bool (a == b))
  | .neq => some (.bool (a != b))
  | .lss => some (.bool (decide (a < b)))
  | .leq => some (.bool (decide (a ≤ b)))
  | .gtr => some (.bool (decide (a > b)))
  | .geq => some (.bool (decide (a ≥ b)))
  | _ => none

def binS (op : BinOp) (x y : ByteArray) : Option Value :=
  match op with
  | .add => if ((x.size + y.size : Nat) : Int) > IntKind.i64.max then none else some (.string (x ++ y))
  | .eql => some (.bool (x.toList == y.toList))
  | .neq => some (.bool (!(x.toList == y.toList)))
  | .lss => some (.bool (Op.bytesLess x.toList y.toList))
  | .leq => some (.bool (Op.bytesLess x.toList y.toList || x.toList == y.toList))
  | .gtr => some (.bool (!(Op.bytesLess x.toList y.toList || x.toList == y.toList)))
  | .geq => some (.bool (!(Op.bytesLess x.toList y.toList)))
  | _ => none

def shiftI (op : BinOp) (k : IntKind) (a b : Int) : Option Value :=
  if b < 0 then none else
  match op with
  | .shl => some (.int k (k.wrap (a * 2 ^ (min b.toNat k.bits))))
  | .shr => some (.int k (a.fdiv (2 ^ (min b.toNat k.bits))))
  | _ => none

def isShift : BinOp → Bool
  | .shl | .shr => true
  | _ => false

/-- A part of an aggregate. -/
def partP (P : Program) (t : TypeId) (cs : List Value) (off : Nat) : Option Value :=
  match P.underlying t, P.info? t with
  | some d, some i => if aggD d then some (.agg ((cs.drop off).take i.size).toArray) else cs[off]?
  | _, _ => none
def eqF (P : Program) (E : TypeId → Value → Value → Option Bool) (xs ys : List Value) : List Field → Option Bool
  | [] => some true
  | f :: r => if f.name ≠ "_" then (partP P f.type xs f.offset).bind fun a => (partP P f.type ys f.offset).bind fun b => (E f.type a b).bind fun q => (eqF P E xs ys r).map fun q' => q && q' else eqF P E xs ys r
def eqE (P : Program) (E : TypeId → Value → Value → Option Bool) (e : TypeId) (xs ys : List Value) : List Nat → Option Bool
  | [] => some true
  | i :: r => (partP P e xs (i * P.cellsOf e)).bind fun a => (partP P e ys (i * P.cellsOf e)).bind fun b => (E e a b).bind fun q => (eqE P E e xs ys r).map fun q' => q && q'
/-- Equality of values that lead nowhere. -/
def eqV (P : Program) : Nat → TypeId → Value → Value → Option Bool
  | 0, _, _, _ => none
  | d + 1, t, x, y => match P.underlying t, x, y with
    | some .bool, .bool a, .bool b => some (a == b)
    | some (.int _), .int k a, .int k' b => if k = k' then some (a == b) else none
    | some .string, .string a, .string b => some (a == b)
    | some (.struct fs), .agg xs, .agg ys => if P.stoodInHeld t then none else eqF P (eqV P d) xs.toList ys.toList fs.toList
    | some (.array n e), .agg xs, .agg ys => match P.info? e with
      | some _ => eqE P (eqV P d) e xs.toList ys.toList (List.range n)
      | none => none
    | _, _, _ => none
/-- == of aggregates. -/
def eqAgg (P : Program) (t : TypeId) (x y : Value) : Option Bool := if P.eqGuardType P.depth t then none else eqV P 8 t x y

def binP (P : Program) (op : BinOp) (t : TypeId) (x y : Value) : Option Value :=
  match x, y with
  | .int k a, .int k' b => if isShift op then shiftI op k a b else if k = k' then binI op k a b else none
  | .string a, .string b => binS op a b
  | .bool a, .bool b =>
    match P.underlying t, op with
    | some .bool, .eql => some (.bool (a == b))
    | some .bool, .neq => some (.bool (!(a == b)))
    | _, _ => none
  | .agg xs, .agg ys => match op with
    | .eql => (eqAgg P t (.agg xs) (.agg ys)).map .bool
    | .neq => (eqAgg P t (.agg xs) (.agg ys)).map fun b => .bool (!b)
    | _ => none
  | _, _ => none

/-- nil, marked: what holds it in the model is nil for sure. -/
def nilM : Value := .slice none 0 1
def nilV : Value → Bool
  | .slice none 0 0 => true
  | _ => false
/-- The constant nil. -/
def nilC : Operand → Bool
  | .const v => nilV v
  | _ => false
/-- == nil. -/
def nilP (P : Program) (op : BinOp) (t : TypeId) (v : Value) : Option Value :=
  match P.underlying t, op, v with
  | some (.slice _), .eql, .slice none 0 1 => some (.bool true)
  | some (.slice _), .neq, .slice none 0 1 => some (.bool false)
  | some (.slice _), .eql, .slice (some _) _ _ => some (.bool false)
  | some (.slice _), .neq, .slice (some _) _ _ => some (.bool true)
  | _, _, _ => none
def binN (P : Program) (op : BinOp) (t : TypeId) (x y : Value) (c : Bool) : Option Value := if c = true then nilP P op t x else binP P op t x y

def convP (P : Program) (t u : TypeId) (x : Value) : Option Value :=
  match P.underlying t, P.underlying u, x with
  | some (.int _), some (.int k), .int _ n => some (.int k (k.wrap n))
  | some .string, some .string, .string s => some (.string s)
  | _, _, _ => none

def unP (op : UnOp) (x : Value) : Option Value :=
  match op, x with
  | .neg, .int k n => some (.int k (k.wrap (0 - n)))
  | .not, .bool b => some (.bool !b)
  | _, _ => none

def loadP (P : Program) (h : Hp) (t : TypeId) : Value → Option Value
  | .pointer (some a) =>
    match rowAt h a, P.underlying t, P.info? t with
    | some x, some d, some i =>
      if aggD d then if a.off + i.size ≤ x.cells.length then some (.agg ((x.cells.drop a.off).take i.size).toArray) else none
      else x.cells[a.off]?
    | _, _, _ => none
  | _ => none

def storeP (P : Program) (h : Hp) (t : TypeId) (v : Value) : Value → Option Hp
  | .pointer (some a) =>
    match rowAt h a, P.info? t with
    | some x, some i =>
      if x.ro = false ∧ v.cells.size = i.size ∧ a.off + i.size ≤ x.cells.length ∧ v.cells.toList.all one = true then some (h.set a.block (some { x with cells := splice x.cells a.off v.cells.toList })) else none
    | _, _ => none
  | _ => none

def newP (h : Hp) (cells : List Value) (sz : Nat) : Addr × Hp := (⟨h.length, 0, some cells.length⟩, h ++ [some ⟨cells, sz, false⟩])

def addP (a : Addr) (n : Nat) : Addr := { a with off := a.off + n }


def fieldsOf (P : Program) (t : TypeId) : Option (List Field) :=
  match P.underlying t with
  | some (.struct fs) => some fs.toList
  | _ => none

def indexAddrP (P : Program) (h : Hp) (t : TypeId) (x i : Value) : Option Value :=
  match P.underlying t, x, i with
  | some (.slice e), .slice (some a) n _, .int _ j =>
    match P.info? e, rowAt h a with
    | some q, some _ => if 0 ≤ j ∧ j < n then some (.pointer (some (addP a (j.toNat * q.size)))) else none
    | _, _ => none
  | some (.array n e), .pointer (some a), .int _ j =>
    match P.info? e with
    | some q => if 0 ≤ j ∧ j < n then some (.pointer (some (addP a (j.toNat * q.size)))) else none
    | _ => none
  | _, _, _ => none

def indexP (P : Program) (t : TypeId) (x i : Value) : Option Value :=
  match P.underlying t, x, i with
  | some (.array n e), .agg cs, .int _ j =>
    match P.info? e with
    | some q => if 0 ≤ j ∧ j < n then partP P e cs.toList (j.toNat * q.size) else none
    | _ => none
  | some .string, .string s, .int _ j => if 0 ≤ j then (s[j.toNat]?).map fun b => .int .u8 b.toNat else none
  | _, _, _ => none

def loP : Option Value → Option Int
  | some v => asI v
  | none => some 0
def hiP (d : Int) : Option Value → Option Int
  | some v => asI v
  | none => some d

def sliceP (P : Program) (h : Hp) (t : TypeId) (x : Value) (lo hi : Option Value) : Option Value :=
  match P.underlying t, x with
  | some (.slice e), .slice (some a) n c =>
    match P.info? e, rowAt h a, hiP n hi, loP lo with
    | some q, some x, some u, some l =>
      if 0 ≤ l ∧ l ≤ u ∧ u ≤ c ∧ x.sz = q.size then some (.slice (some (addP a (l.toNat * q.size))) (u.toNat - l.toNat) (c - l.toNat)) else none
    | _, _, _, _ => none
  | some (.slice e), .slice none 0 0 =>
    match P.info? e, hiP 0 hi, loP lo with
    | some _, some u, some l => if l = 0 ∧ u = 0 then some (.slice none 0 0) else none
    | _, _, _ => none
  | some .string, .string s =>
    match hiP s.size hi, loP lo with
    | some u, some l => if 0 ≤ l ∧ l ≤ u ∧ u ≤ s.size then some (.string (s.extract l.toNat u.toNat)) else none
    | _, _ => none
  | _, _ => none

def zeroP (P : Program) (t : TypeId) : Option Value :=
  match P.info? t with
  | some i => match i.zero with
    | some z => if plain z ∧ z.cells.size = i.size then some z else none
    | none => none
  | none => none

def reps : Nat → List Value → List Value
  | 0, _ => []
  | n + 1, z => z ++ reps n z

def makeP (P : Program) (h : Hp) (t : TypeId) (l c : Value) : Option (Value × Hp) :=
  match P.underlying t, asI l, asI c with
  | some (.slice e), some n, some m =>
    match P.info? e, zeroP P e with
    | some q, some z =>
      if 0 ≤ n ∧ n ≤ m ∧ m * q.bytes ≤ 2 ^ 47 ∧ 0 < q.size ∧ 0 < q.bytes ∧ m < 2 ^ 62 then
        let r := newP h (reps m.toNat z.cells.toList) q.size
        some (.slice (some r.1) n.toNat m.toNat, r.2)
      else none
    | _, _ => none
  | _, _, _ => none

def fillP (place : Nat → Option (Nat × Nat)) : List Value → List (Nat × Value) → Option (List Value)
  | cells, [] => some cells
  | cells, (i, v) :: r =>
    match place i with
    | none => none
    | some (off, size) => if v.cells.size = size ∧ off + size ≤ cells.length then fillP place (splice cells off v.cells.toList) r else none

def places (P : Program) : List Field → Option (List (Nat × Nat))
  | [] => some []
  | f :: r => match P.info? f.type, places P r with
    | some i, some l => some ((f.offset, i.size) :: l)
    | _, _ => none

def buildP (P : Program) (t : TypeId) (parts : List (Nat × Value)) : Option Value :=
  match P.underlying t, zeroP P t with
  | some (.struct fs), some z =>
    match places P fs.toList with
    | some pl => (fillP (pl[·]?) z.cells.toList parts).map fun cs => .agg cs.toArray
    | none => none
  | some (.array _ e), some z =>
    match P.info? e with
    | some q => (fillP (fun i => some (i * q.size, q.size)) z.cells.toList parts).map fun cs => .agg cs.toArray
    | none => none
  | _, _ => none

def buildSliceP (P : Program) (h : Hp) (t : TypeId) (len : Nat) (parts : List (Nat × Value)) : Option (Value × Hp) :=
  match P.underlying t with
  | some (.slice e) =>
    match P.info? e, zeroP P e with
    | some q, some z =>
      if len = 0 then (if parts = [] then some (.slice none 0 0, h) else none) else
      if 0 < q.size ∧ len * q.size ≤ 2 ^ 24 then
        match fillP (fun i => some (i * q.size, q.size)) (reps len z.cells.toList) parts with
        | some cs => if cs.all one then
            let r := newP h cs q.size
            some (.slice (some r.1) len len, r.2) else none
        | none => none
      else none
    | _, _ => none
  | _ => none

def evParts (s : Slots) : List (Nat × Operand) → Option (List (Nat × Value))
  | [] => some []
  | (i, x) :: r => (ev s x).bind fun v => (evParts s r).map fun l => (i, v) :: l

def evO (s : Slots) : Option Operand → Option (Option Value)
  | none => some none
  | some x => (ev s x).map some

/-- Operations that call no function. -/
def op1 (P : Program) (s : Slots) (h : Hp) : Op → Option (Value × Hp)
  | .move x | .assign x => (ev s x).map fun v => (v, h)
  | .pick c a b => match ev s c with
    | some (.bool t) => (ev s (if t then a else b)).map fun v => (v, h)
    | _ => none
  | .alloc e => (zeroP P e).map fun z => let r := newP h z.cells.toList 0; (.pointer (some r.1), r.2)
  | .box _ x => (ev s x).bind fun v => if v.cells.toList.all one then let r := newP h v.cells.toList 0; some (.pointer (some r.1), r.2) else none
  | .build t parts => (evParts s parts.toList).bind fun l => (buildP P t l).map fun v => (v, h)
  | .buildSlice t len parts => (evParts s parts.toList).bind fun l => buildSliceP P h t len l
  | .load t a => (ev s a).bind fun v => (loadP P h t v).map fun x => (x, h)
  | .store t a x => (ev s a).bind fun v => (ev s x).bind fun u => (storeP P h t u v).map fun h' => (undef, h')
  | .nilCheck x => match ev s x with
    | some (.pointer (some a)) => some (.pointer (some a), h)
    | some (.func (.func f) a b) => some (.func (.func f) a b, h)
    | _ => none
  | .binOp op t x y _ => (ev s x).bind fun v => (ev s y).bind fun u => (binN P op t v u (nilC y)).map fun r => (r, h)
  | .unOp op _ x => (ev s x).bind fun v => (unP op v).map fun r => (r, h)
  | .convert t u x => (ev s x).bind fun v => (convP P t u v).map fun r => (r, h)
  | .makeFunc fn first captured => (evs s first.toList).bind fun a => (evs s captured.toList).map fun b => (.func fn a.toArray b.toArray, h)
  | .makeSlice t l c => (ev s l).bind fun a => (ev s c).bind fun b => makeP P h t a b
  | .slice t x lo hi mx => match mx with
    | none => (ev s x).bind fun v => (evO s lo).bind fun l => (evO s hi).bind fun u => (sliceP P h t v l u).map fun r => (r, h)
    | some _ => none
  | .fieldAddr t x j => match fieldsOf P t, ev s x with
    | some fs, some (.pointer (some a)) => match fs[j]? with
      | some f => match P.info? f.type with
        | some i => if 0 < i.size then some (.pointer (some (addP a f.offset)), h) else none
        | none => none
      | none => none
    | _, _ => none
  | .field t x j => match fieldsOf P t, ev s x with
    | some fs, some (.agg cs) => match fs[j]? with
      | some f => (partP P f.type cs.toList f.offset).map fun v => (v, h)
      | none => none
    | _, _ => none
  | .indexAddr t x i => (ev s x).bind fun v => (ev s i).bind fun u => (indexAddrP P h t v u).map fun r => (r, h)
  | .index t x i => (ev s x).bind fun v => (ev s i).bind fun u => (indexP P t v u).map fun r => (r, h)
  | .extract x j => match ev s x with
    | some (.tuple vs) => (vs[j]?).map fun v => (v, h)
    | _ => none
  | _ => none

/-- The cells of a slice that are seen. -/
def seenP (h : Hp) (size : Nat) : Value → Option (List Value)
  | .slice none 0 0 => some []
  | .slice (some a) n _ => match rowAt h a with
    | some x => if a.off + n * size ≤ x.cells.length ∧ x.sz = size then some ((x.cells.drop a.off).take (n * size)) else none
    | none => none
  | _ => none

def lenP : Value → Option Nat
  | .slice _ n _ => some n
  | _ => none

/-- append: in place where what is seen has room; a row that is grown at its end keeps its number; else a new row, and the old one is gone. -/
def appendP (P : Program) (h : Hp) (t : TypeId) (s x : Value) : Option (Value × Hp) :=
  match P.underlying t with
  | some (.slice e) =>
    match P.info? e, zeroP P e, lenP x with
    | some q, some _, some m =>
      match seenP h q.size x with
      | some ys =>
        if 0 < q.size ∧ 0 < q.bytes ∧ ys.all one = true then
          match s with
          | .slice none 0 0 =>
            if m = 0 then some (.slice none 0 0, h)
            else if m * q.bytes ≤ 2 ^ 47 then
              let r := newP h ys q.size
              some (.slice (some r.1) m m, r.2)
            else none
          | .slice (some a) n c =>
            match rowAt h a with
            | some r =>
              if r.ro = false ∧ r.sz = q.size ∧ a.off + c * q.size ≤ r.cells.length ∧ (n + m) * q.bytes ≤ 2 ^ 47 then
                if n + m ≤ c then some (.slice (some a) (n + m) c, h.set a.block (some { r with cells := splice r.cells (a.off + n * q.size) ys }))
                else if a.off = 0 ∧ n * q.size = r.cells.length then
                  some (.slice (some ⟨a.block, 0, some (r.cells ++ ys).length⟩) (n + m) (n + m), h.set a.block (some { r with cells := r.cells ++ ys }))
                else
                  let zs := (r.cells.drop a.off).take (n * q.size) ++ ys
                  let w := newP (h.set a.block none) zs q.size
                  some (.slice (some w.1) (n + m) (n + m), w.2)
              else none
            | none => none
          | _ => none
        else none
      | none => none
    | _, _, _ => none
  | _ => none

def copyP (P : Program) (h : Hp) (t : TypeId) (d x : Value) : Option (Value × Hp) :=
  match P.underlying t, lenP d, lenP x with
  | some (.slice e), some n, some m =>
    match P.info? e with
    | some q =>
      match d, seenP h q.size x with
      | .slice none 0 0, some _ => some (.int .i64 0, h)
      | .slice (some a) _ _, some ys =>
        match rowAt h a with
        | some r =>
          if r.ro = false ∧ r.sz = q.size ∧ a.off + n * q.size ≤ r.cells.length ∧ ys.all one = true then
            some (.int .i64 (min m n : Nat), h.set a.block (some { r with cells := splice r.cells a.off (ys.take (min m n * q.size)) }))
          else none
        | none => none
      | _, _ => none
    | none => none
  | _, _, _ => none

def lenB (P : Program) (t : TypeId) (x : Value) : Option Value :=
  match P.underlying t, x with
  | some .string, .string s => some (.int .i64 s.size)
  | some (.array n _), _ => some (.int .i64 n)
  | some (.slice _), .slice _ n _ => some (.int .i64 n)
  | _, _ => none

def foldI (f : Int → Int → Int) : Int → List Value → Option Int
  | a, [] => some a
  | a, .int .i64 b :: r => foldI f (f a b) r
  | _, _ => none

def builtinP (P : Program) (h : Hp) (b : Builtin) (ts : List TypeId) (args : List Value) : Option (Value × Hp) :=
  match b, ts, args with
  | .len, t :: _, x :: _ => (lenB P t x).map fun v => (v, h)
  | .append, [t, u], [s, x] => if t = u then appendP P h t s x else none
  | .copy, [t, _], [d, x] => copyP P h t d x
  | .max, _, .int .i64 a :: r => (foldI (fun x y => if y > x then y else x) a r).map fun v => (.int .i64 v, h)
  | .min, _, .int .i64 a :: r => (foldI (fun x y => if y < x then y else x) a r).map fun v => (.int .i64 v, h)
  | _, _, _ => none

def wantP (ops : Array Oper) (s : Slots) (o : Oper) : Option Bool :=
  match o.guard with
  | none => some true
  | some (j, want) => match (ops[j]?).bind (·.dst) with
    | some d => match get s d with
      | some (.bool b) => some (b == want)
      | some _ => some false
      | none => none
    | none => some false

inductive Ex where
  | normal
  | exit (id : Nat)
  | ret

def dstOk (N : Nat) : Option Tmp → Bool
  | some d => decide (d < N)
  | none => true

def number : Nat → List Value → Slots
  | _, [] => []
  | i, v :: r => (i, v) :: number (i + 1) r

def res1 (P : Program) (st : St) : ResultVar → Option Value
  | .tmp t => get st.s t
  | .cell a t => (get st.s a).bind (loadP P st.h t)

def resL (P : Program) (st : St) : List ResultVar → Option (List Value)
  | [] => some []
  | x :: r => (res1 P st x).bind fun v => (resL P st r).map fun l => v :: l

def resP (P : Program) (rs : Array ResultVar) (st : St) : Option Value :=
  (resL P st rs.toList).map fun
    | [v] => v
    | l => .tuple l.toArray

/-- A function that may be entered: its code, its slots, its results. -/
def enterP (P : Program) (g : FuncId) : Option (Code × Nat × Array ResultVar) :=
  match P.funcs[g]? with
  | some fn => if fn.name == "runtime.NumGoroutine" then none else match fn.body with
    | some c => some (c, fn.ntmps, fn.results)
    | none => none
  | none => none

/-- What is told of a function beside its code: the slots that a loop's head keeps; of each region that draws its order, how many operations may come up in any order before the rest comes in line. -/
structure GI where
  keep : List (Nat × List Nat)
  heads : List (Nat × Nat)
  /-- regions some of whose operations write rows that earlier ones make: how many may come up in any order, and for these the number of the operation from which on they may write rows. -/
  qs : List (Nat × Nat × List (Nat × Nat))

/-- The number of the first region of a piece of code. -/
def firstId : Code → Nat
  | .region id _ _ => id
  | .seq a _ => firstId a
  | .cond _ a _ => firstId a
  | .block _ b => firstId b
  | .loop b => firstId b
  | _ => 0
def keepAt : List (Nat × List Nat) → Nat → List Nat
  | [], _ => []
  | (k, l) :: r, id => if k = id then l else keepAt r id

def headOf : List (Nat × Nat) → Nat → Option Nat
  | [], _ => none
  | (k, n) :: r, id => if k = id then some n else headOf r id

def headQ : List (Nat × Nat × List (Nat × Nat)) → Nat → Option (Nat × List (Nat × Nat))
  | [], _ => none
  | (k, x) :: r, id => if k = id then some x else headQ r id
def qAt : List (Nat × Nat) → Nat → Option Nat
  | [], _ => none
  | (k, j) :: r, i => if k = i then some j else qAt r i

/-- A mark: operation i alone writes; behind it memory stays. -/
def lateQ : List (Nat × Nat) → Option Nat
  | [] => none
  | (k, i) :: _ => if k = 1000 then some i else none
def listedTo (n m : Nat) : Array Bool := (List.replicate n true ++ List.replicate m false).toArray

/-- The first n operations may come up in any order that the edges allow; the others come in line behind them. -/
def drawOk (ops : Array Oper) (n : Nat) : Bool :=
  decide (n < ops.size) && Region.sinkB .any ops n && Region.chainB .any ops n && Region.seqB .any ops (ops.size - n) n (listedTo n (ops.size - n)) &&
  ((List.range ops.size).all fun i => match ops[i]? with
    | some o => o.after.all fun e => !Region.binds .any e || decide (e.on < i)
    | none => true) &&
  ((List.range n).all fun i => match ops[i]? with
    | some o => (o.looksAt ops).all fun t => (List.range n).all fun j => match (ops[j]?).bind (·.dst) with
      | some d => d != t || (decide (j < i) && Region.waitsFor .any ops i j)
      | none => true
    | none => true) &&
  ((List.range n).all fun i => match (ops[i]?).bind (·.dst) with
    | some d => (List.range i).all fun j => (ops[j]?).bind (·.dst) != some d
    | none => true)

/-- As drawOk; a slot that one of them sets may be read by those that it waits for. -/
def drawW (ops : Array Oper) (n : Nat) : Bool :=
  decide (n < ops.size) && Region.sinkB .any ops n && Region.chainB .any ops n && Region.seqB .any ops (ops.size - n) n (listedTo n (ops.size - n)) &&
  ((List.range ops.size).all fun i => match ops[i]? with
    | some o => o.after.all fun e => !Region.binds .any e || decide (e.on < i)
    | none => true) &&
  ((List.range n).all fun i => match ops[i]? with
    | some o => (o.looksAt ops).all fun t => (List.range n).all fun j => match (ops[j]?).bind (·.dst) with
      | some d => d != t || (decide (j < i) && Region.waitsFor .any ops i j) || (decide (i < j) && Region.waitsFor .any ops j i)
      | none => true
    | none => true) &&
  ((List.range n).all fun i => match (ops[i]?).bind (·.dst) with
    | some d => (List.range i).all fun j => (ops[j]?).bind (·.dst) != some d
    | none => true)

/-- A region that sets a slot to nil, and is told to mark it. -/
def nilDst (x : Option Nat) (ops : Array Oper) : Option Nat := match x with
  | none => none
  | some _ => match ops.toList with
    | [o] => match o.op, o.guard, o.dst with
      | .assign c, none, some t => if nilC c = true then some t else none
      | _, _, _ => none
    | _ => none
def isAlloc : Op → Bool
  | .alloc _ => true
  | _ => false
/-- Operation n stores into a row that the region itself makes for it alone, and may come up before the others are done. -/
def earlyB (ops : Array Oper) (n : Nat) : Bool :=
  match ops[n]? with
  | some o => o.dst.isNone && o.guard.isNone && (match o.op with
    | .store _ (.tmp ta) x => (List.range n).any fun ia =>
        (match ops[ia]? with | some oa => oa.dst == some ta && oa.guard.isNone && isAlloc oa.op | none => false) && Region.waitsFor .any ops n ia &&
        ((List.range n).all fun i => decide (i ≤ ia) || (match ops[i]? with | some oi => isAlloc oi.op | none => false)) &&
        (match x with
         | .tmp tx => (List.range n).all fun j => (ops[j]?).bind (·.dst) != some tx || decide (j < ia)
         | .const _ => true
         | _ => false)
    | _ => false)
  | none => false

/-- Operation i waits for operation k, if only by others. -/
def waitsT (ops : Array Oper) : Nat → Nat → Nat → Bool
  | 0, _, _ => false
  | f + 1, i, k => Region.waitsFor .any ops i k || (List.range i).any fun j => Region.waitsFor .any ops i j && waitsT ops f j k
/-- Operations that neither look at memory nor write it. -/
def pureB : Op → Bool
  | .move _ | .assign _ | .pick _ _ _ | .build _ _ | .binOp _ _ _ _ _ | .unOp _ _ _ | .convert _ _ _ | .makeFunc _ _ _ | .field _ _ _ | .index _ _ _ | .extract _ _ | .nilCheck _ | .fieldAddr _ _ _ => true
  | .call c => match c.callee with
    | .builtin .len | .builtin .min | .builtin .max => true
    | _ => false
  | _ => false
/-- A load by way of a slot that the region does not write: what it looks at was there before. -/
def oldLoad (ops : Array Oper) : Op → Bool
  | .load _ (.tmp x) => ops.toList.all fun o => o.dst != some x
  | _ => false
/-- A slot that holds what was there before: these operations do not write it, or move to it what was there before. -/
def oldSlot (ops : List Oper) (x : Nat) : Bool := ops.all fun o => o.dst != some x || (match o.op with
  | .move (.tmp y) => o.guard.isNone && ops.all fun o' => o'.dst != some y
  | _ => false)
/-- A part of a slice that was there before. -/
def oldSlice (ops : List Oper) : Op → Bool
  | .slice _ (.tmp x) _ _ none => oldSlot ops x
  | _ => false
/-- An operation that looks at nothing that the region makes. -/
def freeB (ops : Array Oper) (k : Nat) : Bool := match ops[k]? with
  | some o => (isAlloc o.op || pureB o.op || oldLoad ops o.op || oldSlice (ops.toList.take k) o.op) && o.guard.isNone
  | none => false
def qOf (q : List (Nat × Nat)) (i : Nat) : Nat := (qAt q i).getD i
def drawG (ops : Array Oper) (n : Nat) (q : List (Nat × Nat)) : Bool :=
  drawOk ops n && q.all fun (i, j) => qAt q i == some j && decide (j < i) && !freeB ops i && ((List.range i).all fun k => decide (k < j) || waitsT ops n i k) &&
    ((List.range n).all fun k => decide (k ≤ i) || freeB ops k || waitsT ops n k i)

def pureAt (ops : Array Oper) (k : Nat) : Bool := match ops[k]? with
  | some o => pureB o.op
  | none => false
/-- Operation n writes; of those before it only some that do not look at memory may come up behind it. -/
def lateB (ops : Array Oper) (n : Nat) : Bool :=
  match ops[n]? with
  | some o => o.guard.isNone && (match o.op with
      | .store _ _ _ => true
      | .call c => (match c.callee with | .builtin _ => true | _ => false)
      | _ => false) && (List.range n).all fun k => pureAt ops k || waitsT ops n n k
  | none => false

/-- Operation i of the head writes: those ahead of it are waited for, or do not look at memory, or are marked loads; those behind it wait for it. -/
def lateG (ops : Array Oper) (n : Nat) (q : List (Nat × Nat)) (i : Nat) : Bool :=
  drawOk ops n && decide (i < n) && (match ops[i]? with | some o => o.guard.isNone | none => false) &&
  (List.range n).all fun k => decide (k = i) || (if k < i then waitsT ops n i k || pureAt ops k || (q.contains (1001, k) && (match ops[k]? with | some o => o.guard.isNone && o.dst.isSome | none => false)) else waitsT ops n k i)

def codeOk (gi : GI) : Code → Bool
  | .region id ops true => match headOf gi.heads id with
    | some n => drawW ops n || (drawOk ops (n + 1) && (earlyB ops n || lateB ops n))
    | none => match headQ gi.qs id with
      | some (n, q) => (match lateQ q with | some i => lateG ops n q i | none => drawG ops n q)
      | none => true
  | .seq a b => codeOk gi a && codeOk gi b
  | .cond _ a b => codeOk gi a && codeOk gi b
  | .block _ b => codeOk gi b
  | .loop b => codeOk gi b
  | _ => true

def enterG (P : Program) (gi : GI) (g : FuncId) : Option (Code × Nat × Array ResultVar) :=
  match enterP P g with
  | some (c, N, rs) => if codeOk gi c then some (c, N, rs) else none
  | none => none

def newOk (h h' : Hp) : Prop := h <+: h' ∧ (h'.drop h.length).all (fun | some x => !x.ro | none => true) = true
open Classical in
/-- Operations that may come up in any order: none of them writes what was there. -/
noncomputable def runH (F : Oper → St → Option (Value × Hp)) (N : Nat) (ops : Array Oper) : List Oper → St → Option St
  | [], st => some st
  | o :: r, st =>
    if dstOk N o.dst then match wantP ops (keep (o.looksAt ops) st.s) o with
      | some false => runH F N ops r ⟨put st.s o.dst undef, st.h⟩
      | some true => match F o ⟨keep (o.looksAt ops) st.s, st.h⟩ with
        | some (v, h') => if newOk st.h h' then runH F N ops r ⟨put st.s o.dst v, h'⟩ else none
        | none => none
      | none => none
    else none

/-- What was there below row b is as it was; the rest may be written. -/
def modOk (b : Nat) (h h' : Hp) : Prop := h.length ≤ h'.length ∧ h.take b <+: h' ∧ (h'.drop b).all (fun | some x => !x.ro | none => true) = true
/-- Ls: how many rows there were when the operations before came up. -/
def okAt (q : List (Nat × Nat)) (Ls : List Nat) (h h' : Hp) : Prop := match lateQ q with
  | some i => if Ls.length < i then newOk h h' else if Ls.length = i then True else h' = h
  | none => match qAt q Ls.length with
    | none => newOk h h'
    | some j => modOk (Ls.getD j 0) h h'
/-- The loads that are marked, done again at the end, give what they gave. -/
def chkQ (F : Oper → St → Option (Value × Hp)) (ops : Array Oper) (st : St) : List (Nat × Nat) → Prop
  | [] => True
  | (k, j) :: r => (if k = 1001 then (match ops[j]? with
      | some o => F o ⟨keep (o.looksAt ops) st.s, st.h⟩ = some ((o.dst.bind (get st.s)).getD undef, st.h)
      | none => False) else True) ∧ chkQ F ops st r
open Classical in
/-- Operations that may come up in any order, some of which write rows that earlier ones made. -/
noncomputable def runG (F : Oper → St → Option (Value × Hp)) (N : Nat) (ops : Array Oper) (q : List (Nat × Nat)) : List Nat → List Oper → St → Option St
  | Ls, [], st => if chkQ F ops st q then some st else none
  | Ls, o :: r, st =>
    if dstOk N o.dst then match wantP ops (keep (o.looksAt ops) st.s) o with
      | some false => runG F N ops q (Ls ++ [st.h.length]) r ⟨put st.s o.dst undef, st.h⟩
      | some true => match F o ⟨keep (o.looksAt ops) st.s, st.h⟩ with
        | some (v, h') => if okAt q Ls st.h h' then runG F N ops q (Ls ++ [st.h.length]) r ⟨put st.s o.dst v, h'⟩ else none
        | none => none
      | none => none
    else none

open Classical in
/-- What a function leaves in memory: nothing, if its result leads nowhere and what was there is as it was. -/
noncomputable def gc (h h' : Hp) (v : Value) : Hp := if plain v = true ∧ h <+: h' then h else h'

mutual
noncomputable def exec (P : Program) (G : FuncId → GI) : Nat → Nat → GI → Code → St → Option (Ex × St)
  | 0, _, _, _, _ => none
  | f + 1, N, K, c, st => match c with
    | .skip => some (.normal, st)
    | .region id ops draw => if draw then match headOf K.heads id with
        | some n => match runH (fun o st => execO P G f o st) N ops (ops.toList.take n) st with
          | some st1 => (execL P G f N ops (ops.toList.drop n) st1).map fun st' => (.normal, st')
          | none => none
        | none => match headQ K.qs id with
          | some (n, q) => match runG (fun o st => execO P G f o st) N ops q [] (ops.toList.take n) st with
            | some st1 => (execL P G f N ops (ops.toList.drop n) st1).map fun st' => (.normal, st')
            | none => none
          | none => none
      else match nilDst (headOf K.heads (id + 100000)) ops with
        | some t => if t < N then some (.normal, ⟨put st.s (some t) nilM, st.h⟩) else none
        | none => (execL P G f N ops ops.toList st).map fun st' => (.normal, st')
    | .seq a b => match exec P G f N K a st with
      | some (.normal, st') => exec P G f N K b st'
      | r => r
    | .cond c a b => match ev st.s c with
      | some (.bool t) => if t then exec P G f N K a st else exec P G f N K b st
      | _ => none
    | .block id b => match exec P G f N K b st with
      | some (.exit id', st') => if id' = id then some (.normal, st') else some (.exit id', st')
      | r => r
    | .loop b => match exec P G f N K b { st with s := keep (keepAt K.keep (firstId b)) st.s } with
      | some (.normal, st') => exec P G f N K (.loop b) st'
      | r => r
    | .exit id => some (.exit id, st)
    | .ret => some (.ret, st)
    | _ => none
noncomputable def execL (P : Program) (G : FuncId → GI) : Nat → Nat → Array Oper → List Oper → St → Option St
  | 0, _, _, _, _ => none
  | f + 1, N, ops, l, st => match l with
    | [] => some st
    | o :: r => if dstOk N o.dst then match wantP ops st.s o with
      | some false => execL P G f N ops r { st with s := put st.s o.dst undef }
      | some true => match execO P G f o st with
        | some (v, h) => execL P G f N ops r ⟨put st.s o.dst v, h⟩
        | none => none
      | none => none else none
noncomputable def execO (P : Program) (G : FuncId → GI) : Nat → Oper → St → Option (Value × Hp)
  | 0, _, _ => none
  | f + 1, o, st => match o.op with
    | .call c => match c.callee with
      | .value x => match ev st.s x, evs st.s c.args.toList with
        | some (.func (.func g) first cap), some args => callP P G f g (first.toList ++ args ++ cap.toList) st.h
        | _, _ => none
      | .builtin b => (evs st.s c.args.toList).bind fun args => builtinP P st.h b c.argTypes.toList args
      | .invoke _ _ => none
    | op => op1 P st.s st.h op
noncomputable def callP (P : Program) (G : FuncId → GI) : Nat → FuncId → List Value → Hp → Option (Value × Hp)
  | 0, _, _, _ => none
  | f + 1, g, args, h => match enterG P (G g) g with
    | some (c, N, rs) => if args.length ≤ N then match exec P G f N (G g) c ⟨number 0 args, h⟩ with
      | some (.exit _, _) => none
      | some (_, st) => (resP P rs st).map fun v => (v, gc h st.h v)
      | none => none else none
    | none => none
end
end Go.Pm

/- How the small machine's values and memory lie in the model's. -/
set_option linter.unusedVariables false
set_option linter.unusedSimpArgs false
namespace Go.Pm

structure Place where
  b : Nat
  d : Nat
  bs : Nat
abbrev Mp := Nat → Option Place

/-- An address whose row is gone, or has grown since. -/
def Gone (h : Hp) (a : Addr) : Prop := ∃ L, a.spot = some L ∧ a.block < h.length ∧ ∀ x, h[a.block]? = some (some x) → L < x.cells.length

inductive VR (ρ : Mp) (h : Hp) : Value → Value → Prop
  | bool (b) : VR ρ h (.bool b) (.bool b)
  | int (k n) : VR ρ h (.int k n) (.int k n)
  | string (s) : VR ρ h (.string s) (.string s)
  | nilPtr : VR ρ h (.pointer none) (.pointer none)
  | nilFunc : VR ρ h .nilFunc .nilFunc
  | nilSlice : VR ρ h (.slice none 0 0) (.slice none 0 0)
  | zeroSl (a' : Addr) : VR ρ h (.slice none 0 0) (.slice (some a') 0 0)
  | nilMk : VR ρ h (.slice none 0 1) (.slice none 0 0)
  | ptr (r o : Nat) (x : Row) (p : Place) : h[r]? = some (some x) → ρ r = some p → VR ρ h (.pointer (some ⟨r, o, some x.cells.length⟩)) (.pointer (some ⟨p.b, p.d + o, none⟩))
  | ptrGone (a a' : Addr) : Gone h a → VR ρ h (.pointer (some a)) (.pointer (some a'))
  | sl (r o : Nat) (x : Row) (p : Place) (n c c' : Nat) : h[r]? = some (some x) → ρ r = some p → n ≤ c → c ≤ c' → (x.ro = false → p.d + o + c' * x.sz ≤ p.bs) →
      VR ρ h (.slice (some ⟨r, o, some x.cells.length⟩) n c) (.slice (some ⟨p.b, p.d + o, none⟩) n c')
  | slZero (r o : Nat) (x : Row) (p : Place) (a' : Addr) : h[r]? = some (some x) → ρ r = some p → VR ρ h (.slice (some ⟨r, o, some x.cells.length⟩) 0 0) (.slice (some a') 0 0)
  | slGone (a a' : Addr) (n c c' : Nat) : Gone h a → VR ρ h (.slice (some a) n c) (.slice (some a') n c')
  | func (fn : Fn) (a a' b b' : Array Value) : a.size = a'.size → b.size = b'.size → (∀ (i : Nat) v v', a[i]? = some v → a'[i]? = some v' → VR ρ h v v') →
      (∀ (i : Nat) v v', b[i]? = some v → b'[i]? = some v' → VR ρ h v v') → VR ρ h (.func fn a b) (.func fn a' b')
  | agg (a a' : Array Value) : a.size = a'.size → (∀ (i : Nat) v v', a[i]? = some v → a'[i]? = some v' → VR ρ h v v') → VR ρ h (.agg a) (.agg a')
  | tuple (a a' : Array Value) : a.size = a'.size → (∀ (i : Nat) v v', a[i]? = some v → a'[i]? = some v' → VR ρ h v v') → VR ρ h (.tuple a) (.tuple a')

/-- Lists of values, one by one. -/
def VL (ρ : Mp) (h : Hp) (l l' : List Value) : Prop := l.length = l'.length ∧ ∀ (i : Nat) v v', l[i]? = some v → l'[i]? = some v' → VR ρ h v v'

theorem VL.nil {ρ : Mp} {h : Hp} : VL ρ h [] [] := ⟨rfl, fun i v v' h => by simp at h⟩
theorem VL.cons {ρ : Mp} {h : Hp} {v v' : Value} {l l' : List Value} (hv : VR ρ h v v') (hl : VL ρ h l l') : VL ρ h (v :: l) (v' :: l') := by
  refine ⟨by simp [hl.1], fun i u u' h1 h2 => ?_⟩
  cases i with
  | zero => simp at h1 h2; subst h1; subst h2; exact hv
  | succ i => simp at h1 h2; exact hl.2 i u u' h1 h2
theorem VL.head {ρ : Mp} {h : Hp} {v : Value} {l l' : List Value} (hl : VL ρ h (v :: l) l') : ∃ v' m', l' = v' :: m' ∧ VR ρ h v v' ∧ VL ρ h l m' := by
  cases l' with
  | nil => have := hl.1; simp at this
  | cons v' m' =>
    refine ⟨v', m', rfl, hl.2 0 v v' rfl rfl, by have := hl.1; simpa using this, fun i u u' h1 h2 => hl.2 (i + 1) u u' (by simpa using h1) (by simpa using h2)⟩
theorem VL.nil_left {ρ : Mp} {h : Hp} {l' : List Value} (hl : VL ρ h [] l') : l' = [] := by
  cases l' with
  | nil => rfl
  | cons v m => have := hl.1; simp at this
theorem VL.append {ρ : Mp} {h : Hp} {l l' m m' : List Value} (hl : VL ρ h l l') (hm : VL ρ h m m') : VL ρ h (l ++ m) (l' ++ m') := by
  refine ⟨by simp [hl.1, hm.1], fun i u u' h1 h2 => ?_⟩
  have e := hl.1
  rcases Nat.lt_or_ge i l.length with hi | hi
  · rw [List.getElem?_append_left hi] at h1
    rw [List.getElem?_append_left (by omega)] at h2
    exact hl.2 i u u' h1 h2
  · rw [List.getElem?_append_right hi] at h1
    rw [List.getElem?_append_right (by omega), ← e] at h2
    exact hm.2 _ u u' h1 h2
theorem VL.drop {ρ : Mp} {h : Hp} {l l' : List Value} (hl : VL ρ h l l') (n : Nat) : VL ρ h (l.drop n) (l'.drop n) :=
  ⟨by simp [hl.1], fun i u u' h1 h2 => hl.2 (n + i) u u' (by simpa [List.getElem?_drop] using h1) (by simpa [List.getElem?_drop] using h2)⟩
theorem VL.take {ρ : Mp} {h : Hp} {l l' : List Value} (hl : VL ρ h l l') (n : Nat) : VL ρ h (l.take n) (l'.take n) := by
  refine ⟨by simp [hl.1], fun i u u' h1 h2 => ?_⟩
  rw [List.getElem?_take] at h1 h2
  split at h1
  · rename_i hi; rw [if_pos hi] at h2; exact hl.2 i u u' h1 h2
  · cases h1
theorem VL.set {ρ : Mp} {h : Hp} {l l' : List Value} (hl : VL ρ h l l') (n : Nat) {v v' : Value} (hv : VR ρ h v v') : VL ρ h (l.set n v) (l'.set n v') := by
  refine ⟨by simp [hl.1], fun i u u' h1 h2 => ?_⟩
  have e := hl.1
  rw [List.getElem?_set] at h1 h2
  split at h1
  · rename_i hi
    subst hi
    split at h1
    · rename_i hlt
      simp at h1
      rw [if_pos rfl, if_pos (by omega)] at h2
      simp at h2
      subst h1; subst h2; exact hv
    · cases h1
  · rename_i hi
    rw [if_neg hi] at h2
    exact hl.2 i u u' h1 h2
theorem VL.splice {ρ : Mp} {h : Hp} : ∀ (vs vs' : List Value) (l l' : List Value) (o : Nat), VL ρ h l l' → VL ρ h vs vs' → VL ρ h (splice l o vs) (splice l' o vs')
  | [], vs', l, l', o, hl, hv => by rw [hv.nil_left]; exact hl
  | v :: vs, vs', l, l', o, hl, hv => by
    obtain ⟨v', m', rfl, h1, h2⟩ := hv.head
    exact VL.splice vs m' _ _ (o + 1) (hl.set o h1) h2
theorem splice_length : ∀ (vs l : List Value) (o : Nat), (splice l o vs).length = l.length
  | [], l, o => rfl
  | v :: vs, l, o => by rw [splice, splice_length vs]; simp

/-- From one pair of a memory and its places to a later one: what a value says stays. -/
structure Step (ρ : Mp) (h : Hp) (ρ' : Mp) (h' : Hp) : Prop where
  live : ∀ r x p, h[r]? = some (some x) → ρ r = some p →
    (∃ x', h'[r]? = some (some x') ∧ x'.cells.length = x.cells.length ∧ x'.sz = x.sz ∧ x'.ro = x.ro ∧ ρ' r = some p) ∨
    (r < h'.length ∧ ∀ x', h'[r]? = some (some x') → x.cells.length < x'.cells.length)
  gone : ∀ a, Gone h a → Gone h' a

theorem Step.refl (ρ : Mp) (h : Hp) : Step ρ h ρ h := ⟨fun r x p hx hp => .inl ⟨x, hx, rfl, rfl, rfl, hp⟩, fun _ h => h⟩
theorem Step.trans {ρ ρ1 ρ2 : Mp} {h h1 h2 : Hp} (s : Step ρ h ρ1 h1) (t : Step ρ1 h1 ρ2 h2) : Step ρ h ρ2 h2 := by
  refine ⟨fun r x p hx hp => ?_, fun a ha => t.gone a (s.gone a ha)⟩
  rcases s.live r x p hx hp with ⟨x1, g1, l1, s1, r1, p1⟩ | ⟨hlt, hg⟩
  · rcases t.live r x1 p g1 p1 with ⟨x2, g2, l2, s2, r2, p2⟩ | ⟨hlt, hg⟩
    · exact .inl ⟨x2, g2, l2.trans l1, s2.trans s1, r2.trans r1, p2⟩
    · exact .inr ⟨hlt, fun x' hx' => by have := hg x' hx'; omega⟩
  · have := t.gone ⟨r, 0, some x.cells.length⟩ ⟨_, rfl, hlt, hg⟩
    obtain ⟨L, e, h3, h4⟩ := this
    cases e
    exact .inr ⟨h3, h4⟩

theorem VR.step {ρ ρ' : Mp} {h h' : Hp} (s : Step ρ h ρ' h') {v v' : Value} (hv : VR ρ h v v') : VR ρ' h' v v' := by
  induction hv with
  | bool b => exact .bool b
  | int k n => exact .int k n
  | string s => exact .string s
  | nilPtr => exact .nilPtr
  | nilFunc => exact .nilFunc
  | nilSlice => exact .nilSlice
  | zeroSl a' => exact .zeroSl a'
  | nilMk => exact .nilMk
  | ptr r o x p hx hp =>
    rcases s.live r x p hx hp with ⟨x1, g1, l1, s1, r1, p1⟩ | ⟨hlt, hg⟩
    · rw [← l1]; exact .ptr r o x1 p g1 p1
    · exact .ptrGone _ _ ⟨_, rfl, hlt, hg⟩
  | ptrGone a a' hg => exact .ptrGone a a' (s.gone a hg)
  | sl r o x p n c c' hx hp hn hc hb =>
    rcases s.live r x p hx hp with ⟨x1, g1, l1, s1, r1, p1⟩ | ⟨hlt, hg⟩
    · rw [← l1]; exact .sl r o x1 p n c c' g1 p1 hn hc (by rw [r1, s1]; exact hb)
    · exact .slGone _ _ _ _ _ ⟨_, rfl, hlt, hg⟩
  | slZero r o x p a' hx hp =>
    rcases s.live r x p hx hp with ⟨x1, g1, l1, s1, r1, p1⟩ | ⟨hlt, hg⟩
    · rw [← l1]; exact .slZero r o x1 p a' g1 p1
    · exact .slGone _ _ _ _ _ ⟨_, rfl, hlt, hg⟩
  | slGone a a' n c c' hg => exact .slGone a a' n c c' (s.gone a hg)
  | func fn a a' b b' e1 e2 h1 h2 i1 i2 => exact .func fn a a' b b' e1 e2 (fun i v v' ha hb => i1 i v v' ha hb) (fun i v v' ha hb => i2 i v v' ha hb)
  | agg a a' e h1 i1 => exact .agg a a' e (fun i v v' ha hb => i1 i v v' ha hb)
  | tuple a a' e h1 i1 => exact .tuple a a' e (fun i v v' ha hb => i1 i v v' ha hb)
theorem VL.step {ρ ρ' : Mp} {h h' : Hp} (s : Step ρ h ρ' h') {l l' : List Value} (hl : VL ρ h l l') : VL ρ' h' l l' :=
  ⟨hl.1, fun i v v' h1 h2 => (hl.2 i v v' h1 h2).step s⟩

/-- The memory of the small machine lies in the model's. -/
structure Rel (ρ : Mp) (h : Hp) (w : World) : Prop where
  own : ∀ r x p, h[r]? = some (some x) → ρ r = some p → x.ro = false →
    ∃ c e, w.heap[p.b]? = some (.cells c e (0, 0)) ∧ c.size = p.bs ∧ p.d + x.cells.length ≤ p.bs ∧ ∀ (i : Nat) v, x.cells[i]? = some v → ∃ v', c[p.d + i]? = some v' ∧ VR ρ h v v'
  ro : ∀ r x p, h[r]? = some (some x) → ρ r = some p → x.ro = true → ∀ (i : Nat) v, x.cells[i]? = some v → ∃ v', w.cell? ⟨p.b, p.d + i, none⟩ = some v' ∧ VR ρ h v v'
  inj : ∀ r r' x x' p p', h[r]? = some (some x) → h[r']? = some (some x') → ρ r = some p → ρ r' = some p' → x.ro = false → r ≠ r' → (x'.ro = true → x'.cells ≠ []) → p.b ≠ p'.b
  dom : ∀ r p, ρ r = some p → r < h.length

/-- What a piece of work leaves. -/
structure Go1 (ρ : Mp) (h : Hp) (w : World) (ρ' : Mp) (h' : Hp) (w' : World) : Prop where
  os : w'.os = w.os
  tape : w'.tape = w.tape
  output : w'.output = w.output
  size : w.heap.size ≤ w'.heap.size
  blk : ∀ b, b < w.heap.size → (∀ r x p, h[r]? = some (some x) → ρ r = some p → x.ro = false → p.b ≠ b) → w'.heap[b]? = w.heap[b]?
  orig : ∀ r' x' p', h'[r']? = some (some x') → ρ' r' = some p' → x'.ro = false → w.heap.size ≤ p'.b ∨ ∃ r x p, h[r]? = some (some x) ∧ ρ r = some p ∧ x.ro = false ∧ p.b = p'.b
  step : Step ρ h ρ' h'
  len : h.length ≤ h'.length
  keepn : ∀ r, r < h.length → ρ r = none → ρ' r = none

theorem Go1.refl (ρ : Mp) (h : Hp) (w : World) : Go1 ρ h w ρ h w :=
  ⟨rfl, rfl, rfl, Nat.le_refl _, fun _ _ _ => rfl, fun r x p h1 h2 h3 => .inr ⟨r, x, p, h1, h2, h3, rfl⟩, Step.refl _ _, Nat.le_refl _, fun _ _ e => e⟩
theorem Go1.trans {ρ ρ1 ρ2 : Mp} {h h1 h2 : Hp} {w w1 w2 : World} (a : Go1 ρ h w ρ1 h1 w1) (b : Go1 ρ1 h1 w1 ρ2 h2 w2) : Go1 ρ h w ρ2 h2 w2 := by
  refine ⟨b.os.trans a.os, b.tape.trans a.tape, b.output.trans a.output, Nat.le_trans a.size b.size, fun k hk hn => ?_, fun r' x' p' g1 g2 g3 => ?_, a.step.trans b.step, Nat.le_trans a.len b.len, fun r hr e => b.keepn r (Nat.lt_of_lt_of_le hr a.len) (a.keepn r hr e)⟩
  · rw [b.blk k (Nat.lt_of_lt_of_le hk a.size) (fun r x p g1 g2 g3 e => ?_), a.blk k hk hn]
    rcases a.orig r x p g1 g2 g3 with h4 | ⟨r0, x0, p0, i1, i2, i3, i4⟩
    · omega
    · exact hn r0 x0 p0 i1 i2 i3 (i4.trans e)
  · rcases b.orig r' x' p' g1 g2 g3 with h4 | ⟨r0, x0, p0, i1, i2, i3, i4⟩
    · exact .inl (Nat.le_trans a.size h4)
    · rcases a.orig r0 x0 p0 i1 i2 i3 with h5 | ⟨r1, x1, p1, j1, j2, j3, j4⟩
      · exact .inl (by omega)
      · exact .inr ⟨r1, x1, p1, j1, j2, j3, j4.trans i4⟩
/-- A draw. -/
theorem Go1.drew (ρ : Mp) (h : Hp) (w : World) (n : Nat) : Go1 ρ h w ρ h { w with drawn := n } :=
  ⟨rfl, rfl, rfl, Nat.le_refl _, fun _ _ _ => rfl, fun r x p h1 h2 h3 => .inr ⟨r, x, p, h1, h2, h3, rfl⟩, Step.refl _ _, Nat.le_refl _, fun _ _ e => e⟩
theorem Rel.drew {ρ : Mp} {h : Hp} {w : World} (R : Rel ρ h w) (n : Nat) : Rel ρ h { w with drawn := n } := ⟨R.own, R.ro, R.inj, R.dom⟩

def SR (ρ : Mp) (h : Hp) (s : Slots) (tm : Array Value) : Prop := ∀ t v, get s t = some v → VR ρ h v (tm.getD t undef)
theorem SR.step {ρ ρ' : Mp} {h h' : Hp} {s : Slots} {tm : Array Value} (st : Step ρ h ρ' h') (S : SR ρ h s tm) : SR ρ' h' s tm := fun t v hv => (S t v hv).step st

theorem plainC_vr {ρ : Mp} {h : Hp} {v : Value} (hp : plainC v = true) : VR ρ h v v := by
  unfold plainC at hp
  split at hp
  · exact .bool _
  · exact .int _ _
  · exact .string _
  · exact .nilPtr
  · exact .nilFunc
  · exact .nilSlice
  · cases hp
theorem plain_vr {ρ : Mp} {h : Hp} {v : Value} (hp : plain v = true) : VR ρ h v v := by
  unfold plain at hp
  split at hp
  · rename_i cs
    refine .agg _ _ rfl fun i v v' h1 h2 => ?_
    rw [h1] at h2; cases h2
    exact plainC_vr (List.all_eq_true.1 hp v (by simpa using Array.mem_of_getElem? h1))
  · rename_i cs
    refine .tuple _ _ rfl fun i v v' h1 h2 => ?_
    rw [h1] at h2; cases h2
    exact plainC_vr (List.all_eq_true.1 hp v (by simpa using Array.mem_of_getElem? h1))
  · exact plainC_vr hp
theorem undef_vr {ρ : Mp} {h : Hp} : VR ρ h undef undef := plain_vr (v := .tuple #[]) rfl

theorem ev_vr {ρ : Mp} {h : Hp} {s : Slots} {a : Act} (S : SR ρ h s a.tmps) {x : Operand} {v : Value} (e : ev s x = some v) : VR ρ h v (a.eval x) := by
  cases x with
  | tmp t => exact S t v e
  | const u =>
    simp only [ev] at e
    split at e
    · rename_i hp; cases e; exact plain_vr hp
    · cases e
  | global g => cases e
  | func f => cases e; exact .func _ _ _ _ _ rfl rfl (fun i v v' h => by simp at h) (fun i v v' h => by simp at h)
theorem evs_vl {ρ : Mp} {h : Hp} {s : Slots} {a : Act} (S : SR ρ h s a.tmps) : ∀ (xs : List Operand) (l : List Value), evs s xs = some l → VL ρ h l (xs.map a.eval)
  | [], l, e => by cases e; exact VL.nil
  | x :: xs, l, e => by
    simp only [evs] at e
    obtain ⟨v, hv, e⟩ := Option.bind_eq_some_iff.1 e
    obtain ⟨m, hm, rfl⟩ := Option.map_eq_some_iff.1 e
    exact VL.cons (ev_vr S hv) (evs_vl S xs m hm)

theorem VR.cells {ρ : Mp} {h : Hp} {v v' : Value} (hv : VR ρ h v v') : VL ρ h v.cells.toList v'.cells.toList := by
  cases hv with
  | agg a a' e h1 => exact ⟨by simpa [Value.cells] using e, fun i u u' g1 g2 => h1 i u u' (by simpa [Value.cells] using g1) (by simpa [Value.cells] using g2)⟩
  | _ => refine VL.cons ?_ VL.nil; constructor <;> assumption
theorem VR.one {ρ : Mp} {h : Hp} {v v' : Value} (hv : VR ρ h v v') : one v = v'.oneCell' := by cases hv <;> rfl
theorem VL.one {ρ : Mp} {h : Hp} {l l' : List Value} (hl : VL ρ h l l') (e : l.all Pm.one = true) : ∀ v ∈ l', v.oneCell' = true := by
  intro v' hv'
  obtain ⟨i, hi⟩ := List.getElem?_of_mem hv'
  have hlt : i < l.length := by have := (List.getElem?_eq_some_iff.1 hi).1; have := hl.1; omega
  have := hl.2 i _ v' (List.getElem?_eq_getElem hlt) hi
  rw [← this.one]
  exact List.all_eq_true.1 e _ (List.getElem_mem hlt)

theorem get_put {s : Slots} {d : Option Tmp} {v : Value} {t : Nat} : get (put s d v) t = if d = some t then some v else get s t := by
  cases d with
  | none => simp [put]
  | some d => simp [put, get]
theorem SR.put {ρ : Mp} {h : Hp} {s : Slots} {a : Act} (S : SR ρ h s a.tmps) {d : Option Tmp} {v v' : Value} (hd : dstOk a.tmps.size d = true) (hv : VR ρ h v v') : SR ρ h (put s d v) (a.put d v').tmps := by
  intro t u hu
  rw [get_put] at hu
  cases d with
  | none => simp at hu; exact S t u hu
  | some d =>
    simp only [dstOk, decide_eq_true_eq] at hd
    simp only [Act.put]
    by_cases e : d = t
    · subst e
      simp at hu; subst hu
      simpa [Array.getElem?_setIfInBounds, hd] using hv
    · rw [if_neg (by simpa using e)] at hu
      have := S t u hu
      simpa [Array.getElem?_setIfInBounds_ne e] using this
theorem get_keep {K : List Nat} {s : Slots} {t : Nat} {v : Value} (h : get (keep K s) t = some v) : get s t = some v := by
  induction K with
  | nil => simp [keep, get] at h
  | cons k K ih =>
    simp only [keep, List.filterMap_cons] at h
    cases hk : get s k with
    | none => simp [hk] at h; exact ih h
    | some u =>
      simp [hk, get] at h
      split at h
      · rename_i e; subst e; rw [hk]; exact h
      · exact ih h
theorem SR.keep {ρ : Mp} {h : Hp} {s : Slots} {tm : Array Value} (S : SR ρ h s tm) (K : List Nat) : SR ρ h (keep K s) tm := fun t v hv => S t v (get_keep hv)
end Go.Pm

/- Memory: read, made, written, in both machines. -/
set_option linter.unusedVariables false
namespace Go.Pm
variable {P : Program} {ρ : Mp} {h : Hp} {w : World}

theorem add_none (b o n : Nat) : (⟨b, o, none⟩ : Addr).add n = ⟨b, o + n, none⟩ := by
  unfold Addr.add
  split <;> simp_all

theorem Rel.cell (R : Rel ρ h w) {r : Nat} {x : Row} {p : Place} (hx : h[r]? = some (some x)) (hp : ρ r = some p) {i : Nat} {v : Value} (hi : x.cells[i]? = some v) :
    ∃ v', w.cell? ⟨p.b, p.d + i, none⟩ = some v' ∧ VR ρ h v v' := by
  cases e : x.ro with
  | true => exact R.ro r x p hx hp e i v hi
  | false =>
    obtain ⟨c, t, hb, _, _, hc⟩ := R.own r x p hx hp e
    obtain ⟨v', h1, h2⟩ := hc i v hi
    exact ⟨v', by simp [World.cell?, hb, h1], h2⟩

theorem Rel.seg (R : Rel ρ h w) {r : Nat} {x : Row} {p : Place} (hx : h[r]? = some (some x)) (hp : ρ r = some p) (o n : Nat) :
    ∃ l', VL ρ h ((x.cells.drop o).take n) l' ∧ ∀ (j : Nat) v, l'[j]? = some v → w.cell? ((⟨p.b, p.d + o, none⟩ : Addr).add j) = some v := by
  refine ⟨(List.range ((x.cells.drop o).take n).length).map fun j => (w.cell? ⟨p.b, p.d + o + j, none⟩).getD undef, ⟨by simp, fun i v v' h1 h2 => ?_⟩, fun j v hj => ?_⟩
  · rw [List.getElem?_map] at h2
    have hlt : i < ((x.cells.drop o).take n).length := (List.getElem?_eq_some_iff.1 h1).1
    rw [List.getElem?_range hlt] at h2
    simp only [Option.map_some, Option.some.injEq] at h2
    have h3 : x.cells[o + i]? = some v := by
      rw [List.getElem?_take] at h1
      split at h1
      · rwa [List.getElem?_drop] at h1
      · cases h1
    obtain ⟨u, hu, hv⟩ := R.cell hx hp h3
    rw [← Nat.add_assoc] at hu
    rw [hu] at h2
    cases h2
    exact hv
  · rw [List.getElem?_map] at hj
    have hlt : j < ((x.cells.drop o).take n).length := by
      rcases Nat.lt_or_ge j ((x.cells.drop o).take n).length with h1 | h1
      · exact h1
      · rw [List.getElem?_eq_none (by simpa using h1)] at hj; cases hj
    rw [List.getElem?_range hlt] at hj
    simp only [Option.map_some, Option.some.injEq] at hj
    have h3 : x.cells[o + j]? = some (((x.cells.drop o).take n)[j]) := by
      have := List.getElem?_eq_getElem hlt
      rw [List.getElem?_take] at this
      split at this
      · rwa [List.getElem?_drop] at this
      · cases this
    obtain ⟨u, hu, hv⟩ := R.cell hx hp h3
    rw [← Nat.add_assoc] at hu
    rw [hu] at hj
    rw [add_none, hu]
    exact congrArg some hj

theorem Rel.lt (R : Rel ρ h w) {r : Nat} {x : Row} {p : Place} (hx : h[r]? = some (some x)) (hp : ρ r = some p) (hn : x.ro = true → x.cells ≠ []) : p.b < w.heap.size := by
  cases e : x.ro with
  | true =>
    have := hn e
    obtain ⟨v, hv⟩ : ∃ v, x.cells[0]? = some v := by
      cases hc : x.cells with
      | nil => exact absurd hc this
      | cons v l => exact ⟨v, rfl⟩
    obtain ⟨v', h1, _⟩ := R.ro r x p hx hp e 0 v hv
    exact World.block_lt_of_cell? w _ h1
  | false =>
    obtain ⟨c, t, hb, _⟩ := R.own r x p hx hp e
    exact (Array.getElem?_eq_some_iff.1 hb).1

/-! ### a new row -/
def upd (ρ : Mp) (r : Nat) (p : Place) : Mp := fun k => if k = r then some p else ρ k

theorem get_app {h : Hp} {x : Option Row} {r : Nat} {y : Option Row} (e : (h ++ [x])[r]? = some y) : (r < h.length ∧ h[r]? = some y) ∨ (r = h.length ∧ y = x) := by
  rcases Nat.lt_or_ge r h.length with hl | hl
  · rw [List.getElem?_append_left hl] at e; exact .inl ⟨hl, e⟩
  · rw [List.getElem?_append_right hl] at e
    have hz : r - h.length = 0 := by
      rcases Nat.eq_zero_or_pos (r - h.length) with hz | hz
      · exact hz
      · rw [List.getElem?_eq_none (by simp; omega)] at e; cases e
    rw [hz] at e
    simp at e
    exact .inr ⟨by omega, e.symm⟩

theorem step_new (R : Rel ρ h w) (x : Row) (p : Place) : Step ρ h (upd ρ h.length p) (h ++ [some x]) := by
  refine ⟨fun r y q hy hq => .inl ⟨y, ?_, rfl, rfl, rfl, ?_⟩, fun a ⟨L, e, hlt, hg⟩ => ⟨L, e, by simp; omega, fun y hy => ?_⟩⟩
  · rw [List.getElem?_append_left (R.dom r q hq)]; exact hy
  · have := R.dom r q hq
    simp [upd, Nat.ne_of_lt this, hq]
  · rcases get_app hy with ⟨_, h1⟩ | ⟨h1, _⟩
    · exact hg y h1
    · omega

theorem Rel.new (R : Rel ρ h w) {l l' : List Value} (hl : VL ρ h l l') (sz : Nat) (e : TypeId) :
    Rel (upd ρ h.length ⟨w.heap.size, 0, l.length⟩) (h ++ [some ⟨l, sz, false⟩]) (w.alloc (.cells l'.toArray e)) ∧
    Go1 ρ h w (upd ρ h.length ⟨w.heap.size, 0, l.length⟩) (h ++ [some ⟨l, sz, false⟩]) (w.alloc (.cells l'.toArray e)) := by
  have st := step_new R ⟨l, sz, false⟩ ⟨w.heap.size, 0, l.length⟩
  have old : ∀ r p, upd ρ h.length ⟨w.heap.size, 0, l.length⟩ r = some p → r < h.length → ρ r = some p := by
    intro r p hp hr
    simpa [upd, Nat.ne_of_lt hr] using hp
  have new : ∀ p, upd ρ h.length ⟨w.heap.size, 0, l.length⟩ h.length = some p → p = ⟨w.heap.size, 0, l.length⟩ := by
    intro p hp
    simp [upd] at hp
    exact hp.symm
  have blk : ∀ b, b < w.heap.size → (w.alloc (.cells l'.toArray e)).heap[b]? = w.heap[b]? := by
    intro b hb
    show (w.heap.push _)[b]? = _
    rw [Array.getElem?_push, if_neg (by omega)]
  have newb : (w.alloc (.cells l'.toArray e)).heap[w.heap.size]? = some (.cells l'.toArray e) := by
    show (w.heap.push _)[w.heap.size]? = _
    simp
  refine ⟨⟨fun r x p hx hp hr => ?_, fun r x p hx hp hr i v hi => ?_, fun r r' x x' p p' hx hx' hp hp' hr hne hro => ?_, fun r p hp => ?_⟩, ⟨rfl, rfl, rfl, by simp, fun b hb _ => blk b hb, fun r x p hx hp hr => ?_, st, by simp, fun r hr e => by simpa [upd, Nat.ne_of_lt hr] using e⟩⟩
  · rcases get_app hx with ⟨hlt, h1⟩ | ⟨rfl, h1⟩
    · obtain ⟨c, t, hb, h2, h3, h4⟩ := R.own r x p h1 (old r p hp hlt) hr
      refine ⟨c, t, by rw [blk _ (Array.getElem?_eq_some_iff.1 hb).1]; exact hb, h2, h3, fun i v hi => ?_⟩
      obtain ⟨v', h5, h6⟩ := h4 i v hi
      exact ⟨v', h5, h6.step st⟩
    · obtain rfl := new p hp
      obtain rfl : x = ⟨l, sz, false⟩ := Option.some.inj h1
      refine ⟨l'.toArray, e, newb, by simp [hl.1], by simp, fun i v hi => ?_⟩
      have hi' : i < l'.length := by have := (List.getElem?_eq_some_iff.1 hi).1; have := hl.1; simp at *; omega
      exact ⟨l'[i], by simp [hi'], (hl.2 i v _ hi (List.getElem?_eq_getElem hi')).step st⟩
  · rcases get_app hx with ⟨hlt, h1⟩ | ⟨rfl, h1⟩
    · obtain ⟨v', h5, h6⟩ := R.ro r x p h1 (old r p hp hlt) hr i v hi
      exact ⟨v', by rw [World.cell?_alloc_lt w _ _ (World.block_lt_of_cell? w _ h5)]; exact h5, h6.step st⟩
    · obtain rfl : x = ⟨l, sz, false⟩ := Option.some.inj h1
      cases hr
  · rcases get_app hx with ⟨hlt, h1⟩ | ⟨rfl, h1⟩
    · rcases get_app hx' with ⟨hlt', h1'⟩ | ⟨rfl, h1'⟩
      · exact R.inj r r' x x' p p' h1 h1' (old r p hp hlt) (old r' p' hp' hlt') hr hne hro
      · obtain rfl := new p' hp'
        have := R.lt h1 (old r p hp hlt) (fun h => by rw [hr] at h; cases h)
        show p.b ≠ w.heap.size
        omega
    · rcases get_app hx' with ⟨hlt', h1'⟩ | ⟨rfl, h1'⟩
      · obtain rfl := new p hp
        have := R.lt h1' (old r' p' hp' hlt') hro
        show w.heap.size ≠ p'.b
        omega
      · exact absurd rfl hne
  · by_cases hr : r = h.length
    · simp; omega
    · have : ρ r = some p := by simpa [upd, hr] using hp
      have := R.dom r p this
      simp; omega
  · rcases get_app hx with ⟨hlt, h1⟩ | ⟨rfl, h1⟩
    · exact .inr ⟨r, x, p, h1, old r p hp hlt, hr, rfl⟩
    · obtain rfl := new p hp
      exact .inl (Nat.le_refl _)

theorem new_ptr (h : Hp) (l : List Value) (sz : Nat) (o : Nat) (b : Nat) : VR (upd ρ h.length ⟨b, 0, l.length⟩) (h ++ [some ⟨l, sz, false⟩]) (.pointer (some ⟨h.length, o, some l.length⟩)) (.pointer (some ⟨b, o, none⟩)) := by
  have := VR.ptr (ρ := upd ρ h.length ⟨b, 0, l.length⟩) (h := h ++ [some ⟨l, sz, false⟩]) h.length o ⟨l, sz, false⟩ ⟨b, 0, l.length⟩ (by simp) (by simp [upd])
  simpa using this
theorem new_slice (h : Hp) (l : List Value) (sz n c b : Nat) (hn : n ≤ c) (hc : c * sz ≤ l.length) : VR (upd ρ h.length ⟨b, 0, l.length⟩) (h ++ [some ⟨l, sz, false⟩]) (.slice (some ⟨h.length, 0, some l.length⟩) n c) (.slice (some ⟨b, 0, none⟩) n c) := by
  have := VR.sl (ρ := upd ρ h.length ⟨b, 0, l.length⟩) (h := h ++ [some ⟨l, sz, false⟩]) h.length 0 ⟨l, sz, false⟩ ⟨b, 0, l.length⟩ n c c (by simp) (by simp [upd]) hn (Nat.le_refl _) (fun _ => by simpa using hc)
  simpa using this

/-! ### a row is written: its length stays -/
theorem get_set {h : Hp} {r k : Nat} {x : Option Row} {y : Option Row} (e : (h.set r x)[k]? = some y) : (k = r ∧ y = x ∧ r < h.length) ∨ (k ≠ r ∧ h[k]? = some y) := by
  rw [List.getElem?_set] at e
  split at e
  · rename_i hk
    split at e
    · exact .inl ⟨hk.symm, (Option.some.inj e).symm, by omega⟩
    · cases e
  · rename_i hk
    exact .inr ⟨fun h => hk h.symm, e⟩

theorem step_set {x x' : Row} {r : Nat} (hx : h[r]? = some (some x)) (hl : x'.cells.length = x.cells.length) (hs : x'.sz = x.sz) (hr : x'.ro = x.ro) : Step ρ h ρ (h.set r (some x')) := by
  refine ⟨fun k y p hy hp => .inl ?_, fun a ⟨L, e, hlt, hg⟩ => ⟨L, e, by simpa using hlt, fun y hy => ?_⟩⟩
  · by_cases hk : k = r
    · subst hk
      rw [hx] at hy
      cases hy
      have hlt : k < h.length := (List.getElem?_eq_some_iff.1 hx).1
      exact ⟨x', by simp [hlt], hl, hs, hr, hp⟩
    · exact ⟨y, by rw [List.getElem?_set_ne (fun e => hk e.symm)]; exact hy, rfl, rfl, rfl, hp⟩
  · rcases get_set hy with ⟨h1, h2, _⟩ | ⟨_, h1⟩
    · obtain rfl : y = x' := Option.some.inj h2
      have := hg x (h1 ▸ hx)
      omega
    · exact hg y h1

theorem Rel.write (R : Rel ρ h w) {r : Nat} {x : Row} {p : Place} (hx : h[r]? = some (some x)) (hp : ρ r = some p) (hro : x.ro = false)
    {cells : List Value} (hlen : cells.length = x.cells.length) {c c2 : Array Value} {e : TypeId} (hc : w.heap[p.b]? = some (.cells c e (0, 0))) (hsz : c2.size = c.size)
    (hcells : ∀ (i : Nat) v, cells[i]? = some v → ∃ v', c2[p.d + i]? = some v' ∧ VR ρ h v v') :
    Rel ρ (h.set r (some { x with cells := cells })) (w.setRow p.b c2) ∧ Go1 ρ h w ρ (h.set r (some { x with cells := cells })) (w.setRow p.b c2) := by
  have st : Step ρ h ρ (h.set r (some { x with cells := cells })) := step_set hx hlen rfl rfl
  have hnew : (w.setRow p.b c2).heap[p.b]? = some (.cells c2 e (0, 0)) := setRow_heap w p.b c c2 e _ hc
  have hoth : ∀ b, b ≠ p.b → (w.setRow p.b c2).heap[b]? = w.heap[b]? := fun b hb => setRow_other w p.b b c2 hb
  obtain ⟨c', t', hb', hsz', hd', hc'⟩ := R.own r x p hx hp hro
  rw [hc] at hb'
  cases hb'
  refine ⟨⟨fun k y q hy hq hk => ?_, fun k y q hy hq hk i v hi => ?_, fun k k' y y' q q' hy hy' hq hq' hk hne hro' => ?_, fun k q hq => by have := R.dom k q hq; simpa using this⟩, ⟨rfl, rfl, rfl, by simp [World.setRow], fun b hb hn => hoth b (fun e' => hn r x p hx hp hro e'.symm), fun k y q hy hq hk => ?_, st, by simp, fun _ _ e => e⟩⟩
  · rcases get_set hy with ⟨rfl, h2, _⟩ | ⟨hne, h1⟩
    · obtain rfl : y = { x with cells := cells } := Option.some.inj h2
      rw [hp] at hq; cases hq
      refine ⟨c2, e, hnew, hsz.trans hsz', by simpa [hlen] using hd', fun i v hi => ?_⟩
      obtain ⟨v', h3, h4⟩ := hcells i v hi
      exact ⟨v', h3, h4.step st⟩
    · obtain ⟨c3, t3, h3, h4, h5, h6⟩ := R.own k y q h1 hq hk
      refine ⟨c3, t3, by rw [hoth _ (R.inj k r y x q p h1 hx hq hp hk hne (fun e' => by rw [hro] at e'; cases e'))]; exact h3, h4, h5, fun i v hi => ?_⟩
      obtain ⟨v', h7, h8⟩ := h6 i v hi
      exact ⟨v', h7, h8.step st⟩
  · rcases get_set hy with ⟨rfl, h2, _⟩ | ⟨hne, h1⟩
    · obtain rfl : y = { x with cells := cells } := Option.some.inj h2
      rw [show ({ x with cells := cells } : Row).ro = x.ro from rfl, hro] at hk; cases hk
    · obtain ⟨v', h3, h4⟩ := R.ro k y q h1 hq hk i v hi
      refine ⟨v', ?_, h4.step st⟩
      have hbne : p.b ≠ q.b := R.inj r k x y p q hx h1 hp hq hro (fun e' => hne e'.symm) (fun _ e' => by rw [e'] at hi; simp at hi)
      have : (w.setRow p.b c2).cell? ⟨q.b, q.d + i, none⟩ = w.cell? ⟨q.b, q.d + i, none⟩ := by
        unfold World.cell?
        rw [hoth q.b (fun e' => hbne e'.symm)]
      rw [this]; exact h3
  · have hk0 : ∃ y0, h[k]? = some (some y0) ∧ y0.ro = false := by
      rcases get_set hy with ⟨rfl, h2, _⟩ | ⟨_, h1⟩
      · exact ⟨x, hx, hro⟩
      · exact ⟨y, h1, hk⟩
    have hk0' : ∃ y0, h[k']? = some (some y0) ∧ (y0.ro = true → y0.cells ≠ []) := by
      rcases get_set hy' with ⟨rfl, h2, _⟩ | ⟨_, h1⟩
      · exact ⟨x, hx, fun e' => by rw [hro] at e'; cases e'⟩
      · exact ⟨y', h1, hro'⟩
    obtain ⟨y0, i1, i2⟩ := hk0
    obtain ⟨y1, j1, j2⟩ := hk0'
    exact R.inj k k' y0 y1 q q' i1 j1 hq hq' i2 hne j2
  · rcases get_set hy with ⟨rfl, h2, _⟩ | ⟨_, h1⟩
    · exact .inr ⟨k, x, p, hx, hp, hro, by rw [hp] at hq; cases hq; rfl⟩
    · exact .inr ⟨k, y, q, h1, hq, hk, rfl⟩

theorem splice_get : ∀ (vs l : List Value) (o i : Nat), o + vs.length ≤ l.length → (splice l o vs)[i]? = if o ≤ i ∧ i < o + vs.length then vs[i - o]? else l[i]?
  | [], l, o, i, h => by rw [splice, if_neg (by simp)]
  | v :: vs, l, o, i, h => by
    rw [splice, splice_get vs _ _ i (by simp at h ⊢; omega)]
    simp only [List.length_cons] at h ⊢
    by_cases h1 : o + 1 ≤ i ∧ i < o + 1 + vs.length
    · rw [if_pos h1, if_pos (by omega), show i - o = (i - (o + 1)) + 1 by omega]; simp
    · rw [if_neg h1, List.getElem?_set]
      by_cases h2 : o = i
      · subst h2; rw [if_pos rfl, if_pos (by omega), if_pos (by omega)]; simp
      · rw [if_neg h2, if_neg (by omega)]

/-- Cells are stored behind an address of a row of one's own. -/
theorem Rel.store (R : Rel ρ h w) {r : Nat} {x : Row} {p : Place} (hx : h[r]? = some (some x)) (hp : ρ r = some p) (hro : x.ro = false)
    {vs vs' : List Value} (hv : VL ρ h vs vs') (h1 : vs.all Pm.one = true) (o : Nat) (ho : o + vs.length ≤ x.cells.length) :
    ∃ w', (storeCells ⟨p.b, p.d + o, none⟩ vs').run P w = .ok () w' ∧ Rel ρ (h.set r (some { x with cells := splice x.cells o vs })) w' ∧
      Go1 ρ h w ρ (h.set r (some { x with cells := splice x.cells o vs })) w' := by
  obtain ⟨c, t, hb, hs, hd, hc⟩ := R.own r x p hx hp hro
  have hl := hv.1
  have hrun := run_storeCells_at P p.b (p.d + o) t vs' 0 c w hb (by omega) (hv.one h1)
  refine ⟨_, hrun, R.write hx hp hro (splice_length _ _ _) hb ?_ (fun i v hi => ?_)⟩
  · simp; omega
  · rw [splice_get vs _ _ i ho] at hi
    simp only [Nat.add_zero, List.getElem?_toArray]
    have hdc : p.d + o + vs'.length ≤ c.toList.length := by simp; omega
    by_cases hin : o ≤ i ∧ i < o + vs.length
    · rw [if_pos hin] at hi
      have hi' : i - o < vs'.length := by omega
      refine ⟨vs'[i - o], ?_, hv.2 (i - o) v _ hi (List.getElem?_eq_getElem hi')⟩
      rw [List.append_assoc, List.getElem?_append_right (by simp; omega), List.getElem?_append_left (by simp; omega)]
      simp only [List.length_take, Array.length_toList]
      rw [show p.d + i - min (p.d + o) c.size = i - o by omega]
      exact List.getElem?_eq_getElem hi'
    · rw [if_neg hin] at hi
      obtain ⟨v', h3, h4⟩ := hc i v hi
      refine ⟨v', ?_, h4⟩
      rw [← h3]
      by_cases hlt : i < o
      · rw [List.append_assoc, List.getElem?_append_left (by simp; omega), List.getElem?_take, if_pos (by omega)]; simp
      · rw [List.getElem?_append_right (by simp; omega), List.getElem?_drop]
        simp only [List.length_append, List.length_take, Array.length_toList]
        rw [show p.d + o + vs'.length + (p.d + i - (min (p.d + o) c.size + vs'.length)) = p.d + i by omega]
        simp
end Go.Pm

/- The operations that call nothing: what the small machine reckons, the model does. -/
set_option linter.unusedVariables false
set_option linter.unusedSimpArgs false
namespace Go.Pm
variable {P : Program} {ρ : Mp} {h : Hp} {w : World}

/-- What an operation does in the model, beside what it does in the small machine. -/
def Ok (P : Program) (ρ : Mp) (h : Hp) (w : World) (r : Result Next) (v : Value) (h' : Hp) : Prop :=
  ∃ v' w' ρ', (r = .ok (.value v') w' ∨ (r = .ok .skip w' ∧ v' = undef)) ∧ VR ρ' h' v v' ∧ Rel ρ' h' w' ∧ Go1 ρ h w ρ' h' w'
theorem Ok.same (R : Rel ρ h w) {r : Result Next} {v v' : Value} (hr : r = .ok (.value v') w) (hv : VR ρ h v v') : Ok P ρ h w r v h :=
  ⟨v', w, ρ, .inl hr, hv, R, Go1.refl _ _ _⟩

theorem run_info {t : TypeId} {i : TypeInfo} (hi : P.info? t = some i) (w : World) : (typeInfo t).run P w = .ok i w := by simp [typeInfo, hi]
theorem run_size {t : TypeId} {i : TypeInfo} (hi : P.info? t = some i) (w : World) : (sizeOf t).run P w = .ok i.size w := by simp [sizeOf, run_info hi]
theorem run_zero {t : TypeId} {i : TypeInfo} {z : Value} (hi : P.info? t = some i) (hz : i.zero = some z) (w : World) : (zeroValue t).run P w = .ok z w := by simp [zeroValue, run_info hi, hz]
theorem run_agg {t : TypeId} {d : TypeDesc} (hu : P.underlying t = some d) (w : World) : (isAgg t).run P w = .ok (aggD d) w := by
  simp only [isAgg, Sem.run_bind, run_underlying hu, Result.andThen_ok]
  cases d <;> rfl

theorem row_ptr {a : Addr} {x : Row} {v' : Value} (hx : rowAt h a = some x) (hv : VR ρ h (.pointer (some a)) v') :
    ∃ p, h[a.block]? = some (some x) ∧ ρ a.block = some p ∧ v' = .pointer (some ⟨p.b, p.d + a.off, none⟩) := by
  unfold rowAt at hx
  split at hx
  · rename_i y hy
    split at hx
    · rename_i hs
      cases hx
      cases hv with
      | ptr r o z p hz hp => exact ⟨p, hy, hp, rfl⟩
      | ptrGone _ a' hg =>
        obtain ⟨L, h1, h2, h3⟩ := hg
        rw [hs] at h1
        cases h1
        have := h3 x hy
        omega
    · cases hx
  · cases hx
theorem row_slice {a : Addr} {x : Row} {n c : Nat} {v' : Value} (hx : rowAt h a = some x) (hv : VR ρ h (.slice (some a) n c) v') :
    (∃ p c', h[a.block]? = some (some x) ∧ ρ a.block = some p ∧ v' = .slice (some ⟨p.b, p.d + a.off, none⟩) n c' ∧ n ≤ c ∧ c ≤ c' ∧ (x.ro = false → p.d + a.off + c' * x.sz ≤ p.bs)) ∨
    (n = 0 ∧ c = 0 ∧ ∃ a' p, v' = .slice (some a') 0 0 ∧ h[a.block]? = some (some x) ∧ ρ a.block = some p) := by
  unfold rowAt at hx
  split at hx
  · rename_i y hy
    split at hx
    · rename_i hs
      cases hx
      cases hv with
      | sl r o z p n c c' hz hp h1 h2 h3 =>
        have : z = x := by
          have := hz.symm.trans hy
          simpa using this
        subst this
        exact .inl ⟨p, c', hy, hp, rfl, h1, h2, h3⟩
      | slZero r o z p a' hz hp => exact .inr ⟨rfl, rfl, a', p, rfl, hy, hp⟩
      | slGone _ a' _ _ c' hg =>
        obtain ⟨L, h1, h2, h3⟩ := hg
        rw [hs] at h1
        cases h1
        have := h3 x hy
        omega
    · cases hx
  · cases hx
theorem rowAt_spot {a : Addr} {x : Row} (hx : rowAt h a = some x) : a.spot = some x.cells.length ∧ h[a.block]? = some (some x) := by
  unfold rowAt at hx
  split at hx
  · rename_i y hy
    split at hx
    · rename_i hs; cases hx; exact ⟨hs, hy⟩
    · cases hx
  · cases hx

/-! ### load, store -/
theorem load_ok (R : Rel ρ h w) {t : TypeId} {v v' x : Value} (hv : VR ρ h v v') (e : loadP P h t v = some x) :
    ∃ x', (Instr.loadAt t v').run P w = .ok x' w ∧ VR ρ h x x' := by
  unfold loadP at e
  split at e
  · rename_i a
    split at e
    · rename_i row d i hrow hu hi
      obtain ⟨p, hx, hp, rfl⟩ := row_ptr hrow hv
      split at e
      · rename_i hd
        split at e
        · rename_i hle
          cases e
          obtain ⟨l', hl, hc⟩ := R.seg hx hp a.off i.size
          have hlen : l'.length = i.size := by rw [← hl.1]; simp; omega
          refine ⟨.agg l'.toArray, ?_, .agg _ _ (by simpa using hl.1) (fun j u u' h1 h2 => hl.2 j u u' (by simpa using h1) (by simpa using h2))⟩
          have h1 := run_loadCells_list (P := P) w ⟨p.b, p.d + a.off, none⟩ l' hc
          rw [hlen] at h1
          simp [Instr.loadAt, Instr.sureAddr, loadVar, run_agg hu, hd, run_size hi, h1]
        · cases e
      · rename_i hd
        obtain ⟨u, h1, h2⟩ := R.cell hx hp e
        refine ⟨u, ?_, h2⟩
        have hd' : aggD d = false := by simpa using hd
        simp [Instr.loadAt, Instr.sureAddr, loadVar, run_agg hu, hd', h1]
    · cases e
  · cases e

theorem VR.cells_size {v v' : Value} (hv : VR ρ h v v') : v'.cells.size = v.cells.size := by simpa using hv.cells.1.symm

theorem store_ok (R : Rel ρ h w) {t : TypeId} {v v' x x' : Value} {h' : Hp} (hv : VR ρ h v v') (hx' : VR ρ h x x') (e : storeP P h t x v = some h') :
    ∃ w', (Instr.storeAt t v' x').run P w = .ok () w' ∧ Rel ρ h' w' ∧ Go1 ρ h w ρ h' w' := by
  unfold storeP at e
  split at e
  · rename_i a
    split at e
    · rename_i row i hrow hi
      obtain ⟨p, hx, hp, rfl⟩ := row_ptr hrow hv
      split at e
      · rename_i hc
        obtain ⟨hro, hsz, hle, h1⟩ := hc
        cases e
        obtain ⟨w', hrun, R', G⟩ := R.store (P := P) hx hp hro hx'.cells h1 a.off (by simp; omega)
        refine ⟨w', ?_, R', G⟩
        have : ¬ x'.cells.size ≠ i.size := by rw [hx'.cells_size]; simpa using hsz
        simp only [Instr.storeAt, Instr.sureAddr, storeVar, Sem.run_bind, Sem.run_pure, Result.andThen_ok, run_size hi, Sem.run_ite, this, if_false, hrun]
      · cases e
    · cases e
  · cases e

/-! ### numbers -/
theorem binI_run {op : BinOp} {k : IntKind} {a b : Int} {r : Value} (e : binI op k a b = some r) {t : TypeId} {X Y : Operand} (hns : isShift op = false) :
    (do Go.eqGuard op t X Y (.int k a) (.int k b); Go.binOp op t (.int k a) (.int k b) : Sem Value).run P w = .ok r w ∧ VR ρ h r r := by
  cases op <;> simp only [binI, isShift] at e hns <;> (try cases hns) <;>
    first
    | (cases e; exact ⟨by simp [Go.eqGuard, Go.binOp, Op.intArith, Op.intBits, Op.intCmp], by first | exact .int _ _ | exact .bool _⟩)
    | (split at e
       · cases e
       · rename_i hb
         cases e
         exact ⟨by simp [Go.eqGuard, Go.binOp, Op.intDiv, hb], .int _ _⟩)
    | cases e

end Go.Pm

/- The operations, one by one. -/
set_option linter.unusedVariables false
set_option linter.unusedSimpArgs false
namespace Go.Pm
variable {P : Program} {ρ : Mp} {h : Hp} {w : World}

theorem part_ok {t : TypeId} {cs cs' : Array Value} {off : Nat} {r : Value} (hc : VL ρ h cs.toList cs'.toList) (e : partP P t cs.toList off = some r) :
    ∃ r', (part t cs' off).run P w = .ok r' w ∧ VR ρ h r r' := by
  unfold partP at e
  split at e
  · rename_i d i hu hi
    split at e
    · rename_i hd
      cases e
      refine ⟨.agg (cs'.extract off (off + i.size)), by simp [part, run_agg hu, hd, run_size hi], ?_⟩
      have h1 := (hc.drop off).take i.size
      have h2 : cs'.extract off (off + i.size) = ((cs'.toList.drop off).take i.size).toArray := by
        apply Array.ext'
        rw [Array.toList_extract, List.extract_eq_take_drop]
        simp
      rw [h2]
      exact .agg _ _ (by simpa using h1.1) (fun j u u' g1 g2 => h1.2 j u u' (by simpa using g1) (by simpa using g2))
    · rename_i hd
      have hd' : aggD d = false := by simpa using hd
      have hlt : off < cs'.toList.length := by rw [← hc.1]; exact (List.getElem?_eq_some_iff.1 e).1
      have h1 := List.getElem?_eq_getElem hlt
      refine ⟨_, ?_, hc.2 off r _ e h1⟩
      have h2 : cs'[off]? = some cs'.toList[off] := by simp
      simp [part, run_agg hu, hd', h2]
  · cases e

theorem agg_list {cs : Array Value} {v' : Value} (hv : VR ρ h (.agg cs) v') : ∃ cs', v' = .agg cs' ∧ VL ρ h cs.toList cs'.toList := by
  cases hv with
  | agg _ a' e1 h1 => exact ⟨a', rfl, by simpa using e1, fun i u u' g1 g2 => h1 i u u' (by simpa using g1) (by simpa using g2)⟩
theorem tuple_list {cs : Array Value} {v' : Value} (hv : VR ρ h (.tuple cs) v') : ∃ cs', v' = .tuple cs' ∧ VL ρ h cs.toList cs'.toList := by
  cases hv with
  | tuple _ a' e1 h1 => exact ⟨a', rfl, by simpa using e1, fun i u u' g1 g2 => h1 i u u' (by simpa using g1) (by simpa using g2)⟩

theorem fieldsOf_eq {t : TypeId} {fs : Array Field} (hu : P.underlying t = some (.struct fs)) : P.fieldsOf t = fs := by unfold Program.fieldsOf; rw [hu]
theorem eqF_ok {d : Nat} {E : TypeId → Value → Value → Option Bool} (hE : ∀ t x y x' y' b, E t x y = some b → VR ρ h x x' → VR ρ h y y' → (Op.equalIn d t x' y').run P w = .ok b w) {xs ys xs' ys' : Array Value} (hx : VL ρ h xs.toList xs'.toList) (hy : VL ρ h ys.toList ys'.toList) :
    ∀ {fs : List Field} {b : Bool}, eqF P E xs.toList ys.toList fs = some b → (Op.eqFields d xs' ys' fs).run P w = .ok b w
  | [], b, e => by cases e; simp [Op.eqFields]
  | f :: fs, b, e => by
    unfold eqF at e
    split at e
    · rename_i hn
      obtain ⟨a1, h1, e⟩ := Option.bind_eq_some_iff.1 e
      obtain ⟨a2, h2, e⟩ := Option.bind_eq_some_iff.1 e
      obtain ⟨q, h3, e⟩ := Option.bind_eq_some_iff.1 e
      obtain ⟨q', h4, e⟩ := Option.map_eq_some_iff.1 e
      subst e
      obtain ⟨r1, g1, v1⟩ := part_ok (P := P) (w := w) hx h1
      obtain ⟨r2, g2, v2⟩ := part_ok (P := P) (w := w) hy h2
      have g3 := hE _ _ _ _ _ _ h3 v1 v2
      have g4 := eqF_ok hE hx hy h4
      rw [Op.eqFields, if_pos hn]
      simp only [Sem.run_bind, g1, g2, g3, Result.andThen_ok]
      cases q
      · simp
      · simpa using g4
    · rename_i hn
      rw [Op.eqFields, if_neg hn]
      exact eqF_ok hE hx hy e
theorem eqE_ok {d : Nat} {E : TypeId → Value → Value → Option Bool} (hE : ∀ t x y x' y' b, E t x y = some b → VR ρ h x x' → VR ρ h y y' → (Op.equalIn d t x' y').run P w = .ok b w) {xs ys xs' ys' : Array Value} (hx : VL ρ h xs.toList xs'.toList) (hy : VL ρ h ys.toList ys'.toList) {e0 : TypeId} :
    ∀ {is : List Nat} {b : Bool}, eqE P E e0 xs.toList ys.toList is = some b → (Op.eqItems d e0 (P.cellsOf e0) xs' ys' is).run P w = .ok b w
  | [], b, e => by cases e; simp [Op.eqItems]
  | f :: fs, b, e => by
    unfold eqE at e
    obtain ⟨a1, h1, e⟩ := Option.bind_eq_some_iff.1 e
    obtain ⟨a2, h2, e⟩ := Option.bind_eq_some_iff.1 e
    obtain ⟨q, h3, e⟩ := Option.bind_eq_some_iff.1 e
    obtain ⟨q', h4, e⟩ := Option.map_eq_some_iff.1 e
    subst e
    obtain ⟨r1, g1, v1⟩ := part_ok (P := P) (w := w) hx h1
    obtain ⟨r2, g2, v2⟩ := part_ok (P := P) (w := w) hy h2
    have g3 := hE _ _ _ _ _ _ h3 v1 v2
    have g4 := eqE_ok hE hx hy h4
    simp only [Op.eqItems, Sem.run_bind, g1, g2, g3, Result.andThen_ok]
    cases q
    · simp
    · simpa using g4
theorem eqV_ok : ∀ {d d' : Nat} {t : TypeId} {x y x' y' : Value} {b : Bool}, d ≤ d' → eqV P d t x y = some b → VR ρ h x x' → VR ρ h y y' → (Op.equalIn d' t x' y').run P w = .ok b w
  | 0, _, _, _, _, _, _, _, _, e, _, _ => by cases e
  | d + 1, 0, _, _, _, _, _, _, hd, _, _, _ => by omega
  | d + 1, d' + 1, t, x, y, x', y', b, hd, e, hx, hy => by
    unfold eqV at e
    split at e
    · rename_i hu; cases hx; cases hy; cases e; simp [Op.equalIn, run_underlying hu]
    · rename_i hu
      cases hx; cases hy
      split at e
      · rename_i hk; subst hk; cases e; simp [Op.equalIn, run_underlying hu]
      · cases e
    · rename_i hu; cases hx; cases hy; cases e; simp [Op.equalIn, run_underlying hu]
    · rename_i fs xs ys hu
      split at e
      · cases e
      · rename_i hs
        obtain ⟨xs', rfl, lx⟩ := agg_list hx
        obtain ⟨ys', rfl, ly⟩ := agg_list hy
        have hf := fieldsOf_eq hu
        rw [run_equalIn_struct w d' t xs' ys' (by rw [hf]; exact hu) (by simpa using hs), hf]
        exact eqF_ok (fun t x y x' y' b e hx hy => eqV_ok (by omega) e hx hy) lx ly e
    · rename_i n e0 xs ys hu
      split at e
      · rename_i i hi
        obtain ⟨xs', rfl, lx⟩ := agg_list hx
        obtain ⟨ys', rfl, ly⟩ := agg_list hy
        rw [run_equalIn_array w d' xs' ys' hu hi]
        exact eqE_ok (fun t x y x' y' b e hx hy => eqV_ok (by omega) e hx hy) lx ly e
      · cases e
    · cases e
theorem bin_ok {op : BinOp} {t : TypeId} {x y x' y' r : Value} (hx : VR ρ h x x') (hy : VR ρ h y y') (e : binP P op t x y = some r) (X Y : Operand) :
    (do Go.eqGuard op t X Y x' y'; Go.binOp op t x' y' : Sem Value).run P w = .ok r w ∧ VR ρ h r r := by
  unfold binP at e
  split at e
  · rename_i k a k' b
    cases hx; cases hy
    split at e
    · rename_i hs
      unfold shiftI at e
      split at e
      · cases e
      · rename_i hb
        cases op <;> simp only [isShift] at hs e <;> (try cases hs) <;> (cases e; exact ⟨by simp [Go.eqGuard, Go.binOp, Op.shift, hb], .int _ _⟩)
    · rename_i hs
      split at e
      · rename_i hk
        subst hk
        exact binI_run e (by simpa using hs)
      · cases e
  · rename_i a b
    cases hx; cases hy
    cases op <;> simp only [binS] at e <;>
      first
      | (cases e; exact ⟨by simp [Go.eqGuard, Go.binOp, Op.stringOp], .bool _⟩)
      | (split at e
         · cases e
         · rename_i hb
           cases e
           refine ⟨?_, .string _⟩
           simp only [Go.eqGuard, Go.binOp, Op.stringOp, if_neg hb]
           rfl)
      | cases e
  · rename_i a b
    cases hx; cases hy
    have key : P.underlying t = some .bool → ∀ d, (Op.equalIn (d + 1) t (.bool a) (.bool b)).run P w = .ok (a == b) w := by
      intro hu d
      simp [Op.equalIn, run_underlying hu]
    split at e
    · rename_i hu
      cases e
      exact ⟨by simp [Go.eqGuard, Go.binOp, Op.equal, Op.maxDepth, key hu 9999], .bool _⟩
    · rename_i hu
      cases e
      exact ⟨by simp [Go.eqGuard, Go.binOp, Op.equal, Op.maxDepth, key hu 9999], .bool _⟩
    · cases e
  · rename_i xs ys
    have hg : ∀ b, eqAgg P t (.agg xs) (.agg ys) = some b → ∃ xs' ys', x' = .agg xs' ∧ y' = .agg ys' ∧ P.eqGuardType P.depth t = false ∧ (Op.equalIn 10000 t (.agg xs') (.agg ys')).run P w = .ok b w := by
      intro b eb
      unfold eqAgg at eb
      split at eb
      · cases eb
      · rename_i hs
        obtain ⟨xs', rfl, lx⟩ := agg_list hx
        obtain ⟨ys', rfl, ly⟩ := agg_list hy
        exact ⟨xs', ys', rfl, rfl, by simpa using hs, eqV_ok (by omega) eb hx hy⟩
    split at e
    · obtain ⟨b, eb, rfl⟩ := Option.map_eq_some_iff.1 e
      obtain ⟨xs', ys', rfl, rfl, g1, g2⟩ := hg b eb
      refine ⟨?_, .bool _⟩
      rw [Sem.run_bind, run_eqGuard_agg w _ t X Y xs' ys' g1, Result.andThen_ok, run_eql_struct w t xs' ys', g2]
      rfl
    · obtain ⟨b, eb, rfl⟩ := Option.map_eq_some_iff.1 e
      obtain ⟨xs', ys', rfl, rfl, g1, g2⟩ := hg b eb
      refine ⟨?_, .bool _⟩
      rw [Sem.run_bind, run_eqGuard_agg w _ t X Y xs' ys' g1, Result.andThen_ok, run_neq_struct w t xs' ys', g2]
      rfl
    · cases e
  · cases e

theorem nilC_eq {y : Operand} (h : nilC y = true) : y = .const (.slice none 0 0) := by
  unfold nilC at h
  split at h
  · rename_i v
    unfold nilV at h
    split at h
    · rfl
    · cases h
  · cases h
theorem nil_ok {op : BinOp} {t : TypeId} {x x' r : Value} (hx : VR ρ h x x') (e : nilP P op t x = some r) (X Y : Operand) :
    (do Go.eqGuard op t X Y x' (.slice none 0 0); Go.binOp op t x' (.slice none 0 0) : Sem Value).run P w = .ok r w ∧ VR ρ h r r := by
  have key : ∀ {e0 : TypeId} {s : Option Addr} {n c : Nat} {b : Bool} {d : Nat}, P.underlying t = some (.slice e0) → b = s.isNone → (Op.equalIn (d + 1) t (.slice s n c) (.slice none 0 0)).run P w = .ok b w := by
    intro e0 s n c b d hu hb
    subst hb
    cases s <;> simp [Op.equalIn, run_underlying hu]
  unfold nilP at e
  split at e
  · rename_i hu
    cases hx; cases e
    exact ⟨by simp [Go.eqGuard, Go.binOp, Op.equal, Op.maxDepth, key (d := 9999) hu rfl], .bool _⟩
  · rename_i hu
    cases hx; cases e
    exact ⟨by simp [Go.eqGuard, Go.binOp, Op.equal, Op.maxDepth, key (d := 9999) hu rfl], .bool _⟩
  · rename_i hu
    cases e
    cases hx <;> exact ⟨by simp [Go.eqGuard, Go.binOp, Op.equal, Op.maxDepth, key (d := 9999) hu rfl], .bool _⟩
  · rename_i hu
    cases e
    cases hx <;> exact ⟨by simp [Go.eqGuard, Go.binOp, Op.equal, Op.maxDepth, key (d := 9999) hu rfl], .bool _⟩
  · cases e
theorem binN_ok {op : BinOp} {t : TypeId} {x y x' y' r : Value} {c : Bool} (hx : VR ρ h x x') (hy : VR ρ h y y') (e : binN P op t x y c = some r) (hc : c = true → y' = .slice none 0 0) (X Y : Operand) :
    (do Go.eqGuard op t X Y x' y'; Go.binOp op t x' y' : Sem Value).run P w = .ok r w ∧ VR ρ h r r := by
  unfold binN at e
  split at e
  · rename_i g
    rw [hc g]
    exact nil_ok hx e X Y
  · exact bin_ok hx hy e X Y

theorem conv_ok {t u : TypeId} {x x' r : Value} (hx : VR ρ h x x') (e : convP P t u x = some r) : (Go.convert t u x').run P w = .ok r w ∧ VR ρ h r r := by
  unfold convP at e
  split at e
  · rename_i h1 h2
    cases hx; cases e
    exact ⟨by simp [Go.convert, run_underlying h1, run_underlying h2, Conv.intToInt], .int _ _⟩
  · rename_i h1 h2
    cases hx; cases e
    exact ⟨by simp [Go.convert, run_underlying h1, run_underlying h2], .string _⟩
  · cases e

theorem un_ok {op : UnOp} {x x' r : Value} (hx : VR ρ h x x') (e : unP op x = some r) : (Op.unary op x').run P w = .ok r w ∧ VR ρ h r r := by
  unfold unP at e
  split at e
  · cases hx; cases e; exact ⟨by simp [Op.unary, Op.intArith], .int _ _⟩
  · cases hx; cases e; exact ⟨by simp [Op.unary], .bool _⟩
  · cases e

theorem add_some (a : Addr) (n : Nat) : (addP a n) = ⟨a.block, a.off + n, a.spot⟩ := rfl

/-- An address moved on within its row. -/
theorem ptr_add {a : Addr} {v' : Value} (hv : VR ρ h (.pointer (some a)) v') (n : Nat) : ∃ a', v' = .pointer (some a') ∧ VR ρ h (.pointer (some (addP a n))) (.pointer (some (a'.add n))) := by
  cases hv with
  | ptr r o x p hx hp => exact ⟨_, rfl, by rw [add_none, add_some, Nat.add_assoc]; exact .ptr r (o + n) x p hx hp⟩
  | ptrGone _ a' hg =>
    refine ⟨a', rfl, .ptrGone _ _ ?_⟩
    obtain ⟨L, h1, h2, h3⟩ := hg
    exact ⟨L, h1, h2, h3⟩

theorem indexAddr_ok {t : TypeId} {x y x' y' r : Value} (hx : VR ρ h x x') (hy : VR ρ h y y') (e : indexAddrP P h t x y = some r) :
    ∃ r', (Instr.indexAt t x' y').run P w = .ok r' w ∧ VR ρ h r r' := by
  unfold indexAddrP at e
  split at e
  · rename_i el a n c k j hu
    cases hy
    split at e
    · rename_i q row hi hrow
      split at e
      · rename_i hj
        cases e
        rcases row_slice hrow hx with ⟨p, c', h1, h2, rfl, h3, h4, h5⟩ | ⟨rfl, _⟩
        · refine ⟨.pointer (some ⟨p.b, p.d + (a.off + j.toNat * q.size), none⟩), ?_, ?_⟩
          · simp [Instr.indexAt, asIntOf, run_underlying hu, hj.1, hj.2, run_size hi, add_none, Nat.add_assoc]
          · have hs := (rowAt_spot hrow).1
            have := VR.ptr (ρ := ρ) (h := h) a.block (a.off + j.toNat * q.size) row p h1 h2
            rw [add_some, hs]
            exact this
        · omega
      · cases e
    · cases e
  · rename_i n el a k j hu
    cases hy
    split at e
    · rename_i q hi
      split at e
      · rename_i hj
        cases e
        obtain ⟨a', rfl, h1⟩ := ptr_add hx (j.toNat * q.size)
        exact ⟨_, by simp [Instr.indexAt, asIntOf, run_underlying hu, Instr.sureAddr, hj.1, hj.2, run_size hi], h1⟩
      · cases e
    · cases e
  · cases e

theorem index_ok {t : TypeId} {x y x' y' r : Value} (hx : VR ρ h x x') (hy : VR ρ h y y') (e : indexP P t x y = some r) :
    ∃ r', (Instr.index t x' y').run P w = .ok r' w ∧ VR ρ h r r' := by
  unfold indexP at e
  split at e
  · rename_i n el cs k j hu
    cases hy
    obtain ⟨cs', rfl, hc⟩ := agg_list hx
    split at e
    · rename_i q hi
      split at e
      · rename_i hj
        obtain ⟨r', h1, h2⟩ := part_ok (w := w) hc e
        exact ⟨r', by simp [Instr.index, asIntOf, run_underlying hu, hj.1, hj.2, run_size hi, h1], h2⟩
      · cases e
    · cases e
  · rename_i s k j hu
    cases hx; cases hy
    split at e
    · rename_i hj
      obtain ⟨b, hb, rfl⟩ := Option.map_eq_some_iff.1 e
      exact ⟨_, by simp [Instr.index, asIntOf, run_underlying hu, hj, hb], .int _ _⟩
    · cases e
  · cases e

theorem field_ok {t : TypeId} {fs : List Field} {f : Field} {j : Nat} {cs : Array Value} {x' r : Value} (hfs : fieldsOf P t = some fs) (hf : fs[j]? = some f) (hx : VR ρ h (.agg cs) x')
    (e : partP P f.type cs.toList f.offset = some r) : ∃ r', (Instr.field t x' j).run P w = .ok r' w ∧ VR ρ h r r' := by
  obtain ⟨cs', rfl, hc⟩ := agg_list hx
  unfold fieldsOf at hfs
  split at hfs
  · rename_i fa hu
    cases hfs
    obtain ⟨r', h1, h2⟩ := part_ok (w := w) hc e
    have : fa[j]? = some f := by simpa using hf
    exact ⟨r', by simp [Instr.field, run_underlying hu, this, asAgg, h1], h2⟩
  · cases hfs

theorem fieldAddr_ok {t : TypeId} {fs : List Field} {f : Field} {j : Nat} {a : Addr} {x' : Value} {i : TypeInfo} (hfs : fieldsOf P t = some fs) (hf : fs[j]? = some f) (hi : P.info? f.type = some i) (hs : 0 < i.size) (hx : VR ρ h (.pointer (some a)) x') :
    ∃ r', (Instr.fieldAt t x' j).run P w = .ok r' w ∧ VR ρ h (.pointer (some (addP a f.offset))) r' := by
  unfold fieldsOf at hfs
  split at hfs
  · rename_i fa hu
    cases hfs
    obtain ⟨a', rfl, h1⟩ := ptr_add hx f.offset
    have : fa[j]? = some f := by simpa using hf
    have hne : ¬ i.size = 0 := by omega
    exact ⟨_, by simp [Instr.fieldAt, run_underlying hu, this, Instr.sureAddr, fieldPlace, run_size hi, hne], h1⟩
  · cases hfs

/-! ### slices -/
theorem asI_vr {v v' : Value} (hv : VR ρ h v v') {n : Int} (e : asI v = some n) : ∃ k, v' = .int k n := by
  cases v <;> simp [asI] at e
  cases hv
  subst e
  exact ⟨_, rfl⟩

def OV (ρ : Mp) (h : Hp) : Option Value → Option Value → Prop
  | none, none => True
  | some v, some v' => VR ρ h v v'
  | _, _ => False

theorem run_bound {k : IntKind} {i : Int} {y : Nat} {code : BoundsCode} (h0 : 0 ≤ i) (h1 : i ≤ y) : (Instr.sliceBound (.int k i) y code).run P w = .ok i.toNat w := by
  simp [Instr.sliceBound, asIntOf, h0, h1]

theorem run_bounds {b : Bool} {len cap : Nat} {lo hi lo' hi' : Option Value} (hl : OV ρ h lo lo') (hh : OV ρ h hi hi') {l u : Int}
    (el : loP lo = some l) (eu : hiP len hi = some u) (h0 : 0 ≤ l) (h1 : l ≤ u) (h2 : u ≤ cap) :
    (Instr.sliceBounds b len cap lo' hi' none).run P w = .ok (l.toNat, u.toNat, cap) w := by
  cases lo with
  | none =>
    cases lo' with
    | some _ => cases hl
    | none =>
      cases hi with
      | none =>
        cases hi' with
        | some _ => cases hh
        | none => cases el; cases eu; simp [Instr.sliceBounds]
      | some v =>
        cases hi' with
        | none => cases hh
        | some v' =>
          obtain ⟨k, rfl⟩ := asI_vr hh eu
          cases el
          simp [Instr.sliceBounds, run_bound (P := P) (w := w) (k := k) (i := u) (by omega) h2]
  | some z =>
    cases lo' with
    | none => cases hl
    | some z' =>
      obtain ⟨k, rfl⟩ := asI_vr hl el
      cases hi with
      | none =>
        cases hi' with
        | some _ => cases hh
        | none =>
          cases eu
          simp [Instr.sliceBounds, run_bound (P := P) (w := w) (k := k) (i := l) h0 h1]
      | some v =>
        cases hi' with
        | none => cases hh
        | some v' =>
          obtain ⟨k2, rfl⟩ := asI_vr hh eu
          have hu : (u.toNat : Int) = u := by omega
          simp [Instr.sliceBounds, run_bound (P := P) (w := w) (k := k2) (i := u) (by omega) h2, run_bound (P := P) (w := w) (k := k) (i := l) (y := u.toNat) h0 (by omega)]

theorem slice_ok {t : TypeId} {x x' r : Value} {lo hi lo' hi' : Option Value} (hx : VR ρ h x x') (hl : OV ρ h lo lo') (hh : OV ρ h hi hi') (e : sliceP P h t x lo hi = some r) :
    ∃ r', (Instr.sliceAt t x' lo' hi' none).run P w = .ok r' w ∧ VR ρ h r r' := by
  unfold sliceP at e
  split at e
  · rename_i el a n c hu
    split at e
    · rename_i q row u l hi hrow eu el
      split at e
      · rename_i hb
        obtain ⟨h0, h1, h2, hsz⟩ := hb
        cases e
        rcases row_slice hrow hx with ⟨p, c', i1, i2, rfl, i3, i4, i5⟩ | ⟨rfl, rfl, a', p, rfl, i1, i2⟩
        · have hr := run_bounds (P := P) (w := w) (b := true) (len := n) (cap := c') hl hh el eu h0 h1 (by omega)
          have hs := (rowAt_spot hrow).1
          by_cases hm : c' = l.toNat
          · subst hm
            refine ⟨.slice (some ⟨p.b, p.d + a.off, none⟩) (u.toNat - l.toNat) (l.toNat - l.toNat), ?_, ?_⟩
            · simp [Instr.sliceAt, run_underlying hu, Instr.slice, hr, run_size hi]
            · rw [show u.toNat - l.toNat = 0 by omega, show c - l.toNat = 0 by omega, show l.toNat - l.toNat = 0 by omega, add_some, hs]
              exact .slZero _ _ row p _ i1 i2
          · refine ⟨.slice (some ⟨p.b, p.d + (a.off + l.toNat * q.size), none⟩) (u.toNat - l.toNat) (c' - l.toNat), ?_, ?_⟩
            · simp [Instr.sliceAt, run_underlying hu, Instr.slice, hr, run_size hi, hm, add_none, Nat.add_assoc]
            · have := VR.sl (ρ := ρ) (h := h) a.block (a.off + l.toNat * q.size) row p (u.toNat - l.toNat) (c - l.toNat) (c' - l.toNat) i1 i2 (by omega) (by omega) (fun hro => by
                have h6 := i5 hro
                rw [hsz] at h6 ⊢
                have : l.toNat * q.size + (c' - l.toNat) * q.size = c' * q.size := by rw [← Nat.add_mul]; congr 1; omega
                omega)
              rw [add_some, hs]
              exact this
        · have hu0 : u = 0 := by omega
          have hl0 : l = 0 := by omega
          subst hu0; subst hl0
          have hr := run_bounds (P := P) (w := w) (b := true) (len := 0) (cap := 0) hl hh el (by simpa using eu) (by omega) (by omega) (by omega)
          refine ⟨.slice (some a') 0 0, ?_, ?_⟩
          · simp [Instr.sliceAt, run_underlying hu, Instr.slice, hr, run_size hi]
          · rw [add_some, (rowAt_spot hrow).1]
            exact .slZero _ _ row p _ i1 i2
      · cases e
    · cases e
  · rename_i eT hu
    cases hx with
    | nilSlice =>
      split at e
      · rename_i q u l hi eu el
        split at e
        · rename_i h0
          obtain ⟨rfl, rfl⟩ := h0
          cases e
          have hr := run_bounds (P := P) (w := w) (b := true) (len := 0) (cap := 0) hl hh el (by simpa using eu) (by omega) (by omega) (by omega)
          exact ⟨.slice none 0 0, by simp [Instr.sliceAt, run_underlying hu, Instr.slice, hr, run_size hi], .nilSlice⟩
        · cases e
      · cases e
    | zeroSl a' =>
      split at e
      · rename_i q u l hi eu el
        split at e
        · rename_i h0
          obtain ⟨rfl, rfl⟩ := h0
          cases e
          have hr := run_bounds (P := P) (w := w) (b := true) (len := 0) (cap := 0) hl hh el (by simpa using eu) (by omega) (by omega) (by omega)
          exact ⟨.slice (some a') 0 0, by simp [Instr.sliceAt, run_underlying hu, Instr.slice, hr, run_size hi], .zeroSl a'⟩
        · cases e
      · cases e
  · rename_i s hu
    cases hx
    split at e
    · rename_i u l eu el
      split at e
      · rename_i h0
        cases e
        have hr := run_bounds (P := P) (w := w) (b := false) (len := s.size) (cap := s.size) hl hh el eu h0.1 h0.2.1 h0.2.2
        exact ⟨_, by simp [Instr.sliceAt, run_underlying hu, Instr.slice, hr], .string _⟩
      · cases e
    · cases e
  · cases e
end Go.Pm

/- The rows below a row. -/
set_option linter.unusedVariables false
set_option linter.unusedSimpArgs false
namespace Go.Pm
variable {P : Program} {ρ : Mp} {h : Hp} {w : World}

/-- All that a value leads to lies below row L. -/
inductive Cl (L : Nat) : Value → Prop
  | bool (b) : Cl L (.bool b)
  | int (k n) : Cl L (.int k n)
  | string (s) : Cl L (.string s)
  | nilPtr : Cl L (.pointer none)
  | nilFunc : Cl L .nilFunc
  | nilSlice : Cl L (.slice none 0 0)
  | nilMk : Cl L (.slice none 0 1)
  | ptr (a : Addr) : a.block < L → Cl L (.pointer (some a))
  | sl (a : Addr) (n c : Nat) : a.block < L → Cl L (.slice (some a) n c)
  | func (fn : Fn) (a b : Array Value) : (∀ (i : Nat) v, a[i]? = some v → Cl L v) → (∀ (i : Nat) v, b[i]? = some v → Cl L v) → Cl L (.func fn a b)
  | agg (a : Array Value) : (∀ (i : Nat) v, a[i]? = some v → Cl L v) → Cl L (.agg a)
  | tuple (a : Array Value) : (∀ (i : Nat) v, a[i]? = some v → Cl L v) → Cl L (.tuple a)

theorem get_same {a a' : Array Value} (e : a.size = a'.size) {i : Nat} {v : Value} (h : a[i]? = some v) : ∃ v', a'[i]? = some v' := by
  have := (Array.getElem?_eq_some_iff.1 h).1
  exact ⟨a'[i], by simp [show i < a'.size by omega]⟩

theorem VR.cl {v v' : Value} (hv : VR ρ h v v') : Cl h.length v := by
  induction hv with
  | bool b => exact .bool b
  | int k n => exact .int k n
  | string s => exact .string s
  | nilPtr => exact .nilPtr
  | nilFunc => exact .nilFunc
  | nilSlice => exact .nilSlice
  | zeroSl a' => exact .nilSlice
  | nilMk => exact .nilMk
  | ptr r o x p hx hp => exact .ptr _ (List.getElem?_eq_some_iff.1 hx).1
  | ptrGone a a' hg => obtain ⟨L, _, h2, _⟩ := hg; exact .ptr _ h2
  | sl r o x p n c c' hx hp hn hc hb => exact .sl _ _ _ (List.getElem?_eq_some_iff.1 hx).1
  | slZero r o x p a' hx hp => exact .sl _ _ _ (List.getElem?_eq_some_iff.1 hx).1
  | slGone a a' n c c' hg => obtain ⟨L, _, h2, _⟩ := hg; exact .sl _ _ _ h2
  | func fn a a' b b' e1 e2 h1 h2 i1 i2 =>
    exact .func fn a b (fun i v hi => by obtain ⟨v', hv'⟩ := get_same e1 hi; exact i1 i v v' hi hv') (fun i v hi => by obtain ⟨v', hv'⟩ := get_same e2 hi; exact i2 i v v' hi hv')
  | agg a a' e h1 i1 => exact .agg a (fun i v hi => by obtain ⟨v', hv'⟩ := get_same e hi; exact i1 i v v' hi hv')
  | tuple a a' e h1 i1 => exact .tuple a (fun i v hi => by obtain ⟨v', hv'⟩ := get_same e hi; exact i1 i v v' hi hv')
theorem Cl.mono {L L' : Nat} (hl : L ≤ L') {v : Value} (c : Cl L v) : Cl L' v := by
  induction c with
  | bool b => exact .bool b
  | int k n => exact .int k n
  | string s => exact .string s
  | nilPtr => exact .nilPtr
  | nilFunc => exact .nilFunc
  | nilSlice => exact .nilSlice
  | nilMk => exact .nilMk
  | ptr a ha => exact .ptr a (by omega)
  | sl a n c ha => exact .sl a n c (by omega)
  | func fn a b _ _ i1 i2 => exact .func fn a b (fun i v hi => i1 i v hi) (fun i v hi => i2 i v hi)
  | agg a _ i1 => exact .agg a (fun i v hi => i1 i v hi)
  | tuple a _ i1 => exact .tuple a (fun i v hi => i1 i v hi)

/-- The places of the rows below L alone. -/
def res (ρ : Mp) (L : Nat) : Mp := fun r => if r < L then ρ r else none
theorem take_get {H : Hp} {L r : Nat} (hr : r < L) : (H.take L)[r]? = H[r]? := by rw [List.getElem?_take, if_pos hr]
theorem take_some {H : Hp} {L r : Nat} {y : Option Row} (e : (H.take L)[r]? = some y) : r < L ∧ H[r]? = some y := by
  rw [List.getElem?_take] at e
  split at e
  · exact ⟨by assumption, e⟩
  · cases e
theorem res_some {L r : Nat} {p : Place} (e : res ρ L r = some p) : r < L ∧ ρ r = some p := by
  unfold res at e
  split at e
  · exact ⟨by assumption, e⟩
  · cases e

theorem VR.res {H : Hp} {L : Nat} {v v' : Value} (hv : VR ρ H v v') (c : Cl L v) : VR (Pm.res ρ L) (H.take L) v v' := by
  have hg : ∀ a : Addr, a.block < L → Gone H a → Gone (H.take L) a := by
    intro a ha ⟨K, h1, h2, h3⟩
    exact ⟨K, h1, by simp; omega, fun x hx => h3 x (take_some hx).2⟩
  have hp : ∀ {r : Nat} {p : Place}, r < L → ρ r = some p → Pm.res ρ L r = some p := by
    intro r p hr hp
    simp [Pm.res, hr, hp]
  induction hv with
  | bool b => exact .bool b
  | int k n => exact .int k n
  | string s => exact .string s
  | nilPtr => exact .nilPtr
  | nilFunc => exact .nilFunc
  | nilSlice => exact .nilSlice
  | zeroSl a' => exact .zeroSl a'
  | nilMk => exact .nilMk
  | ptr r o x p hx hp' => cases c with | ptr _ ha => exact .ptr r o x p (by rw [take_get ha]; exact hx) (hp ha hp')
  | ptrGone a a' hg' => cases c with | ptr _ ha => exact .ptrGone a a' (hg a ha hg')
  | sl r o x p n c1 c' hx hp' hn hc hb => cases c with | sl _ _ _ ha => exact .sl r o x p n c1 c' (by rw [take_get ha]; exact hx) (hp ha hp') hn hc hb
  | slZero r o x p a' hx hp' => cases c with | sl _ _ _ ha => exact .slZero r o x p a' (by rw [take_get ha]; exact hx) (hp ha hp')
  | slGone a a' n c1 c' hg' => cases c with | sl _ _ _ ha => exact .slGone a a' n c1 c' (hg a ha hg')
  | func fn a a' b b' e1 e2 h1 h2 i1 i2 => cases c with | func _ _ _ g1 g2 => exact .func fn a a' b b' e1 e2 (fun i v v' ha hb => i1 i v v' ha hb (g1 i v ha)) (fun i v v' ha hb => i2 i v v' ha hb (g2 i v ha))
  | agg a a' e h1 i1 => cases c with | agg _ g1 => exact .agg a a' e (fun i v v' ha hb => i1 i v v' ha hb (g1 i v ha))
  | tuple a a' e h1 i1 => cases c with | tuple _ g1 => exact .tuple a a' e (fun i v v' ha hb => i1 i v v' ha hb (g1 i v ha))

theorem step_ext {H : Hp} {L : Nat} (hL : L ≤ H.length) {ρ1 ρ' : Mp} (hρ : ∀ r x p, r < L → H[r]? = some (some x) → ρ1 r = some p → ρ' r = some p) : Step ρ1 (H.take L) ρ' H :=
  ⟨fun r x p hx hp => by
    obtain ⟨h1, h2⟩ := take_some hx
    exact .inl ⟨x, h2, rfl, rfl, rfl, hρ r x p h1 h2 hp⟩, fun a ⟨K, h1, h2, h3⟩ => by
    have h2' : a.block < L := by simp at h2; omega
    exact ⟨K, h1, by omega, fun x hx => h3 x (by rw [take_get h2']; exact hx)⟩⟩

theorem Rel.res {H : Hp} {L : Nat} (R : Rel ρ H w) (hc : ∀ r x p, H[r]? = some (some x) → ρ r = some p → r < L → ∀ v, v ∈ x.cells → Cl L v) : Rel (Pm.res ρ L) (H.take L) w := by
  refine ⟨fun r x p hx hp hr => ?_, fun r x p hx hp hr i v hi => ?_, fun r r' x x' p p' hx hx' hp hp' hr hne hro => ?_, fun r p hp => ?_⟩
  · obtain ⟨h1, h2⟩ := take_some hx
    obtain ⟨_, h3⟩ := res_some hp
    obtain ⟨c, e, g1, g2, g3, g4⟩ := R.own r x p h2 h3 hr
    refine ⟨c, e, g1, g2, g3, fun i v hi => ?_⟩
    obtain ⟨v', k1, k2⟩ := g4 i v hi
    exact ⟨v', k1, k2.res (hc r x p h2 h3 h1 v (List.mem_of_getElem? hi))⟩
  · obtain ⟨h1, h2⟩ := take_some hx
    obtain ⟨_, h3⟩ := res_some hp
    obtain ⟨v', k1, k2⟩ := R.ro r x p h2 h3 hr i v hi
    exact ⟨v', k1, k2.res (hc r x p h2 h3 h1 v (List.mem_of_getElem? hi))⟩
  · exact R.inj r r' x x' p p' (take_some hx).2 (take_some hx').2 (res_some hp).2 (res_some hp').2 hr hne hro
  · obtain ⟨h1, h2⟩ := res_some hp
    have := R.dom r p h2
    simp; omega

theorem Rel.cut {ρ ρ' : Mp} {h h' : Hp} {w w' : World} (R : Rel ρ h w) (hpre : h <+: h') (R' : Rel ρ' h' w') (Gx : Go1 ρ h w ρ' h' w') :
    Rel (Pm.res ρ' h.length) h w' ∧ Go1 ρ h w (Pm.res ρ' h.length) h w' := by
  have hh : h = h'.take h.length := List.prefix_iff_eq_take.1 hpre
  have old : ∀ r x, r < h.length → h'[r]? = some (some x) → h[r]? = some (some x) := fun r x hr hx => by rw [hh, take_get hr]; exact hx
  refine ⟨?_, Gx.os, Gx.tape, Gx.output, Gx.size, Gx.blk, fun r' x' p' g1 g2 g3 => ?_, ⟨fun r x p hx hp => ?_, fun _ h => h⟩, Nat.le_refl _, fun r hr hn => ?_⟩
  · have := R'.res (L := h.length) fun r x p hx hp hr v hv => by
      have hx' := old r x hr hx
      cases hρ : ρ r with
      | none => rw [Gx.keepn r hr hρ] at hp; cases hp
      | some q =>
        obtain ⟨m, hm⟩ := List.getElem?_of_mem hv
        cases hro : x.ro with
        | false => obtain ⟨c, e, _, _, _, g4⟩ := R.own r x q hx' hρ hro
                   obtain ⟨u, _, k2⟩ := g4 m v hm
                   exact k2.cl
        | true => obtain ⟨u, _, k2⟩ := R.ro r x q hx' hρ hro m v hm
                  exact k2.cl
    rwa [← hh] at this
  · obtain ⟨h1, h2⟩ := res_some g2
    exact Gx.orig r' x' p' (by rw [hh, take_get h1] at g1; exact g1) h2 g3
  · have hr := (List.getElem?_eq_some_iff.1 hx).1
    have hx' : h'[r]? = some (some x) := by rw [hh, take_get hr] at hx; exact hx
    rcases Gx.step.live r x p hx hp with ⟨x1, h1, h2, h3, h4, h5⟩ | ⟨_, h5⟩
    · exact .inl ⟨x, hx, rfl, rfl, rfl, by simp [Pm.res, hr, h5]⟩
    · have := h5 x hx'; omega
  · simp [Pm.res, hr, Gx.keepn r hr hn]
end Go.Pm

/- What makes memory: append above all. -/
set_option linter.unusedVariables false
set_option linter.unusedSimpArgs false
namespace Go.Pm
variable {P : Program} {ρ : Mp} {h : Hp} {w : World}

theorem zero_of {t : TypeId} {z : Value} (e : zeroP P t = some z) : ∃ i, P.info? t = some i ∧ i.zero = some z ∧ plain z = true ∧ z.cells.size = i.size := by
  unfold zeroP at e
  split at e
  · rename_i i hi
    split at e
    · rename_i y hy
      split at e
      · rename_i hc; cases e; exact ⟨i, hi, hy, hc.1, hc.2⟩
      · cases e
    · cases e
  · cases e
theorem plain_cells {z : Value} (hp : plain z = true) : VL ρ h z.cells.toList z.cells.toList := (plain_vr hp).cells
/-! ### rows of zeros -/
theorem reps_length (z : List Value) : ∀ n, (reps n z).length = n * z.length
  | 0 => by simp [reps]
  | n + 1 => by rw [reps, List.length_append, reps_length z n, Nat.add_mul, Nat.one_mul, Nat.add_comm]
theorem reps_get (z : List Value) (hz : 0 < z.length) : ∀ (n i : Nat), i < n * z.length → (reps n z)[i]? = z[i % z.length]?
  | 0, i, h => by omega
  | n + 1, i, h => by
    rw [reps]
    rw [Nat.add_mul, Nat.one_mul] at h
    rcases Nat.lt_or_ge i z.length with hi | hi
    · rw [List.getElem?_append_left hi, Nat.mod_eq_of_lt hi]
    · rw [List.getElem?_append_right hi, reps_get z hz n _ (by omega), ← Nat.mod_eq_sub_mod hi]
theorem made_reps (z : Array Value) (n : Nat) (hz : 0 < z.size) : (madeCells z (n * z.size)).toList = reps n z.toList := by
  apply List.ext_getElem?
  intro i
  rcases Nat.lt_or_ge i (n * z.size) with hi | hi
  · have hm : i % z.size < z.size := Nat.mod_lt _ hz
    rw [reps_get _ (by simpa using hz) n i (by simpa using hi)]
    have h2 : z[i % z.size]! = z[i % z.size] := getElem!_pos z (i % z.size) hm
    simp [madeCells, hi, hm]
  · rw [List.getElem?_eq_none (by simp [madeCells]; omega), List.getElem?_eq_none (by rw [reps_length]; simpa using hi)]
theorem reps_vl {z : Value} (hp : plain z = true) : ∀ n, VL ρ h (reps n z.cells.toList) (reps n z.cells.toList)
  | 0 => VL.nil
  | n + 1 => (plain_cells hp).append (reps_vl hp n)

/-! ### make, alloc, box -/
theorem make_ok (R : Rel ρ h w) {t : TypeId} {l c l' c' r : Value} {h' : Hp} (hl : VR ρ h l l') (hc : VR ρ h c c') (e : makeP P h t l c = some (r, h')) :
    ∃ r' w' ρ', (Instr.makeSlice t l' c').run P w = .ok r' w' ∧ VR ρ' h' r r' ∧ Rel ρ' h' w' ∧ Go1 ρ h w ρ' h' w' := by
  unfold makeP at e
  split at e
  · rename_i eT n m hu hn hm
    obtain ⟨k1, rfl⟩ := asI_vr hl hn
    obtain ⟨k2, rfl⟩ := asI_vr hc hm
    split at e
    · rename_i q z hi hz
      split at e
      · rename_i hb
        obtain ⟨h0, h1, h2, h3, h4, h5⟩ := hb
        obtain ⟨i, hi', hz', hp, hsz⟩ := zero_of hz
        rw [hi] at hi'; cases hi'
        simp only [Option.some.injEq, Prod.mk.injEq] at e
        obtain ⟨rfl, rfl⟩ := e
        have hrun := run_make (P := P) w t eT q z hu hi hz' k1 k2 n m h0 h1 (by rw [Int.mul_comm]; omega) (by omega)
        have hv := reps_vl (ρ := ρ) (h := h) hp m.toNat
        obtain ⟨R', G⟩ := R.new hv q.size eT
        have hA : madeCells z.cells (m.toNat * q.size) = (reps m.toNat z.cells.toList).toArray := by
          apply Array.ext'
          have := made_reps z.cells m.toNat (by omega)
          rw [hsz] at this
          simpa using this
        rw [hA] at hrun
        have hrl : (reps m.toNat z.cells.toList).length = m.toNat * q.size := by rw [reps_length]; simp [hsz]
        exact ⟨_, _, _, hrun, new_slice h (reps m.toNat z.cells.toList) q.size n.toNat m.toNat w.heap.size (by omega) (by rw [hrl]; exact Nat.le_refl _), R', G⟩
      · cases e
    · cases e
  · cases e

theorem alloc_ok (R : Rel ρ h w) {eT : TypeId} {z : Value} (hz : zeroP P eT = some z) :
    ∃ r' w' ρ', (Instr.alloc eT true (.tuple #[])).run P w = .ok r' w' ∧ VR ρ' (newP h z.cells.toList 0).2 (.pointer (some (newP h z.cells.toList 0).1)) r' ∧ Rel ρ' (newP h z.cells.toList 0).2 w' ∧ Go1 ρ h w ρ' (newP h z.cells.toList 0).2 w' := by
  obtain ⟨i, hi, hz', hp, hsz⟩ := zero_of hz
  obtain ⟨R', G⟩ := R.new (plain_cells hp) 0 eT
  simp only [Array.toArray_toList] at R' G
  exact ⟨_, _, _, by simp [Instr.alloc, run_zero hi hz', newVar, newRow], new_ptr h z.cells.toList 0 0 w.heap.size, R', G⟩

theorem box_ok (R : Rel ρ h w) {eT : TypeId} {v v' : Value} (hv : VR ρ h v v') (h1 : v.cells.toList.all Pm.one = true) :
    ∃ r' w' ρ', (Instr.box eT v').run P w = .ok r' w' ∧ VR ρ' (newP h v.cells.toList 0).2 (.pointer (some (newP h v.cells.toList 0).1)) r' ∧ Rel ρ' (newP h v.cells.toList 0).2 w' ∧ Go1 ρ h w ρ' (newP h v.cells.toList 0).2 w' := by
  obtain ⟨R', G⟩ := R.new hv.cells 0 eT
  simp only [Array.toArray_toList] at R' G
  exact ⟨_, _, _, by simp [Instr.box, newVar, newRow], new_ptr h v.cells.toList 0 0 w.heap.size, R', G⟩

/-! ### struct and slice literals -/
theorem fold_splice : ∀ (vs : List Value) (k : Nat) (off : Nat) (cs : Array Value),
    ((vs.zipIdx k).foldl (fun (cs : Array Value) (x : Value × Nat) => cs.setIfInBounds (off + x.2) x.1) cs).toList = splice cs.toList (off + k) vs
  | [], k, off, cs => rfl
  | v :: vs, k, off, cs => by
    rw [List.zipIdx_cons, List.foldl_cons, fold_splice vs (k + 1) off]
    simp [splice, Nat.add_assoc]
def PL (ρ : Mp) (h : Hp) (l l' : List (Nat × Value)) : Prop := l.length = l'.length ∧ ∀ (i : Nat) x x', l[i]? = some x → l'[i]? = some x' → x.1 = x'.1 ∧ VR ρ h x.2 x'.2
theorem PL.head {x : Nat × Value} {l l' : List (Nat × Value)} (hl : PL ρ h (x :: l) l') : ∃ x' m', l' = x' :: m' ∧ (x.1 = x'.1 ∧ VR ρ h x.2 x'.2) ∧ PL ρ h l m' := by
  cases l' with
  | nil => have := hl.1; simp at this
  | cons x' m' => exact ⟨x', m', rfl, hl.2 0 x x' rfl rfl, by have := hl.1; simpa using this, fun i u u' h1 h2 => hl.2 (i + 1) u u' (by simpa using h1) (by simpa using h2)⟩
theorem fill_ok {pl pl' : Nat → Option (Nat × Nat)} (hpl : ∀ i x, pl i = some x → pl' i = some x) : ∀ (l l' : List (Nat × Value)) (cs : List Value) (cs' : Array Value) (r : List Value), PL ρ h l l' → VL ρ h cs cs'.toList → fillP pl cs l = some r →
    ∃ r', Instr.fill pl' cs' l' = some r' ∧ VL ρ h r r'.toList
  | [], l', cs, cs', r, hl, hc, e => by
    cases e
    cases l' with
    | nil => exact ⟨cs', rfl, hc⟩
    | cons x m => have := hl.1; simp at this
  | (i, v) :: l, l', cs, cs', r, hl, hc, e => by
    obtain ⟨⟨i', v'⟩, m', rfl, ⟨h1, h2⟩, h3⟩ := hl.head
    simp only at h1 h2
    subst h1
    rw [fillP] at e
    split at e
    · cases e
    · rename_i off size hp
      split at e
      · rename_i hcond
        have hs : v'.cells.size = size := by rw [h2.cells_size]; exact hcond.1
        have hlen := hc.1
        have hcond' : (v'.cells.size ≠ size || off + v'.cells.size > cs'.size) = false := by
          simp [hs]
          have := hcond.2
          simp at hlen
          omega
        rw [Instr.fill, hpl i _ hp]
        simp only [hcond', Bool.false_eq_true, if_false]
        refine fill_ok hpl l m' _ _ r h3 ?_ e
        have hf := fold_splice v'.cells.toList 0 off cs'
        have hf2 : (v'.cells.zipIdx.foldl (fun (cs : Array Value) (x : Value × Nat) => cs.setIfInBounds (off + x.2) x.1) cs').toList = splice cs'.toList off v'.cells.toList := by
          rw [← Array.foldl_toList, Array.toList_zipIdx]
          simpa using hf
        rw [hf2]
        exact VL.splice _ _ _ _ off hc h2.cells
      · cases e


theorem places_ok {fs : List Field} {l : List (Nat × Nat)} (e : places P fs = some l) : ∀ (w : World), (fs.mapM fun f => Prod.mk f.offset <$> sizeOf f.type).run P w = .ok l w := by
  induction fs generalizing l with
  | nil => intro w; cases e; simp
  | cons f r ih =>
    intro w
    rw [places] at e
    split at e
    · rename_i i m hi hm
      cases e
      simp [List.mapM_cons, run_size hi, ih hm w]
    · cases e

theorem build_ok {t : TypeId} {l l' : List (Nat × Value)} {r : Value} (hl : PL ρ h l l') (e : buildP P t l = some r) :
    ∃ r', (Instr.build t l'.toArray).run P w = .ok r' w ∧ VR ρ h r r' := by
  unfold buildP at e
  split at e
  · rename_i fs z hu hz
    obtain ⟨i, hi, hz', hp, hsz⟩ := zero_of hz
    split at e
    · rename_i pl hpl
      obtain ⟨cs, hcs, rfl⟩ := Option.map_eq_some_iff.1 e
      obtain ⟨r', h1, h2⟩ := fill_ok (ρ := ρ) (h := h) (pl := (pl[·]?)) (pl' := (pl.toArray[·]?)) (fun i x hx => by simpa using hx) l l' _ z.cells cs hl (plain_cells hp) hcs
      refine ⟨.agg r', ?_, .agg _ _ (by simpa using h2.1) (fun j u u' g1 g2 => h2.2 j u u' (by simpa using g1) (by simpa using g2))⟩
      have h3 : (fs.mapM fun f => (do pure (f.offset, ← sizeOf f.type) : Sem (Nat × Nat))).run P w = .ok pl.toArray w := by
        rw [← Array.toArray_toList (xs := fs), List.mapM_toArray]
        simp [places_ok hpl w]
      simp only [Instr.build, Sem.run_bind, run_zero hi hz', Result.andThen_ok, run_underlying hu, h3, h1, Sem.run_pure]
    · cases e
  · rename_i n el z hu hz
    obtain ⟨i, hi, hz', hp, hsz⟩ := zero_of hz
    split at e
    · rename_i q hq
      obtain ⟨cs, hcs, rfl⟩ := Option.map_eq_some_iff.1 e
      obtain ⟨r', h1, h2⟩ := fill_ok (ρ := ρ) (h := h) (fun i x hx => hx) l l' _ z.cells cs hl (plain_cells hp) hcs
      refine ⟨.agg r', ?_, .agg _ _ (by simpa using h2.1) (fun j u u' g1 g2 => h2.2 j u u' (by simpa using g1) (by simpa using g2))⟩
      simp only [Instr.build, Sem.run_bind, run_zero hi hz', Result.andThen_ok, run_underlying hu, run_size hq, h1, Sem.run_pure, List.toList_toArray]
    · cases e
  · cases e

theorem buildSlice_ok (R : Rel ρ h w) {t : TypeId} {n : Nat} {l l' : List (Nat × Value)} {r : Value} {h' : Hp} (hl : PL ρ h l l') (e : buildSliceP P h t n l = some (r, h')) :
    ∃ r' w' ρ', (Instr.buildSlice t n l'.toArray).run P w = .ok r' w' ∧ VR ρ' h' r r' ∧ Rel ρ' h' w' ∧ Go1 ρ h w ρ' h' w' := by
  unfold buildSliceP at e
  split at e
  · rename_i el hu
    split at e
    · rename_i q z hq hz
      obtain ⟨i, hi, hz', hp, hsz⟩ := zero_of hz
      rw [hq] at hi; cases hi
      split at e
      · rename_i hn0
        subst hn0
        split at e
        · rename_i hl0
          subst hl0
          cases e
          have hl' : l' = [] := by
            cases l' with
            | nil => rfl
            | cons y m => have := hl.1; simp at this
          subst hl'
          obtain ⟨R', G⟩ := R.new (l := []) (l' := []) VL.nil q.size el
          obtain ⟨R2, G2⟩ := R.cut (List.prefix_append ..) R' G
          refine ⟨_, _, _, ?_, .zeroSl ⟨w.heap.size, 0, none⟩, R2, G2⟩
          simp [Instr.buildSlice, run_underlying hu, run_size hq, Instr.fill, newRow, Array.range_zero']
        · cases e
      split at e
      · rename_i hb
        split at e
        · rename_i cs hcs
          split at e
          · rename_i hone
            simp only [Option.some.injEq, Prod.mk.injEq] at e
            obtain ⟨rfl, rfl⟩ := e
            have hA : (Array.range (n * q.size)).map (z.cells[· % z.cells.size]!) = (reps n z.cells.toList).toArray := by
              apply Array.ext'
              have := made_reps z.cells n (by omega)
              rw [hsz] at this
              simpa [madeCells] using this
            obtain ⟨r', h1, h2⟩ := fill_ok (ρ := ρ) (h := h) (fun i x hx => hx) l l' _ (reps n z.cells.toList).toArray cs hl (by simpa using reps_vl hp n) hcs
            obtain ⟨R', G⟩ := R.new h2 q.size el
            simp only [Array.toArray_toList] at R' G
            have hfl : ∀ (l : List (Nat × Value)) (cs r : List Value), fillP (fun i => some (i * q.size, q.size)) cs l = some r → r.length = cs.length := by
              intro l
              induction l with
              | nil => intro cs r e; cases e; rfl
              | cons x l ih =>
                intro cs r e
                obtain ⟨i, v⟩ := x
                rw [fillP] at e
                simp only at e
                split at e
                · rw [ih _ _ e, splice_length]
                · cases e
            have hlen : cs.length = n * q.size := by rw [hfl _ _ _ hcs, reps_length]; simp [hsz]
            refine ⟨_, _, _, ?_, new_slice h cs q.size n n w.heap.size (Nat.le_refl _) (by omega), R', G⟩
            by_cases h0 : n * q.size = 0
            · have hn : n = 0 := by
                rcases Nat.mul_eq_zero.1 h0 with h | h
                · exact h
                · omega
              subst hn
              simp only [reps] at h1
              simp [Instr.buildSlice, run_underlying hu, run_size hq, Array.range_zero', h1, newRow]
            · have hle : ¬ (n * q.size > 2 ^ 24) := by omega
              simp only [Instr.buildSlice, Sem.run_bind, run_underlying hu, Result.andThen_ok, run_size hq, Sem.run_ite, if_neg hle, if_neg h0, run_zero hq hz', Sem.run_pure, hA, h1, newRow, run_newObj, List.toList_toArray]
              rfl
          · cases e
        · cases e
      · cases e
    · cases e
  · cases e
end Go.Pm
