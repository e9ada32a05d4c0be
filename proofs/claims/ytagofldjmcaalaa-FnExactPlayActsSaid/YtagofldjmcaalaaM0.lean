/- The texts PmA, PmB, PmC, PmD, PmE, PmK0, PmF, PmG, PmH, PmI, PmK, PmL, PmM of this work: A small machine over the model's own code: values whose addresses name rows of a list, one order, no capacities that are left open. -/
import Derived.Tactics
import Derived.LoopN
import Derived.Orders
import Derived.StillTail
import Derived.Laws.CopyRow
import Derived.Laws.MakeOwn
import Derived.ChangeKeysEq
import Derived.Laws.AppendOwn
/- A small machine over the model's own code: values whose addresses name rows of a list, one order, no capacities that are left open. -/
set_option linter.unusedVariables false
set_option linter.unusedSimpArgs false
namespace Go.Pm

/-- A row of memory: its cells, how many cells an element has, whether it may only be read. -/
structure Row where
  cells : List Value
  sz : Nat
  ro : Bool

/-- Memory: rows by their numbers; 'none': a row that is gone. An address is ⟨row, offset, some (the row's length when the address was made)⟩. -/
abbrev Hp := List (Option Row)

def rowAt (h : Hp) (a : Addr) : Option Row :=
  match h[a.block]? with
  | some (some x) => if a.spot = some x.cells.length then some x else none
  | _ => none

def one : Value → Bool
  | .agg _ | .tuple _ => false
  | _ => true

/-- Values that lead nowhere. -/
def plainC : Value → Bool
  | .bool _ | .int _ _ | .string _ | .pointer none | .nilFunc | .slice none 0 0 => true
  | _ => false
def plain : Value → Bool
  | .agg cs => cs.toList.all plainC
  | .tuple cs => cs.toList.all plainC
  | v => plainC v

abbrev Slots := List (Nat × Value)
structure St where
  s : Slots
  h : Hp

def get : Slots → Nat → Option Value
  | [], _ => none
  | (k, v) :: r, t => if k = t then some v else get r t

def ev (s : Slots) : Operand → Option Value
  | .tmp t => get s t
  | .const v => if plain v then some v else none
  | .global _ => none
  | .func f => some (.func (.func f) #[] #[])

def evs (s : Slots) : List Operand → Option (List Value)
  | [] => some []
  | x :: r => (ev s x).bind fun v => (evs s r).map fun l => v :: l

def put (s : Slots) (d : Option Tmp) (v : Value) : Slots :=
  match d with
  | some d => (d, v) :: s
  | none => s

/-- The slots that a loop's head keeps. -/
def keep (K : List Nat) (s : Slots) : Slots := K.filterMap fun t => (get s t).map fun v => (t, v)

def splice : List Value → Nat → List Value → List Value
  | cs, _, [] => cs
  | cs, o, v :: r => splice (cs.set o v) (o + 1) r

def aggD : TypeDesc → Bool
  | .struct _ | .array _ _ => true
  | _ => false

def asI : Value → Option Int
  | .int _ n => some n
  | _ => none

def binI (op : BinOp) (k : IntKind) (a b : Int) : Option Value :=
  match op with
  | .add => some (.int k (k.wrap (a + b)))
  | .sub => some (.int k (k.wrap (a - b)))
  | .mul => some (.int k (k.wrap (a * b)))
  | .quo => if b = 0 then none else some (.int k (k.wrap (a.tdiv b)))
  | .rem => if b = 0 then none else some (.int k (a.tmod b))
  | .and => some (.int k (k.wrap (BitVec.ofInt k.bits a &&& BitVec.ofInt k.bits b).toNat))
  | .or => some (.int k (k.wrap (BitVec.ofInt k.bits a ||| BitVec.ofInt k.bits b).toNat))
  | .xor => some (.int k (k.wrap (BitVec.ofInt k.bits a ^^^ BitVec.ofInt k.bits b).toNat))
  | .andNot => some (.int k (k.wrap (BitVec.ofInt k.bits a &&& ~~~ BitVec.ofInt k.bits b).toNat))
  | .eql => some (.bool (a == b))
  | .neq => some (.bool (a != b))
  | .lss => some (.bool (decide (a < b)))
  | .leq => some (.bool (decide (a ≤ b)))
  | .gtr => some (.bool (decide (a > b)))
  | .geq => some (.bool (decide (a ≥ b)))
  | _ => none

def binS (op : BinOp) (x y : ByteArray) : Option Value :=
  match op with
  | .add => if ((x.size + y.size : Nat) : Int) > IntKind.i64.max then none else some (.string (x ++ y))
  | .eql => some (.bool (x.toList == y.toList))
  | .neq => some (.bool (!(x.toList == y.toList)))
  | .lss => some (.bool (Op.bytesLess x.toList y.toList))
  | .leq => some (.bool (Op.bytesLess x.toList y.toList || x.toList == y.toList))
  | .gtr => some (.bool (!(Op.bytesLess x.toList y.toList || x.toList == y.toList)))
  | .geq => some (.bool (!(Op.bytesLess x.toList y.toList)))
  | _ => none

def shiftI (op : BinOp) (k : IntKind) (a b : Int) : Option Value :=
  if b < 0 then none else
  match op with
  | .shl => some (.int k (k.wrap (a * 2 ^ (min b.toNat k.bits))))
  | .shr => some (.int k (a.fdiv (2 ^ (min b.toNat k.bits))))
  | _ => none

def isShift : BinOp → Bool
  | .shl | .shr => true
  | _ => false

/-- A part of an aggregate. -/
def partP (P : Program) (t : TypeId) (cs : List Value) (off : Nat) : Option Value :=
  match P.underlying t, P.info? t with
  | some d, some i => if aggD d then some (.agg ((cs.drop off).take i.size).toArray) else cs[off]?
  | _, _ => none
def eqF (P : Program) (E : TypeId → Value → Value → Option Bool) (xs ys : List Value) : List Field → Option Bool
  | [] => some true
  | f :: r => if f.name ≠ "_" then (partP P f.type xs f.offset).bind fun a => (partP P f.type ys f.offset).bind fun b => (E f.type a b).bind fun q => (eqF P E xs ys r).map fun q' => q && q' else eqF P E xs ys r
def eqE (P : Program) (E : TypeId → Value → Value → Option Bool) (e : TypeId) (xs ys : List Value) : List Nat → Option Bool
  | [] => some true
  | i :: r => (partP P e xs (i * P.cellsOf e)).bind fun a => (partP P e ys (i * P.cellsOf e)).bind fun b => (E e a b).bind fun q => (eqE P E e xs ys r).map fun q' => q && q'
/-- Equality of values that lead nowhere. -/
def eqV (P : Program) : Nat → TypeId → Value → Value → Option Bool
  | 0, _, _, _ => none
  | d + 1, t, x, y => match P.underlying t, x, y with
    | some .bool, .bool a, .bool b => some (a == b)
    | some (.int _), .int k a, .int k' b => if k = k' then some (a == b) else none
    | some .string, .string a, .string b => some (a == b)
    | some (.struct fs), .agg xs, .agg ys => if P.stoodInHeld t then none else eqF P (eqV P d) xs.toList ys.toList fs.toList
    | some (.array n e), .agg xs, .agg ys => match P.info? e with
      | some _ => eqE P (eqV P d) e xs.toList ys.toList (List.range n)
      | none => none
    | _, _, _ => none
/-- == of aggregates. -/
def eqAgg (P : Program) (t : TypeId) (x y : Value) : Option Bool := if P.eqGuardType P.depth t then none else eqV P 8 t x y

def binP (P : Program) (op : BinOp) (t : TypeId) (x y : Value) : Option Value :=
  match x, y with
  | .int k a, .int k' b => if isShift op then shiftI op k a b else if k = k' then binI op k a b else none
  | .string a, .string b => binS op a b
  | .bool a, .bool b =>
    match P.underlying t, op with
    | some .bool, .eql => some (.bool (a == b))
    | some .bool, .neq => some (.bool (!(a == b)))
    | _, _ => none
  | .agg xs, .agg ys => match op with
    | .eql => (eqAgg P t (.agg xs) (.agg ys)).map .bool
    | .neq => (eqAgg P t (.agg xs) (.agg ys)).map fun b => .bool (!b)
    | _ => none
  | _, _ => none

def convP (P : Program) (t u : TypeId) (x : Value) : Option Value :=
  match P.underlying t, P.underlying u, x with
  | some (.int _), some (.int k), .int _ n => some (.int k (k.wrap n))
  | some .string, some .string, .string s => some (.string s)
  | _, _, _ => none

def unP (op : UnOp) (x : Value) : Option Value :=
  match op, x with
  | .neg, .int k n => some (.int k (k.wrap (0 - n)))
  | .not, .bool b => some (.bool !b)
  | _, _ => none

def loadP (P : Program) (h : Hp) (t : TypeId) : Value → Option Value
  | .pointer (some a) =>
    match rowAt h a, P.underlying t, P.info? t with
    | some x, some d, some i =>
      if aggD d then if a.off + i.size ≤ x.cells.length then some (.agg ((x.cells.drop a.off).take i.size).toArray) else none
      else x.cells[a.off]?
    | _, _, _ => none
  | _ => none

def storeP (P : Program) (h : Hp) (t : TypeId) (v : Value) : Value → Option Hp
  | .pointer (some a) =>
    match rowAt h a, P.info? t with
    | some x, some i =>
      if x.ro = false ∧ v.cells.size = i.size ∧ a.off + i.size ≤ x.cells.length ∧ v.cells.toList.all one = true then some (h.set a.block (some { x with cells := splice x.cells a.off v.cells.toList })) else none
    | _, _ => none
  | _ => none

def newP (h : Hp) (cells : List Value) (sz : Nat) : Addr × Hp := (⟨h.length, 0, some cells.length⟩, h ++ [some ⟨cells, sz, false⟩])

def addP (a : Addr) (n : Nat) : Addr := { a with off := a.off + n }


def fieldsOf (P : Program) (t : TypeId) : Option (List Field) :=
  match P.underlying t with
  | some (.struct fs) => some fs.toList
  | _ => none

def indexAddrP (P : Program) (h : Hp) (t : TypeId) (x i : Value) : Option Value :=
  match P.underlying t, x, i with
  | some (.slice e), .slice (some a) n _, .int _ j =>
    match P.info? e, rowAt h a with
    | some q, some _ => if 0 ≤ j ∧ j < n then some (.pointer (some (addP a (j.toNat * q.size)))) else none
    | _, _ => none
  | some (.array n e), .pointer (some a), .int _ j =>
    match P.info? e with
    | some q => if 0 ≤ j ∧ j < n then some (.pointer (some (addP a (j.toNat * q.size)))) else none
    | _ => none
  | _, _, _ => none

def indexP (P : Program) (t : TypeId) (x i : Value) : Option Value :=
  match P.underlying t, x, i with
  | some (.array n e), .agg cs, .int _ j =>
    match P.info? e with
    | some q => if 0 ≤ j ∧ j < n then partP P e cs.toList (j.toNat * q.size) else none
    | _ => none
  | some .string, .string s, .int _ j => if 0 ≤ j then (s[j.toNat]?).map fun b => .int .u8 b.toNat else none
  | _, _, _ => none

def loP : Option Value → Option Int
  | some v => asI v
  | none => some 0
def hiP (d : Int) : Option Value → Option Int
  | some v => asI v
  | none => some d

def sliceP (P : Program) (h : Hp) (t : TypeId) (x : Value) (lo hi : Option Value) : Option Value :=
  match P.underlying t, x with
  | some (.slice e), .slice (some a) n c =>
    match P.info? e, rowAt h a, hiP n hi, loP lo with
    | some q, some x, some u, some l =>
      if 0 ≤ l ∧ l ≤ u ∧ u ≤ c ∧ x.sz = q.size then some (.slice (some (addP a (l.toNat * q.size))) (u.toNat - l.toNat) (c - l.toNat)) else none
    | _, _, _, _ => none
  | some (.slice e), .slice none 0 0 =>
    match P.info? e, hiP 0 hi, loP lo with
    | some _, some u, some l => if l = 0 ∧ u = 0 then some (.slice none 0 0) else none
    | _, _, _ => none
  | some .string, .string s =>
    match hiP s.size hi, loP lo with
    | some u, some l => if 0 ≤ l ∧ l ≤ u ∧ u ≤ s.size then some (.string (s.extract l.toNat u.toNat)) else none
    | _, _ => none
  | _, _ => none

def zeroP (P : Program) (t : TypeId) : Option Value :=
  match P.info? t with
  | some i => match i.zero with
    | some z => if plain z ∧ z.cells.size = i.size then some z else none
    | none => none
  | none => none

def reps : Nat → List Value → List Value
  | 0, _ => []
  | n + 1, z => z ++ reps n z

def makeP (P : Program) (h : Hp) (t : TypeId) (l c : Value) : Option (Value × Hp) :=
  match P.underlying t, asI l, asI c with
  | some (.slice e), some n, some m =>
    match P.info? e, zeroP P e with
    | some q, some z =>
      if 0 ≤ n ∧ n ≤ m ∧ m * q.bytes ≤ 2 ^ 47 ∧ 0 < q.size ∧ 0 < q.bytes ∧ m < 2 ^ 62 then
        let r := newP h (reps m.toNat z.cells.toList) q.size
        some (.slice (some r.1) n.toNat m.toNat, r.2)
      else none
    | _, _ => none
  | _, _, _ => none

def fillP (place : Nat → Option (Nat × Nat)) : List Value → List (Nat × Value) → Option (List Value)
  | cells, [] => some cells
  | cells, (i, v) :: r =>
    match place i with
    | none => none
    | some (off, size) => if v.cells.size = size ∧ off + size ≤ cells.length then fillP place (splice cells off v.cells.toList) r else none

def places (P : Program) : List Field → Option (List (Nat × Nat))
  | [] => some []
  | f :: r => match P.info? f.type, places P r with
    | some i, some l => some ((f.offset, i.size) :: l)
    | _, _ => none

def buildP (P : Program) (t : TypeId) (parts : List (Nat × Value)) : Option Value :=
  match P.underlying t, zeroP P t with
  | some (.struct fs), some z =>
    match places P fs.toList with
    | some pl => (fillP (pl[·]?) z.cells.toList parts).map fun cs => .agg cs.toArray
    | none => none
  | some (.array _ e), some z =>
    match P.info? e with
    | some q => (fillP (fun i => some (i * q.size, q.size)) z.cells.toList parts).map fun cs => .agg cs.toArray
    | none => none
  | _, _ => none

def buildSliceP (P : Program) (h : Hp) (t : TypeId) (len : Nat) (parts : List (Nat × Value)) : Option (Value × Hp) :=
  match P.underlying t with
  | some (.slice e) =>
    match P.info? e, zeroP P e with
    | some q, some z =>
      if len = 0 then (if parts = [] then some (.slice none 0 0, h) else none) else
      if 0 < q.size ∧ len * q.size ≤ 2 ^ 24 then
        match fillP (fun i => some (i * q.size, q.size)) (reps len z.cells.toList) parts with
        | some cs => if cs.all one then
            let r := newP h cs q.size
            some (.slice (some r.1) len len, r.2) else none
        | none => none
      else none
    | _, _ => none
  | _ => none

def evParts (s : Slots) : List (Nat × Operand) → Option (List (Nat × Value))
  | [] => some []
  | (i, x) :: r => (ev s x).bind fun v => (evParts s r).map fun l => (i, v) :: l

def evO (s : Slots) : Option Operand → Option (Option Value)
  | none => some none
  | some x => (ev s x).map some

/-- Operations that call no function. -/
def op1 (P : Program) (s : Slots) (h : Hp) : Op → Option (Value × Hp)
  | .move x | .assign x => (ev s x).map fun v => (v, h)
  | .pick c a b => match ev s c with
    | some (.bool t) => (ev s (if t then a else b)).map fun v => (v, h)
    | _ => none
  | .alloc e => (zeroP P e).map fun z => let r := newP h z.cells.toList 0; (.pointer (some r.1), r.2)
  | .box _ x => (ev s x).bind fun v => if v.cells.toList.all one then let r := newP h v.cells.toList 0; some (.pointer (some r.1), r.2) else none
  | .build t parts => (evParts s parts.toList).bind fun l => (buildP P t l).map fun v => (v, h)
  | .buildSlice t len parts => (evParts s parts.toList).bind fun l => buildSliceP P h t len l
  | .load t a => (ev s a).bind fun v => (loadP P h t v).map fun x => (x, h)
  | .store t a x => (ev s a).bind fun v => (ev s x).bind fun u => (storeP P h t u v).map fun h' => (undef, h')
  | .nilCheck x => match ev s x with
    | some (.pointer (some a)) => some (.pointer (some a), h)
    | some (.func (.func f) a b) => some (.func (.func f) a b, h)
    | _ => none
  | .binOp op t x y _ => (ev s x).bind fun v => (ev s y).bind fun u => (binP P op t v u).map fun r => (r, h)
  | .unOp op _ x => (ev s x).bind fun v => (unP op v).map fun r => (r, h)
  | .convert t u x => (ev s x).bind fun v => (convP P t u v).map fun r => (r, h)
  | .makeFunc fn first captured => (evs s first.toList).bind fun a => (evs s captured.toList).map fun b => (.func fn a.toArray b.toArray, h)
  | .makeSlice t l c => (ev s l).bind fun a => (ev s c).bind fun b => makeP P h t a b
  | .slice t x lo hi mx => match mx with
    | none => (ev s x).bind fun v => (evO s lo).bind fun l => (evO s hi).bind fun u => (sliceP P h t v l u).map fun r => (r, h)
    | some _ => none
  | .fieldAddr t x j => match fieldsOf P t, ev s x with
    | some fs, some (.pointer (some a)) => match fs[j]? with
      | some f => match P.info? f.type with
        | some i => if 0 < i.size then some (.pointer (some (addP a f.offset)), h) else none
        | none => none
      | none => none
    | _, _ => none
  | .field t x j => match fieldsOf P t, ev s x with
    | some fs, some (.agg cs) => match fs[j]? with
      | some f => (partP P f.type cs.toList f.offset).map fun v => (v, h)
      | none => none
    | _, _ => none
  | .indexAddr t x i => (ev s x).bind fun v => (ev s i).bind fun u => (indexAddrP P h t v u).map fun r => (r, h)
  | .index t x i => (ev s x).bind fun v => (ev s i).bind fun u => (indexP P t v u).map fun r => (r, h)
  | .extract x j => match ev s x with
    | some (.tuple vs) => (vs[j]?).map fun v => (v, h)
    | _ => none
  | _ => none

/-- The cells of a slice that are seen. -/
def seenP (h : Hp) (size : Nat) : Value → Option (List Value)
  | .slice none 0 0 => some []
  | .slice (some a) n _ => match rowAt h a with
    | some x => if a.off + n * size ≤ x.cells.length ∧ x.sz = size then some ((x.cells.drop a.off).take (n * size)) else none
    | none => none
  | _ => none

def lenP : Value → Option Nat
  | .slice _ n _ => some n
  | _ => none

/-- append: in place where what is seen has room; a row that is grown at its end keeps its number; else a new row, and the old one is gone. -/
def appendP (P : Program) (h : Hp) (t : TypeId) (s x : Value) : Option (Value × Hp) :=
  match P.underlying t with
  | some (.slice e) =>
    match P.info? e, zeroP P e, lenP x with
    | some q, some _, some m =>
      match seenP h q.size x with
      | some ys =>
        if 0 < q.size ∧ 0 < q.bytes ∧ ys.all one = true then
          match s with
          | .slice none 0 0 =>
            if m = 0 then some (.slice none 0 0, h)
            else if m * q.bytes ≤ 2 ^ 47 then
              let r := newP h ys q.size
              some (.slice (some r.1) m m, r.2)
            else none
          | .slice (some a) n c =>
            match rowAt h a with
            | some r =>
              if r.ro = false ∧ r.sz = q.size ∧ a.off + c * q.size ≤ r.cells.length ∧ (n + m) * q.bytes ≤ 2 ^ 47 then
                if n + m ≤ c then some (.slice (some a) (n + m) c, h.set a.block (some { r with cells := splice r.cells (a.off + n * q.size) ys }))
                else if a.off = 0 ∧ n * q.size = r.cells.length then
                  some (.slice (some ⟨a.block, 0, some (r.cells ++ ys).length⟩) (n + m) (n + m), h.set a.block (some { r with cells := r.cells ++ ys }))
                else
                  let zs := (r.cells.drop a.off).take (n * q.size) ++ ys
                  let w := newP (h.set a.block none) zs q.size
                  some (.slice (some w.1) (n + m) (n + m), w.2)
              else none
            | none => none
          | _ => none
        else none
      | none => none
    | _, _, _ => none
  | _ => none

def copyP (P : Program) (h : Hp) (t : TypeId) (d x : Value) : Option (Value × Hp) :=
  match P.underlying t, lenP d, lenP x with
  | some (.slice e), some n, some m =>
    match P.info? e with
    | some q =>
      match d, seenP h q.size x with
      | .slice none 0 0, some _ => some (.int .i64 0, h)
      | .slice (some a) _ _, some ys =>
        match rowAt h a with
        | some r =>
          if r.ro = false ∧ r.sz = q.size ∧ a.off + n * q.size ≤ r.cells.length ∧ ys.all one = true then
            some (.int .i64 (min m n : Nat), h.set a.block (some { r with cells := splice r.cells a.off (ys.take (min m n * q.size)) }))
          else none
        | none => none
      | _, _ => none
    | none => none
  | _, _, _ => none

def lenB (P : Program) (t : TypeId) (x : Value) : Option Value :=
  match P.underlying t, x with
  | some .string, .string s => some (.int .i64 s.size)
  | some (.array n _), _ => some (.int .i64 n)
  | some (.slice _), .slice _ n _ => some (.int .i64 n)
  | _, _ => none

def foldI (f : Int → Int → Int) : Int → List Value → Option Int
  | a, [] => some a
  | a, .int .i64 b :: r => foldI f (f a b) r
  | _, _ => none

def builtinP (P : Program) (h : Hp) (b : Builtin) (ts : List TypeId) (args : List Value) : Option (Value × Hp) :=
  match b, ts, args with
  | .len, t :: _, x :: _ => (lenB P t x).map fun v => (v, h)
  | .append, [t, u], [s, x] => if t = u then appendP P h t s x else none
  | .copy, [t, _], [d, x] => copyP P h t d x
  | .max, _, .int .i64 a :: r => (foldI (fun x y => if y > x then y else x) a r).map fun v => (.int .i64 v, h)
  | .min, _, .int .i64 a :: r => (foldI (fun x y => if y < x then y else x) a r).map fun v => (.int .i64 v, h)
  | _, _, _ => none

def wantP (ops : Array Oper) (s : Slots) (o : Oper) : Option Bool :=
  match o.guard with
  | none => some true
  | some (j, want) => match (ops[j]?).bind (·.dst) with
    | some d => match get s d with
      | some (.bool b) => some (b == want)
      | some _ => some false
      | none => none
    | none => some false

inductive Ex where
  | normal
  | exit (id : Nat)
  | ret

def dstOk (N : Nat) : Option Tmp → Bool
  | some d => decide (d < N)
  | none => true

def number : Nat → List Value → Slots
  | _, [] => []
  | i, v :: r => (i, v) :: number (i + 1) r

def res1 (P : Program) (st : St) : ResultVar → Option Value
  | .tmp t => get st.s t
  | .cell a t => (get st.s a).bind (loadP P st.h t)

def resL (P : Program) (st : St) : List ResultVar → Option (List Value)
  | [] => some []
  | x :: r => (res1 P st x).bind fun v => (resL P st r).map fun l => v :: l

def resP (P : Program) (rs : Array ResultVar) (st : St) : Option Value :=
  (resL P st rs.toList).map fun
    | [v] => v
    | l => .tuple l.toArray

/-- A function that may be entered: its code, its slots, its results. -/
def enterP (P : Program) (g : FuncId) : Option (Code × Nat × Array ResultVar) :=
  match P.funcs[g]? with
  | some fn => if fn.name == "runtime.NumGoroutine" then none else match fn.body with
    | some c => some (c, fn.ntmps, fn.results)
    | none => none
  | none => none

/-- What is told of a function beside its code: the slots that a loop's head keeps; of each region that draws its order, how many operations may come up in any order before the rest comes in line. -/
structure GI where
  keep : List (Nat × List Nat)
  heads : List (Nat × Nat)
  /-- regions some of whose operations write rows that earlier ones make: how many may come up in any order, and for these the number of the operation from which on they may write rows. -/
  qs : List (Nat × Nat × List (Nat × Nat))

/-- The number of the first region of a piece of code. -/
def firstId : Code → Nat
  | .region id _ _ => id
  | .seq a _ => firstId a
  | .cond _ a _ => firstId a
  | .block _ b => firstId b
  | .loop b => firstId b
  | _ => 0
def keepAt : List (Nat × List Nat) → Nat → List Nat
  | [], _ => []
  | (k, l) :: r, id => if k = id then l else keepAt r id

def headOf : List (Nat × Nat) → Nat → Option Nat
  | [], _ => none
  | (k, n) :: r, id => if k = id then some n else headOf r id

def headQ : List (Nat × Nat × List (Nat × Nat)) → Nat → Option (Nat × List (Nat × Nat))
  | [], _ => none
  | (k, x) :: r, id => if k = id then some x else headQ r id
def qAt : List (Nat × Nat) → Nat → Option Nat
  | [], _ => none
  | (k, j) :: r, i => if k = i then some j else qAt r i

def listedTo (n m : Nat) : Array Bool := (List.replicate n true ++ List.replicate m false).toArray

/-- The first n operations may come up in any order that the edges allow; the others come in line behind them. -/
def drawOk (ops : Array Oper) (n : Nat) : Bool :=
  decide (n < ops.size) && Region.sinkB .any ops n && Region.chainB .any ops n && Region.seqB .any ops (ops.size - n) n (listedTo n (ops.size - n)) &&
  ((List.range ops.size).all fun i => match ops[i]? with
    | some o => o.after.all fun e => !Region.binds .any e || decide (e.on < i)
    | none => true) &&
  ((List.range n).all fun i => match ops[i]? with
    | some o => (o.looksAt ops).all fun t => (List.range n).all fun j => match (ops[j]?).bind (·.dst) with
      | some d => d != t || (decide (j < i) && Region.waitsFor .any ops i j)
      | none => true
    | none => true) &&
  ((List.range n).all fun i => match (ops[i]?).bind (·.dst) with
    | some d => (List.range i).all fun j => (ops[j]?).bind (·.dst) != some d
    | none => true)

def isAlloc : Op → Bool
  | .alloc _ => true
  | _ => false
/-- Operation n stores into a row that the region itself makes for it alone, and may come up before the others are done. -/
def earlyB (ops : Array Oper) (n : Nat) : Bool :=
  match ops[n]? with
  | some o => o.dst.isNone && o.guard.isNone && (match o.op with
    | .store _ (.tmp ta) x => (List.range n).any fun ia =>
        (match ops[ia]? with | some oa => oa.dst == some ta && oa.guard.isNone && isAlloc oa.op | none => false) && Region.waitsFor .any ops n ia &&
        ((List.range n).all fun i => decide (i ≤ ia) || (match ops[i]? with | some oi => isAlloc oi.op | none => false)) &&
        (match x with
         | .tmp tx => (List.range n).all fun j => (ops[j]?).bind (·.dst) != some tx || decide (j < ia)
         | .const _ => true
         | _ => false)
    | _ => false)
  | none => false

/-- Operation i waits for operation k, if only by others. -/
def waitsT (ops : Array Oper) : Nat → Nat → Nat → Bool
  | 0, _, _ => false
  | f + 1, i, k => Region.waitsFor .any ops i k || (List.range i).any fun j => Region.waitsFor .any ops i j && waitsT ops f j k
/-- An operation that looks at nothing. -/
def freeB (ops : Array Oper) (k : Nat) : Bool := match ops[k]? with
  | some o => isAlloc o.op && o.guard.isNone
  | none => false
def qOf (q : List (Nat × Nat)) (i : Nat) : Nat := (qAt q i).getD i
def drawG (ops : Array Oper) (n : Nat) (q : List (Nat × Nat)) : Bool :=
  drawOk ops n && q.all fun (i, j) => qAt q i == some j && decide (j < i) && !freeB ops i && ((List.range i).all fun k => decide (k < j) || waitsT ops n i k) &&
    ((List.range n).all fun k => decide (k ≤ i) || freeB ops k || waitsT ops n k i)

def codeOk (gi : GI) : Code → Bool
  | .region id ops true => match headOf gi.heads id with
    | some n => drawOk ops n || (drawOk ops (n + 1) && earlyB ops n)
    | none => match headQ gi.qs id with
      | some (n, q) => drawG ops n q
      | none => true
  | .seq a b => codeOk gi a && codeOk gi b
  | .cond _ a b => codeOk gi a && codeOk gi b
  | .block _ b => codeOk gi b
  | .loop b => codeOk gi b
  | _ => true

def enterG (P : Program) (gi : GI) (g : FuncId) : Option (Code × Nat × Array ResultVar) :=
  match enterP P g with
  | some (c, N, rs) => if codeOk gi c then some (c, N, rs) else none
  | none => none

def newOk (h h' : Hp) : Prop := h <+: h' ∧ (h'.drop h.length).all (fun | some x => !x.ro | none => true) = true
open Classical in
/-- Operations that may come up in any order: none of them writes what was there. -/
noncomputable def runH (F : Oper → St → Option (Value × Hp)) (N : Nat) (ops : Array Oper) : List Oper → St → Option St
  | [], st => some st
  | o :: r, st =>
    if dstOk N o.dst then match wantP ops (keep (o.looksAt ops) st.s) o with
      | some false => runH F N ops r ⟨put st.s o.dst undef, st.h⟩
      | some true => match F o ⟨keep (o.looksAt ops) st.s, st.h⟩ with
        | some (v, h') => if newOk st.h h' then runH F N ops r ⟨put st.s o.dst v, h'⟩ else none
        | none => none
      | none => none
    else none

/-- What was there below row b is as it was; the rest may be written. -/
def modOk (b : Nat) (h h' : Hp) : Prop := h.length ≤ h'.length ∧ h.take b <+: h' ∧ (h'.drop b).all (fun | some x => !x.ro | none => true) = true
/-- Ls: how many rows there were when the operations before came up. -/
def okAt (q : List (Nat × Nat)) (Ls : List Nat) (h h' : Hp) : Prop := match qAt q Ls.length with
  | none => newOk h h'
  | some j => modOk (Ls.getD j 0) h h'
open Classical in
/-- Operations that may come up in any order, some of which write rows that earlier ones made. -/
noncomputable def runG (F : Oper → St → Option (Value × Hp)) (N : Nat) (ops : Array Oper) (q : List (Nat × Nat)) : List Nat → List Oper → St → Option St
  | Ls, [], st => some st
  | Ls, o :: r, st =>
    if dstOk N o.dst then match wantP ops (keep (o.looksAt ops) st.s) o with
      | some false => runG F N ops q (Ls ++ [st.h.length]) r ⟨put st.s o.dst undef, st.h⟩
      | some true => match F o ⟨keep (o.looksAt ops) st.s, st.h⟩ with
        | some (v, h') => if okAt q Ls st.h h' then runG F N ops q (Ls ++ [st.h.length]) r ⟨put st.s o.dst v, h'⟩ else none
        | none => none
      | none => none
    else none

open Classical in
/-- What a function leaves in memory: nothing, if its result leads nowhere and what was there is as it was. -/
noncomputable def gc (h h' : Hp) (v : Value) : Hp := if plain v = true ∧ h <+: h' then h else h'

mutual
noncomputable def exec (P : Program) (G : FuncId → GI) : Nat → Nat → GI → Code → St → Option (Ex × St)
  | 0, _, _, _, _ => none
  | f + 1, N, K, c, st => match c with
    | .skip => some (.normal, st)
    | .region id ops draw => if draw then match headOf K.heads id with
        | some n => match runH (fun o st => execO P G f o st) N ops (ops.toList.take n) st with
          | some st1 => (execL P G f N ops (ops.toList.drop n) st1).map fun st' => (.normal, st')
          | none => none
        | none => match headQ K.qs id with
          | some (n, q) => match runG (fun o st => execO P G f o st) N ops q [] (ops.toList.take n) st with
            | some st1 => (execL P G f N ops (ops.toList.drop n) st1).map fun st' => (.normal, st')
            | none => none
          | none => none
      else (execL P G f N ops ops.toList st).map fun st' => (.normal, st')
    | .seq a b => match exec P G f N K a st with
      | some (.normal, st') => exec P G f N K b st'
      | r => r
    | .cond c a b => match ev st.s c with
      | some (.bool t) => if t then exec P G f N K a st else exec P G f N K b st
      | _ => none
    | .block id b => match exec P G f N K b st with
      | some (.exit id', st') => if id' = id then some (.normal, st') else some (.exit id', st')
      | r => r
    | .loop b => match exec P G f N K b { st with s := keep (keepAt K.keep (firstId b)) st.s } with
      | some (.normal, st') => exec P G f N K (.loop b) st'
      | r => r
    | .exit id => some (.exit id, st)
    | .ret => some (.ret, st)
    | _ => none
noncomputable def execL (P : Program) (G : FuncId → GI) : Nat → Nat → Array Oper → List Oper → St → Option St
  | 0, _, _, _, _ => none
  | f + 1, N, ops, l, st => match l with
    | [] => some st
    | o :: r => if dstOk N o.dst then match wantP ops st.s o with
      | some false => execL P G f N ops r { st with s := put st.s o.dst undef }
      | some true => match execO P G f o st with
        | some (v, h) => execL P G f N ops r ⟨put st.s o.dst v, h⟩
        | none => none
      | none => none else none
noncomputable def execO (P : Program) (G : FuncId → GI) : Nat → Oper → St → Option (Value × Hp)
  | 0, _, _ => none
  | f + 1, o, st => match o.op with
    | .call c => match c.callee with
      | .value x => match ev st.s x, evs st.s c.args.toList with
        | some (.func (.func g) first cap), some args => callP P G f g (first.toList ++ args ++ cap.toList) st.h
        | _, _ => none
      | .builtin b => (evs st.s c.args.toList).bind fun args => builtinP P st.h b c.argTypes.toList args
      | .invoke _ _ => none
    | op => op1 P st.s st.h op
noncomputable def callP (P : Program) (G : FuncId → GI) : Nat → FuncId → List Value → Hp → Option (Value × Hp)
  | 0, _, _, _ => none
  | f + 1, g, args, h => match enterG P (G g) g with
    | some (c, N, rs) => if args.length ≤ N then match exec P G f N (G g) c ⟨number 0 args, h⟩ with
      | some (.exit _, _) => none
      | some (_, st) => (resP P rs st).map fun v => (v, gc h st.h v)
      | none => none else none
    | none => none
end
end Go.Pm

/- How the small machine's values and memory lie in the model's. -/
set_option linter.unusedVariables false
set_option linter.unusedSimpArgs false
namespace Go.Pm

structure Place where
  b : Nat
  d : Nat
  bs : Nat
abbrev Mp := Nat → Option Place

/-- An address whose row is gone, or has grown since. -/
def Gone (h : Hp) (a : Addr) : Prop := ∃ L, a.spot = some L ∧ a.block < h.length ∧ ∀ x, h[a.block]? = some (some x) → L < x.cells.length

inductive VR (ρ : Mp) (h : Hp) : Value → Value → Prop
  | bool (b) : VR ρ h (.bool b) (.bool b)
  | int (k n) : VR ρ h (.int k n) (.int k n)
  | string (s) : VR ρ h (.string s) (.string s)
  | nilPtr : VR ρ h (.pointer none) (.pointer none)
  | nilFunc : VR ρ h .nilFunc .nilFunc
  | nilSlice : VR ρ h (.slice none 0 0) (.slice none 0 0)
  | zeroSl (a' : Addr) : VR ρ h (.slice none 0 0) (.slice (some a') 0 0)
  | ptr (r o : Nat) (x : Row) (p : Place) : h[r]? = some (some x) → ρ r = some p → VR ρ h (.pointer (some ⟨r, o, some x.cells.length⟩)) (.pointer (some ⟨p.b, p.d + o, none⟩))
  | ptrGone (a a' : Addr) : Gone h a → VR ρ h (.pointer (some a)) (.pointer (some a'))
  | sl (r o : Nat) (x : Row) (p : Place) (n c c' : Nat) : h[r]? = some (some x) → ρ r = some p → n ≤ c → c ≤ c' → (x.ro = false → p.d + o + c' * x.sz ≤ p.bs) →
      VR ρ h (.slice (some ⟨r, o, some x.cells.length⟩) n c) (.slice (some ⟨p.b, p.d + o, none⟩) n c')
  | slZero (r o : Nat) (x : Row) (p : Place) (a' : Addr) : h[r]? = some (some x) → ρ r = some p → VR ρ h (.slice (some ⟨r, o, some x.cells.length⟩) 0 0) (.slice (some a') 0 0)
  | slGone (a : Addr) (a' : Option Addr) (n c c' : Nat) : Gone h a → VR ρ h (.slice (some a) n c) (.slice a' n c')
  | func (fn : Fn) (a a' b b' : Array Value) : a.size = a'.size → b.size = b'.size → (∀ (i : Nat) v v', a[i]? = some v → a'[i]? = some v' → VR ρ h v v') →
      (∀ (i : Nat) v v', b[i]? = some v → b'[i]? = some v' → VR ρ h v v') → VR ρ h (.func fn a b) (.func fn a' b')
  | agg (a a' : Array Value) : a.size = a'.size → (∀ (i : Nat) v v', a[i]? = some v → a'[i]? = some v' → VR ρ h v v') → VR ρ h (.agg a) (.agg a')
  | tuple (a a' : Array Value) : a.size = a'.size → (∀ (i : Nat) v v', a[i]? = some v → a'[i]? = some v' → VR ρ h v v') → VR ρ h (.tuple a) (.tuple a')

/-- Lists of values, one by one. -/
def VL (ρ : Mp) (h : Hp) (l l' : List Value) : Prop := l.length = l'.length ∧ ∀ (i : Nat) v v', l[i]? = some v → l'[i]? = some v' → VR ρ h v v'

theorem VL.nil {ρ : Mp} {h : Hp} : VL ρ h [] [] := ⟨rfl, fun i v v' h => by simp at h⟩
theorem VL.cons {ρ : Mp} {h : Hp} {v v' : Value} {l l' : List Value} (hv : VR ρ h v v') (hl : VL ρ h l l') : VL ρ h (v :: l) (v' :: l') := by
  refine ⟨by simp [hl.1], fun i u u' h1 h2 => ?_⟩
  cases i with
  | zero => simp at h1 h2; subst h1; subst h2; exact hv
  | succ i => simp at h1 h2; exact hl.2 i u u' h1 h2
theorem VL.head {ρ : Mp} {h : Hp} {v : Value} {l l' : List Value} (hl : VL ρ h (v :: l) l') : ∃ v' m', l' = v' :: m' ∧ VR ρ h v v' ∧ VL ρ h l m' := by
  cases l' with
  | nil => have := hl.1; simp at this
  | cons v' m' =>
    refine ⟨v', m', rfl, hl.2 0 v v' rfl rfl, by have := hl.1; simpa using this, fun i u u' h1 h2 => hl.2 (i + 1) u u' (by simpa using h1) (by simpa using h2)⟩
theorem VL.nil_left {ρ : Mp} {h : Hp} {l' : List Value} (hl : VL ρ h [] l') : l' = [] := by
  cases l' with
  | nil => rfl
  | cons v m => have := hl.1; simp at this
theorem VL.append {ρ : Mp} {h : Hp} {l l' m m' : List Value} (hl : VL ρ h l l') (hm : VL ρ h m m') : VL ρ h (l ++ m) (l' ++ m') := by
  refine ⟨by simp [hl.1, hm.1], fun i u u' h1 h2 => ?_⟩
  have e := hl.1
  rcases Nat.lt_or_ge i l.length with hi | hi
  · rw [List.getElem?_append_left hi] at h1
    rw [List.getElem?_append_left (by omega)] at h2
    exact hl.2 i u u' h1 h2
  · rw [List.getElem?_append_right hi] at h1
    rw [List.getElem?_append_right (by omega), ← e] at h2
    exact hm.2 _ u u' h1 h2
theorem VL.drop {ρ : Mp} {h : Hp} {l l' : List Value} (hl : VL ρ h l l') (n : Nat) : VL ρ h (l.drop n) (l'.drop n) :=
  ⟨by simp [hl.1], fun i u u' h1 h2 => hl.2 (n + i) u u' (by simpa [List.getElem?_drop] using h1) (by simpa [List.getElem?_drop] using h2)⟩
theorem VL.take {ρ : Mp} {h : Hp} {l l' : List Value} (hl : VL ρ h l l') (n : Nat) : VL ρ h (l.take n) (l'.take n) := by
  refine ⟨by simp [hl.1], fun i u u' h1 h2 => ?_⟩
  rw [List.getElem?_take] at h1 h2
  split at h1
  · rename_i hi; rw [if_pos hi] at h2; exact hl.2 i u u' h1 h2
  · cases h1
theorem VL.set {ρ : Mp} {h : Hp} {l l' : List Value} (hl : VL ρ h l l') (n : Nat) {v v' : Value} (hv : VR ρ h v v') : VL ρ h (l.set n v) (l'.set n v') := by
  refine ⟨by simp [hl.1], fun i u u' h1 h2 => ?_⟩
  have e := hl.1
  rw [List.getElem?_set] at h1 h2
  split at h1
  · rename_i hi
    subst hi
    split at h1
    · rename_i hlt
      simp at h1
      rw [if_pos rfl, if_pos (by omega)] at h2
      simp at h2
      subst h1; subst h2; exact hv
    · cases h1
  · rename_i hi
    rw [if_neg hi] at h2
    exact hl.2 i u u' h1 h2
theorem VL.splice {ρ : Mp} {h : Hp} : ∀ (vs vs' : List Value) (l l' : List Value) (o : Nat), VL ρ h l l' → VL ρ h vs vs' → VL ρ h (splice l o vs) (splice l' o vs')
  | [], vs', l, l', o, hl, hv => by rw [hv.nil_left]; exact hl
  | v :: vs, vs', l, l', o, hl, hv => by
    obtain ⟨v', m', rfl, h1, h2⟩ := hv.head
    exact VL.splice vs m' _ _ (o + 1) (hl.set o h1) h2
theorem splice_length : ∀ (vs l : List Value) (o : Nat), (splice l o vs).length = l.length
  | [], l, o => rfl
  | v :: vs, l, o => by rw [splice, splice_length vs]; simp

/-- From one pair of a memory and its places to a later one: what a value says stays. -/
structure Step (ρ : Mp) (h : Hp) (ρ' : Mp) (h' : Hp) : Prop where
  live : ∀ r x p, h[r]? = some (some x) → ρ r = some p →
    (∃ x', h'[r]? = some (some x') ∧ x'.cells.length = x.cells.length ∧ x'.sz = x.sz ∧ x'.ro = x.ro ∧ ρ' r = some p) ∨
    (r < h'.length ∧ ∀ x', h'[r]? = some (some x') → x.cells.length < x'.cells.length)
  gone : ∀ a, Gone h a → Gone h' a

theorem Step.refl (ρ : Mp) (h : Hp) : Step ρ h ρ h := ⟨fun r x p hx hp => .inl ⟨x, hx, rfl, rfl, rfl, hp⟩, fun _ h => h⟩
theorem Step.trans {ρ ρ1 ρ2 : Mp} {h h1 h2 : Hp} (s : Step ρ h ρ1 h1) (t : Step ρ1 h1 ρ2 h2) : Step ρ h ρ2 h2 := by
  refine ⟨fun r x p hx hp => ?_, fun a ha => t.gone a (s.gone a ha)⟩
  rcases s.live r x p hx hp with ⟨x1, g1, l1, s1, r1, p1⟩ | ⟨hlt, hg⟩
  · rcases t.live r x1 p g1 p1 with ⟨x2, g2, l2, s2, r2, p2⟩ | ⟨hlt, hg⟩
    · exact .inl ⟨x2, g2, l2.trans l1, s2.trans s1, r2.trans r1, p2⟩
    · exact .inr ⟨hlt, fun x' hx' => by have := hg x' hx'; omega⟩
  · have := t.gone ⟨r, 0, some x.cells.length⟩ ⟨_, rfl, hlt, hg⟩
    obtain ⟨L, e, h3, h4⟩ := this
    cases e
    exact .inr ⟨h3, h4⟩

theorem VR.step {ρ ρ' : Mp} {h h' : Hp} (s : Step ρ h ρ' h') {v v' : Value} (hv : VR ρ h v v') : VR ρ' h' v v' := by
  induction hv with
  | bool b => exact .bool b
  | int k n => exact .int k n
  | string s => exact .string s
  | nilPtr => exact .nilPtr
  | nilFunc => exact .nilFunc
  | nilSlice => exact .nilSlice
  | zeroSl a' => exact .zeroSl a'
  | ptr r o x p hx hp =>
    rcases s.live r x p hx hp with ⟨x1, g1, l1, s1, r1, p1⟩ | ⟨hlt, hg⟩
    · rw [← l1]; exact .ptr r o x1 p g1 p1
    · exact .ptrGone _ _ ⟨_, rfl, hlt, hg⟩
  | ptrGone a a' hg => exact .ptrGone a a' (s.gone a hg)
  | sl r o x p n c c' hx hp hn hc hb =>
    rcases s.live r x p hx hp with ⟨x1, g1, l1, s1, r1, p1⟩ | ⟨hlt, hg⟩
    · rw [← l1]; exact .sl r o x1 p n c c' g1 p1 hn hc (by rw [r1, s1]; exact hb)
    · exact .slGone _ _ _ _ _ ⟨_, rfl, hlt, hg⟩
  | slZero r o x p a' hx hp =>
    rcases s.live r x p hx hp with ⟨x1, g1, l1, s1, r1, p1⟩ | ⟨hlt, hg⟩
    · rw [← l1]; exact .slZero r o x1 p a' g1 p1
    · exact .slGone _ _ _ _ _ ⟨_, rfl, hlt, hg⟩
  | slGone a a' n c c' hg => exact .slGone a a' n c c' (s.gone a hg)
  | func fn a a' b b' e1 e2 h1 h2 i1 i2 => exact .func fn a a' b b' e1 e2 (fun i v v' ha hb => i1 i v v' ha hb) (fun i v v' ha hb => i2 i v v' ha hb)
  | agg a a' e h1 i1 => exact .agg a a' e (fun i v v' ha hb => i1 i v v' ha hb)
  | tuple a a' e h1 i1 => exact .tuple a a' e (fun i v v' ha hb => i1 i v v' ha hb)
theorem VL.step {ρ ρ' : Mp} {h h' : Hp} (s : Step ρ h ρ' h') {l l' : List Value} (hl : VL ρ h l l') : VL ρ' h' l l' :=
  ⟨hl.1, fun i v v' h1 h2 => (hl.2 i v v' h1 h2).step s⟩

/-- The memory of the small machine lies in the model's. -/
structure Rel (ρ : Mp) (h : Hp) (w : World) : Prop where
  own : ∀ r x p, h[r]? = some (some x) → ρ r = some p → x.ro = false →
    ∃ c e, w.heap[p.b]? = some (.cells c e (0, 0)) ∧ c.size = p.bs ∧ p.d + x.cells.length ≤ p.bs ∧ ∀ (i : Nat) v, x.cells[i]? = some v → ∃ v', c[p.d + i]? = some v' ∧ VR ρ h v v'
  ro : ∀ r x p, h[r]? = some (some x) → ρ r = some p → x.ro = true → ∀ (i : Nat) v, x.cells[i]? = some v → ∃ v', w.cell? ⟨p.b, p.d + i, none⟩ = some v' ∧ VR ρ h v v'
  inj : ∀ r r' x x' p p', h[r]? = some (some x) → h[r']? = some (some x') → ρ r = some p → ρ r' = some p' → x.ro = false → r ≠ r' → (x'.ro = true → x'.cells ≠ []) → p.b ≠ p'.b
  dom : ∀ r p, ρ r = some p → r < h.length

/-- What a piece of work leaves. -/
structure Go1 (ρ : Mp) (h : Hp) (w : World) (ρ' : Mp) (h' : Hp) (w' : World) : Prop where
  os : w'.os = w.os
  tape : w'.tape = w.tape
  output : w'.output = w.output
  size : w.heap.size ≤ w'.heap.size
  blk : ∀ b, b < w.heap.size → (∀ r x p, h[r]? = some (some x) → ρ r = some p → x.ro = false → p.b ≠ b) → w'.heap[b]? = w.heap[b]?
  orig : ∀ r' x' p', h'[r']? = some (some x') → ρ' r' = some p' → x'.ro = false → w.heap.size ≤ p'.b ∨ ∃ r x p, h[r]? = some (some x) ∧ ρ r = some p ∧ x.ro = false ∧ p.b = p'.b
  step : Step ρ h ρ' h'
  len : h.length ≤ h'.length
  keepn : ∀ r, r < h.length → ρ r = none → ρ' r = none

theorem Go1.refl (ρ : Mp) (h : Hp) (w : World) : Go1 ρ h w ρ h w :=
  ⟨rfl, rfl, rfl, Nat.le_refl _, fun _ _ _ => rfl, fun r x p h1 h2 h3 => .inr ⟨r, x, p, h1, h2, h3, rfl⟩, Step.refl _ _, Nat.le_refl _, fun _ _ e => e⟩
theorem Go1.trans {ρ ρ1 ρ2 : Mp} {h h1 h2 : Hp} {w w1 w2 : World} (a : Go1 ρ h w ρ1 h1 w1) (b : Go1 ρ1 h1 w1 ρ2 h2 w2) : Go1 ρ h w ρ2 h2 w2 := by
  refine ⟨b.os.trans a.os, b.tape.trans a.tape, b.output.trans a.output, Nat.le_trans a.size b.size, fun k hk hn => ?_, fun r' x' p' g1 g2 g3 => ?_, a.step.trans b.step, Nat.le_trans a.len b.len, fun r hr e => b.keepn r (Nat.lt_of_lt_of_le hr a.len) (a.keepn r hr e)⟩
  · rw [b.blk k (Nat.lt_of_lt_of_le hk a.size) (fun r x p g1 g2 g3 e => ?_), a.blk k hk hn]
    rcases a.orig r x p g1 g2 g3 with h4 | ⟨r0, x0, p0, i1, i2, i3, i4⟩
    · omega
    · exact hn r0 x0 p0 i1 i2 i3 (i4.trans e)
  · rcases b.orig r' x' p' g1 g2 g3 with h4 | ⟨r0, x0, p0, i1, i2, i3, i4⟩
    · exact .inl (Nat.le_trans a.size h4)
    · rcases a.orig r0 x0 p0 i1 i2 i3 with h5 | ⟨r1, x1, p1, j1, j2, j3, j4⟩
      · exact .inl (by omega)
      · exact .inr ⟨r1, x1, p1, j1, j2, j3, j4.trans i4⟩
/-- A draw. -/
theorem Go1.drew (ρ : Mp) (h : Hp) (w : World) (n : Nat) : Go1 ρ h w ρ h { w with drawn := n } :=
  ⟨rfl, rfl, rfl, Nat.le_refl _, fun _ _ _ => rfl, fun r x p h1 h2 h3 => .inr ⟨r, x, p, h1, h2, h3, rfl⟩, Step.refl _ _, Nat.le_refl _, fun _ _ e => e⟩
theorem Rel.drew {ρ : Mp} {h : Hp} {w : World} (R : Rel ρ h w) (n : Nat) : Rel ρ h { w with drawn := n } := ⟨R.own, R.ro, R.inj, R.dom⟩

def SR (ρ : Mp) (h : Hp) (s : Slots) (tm : Array Value) : Prop := ∀ t v, get s t = some v → VR ρ h v (tm.getD t undef)
theorem SR.step {ρ ρ' : Mp} {h h' : Hp} {s : Slots} {tm : Array Value} (st : Step ρ h ρ' h') (S : SR ρ h s tm) : SR ρ' h' s tm := fun t v hv => (S t v hv).step st

theorem plainC_vr {ρ : Mp} {h : Hp} {v : Value} (hp : plainC v = true) : VR ρ h v v := by
  unfold plainC at hp
  split at hp
  · exact .bool _
  · exact .int _ _
  · exact .string _
  · exact .nilPtr
  · exact .nilFunc
  · exact .nilSlice
  · cases hp
theorem plain_vr {ρ : Mp} {h : Hp} {v : Value} (hp : plain v = true) : VR ρ h v v := by
  unfold plain at hp
  split at hp
  · rename_i cs
    refine .agg _ _ rfl fun i v v' h1 h2 => ?_
    rw [h1] at h2; cases h2
    exact plainC_vr (List.all_eq_true.1 hp v (by simpa using Array.mem_of_getElem? h1))
  · rename_i cs
    refine .tuple _ _ rfl fun i v v' h1 h2 => ?_
    rw [h1] at h2; cases h2
    exact plainC_vr (List.all_eq_true.1 hp v (by simpa using Array.mem_of_getElem? h1))
  · exact plainC_vr hp
theorem undef_vr {ρ : Mp} {h : Hp} : VR ρ h undef undef := plain_vr (v := .tuple #[]) rfl

theorem ev_vr {ρ : Mp} {h : Hp} {s : Slots} {a : Act} (S : SR ρ h s a.tmps) {x : Operand} {v : Value} (e : ev s x = some v) : VR ρ h v (a.eval x) := by
  cases x with
  | tmp t => exact S t v e
  | const u =>
    simp only [ev] at e
    split at e
    · rename_i hp; cases e; exact plain_vr hp
    · cases e
  | global g => cases e
  | func f => cases e; exact .func _ _ _ _ _ rfl rfl (fun i v v' h => by simp at h) (fun i v v' h => by simp at h)
theorem evs_vl {ρ : Mp} {h : Hp} {s : Slots} {a : Act} (S : SR ρ h s a.tmps) : ∀ (xs : List Operand) (l : List Value), evs s xs = some l → VL ρ h l (xs.map a.eval)
  | [], l, e => by cases e; exact VL.nil
  | x :: xs, l, e => by
    simp only [evs] at e
    obtain ⟨v, hv, e⟩ := Option.bind_eq_some_iff.1 e
    obtain ⟨m, hm, rfl⟩ := Option.map_eq_some_iff.1 e
    exact VL.cons (ev_vr S hv) (evs_vl S xs m hm)

theorem VR.cells {ρ : Mp} {h : Hp} {v v' : Value} (hv : VR ρ h v v') : VL ρ h v.cells.toList v'.cells.toList := by
  cases hv with
  | agg a a' e h1 => exact ⟨by simpa [Value.cells] using e, fun i u u' g1 g2 => h1 i u u' (by simpa [Value.cells] using g1) (by simpa [Value.cells] using g2)⟩
  | _ => refine VL.cons ?_ VL.nil; constructor <;> assumption
theorem VR.one {ρ : Mp} {h : Hp} {v v' : Value} (hv : VR ρ h v v') : one v = v'.oneCell' := by cases hv <;> rfl
theorem VL.one {ρ : Mp} {h : Hp} {l l' : List Value} (hl : VL ρ h l l') (e : l.all Pm.one = true) : ∀ v ∈ l', v.oneCell' = true := by
  intro v' hv'
  obtain ⟨i, hi⟩ := List.getElem?_of_mem hv'
  have hlt : i < l.length := by have := (List.getElem?_eq_some_iff.1 hi).1; have := hl.1; omega
  have := hl.2 i _ v' (List.getElem?_eq_getElem hlt) hi
  rw [← this.one]
  exact List.all_eq_true.1 e _ (List.getElem_mem hlt)

theorem get_put {s : Slots} {d : Option Tmp} {v : Value} {t : Nat} : get (put s d v) t = if d = some t then some v else get s t := by
  cases d with
  | none => simp [put]
  | some d => simp [put, get]
theorem SR.put {ρ : Mp} {h : Hp} {s : Slots} {a : Act} (S : SR ρ h s a.tmps) {d : Option Tmp} {v v' : Value} (hd : dstOk a.tmps.size d = true) (hv : VR ρ h v v') : SR ρ h (put s d v) (a.put d v').tmps := by
  intro t u hu
  rw [get_put] at hu
  cases d with
  | none => simp at hu; exact S t u hu
  | some d =>
    simp only [dstOk, decide_eq_true_eq] at hd
    simp only [Act.put]
    by_cases e : d = t
    · subst e
      simp at hu; subst hu
      simpa [Array.getElem?_setIfInBounds, hd] using hv
    · rw [if_neg (by simpa using e)] at hu
      have := S t u hu
      simpa [Array.getElem?_setIfInBounds_ne e] using this
theorem get_keep {K : List Nat} {s : Slots} {t : Nat} {v : Value} (h : get (keep K s) t = some v) : get s t = some v := by
  induction K with
  | nil => simp [keep, get] at h
  | cons k K ih =>
    simp only [keep, List.filterMap_cons] at h
    cases hk : get s k with
    | none => simp [hk] at h; exact ih h
    | some u =>
      simp [hk, get] at h
      split at h
      · rename_i e; subst e; rw [hk]; exact h
      · exact ih h
theorem SR.keep {ρ : Mp} {h : Hp} {s : Slots} {tm : Array Value} (S : SR ρ h s tm) (K : List Nat) : SR ρ h (keep K s) tm := fun t v hv => S t v (get_keep hv)
end Go.Pm

/- Memory: read, made, written, in both machines. -/
set_option linter.unusedVariables false
namespace Go.Pm
variable {P : Program} {ρ : Mp} {h : Hp} {w : World}

theorem add_none (b o n : Nat) : (⟨b, o, none⟩ : Addr).add n = ⟨b, o + n, none⟩ := by
  unfold Addr.add
  split <;> simp_all

theorem Rel.cell (R : Rel ρ h w) {r : Nat} {x : Row} {p : Place} (hx : h[r]? = some (some x)) (hp : ρ r = some p) {i : Nat} {v : Value} (hi : x.cells[i]? = some v) :
    ∃ v', w.cell? ⟨p.b, p.d + i, none⟩ = some v' ∧ VR ρ h v v' := by
  cases e : x.ro with
  | true => exact R.ro r x p hx hp e i v hi
  | false =>
    obtain ⟨c, t, hb, _, _, hc⟩ := R.own r x p hx hp e
    obtain ⟨v', h1, h2⟩ := hc i v hi
    exact ⟨v', by simp [World.cell?, hb, h1], h2⟩

theorem Rel.seg (R : Rel ρ h w) {r : Nat} {x : Row} {p : Place} (hx : h[r]? = some (some x)) (hp : ρ r = some p) (o n : Nat) :
    ∃ l', VL ρ h ((x.cells.drop o).take n) l' ∧ ∀ (j : Nat) v, l'[j]? = some v → w.cell? ((⟨p.b, p.d + o, none⟩ : Addr).add j) = some v := by
  refine ⟨(List.range ((x.cells.drop o).take n).length).map fun j => (w.cell? ⟨p.b, p.d + o + j, none⟩).getD undef, ⟨by simp, fun i v v' h1 h2 => ?_⟩, fun j v hj => ?_⟩
  · rw [List.getElem?_map] at h2
    have hlt : i < ((x.cells.drop o).take n).length := (List.getElem?_eq_some_iff.1 h1).1
    rw [List.getElem?_range hlt] at h2
    simp only [Option.map_some, Option.some.injEq] at h2
    have h3 : x.cells[o + i]? = some v := by
      rw [List.getElem?_take] at h1
      split at h1
      · rwa [List.getElem?_drop] at h1
      · cases h1
    obtain ⟨u, hu, hv⟩ := R.cell hx hp h3
    rw [← Nat.add_assoc] at hu
    rw [hu] at h2
    cases h2
    exact hv
  · rw [List.getElem?_map] at hj
    have hlt : j < ((x.cells.drop o).take n).length := by
      rcases Nat.lt_or_ge j ((x.cells.drop o).take n).length with h1 | h1
      · exact h1
      · rw [List.getElem?_eq_none (by simpa using h1)] at hj; cases hj
    rw [List.getElem?_range hlt] at hj
    simp only [Option.map_some, Option.some.injEq] at hj
    have h3 : x.cells[o + j]? = some (((x.cells.drop o).take n)[j]) := by
      have := List.getElem?_eq_getElem hlt
      rw [List.getElem?_take] at this
      split at this
      · rwa [List.getElem?_drop] at this
      · cases this
    obtain ⟨u, hu, hv⟩ := R.cell hx hp h3
    rw [← Nat.add_assoc] at hu
    rw [hu] at hj
    rw [add_none, hu]
    exact congrArg some hj

theorem Rel.lt (R : Rel ρ h w) {r : Nat} {x : Row} {p : Place} (hx : h[r]? = some (some x)) (hp : ρ r = some p) (hn : x.ro = true → x.cells ≠ []) : p.b < w.heap.size := by
  cases e : x.ro with
  | true =>
    have := hn e
    obtain ⟨v, hv⟩ : ∃ v, x.cells[0]? = some v := by
      cases hc : x.cells with
      | nil => exact absurd hc this
      | cons v l => exact ⟨v, rfl⟩
    obtain ⟨v', h1, _⟩ := R.ro r x p hx hp e 0 v hv
    exact World.block_lt_of_cell? w _ h1
  | false =>
    obtain ⟨c, t, hb, _⟩ := R.own r x p hx hp e
    exact (Array.getElem?_eq_some_iff.1 hb).1

/-! ### a new row -/
def upd (ρ : Mp) (r : Nat) (p : Place) : Mp := fun k => if k = r then some p else ρ k

theorem get_app {h : Hp} {x : Option Row} {r : Nat} {y : Option Row} (e : (h ++ [x])[r]? = some y) : (r < h.length ∧ h[r]? = some y) ∨ (r = h.length ∧ y = x) := by
  rcases Nat.lt_or_ge r h.length with hl | hl
  · rw [List.getElem?_append_left hl] at e; exact .inl ⟨hl, e⟩
  · rw [List.getElem?_append_right hl] at e
    have hz : r - h.length = 0 := by
      rcases Nat.eq_zero_or_pos (r - h.length) with hz | hz
      · exact hz
      · rw [List.getElem?_eq_none (by simp; omega)] at e; cases e
    rw [hz] at e
    simp at e
    exact .inr ⟨by omega, e.symm⟩

theorem step_new (R : Rel ρ h w) (x : Row) (p : Place) : Step ρ h (upd ρ h.length p) (h ++ [some x]) := by
  refine ⟨fun r y q hy hq => .inl ⟨y, ?_, rfl, rfl, rfl, ?_⟩, fun a ⟨L, e, hlt, hg⟩ => ⟨L, e, by simp; omega, fun y hy => ?_⟩⟩
  · rw [List.getElem?_append_left (R.dom r q hq)]; exact hy
  · have := R.dom r q hq
    simp [upd, Nat.ne_of_lt this, hq]
  · rcases get_app hy with ⟨_, h1⟩ | ⟨h1, _⟩
    · exact hg y h1
    · omega

theorem Rel.new (R : Rel ρ h w) {l l' : List Value} (hl : VL ρ h l l') (sz : Nat) (e : TypeId) :
    Rel (upd ρ h.length ⟨w.heap.size, 0, l.length⟩) (h ++ [some ⟨l, sz, false⟩]) (w.alloc (.cells l'.toArray e)) ∧
    Go1 ρ h w (upd ρ h.length ⟨w.heap.size, 0, l.length⟩) (h ++ [some ⟨l, sz, false⟩]) (w.alloc (.cells l'.toArray e)) := by
  have st := step_new R ⟨l, sz, false⟩ ⟨w.heap.size, 0, l.length⟩
  have old : ∀ r p, upd ρ h.length ⟨w.heap.size, 0, l.length⟩ r = some p → r < h.length → ρ r = some p := by
    intro r p hp hr
    simpa [upd, Nat.ne_of_lt hr] using hp
  have new : ∀ p, upd ρ h.length ⟨w.heap.size, 0, l.length⟩ h.length = some p → p = ⟨w.heap.size, 0, l.length⟩ := by
    intro p hp
    simp [upd] at hp
    exact hp.symm
  have blk : ∀ b, b < w.heap.size → (w.alloc (.cells l'.toArray e)).heap[b]? = w.heap[b]? := by
    intro b hb
    show (w.heap.push _)[b]? = _
    rw [Array.getElem?_push, if_neg (by omega)]
  have newb : (w.alloc (.cells l'.toArray e)).heap[w.heap.size]? = some (.cells l'.toArray e) := by
    show (w.heap.push _)[w.heap.size]? = _
    simp
  refine ⟨⟨fun r x p hx hp hr => ?_, fun r x p hx hp hr i v hi => ?_, fun r r' x x' p p' hx hx' hp hp' hr hne hro => ?_, fun r p hp => ?_⟩, ⟨rfl, rfl, rfl, by simp, fun b hb _ => blk b hb, fun r x p hx hp hr => ?_, st, by simp, fun r hr e => by simpa [upd, Nat.ne_of_lt hr] using e⟩⟩
  · rcases get_app hx with ⟨hlt, h1⟩ | ⟨rfl, h1⟩
    · obtain ⟨c, t, hb, h2, h3, h4⟩ := R.own r x p h1 (old r p hp hlt) hr
      refine ⟨c, t, by rw [blk _ (Array.getElem?_eq_some_iff.1 hb).1]; exact hb, h2, h3, fun i v hi => ?_⟩
      obtain ⟨v', h5, h6⟩ := h4 i v hi
      exact ⟨v', h5, h6.step st⟩
    · obtain rfl := new p hp
      obtain rfl : x = ⟨l, sz, false⟩ := Option.some.inj h1
      refine ⟨l'.toArray, e, newb, by simp [hl.1], by simp, fun i v hi => ?_⟩
      have hi' : i < l'.length := by have := (List.getElem?_eq_some_iff.1 hi).1; have := hl.1; simp at *; omega
      exact ⟨l'[i], by simp [hi'], (hl.2 i v _ hi (List.getElem?_eq_getElem hi')).step st⟩
  · rcases get_app hx with ⟨hlt, h1⟩ | ⟨rfl, h1⟩
    · obtain ⟨v', h5, h6⟩ := R.ro r x p h1 (old r p hp hlt) hr i v hi
      exact ⟨v', by rw [World.cell?_alloc_lt w _ _ (World.block_lt_of_cell? w _ h5)]; exact h5, h6.step st⟩
    · obtain rfl : x = ⟨l, sz, false⟩ := Option.some.inj h1
      cases hr
  · rcases get_app hx with ⟨hlt, h1⟩ | ⟨rfl, h1⟩
    · rcases get_app hx' with ⟨hlt', h1'⟩ | ⟨rfl, h1'⟩
      · exact R.inj r r' x x' p p' h1 h1' (old r p hp hlt) (old r' p' hp' hlt') hr hne hro
      · obtain rfl := new p' hp'
        have := R.lt h1 (old r p hp hlt) (fun h => by rw [hr] at h; cases h)
        show p.b ≠ w.heap.size
        omega
    · rcases get_app hx' with ⟨hlt', h1'⟩ | ⟨rfl, h1'⟩
      · obtain rfl := new p hp
        have := R.lt h1' (old r' p' hp' hlt') hro
        show w.heap.size ≠ p'.b
        omega
      · exact absurd rfl hne
  · by_cases hr : r = h.length
    · simp; omega
    · have : ρ r = some p := by simpa [upd, hr] using hp
      have := R.dom r p this
      simp; omega
  · rcases get_app hx with ⟨hlt, h1⟩ | ⟨rfl, h1⟩
    · exact .inr ⟨r, x, p, h1, old r p hp hlt, hr, rfl⟩
    · obtain rfl := new p hp
      exact .inl (Nat.le_refl _)

theorem new_ptr (h : Hp) (l : List Value) (sz : Nat) (o : Nat) (b : Nat) : VR (upd ρ h.length ⟨b, 0, l.length⟩) (h ++ [some ⟨l, sz, false⟩]) (.pointer (some ⟨h.length, o, some l.length⟩)) (.pointer (some ⟨b, o, none⟩)) := by
  have := VR.ptr (ρ := upd ρ h.length ⟨b, 0, l.length⟩) (h := h ++ [some ⟨l, sz, false⟩]) h.length o ⟨l, sz, false⟩ ⟨b, 0, l.length⟩ (by simp) (by simp [upd])
  simpa using this
theorem new_slice (h : Hp) (l : List Value) (sz n c b : Nat) (hn : n ≤ c) (hc : c * sz ≤ l.length) : VR (upd ρ h.length ⟨b, 0, l.length⟩) (h ++ [some ⟨l, sz, false⟩]) (.slice (some ⟨h.length, 0, some l.length⟩) n c) (.slice (some ⟨b, 0, none⟩) n c) := by
  have := VR.sl (ρ := upd ρ h.length ⟨b, 0, l.length⟩) (h := h ++ [some ⟨l, sz, false⟩]) h.length 0 ⟨l, sz, false⟩ ⟨b, 0, l.length⟩ n c c (by simp) (by simp [upd]) hn (Nat.le_refl _) (fun _ => by simpa using hc)
  simpa using this

/-! ### a row is written: its length stays -/
theorem get_set {h : Hp} {r k : Nat} {x : Option Row} {y : Option Row} (e : (h.set r x)[k]? = some y) : (k = r ∧ y = x ∧ r < h.length) ∨ (k ≠ r ∧ h[k]? = some y) := by
  rw [List.getElem?_set] at e
  split at e
  · rename_i hk
    split at e
    · exact .inl ⟨hk.symm, (Option.some.inj e).symm, by omega⟩
    · cases e
  · rename_i hk
    exact .inr ⟨fun h => hk h.symm, e⟩

theorem step_set {x x' : Row} {r : Nat} (hx : h[r]? = some (some x)) (hl : x'.cells.length = x.cells.length) (hs : x'.sz = x.sz) (hr : x'.ro = x.ro) : Step ρ h ρ (h.set r (some x')) := by
  refine ⟨fun k y p hy hp => .inl ?_, fun a ⟨L, e, hlt, hg⟩ => ⟨L, e, by simpa using hlt, fun y hy => ?_⟩⟩
  · by_cases hk : k = r
    · subst hk
      rw [hx] at hy
      cases hy
      have hlt : k < h.length := (List.getElem?_eq_some_iff.1 hx).1
      exact ⟨x', by simp [hlt], hl, hs, hr, hp⟩
    · exact ⟨y, by rw [List.getElem?_set_ne (fun e => hk e.symm)]; exact hy, rfl, rfl, rfl, hp⟩
  · rcases get_set hy with ⟨h1, h2, _⟩ | ⟨_, h1⟩
    · obtain rfl : y = x' := Option.some.inj h2
      have := hg x (h1 ▸ hx)
      omega
    · exact hg y h1

theorem Rel.write (R : Rel ρ h w) {r : Nat} {x : Row} {p : Place} (hx : h[r]? = some (some x)) (hp : ρ r = some p) (hro : x.ro = false)
    {cells : List Value} (hlen : cells.length = x.cells.length) {c c2 : Array Value} {e : TypeId} (hc : w.heap[p.b]? = some (.cells c e (0, 0))) (hsz : c2.size = c.size)
    (hcells : ∀ (i : Nat) v, cells[i]? = some v → ∃ v', c2[p.d + i]? = some v' ∧ VR ρ h v v') :
    Rel ρ (h.set r (some { x with cells := cells })) (w.setRow p.b c2) ∧ Go1 ρ h w ρ (h.set r (some { x with cells := cells })) (w.setRow p.b c2) := by
  have st : Step ρ h ρ (h.set r (some { x with cells := cells })) := step_set hx hlen rfl rfl
  have hnew : (w.setRow p.b c2).heap[p.b]? = some (.cells c2 e (0, 0)) := setRow_heap w p.b c c2 e _ hc
  have hoth : ∀ b, b ≠ p.b → (w.setRow p.b c2).heap[b]? = w.heap[b]? := fun b hb => setRow_other w p.b b c2 hb
  obtain ⟨c', t', hb', hsz', hd', hc'⟩ := R.own r x p hx hp hro
  rw [hc] at hb'
  cases hb'
  refine ⟨⟨fun k y q hy hq hk => ?_, fun k y q hy hq hk i v hi => ?_, fun k k' y y' q q' hy hy' hq hq' hk hne hro' => ?_, fun k q hq => by have := R.dom k q hq; simpa using this⟩, ⟨rfl, rfl, rfl, by simp [World.setRow], fun b hb hn => hoth b (fun e' => hn r x p hx hp hro e'.symm), fun k y q hy hq hk => ?_, st, by simp, fun _ _ e => e⟩⟩
  · rcases get_set hy with ⟨rfl, h2, _⟩ | ⟨hne, h1⟩
    · obtain rfl : y = { x with cells := cells } := Option.some.inj h2
      rw [hp] at hq; cases hq
      refine ⟨c2, e, hnew, hsz.trans hsz', by simpa [hlen] using hd', fun i v hi => ?_⟩
      obtain ⟨v', h3, h4⟩ := hcells i v hi
      exact ⟨v', h3, h4.step st⟩
    · obtain ⟨c3, t3, h3, h4, h5, h6⟩ := R.own k y q h1 hq hk
      refine ⟨c3, t3, by rw [hoth _ (R.inj k r y x q p h1 hx hq hp hk hne (fun e' => by rw [hro] at e'; cases e'))]; exact h3, h4, h5, fun i v hi => ?_⟩
      obtain ⟨v', h7, h8⟩ := h6 i v hi
      exact ⟨v', h7, h8.step st⟩
  · rcases get_set hy with ⟨rfl, h2, _⟩ | ⟨hne, h1⟩
    · obtain rfl : y = { x with cells := cells } := Option.some.inj h2
      rw [show ({ x with cells := cells } : Row).ro = x.ro from rfl, hro] at hk; cases hk
    · obtain ⟨v', h3, h4⟩ := R.ro k y q h1 hq hk i v hi
      refine ⟨v', ?_, h4.step st⟩
      have hbne : p.b ≠ q.b := R.inj r k x y p q hx h1 hp hq hro (fun e' => hne e'.symm) (fun _ e' => by rw [e'] at hi; simp at hi)
      have : (w.setRow p.b c2).cell? ⟨q.b, q.d + i, none⟩ = w.cell? ⟨q.b, q.d + i, none⟩ := by
        unfold World.cell?
        rw [hoth q.b (fun e' => hbne e'.symm)]
      rw [this]; exact h3
  · have hk0 : ∃ y0, h[k]? = some (some y0) ∧ y0.ro = false := by
      rcases get_set hy with ⟨rfl, h2, _⟩ | ⟨_, h1⟩
      · exact ⟨x, hx, hro⟩
      · exact ⟨y, h1, hk⟩
    have hk0' : ∃ y0, h[k']? = some (some y0) ∧ (y0.ro = true → y0.cells ≠ []) := by
      rcases get_set hy' with ⟨rfl, h2, _⟩ | ⟨_, h1⟩
      · exact ⟨x, hx, fun e' => by rw [hro] at e'; cases e'⟩
      · exact ⟨y', h1, hro'⟩
    obtain ⟨y0, i1, i2⟩ := hk0
    obtain ⟨y1, j1, j2⟩ := hk0'
    exact R.inj k k' y0 y1 q q' i1 j1 hq hq' i2 hne j2
  · rcases get_set hy with ⟨rfl, h2, _⟩ | ⟨_, h1⟩
    · exact .inr ⟨k, x, p, hx, hp, hro, by rw [hp] at hq; cases hq; rfl⟩
    · exact .inr ⟨k, y, q, h1, hq, hk, rfl⟩

theorem splice_eq : ∀ (vs l : List Value) (o : Nat), o + vs.length ≤ l.length → splice l o vs = l.take o ++ vs ++ l.drop (o + vs.length)
  | [], l, o, h => by simp [splice]
  | v :: vs, l, o, h => by
    rw [splice, splice_eq vs _ _ (by simp at h ⊢; omega)]
    exact list_seg_step l o v vs (by simpa using h)

theorem splice_get : ∀ (vs l : List Value) (o i : Nat), o + vs.length ≤ l.length → (splice l o vs)[i]? = if o ≤ i ∧ i < o + vs.length then vs[i - o]? else l[i]?
  | [], l, o, i, h => by rw [splice, if_neg (by simp)]
  | v :: vs, l, o, i, h => by
    rw [splice, splice_get vs _ _ i (by simp at h ⊢; omega)]
    simp only [List.length_cons] at h ⊢
    by_cases h1 : o + 1 ≤ i ∧ i < o + 1 + vs.length
    · rw [if_pos h1, if_pos (by omega), show i - o = (i - (o + 1)) + 1 by omega]; simp
    · rw [if_neg h1, List.getElem?_set]
      by_cases h2 : o = i
      · subst h2; rw [if_pos rfl, if_pos (by omega), if_pos (by omega)]; simp
      · rw [if_neg h2, if_neg (by omega)]

/-- Cells are stored behind an address of a row of one's own. -/
theorem Rel.store (R : Rel ρ h w) {r : Nat} {x : Row} {p : Place} (hx : h[r]? = some (some x)) (hp : ρ r = some p) (hro : x.ro = false)
    {vs vs' : List Value} (hv : VL ρ h vs vs') (h1 : vs.all Pm.one = true) (o : Nat) (ho : o + vs.length ≤ x.cells.length) :
    ∃ w', (storeCells ⟨p.b, p.d + o, none⟩ vs').run P w = .ok () w' ∧ Rel ρ (h.set r (some { x with cells := splice x.cells o vs })) w' ∧
      Go1 ρ h w ρ (h.set r (some { x with cells := splice x.cells o vs })) w' := by
  obtain ⟨c, t, hb, hs, hd, hc⟩ := R.own r x p hx hp hro
  have hl := hv.1
  have hrun := run_storeCells_at P p.b (p.d + o) t vs' 0 c w hb (by omega) (hv.one h1)
  refine ⟨_, hrun, R.write hx hp hro (splice_length _ _ _) hb ?_ (fun i v hi => ?_)⟩
  · simp; omega
  · rw [splice_get vs _ _ i ho] at hi
    simp only [Nat.add_zero, List.getElem?_toArray]
    have hdc : p.d + o + vs'.length ≤ c.toList.length := by simp; omega
    by_cases hin : o ≤ i ∧ i < o + vs.length
    · rw [if_pos hin] at hi
      have hi' : i - o < vs'.length := by omega
      refine ⟨vs'[i - o], ?_, hv.2 (i - o) v _ hi (List.getElem?_eq_getElem hi')⟩
      rw [List.append_assoc, List.getElem?_append_right (by simp; omega), List.getElem?_append_left (by simp; omega)]
      simp only [List.length_take, Array.length_toList]
      rw [show p.d + i - min (p.d + o) c.size = i - o by omega]
      exact List.getElem?_eq_getElem hi'
    · rw [if_neg hin] at hi
      obtain ⟨v', h3, h4⟩ := hc i v hi
      refine ⟨v', ?_, h4⟩
      rw [← h3]
      by_cases hlt : i < o
      · rw [List.append_assoc, List.getElem?_append_left (by simp; omega), List.getElem?_take, if_pos (by omega)]; simp
      · rw [List.getElem?_append_right (by simp; omega), List.getElem?_drop]
        simp only [List.length_append, List.length_take, Array.length_toList]
        rw [show p.d + o + vs'.length + (p.d + i - (min (p.d + o) c.size + vs'.length)) = p.d + i by omega]
        simp
end Go.Pm

/- The operations that call nothing: what the small machine reckons, the model does. -/
set_option linter.unusedVariables false
set_option linter.unusedSimpArgs false
namespace Go.Pm
variable {P : Program} {ρ : Mp} {h : Hp} {w : World}

/-- What an operation does in the model, beside what it does in the small machine. -/
def Ok (P : Program) (ρ : Mp) (h : Hp) (w : World) (r : Result Next) (v : Value) (h' : Hp) : Prop :=
  ∃ v' w' ρ', (r = .ok (.value v') w' ∨ (r = .ok .skip w' ∧ v' = undef)) ∧ VR ρ' h' v v' ∧ Rel ρ' h' w' ∧ Go1 ρ h w ρ' h' w'
theorem Ok.same (R : Rel ρ h w) {r : Result Next} {v v' : Value} (hr : r = .ok (.value v') w) (hv : VR ρ h v v') : Ok P ρ h w r v h :=
  ⟨v', w, ρ, .inl hr, hv, R, Go1.refl _ _ _⟩

theorem run_info {t : TypeId} {i : TypeInfo} (hi : P.info? t = some i) (w : World) : (typeInfo t).run P w = .ok i w := by simp [typeInfo, hi]
theorem run_size {t : TypeId} {i : TypeInfo} (hi : P.info? t = some i) (w : World) : (sizeOf t).run P w = .ok i.size w := by simp [sizeOf, run_info hi]
theorem run_zero {t : TypeId} {i : TypeInfo} {z : Value} (hi : P.info? t = some i) (hz : i.zero = some z) (w : World) : (zeroValue t).run P w = .ok z w := by simp [zeroValue, run_info hi, hz]
theorem run_agg {t : TypeId} {d : TypeDesc} (hu : P.underlying t = some d) (w : World) : (isAgg t).run P w = .ok (aggD d) w := by
  simp only [isAgg, Sem.run_bind, run_underlying hu, Result.andThen_ok]
  cases d <;> rfl

theorem row_ptr {a : Addr} {x : Row} {v' : Value} (hx : rowAt h a = some x) (hv : VR ρ h (.pointer (some a)) v') :
    ∃ p, h[a.block]? = some (some x) ∧ ρ a.block = some p ∧ v' = .pointer (some ⟨p.b, p.d + a.off, none⟩) := by
  unfold rowAt at hx
  split at hx
  · rename_i y hy
    split at hx
    · rename_i hs
      cases hx
      cases hv with
      | ptr r o z p hz hp => exact ⟨p, hy, hp, rfl⟩
      | ptrGone _ a' hg =>
        obtain ⟨L, h1, h2, h3⟩ := hg
        rw [hs] at h1
        cases h1
        have := h3 x hy
        omega
    · cases hx
  · cases hx
theorem row_slice {a : Addr} {x : Row} {n c : Nat} {v' : Value} (hx : rowAt h a = some x) (hv : VR ρ h (.slice (some a) n c) v') :
    (∃ p c', h[a.block]? = some (some x) ∧ ρ a.block = some p ∧ v' = .slice (some ⟨p.b, p.d + a.off, none⟩) n c' ∧ n ≤ c ∧ c ≤ c' ∧ (x.ro = false → p.d + a.off + c' * x.sz ≤ p.bs)) ∨
    (n = 0 ∧ c = 0 ∧ ∃ a' p, v' = .slice (some a') 0 0 ∧ h[a.block]? = some (some x) ∧ ρ a.block = some p) := by
  unfold rowAt at hx
  split at hx
  · rename_i y hy
    split at hx
    · rename_i hs
      cases hx
      cases hv with
      | sl r o z p n c c' hz hp h1 h2 h3 =>
        have : z = x := by
          have := hz.symm.trans hy
          simpa using this
        subst this
        exact .inl ⟨p, c', hy, hp, rfl, h1, h2, h3⟩
      | slZero r o z p a' hz hp => exact .inr ⟨rfl, rfl, a', p, rfl, hy, hp⟩
      | slGone _ a' _ _ c' hg =>
        obtain ⟨L, h1, h2, h3⟩ := hg
        rw [hs] at h1
        cases h1
        have := h3 x hy
        omega
    · cases hx
  · cases hx
theorem rowAt_spot {a : Addr} {x : Row} (hx : rowAt h a = some x) : a.spot = some x.cells.length ∧ h[a.block]? = some (some x) := by
  unfold rowAt at hx
  split at hx
  · rename_i y hy
    split at hx
    · rename_i hs; cases hx; exact ⟨hs, hy⟩
    · cases hx
  · cases hx

/-! ### load, store -/
theorem load_ok (R : Rel ρ h w) {t : TypeId} {v v' x : Value} (hv : VR ρ h v v') (e : loadP P h t v = some x) :
    ∃ x', (Instr.loadAt t v').run P w = .ok x' w ∧ VR ρ h x x' := by
  unfold loadP at e
  split at e
  · rename_i a
    split at e
    · rename_i row d i hrow hu hi
      obtain ⟨p, hx, hp, rfl⟩ := row_ptr hrow hv
      split at e
      · rename_i hd
        split at e
        · rename_i hle
          cases e
          obtain ⟨l', hl, hc⟩ := R.seg hx hp a.off i.size
          have hlen : l'.length = i.size := by rw [← hl.1]; simp; omega
          refine ⟨.agg l'.toArray, ?_, .agg _ _ (by simpa using hl.1) (fun j u u' h1 h2 => hl.2 j u u' (by simpa using h1) (by simpa using h2))⟩
          have h1 := run_loadCells_list (P := P) w ⟨p.b, p.d + a.off, none⟩ l' hc
          rw [hlen] at h1
          simp [Instr.loadAt, Instr.sureAddr, loadVar, run_agg hu, hd, run_size hi, h1]
        · cases e
      · rename_i hd
        obtain ⟨u, h1, h2⟩ := R.cell hx hp e
        refine ⟨u, ?_, h2⟩
        have hd' : aggD d = false := by simpa using hd
        simp [Instr.loadAt, Instr.sureAddr, loadVar, run_agg hu, hd', h1]
    · cases e
  · cases e

theorem VR.cells_size {v v' : Value} (hv : VR ρ h v v') : v'.cells.size = v.cells.size := by simpa using hv.cells.1.symm

theorem store_ok (R : Rel ρ h w) {t : TypeId} {v v' x x' : Value} {h' : Hp} (hv : VR ρ h v v') (hx' : VR ρ h x x') (e : storeP P h t x v = some h') :
    ∃ w', (Instr.storeAt t v' x').run P w = .ok () w' ∧ Rel ρ h' w' ∧ Go1 ρ h w ρ h' w' := by
  unfold storeP at e
  split at e
  · rename_i a
    split at e
    · rename_i row i hrow hi
      obtain ⟨p, hx, hp, rfl⟩ := row_ptr hrow hv
      split at e
      · rename_i hc
        obtain ⟨hro, hsz, hle, h1⟩ := hc
        cases e
        obtain ⟨w', hrun, R', G⟩ := R.store (P := P) hx hp hro hx'.cells h1 a.off (by simp; omega)
        refine ⟨w', ?_, R', G⟩
        have : ¬ x'.cells.size ≠ i.size := by rw [hx'.cells_size]; simpa using hsz
        simp only [Instr.storeAt, Instr.sureAddr, storeVar, Sem.run_bind, Sem.run_pure, Result.andThen_ok, run_size hi, Sem.run_ite, this, if_false, hrun]
      · cases e
    · cases e
  · cases e

/-! ### numbers -/
theorem binI_run {op : BinOp} {k : IntKind} {a b : Int} {r : Value} (e : binI op k a b = some r) {t : TypeId} {X Y : Operand} (hns : isShift op = false) :
    (do Go.eqGuard op t X Y (.int k a) (.int k b); Go.binOp op t (.int k a) (.int k b) : Sem Value).run P w = .ok r w ∧ VR ρ h r r := by
  cases op <;> simp only [binI, isShift] at e hns <;> (try cases hns) <;>
    first
    | (cases e; exact ⟨by simp [Go.eqGuard, Go.binOp, Op.intArith, Op.intBits, Op.intCmp], by first | exact .int _ _ | exact .bool _⟩)
    | (split at e
       · cases e
       · rename_i hb
         cases e
         exact ⟨by simp [Go.eqGuard, Go.binOp, Op.intDiv, hb], .int _ _⟩)
    | cases e

end Go.Pm

/- The operations, one by one. -/
set_option linter.unusedVariables false
set_option linter.unusedSimpArgs false
namespace Go.Pm
variable {P : Program} {ρ : Mp} {h : Hp} {w : World}

theorem part_ok {t : TypeId} {cs cs' : Array Value} {off : Nat} {r : Value} (hc : VL ρ h cs.toList cs'.toList) (e : partP P t cs.toList off = some r) :
    ∃ r', (part t cs' off).run P w = .ok r' w ∧ VR ρ h r r' := by
  unfold partP at e
  split at e
  · rename_i d i hu hi
    split at e
    · rename_i hd
      cases e
      refine ⟨.agg (cs'.extract off (off + i.size)), by simp [part, run_agg hu, hd, run_size hi], ?_⟩
      have h1 := (hc.drop off).take i.size
      have h2 : cs'.extract off (off + i.size) = ((cs'.toList.drop off).take i.size).toArray := by
        apply Array.ext'
        rw [Array.toList_extract, List.extract_eq_take_drop]
        simp
      rw [h2]
      exact .agg _ _ (by simpa using h1.1) (fun j u u' g1 g2 => h1.2 j u u' (by simpa using g1) (by simpa using g2))
    · rename_i hd
      have hd' : aggD d = false := by simpa using hd
      have hlt : off < cs'.toList.length := by rw [← hc.1]; exact (List.getElem?_eq_some_iff.1 e).1
      have h1 := List.getElem?_eq_getElem hlt
      refine ⟨_, ?_, hc.2 off r _ e h1⟩
      have h2 : cs'[off]? = some cs'.toList[off] := by simp
      simp [part, run_agg hu, hd', h2]
  · cases e

theorem agg_list {cs : Array Value} {v' : Value} (hv : VR ρ h (.agg cs) v') : ∃ cs', v' = .agg cs' ∧ VL ρ h cs.toList cs'.toList := by
  cases hv with
  | agg _ a' e1 h1 => exact ⟨a', rfl, by simpa using e1, fun i u u' g1 g2 => h1 i u u' (by simpa using g1) (by simpa using g2)⟩
theorem tuple_list {cs : Array Value} {v' : Value} (hv : VR ρ h (.tuple cs) v') : ∃ cs', v' = .tuple cs' ∧ VL ρ h cs.toList cs'.toList := by
  cases hv with
  | tuple _ a' e1 h1 => exact ⟨a', rfl, by simpa using e1, fun i u u' g1 g2 => h1 i u u' (by simpa using g1) (by simpa using g2)⟩

theorem fieldsOf_eq {t : TypeId} {fs : Array Field} (hu : P.underlying t = some (.struct fs)) : P.fieldsOf t = fs := by unfold Program.fieldsOf; rw [hu]
theorem eqF_ok {d : Nat} {E : TypeId → Value → Value → Option Bool} (hE : ∀ t x y x' y' b, E t x y = some b → VR ρ h x x' → VR ρ h y y' → (Op.equalIn d t x' y').run P w = .ok b w) {xs ys xs' ys' : Array Value} (hx : VL ρ h xs.toList xs'.toList) (hy : VL ρ h ys.toList ys'.toList) :
    ∀ {fs : List Field} {b : Bool}, eqF P E xs.toList ys.toList fs = some b → (Op.eqFields d xs' ys' fs).run P w = .ok b w
  | [], b, e => by cases e; simp [Op.eqFields]
  | f :: fs, b, e => by
    unfold eqF at e
    split at e
    · rename_i hn
      obtain ⟨a1, h1, e⟩ := Option.bind_eq_some_iff.1 e
      obtain ⟨a2, h2, e⟩ := Option.bind_eq_some_iff.1 e
      obtain ⟨q, h3, e⟩ := Option.bind_eq_some_iff.1 e
      obtain ⟨q', h4, e⟩ := Option.map_eq_some_iff.1 e
      subst e
      obtain ⟨r1, g1, v1⟩ := part_ok (P := P) (w := w) hx h1
      obtain ⟨r2, g2, v2⟩ := part_ok (P := P) (w := w) hy h2
      have g3 := hE _ _ _ _ _ _ h3 v1 v2
      have g4 := eqF_ok hE hx hy h4
      rw [Op.eqFields, if_pos hn]
      simp only [Sem.run_bind, g1, g2, g3, Result.andThen_ok]
      cases q
      · simp
      · simpa using g4
    · rename_i hn
      rw [Op.eqFields, if_neg hn]
      exact eqF_ok hE hx hy e
theorem eqE_ok {d : Nat} {E : TypeId → Value → Value → Option Bool} (hE : ∀ t x y x' y' b, E t x y = some b → VR ρ h x x' → VR ρ h y y' → (Op.equalIn d t x' y').run P w = .ok b w) {xs ys xs' ys' : Array Value} (hx : VL ρ h xs.toList xs'.toList) (hy : VL ρ h ys.toList ys'.toList) {e0 : TypeId} :
    ∀ {is : List Nat} {b : Bool}, eqE P E e0 xs.toList ys.toList is = some b → (Op.eqItems d e0 (P.cellsOf e0) xs' ys' is).run P w = .ok b w
  | [], b, e => by cases e; simp [Op.eqItems]
  | f :: fs, b, e => by
    unfold eqE at e
    obtain ⟨a1, h1, e⟩ := Option.bind_eq_some_iff.1 e
    obtain ⟨a2, h2, e⟩ := Option.bind_eq_some_iff.1 e
    obtain ⟨q, h3, e⟩ := Option.bind_eq_some_iff.1 e
    obtain ⟨q', h4, e⟩ := Option.map_eq_some_iff.1 e
    subst e
    obtain ⟨r1, g1, v1⟩ := part_ok (P := P) (w := w) hx h1
    obtain ⟨r2, g2, v2⟩ := part_ok (P := P) (w := w) hy h2
    have g3 := hE _ _ _ _ _ _ h3 v1 v2
    have g4 := eqE_ok hE hx hy h4
    simp only [Op.eqItems, Sem.run_bind, g1, g2, g3, Result.andThen_ok]
    cases q
    · simp
    · simpa using g4
theorem eqV_ok : ∀ {d d' : Nat} {t : TypeId} {x y x' y' : Value} {b : Bool}, d ≤ d' → eqV P d t x y = some b → VR ρ h x x' → VR ρ h y y' → (Op.equalIn d' t x' y').run P w = .ok b w
  | 0, _, _, _, _, _, _, _, _, e, _, _ => by cases e
  | d + 1, 0, _, _, _, _, _, _, hd, _, _, _ => by omega
  | d + 1, d' + 1, t, x, y, x', y', b, hd, e, hx, hy => by
    unfold eqV at e
    split at e
    · rename_i hu; cases hx; cases hy; cases e; simp [Op.equalIn, run_underlying hu]
    · rename_i hu
      cases hx; cases hy
      split at e
      · rename_i hk; subst hk; cases e; simp [Op.equalIn, run_underlying hu]
      · cases e
    · rename_i hu; cases hx; cases hy; cases e; simp [Op.equalIn, run_underlying hu]
    · rename_i fs xs ys hu
      split at e
      · cases e
      · rename_i hs
        obtain ⟨xs', rfl, lx⟩ := agg_list hx
        obtain ⟨ys', rfl, ly⟩ := agg_list hy
        have hf := fieldsOf_eq hu
        rw [run_equalIn_struct w d' t xs' ys' (by rw [hf]; exact hu) (by simpa using hs), hf]
        exact eqF_ok (fun t x y x' y' b e hx hy => eqV_ok (by omega) e hx hy) lx ly e
    · rename_i n e0 xs ys hu
      split at e
      · rename_i i hi
        obtain ⟨xs', rfl, lx⟩ := agg_list hx
        obtain ⟨ys', rfl, ly⟩ := agg_list hy
        rw [run_equalIn_array w d' xs' ys' hu hi]
        exact eqE_ok (fun t x y x' y' b e hx hy => eqV_ok (by omega) e hx hy) lx ly e
      · cases e
    · cases e
theorem bin_ok {op : BinOp} {t : TypeId} {x y x' y' r : Value} (hx : VR ρ h x x') (hy : VR ρ h y y') (e : binP P op t x y = some r) (X Y : Operand) :
    (do Go.eqGuard op t X Y x' y'; Go.binOp op t x' y' : Sem Value).run P w = .ok r w ∧ VR ρ h r r := by
  unfold binP at e
  split at e
  · rename_i k a k' b
    cases hx; cases hy
    split at e
    · rename_i hs
      unfold shiftI at e
      split at e
      · cases e
      · rename_i hb
        cases op <;> simp only [isShift] at hs e <;> (try cases hs) <;> (cases e; exact ⟨by simp [Go.eqGuard, Go.binOp, Op.shift, hb], .int _ _⟩)
    · rename_i hs
      split at e
      · rename_i hk
        subst hk
        exact binI_run e (by simpa using hs)
      · cases e
  · rename_i a b
    cases hx; cases hy
    cases op <;> simp only [binS] at e <;>
      first
      | (cases e; exact ⟨by simp [Go.eqGuard, Go.binOp, Op.stringOp], .bool _⟩)
      | (split at e
         · cases e
         · rename_i hb
           cases e
           refine ⟨?_, .string _⟩
           simp only [Go.eqGuard, Go.binOp, Op.stringOp, if_neg hb]
           rfl)
      | cases e
  · rename_i a b
    cases hx; cases hy
    have key : P.underlying t = some .bool → ∀ d, (Op.equalIn (d + 1) t (.bool a) (.bool b)).run P w = .ok (a == b) w := by
      intro hu d
      simp [Op.equalIn, run_underlying hu]
    split at e
    · rename_i hu
      cases e
      exact ⟨by simp [Go.eqGuard, Go.binOp, Op.equal, Op.maxDepth, key hu 9999], .bool _⟩
    · rename_i hu
      cases e
      exact ⟨by simp [Go.eqGuard, Go.binOp, Op.equal, Op.maxDepth, key hu 9999], .bool _⟩
    · cases e
  · rename_i xs ys
    have hg : ∀ b, eqAgg P t (.agg xs) (.agg ys) = some b → ∃ xs' ys', x' = .agg xs' ∧ y' = .agg ys' ∧ P.eqGuardType P.depth t = false ∧ (Op.equalIn 10000 t (.agg xs') (.agg ys')).run P w = .ok b w := by
      intro b eb
      unfold eqAgg at eb
      split at eb
      · cases eb
      · rename_i hs
        obtain ⟨xs', rfl, lx⟩ := agg_list hx
        obtain ⟨ys', rfl, ly⟩ := agg_list hy
        exact ⟨xs', ys', rfl, rfl, by simpa using hs, eqV_ok (by omega) eb hx hy⟩
    split at e
    · obtain ⟨b, eb, rfl⟩ := Option.map_eq_some_iff.1 e
      obtain ⟨xs', ys', rfl, rfl, g1, g2⟩ := hg b eb
      refine ⟨?_, .bool _⟩
      rw [Sem.run_bind, run_eqGuard_agg w _ t X Y xs' ys' g1, Result.andThen_ok, run_eql_struct w t xs' ys', g2]
      rfl
    · obtain ⟨b, eb, rfl⟩ := Option.map_eq_some_iff.1 e
      obtain ⟨xs', ys', rfl, rfl, g1, g2⟩ := hg b eb
      refine ⟨?_, .bool _⟩
      rw [Sem.run_bind, run_eqGuard_agg w _ t X Y xs' ys' g1, Result.andThen_ok, run_neq_struct w t xs' ys', g2]
      rfl
    · cases e
  · cases e

theorem conv_ok {t u : TypeId} {x x' r : Value} (hx : VR ρ h x x') (e : convP P t u x = some r) : (Go.convert t u x').run P w = .ok r w ∧ VR ρ h r r := by
  unfold convP at e
  split at e
  · rename_i h1 h2
    cases hx; cases e
    exact ⟨by simp [Go.convert, run_underlying h1, run_underlying h2, Conv.intToInt], .int _ _⟩
  · rename_i h1 h2
    cases hx; cases e
    exact ⟨by simp [Go.convert, run_underlying h1, run_underlying h2], .string _⟩
  · cases e

theorem un_ok {op : UnOp} {x x' r : Value} (hx : VR ρ h x x') (e : unP op x = some r) : (Op.unary op x').run P w = .ok r w ∧ VR ρ h r r := by
  unfold unP at e
  split at e
  · cases hx; cases e; exact ⟨by simp [Op.unary, Op.intArith], .int _ _⟩
  · cases hx; cases e; exact ⟨by simp [Op.unary], .bool _⟩
  · cases e

theorem add_some (a : Addr) (n : Nat) : (addP a n) = ⟨a.block, a.off + n, a.spot⟩ := rfl

/-- An address moved on within its row. -/
theorem ptr_add {a : Addr} {v' : Value} (hv : VR ρ h (.pointer (some a)) v') (n : Nat) : ∃ a', v' = .pointer (some a') ∧ VR ρ h (.pointer (some (addP a n))) (.pointer (some (a'.add n))) := by
  cases hv with
  | ptr r o x p hx hp => exact ⟨_, rfl, by rw [add_none, add_some, Nat.add_assoc]; exact .ptr r (o + n) x p hx hp⟩
  | ptrGone _ a' hg =>
    refine ⟨a', rfl, .ptrGone _ _ ?_⟩
    obtain ⟨L, h1, h2, h3⟩ := hg
    exact ⟨L, h1, h2, h3⟩

theorem indexAddr_ok {t : TypeId} {x y x' y' r : Value} (hx : VR ρ h x x') (hy : VR ρ h y y') (e : indexAddrP P h t x y = some r) :
    ∃ r', (Instr.indexAt t x' y').run P w = .ok r' w ∧ VR ρ h r r' := by
  unfold indexAddrP at e
  split at e
  · rename_i el a n c k j hu
    cases hy
    split at e
    · rename_i q row hi hrow
      split at e
      · rename_i hj
        cases e
        rcases row_slice hrow hx with ⟨p, c', h1, h2, rfl, h3, h4, h5⟩ | ⟨rfl, _⟩
        · refine ⟨.pointer (some ⟨p.b, p.d + (a.off + j.toNat * q.size), none⟩), ?_, ?_⟩
          · simp [Instr.indexAt, asIntOf, run_underlying hu, hj.1, hj.2, run_size hi, add_none, Nat.add_assoc]
          · have hs := (rowAt_spot hrow).1
            have := VR.ptr (ρ := ρ) (h := h) a.block (a.off + j.toNat * q.size) row p h1 h2
            rw [add_some, hs]
            exact this
        · omega
      · cases e
    · cases e
  · rename_i n el a k j hu
    cases hy
    split at e
    · rename_i q hi
      split at e
      · rename_i hj
        cases e
        obtain ⟨a', rfl, h1⟩ := ptr_add hx (j.toNat * q.size)
        exact ⟨_, by simp [Instr.indexAt, asIntOf, run_underlying hu, Instr.sureAddr, hj.1, hj.2, run_size hi], h1⟩
      · cases e
    · cases e
  · cases e

theorem index_ok {t : TypeId} {x y x' y' r : Value} (hx : VR ρ h x x') (hy : VR ρ h y y') (e : indexP P t x y = some r) :
    ∃ r', (Instr.index t x' y').run P w = .ok r' w ∧ VR ρ h r r' := by
  unfold indexP at e
  split at e
  · rename_i n el cs k j hu
    cases hy
    obtain ⟨cs', rfl, hc⟩ := agg_list hx
    split at e
    · rename_i q hi
      split at e
      · rename_i hj
        obtain ⟨r', h1, h2⟩ := part_ok (w := w) hc e
        exact ⟨r', by simp [Instr.index, asIntOf, run_underlying hu, hj.1, hj.2, run_size hi, h1], h2⟩
      · cases e
    · cases e
  · rename_i s k j hu
    cases hx; cases hy
    split at e
    · rename_i hj
      obtain ⟨b, hb, rfl⟩ := Option.map_eq_some_iff.1 e
      exact ⟨_, by simp [Instr.index, asIntOf, run_underlying hu, hj, hb], .int _ _⟩
    · cases e
  · cases e

theorem field_ok {t : TypeId} {fs : List Field} {f : Field} {j : Nat} {cs : Array Value} {x' r : Value} (hfs : fieldsOf P t = some fs) (hf : fs[j]? = some f) (hx : VR ρ h (.agg cs) x')
    (e : partP P f.type cs.toList f.offset = some r) : ∃ r', (Instr.field t x' j).run P w = .ok r' w ∧ VR ρ h r r' := by
  obtain ⟨cs', rfl, hc⟩ := agg_list hx
  unfold fieldsOf at hfs
  split at hfs
  · rename_i fa hu
    cases hfs
    obtain ⟨r', h1, h2⟩ := part_ok (w := w) hc e
    have : fa[j]? = some f := by simpa using hf
    exact ⟨r', by simp [Instr.field, run_underlying hu, this, asAgg, h1], h2⟩
  · cases hfs

theorem fieldAddr_ok {t : TypeId} {fs : List Field} {f : Field} {j : Nat} {a : Addr} {x' : Value} {i : TypeInfo} (hfs : fieldsOf P t = some fs) (hf : fs[j]? = some f) (hi : P.info? f.type = some i) (hs : 0 < i.size) (hx : VR ρ h (.pointer (some a)) x') :
    ∃ r', (Instr.fieldAt t x' j).run P w = .ok r' w ∧ VR ρ h (.pointer (some (addP a f.offset))) r' := by
  unfold fieldsOf at hfs
  split at hfs
  · rename_i fa hu
    cases hfs
    obtain ⟨a', rfl, h1⟩ := ptr_add hx f.offset
    have : fa[j]? = some f := by simpa using hf
    have hne : ¬ i.size = 0 := by omega
    exact ⟨_, by simp [Instr.fieldAt, run_underlying hu, this, Instr.sureAddr, fieldPlace, run_size hi, hne], h1⟩
  · cases hfs

/-! ### slices -/
theorem asI_vr {v v' : Value} (hv : VR ρ h v v') {n : Int} (e : asI v = some n) : ∃ k, v' = .int k n := by
  cases v <;> simp [asI] at e
  cases hv
  subst e
  exact ⟨_, rfl⟩

def OV (ρ : Mp) (h : Hp) : Option Value → Option Value → Prop
  | none, none => True
  | some v, some v' => VR ρ h v v'
  | _, _ => False

theorem run_bound {k : IntKind} {i : Int} {y : Nat} {code : BoundsCode} (h0 : 0 ≤ i) (h1 : i ≤ y) : (Instr.sliceBound (.int k i) y code).run P w = .ok i.toNat w := by
  simp [Instr.sliceBound, asIntOf, h0, h1]

theorem run_bounds {b : Bool} {len cap : Nat} {lo hi lo' hi' : Option Value} (hl : OV ρ h lo lo') (hh : OV ρ h hi hi') {l u : Int}
    (el : loP lo = some l) (eu : hiP len hi = some u) (h0 : 0 ≤ l) (h1 : l ≤ u) (h2 : u ≤ cap) :
    (Instr.sliceBounds b len cap lo' hi' none).run P w = .ok (l.toNat, u.toNat, cap) w := by
  cases lo with
  | none =>
    cases lo' with
    | some _ => cases hl
    | none =>
      cases hi with
      | none =>
        cases hi' with
        | some _ => cases hh
        | none => cases el; cases eu; simp [Instr.sliceBounds]
      | some v =>
        cases hi' with
        | none => cases hh
        | some v' =>
          obtain ⟨k, rfl⟩ := asI_vr hh eu
          cases el
          simp [Instr.sliceBounds, run_bound (P := P) (w := w) (k := k) (i := u) (by omega) h2]
  | some z =>
    cases lo' with
    | none => cases hl
    | some z' =>
      obtain ⟨k, rfl⟩ := asI_vr hl el
      cases hi with
      | none =>
        cases hi' with
        | some _ => cases hh
        | none =>
          cases eu
          simp [Instr.sliceBounds, run_bound (P := P) (w := w) (k := k) (i := l) h0 h1]
      | some v =>
        cases hi' with
        | none => cases hh
        | some v' =>
          obtain ⟨k2, rfl⟩ := asI_vr hh eu
          have hu : (u.toNat : Int) = u := by omega
          simp [Instr.sliceBounds, run_bound (P := P) (w := w) (k := k2) (i := u) (by omega) h2, run_bound (P := P) (w := w) (k := k) (i := l) (y := u.toNat) h0 (by omega)]

theorem slice_ok {t : TypeId} {x x' r : Value} {lo hi lo' hi' : Option Value} (hx : VR ρ h x x') (hl : OV ρ h lo lo') (hh : OV ρ h hi hi') (e : sliceP P h t x lo hi = some r) :
    ∃ r', (Instr.sliceAt t x' lo' hi' none).run P w = .ok r' w ∧ VR ρ h r r' := by
  unfold sliceP at e
  split at e
  · rename_i el a n c hu
    split at e
    · rename_i q row u l hi hrow eu el
      split at e
      · rename_i hb
        obtain ⟨h0, h1, h2, hsz⟩ := hb
        cases e
        rcases row_slice hrow hx with ⟨p, c', i1, i2, rfl, i3, i4, i5⟩ | ⟨rfl, rfl, a', p, rfl, i1, i2⟩
        · have hr := run_bounds (P := P) (w := w) (b := true) (len := n) (cap := c') hl hh el eu h0 h1 (by omega)
          have hs := (rowAt_spot hrow).1
          by_cases hm : c' = l.toNat
          · subst hm
            refine ⟨.slice (some ⟨p.b, p.d + a.off, none⟩) (u.toNat - l.toNat) (l.toNat - l.toNat), ?_, ?_⟩
            · simp [Instr.sliceAt, run_underlying hu, Instr.slice, hr, run_size hi]
            · rw [show u.toNat - l.toNat = 0 by omega, show c - l.toNat = 0 by omega, show l.toNat - l.toNat = 0 by omega, add_some, hs]
              exact .slZero _ _ row p _ i1 i2
          · refine ⟨.slice (some ⟨p.b, p.d + (a.off + l.toNat * q.size), none⟩) (u.toNat - l.toNat) (c' - l.toNat), ?_, ?_⟩
            · simp [Instr.sliceAt, run_underlying hu, Instr.slice, hr, run_size hi, hm, add_none, Nat.add_assoc]
            · have := VR.sl (ρ := ρ) (h := h) a.block (a.off + l.toNat * q.size) row p (u.toNat - l.toNat) (c - l.toNat) (c' - l.toNat) i1 i2 (by omega) (by omega) (fun hro => by
                have h6 := i5 hro
                rw [hsz] at h6 ⊢
                have : l.toNat * q.size + (c' - l.toNat) * q.size = c' * q.size := by rw [← Nat.add_mul]; congr 1; omega
                omega)
              rw [add_some, hs]
              exact this
        · have hu0 : u = 0 := by omega
          have hl0 : l = 0 := by omega
          subst hu0; subst hl0
          have hr := run_bounds (P := P) (w := w) (b := true) (len := 0) (cap := 0) hl hh el (by simpa using eu) (by omega) (by omega) (by omega)
          refine ⟨.slice (some a') 0 0, ?_, ?_⟩
          · simp [Instr.sliceAt, run_underlying hu, Instr.slice, hr, run_size hi]
          · rw [add_some, (rowAt_spot hrow).1]
            exact .slZero _ _ row p _ i1 i2
      · cases e
    · cases e
  · rename_i eT hu
    cases hx with
    | nilSlice =>
      split at e
      · rename_i q u l hi eu el
        split at e
        · rename_i h0
          obtain ⟨rfl, rfl⟩ := h0
          cases e
          have hr := run_bounds (P := P) (w := w) (b := true) (len := 0) (cap := 0) hl hh el (by simpa using eu) (by omega) (by omega) (by omega)
          exact ⟨.slice none 0 0, by simp [Instr.sliceAt, run_underlying hu, Instr.slice, hr, run_size hi], .nilSlice⟩
        · cases e
      · cases e
    | zeroSl a' =>
      split at e
      · rename_i q u l hi eu el
        split at e
        · rename_i h0
          obtain ⟨rfl, rfl⟩ := h0
          cases e
          have hr := run_bounds (P := P) (w := w) (b := true) (len := 0) (cap := 0) hl hh el (by simpa using eu) (by omega) (by omega) (by omega)
          exact ⟨.slice (some a') 0 0, by simp [Instr.sliceAt, run_underlying hu, Instr.slice, hr, run_size hi], .zeroSl a'⟩
        · cases e
      · cases e
  · rename_i s hu
    cases hx
    split at e
    · rename_i u l eu el
      split at e
      · rename_i h0
        cases e
        have hr := run_bounds (P := P) (w := w) (b := false) (len := s.size) (cap := s.size) hl hh el eu h0.1 h0.2.1 h0.2.2
        exact ⟨_, by simp [Instr.sliceAt, run_underlying hu, Instr.slice, hr], .string _⟩
      · cases e
    · cases e
  · cases e
end Go.Pm

/- The rows below a row. -/
set_option linter.unusedVariables false
set_option linter.unusedSimpArgs false
namespace Go.Pm
variable {P : Program} {ρ : Mp} {h : Hp} {w : World}

/-- All that a value leads to lies below row L. -/
inductive Cl (L : Nat) : Value → Prop
  | bool (b) : Cl L (.bool b)
  | int (k n) : Cl L (.int k n)
  | string (s) : Cl L (.string s)
  | nilPtr : Cl L (.pointer none)
  | nilFunc : Cl L .nilFunc
  | nilSlice : Cl L (.slice none 0 0)
  | ptr (a : Addr) : a.block < L → Cl L (.pointer (some a))
  | sl (a : Addr) (n c : Nat) : a.block < L → Cl L (.slice (some a) n c)
  | func (fn : Fn) (a b : Array Value) : (∀ (i : Nat) v, a[i]? = some v → Cl L v) → (∀ (i : Nat) v, b[i]? = some v → Cl L v) → Cl L (.func fn a b)
  | agg (a : Array Value) : (∀ (i : Nat) v, a[i]? = some v → Cl L v) → Cl L (.agg a)
  | tuple (a : Array Value) : (∀ (i : Nat) v, a[i]? = some v → Cl L v) → Cl L (.tuple a)

theorem get_same {a a' : Array Value} (e : a.size = a'.size) {i : Nat} {v : Value} (h : a[i]? = some v) : ∃ v', a'[i]? = some v' := by
  have := (Array.getElem?_eq_some_iff.1 h).1
  exact ⟨a'[i], by simp [show i < a'.size by omega]⟩

theorem VR.cl {v v' : Value} (hv : VR ρ h v v') : Cl h.length v := by
  induction hv with
  | bool b => exact .bool b
  | int k n => exact .int k n
  | string s => exact .string s
  | nilPtr => exact .nilPtr
  | nilFunc => exact .nilFunc
  | nilSlice => exact .nilSlice
  | zeroSl a' => exact .nilSlice
  | ptr r o x p hx hp => exact .ptr _ (List.getElem?_eq_some_iff.1 hx).1
  | ptrGone a a' hg => obtain ⟨L, _, h2, _⟩ := hg; exact .ptr _ h2
  | sl r o x p n c c' hx hp hn hc hb => exact .sl _ _ _ (List.getElem?_eq_some_iff.1 hx).1
  | slZero r o x p a' hx hp => exact .sl _ _ _ (List.getElem?_eq_some_iff.1 hx).1
  | slGone a a' n c c' hg => obtain ⟨L, _, h2, _⟩ := hg; exact .sl _ _ _ h2
  | func fn a a' b b' e1 e2 h1 h2 i1 i2 =>
    exact .func fn a b (fun i v hi => by obtain ⟨v', hv'⟩ := get_same e1 hi; exact i1 i v v' hi hv') (fun i v hi => by obtain ⟨v', hv'⟩ := get_same e2 hi; exact i2 i v v' hi hv')
  | agg a a' e h1 i1 => exact .agg a (fun i v hi => by obtain ⟨v', hv'⟩ := get_same e hi; exact i1 i v v' hi hv')
  | tuple a a' e h1 i1 => exact .tuple a (fun i v hi => by obtain ⟨v', hv'⟩ := get_same e hi; exact i1 i v v' hi hv')
theorem Cl.mono {L L' : Nat} (hl : L ≤ L') {v : Value} (c : Cl L v) : Cl L' v := by
  induction c with
  | bool b => exact .bool b
  | int k n => exact .int k n
  | string s => exact .string s
  | nilPtr => exact .nilPtr
  | nilFunc => exact .nilFunc
  | nilSlice => exact .nilSlice
  | ptr a ha => exact .ptr a (by omega)
  | sl a n c ha => exact .sl a n c (by omega)
  | func fn a b _ _ i1 i2 => exact .func fn a b (fun i v hi => i1 i v hi) (fun i v hi => i2 i v hi)
  | agg a _ i1 => exact .agg a (fun i v hi => i1 i v hi)
  | tuple a _ i1 => exact .tuple a (fun i v hi => i1 i v hi)

/-- The places of the rows below L alone. -/
def res (ρ : Mp) (L : Nat) : Mp := fun r => if r < L then ρ r else none
theorem take_get {H : Hp} {L r : Nat} (hr : r < L) : (H.take L)[r]? = H[r]? := by rw [List.getElem?_take, if_pos hr]
theorem take_some {H : Hp} {L r : Nat} {y : Option Row} (e : (H.take L)[r]? = some y) : r < L ∧ H[r]? = some y := by
  rw [List.getElem?_take] at e
  split at e
  · exact ⟨by assumption, e⟩
  · cases e
theorem res_some {L r : Nat} {p : Place} (e : res ρ L r = some p) : r < L ∧ ρ r = some p := by
  unfold res at e
  split at e
  · exact ⟨by assumption, e⟩
  · cases e

theorem VR.res {H : Hp} {L : Nat} {v v' : Value} (hv : VR ρ H v v') (c : Cl L v) : VR (Pm.res ρ L) (H.take L) v v' := by
  have hg : ∀ a : Addr, a.block < L → Gone H a → Gone (H.take L) a := by
    intro a ha ⟨K, h1, h2, h3⟩
    exact ⟨K, h1, by simp; omega, fun x hx => h3 x (take_some hx).2⟩
  have hp : ∀ {r : Nat} {p : Place}, r < L → ρ r = some p → Pm.res ρ L r = some p := by
    intro r p hr hp
    simp [Pm.res, hr, hp]
  induction hv with
  | bool b => exact .bool b
  | int k n => exact .int k n
  | string s => exact .string s
  | nilPtr => exact .nilPtr
  | nilFunc => exact .nilFunc
  | nilSlice => exact .nilSlice
  | zeroSl a' => exact .zeroSl a'
  | ptr r o x p hx hp' => cases c with | ptr _ ha => exact .ptr r o x p (by rw [take_get ha]; exact hx) (hp ha hp')
  | ptrGone a a' hg' => cases c with | ptr _ ha => exact .ptrGone a a' (hg a ha hg')
  | sl r o x p n c1 c' hx hp' hn hc hb => cases c with | sl _ _ _ ha => exact .sl r o x p n c1 c' (by rw [take_get ha]; exact hx) (hp ha hp') hn hc hb
  | slZero r o x p a' hx hp' => cases c with | sl _ _ _ ha => exact .slZero r o x p a' (by rw [take_get ha]; exact hx) (hp ha hp')
  | slGone a a' n c1 c' hg' => cases c with | sl _ _ _ ha => exact .slGone a a' n c1 c' (hg a ha hg')
  | func fn a a' b b' e1 e2 h1 h2 i1 i2 => cases c with | func _ _ _ g1 g2 => exact .func fn a a' b b' e1 e2 (fun i v v' ha hb => i1 i v v' ha hb (g1 i v ha)) (fun i v v' ha hb => i2 i v v' ha hb (g2 i v ha))
  | agg a a' e h1 i1 => cases c with | agg _ g1 => exact .agg a a' e (fun i v v' ha hb => i1 i v v' ha hb (g1 i v ha))
  | tuple a a' e h1 i1 => cases c with | tuple _ g1 => exact .tuple a a' e (fun i v v' ha hb => i1 i v v' ha hb (g1 i v ha))

theorem step_ext {H : Hp} {L : Nat} (hL : L ≤ H.length) {ρ1 ρ' : Mp} (hρ : ∀ r x p, r < L → H[r]? = some (some x) → ρ1 r = some p → ρ' r = some p) : Step ρ1 (H.take L) ρ' H :=
  ⟨fun r x p hx hp => by
    obtain ⟨h1, h2⟩ := take_some hx
    exact .inl ⟨x, h2, rfl, rfl, rfl, hρ r x p h1 h2 hp⟩, fun a ⟨K, h1, h2, h3⟩ => by
    have h2' : a.block < L := by simp at h2; omega
    exact ⟨K, h1, by omega, fun x hx => h3 x (by rw [take_get h2']; exact hx)⟩⟩

theorem Rel.res {H : Hp} {L : Nat} (R : Rel ρ H w) (hc : ∀ r x p, H[r]? = some (some x) → ρ r = some p → r < L → ∀ v, v ∈ x.cells → Cl L v) : Rel (Pm.res ρ L) (H.take L) w := by
  refine ⟨fun r x p hx hp hr => ?_, fun r x p hx hp hr i v hi => ?_, fun r r' x x' p p' hx hx' hp hp' hr hne hro => ?_, fun r p hp => ?_⟩
  · obtain ⟨h1, h2⟩ := take_some hx
    obtain ⟨_, h3⟩ := res_some hp
    obtain ⟨c, e, g1, g2, g3, g4⟩ := R.own r x p h2 h3 hr
    refine ⟨c, e, g1, g2, g3, fun i v hi => ?_⟩
    obtain ⟨v', k1, k2⟩ := g4 i v hi
    exact ⟨v', k1, k2.res (hc r x p h2 h3 h1 v (List.mem_of_getElem? hi))⟩
  · obtain ⟨h1, h2⟩ := take_some hx
    obtain ⟨_, h3⟩ := res_some hp
    obtain ⟨v', k1, k2⟩ := R.ro r x p h2 h3 hr i v hi
    exact ⟨v', k1, k2.res (hc r x p h2 h3 h1 v (List.mem_of_getElem? hi))⟩
  · exact R.inj r r' x x' p p' (take_some hx).2 (take_some hx').2 (res_some hp).2 (res_some hp').2 hr hne hro
  · obtain ⟨h1, h2⟩ := res_some hp
    have := R.dom r p h2
    simp; omega

theorem Rel.cut {ρ ρ' : Mp} {h h' : Hp} {w w' : World} (R : Rel ρ h w) (hpre : h <+: h') (R' : Rel ρ' h' w') (Gx : Go1 ρ h w ρ' h' w') :
    Rel (Pm.res ρ' h.length) h w' ∧ Go1 ρ h w (Pm.res ρ' h.length) h w' := by
  have hh : h = h'.take h.length := List.prefix_iff_eq_take.1 hpre
  have old : ∀ r x, r < h.length → h'[r]? = some (some x) → h[r]? = some (some x) := fun r x hr hx => by rw [hh, take_get hr]; exact hx
  refine ⟨?_, Gx.os, Gx.tape, Gx.output, Gx.size, Gx.blk, fun r' x' p' g1 g2 g3 => ?_, ⟨fun r x p hx hp => ?_, fun _ h => h⟩, Nat.le_refl _, fun r hr hn => ?_⟩
  · have := R'.res (L := h.length) fun r x p hx hp hr v hv => by
      have hx' := old r x hr hx
      cases hρ : ρ r with
      | none => rw [Gx.keepn r hr hρ] at hp; cases hp
      | some q =>
        obtain ⟨m, hm⟩ := List.getElem?_of_mem hv
        cases hro : x.ro with
        | false => obtain ⟨c, e, _, _, _, g4⟩ := R.own r x q hx' hρ hro
                   obtain ⟨u, _, k2⟩ := g4 m v hm
                   exact k2.cl
        | true => obtain ⟨u, _, k2⟩ := R.ro r x q hx' hρ hro m v hm
                  exact k2.cl
    rwa [← hh] at this
  · obtain ⟨h1, h2⟩ := res_some g2
    exact Gx.orig r' x' p' (by rw [hh, take_get h1] at g1; exact g1) h2 g3
  · have hr := (List.getElem?_eq_some_iff.1 hx).1
    have hx' : h'[r]? = some (some x) := by rw [hh, take_get hr] at hx; exact hx
    rcases Gx.step.live r x p hx hp with ⟨x1, h1, h2, h3, h4, h5⟩ | ⟨_, h5⟩
    · exact .inl ⟨x, hx, rfl, rfl, rfl, by simp [Pm.res, hr, h5]⟩
    · have := h5 x hx'; omega
  · simp [Pm.res, hr, Gx.keepn r hr hn]
end Go.Pm

/- What makes memory: append above all. -/
set_option linter.unusedVariables false
set_option linter.unusedSimpArgs false
namespace Go.Pm
variable {P : Program} {ρ : Mp} {h : Hp} {w : World}

theorem zero_of {t : TypeId} {z : Value} (e : zeroP P t = some z) : ∃ i, P.info? t = some i ∧ i.zero = some z ∧ plain z = true ∧ z.cells.size = i.size := by
  unfold zeroP at e
  split at e
  · rename_i i hi
    split at e
    · rename_i y hy
      split at e
      · rename_i hc; cases e; exact ⟨i, hi, hy, hc.1, hc.2⟩
      · cases e
    · cases e
  · cases e
theorem plain_cells {z : Value} (hp : plain z = true) : VL ρ h z.cells.toList z.cells.toList := (plain_vr hp).cells
theorem plainC_one {v : Value} (hp : plainC v = true) : Pm.one v = true := by
  unfold plainC at hp
  split at hp <;> first | rfl | cases hp

/-! ### rows of zeros -/
theorem reps_length (z : List Value) : ∀ n, (reps n z).length = n * z.length
  | 0 => by simp [reps]
  | n + 1 => by rw [reps, List.length_append, reps_length z n, Nat.add_mul, Nat.one_mul, Nat.add_comm]
theorem reps_get (z : List Value) (hz : 0 < z.length) : ∀ (n i : Nat), i < n * z.length → (reps n z)[i]? = z[i % z.length]?
  | 0, i, h => by omega
  | n + 1, i, h => by
    rw [reps]
    rw [Nat.add_mul, Nat.one_mul] at h
    rcases Nat.lt_or_ge i z.length with hi | hi
    · rw [List.getElem?_append_left hi, Nat.mod_eq_of_lt hi]
    · rw [List.getElem?_append_right hi, reps_get z hz n _ (by omega), ← Nat.mod_eq_sub_mod hi]
theorem made_reps (z : Array Value) (n : Nat) (hz : 0 < z.size) : (madeCells z (n * z.size)).toList = reps n z.toList := by
  apply List.ext_getElem?
  intro i
  rcases Nat.lt_or_ge i (n * z.size) with hi | hi
  · have hm : i % z.size < z.size := Nat.mod_lt _ hz
    rw [reps_get _ (by simpa using hz) n i (by simpa using hi)]
    have h2 : z[i % z.size]! = z[i % z.size] := getElem!_pos z (i % z.size) hm
    simp [madeCells, hi, hm]
  · rw [List.getElem?_eq_none (by simp [madeCells]; omega), List.getElem?_eq_none (by rw [reps_length]; simpa using hi)]
theorem reps_vl {z : Value} (hp : plain z = true) : ∀ n, VL ρ h (reps n z.cells.toList) (reps n z.cells.toList)
  | 0 => VL.nil
  | n + 1 => (plain_cells hp).append (reps_vl hp n)

/-! ### make, alloc, box -/
theorem make_ok (R : Rel ρ h w) {t : TypeId} {l c l' c' r : Value} {h' : Hp} (hl : VR ρ h l l') (hc : VR ρ h c c') (e : makeP P h t l c = some (r, h')) :
    ∃ r' w' ρ', (Instr.makeSlice t l' c').run P w = .ok r' w' ∧ VR ρ' h' r r' ∧ Rel ρ' h' w' ∧ Go1 ρ h w ρ' h' w' := by
  unfold makeP at e
  split at e
  · rename_i eT n m hu hn hm
    obtain ⟨k1, rfl⟩ := asI_vr hl hn
    obtain ⟨k2, rfl⟩ := asI_vr hc hm
    split at e
    · rename_i q z hi hz
      split at e
      · rename_i hb
        obtain ⟨h0, h1, h2, h3, h4, h5⟩ := hb
        obtain ⟨i, hi', hz', hp, hsz⟩ := zero_of hz
        rw [hi] at hi'; cases hi'
        simp only [Option.some.injEq, Prod.mk.injEq] at e
        obtain ⟨rfl, rfl⟩ := e
        have hrun := run_make (P := P) w t eT q z hu hi hz' k1 k2 n m h0 h1 (by rw [Int.mul_comm]; omega) (by omega)
        have hv := reps_vl (ρ := ρ) (h := h) hp m.toNat
        obtain ⟨R', G⟩ := R.new hv q.size eT
        have hA : madeCells z.cells (m.toNat * q.size) = (reps m.toNat z.cells.toList).toArray := by
          apply Array.ext'
          have := made_reps z.cells m.toNat (by omega)
          rw [hsz] at this
          simpa using this
        rw [hA] at hrun
        have hrl : (reps m.toNat z.cells.toList).length = m.toNat * q.size := by rw [reps_length]; simp [hsz]
        exact ⟨_, _, _, hrun, new_slice h (reps m.toNat z.cells.toList) q.size n.toNat m.toNat w.heap.size (by omega) (by rw [hrl]; exact Nat.le_refl _), R', G⟩
      · cases e
    · cases e
  · cases e

theorem alloc_ok (R : Rel ρ h w) {eT : TypeId} {z : Value} (hz : zeroP P eT = some z) :
    ∃ r' w' ρ', (Instr.alloc eT true (.tuple #[])).run P w = .ok r' w' ∧ VR ρ' (newP h z.cells.toList 0).2 (.pointer (some (newP h z.cells.toList 0).1)) r' ∧ Rel ρ' (newP h z.cells.toList 0).2 w' ∧ Go1 ρ h w ρ' (newP h z.cells.toList 0).2 w' := by
  obtain ⟨i, hi, hz', hp, hsz⟩ := zero_of hz
  obtain ⟨R', G⟩ := R.new (plain_cells hp) 0 eT
  simp only [Array.toArray_toList] at R' G
  exact ⟨_, _, _, by simp [Instr.alloc, run_zero hi hz', newVar, newRow], new_ptr h z.cells.toList 0 0 w.heap.size, R', G⟩

theorem box_ok (R : Rel ρ h w) {eT : TypeId} {v v' : Value} (hv : VR ρ h v v') (h1 : v.cells.toList.all Pm.one = true) :
    ∃ r' w' ρ', (Instr.box eT v').run P w = .ok r' w' ∧ VR ρ' (newP h v.cells.toList 0).2 (.pointer (some (newP h v.cells.toList 0).1)) r' ∧ Rel ρ' (newP h v.cells.toList 0).2 w' ∧ Go1 ρ h w ρ' (newP h v.cells.toList 0).2 w' := by
  obtain ⟨R', G⟩ := R.new hv.cells 0 eT
  simp only [Array.toArray_toList] at R' G
  exact ⟨_, _, _, by simp [Instr.box, newVar, newRow], new_ptr h v.cells.toList 0 0 w.heap.size, R', G⟩

/-! ### struct and slice literals -/
theorem fold_splice : ∀ (vs : List Value) (k : Nat) (off : Nat) (cs : Array Value),
    ((vs.zipIdx k).foldl (fun (cs : Array Value) (x : Value × Nat) => cs.setIfInBounds (off + x.2) x.1) cs).toList = splice cs.toList (off + k) vs
  | [], k, off, cs => rfl
  | v :: vs, k, off, cs => by
    rw [List.zipIdx_cons, List.foldl_cons, fold_splice vs (k + 1) off]
    simp [splice, Nat.add_assoc]
def PL (ρ : Mp) (h : Hp) (l l' : List (Nat × Value)) : Prop := l.length = l'.length ∧ ∀ (i : Nat) x x', l[i]? = some x → l'[i]? = some x' → x.1 = x'.1 ∧ VR ρ h x.2 x'.2
theorem PL.head {x : Nat × Value} {l l' : List (Nat × Value)} (hl : PL ρ h (x :: l) l') : ∃ x' m', l' = x' :: m' ∧ (x.1 = x'.1 ∧ VR ρ h x.2 x'.2) ∧ PL ρ h l m' := by
  cases l' with
  | nil => have := hl.1; simp at this
  | cons x' m' => exact ⟨x', m', rfl, hl.2 0 x x' rfl rfl, by have := hl.1; simpa using this, fun i u u' h1 h2 => hl.2 (i + 1) u u' (by simpa using h1) (by simpa using h2)⟩
theorem fill_ok {pl pl' : Nat → Option (Nat × Nat)} (hpl : ∀ i x, pl i = some x → pl' i = some x) : ∀ (l l' : List (Nat × Value)) (cs : List Value) (cs' : Array Value) (r : List Value), PL ρ h l l' → VL ρ h cs cs'.toList → fillP pl cs l = some r →
    ∃ r', Instr.fill pl' cs' l' = some r' ∧ VL ρ h r r'.toList
  | [], l', cs, cs', r, hl, hc, e => by
    cases e
    cases l' with
    | nil => exact ⟨cs', rfl, hc⟩
    | cons x m => have := hl.1; simp at this
  | (i, v) :: l, l', cs, cs', r, hl, hc, e => by
    obtain ⟨⟨i', v'⟩, m', rfl, ⟨h1, h2⟩, h3⟩ := hl.head
    simp only at h1 h2
    subst h1
    rw [fillP] at e
    split at e
    · cases e
    · rename_i off size hp
      split at e
      · rename_i hcond
        have hs : v'.cells.size = size := by rw [h2.cells_size]; exact hcond.1
        have hlen := hc.1
        have hcond' : (v'.cells.size ≠ size || off + v'.cells.size > cs'.size) = false := by
          simp [hs]
          have := hcond.2
          simp at hlen
          omega
        rw [Instr.fill, hpl i _ hp]
        simp only [hcond', Bool.false_eq_true, if_false]
        refine fill_ok hpl l m' _ _ r h3 ?_ e
        have hf := fold_splice v'.cells.toList 0 off cs'
        have hf2 : (v'.cells.zipIdx.foldl (fun (cs : Array Value) (x : Value × Nat) => cs.setIfInBounds (off + x.2) x.1) cs').toList = splice cs'.toList off v'.cells.toList := by
          rw [← Array.foldl_toList, Array.toList_zipIdx]
          simpa using hf
        rw [hf2]
        exact VL.splice _ _ _ _ off hc h2.cells
      · cases e


theorem places_ok {fs : List Field} {l : List (Nat × Nat)} (e : places P fs = some l) : ∀ (w : World), (fs.mapM fun f => Prod.mk f.offset <$> sizeOf f.type).run P w = .ok l w := by
  induction fs generalizing l with
  | nil => intro w; cases e; simp
  | cons f r ih =>
    intro w
    rw [places] at e
    split at e
    · rename_i i m hi hm
      cases e
      simp [List.mapM_cons, run_size hi, ih hm w]
    · cases e

theorem build_ok {t : TypeId} {l l' : List (Nat × Value)} {r : Value} (hl : PL ρ h l l') (e : buildP P t l = some r) :
    ∃ r', (Instr.build t l'.toArray).run P w = .ok r' w ∧ VR ρ h r r' := by
  unfold buildP at e
  split at e
  · rename_i fs z hu hz
    obtain ⟨i, hi, hz', hp, hsz⟩ := zero_of hz
    split at e
    · rename_i pl hpl
      obtain ⟨cs, hcs, rfl⟩ := Option.map_eq_some_iff.1 e
      obtain ⟨r', h1, h2⟩ := fill_ok (ρ := ρ) (h := h) (pl := (pl[·]?)) (pl' := (pl.toArray[·]?)) (fun i x hx => by simpa using hx) l l' _ z.cells cs hl (plain_cells hp) hcs
      refine ⟨.agg r', ?_, .agg _ _ (by simpa using h2.1) (fun j u u' g1 g2 => h2.2 j u u' (by simpa using g1) (by simpa using g2))⟩
      have h3 : (fs.mapM fun f => (do pure (f.offset, ← sizeOf f.type) : Sem (Nat × Nat))).run P w = .ok pl.toArray w := by
        rw [← Array.toArray_toList (xs := fs), List.mapM_toArray]
        simp [places_ok hpl w]
      simp only [Instr.build, Sem.run_bind, run_zero hi hz', Result.andThen_ok, run_underlying hu, h3, h1, Sem.run_pure]
    · cases e
  · rename_i n el z hu hz
    obtain ⟨i, hi, hz', hp, hsz⟩ := zero_of hz
    split at e
    · rename_i q hq
      obtain ⟨cs, hcs, rfl⟩ := Option.map_eq_some_iff.1 e
      obtain ⟨r', h1, h2⟩ := fill_ok (ρ := ρ) (h := h) (fun i x hx => hx) l l' _ z.cells cs hl (plain_cells hp) hcs
      refine ⟨.agg r', ?_, .agg _ _ (by simpa using h2.1) (fun j u u' g1 g2 => h2.2 j u u' (by simpa using g1) (by simpa using g2))⟩
      simp only [Instr.build, Sem.run_bind, run_zero hi hz', Result.andThen_ok, run_underlying hu, run_size hq, h1, Sem.run_pure, List.toList_toArray]
    · cases e
  · cases e

theorem buildSlice_ok (R : Rel ρ h w) {t : TypeId} {n : Nat} {l l' : List (Nat × Value)} {r : Value} {h' : Hp} (hl : PL ρ h l l') (e : buildSliceP P h t n l = some (r, h')) :
    ∃ r' w' ρ', (Instr.buildSlice t n l'.toArray).run P w = .ok r' w' ∧ VR ρ' h' r r' ∧ Rel ρ' h' w' ∧ Go1 ρ h w ρ' h' w' := by
  unfold buildSliceP at e
  split at e
  · rename_i el hu
    split at e
    · rename_i q z hq hz
      obtain ⟨i, hi, hz', hp, hsz⟩ := zero_of hz
      rw [hq] at hi; cases hi
      split at e
      · rename_i hn0
        subst hn0
        split at e
        · rename_i hl0
          subst hl0
          cases e
          have hl' : l' = [] := by
            cases l' with
            | nil => rfl
            | cons y m => have := hl.1; simp at this
          subst hl'
          obtain ⟨R', G⟩ := R.new (l := []) (l' := []) VL.nil q.size el
          obtain ⟨R2, G2⟩ := R.cut (List.prefix_append ..) R' G
          refine ⟨_, _, _, ?_, .zeroSl ⟨w.heap.size, 0, none⟩, R2, G2⟩
          simp [Instr.buildSlice, run_underlying hu, run_size hq, Instr.fill, newRow, Array.range_zero']
        · cases e
      split at e
      · rename_i hb
        split at e
        · rename_i cs hcs
          split at e
          · rename_i hone
            simp only [Option.some.injEq, Prod.mk.injEq] at e
            obtain ⟨rfl, rfl⟩ := e
            have hA : (Array.range (n * q.size)).map (z.cells[· % z.cells.size]!) = (reps n z.cells.toList).toArray := by
              apply Array.ext'
              have := made_reps z.cells n (by omega)
              rw [hsz] at this
              simpa [madeCells] using this
            obtain ⟨r', h1, h2⟩ := fill_ok (ρ := ρ) (h := h) (fun i x hx => hx) l l' _ (reps n z.cells.toList).toArray cs hl (by simpa using reps_vl hp n) hcs
            obtain ⟨R', G⟩ := R.new h2 q.size el
            simp only [Array.toArray_toList] at R' G
            have hfl : ∀ (l : List (Nat × Value)) (cs r : List Value), fillP (fun i => some (i * q.size, q.size)) cs l = some r → r.length = cs.length := by
              intro l
              induction l with
              | nil => intro cs r e; cases e; rfl
              | cons x l ih =>
                intro cs r e
                obtain ⟨i, v⟩ := x
                rw [fillP] at e
                simp only at e
                split at e
                · rw [ih _ _ e, splice_length]
                · cases e
            have hlen : cs.length = n * q.size := by rw [hfl _ _ _ hcs, reps_length]; simp [hsz]
            refine ⟨_, _, _, ?_, new_slice h cs q.size n n w.heap.size (Nat.le_refl _) (by omega), R', G⟩
            by_cases h0 : n * q.size = 0
            · have hn : n = 0 := by
                rcases Nat.mul_eq_zero.1 h0 with h | h
                · exact h
                · omega
              subst hn
              simp only [reps] at h1
              simp [Instr.buildSlice, run_underlying hu, run_size hq, Array.range_zero', h1, newRow]
            · have hle : ¬ (n * q.size > 2 ^ 24) := by omega
              simp only [Instr.buildSlice, Sem.run_bind, run_underlying hu, Result.andThen_ok, run_size hq, Sem.run_ite, if_neg hle, if_neg h0, run_zero hq hz', Sem.run_pure, hA, h1, newRow, run_newObj, List.toList_toArray]
              rfl
          · cases e
        · cases e
      · cases e
    · cases e
  · cases e
end Go.Pm

/- append and copy. -/
set_option linter.unusedVariables false
set_option linter.unusedSimpArgs false
namespace Go.Pm
variable {P : Program} {ρ : Mp} {h : Hp} {w : World}

/-- A row of one's own goes on as row k (itself, grown, or a new one while the old one is gone), in its own block or in a new one. -/
theorem Rel.regrow (R : Rel ρ h w) {r : Nat} {x : Row} {p : Place} (hx : h[r]? = some (some x)) (hp : ρ r = some p) (hro : x.ro = false)
    {k : Nat} {x' : Row} {p' : Place} {h' : Hp} {w' : World} (hro' : x'.ro = false)
    (hk : h'[k]? = some (some x')) (hkr : (k = r ∧ x.cells.length < x'.cells.length) ∨ (k = h.length ∧ h'[r]? = some none))
    (hoth : ∀ j, j ≠ k → j ≠ r → h'[j]? = h[j]?) (hlen : h.length ≤ h'.length)
    (os : w'.os = w.os) (tape : w'.tape = w.tape) (output : w'.output = w.output) (size : w.heap.size ≤ w'.heap.size)
    (hblk : ∀ b, b < w.heap.size → b ≠ p.b → w'.heap[b]? = w.heap[b]?) (hb : p'.b = p.b ∨ w.heap.size ≤ p'.b)
    {c : Array Value} {e : TypeId} (hc : w'.heap[p'.b]? = some (.cells c e (0, 0))) (hcs : c.size = p'.bs) (hd : p'.d + x'.cells.length ≤ p'.bs)
    (hcells : ∀ (i : Nat) v, x'.cells[i]? = some v → ∃ v', c[p'.d + i]? = some v' ∧ VR ρ h v v') :
    Rel (upd ρ k p') h' w' ∧ Go1 ρ h w (upd ρ k p') h' w' := by
  have hrl : r < h.length := (List.getElem?_eq_some_iff.1 hx).1
  have ne_k : ∀ {j y q}, h[j]? = some (some y) → ρ j = some q → j ≠ r → j ≠ k := by
    intro j y q hy hq hjr hjk
    rcases hkr with ⟨e1, _⟩ | ⟨e1, _⟩
    · exact hjr (hjk.trans e1)
    · have := R.dom j q hq; omega
  have rdead : k ≠ r → h'[r]? = some none := by
    intro hne
    rcases hkr with ⟨e1, _⟩ | ⟨_, e2⟩
    · exact absurd e1 hne
    · exact e2
  have grow : k = r → x.cells.length < x'.cells.length := by
    intro he
    rcases hkr with ⟨_, e2⟩ | ⟨e1, _⟩
    · exact e2
    · omega
  have st : Step ρ h (upd ρ k p') h' := by
    refine ⟨fun j y q hy hq => ?_, fun a ⟨L, e1, hlt, hg⟩ => ⟨L, e1, by omega, fun y hy => ?_⟩⟩
    · by_cases hj : j = r
      · subst hj
        rw [hx] at hy; cases hy
        refine .inr ⟨by omega, fun y' hy' => ?_⟩
        by_cases hkj : k = j
        · subst hkj
          rw [hk] at hy'; cases hy'
          exact grow rfl
        · rw [rdead hkj] at hy'; cases hy'
      · have hjk := ne_k hy hq hj
        exact .inl ⟨y, by rw [hoth j hjk hj]; exact hy, rfl, rfl, rfl, by simp [upd, hjk, hq]⟩
    · by_cases hj : a.block = r
      · rw [hj] at hy hg
        have := hg x hx
        by_cases hkj : k = r
        · rw [← hkj, hk] at hy; cases hy
          have := grow hkj
          omega
        · rw [rdead hkj] at hy; cases hy
      · by_cases hjk : a.block = k
        · rcases hkr with ⟨e2, _⟩ | ⟨e2, _⟩
          · exact absurd (hjk.trans e2) hj
          · omega
        · rw [hoth _ hjk hj] at hy; exact hg y hy
  have old : ∀ {j y q}, h'[j]? = some (some y) → upd ρ k p' j = some q → j ≠ k → h[j]? = some (some y) ∧ ρ j = some q ∧ j ≠ r := by
    intro j y q hy hq hjk
    have hjr : j ≠ r := by
      intro he
      subst he
      rw [rdead (fun e2 => hjk e2.symm)] at hy; cases hy
    exact ⟨by rw [← hoth j hjk hjr]; exact hy, by simpa [upd, hjk] using hq, hjr⟩
  have new : ∀ {q}, upd ρ k p' k = some q → q = p' := by
    intro q hq
    simp [upd] at hq
    exact hq.symm
  have far : ∀ {j y q}, h[j]? = some (some y) → ρ j = some q → j ≠ r → (y.ro = true → y.cells ≠ []) → q.b ≠ p.b ∧ q.b < w.heap.size := by
    intro j y q hy hq hjr hyr
    exact ⟨fun e2 => R.inj r j x y p q hx hy hp hq hro (fun e3 => hjr e3.symm) hyr e2.symm, R.lt hy hq hyr⟩
  refine ⟨⟨fun j y q hy hq hyr => ?_, fun j y q hy hq hyr i v hi => ?_, fun j j' y y' q q' hy hy' hq hq' hyr hne hyr' => ?_, fun j q hq => ?_⟩, ⟨os, tape, output, size, fun b hb2 hn => hblk b hb2 (fun e2 => hn r x p hx hp hro e2.symm), fun j y q hy hq hyr => ?_, st, hlen, fun j hj e2 => by
    have hjk : j ≠ k := by
      rcases hkr with ⟨e3, _⟩ | ⟨e3, _⟩
      · intro e4; rw [e4, e3, hp] at e2; cases e2
      · omega
    simpa [upd, hjk] using e2⟩⟩
  · by_cases hjk : j = k
    · subst hjk
      rw [hk] at hy; cases hy
      obtain rfl := new hq
      exact ⟨c, e, hc, hcs, hd, fun i v hi => by obtain ⟨v', h1, h2⟩ := hcells i v hi; exact ⟨v', h1, h2.step st⟩⟩
    · obtain ⟨h1, h2, h3⟩ := old hy hq hjk
      obtain ⟨c1, e1, i1, i2, i3, i4⟩ := R.own j y q h1 h2 hyr
      obtain ⟨f1, f2⟩ := far h1 h2 h3 (fun e2 => by rw [hyr] at e2; cases e2)
      exact ⟨c1, e1, by rw [hblk _ f2 f1]; exact i1, i2, i3, fun i v hi => by obtain ⟨v', g1, g2⟩ := i4 i v hi; exact ⟨v', g1, g2.step st⟩⟩
  · by_cases hjk : j = k
    · subst hjk
      rw [hk] at hy; cases hy
      rw [hro'] at hyr; cases hyr
    · obtain ⟨h1, h2, h3⟩ := old hy hq hjk
      obtain ⟨v', g1, g2⟩ := R.ro j y q h1 h2 hyr i v hi
      obtain ⟨f1, f2⟩ := far h1 h2 h3 (fun _ e2 => by rw [e2] at hi; simp at hi)
      refine ⟨v', ?_, g2.step st⟩
      rw [← g1]
      unfold World.cell?
      rw [hblk _ f2 f1]
  · by_cases hjk : j = k
    · subst hjk
      obtain rfl := new hq
      obtain ⟨h1, h2, h3⟩ := old hy' hq' (fun e2 => hne e2.symm)
      obtain ⟨f1, f2⟩ := far h1 h2 h3 hyr'
      rcases hb with e2 | e2
      · rw [e2]; exact fun e3 => f1 e3.symm
      · omega
    · obtain ⟨h1, h2, h3⟩ := old hy hq hjk
      by_cases hjk' : j' = k
      · subst hjk'
        obtain rfl := new hq'
        obtain ⟨f1, f2⟩ := far h1 h2 h3 (fun e2 => by rw [hyr] at e2; cases e2)
        rcases hb with e2 | e2
        · rw [e2]; exact f1
        · omega
      · obtain ⟨h1', h2', h3'⟩ := old hy' hq' hjk'
        exact R.inj j j' y y' q q' h1 h1' h2 h2' hyr hne hyr'
  · by_cases hjk : j = k
    · subst hjk; exact (List.getElem?_eq_some_iff.1 hk).1
    · have : ρ j = some q := by simpa [upd, hjk] using hq
      have := R.dom j q this
      omega
  · by_cases hjk : j = k
    · subst hjk
      obtain rfl := new hq
      rcases hb with e2 | e2
      · exact .inr ⟨r, x, p, hx, hp, hro, e2.symm⟩
      · exact .inl e2
    · obtain ⟨h1, h2, h3⟩ := old hy hq hjk
      exact .inr ⟨j, y, q, h1, h2, hyr, rfl⟩

/-! ### what is appended -/
theorem len_vr {x x' : Value} {m : Nat} (hv : VR ρ h x x') (e : lenP x = some m) (w : World) : (Builtin.lenOf x').run P w = .ok m w := by
  cases x <;> simp [lenP] at e
  subst e
  cases hv <;> simp [Builtin.lenOf]

theorem run_first_some {size n : Nat} {a : Addr} {c : Nat} {l : List Value} (hl : l.length = n * size) (hc : ∀ (j : Nat) v, l[j]? = some v → w.cell? (a.add j) = some v) : (Builtin.firstCells size n (.slice (some a) n c)).run P w = .ok l.toArray w := by
  have := run_loadCells_list (P := P) w a l hc
  rw [hl] at this
  simp [Builtin.firstCells, this]

/-- The first cells of a slice, whatever the draws. -/
theorem seen_ok (R : Rel ρ h w) {size m : Nat} {x x' : Value} {ys : List Value} (hv : VR ρ h x x') (e : seenP h size x = some ys) (em : lenP x = some m) :
    ys.length = m * size ∧ ∃ ys', VL ρ h ys ys' ∧ ∀ (k d : Nat), k ≤ m → (Builtin.firstCells size k x').run P { w with drawn := d } = .ok (ys'.take (k * size)).toArray { w with drawn := d } := by
  unfold seenP at e
  split at e
  · cases e
    cases em
    cases hv
    · exact ⟨by simp, [], VL.nil, fun k d hk => by simp [Builtin.firstCells]⟩
    · exact ⟨by simp, [], VL.nil, fun k d hk => by
        have hk0 : k = 0 := by omega
        subst hk0
        simp [Builtin.firstCells, loadCells, loadCellsFrom]⟩
  · rename_i a n c
    cases em
    split at e
    · rename_i row hrow
      split at e
      · rename_i hb
        cases e
        have hlen : ((row.cells.drop a.off).take (m * size)).length = m * size := by simp; omega
        refine ⟨hlen, ?_⟩
        rcases row_slice hrow hv with ⟨p, c', h1, h2, rfl, h3, h4, h5⟩ | ⟨rfl, rfl, a', p, rfl, i1, i2⟩
        · obtain ⟨l', hl, hc⟩ := R.seg h1 h2 a.off (m * size)
          refine ⟨l', hl, fun k d hk => ?_⟩
          have hkl : (l'.take (k * size)).length = k * size := by
            have := hl.1
            have := Nat.mul_le_mul_right size hk
            simp; omega
          have := run_loadCells_list (P := P) { w with drawn := d } ⟨p.b, p.d + a.off, none⟩ (l'.take (k * size)) (fun j v hj => by
            rw [List.getElem?_take] at hj
            split at hj
            · exact hc j v hj
            · cases hj)
          rw [hkl] at this
          simp [Builtin.firstCells, this]
        · refine ⟨[], by simpa using VL.nil, fun k d hk => ?_⟩
          have hk0 : k = 0 := by omega
          subst hk0
          simp [Builtin.firstCells, loadCells, loadCellsFrom]
      · cases e
    · cases e
  · cases e

theorem run_app_room {t ty e : TypeId} {i : TypeInfo} (ht : P.underlying t = some (.slice e)) (hi : P.info? e = some i) {base : Option Addr} {sLen sCap m : Nat} {x' : Value} {news : List Value}
    (hm : ∀ w : World, (Builtin.lenOf x').run P w = .ok m w) (hf : (Builtin.firstCells i.size m x').run P w = .ok news.toArray w) (hroom : sLen + m ≤ sCap) {w' : World}
    (hst : ∀ a, base = some a → (storeCells (a.add (sLen * i.size)) news).run P w = .ok () w') (hn : base = none → w' = w) :
    (Builtin.append_ #[t, t] ty #[.slice base sLen sCap, x']).run P w = .ok (.slice base (sLen + m) sCap) w' := by
  cases base with
  | none => have := hn rfl; subst this; simp [Builtin.append_, run_underlying ht, run_size hi, hm, hroom, hf]
  | some a => simp [Builtin.append_, run_underlying ht, run_size hi, hm, hroom, hf, hst a rfl]

theorem run_app_grow {t ty e : TypeId} {i : TypeInfo} {z : Value} (ht : P.underlying t = some (.slice e)) (hi : P.info? e = some i) (hz : i.zero = some z) {base : Option Addr} {sLen sCap m : Nat} {x' : Value} {news olds : List Value}
    (hm : ∀ w : World, (Builtin.lenOf x').run P w = .ok m w) (hf : (Builtin.firstCells i.size m x').run P w.drew = .ok news.toArray w.drew) (ho : (Builtin.firstCells i.size sLen (.slice base sLen sCap)).run P w.drew = .ok olds.toArray w.drew)
    (hg : sCap < sLen + m) (hby : 0 < i.bytes) (hb : (sLen + m) * i.bytes ≤ 2 ^ 47) :
    (Builtin.append_ #[t, t] ty #[.slice base sLen sCap, x']).run P w =
      .ok (.slice (some ⟨w.heap.size, 0, none⟩) (sLen + m) (grownCap w (sLen + m) sCap e))
        (w.drew.alloc (.cells (olds ++ news ++ (Builtin.zeroCells z.cells (grownCap w (sLen + m) sCap e - (sLen + m))).toList).toArray e)) := by
  have hn : ¬ (sLen + m ≤ sCap) := by omega
  have hnb : ¬ i.bytes = 0 := by omega
  have hfit := growslice_fits (need := sLen + m) (old := sCap) (bytes := i.bytes) hg (by simpa using hb)
  have h48' : ¬ (281474976710656 < Builtin.nextslicecap (sLen + m) sCap * i.bytes) := by omega
  simp [Builtin.append_, run_underlying ht, run_size hi, run_info hi, hm, hn, hnb, h48', Question.forced, hf, ho, run_zero hi hz, newRow, grownCap]
  congr 2
  apply Array.ext'
  simp [List.append_assoc]
end Go.Pm

/- append and copy, whole. -/
set_option linter.unusedVariables false
set_option linter.unusedSimpArgs false
namespace Go.Pm
variable {P : Program} {ρ : Mp} {h : Hp} {w : World}

/-- A new row in a block that may be longer. -/
theorem Rel.newc (R : Rel ρ h w) {l : List Value} {c : Array Value} (hl : l.length ≤ c.size) (hc : ∀ (i : Nat) v, l[i]? = some v → ∃ v', c[i]? = some v' ∧ VR ρ h v v') (sz : Nat) (e : TypeId) :
    Rel (upd ρ h.length ⟨w.heap.size, 0, c.size⟩) (h ++ [some ⟨l, sz, false⟩]) (w.alloc (.cells c e)) ∧
    Go1 ρ h w (upd ρ h.length ⟨w.heap.size, 0, c.size⟩) (h ++ [some ⟨l, sz, false⟩]) (w.alloc (.cells c e)) := by
  have st := step_new R ⟨l, sz, false⟩ ⟨w.heap.size, 0, c.size⟩
  have old : ∀ r p, upd ρ h.length ⟨w.heap.size, 0, c.size⟩ r = some p → r < h.length → ρ r = some p := by
    intro r p hp hr
    simpa [upd, Nat.ne_of_lt hr] using hp
  have new : ∀ p, upd ρ h.length ⟨w.heap.size, 0, c.size⟩ h.length = some p → p = ⟨w.heap.size, 0, c.size⟩ := by
    intro p hp
    simp [upd] at hp
    exact hp.symm
  have blk : ∀ b, b < w.heap.size → (w.alloc (.cells c e)).heap[b]? = w.heap[b]? := by
    intro b hb
    show (w.heap.push _)[b]? = _
    rw [Array.getElem?_push, if_neg (by omega)]
  have newb : (w.alloc (.cells c e)).heap[w.heap.size]? = some (.cells c e) := by
    show (w.heap.push _)[w.heap.size]? = _
    simp
  refine ⟨⟨fun r x p hx hp hr => ?_, fun r x p hx hp hr i v hi => ?_, fun r r' x x' p p' hx hx' hp hp' hr hne hro => ?_, fun r p hp => ?_⟩, ⟨rfl, rfl, rfl, by simp, fun b hb _ => blk b hb, fun r x p hx hp hr => ?_, st, by simp, fun r hr e => by simpa [upd, Nat.ne_of_lt hr] using e⟩⟩
  · rcases get_app hx with ⟨hlt, h1⟩ | ⟨rfl, h1⟩
    · obtain ⟨c1, t, hb, h2, h3, h4⟩ := R.own r x p h1 (old r p hp hlt) hr
      refine ⟨c1, t, by rw [blk _ (Array.getElem?_eq_some_iff.1 hb).1]; exact hb, h2, h3, fun i v hi => ?_⟩
      obtain ⟨v', h5, h6⟩ := h4 i v hi
      exact ⟨v', h5, h6.step st⟩
    · obtain rfl := new p hp
      obtain rfl : x = ⟨l, sz, false⟩ := Option.some.inj h1
      refine ⟨c, e, newb, rfl, by simpa using hl, fun i v hi => ?_⟩
      obtain ⟨v', h2, h3⟩ := hc i v hi
      exact ⟨v', by simpa using h2, h3.step st⟩
  · rcases get_app hx with ⟨hlt, h1⟩ | ⟨rfl, h1⟩
    · obtain ⟨v', h5, h6⟩ := R.ro r x p h1 (old r p hp hlt) hr i v hi
      exact ⟨v', by rw [World.cell?_alloc_lt w _ _ (World.block_lt_of_cell? w _ h5)]; exact h5, h6.step st⟩
    · obtain rfl : x = ⟨l, sz, false⟩ := Option.some.inj h1
      cases hr
  · rcases get_app hx with ⟨hlt, h1⟩ | ⟨rfl, h1⟩
    · rcases get_app hx' with ⟨hlt', h1'⟩ | ⟨rfl, h1'⟩
      · exact R.inj r r' x x' p p' h1 h1' (old r p hp hlt) (old r' p' hp' hlt') hr hne hro
      · obtain rfl := new p' hp'
        have := R.lt h1 (old r p hp hlt) (fun h => by rw [hr] at h; cases h)
        show p.b ≠ w.heap.size
        omega
    · rcases get_app hx' with ⟨hlt', h1'⟩ | ⟨rfl, h1'⟩
      · obtain rfl := new p hp
        have := R.lt h1' (old r' p' hp' hlt') hro
        show w.heap.size ≠ p'.b
        omega
      · exact absurd rfl hne
  · by_cases hr : r = h.length
    · simp; omega
    · have : ρ r = some p := by simpa [upd, hr] using hp
      have := R.dom r p this
      simp; omega
  · rcases get_app hx with ⟨hlt, h1⟩ | ⟨rfl, h1⟩
    · exact .inr ⟨r, x, p, h1, old r p hp hlt, hr, rfl⟩
    · obtain rfl := new p hp
      exact .inl (Nat.le_refl _)

/-- What a new block of append's holds. -/
theorem app_cells {z : Value} {zs zs' : List Value} (hv : VL ρ h zs zs') (m : Nat) : ∀ (i : Nat) v, zs[i]? = some v → ∃ v', (zs' ++ (Builtin.zeroCells z.cells m).toList).toArray[0 + i]? = some v' ∧ VR ρ h v v' := by
  intro i v hi
  have hlt : i < zs'.length := by have := (List.getElem?_eq_some_iff.1 hi).1; have := hv.1; omega
  refine ⟨zs'[i], ?_, hv.2 i v _ hi (List.getElem?_eq_getElem hlt)⟩
  simp [List.getElem?_append_left hlt, hlt]

theorem app_tail (R : Rel ρ h w) {t ty e : TypeId} {q : TypeInfo} {z : Value} (ht : P.underlying t = some (.slice e)) (hi : P.info? e = some q) (hz : q.zero = some z) (hzs : z.cells.size = q.size) (hq : 0 < q.size) (hby : 0 < q.bytes)
    {a : Addr} {x : Row} {n c : Nat} {s' : Value} (hrow : rowAt h a = some x) (hs : VR ρ h (.slice (some a) n c) s') (hro : x.ro = false) (hsz : x.sz = q.size) (hcl : a.off + c * q.size ≤ x.cells.length)
    {x' : Value} {m : Nat} {ys ys' : List Value} (hgt : c < n + m) (hb : (n + m) * q.bytes ≤ 2 ^ 47) (hy : VL ρ h ys ys') (hone : ys.all Pm.one = true) (hyl : ys.length = m * q.size)
    (hm : ∀ w : World, (Builtin.lenOf x').run P w = .ok m w) (hf : ∀ d, (Builtin.firstCells q.size m x').run P { w with drawn := d } = .ok ys'.toArray { w with drawn := d })
    {k : Nat} {h' : Hp} (hk : h'[k]? = some (some ⟨(x.cells.drop a.off).take (n * q.size) ++ ys, q.size, false⟩))
    (hkr : (k = a.block ∧ x.cells.length < ((x.cells.drop a.off).take (n * q.size) ++ ys).length) ∨ (k = h.length ∧ h'[a.block]? = some none))
    (hoth : ∀ j, j ≠ k → j ≠ a.block → h'[j]? = h[j]?) (hlen : h.length ≤ h'.length) :
    ∃ r' w' ρ', (Builtin.append_ #[t, t] ty #[s', x']).run P w = .ok r' w' ∧ VR ρ' h' (.slice (some ⟨k, 0, some ((x.cells.drop a.off).take (n * q.size) ++ ys).length⟩) (n + m) (n + m)) r' ∧ Rel ρ' h' w' ∧ Go1 ρ h w ρ' h' w' := by
  have hyl' : ys'.length = m * q.size := by rw [← hy.1]; exact hyl
  have hbl : (rowAt h a).isSome := by rw [hrow]; rfl
  obtain ⟨hspot, hx⟩ := rowAt_spot hrow
  -- a new block
  have fresh : ∀ (base : Option Addr) (cap : Nat) (olds : List Value), VL ρ h ((x.cells.drop a.off).take (n * q.size)) olds → ((x.cells.drop a.off).take (n * q.size)).length = n * q.size → (∃ p, ρ a.block = some p) → cap < n + m →
      (Builtin.firstCells q.size n (.slice base n cap)).run P w.drew = .ok olds.toArray w.drew →
      ∃ r' w' ρ', (Builtin.append_ #[t, t] ty #[.slice base n cap, x']).run P w = .ok r' w' ∧ VR ρ' h' (.slice (some ⟨k, 0, some ((x.cells.drop a.off).take (n * q.size) ++ ys).length⟩) (n + m) (n + m)) r' ∧ Rel ρ' h' w' ∧ Go1 ρ h w ρ' h' w' := by
    intro base cap olds ho hol ⟨p, hp⟩ hcap hfo
    have hrun := run_app_grow (P := P) (w := w) (ty := ty) ht hi hz hm (hf (w.drawn + 1)) hfo hcap hby hb
    have hge := grownCap_ge w (n + m) cap e
    have hol' : olds.length = n * q.size := by rw [← ho.1]; exact hol
    have hsize : (olds ++ ys' ++ (Builtin.zeroCells z.cells (grownCap w (n + m) cap e - (n + m))).toList).toArray.size = grownCap w (n + m) cap e * q.size := by
      simp only [List.size_toArray, List.length_append, Array.length_toList, size_zeroCells, hol', hyl', hzs]
      rw [← Nat.add_mul, ← Nat.add_mul]
      congr 1
      omega
    have hzl : ((x.cells.drop a.off).take (n * q.size) ++ ys).length = (n + m) * q.size := by rw [List.length_append, hol, hyl, Nat.add_mul]
    obtain ⟨R', G⟩ := R.regrow (p' := ⟨w.heap.size, 0, grownCap w (n + m) cap e * q.size⟩) (w' := w.drew.alloc (.cells (olds ++ ys' ++ (Builtin.zeroCells z.cells (grownCap w (n + m) cap e - (n + m))).toList).toArray e)) hx hp hro (x' := ⟨(x.cells.drop a.off).take (n * q.size) ++ ys, q.size, false⟩) rfl hk hkr hoth hlen rfl rfl rfl (by simp)
      (fun b hb1 _ => by show (w.heap.push _)[b]? = _; rw [Array.getElem?_push, if_neg (by omega)]) (.inr (Nat.le_refl _))
      (c := (olds ++ ys' ++ (Builtin.zeroCells z.cells (grownCap w (n + m) cap e - (n + m))).toList).toArray) (e := e) (by show (w.heap.push _)[w.heap.size]? = _; simp) hsize (by simp only [Nat.zero_add]; rw [hzl]; exact Nat.mul_le_mul_right _ hge)
      (app_cells (ho.append hy) _)
    refine ⟨_, _, _, hrun, ?_, R', G⟩
    have := VR.sl (ρ := upd ρ k ⟨w.heap.size, 0, grownCap w (n + m) cap e * q.size⟩) (h := h') k 0 ⟨(x.cells.drop a.off).take (n * q.size) ++ ys, q.size, false⟩ ⟨w.heap.size, 0, grownCap w (n + m) cap e * q.size⟩ (n + m) (n + m) (grownCap w (n + m) cap e) hk (by simp [upd]) (Nat.le_refl _) hge (fun _ => by simp)
    simpa using this
  rcases row_slice hrow hs with ⟨p, c', h1, hp, rfl, hnc, hcc, hbd⟩ | ⟨rfl, rfl, a', p, rfl, i1, i2⟩
  · have hbd := hbd hro
    rw [hsz] at hbd
    have hnl : ((x.cells.drop a.off).take (n * q.size)).length = n * q.size := by
      have := Nat.mul_le_mul_right q.size hnc
      simp; omega
    obtain ⟨olds, ho, hoc⟩ := R.seg hx hp a.off (n * q.size)
    by_cases hroom : n + m ≤ c'
    · -- in place
      obtain ⟨cc, te, hb1, hb2, hb3, hb4⟩ := R.own a.block x p hx hp hro
      have hmul := Nat.mul_le_mul_right q.size hroom
      rw [Nat.add_mul] at hmul
      have hst := run_storeCells_at P p.b (p.d + a.off + n * q.size) te ys' 0 cc w hb1 (by omega) (hy.one hone)
      have hrun := run_app_room (P := P) (w := w) (ty := ty) ht hi (base := some ⟨p.b, p.d + a.off, none⟩) (sLen := n) (sCap := c') hm (hf w.drawn) hroom (fun a1 ha1 => by cases ha1; rw [add_none]; exact hst) (fun hh => by cases hh)
      simp only [Nat.add_zero] at hrun
      obtain ⟨R', G⟩ := R.regrow (p' := ⟨p.b, p.d + a.off, p.bs⟩) (w' := w.setRow p.b (cc.toList.take (p.d + a.off + n * q.size) ++ ys' ++ cc.toList.drop (p.d + a.off + n * q.size + ys'.length)).toArray) hx hp hro (x' := ⟨(x.cells.drop a.off).take (n * q.size) ++ ys, q.size, false⟩) rfl hk hkr hoth hlen rfl rfl rfl (by simp [World.setRow])
        (fun b hb5 hb6 => setRow_other w p.b b _ hb6) (.inl rfl) (setRow_heap w p.b cc _ te _ hb1) (by simp; omega) (by simp only [List.length_append, hnl, hyl]; omega)
        (fun i v hi2 => by
          simp only [List.getElem?_toArray]
          rcases Nat.lt_or_ge i (n * q.size) with hlt | hge
          · rw [List.getElem?_append_left (by omega)] at hi2
            have hi3 : x.cells[a.off + i]? = some v := by
              rw [List.getElem?_take, if_pos hlt, List.getElem?_drop] at hi2
              exact hi2
            obtain ⟨v', g1, g2⟩ := hb4 _ v hi3
            refine ⟨v', ?_, g2⟩
            rw [← g1, List.append_assoc, List.getElem?_append_left (by simp; omega), List.getElem?_take, if_pos (by omega), Nat.add_assoc]
            simp
          · rw [List.getElem?_append_right (by omega), hnl] at hi2
            have hlt2 : i - n * q.size < ys'.length := by have := (List.getElem?_eq_some_iff.1 hi2).1; omega
            refine ⟨ys'[i - n * q.size], ?_, hy.2 _ v _ hi2 (List.getElem?_eq_getElem hlt2)⟩
            rw [List.append_assoc, List.getElem?_append_right (by simp; omega), List.getElem?_append_left (by simp; omega)]
            simp only [List.length_take, Array.length_toList]
            rw [show p.d + a.off + i - min (p.d + a.off + n * q.size) cc.size = i - n * q.size by omega]
            exact List.getElem?_eq_getElem hlt2)
      refine ⟨_, _, _, hrun, ?_, R', G⟩
      have := VR.sl (ρ := upd ρ k ⟨p.b, p.d + a.off, p.bs⟩) (h := h') k 0 ⟨(x.cells.drop a.off).take (n * q.size) ++ ys, q.size, false⟩ ⟨p.b, p.d + a.off, p.bs⟩ (n + m) (n + m) c' hk (by simp [upd]) (Nat.le_refl _) hroom (fun _ => by simpa using hbd)
      simpa using this
    · refine fresh _ _ olds ho hnl ⟨p, hp⟩ (by omega) ?_
      exact run_first_some (P := P) (w := w.drew) (by rw [← ho.1]; exact hnl) hoc
  · refine fresh _ _ [] (by simpa using VL.nil) (by simp) ⟨p, i2⟩ (by omega) ?_
    simp [Builtin.firstCells, loadCells, loadCellsFrom]

theorem set_same {α : Type} {l : List α} {i : Nat} {x : α} (hx : l[i]? = some x) : l.set i x = l := by
  apply List.ext_getElem?
  intro j
  rw [List.getElem?_set]
  split
  · rename_i e
    subst e
    have := (List.getElem?_eq_some_iff.1 hx).1
    rw [if_pos this]
    exact hx.symm
  · rfl

theorem append_ok (R : Rel ρ h w) {t ty : TypeId} {s s' x x' r : Value} {h' : Hp} (hs : VR ρ h s s') (hx : VR ρ h x x') (e : appendP P h t s x = some (r, h')) :
    ∃ r' w' ρ', (Builtin.append_ #[t, t] ty #[s', x']).run P w = .ok r' w' ∧ VR ρ' h' r r' ∧ Rel ρ' h' w' ∧ Go1 ρ h w ρ' h' w' := by
  unfold appendP at e
  split at e
  · rename_i eT ht
    split at e
    · rename_i q z m hi hz hm
      obtain ⟨i, hi', hz', hp, hzs⟩ := zero_of hz
      rw [hi] at hi'; cases hi'
      split at e
      · rename_i ys hys
        obtain ⟨hyl, ys', hy, hf⟩ := seen_ok (P := P) R hx hys hm
        have hlen := fun w => len_vr (P := P) hx hm w
        have hyl' : ys'.length = m * q.size := by rw [← hy.1]; exact hyl
        have hf2 : ∀ d, (Builtin.firstCells q.size m x').run P { w with drawn := d } = .ok ys'.toArray { w with drawn := d } := by
          intro d
          have := hf m d (Nat.le_refl _)
          rwa [List.take_of_length_le (by omega)] at this
        split at e
        · rename_i hc
          obtain ⟨hq, hby, hone⟩ := hc
          split at e
          · -- nil
            obtain ⟨base, rfl⟩ : ∃ base, s' = .slice base 0 0 := by
              cases hs
              · exact ⟨none, rfl⟩
              · exact ⟨some _, rfl⟩
            split at e
            · rename_i h0
              cases e
              subst h0
              have hy0 : ys' = [] := List.eq_nil_of_length_eq_zero (by omega)
              subst hy0
              exact ⟨_, w, ρ, run_app_room (P := P) (w := w) (ty := ty) ht hi (base := base) (sLen := 0) (sCap := 0) hlen (hf2 w.drawn) (by omega) (fun a ha => by simp [storeCells]) (fun _ => rfl), hs, R, Go1.refl _ _ _⟩
            · rename_i h0
              split at e
              · rename_i hb
                simp only [Option.some.injEq, Prod.mk.injEq] at e
                obtain ⟨rfl, rfl⟩ := e
                have hrun := run_app_grow (P := P) (w := w) (ty := ty) ht hi hz' (base := base) (sLen := 0) (sCap := 0) (olds := []) hlen (hf2 (w.drawn + 1)) (by cases base <;> simp [Builtin.firstCells, loadCells, loadCellsFrom]) (by omega) hby (by simpa using hb)
                simp only [Nat.zero_add, List.nil_append] at hrun
                have hge := grownCap_ge w m 0 eT
                have hsize : (ys' ++ (Builtin.zeroCells z.cells (grownCap w m 0 eT - m)).toList).toArray.size = grownCap w m 0 eT * q.size := by
                  simp only [List.size_toArray, List.length_append, Array.length_toList, size_zeroCells, hyl', hzs]
                  rw [← Nat.add_mul]
                  congr 1
                  omega
                obtain ⟨R', G⟩ := (R.drew (w.drawn + 1)).newc (l := ys) (c := (ys' ++ (Builtin.zeroCells z.cells (grownCap w m 0 eT - m)).toList).toArray) (by rw [hsize, hyl]; exact Nat.mul_le_mul_right _ hge) (fun i v hi2 => by simpa using app_cells (z := z) hy _ i v hi2) q.size eT
                refine ⟨_, _, _, hrun, ?_, R', (Go1.drew ρ h w (w.drawn + 1)).trans G⟩
                have := VR.sl (ρ := upd ρ h.length ⟨w.heap.size, 0, (ys' ++ (Builtin.zeroCells z.cells (grownCap w m 0 eT - m)).toList).toArray.size⟩) (h := h ++ [some ⟨ys, q.size, false⟩]) h.length 0 ⟨ys, q.size, false⟩ ⟨w.heap.size, 0, (ys' ++ (Builtin.zeroCells z.cells (grownCap w m 0 eT - m)).toList).toArray.size⟩ m m (grownCap w m 0 eT) (by simp) (by simp [upd]) (Nat.le_refl _) hge (fun _ => by rw [hsize]; simp)
                simpa [newP] using this
              · cases e
          · rename_i a n c
            split at e
            · rename_i row hrow
              split at e
              · rename_i hcond
                obtain ⟨hro, hrs, hcl, hb⟩ := hcond
                obtain ⟨hspot, hx0⟩ := rowAt_spot hrow
                split at e
                · -- in place
                  rename_i hroom
                  simp only [Option.some.injEq, Prod.mk.injEq] at e
                  obtain ⟨rfl, rfl⟩ := e
                  rcases row_slice hrow hs with ⟨p, c', h1, hp2, rfl, hnc, hcc, hbd⟩ | ⟨rfl, rfl, a', p, rfl, i1, i2⟩
                  · have hmul := Nat.mul_le_mul_right q.size hroom
                    rw [Nat.add_mul] at hmul
                    obtain ⟨w', hst, R', G⟩ := R.store (P := P) h1 hp2 hro hy hone (a.off + n * q.size) (by omega)
                    have hrun := run_app_room (P := P) (w := w) (ty := ty) ht hi (base := some ⟨p.b, p.d + a.off, none⟩) (sLen := n) (sCap := c') hlen (hf2 w.drawn) (by omega) (w' := w') (fun a1 ha1 => by cases ha1; rw [add_none, Nat.add_assoc]; exact hst) (fun hh => by cases hh)
                    refine ⟨_, w', ρ, hrun, ?_, R', G⟩
                    have := VR.sl (ρ := ρ) (h := h) a.block a.off row p (n + m) c c' h1 hp2 hroom hcc hbd
                    rw [← hspot] at this
                    exact this.step G.step
                  · have hm0 : m = 0 := by omega
                    subst hm0
                    have hys0 : ys = [] := List.eq_nil_of_length_eq_zero (by omega)
                    have hy0 : ys' = [] := List.eq_nil_of_length_eq_zero (by omega)
                    subst hys0; subst hy0
                    rw [show ({ row with cells := splice row.cells (a.off + 0 * q.size) [] } : Row) = row from rfl, set_same hx0]
                    refine ⟨_, w, ρ, run_app_room (P := P) (w := w) (ty := ty) ht hi (base := some a') (sLen := 0) (sCap := 0) hlen (hf2 w.drawn) (by omega) (w' := w) (fun a1 ha1 => by cases ha1; simp [storeCells]) (fun _ => rfl), ?_, R, Go1.refl _ _ _⟩
                    have := VR.slZero (ρ := ρ) (h := h) a.block a.off row p a' i1 i2
                    rw [← hspot] at this
                    exact this
                · rename_i hnroom
                  split at e
                  · -- grown at its end
                    rename_i hend
                    obtain ⟨h0, hend⟩ := hend
                    simp only [Option.some.injEq, Prod.mk.injEq] at e
                    obtain ⟨rfl, rfl⟩ := e
                    have hzs2 : (row.cells.drop a.off).take (n * q.size) ++ ys = row.cells ++ ys := by rw [h0, List.drop_zero, List.take_of_length_le (by omega)]
                    have hlt : a.block < h.length := (List.getElem?_eq_some_iff.1 hx0).1
                    have hm1 : 0 < m * q.size := by
                      refine Nat.mul_pos ?_ hq
                      rcases Nat.eq_zero_or_pos m with hm0 | hm0
                      · exfalso
                        subst hm0
                        have : c * q.size ≤ n * q.size := by omega
                        have := Nat.le_of_mul_le_mul_right this hq
                        rcases row_slice hrow hs with ⟨p, c', _, _, _, hnc, _, _⟩ | ⟨rfl, rfl, _⟩ <;> omega
                      · exact hm0
                    have := app_tail (P := P) R (ty := ty) ht hi hz' hzs hq hby hrow hs hro hrs hcl (by omega) hb hy hone hyl hlen hf2 (k := a.block) (h' := h.set a.block (some { row with cells := row.cells ++ ys })) (by rw [hzs2, ← hrs]; simp [hlt, hro]) (.inl ⟨rfl, by rw [hzs2]; simp; omega⟩)
                      (fun j hj _ => by rw [List.getElem?_set_ne (fun e2 => hj e2.symm)]) (by simp)
                    rw [hzs2] at this
                    exact this
                  · rename_i hnend
                    simp only [Option.some.injEq, Prod.mk.injEq] at e
                    obtain ⟨rfl, rfl⟩ := e
                    have hlt : a.block < h.length := (List.getElem?_eq_some_iff.1 hx0).1
                    have := app_tail (P := P) R (ty := ty) ht hi hz' hzs hq hby hrow hs hro hrs hcl (by omega) hb hy hone hyl hlen hf2 (k := h.length) (h' := h.set a.block none ++ [some ⟨(row.cells.drop a.off).take (n * q.size) ++ ys, q.size, false⟩]) (by rw [List.getElem?_append_right (by simp)]; simp) (.inr ⟨rfl, by rw [List.getElem?_append_left (by simpa using hlt)]; simp [hlt]⟩)
                      (fun j hj hj2 => by
                        rcases Nat.lt_or_ge j h.length with hl | hl
                        · rw [List.getElem?_append_left (by simpa using hl), List.getElem?_set_ne (fun e2 => hj2 e2.symm)]
                        · rw [List.getElem?_append_right (by simpa using hl), List.getElem?_eq_none (by simp; omega), List.getElem?_eq_none (by omega)]) (by simp)
                    simpa [newP] using this
              · cases e
            · cases e
          · cases e
        · cases e
      · cases e
    · cases e
  · cases e
end Go.Pm

/- The builtins; all operations that call nothing. -/
set_option linter.unusedVariables false
set_option linter.unusedSimpArgs false
namespace Go.Pm
variable {P : Program} {ρ : Mp} {h : Hp} {w : World}

theorem all_take {l : List Value} (n : Nat) (e : l.all Pm.one = true) : (l.take n).all Pm.one = true := by
  rw [List.all_eq_true] at *
  exact fun v hv => e v (List.mem_of_mem_take hv)

theorem copy_ok (R : Rel ρ h w) {t u ty : TypeId} {d d' x x' r : Value} {h' : Hp} (hd : VR ρ h d d') (hx : VR ρ h x x') (e : copyP P h t d x = some (r, h')) :
    ∃ r' w', (Builtin.copy_ #[t, u] ty #[d', x']).run P w = .ok r' w' ∧ VR ρ h' r r' ∧ Rel ρ h' w' ∧ Go1 ρ h w ρ h' w' := by
  unfold copyP at e
  split at e
  · rename_i eT n m ht hn hm
    split at e
    · rename_i q hi
      have hlen := fun w => len_vr (P := P) hx hm w
      split at e
      · rename_i y hys
        cases e
        obtain ⟨hyl, ys', hy, hf⟩ := seen_ok (P := P) R hx hys hm
        have h0 := hf 0 w.drawn (Nat.zero_le _)
        simp only [Nat.zero_mul, List.take_zero] at h0
        cases hd
        · exact ⟨.int .i64 0, w, by simp [Builtin.copy_, run_underlying ht, hlen, run_size hi, h0, goInt], .int _ _, R, Go1.refl _ _ _⟩
        · exact ⟨.int .i64 0, w, by simp [Builtin.copy_, run_underlying ht, hlen, run_size hi, h0, goInt, storeCells], .int _ _, R, Go1.refl _ _ _⟩
      · rename_i a n' c ys hys
        cases hn
        split at e
        · rename_i row hrow
          split at e
          · rename_i hc
            obtain ⟨hro, hrs, hcl, hone⟩ := hc
            simp only [Option.some.injEq, Prod.mk.injEq] at e
            obtain ⟨rfl, rfl⟩ := e
            obtain ⟨hyl, ys', hy, hf⟩ := seen_ok (P := P) R hx hys hm
            obtain ⟨hspot, hx0⟩ := rowAt_spot hrow
            have h0 := hf (min m n) w.drawn (Nat.min_le_left _ _)
            have hle := Nat.mul_le_mul_right q.size (Nat.min_le_right m n)
            rcases row_slice hrow hd with ⟨p, c', h1, hp2, rfl, hnc, hcc, hbd⟩ | ⟨rfl, rfl, a', p, rfl, i1, i2⟩
            · obtain ⟨w', hst, R', G⟩ := R.store (P := P) h1 hp2 hro (hy.take (min m n * q.size)) (all_take _ hone) a.off (by simp; omega)
              refine ⟨_, w', ?_, .int _ _, R', G⟩
              have h0' : (Builtin.firstCells q.size (m.min n) x').run P w = .ok (ys'.take (min m n * q.size)).toArray w := h0
              simp [Builtin.copy_, run_underlying ht, hlen, run_size hi, h0', hst, goInt]
            · refine ⟨_, w, ?_, .int _ _, ?_, ?_⟩
              · have h0' : (Builtin.firstCells q.size (m.min 0) x').run P w = .ok (ys'.take (min m 0 * q.size)).toArray w := h0
                simp only [Nat.min_zero, Nat.zero_mul, List.take_zero] at h0'
                simp [Builtin.copy_, run_underlying ht, hlen, run_size hi, h0', goInt, storeCells]
              · simp only [Nat.min_zero, Nat.zero_mul, List.take_zero]
                rw [show ({ row with cells := splice row.cells a.off [] } : Row) = row from rfl, set_same hx0]; exact R
              · simp only [Nat.min_zero, Nat.zero_mul, List.take_zero]
                rw [show ({ row with cells := splice row.cells a.off [] } : Row) = row from rfl, set_same hx0]; exact Go1.refl _ _ _
          · cases e
        · cases e
      · cases e
    · cases e
  · cases e

theorem lenB_ok {t : TypeId} {ts : List TypeId} {x x' r : Value} {l : List Value} {ty : TypeId} (hx : VR ρ h x x') (e : lenB P t x = some r) : (Builtin.len_ (t :: ts).toArray ty (x' :: l).toArray).run P w = .ok r w ∧ VR ρ h r r := by
  unfold lenB at e
  split at e
  · rename_i s hu
    cases hx; cases e
    exact ⟨by simp [Builtin.len_, run_underlying hu, goInt], .int _ _⟩
  · rename_i n el hu
    cases e
    refine ⟨?_, .int _ _⟩
    simp [Builtin.len_, run_underlying hu, goInt]
  · rename_i el a n c hu
    cases e
    refine ⟨?_, .int _ _⟩
    cases hx <;> simp [Builtin.len_, run_underlying hu, goInt]
  · cases e

theorem fold_max : ∀ (l l' : List Value) (a r : Int), VL ρ h l l' → foldI (fun x y => if y > x then y else x) a l = some r → (l'.foldlM Builtin.max2 (.int .i64 a)).run P w = .ok (.int .i64 r) w
  | [], l', a, r, hl, e => by rw [hl.nil_left]; cases e; simp
  | x :: l, l', a, r, hl, e => by
    obtain ⟨x', m', rfl, h1, h2⟩ := hl.head
    cases x <;> try (cases e; done)
    rename_i k n
    cases k <;> try (cases e; done)
    cases h1
    simp only [foldI] at e
    simp [Builtin.max2]
    simpa using fold_max l m' _ r h2 e
theorem fold_min : ∀ (l l' : List Value) (a r : Int), VL ρ h l l' → foldI (fun x y => if y < x then y else x) a l = some r → (l'.foldlM Builtin.min2 (.int .i64 a)).run P w = .ok (.int .i64 r) w
  | [], l', a, r, hl, e => by rw [hl.nil_left]; cases e; simp
  | x :: l, l', a, r, hl, e => by
    obtain ⟨x', m', rfl, h1, h2⟩ := hl.head
    cases x <;> try (cases e; done)
    rename_i k n
    cases k <;> try (cases e; done)
    cases h1
    simp only [foldI] at e
    simp [Builtin.min2]
    simpa using fold_min l m' _ r h2 e

theorem builtin_ok (R : Rel ρ h w) {b : Builtin} {ts : List TypeId} {args args' : List Value} {r : Value} {h' : Hp} (ha : VL ρ h args args') (e : builtinP P h b ts args = some (r, h')) (ty : TypeId) (cs : Array Bool) :
    Ok P ρ h w ((Go.builtin b ts.toArray ty cs args'.toArray).run P w) r h' := by
  unfold builtinP at e
  split at e
  · rename_i t ts x l
    obtain ⟨v, hv, e⟩ := Option.map_eq_some_iff.1 e
    cases e
    obtain ⟨x', l', rfl, h1, _⟩ := ha.head
    obtain ⟨h2, h3⟩ := lenB_ok (P := P) (w := w) (ts := ts) (l := l') (ty := ty) h1 hv
    exact Ok.same R (by simp only [Go.builtin, Sem.run_bind, h2, Result.andThen_ok, Sem.run_pure]) h3
  · rename_i t u s x
    split at e
    · rename_i htu
      subst htu
      obtain ⟨s', l', rfl, h1, h2⟩ := ha.head
      obtain ⟨x', l'', rfl, h3, h4⟩ := h2.head
      rw [h4.nil_left]
      obtain ⟨r', w', ρ', hr, hv, R', G⟩ := append_ok (P := P) (ty := ty) R h1 h3 e
      exact ⟨r', w', ρ', .inl (by simp only [Go.builtin, Sem.run_bind, hr, Result.andThen_ok, Sem.run_pure]), hv, R', G⟩
    · cases e
  · rename_i t u d x
    obtain ⟨s', l', rfl, h1, h2⟩ := ha.head
    obtain ⟨x', l'', rfl, h3, h4⟩ := h2.head
    rw [h4.nil_left]
    obtain ⟨r', w', hr, hv, R', G⟩ := copy_ok (P := P) (u := u) (ty := ty) R h1 h3 e
    exact ⟨r', w', ρ, .inl (by simp only [Go.builtin, Sem.run_bind, hr, Result.andThen_ok, Sem.run_pure]), hv, R', G⟩
  · rename_i a l
    obtain ⟨v, hv, e⟩ := Option.map_eq_some_iff.1 e
    cases e
    obtain ⟨x', l', rfl, h1, h2⟩ := ha.head
    cases h1
    have := fold_max (P := P) (w := w) l l' a v h2 hv
    exact Ok.same R (by simp only [Go.builtin, Builtin.max_, Sem.run_bind, this, Result.andThen_ok, Sem.run_pure]) (.int _ _)
  · rename_i a l
    obtain ⟨v, hv, e⟩ := Option.map_eq_some_iff.1 e
    cases e
    obtain ⟨x', l', rfl, h1, h2⟩ := ha.head
    cases h1
    have := fold_min (P := P) (w := w) l l' a v h2 hv
    exact Ok.same R (by simp only [Go.builtin, Builtin.min_, Sem.run_bind, this, Result.andThen_ok, Sem.run_pure]) (.int _ _)
  · cases e

theorem evParts_pl {s : Slots} {a : Act} (S : SR ρ h s a.tmps) : ∀ (ps : List (Nat × Operand)) (l : List (Nat × Value)), evParts s ps = some l → PL ρ h l (ps.map fun p => (p.1, a.eval p.2))
  | [], l, e => by cases e; exact ⟨rfl, fun i x x' h1 => by simp at h1⟩
  | (i, x) :: ps, l, e => by
    simp only [evParts] at e
    obtain ⟨v, hv, e⟩ := Option.bind_eq_some_iff.1 e
    obtain ⟨m, hm, rfl⟩ := Option.map_eq_some_iff.1 e
    have ih := evParts_pl S ps m hm
    refine ⟨by simpa using ih.1, fun j y y' h1 h2 => ?_⟩
    cases j with
    | zero => simp at h1 h2; subst h1; subst h2; exact ⟨rfl, ev_vr S hv⟩
    | succ j => simp at h1 h2; exact ih.2 j y y' h1 (by simpa using h2)
theorem evO_ov {s : Slots} {a : Act} (S : SR ρ h s a.tmps) {x : Option Operand} {v : Option Value} (e : evO s x = some v) : OV ρ h v (x.map a.eval) := by
  cases x with
  | none => cases e; exact trivial
  | some x =>
    obtain ⟨u, hu, rfl⟩ := Option.map_eq_some_iff.1 e
    exact ev_vr S hu

theorem op1_ok (R : Rel ρ h w) {s : Slots} {a : Act} (S : SR ρ h s a.tmps) {o : Oper} {v : Value} {h' : Hp} (e : op1 P s h o.op = some (v, h')) : Ok P ρ h w ((execOp a.eval o).run P w) v h' := by
  cases ho : o.op <;> rw [ho] at e <;> simp only [op1] at e <;> try (cases e; done)
  case move x =>
    obtain ⟨u, hu, e⟩ := Option.map_eq_some_iff.1 e
    cases e
    exact Ok.same R (by simp [execOp, ho]) (ev_vr S hu)
  case assign x =>
    obtain ⟨u, hu, e⟩ := Option.map_eq_some_iff.1 e
    cases e
    exact Ok.same R (by simp [execOp, ho]) (ev_vr S hu)
  case pick c x y =>
    split at e
    · rename_i t hc
      obtain ⟨u, hu, e⟩ := Option.map_eq_some_iff.1 e
      cases e
      have h1 := ev_vr S hc
      generalize hcv : a.eval c = cv at h1
      cases h1
      refine Ok.same R (v' := a.eval (if t then x else y)) (by simp [execOp, ho, hcv, asBool]; cases t <;> rfl) (ev_vr S hu)
    · cases e
  case alloc eT =>
    obtain ⟨z, hz, e⟩ := Option.map_eq_some_iff.1 e
    cases e
    obtain ⟨r', w', ρ', hr, hv, R', G⟩ := alloc_ok R hz
    exact ⟨r', w', ρ', .inl (by simp [execOp, ho, hr]), hv, R', G⟩
  case box eT x =>
    obtain ⟨u, hu, e⟩ := Option.bind_eq_some_iff.1 e
    split at e
    · rename_i h1
      cases e
      obtain ⟨r', w', ρ', hr, hv, R', G⟩ := box_ok (P := P) (eT := eT) R (ev_vr S hu) h1
      exact ⟨r', w', ρ', .inl (by simp [execOp, ho, hr]), hv, R', G⟩
    · cases e
  case build t ps =>
    obtain ⟨l, hl, e⟩ := Option.bind_eq_some_iff.1 e
    obtain ⟨r, hr, e⟩ := Option.map_eq_some_iff.1 e
    cases e
    obtain ⟨r', h1, h2⟩ := build_ok (w := w) (evParts_pl S _ l hl) hr
    have h3 : (ps.map fun (i, x) => (i, a.eval x)) = (ps.toList.map fun p => (p.1, a.eval p.2)).toArray := by
      apply Array.ext'; simp
    exact Ok.same R (by simp only [execOp, ho, h3, Sem.run_bind, h1, Result.andThen_ok, Sem.run_pure]) h2
  case buildSlice t n ps =>
    obtain ⟨l, hl, e⟩ := Option.bind_eq_some_iff.1 e
    obtain ⟨r', w', ρ', hr, hv, R', G⟩ := buildSlice_ok R (evParts_pl S _ l hl) e
    have h3 : (ps.map fun (i, x) => (i, a.eval x)) = (ps.toList.map fun p => (p.1, a.eval p.2)).toArray := by
      apply Array.ext'; simp
    exact ⟨r', w', ρ', .inl (by simp only [execOp, ho, h3, Sem.run_bind, hr, Result.andThen_ok, Sem.run_pure]), hv, R', G⟩
  case load t x =>
    obtain ⟨u, hu, e⟩ := Option.bind_eq_some_iff.1 e
    obtain ⟨r, hr, e⟩ := Option.map_eq_some_iff.1 e
    cases e
    obtain ⟨r', h1, h2⟩ := load_ok (P := P) R (ev_vr S hu) hr
    exact Ok.same R (by simp [execOp, ho, h1]) h2
  case store t x y =>
    obtain ⟨u, hu, e⟩ := Option.bind_eq_some_iff.1 e
    obtain ⟨r, hr, e⟩ := Option.bind_eq_some_iff.1 e
    obtain ⟨h2, hh, e⟩ := Option.map_eq_some_iff.1 e
    cases e
    obtain ⟨w', h1, R', G⟩ := store_ok (P := P) R (ev_vr S hu) (ev_vr S hr) hh
    exact ⟨undef, w', ρ, .inr ⟨by simp [execOp, ho, h1], rfl⟩, undef_vr, R', G⟩
  case nilCheck x =>
    split at e
    · rename_i ad hx
      cases e
      have h1 := ev_vr S hx
      generalize hcv : a.eval x = cv at h1
      cases h1 with
      | ptr r o' y p g1 g2 => exact Ok.same R (by simp [execOp, ho, hcv]) (.ptr r o' y p g1 g2)
      | ptrGone _ a' g => exact Ok.same R (by simp [execOp, ho, hcv]) (.ptrGone _ a' g)
    · rename_i f b c hx
      cases e
      have h1 := ev_vr S hx
      generalize hcv : a.eval x = cv at h1
      cases h1 with
      | func _ _ b' _ c' g1 g2 g3 g4 => exact Ok.same R (by simp [execOp, ho, hcv]) (.func _ _ b' _ c' g1 g2 g3 g4)
    · cases e
  case binOp op t x y yt =>
    obtain ⟨u, hu, e⟩ := Option.bind_eq_some_iff.1 e
    obtain ⟨r, hr, e⟩ := Option.bind_eq_some_iff.1 e
    obtain ⟨v1, hv1, e⟩ := Option.map_eq_some_iff.1 e
    cases e
    obtain ⟨h1, h2⟩ := bin_ok (P := P) (w := w) (ev_vr S hu) (ev_vr S hr) hv1 x y
    refine Ok.same R ?_ h2
    simp only [execOp, ho]
    rw [Sem.run_bind, h1]
    rfl
  case unOp op t x =>
    obtain ⟨u, hu, e⟩ := Option.bind_eq_some_iff.1 e
    obtain ⟨v1, hv1, e⟩ := Option.map_eq_some_iff.1 e
    cases e
    obtain ⟨h1, h2⟩ := un_ok (P := P) (w := w) (ev_vr S hu) hv1
    exact Ok.same R (by simp [execOp, ho, h1]) h2
  case convert t u x =>
    obtain ⟨u1, hu, e⟩ := Option.bind_eq_some_iff.1 e
    obtain ⟨v1, hv1, e⟩ := Option.map_eq_some_iff.1 e
    cases e
    obtain ⟨h1, h2⟩ := conv_ok (P := P) (w := w) (ev_vr S hu) hv1
    exact Ok.same R (by simp [execOp, ho, h1]) h2
  case makeFunc fn first cap =>
    obtain ⟨l, hl, e⟩ := Option.bind_eq_some_iff.1 e
    obtain ⟨m, hm, e⟩ := Option.map_eq_some_iff.1 e
    cases e
    have h1 := evs_vl S _ l hl
    have h2 := evs_vl S _ m hm
    refine Ok.same R (v' := .func fn (first.map a.eval) (cap.map a.eval)) (by simp [execOp, ho, Instr.makeFunc]) (.func _ _ _ _ _ (by simpa using h1.1) (by simpa using h2.1) (fun i u u' g1 g2 => h1.2 i u u' (by simpa using g1) (by simpa using g2)) (fun i u u' g1 g2 => h2.2 i u u' (by simpa using g1) (by simpa using g2)))
  case makeSlice t l c =>
    obtain ⟨u, hu, e⟩ := Option.bind_eq_some_iff.1 e
    obtain ⟨r, hr, e⟩ := Option.bind_eq_some_iff.1 e
    obtain ⟨r', w', ρ', hrun, hv, R', G⟩ := make_ok R (ev_vr S hu) (ev_vr S hr) e
    exact ⟨r', w', ρ', .inl (by simp [execOp, ho, hrun]), hv, R', G⟩
  case slice t x lo hi mx =>
    cases mx with
    | some _ => cases e
    | none =>
      simp only at e
      obtain ⟨u, hu, e⟩ := Option.bind_eq_some_iff.1 e
      obtain ⟨l, hl, e⟩ := Option.bind_eq_some_iff.1 e
      obtain ⟨hh, hhi, e⟩ := Option.bind_eq_some_iff.1 e
      obtain ⟨r, hr, e⟩ := Option.map_eq_some_iff.1 e
      cases e
      obtain ⟨r', h1, h2⟩ := slice_ok (P := P) (w := w) (ev_vr S hu) (evO_ov S hl) (evO_ov S hhi) hr
      exact Ok.same R (by simp [execOp, ho, h1]) h2
  case fieldAddr t x j =>
    split at e
    · rename_i fs ad hfs hx
      split at e
      · rename_i f hf
        split at e
        · rename_i i hi
          split at e
          · rename_i hs
            cases e
            obtain ⟨r', h1, h2⟩ := fieldAddr_ok (P := P) (w := w) hfs hf hi hs (ev_vr S hx)
            exact Ok.same R (by simp [execOp, ho, h1]) h2
          · cases e
        · cases e
      · cases e
    · cases e
  case field t x j =>
    split at e
    · rename_i fs cs hfs hx
      split at e
      · rename_i f hf
        obtain ⟨r, hr, e⟩ := Option.map_eq_some_iff.1 e
        cases e
        obtain ⟨r', h1, h2⟩ := field_ok (P := P) (w := w) hfs hf (ev_vr S hx) hr
        exact Ok.same R (by simp [execOp, ho, h1]) h2
      · cases e
    · cases e
  case indexAddr t x i =>
    obtain ⟨u, hu, e⟩ := Option.bind_eq_some_iff.1 e
    obtain ⟨y, hy, e⟩ := Option.bind_eq_some_iff.1 e
    obtain ⟨r, hr, e⟩ := Option.map_eq_some_iff.1 e
    cases e
    obtain ⟨r', h1, h2⟩ := indexAddr_ok (P := P) (w := w) (ev_vr S hu) (ev_vr S hy) hr
    exact Ok.same R (by simp [execOp, ho, h1]) h2
  case index t x i =>
    obtain ⟨u, hu, e⟩ := Option.bind_eq_some_iff.1 e
    obtain ⟨y, hy, e⟩ := Option.bind_eq_some_iff.1 e
    obtain ⟨r, hr, e⟩ := Option.map_eq_some_iff.1 e
    cases e
    obtain ⟨r', h1, h2⟩ := index_ok (P := P) (w := w) (ev_vr S hu) (ev_vr S hy) hr
    exact Ok.same R (by simp [execOp, ho, h1]) h2
  case extract x j =>
    split at e
    · rename_i vs hx
      obtain ⟨r, hr, e⟩ := Option.map_eq_some_iff.1 e
      cases e
      obtain ⟨vs', h1, h2⟩ := tuple_list (ev_vr S hx)
      have hlt : j < vs'.size := by
        have g1 := (Array.getElem?_eq_some_iff.1 hr).1
        have g2 := h2.1
        simp at g2
        omega
      refine Ok.same R (v' := vs'[j]) (by simp [execOp, ho, h1, Instr.extract, hlt]) (h2.2 j _ _ (by simpa using hr) (by simp [hlt]))
    · cases e
end Go.Pm

/- Operations that may come up in any order. -/
set_option linter.unusedVariables false
set_option linter.unusedSimpArgs false
namespace Go.Pm
variable {P : Program} {ρ : Mp} {h : Hp} {w : World}

/-! ### a run in the text's order, as its steps -/
structure Tr (F : Oper → St → Option (Value × Hp)) (N : Nat) (ops : Array Oper) (l : List Oper) (st st1 : St) (V : Nat → Value) (L : Nat → Nat) (X : Nat → Slots) : Prop where
  h0 : L 0 = st.h.length
  x0 : X 0 = st.s
  pre : st.h = st1.h.take (L 0)
  hn : L l.length = st1.h.length
  xn : X l.length = st1.s
  mono : ∀ i, i < l.length → L i ≤ L (i + 1)
  step : ∀ i o, l[i]? = some o → dstOk N o.dst = true ∧ X (i + 1) = put (X i) o.dst (V i) ∧
    ((wantP ops (keep (o.looksAt ops) (X i)) o = some false ∧ V i = undef ∧ L (i + 1) = L i) ∨
     (wantP ops (keep (o.looksAt ops) (X i)) o = some true ∧ F o ⟨keep (o.looksAt ops) (X i), st1.h.take (L i)⟩ = some (V i, st1.h.take (L (i + 1)))))
  own : ∀ i, i < l.length → ∀ r x, L i ≤ r → r < L (i + 1) → st1.h[r]? = some (some x) → x.ro = false

theorem trace (F : Oper → St → Option (Value × Hp)) (N : Nat) (ops : Array Oper) : ∀ (l : List Oper) (st st1 : St), runH F N ops l st = some st1 → ∃ V L X, Tr F N ops l st st1 V L X
  | [], st, st1, e => by
    cases e
    exact ⟨fun _ => undef, fun _ => st.h.length, fun _ => st.s, rfl, rfl, by simp, rfl, rfl, fun i hi => by simp at hi, fun i o hi => by simp at hi, fun i hi => by simp at hi⟩
  | o :: r, st, st1, e => by
    simp only [runH] at e
    split at e
    · rename_i hdst
      have build : ∀ (v : Value) (h' : Hp), st.h <+: h' → (∀ r x, st.h.length ≤ r → h'[r]? = some (some x) → x.ro = false) → runH F N ops r ⟨put st.s o.dst v, h'⟩ = some st1 →
          (∀ H : Hp, h' <+: H → (wantP ops (keep (o.looksAt ops) st.s) o = some false ∧ v = undef ∧ h'.length = st.h.length) ∨
            (wantP ops (keep (o.looksAt ops) st.s) o = some true ∧ F o ⟨keep (o.looksAt ops) st.s, H.take st.h.length⟩ = some (v, H.take h'.length))) → ∃ V L X, Tr F N ops (o :: r) st st1 V L X := by
        intro v h' hpre hown hrun hst
        obtain ⟨V, L, X, T⟩ := trace F N ops r _ st1 hrun
        have h0 : L 0 = h'.length := T.h0
        have hpre1 : h' <+: st1.h := by
          have := T.pre
          rw [h0] at this
          exact List.prefix_iff_eq_take.2 this
        refine ⟨fun i => match i with | 0 => v | i + 1 => V i, fun i => match i with | 0 => st.h.length | i + 1 => L i, fun i => match i with | 0 => st.s | i + 1 => X i, rfl, rfl, List.prefix_iff_eq_take.1 (hpre.trans hpre1), ?_, ?_, fun i hi => ?_, fun i q hi => ?_, fun i hi k x h1 h2 h3 => ?_⟩
        · exact T.hn
        · exact T.xn
        · cases i with
          | zero => show st.h.length ≤ L 0; rw [h0]; exact hpre.length_le
          | succ i => exact T.mono i (by simpa using hi)
        · cases i with
          | zero =>
            simp only [List.getElem?_cons_zero, Option.some.injEq] at hi
            subst hi
            refine ⟨hdst, T.x0, ?_⟩
            have := hst st1.h hpre1
            show (wantP ops (keep (o.looksAt ops) st.s) o = some false ∧ v = undef ∧ L 0 = st.h.length) ∨ (wantP ops (keep (o.looksAt ops) st.s) o = some true ∧ F o ⟨keep (o.looksAt ops) st.s, st1.h.take st.h.length⟩ = some (v, st1.h.take (L 0)))
            rw [h0]
            exact this
          | succ i => exact T.step i q (by simpa using hi)
        · cases i with
          | zero =>
            have h2' : k < h'.length := by
              have h2'' : k < L 0 := h2
              rwa [h0] at h2''
            refine hown k x h1 ?_
            have := List.prefix_iff_eq_take.1 hpre1
            rw [this, take_get h2']
            exact h3
          | succ i => exact T.own i (by simpa using hi) k x h1 h2 h3
      split at e
      · rename_i hw
        refine build undef st.h List.prefix_rfl (fun r x h1 h2 => ?_) e (fun H hH => .inl ⟨hw, rfl, rfl⟩)
        have := (List.getElem?_eq_some_iff.1 h2).1
        omega
      · rename_i hw
        split at e
        · rename_i v h' hF
          split at e
          · rename_i hnew
            refine build v h' hnew.1 (fun r x h1 h2 => ?_) e (fun H hH => .inr ⟨hw, ?_⟩)
            · have := List.all_eq_true.1 hnew.2 (some x) (List.mem_of_getElem? (i := r - st.h.length) (by rw [List.getElem?_drop, show st.h.length + (r - st.h.length) = r by omega]; exact h2))
              simpa using this
            · rw [← List.prefix_iff_eq_take.1 (hnew.1.trans hH), ← List.prefix_iff_eq_take.1 hH]
              exact hF
          · cases e
        · cases e
      · cases e
    · cases e

/-- What a slot holds in the text's order. -/
theorem slots_at {F : Oper → St → Option (Value × Hp)} {N : Nat} {ops : Array Oper} {l : List Oper} {st st1 : St} {V : Nat → Value} {L : Nat → Nat} {X : Nat → Slots} (T : Tr F N ops l st st1 V L X) :
    ∀ (i : Nat), i ≤ l.length → ∀ t v, get (X i) t = some v → (∃ j o, j < i ∧ l[j]? = some o ∧ o.dst = some t ∧ v = V j) ∨ ((∀ j o, j < i → l[j]? = some o → o.dst ≠ some t) ∧ get st.s t = some v)
  | 0, _, t, v, e => by rw [T.x0] at e; exact .inr ⟨fun j o hj => by omega, e⟩
  | i + 1, hi, t, v, e => by
    obtain ⟨o, ho⟩ : ∃ o, l[i]? = some o := ⟨l[i], List.getElem?_eq_getElem (by omega)⟩
    obtain ⟨_, h2, _⟩ := T.step i o ho
    rw [h2, get_put] at e
    split at e
    · rename_i hd
      cases e
      exact .inl ⟨i, o, by omega, ho, hd, rfl⟩
    · rename_i hd
      rcases slots_at T i (by omega) t v e with ⟨j, o', h3, h4, h5, h6⟩ | ⟨h3, h4⟩
      · exact .inl ⟨j, o', by omega, h4, h5, h6⟩
      · refine .inr ⟨fun j o' hj ho' => ?_, h4⟩
        by_cases hji : j = i
        · subst hji; rw [ho] at ho'; cases ho'; exact hd
        · exact h3 j o' (by omega) ho'

theorem Tr.le {F : Oper → St → Option (Value × Hp)} {N : Nat} {ops : Array Oper} {l : List Oper} {st st1 : St} {V : Nat → Value} {L : Nat → Nat} {X : Nat → Slots} (T : Tr F N ops l st st1 V L X) {i j : Nat} (hij : i ≤ j) (hj : j ≤ l.length) : L i ≤ L j := by
  induction j with
  | zero => have : i = 0 := by omega
            subst this; exact Nat.le_refl _
  | succ j ih =>
    by_cases h : i = j + 1
    · subst h; exact Nat.le_refl _
    · exact Nat.le_trans (ih (by omega) (by omega)) (T.mono j (by omega))
end Go.Pm

/- Operations that may come up in any order: the proof that the order does not matter. -/
set_option linter.unusedVariables false
set_option linter.unusedSimpArgs false
namespace Go.Pm
variable {P : Program}

def OpSound (P : Program) (F : Oper → St → Option (Value × Hp)) : Prop :=
  ∀ o st v h', F o st = some (v, h') → ∀ ρ a w, Rel ρ st.h w → SR ρ st.h st.s a.tmps →
    ∀ (K : Act → World → Prop) (Q : Exit → Act → World → Prop), (∀ v' w' ρ', VR ρ' h' v v' → Rel ρ' h' w' → Go1 ρ st.h w ρ' h' w' → K (a.put o.dst v') w') → o.wp P a w K Q

/-- What holds when some of the operations have come up. -/
structure Inv (ρ0 : Mp) (w0 : World) (N : Nat) (ops : Array Oper) (n : Nat) (st st1 : St) (V : Nat → Value) (L : Nat → Nat) (listed : Array Bool) (ρ : Mp) (a : Act) (w : World) : Prop where
  rel : Rel ρ st1.h w
  clo : ∀ r x p, st1.h[r]? = some (some x) → ρ r = some p → ∀ k, k ≤ n → r < L k → ∀ v, v ∈ x.cells → Cl (L k) v
  val : ∀ j o d, j < n → listed.getD j false = true → ops[j]? = some o → o.dst = some d → VR ρ st1.h (V j) (a.tmps.getD d undef) ∧ Cl (L (j + 1)) (V j)
  old : ∀ t v, get st.s t = some v → (∀ j o, j < n → listed.getD j false = true → ops[j]? = some o → o.dst ≠ some t) → VR ρ st1.h v (a.tmps.getD t undef)
  dom : ∀ r p, ρ r = some p → r < L 0 ∨ ∃ j, j < n ∧ listed.getD j false = true ∧ L j ≤ r ∧ r < L (j + 1)
  base : ∀ r x, r < L 0 → st1.h[r]? = some (some x) → ρ r = ρ0 r
  none0 : ∀ r, r < L 0 → ρ0 r = none → ρ r = none
  newb : ∀ r x p, L 0 ≤ r → st1.h[r]? = some (some x) → ρ r = some p → x.ro = false → w0.heap.size ≤ p.b
  os : w.os = w0.os
  tape : w.tape = w0.tape
  output : w.output = w0.output
  size : w0.heap.size ≤ w.heap.size
  blk : ∀ b, b < w0.heap.size → (∀ r x p, r < L 0 → st1.h[r]? = some (some x) → ρ0 r = some p → x.ro = false → p.b ≠ b) → w.heap[b]? = w0.heap[b]?
  hN : a.tmps.size = N
  hd : a.defers = []

theorem put_size (a : Act) (d : Option Tmp) (v : Value) : (a.put d v).tmps.size = a.tmps.size := by cases d <;> simp [Act.put]
theorem put_defers (a : Act) (d : Option Tmp) (v : Value) : (a.put d v).defers = a.defers := by cases d <;> rfl

theorem put_other {a : Act} {d : Option Tmp} {v : Value} {t : Nat} (h : d ≠ some t) : (a.put d v).tmps.getD t undef = a.tmps.getD t undef := by
  cases d with
  | none => rfl
  | some d =>
    have hne : d ≠ t := fun e => h (by rw [e])
    simp [Act.put, Array.getElem?_setIfInBounds_ne hne]
theorem put_same {a : Act} {d : Nat} {v : Value} (h : d < a.tmps.size) : (a.put (some d) v).tmps.getD d undef = v := by
  simp [Act.put, h]

section
variable {F : Oper → St → Option (Value × Hp)} {ρ0 : Mp} {w0 : World} {N : Nat} {ops : Array Oper} {n : Nat} {st st1 : St} {V : Nat → Value} {L : Nat → Nat} {X : Nat → Slots} {listed : Array Bool} {ρ : Mp} {a : Act} {w : World}

/-- One operation more. -/
theorem Inv.next (T : Tr F N ops (ops.toList.take n) st st1 V L X) {sx : St} (hsl : sx.h.length = st1.h.length) (hown : ∀ i, i < n → ∀ r x, L i ≤ r → r < L (i + 1) → sx.h[r]? = some (some x) → x.ro = false) (hnl : (ops.toList.take n).length = n) (I : Inv ρ0 w0 N ops n st sx V L listed ρ a w)
    (hdist : ∀ i j oi oj d, i < n → j < n → i ≠ j → ops[i]? = some oi → ops[j]? = some oj → oi.dst = some d → oj.dst ≠ some d)
    {i : Nat} {o : Oper} (hi : i < n) (ho : ops[i]? = some o) (hun : listed.getD i true = false) (hls : listed.size = ops.size)
    {ρ1 : Mp} {v' : Value} {w' : World} (hv : VR ρ1 (sx.h.take (L (i + 1))) (V i) v') (R1 : Rel ρ1 (sx.h.take (L (i + 1))) w') (G : Go1 (Pm.res ρ (L i)) (sx.h.take (L i)) w ρ1 (sx.h.take (L (i + 1))) w') (hdst : dstOk N o.dst = true) :
    Inv ρ0 w0 N ops n st sx V L (listed.setIfInBounds i true) (fun r => if r < L (i + 1) then ρ1 r else ρ r) (a.put o.dst v') w' := by
  have hle : ∀ {i j}, i ≤ j → j ≤ n → L i ≤ L j := fun h1 h2 => T.le h1 (by rw [hnl]; exact h2)
  have hLn : L n = sx.h.length := by have := T.hn; rw [hnl] at this; rw [hsl]; exact this
  have hlen1 : (sx.h.take (L (i + 1))).length = L (i + 1) := by simp; have := hle (i := i + 1) (j := n) (by omega) (Nat.le_refl _); omega
  have hlen0 : (sx.h.take (L i)).length = L i := by simp; have := hle (i := i) (j := n) (by omega) (Nat.le_refl _); omega
  have hmono := hle (i := i) (j := i + 1) (by omega) (by omega)
  have hilt : i < ops.size := (Array.getElem?_eq_some_iff.1 ho).1
  -- the places of old rows stay
  have keepρ : ∀ r x, r < L i → sx.h[r]? = some (some x) → ρ1 r = ρ r := by
    intro r x hr hx
    cases hp : ρ r with
    | none => exact G.keepn r (by rw [hlen0]; exact hr) (by simp [Pm.res, hr, hp])
    | some p =>
      rcases G.step.live r x p (by rw [take_get hr]; exact hx) (by simp [Pm.res, hr, hp]) with ⟨x1, _, _, _, _, h5⟩ | ⟨_, h5⟩
      · exact h5
      · have := h5 x (by rw [take_get (by omega)]; exact hx)
        omega
  have notin : ∀ r p, ρ r = some p → L i ≤ r → L (i + 1) ≤ r := by
    intro r p hp hr
    rcases I.dom r p hp with h1 | ⟨j, h1, h2, h3, h4⟩
    · have := hle (i := 0) (j := i) (by omega) (by omega); omega
    · have hji : j ≠ i := by
        intro e
        subst e
        rw [getD_both hun] at h2
        cases h2
      rcases Nat.lt_or_ge j i with h5 | h5
      · have := hle (i := j + 1) (j := i) (by omega) (by omega); omega
      · have := hle (i := i + 1) (j := j) (by omega) (by omega); omega
  have upρ : ∀ r x p, sx.h[r]? = some (some x) → ρ r = some p → (if r < L (i + 1) then ρ1 r else ρ r) = some p := by
    intro r x p hx hp
    by_cases hr : r < L (i + 1)
    · rw [if_pos hr]
      have : r < L i := by
        rcases Nat.lt_or_ge r (L i) with h1 | h1
        · exact h1
        · have := notin r p hp h1; omega
      rw [keepρ r x this hx]; exact hp
    · rw [if_neg hr]; exact hp
  have step' : Step ρ sx.h (fun r => if r < L (i + 1) then ρ1 r else ρ r) sx.h := ⟨fun r x p hx hp => .inl ⟨x, hx, rfl, rfl, rfl, upρ r x p hx hp⟩, fun _ h => h⟩
  have step1 : Step ρ1 (sx.h.take (L (i + 1))) (fun r => if r < L (i + 1) then ρ1 r else ρ r) sx.h := step_ext (by rw [← hLn]; exact hle (by omega) (Nat.le_refl _)) (fun r x p hr hx hp => by simp [hr, hp])
  -- which rows are whose
  have cases' : ∀ r x p, sx.h[r]? = some (some x) → (if r < L (i + 1) then ρ1 r else ρ r) = some p → (r < L (i + 1) ∧ ρ1 r = some p) ∨ (L (i + 1) ≤ r ∧ ρ r = some p) := by
    intro r x p hx hp
    by_cases hr : r < L (i + 1)
    · rw [if_pos hr] at hp; exact .inl ⟨hr, hp⟩
    · rw [if_neg hr] at hp; exact .inr ⟨by omega, hp⟩
  have oldOf : ∀ r x p, r < L i → sx.h[r]? = some (some x) → ρ1 r = some p → ρ r = some p := fun r x p hr hx hp => by rw [← keepρ r x hr hx]; exact hp
  have newBlk : ∀ r x p, L i ≤ r → r < L (i + 1) → sx.h[r]? = some (some x) → ρ1 r = some p → x.ro = false ∧ w.heap.size ≤ p.b := by
    intro r x p h1 h2 hx hp
    have hro : x.ro = false := hown i hi r x h1 h2 hx
    refine ⟨hro, ?_⟩
    rcases G.orig r x p (by rw [take_get h2]; exact hx) hp hro with h3 | ⟨r0, x0, p0, g1, g2, g3, g4⟩
    · exact h3
    · exfalso
      obtain ⟨k1, k2⟩ := take_some g1
      obtain ⟨_, k3⟩ := res_some g2
      have k4 : ρ1 r0 = some p0 := by rw [keepρ r0 x0 k1 k2]; exact k3
      exact R1.inj r r0 x x0 p p0 (by rw [take_get h2]; exact hx) (by rw [take_get (by omega)]; exact k2) hp k4 hro (by omega) (fun e => by rw [g3] at e; cases e) g4.symm
  -- a row of an operation that comes later in the text is untouched
  have later : ∀ r x p, L (i + 1) ≤ r → sx.h[r]? = some (some x) → ρ r = some p → (x.ro = true → x.cells ≠ []) → w'.heap[p.b]? = w.heap[p.b]? ∧ p.b < w.heap.size := by
    intro r x p h1 hx hp hne
    have hlt := I.rel.lt hx hp hne
    refine ⟨G.blk p.b hlt (fun r0 x0 p0 g1 g2 g3 e => ?_), hlt⟩
    obtain ⟨k1, k2⟩ := take_some g1
    obtain ⟨_, k3⟩ := res_some g2
    exact I.rel.inj r0 r x0 x p0 p k2 hx k3 hp g3 (by omega) hne e
  refine ⟨⟨fun r x p hx hp hr => ?_, fun r x p hx hp hr k v hk => ?_, fun r r' x x' p p' hx hx' hp hp' hr hne hro => ?_, fun r p hp => ?_⟩, fun r x p hx hp k hk hrk v hvm => ?_, fun j oj d hj hlj hoj hdj => ?_, fun t v hg hnone => ?_, fun r p hp => ?_, fun r x hr hx => ?_, fun r hr hn => ?_, fun r x p hr hx hp hro => ?_, G.os.trans I.os, G.tape.trans I.tape, G.output.trans I.output, Nat.le_trans I.size G.size, fun b hb hn => ?_, by rw [put_size]; exact I.hN, by rw [put_defers]; exact I.hd⟩
  · rcases cases' r x p hx hp with ⟨h1, h2⟩ | ⟨h1, h2⟩
    · obtain ⟨c, e, g1, g2, g3, g4⟩ := R1.own r x p (by rw [take_get h1]; exact hx) h2 hr
      exact ⟨c, e, g1, g2, g3, fun k v hk => by obtain ⟨v', k1, k2⟩ := g4 k v hk; exact ⟨v', k1, k2.step step1⟩⟩
    · obtain ⟨c, e, g1, g2, g3, g4⟩ := I.rel.own r x p hx h2 hr
      have := (later r x p h1 hx h2 (fun e => by rw [hr] at e; cases e)).1
      exact ⟨c, e, by rw [this]; exact g1, g2, g3, fun k v hk => by obtain ⟨v', k1, k2⟩ := g4 k v hk; exact ⟨v', k1, k2.step step'⟩⟩
  · rcases cases' r x p hx hp with ⟨h1, h2⟩ | ⟨h1, h2⟩
    · obtain ⟨v', k1, k2⟩ := R1.ro r x p (by rw [take_get h1]; exact hx) h2 hr k v hk
      exact ⟨v', k1, k2.step step1⟩
    · obtain ⟨v', k1, k2⟩ := I.rel.ro r x p hx h2 hr k v hk
      have := (later r x p h1 hx h2 (fun _ e => by rw [e] at hk; simp at hk)).1
      refine ⟨v', ?_, k2.step step'⟩
      rw [← k1]
      unfold World.cell?
      rw [this]
  · rcases cases' r x p hx hp with ⟨h1, h2⟩ | ⟨h1, h2⟩
    · rcases cases' r' x' p' hx' hp' with ⟨h1', h2'⟩ | ⟨h1', h2'⟩
      · exact R1.inj r r' x x' p p' (by rw [take_get h1]; exact hx) (by rw [take_get h1']; exact hx') h2 h2' hr hne hro
      · rcases Nat.lt_or_ge r (L i) with h3 | h3
        · exact I.rel.inj r r' x x' p p' hx hx' (oldOf r x p h3 hx h2) h2' hr hne hro
        · have := (newBlk r x p h3 h1 hx h2).2
          have := (later r' x' p' h1' hx' h2' hro).2
          omega
    · rcases cases' r' x' p' hx' hp' with ⟨h1', h2'⟩ | ⟨h1', h2'⟩
      · rcases Nat.lt_or_ge r' (L i) with h3 | h3
        · exact I.rel.inj r r' x x' p p' hx hx' h2 (oldOf r' x' p' h3 hx' h2') hr hne hro
        · have := (newBlk r' x' p' h3 h1' hx' h2').2
          have := (later r x p h1 hx h2 (fun e => by rw [hr] at e; cases e)).2
          omega
      · exact I.rel.inj r r' x x' p p' hx hx' h2 h2' hr hne hro
  · by_cases hr : r < L (i + 1)
    · have := hle (i := i + 1) (j := n) (by omega) (Nat.le_refl _)
      omega
    · have hp' : ρ r = some p := by
        have hp2 : (if r < L (i + 1) then ρ1 r else ρ r) = some p := hp
        rwa [if_neg hr] at hp2
      exact I.rel.dom r p hp'
  · rcases cases' r x p hx hp with ⟨h1, h2⟩ | ⟨h1, h2⟩
    · rcases Nat.lt_or_ge r (L i) with h3 | h3
      · exact I.clo r x p hx (oldOf r x p h3 hx h2) k hk hrk v hvm
      · have hki : i + 1 ≤ k := by
          rcases Nat.lt_or_ge i k with h4 | h4
          · exact h4
          · have := hle h4 (by omega); omega
        obtain ⟨hro, _⟩ := newBlk r x p h3 h1 hx h2
        obtain ⟨c, e, g1, g2, g3, g4⟩ := R1.own r x p (by rw [take_get h1]; exact hx) h2 hro
        obtain ⟨m, hm⟩ := List.getElem?_of_mem hvm
        obtain ⟨u, _, k2⟩ := g4 m v hm
        have := k2.cl
        rw [hlen1] at this
        exact this.mono (hle hki hk)
    · exact I.clo r x p hx h2 k hk hrk v hvm
  · by_cases hji : j = i
    · subst hji
      rw [ho] at hoj; cases hoj
      rw [hdj] at hdst ⊢
      have hdN : d < a.tmps.size := by rw [I.hN]; simpa [dstOk] using hdst
      rw [put_same hdN]
      have := hv.cl
      rw [hlen1] at this
      exact ⟨hv.step step1, this⟩
    · have hlj' : listed.getD j false = true := by
        rw [getD_set_ne false (fun e => hji e.symm)] at hlj; exact hlj
      obtain ⟨h1, h2⟩ := I.val j oj d hj hlj' hoj hdj
      rw [put_other (hdist j i oj o d hj hi hji hoj ho hdj)]
      exact ⟨h1.step step', h2⟩
  · have hne : o.dst ≠ some t := hnone i o hi (by simp [hls, hilt]) ho
    rw [put_other hne]
    exact (I.old t v hg (fun j oj hj hlj hoj => hnone j oj hj (getD_set_true hlj) hoj)).step step'
  · by_cases hr : r < L (i + 1)
    · rcases Nat.lt_or_ge r (L i) with h3 | h3
      · have hp2 : ρ1 r = some p := by
          have hp3 : (if r < L (i + 1) then ρ1 r else ρ r) = some p := hp
          rwa [if_pos hr] at hp3
        cases hρ : ρ r with
        | none =>
          have := G.keepn r (by rw [hlen0]; exact h3) (by simp [Pm.res, h3, hρ])
          rw [this] at hp2; cases hp2
        | some q =>
          rcases I.dom r q hρ with h4 | ⟨j, h4, h5, h6⟩
          · exact .inl h4
          · exact .inr ⟨j, h4, getD_set_true h5, h6⟩
      · exact .inr ⟨i, hi, by simp [hls, hilt], h3, hr⟩
    · have hp' : ρ r = some p := by
        have hp2 : (if r < L (i + 1) then ρ1 r else ρ r) = some p := hp
        rwa [if_neg hr] at hp2
      rcases I.dom r p hp' with h4 | ⟨j, h4, h5, h6⟩
      · exact .inl h4
      · exact .inr ⟨j, h4, getD_set_true h5, h6⟩
  · have h1 := hle (i := 0) (j := i) (by omega) (by omega)
    show (if r < L (i + 1) then ρ1 r else ρ r) = ρ0 r
    rw [if_pos (by omega), keepρ r x (by omega) hx]
    exact I.base r x hr hx
  · have h1 := hle (i := 0) (j := i) (by omega) (by omega)
    show (if r < L (i + 1) then ρ1 r else ρ r) = none
    rw [if_pos (by omega)]
    exact G.keepn r (by rw [hlen0]; omega) (by simp [Pm.res, show r < L i by omega, I.none0 r hr hn])
  · rcases cases' r x p hx hp with ⟨h1, h2⟩ | ⟨h1, h2⟩
    · rcases Nat.lt_or_ge r (L i) with h3 | h3
      · exact I.newb r x p hr hx (oldOf r x p h3 hx h2) hro
      · have := (newBlk r x p h3 h1 hx h2).2
        have := I.size
        omega
    · exact I.newb r x p hr hx h2 hro
  · rw [G.blk b (Nat.lt_of_lt_of_le hb I.size) (fun r x p g1 g2 g3 e => ?_), I.blk b hb hn]
    obtain ⟨k1, k2⟩ := take_some g1
    obtain ⟨_, k3⟩ := res_some g2
    rcases Nat.lt_or_ge r (L 0) with h1 | h1
    · exact hn r x p h1 k2 (by rw [← I.base r x h1 k2]; exact k3) g3 e
    · have := I.newb r x p h1 k2 k3 g3
      omega
end
end Go.Pm

/- Operations that may come up in any order: the whole region. -/
set_option linter.unusedVariables false
set_option linter.unusedSimpArgs false
namespace Go.Pm
variable {P : Program}

def exM : Ex → Exit → Prop
  | .normal, .normal => True
  | .exit i, .exit j => i = j
  | .ret, .ret => True
  | _, _ => False

/-- What holds behind a piece of code. -/
def Beh (ρ : Mp) (h : Hp) (w : World) (N : Nat) (st : St) (a : Act) (w' : World) : Prop :=
  ∃ ρ', Rel ρ' st.h w' ∧ SR ρ' st.h st.s a.tmps ∧ Go1 ρ h w ρ' st.h w' ∧ a.tmps.size = N ∧ a.defers = []
def Post (ρ : Mp) (h : Hp) (w : World) (N : Nat) (ex : Ex) (st : St) : Exit → Act → World → Prop := fun e a w' => exM ex e ∧ Beh ρ h w N st a w'

section
variable {ρ : Mp} {h : Hp} {w : World}
theorem Beh.trans {ρ1 : Mp} {h1 : Hp} {w1 : World} (G : Go1 ρ h w ρ1 h1 w1) {N : Nat} {st : St} {a : Act} {w' : World} (b : Beh ρ1 h1 w1 N st a w') : Beh ρ h w N st a w' := by
  obtain ⟨ρ', R, S, G2, e1, e2⟩ := b
  exact ⟨ρ', R, S, G.trans G2, e1, e2⟩
theorem Post.trans {ρ1 : Mp} {h1 : Hp} {w1 : World} (G : Go1 ρ h w ρ1 h1 w1) {N : Nat} {ex : Ex} {st : St} {e : Exit} {a : Act} {w' : World} (b : Post ρ1 h1 w1 N ex st e a w') : Post ρ h w N ex st e a w' := ⟨b.1, b.2.trans G⟩

theorem getD_some {tm : Array Value} {d : Nat} {v : Value} (e : tm.getD d undef = v) (hv : ∀ l, v ≠ .tuple l) : tm[d]? = some v := by
  rw [Array.getD_eq_getD_getElem?] at e
  cases hh : tm[d]? with
  | none => rw [hh] at e; exact absurd e.symm (hv _)
  | some u => rw [hh] at e; simpa using e

theorem want_ok {s : Slots} {a : Act} (S : SR ρ h s a.tmps) {ops : Array Oper} {o : Oper} {b : Bool} (e : wantP ops s o = some b) : Region.wanted o (yielded ops a.tmps) = b := by
  unfold wantP at e
  unfold Region.wanted
  split at e
  · rename_i hg
    cases e
    rw [hg]
  · rename_i j want hg
    rw [hg]
    simp only [yielded]
    split at e
    · rename_i d hd
      rw [hd]
      split at e
      · rename_i t ht
        cases e
        have h1 := S d _ ht
        generalize hv : a.tmps.getD d undef = v at h1
        cases h1
        simp [getD_some hv (by simp)]
      · rename_i v hnb ht
        cases e
        have h1 := S d _ ht
        simp only [Option.bind_some]
        cases hh : a.tmps[d]? with
        | none => simp
        | some u =>
          have hu : a.tmps.getD d undef = u := by rw [Array.getD_eq_getD_getElem?, hh]; rfl
          rw [hu] at h1
          cases h1 <;> first | (exact (hnb _ rfl).elim) | simp
      · cases e
    · rename_i hd
      cases e
      rw [hd]
      simp

theorem get_keep_mem {K : List Nat} {s : Slots} {t : Nat} {v : Value} (h : get (keep K s) t = some v) : t ∈ K := by
  induction K with
  | nil => simp [keep, get] at h
  | cons k K ih =>
    simp only [keep, List.filterMap_cons] at h
    cases hk : get s k with
    | none => simp [hk] at h; exact List.mem_cons_of_mem _ (ih h)
    | some u =>
      simp [hk, get] at h
      split at h
      · rename_i e; subst e; exact List.mem_cons_self ..
      · exact List.mem_cons_of_mem _ (ih h)

theorem Rel.ext {H : Hp} {L : Nat} (hL : L ≤ H.length) (R : Rel ρ (H.take L) w) : Rel ρ H w := by
  have hlt : ∀ {r p}, ρ r = some p → r < L := fun {r p} hp => by have := R.dom r p hp; simp at this; omega
  have stp : Step ρ (H.take L) ρ H := step_ext hL fun _ _ _ _ _ hp => hp
  refine ⟨fun r x p hx hp hr => ?_, fun r x p hx hp hr i v hi => ?_, fun r r' x x' p p' hx hx' hp hp' hr hne hro => ?_, fun r p hp => by have := hlt hp; omega⟩
  · obtain ⟨c, e, g1, g2, g3, g4⟩ := R.own r x p (by rw [take_get (hlt hp)]; exact hx) hp hr
    exact ⟨c, e, g1, g2, g3, fun i v hi => by obtain ⟨v', k1, k2⟩ := g4 i v hi; exact ⟨v', k1, k2.step stp⟩⟩
  · obtain ⟨v', k1, k2⟩ := R.ro r x p (by rw [take_get (hlt hp)]; exact hx) hp hr i v hi
    exact ⟨v', k1, k2.step stp⟩
  · exact R.inj r r' x x' p p' (by rw [take_get (hlt hp)]; exact hx) (by rw [take_get (hlt hp')]; exact hx') hp hp' hr hne hro
end

structure DrawOk (ops : Array Oper) (n : Nat) : Prop where
  hn : n < ops.size
  sink : Region.sinkB .any ops n = true
  chain : Region.chainB .any ops n = true
  seq : Region.seqB .any ops (ops.size - n) n (listedTo n (ops.size - n)) = true
  back : ∀ (i : Nat) (o : Oper), ops[i]? = some o → ∀ e ∈ o.after, Region.binds .any e = true → e.on < i
  deps : ∀ (i : Nat) (o : Oper) (t j d : Nat), i < n → ops[i]? = some o → t ∈ o.looksAt ops → j < n → (ops[j]?).bind (·.dst) = some d → d = t → j < i ∧ Region.waitsFor .any ops i j = true
  dist : ∀ (i j : Nat) (oi oj : Oper) (d : Nat), i < n → j < n → i ≠ j → ops[i]? = some oi → ops[j]? = some oj → oi.dst = some d → oj.dst ≠ some d

theorem drawOk_spec {ops : Array Oper} {n : Nat} (h : drawOk ops n = true) : DrawOk ops n := by
  simp only [drawOk, Bool.and_eq_true, decide_eq_true_eq] at h
  obtain ⟨⟨⟨⟨⟨⟨h1, h2⟩, h3⟩, h4⟩, h5⟩, h6⟩, h7⟩ := h
  have key : ∀ i j oi oj d, j < i → i < n → ops[i]? = some oi → ops[j]? = some oj → oi.dst = some d → oj.dst ≠ some d := by
    intro i j oi oj d hj hi hoi hoj hd
    have := List.all_eq_true.1 h7 i (List.mem_range.2 hi)
    rw [hoi, Option.bind_some, hd] at this
    have := List.all_eq_true.1 this j (List.mem_range.2 hj)
    rw [hoj, Option.bind_some] at this
    simpa using this
  refine ⟨h1, h2, h3, h4, fun i o ho e he hb => ?_, fun i o t j d hi ho ht hj hd hdt => ?_, fun i j oi oj d hi hj hne hoi hoj hd => ?_⟩
  · have := List.all_eq_true.1 h5 i (List.mem_range.2 (Array.getElem?_eq_some_iff.1 ho).1)
    rw [ho] at this
    have h8 := Array.all_eq_true'.1 this e he
    rw [hb] at h8
    simpa using h8
  · have := List.all_eq_true.1 h6 i (List.mem_range.2 hi)
    rw [ho] at this
    have := List.all_eq_true.1 (List.all_eq_true.1 this t ht) j (List.mem_range.2 hj)
    rw [hd] at this
    simp only [Bool.or_eq_true, Bool.and_eq_true, decide_eq_true_eq] at this
    rcases this with h8 | h8
    · subst hdt; simp at h8
    · exact h8
  · rcases Nat.lt_or_ge j i with h8 | h8
    · exact key i j oi oj d h8 hi hoi hoj hd
    · exact fun h9 => key j i oj oi d (by omega) hj hoj hoi h9 hd

def unl (n : Nat) (listed : Array Bool) : Nat := ((List.range n).filter fun i => !listed.getD i true).length

theorem filter_set {l : List Nat} (hnd : l.Nodup) {listed : Array Bool} {i : Nat} (hi : i ∈ l) (hun : listed.getD i true = false) :
    (l.filter fun j => !listed.getD j true).length = (l.filter fun j => !(listed.setIfInBounds i true).getD j true).length + 1 := by
  have hiB : i < listed.size := by
    rcases Nat.lt_or_ge i listed.size with h | h
    · exact h
    · simp [Array.getElem?_eq_none h] at hun
  have hset : (listed.setIfInBounds i true).getD i true = true := by simp [hiB]
  induction l with
  | nil => cases hi
  | cons x l ih =>
    rw [List.nodup_cons] at hnd
    by_cases hx : x = i
    · subst hx
      rw [List.filter_cons_of_pos (by simp only [hun]; rfl), List.filter_cons_of_neg (by simp only [hset]; simp), List.length_cons]
      congr 2
      refine List.filter_congr fun j hj => ?_
      rw [getD_set_ne true (fun e : x = j => hnd.1 (by rw [e]; exact hj))]
    · have hi' : i ∈ l := by rcases List.mem_cons.1 hi with h | h; exact absurd h.symm hx; exact h
      have := ih hnd.2 hi'
      rw [List.filter_cons, List.filter_cons, getD_set_ne true (show i ≠ x from fun e => hx e.symm)]
      split
      · rw [List.length_cons, List.length_cons, this]
      · exact this

theorem unl_set {n i : Nat} {listed : Array Bool} (hi : i < n) (hun : listed.getD i true = false) : unl n listed = unl n (listed.setIfInBounds i true) + 1 :=
  filter_set List.nodup_range (List.mem_range.2 hi) hun

theorem listed_all {n : Nat} {ops : Array Oper} {listed : Array Bool} (inv : HeadInv .any ops n listed) (hn : n < ops.size) (h0 : unl n listed = 0) : listed = listedTo n (ops.size - n) := by
  have h1 : ∀ i, i < n → listed.getD i true = true := by
    intro i hi
    have := List.eq_nil_of_length_eq_zero h0
    rw [List.filter_eq_nil_iff] at this
    simpa using this i (List.mem_range.2 hi)
  apply Array.ext
  · rw [inv.size]; simp [listedTo]; omega
  · intro i hi hi2
    rcases Nat.lt_or_ge i n with h | h
    · have := h1 i h
      simp [hi] at this
      simp [listedTo, List.getElem_append, h, this]
    · have := inv.tail i h (by rw [← inv.size]; exact hi)
      simp [hi] at this
      simp [listedTo, List.getElem_append, show ¬ i < n by omega, this]

section
variable {F : Oper → St → Option (Value × Hp)} {ρ0 : Mp} {w0 : World} {N : Nat} {ops : Array Oper} {n : Nat} {st st1 : St} {V : Nat → Value} {L : Nat → Nat} {X : Nat → Slots}

theorem head_go (hF : OpSound P F) (T : Tr F N ops (ops.toList.take n) st st1 V L X) (D : DrawOk ops n) (hcl : ∀ t v, get st.s t = some v → Cl (L 0) v)
    {Q : Exit → Act → World → Prop} (hQ : ∀ a' w', Beh ρ0 st.h w0 N st1 a' w' → wpList P ops Q (ops.toList.drop n) a' w') :
    ∀ (k : Nat) (listed : Array Bool) (ρ : Mp) (a : Act) (w : World), unl n listed = k → HeadInv .any ops n listed → Inv ρ0 w0 N ops n st st1 V L listed ρ a w →
      wpAny P .any ops Q (k + (ops.size - n)) listed a w
  | 0, listed, ρ, a, w, hk, inv, I => by
    have hnl : (ops.toList.take n).length = n := by have := D.hn; simp; omega
    have hl := listed_all inv D.hn hk
    have hin : ∀ j, j < n → listed.getD j false = true := by
      intro j hj
      rw [hl]
      have := D.hn
      simp [listedTo, List.getElem?_append, hj]
    have htake : ∀ j o, j < n → (ops.toList.take n)[j]? = some o → ops[j]? = some o := by
      intro j o hj ho
      rw [List.getElem?_take, if_pos hj] at ho
      simpa using ho
    have htake' : ∀ j o, j < n → ops[j]? = some o → (ops.toList.take n)[j]? = some o := by
      intro j o hj ho
      rw [List.getElem?_take, if_pos hj]
      simpa using ho
    have hL0 : L 0 ≤ st1.h.length := by have := T.le (i := 0) (j := n) (by omega) (by omega); have h2 := T.hn; rw [hnl] at h2; omega
    have hst : st.h = st1.h.take (L 0) := T.pre
    have hlen : st.h.length = L 0 := T.h0.symm
    rw [Nat.zero_add]
    have := wpAny_of_seq (P := P) (md := .any) (ops := ops) (Q' := Q) (ops.toList.drop n) n listed a w (fun j => by simp [List.getElem?_drop]) (by rw [hl]; simpa using D.seq) (hQ a w ?_)
    · simpa using this
    · refine ⟨ρ, I.rel, fun t v e => ?_, ⟨I.os, I.tape, I.output, I.size, fun b hb hn => ?_, fun r' x' p' g1 g2 g3 => ?_, ?_, by omega, fun r hr hn => I.none0 r (by omega) hn⟩, I.hN, I.hd⟩
      · rw [← T.xn, hnl] at e
        rcases slots_at T n (by omega) t v e with ⟨j, o, h1, h2, h3, h4⟩ | ⟨h1, h2⟩
        · subst h4
          exact (I.val j o t h1 (hin j h1) (htake j o h1 h2) h3).1
        · exact I.old t v h2 fun j o hj _ ho => h1 j o hj (htake' j o hj ho)
      · refine I.blk b hb fun r x p h1 h2 h3 h4 => hn r x p ?_ h3 h4
        rw [hst, take_get h1]; exact h2
      · rcases Nat.lt_or_ge r' (L 0) with h1 | h1
        · refine .inr ⟨r', x', p', by rw [hst, take_get h1]; exact g1, ?_, g3, rfl⟩
          rw [← I.base r' x' h1 g1]; exact g2
        · exact .inl (I.newb r' x' p' h1 g1 g2 g3)
      · rw [hst]
        exact step_ext hL0 fun r x p hr hx hp => by rw [I.base r x hr hx]; exact hp
  | k + 1, listed, ρ, a, w, hk, inv, I => by
    have hn := D.hn
    have hnl : (ops.toList.take n).length = n := by simp; omega
    have htake : ∀ j o, j < n → (ops.toList.take n)[j]? = some o → ops[j]? = some o := by
      intro j o hj ho
      rw [List.getElem?_take, if_pos hj] at ho
      simpa using ho
    have htake' : ∀ j o, j < n → ops[j]? = some o → (ops.toList.take n)[j]? = some o := by
      intro j o hj ho
      rw [List.getElem?_take, if_pos hj]
      simpa using ho
    -- something is ready
    obtain ⟨i0, hi0, hun0⟩ : ∃ i, i < n ∧ listed.getD i true = false := by
      unfold unl at hk
      cases hf : (List.range n).filter fun i => !listed.getD i true with
      | nil => rw [hf] at hk; simp at hk
      | cons i r =>
        have : i ∈ (List.range n).filter fun i => !listed.getD i true := by rw [hf]; exact List.mem_cons_self ..
        rw [List.mem_filter, List.mem_range] at this
        exact ⟨i, this.1, by simpa using this.2⟩
    have hready : ∀ (m i : Nat), i = m → i < n → listed.getD i true = false → ∃ j, j ∈ Region.ready .any ops listed := by
      intro m
      induction m using Nat.strongRecOn with
      | _ m ih =>
        intro i him hi hun
        subst him
        by_cases hall : ∀ o, ops[i]? = some o → ∀ e ∈ o.after, Region.binds .any e = true → listed.getD e.on false = true
        · exact ⟨i, mem_ready.2 ⟨hun, ops[i], by simp [show i < ops.size by omega], hall _ (by simp [show i < ops.size by omega])⟩⟩
        · simp only [Classical.not_forall] at hall
          obtain ⟨o, ho, e, he, hb, hl⟩ := hall
          have hlt := D.back i o ho e he hb
          exact ih e.on hlt e.on rfl (by omega) (getD_in (by rw [inv.size]; omega) (by simpa using hl))
    have hsm : k + 1 + (ops.size - n) = (k + (ops.size - n)) + 1 := by omega
    rw [hsm]
    refine ⟨fun h0 => ?_, fun i hi => ?_⟩
    · obtain ⟨j, hj⟩ := hready i0 i0 rfl hi0 hun0
      rw [h0] at hj; cases hj
    · have hin : i < n := by
        rcases Nat.lt_or_ge i n with h | h
        · exact h
        · exact absurd hi (tail_waits D.sink D.chain hn inv _ i0 rfl hi0 hun0 i h)
      obtain ⟨hun, o, ho, hall⟩ := mem_ready.1 hi
      obtain ⟨hdst, hX, hstep⟩ := T.step i o (htake' i o hin ho)
      have hLi : L i ≤ st1.h.length := by have := T.le (i := i) (j := n) (by omega) (by omega); have h2 := T.hn; rw [hnl] at h2; omega
      have Ri : Rel (Pm.res ρ (L i)) (st1.h.take (L i)) w := I.rel.res fun r x p hx hp hr v hv => I.clo r x p hx hp i (by omega) hr v hv
      have Si : SR (Pm.res ρ (L i)) (st1.h.take (L i)) (keep (o.looksAt ops) (X i)) a.tmps := by
        intro t v e
        have htl := get_keep_mem e
        have e2 := get_keep e
        rcases slots_at T i (by omega) t v e2 with ⟨j, oj, h1, h2, h3, h4⟩ | ⟨h1, h2⟩
        · subst h4
          have hoj := htake j oj (by omega) h2
          obtain ⟨_, hw⟩ := D.deps i o t j t hin ho htl (by omega) (by rw [hoj]; exact h3) rfl
          obtain ⟨o', ho', e', he', hb', hon⟩ := Region.waitsFor_spec hw
          rw [ho] at ho'; cases ho'
          have hlj : listed.getD j false = true := by rw [← hon]; exact hall e' he' hb'
          obtain ⟨g1, g2⟩ := I.val j oj t (by omega) hlj hoj h3
          exact g1.res (g2.mono (T.le (by omega) (by omega)))
        · have := I.old t v h2 fun j oj hj hlj hoj hd => by
            obtain ⟨hji, _⟩ := D.deps i o t j t hin ho htl hj (by rw [hoj]; exact hd) rfl
            exact h1 j oj hji (htake' j oj hj hoj) hd
          exact this.res ((hcl t v h2).mono (T.le (by omega) (by omega)))
      have hk' : unl n (listed.setIfInBounds i true) = k := by have := unl_set hin hun; omega
      unfold wpOp
      rw [ho]
      simp only
      rcases hstep with ⟨hw, hV, hLL⟩ | ⟨hw, hFo⟩
      · rw [if_neg (by rw [want_ok Si hw]; simp)]
        have h1 : VR (Pm.res ρ (L i)) (st1.h.take (L (i + 1))) (V i) undef := by rw [hV]; exact undef_vr
        exact head_go hF T D hcl hQ k _ _ _ _ hk' (inv.set hi hin) (Inv.next T rfl (fun i hi => T.own i (by rw [hnl]; exact hi)) hnl I D.dist hin ho hun inv.size h1 (by rw [hLL]; exact Ri) (by rw [hLL]; exact Go1.refl _ _ _) hdst)
      · rw [if_pos (want_ok Si hw)]
        refine .inl (hF o ⟨_, _⟩ (V i) _ hFo (Pm.res ρ (L i)) a w Ri Si _ Q fun v' w' ρ' hv R' G => ?_)
        exact head_go hF T D hcl hQ k _ _ _ _ hk' (inv.set hi hin) (Inv.next T rfl (fun i hi => T.own i (by rw [hnl]; exact hi)) hnl I D.dist hin ho hun inv.size hv R' G hdst)

theorem draw_ok (hm : P.follows .mixedOrders = true) (hF : OpSound P F) (hd : drawOk ops n = true) (e : runH F N ops (ops.toList.take n) st = some st1) {ρ : Mp} {a : Act} {w : World} (R : Rel ρ st.h w) (S : SR ρ st.h st.s a.tmps) (hN : a.tmps.size = N) (hdf : a.defers = [])
    {Q : Exit → Act → World → Prop} (hQ : ∀ a' w', Beh ρ st.h w N st1 a' w' → wpList P ops Q (ops.toList.drop n) a' w') {id : Nat} : (Code.region id ops true).wp P Q a w := by
  have D := drawOk_spec hd
  obtain ⟨V, L, X, T⟩ := trace F N ops _ st st1 e
  have hn := D.hn
  have hnl : (ops.toList.take n).length = n := by simp; omega
  have hst : st.h = st1.h.take (L 0) := T.pre
  have hlen : st.h.length = L 0 := T.h0.symm
  have hL0 : L 0 ≤ st1.h.length := by have := T.le (i := 0) (j := n) (by omega) (by omega); have h2 := T.hn; rw [hnl] at h2; omega
  refine wp_region_any hm ?_
  have R' := R.drew (w.drawn + 1)
  have hlt : ∀ {r p}, ρ r = some p → r < L 0 := fun {r p} hp => by rw [← hlen]; exact R.dom r p hp
  have hcell : ∀ r x p, st1.h[r]? = some (some x) → ρ r = some p → ∀ v, v ∈ x.cells → Cl (L 0) v := by
    intro r x p hx hp v hv
    have hx' : st.h[r]? = some (some x) := by rw [hst, take_get (hlt hp)]; exact hx
    obtain ⟨m, hm⟩ := List.getElem?_of_mem hv
    rw [← hlen]
    cases hro : x.ro with
    | false => obtain ⟨c, e, _, _, _, g4⟩ := R.own r x p hx' hp hro
               obtain ⟨u, _, k2⟩ := g4 m v hm
               exact k2.cl
    | true => obtain ⟨u, _, k2⟩ := R.ro r x p hx' hp hro m v hm
              exact k2.cl
  have stp : Step ρ st.h ρ st1.h := by rw [hst]; exact step_ext hL0 fun _ _ _ _ _ hp => hp
  have I : Inv ρ { w with drawn := w.drawn + 1 } N ops n st st1 V L (Array.replicate ops.size false) ρ a { w with drawn := w.drawn + 1 } :=
    ⟨Rel.ext hL0 (by rw [← hst]; exact R'), fun r x p hx hp k hk hr v hv => (hcell r x p hx hp v hv).mono (T.le (by omega) (by omega)),
     fun j o d hj hlj => (by rw [getD_replicate_false] at hlj; cases hlj), fun t v hg _ => (S t v hg).step stp, fun r p hp => .inl (hlt hp), fun _ _ _ _ => rfl, fun _ _ h => h,
     fun r x p hr hx hp => (by have := hlt hp; omega), rfl, rfl, rfl, Nat.le_refl _, fun _ _ _ => rfl, hN, hdf⟩
  have inv0 : HeadInv .any ops n (Array.replicate ops.size false) :=
    ⟨by simp, fun j oj _ hl => (by rw [getD_replicate_false] at hl; cases hl), fun t _ ht => getD_in (by simpa using ht) (getD_replicate_false _ _)⟩
  have hunl : unl n (Array.replicate ops.size false) = n := by
    unfold unl
    rw [List.filter_eq_self.2]
    · simp
    · intro i hi
      rw [List.mem_range] at hi
      simp [show i < ops.size by omega]
  have := head_go (ρ0 := ρ) (w0 := { w with drawn := w.drawn + 1 }) hF T D (fun t v hg => by rw [← hlen]; exact (S t v hg).cl) (Q := Q) (fun a' w' b => hQ a' w' (b.trans (Go1.drew ρ st.h w _))) n _ ρ a _ hunl inv0 I
  rwa [show n + (ops.size - n) = ops.size by omega] at this
end
end Go.Pm
