/- A small machine over the model's own code: values whose addresses name rows of a list, one order, no capacities that are left open. -/
import Derived.Tactics
import Derived.LoopN
import Derived.Orders
import Derived.StillTail
set_option linter.unusedVariables false
set_option linter.unusedSimpArgs false
namespace Go.Pm

/-- A row of memory: its cells, how many cells an element has, whether it may only be read. -/
structure Row where
  cells : List Value
  sz : Nat
  ro : Bool

/-- Memory: rows by their numbers; 'none': a row that is gone. An address is ⟨row, offset, some (the row's length when the address was made)⟩. -/
abbrev Hp := List (Option Row)

def rowAt (h : Hp) (a : Addr) : Option Row :=
  match h[a.block]? with
  | some (some x) => if a.spot = some x.cells.length then some x else none
  | _ => none

def one : Value → Bool
  | .agg _ | .tuple _ => false
  | _ => true

/-- Values that lead nowhere. -/
def plainC : Value → Bool
  | .bool _ | .int _ _ | .string _ | .pointer none | .nilFunc | .slice none 0 0 => true
  | _ => false
def plain : Value → Bool
  | .agg cs => cs.toList.all plainC
  | .tuple cs => cs.toList.all plainC
  | v => plainC v

abbrev Slots := List (Nat × Value)
structure St where
  s : Slots
  h : Hp

def get : Slots → Nat → Option Value
  | [], _ => none
  | (k, v) :: r, t => if k = t then some v else get r t

def ev (s : Slots) : Operand → Option Value
  | .tmp t => get s t
  | .const v => if plain v then some v else none
  | .global _ => none
  | .func f => some (.func (.func f) #[] #[])

def evs (s : Slots) : List Operand → Option (List Value)
  | [] => some []
  | x :: r => (ev s x).bind fun v => (evs s r).map fun l => v :: l

def put (s : Slots) (d : Option Tmp) (v : Value) : Slots :=
  match d with
  | some d => (d, v) :: s
  | none => s

/-- The slots that a loop's head keeps. -/
def keep (K : List Nat) (s : Slots) : Slots := K.filterMap fun t => (get s t).map fun v => (t, v)

def splice : List Value → Nat → List Value → List Value
  | cs, _, [] => cs
  | cs, o, v :: r => splice (cs.set o v) (o + 1) r

def aggD : TypeDesc → Bool
  | .struct _ | .array _ _ => true
  | _ => false

def asI : Value → Option Int
  | .int _ n => some n
  | _ => none

def binI (op : BinOp) (k : IntKind) (a b : Int) : Option Value :=
  match op with
  | .add => some (.int k (k.wrap (a + b)))
  | .sub => some (.int k (k.wrap (a - b)))
  | .mul => some (.int k (k.wrap (a * b)))
  | .quo => if b = 0 then none else some (.int k (k.wrap (a.tdiv b)))
  | .rem => if b = 0 then none else some (.int k (a.tmod b))
  | .and => some (.int k (k.wrap (BitVec.ofInt k.bits a &&& BitVec.ofInt k.bits b).toNat))
  | .or => some (.int k (k.wrap (BitVec.ofInt k.bits a ||| BitVec.ofInt k.bits b).toNat))
  | .xor => some (.int k (k.wrap (BitVec.ofInt k.bits a ^^^ BitVec.ofInt k.bits b).toNat))
  | .andNot => some (.int k (k.wrap (BitVec.ofInt k.bits a &&& ~~~ BitVec.ofInt k.bits b).toNat))
  | .eql => some (.bool (a == b))
  | .neq => some (.bool (a != b))
  | .lss => some (.bool (decide (a < b)))
  | .leq => some (.bool (decide (a ≤ b)))
  | .gtr => some (.bool (decide (a > b)))
  | .geq => some (.bool (decide (a ≥ b)))
  | _ => none

def binS (op : BinOp) (x y : ByteArray) : Option Value :=
  match op with
  | .add => if ((x.size + y.size : Nat) : Int) > IntKind.i64.max then none else some (.string (x ++ y))
  | .eql => some (.bool (x.toList == y.toList))
  | .neq => some (.bool (!(x.toList == y.toList)))
  | .lss => some (.bool (Op.bytesLess x.toList y.toList))
  | .leq => some (.bool (Op.bytesLess x.toList y.toList || x.toList == y.toList))
  | .gtr => some (.bool (!(Op.bytesLess x.toList y.toList || x.toList == y.toList)))
  | .geq => some (.bool (!(Op.bytesLess x.toList y.toList)))
  | _ => none

def shiftI (op : BinOp) (k : IntKind) (a b : Int) : Option Value :=
  if b < 0 then none else
  match op with
  | .shl => some (.int k (k.wrap (a * 2 ^ (min b.toNat k.bits))))
  | .shr => some (.int k (a.fdiv (2 ^ (min b.toNat k.bits))))
  | _ => none

def isShift : BinOp → Bool
  | .shl | .shr => true
  | _ => false

def binP (P : Program) (op : BinOp) (t : TypeId) (x y : Value) : Option Value :=
  match x, y with
  | .int k a, .int k' b => if isShift op then shiftI op k a b else if k = k' then binI op k a b else none
  | .string a, .string b => binS op a b
  | .bool a, .bool b =>
    match P.underlying t, op with
    | some .bool, .eql => some (.bool (a == b))
    | some .bool, .neq => some (.bool (!(a == b)))
    | _, _ => none
  | _, _ => none

def unP (op : UnOp) (x : Value) : Option Value :=
  match op, x with
  | .neg, .int k n => some (.int k (k.wrap (0 - n)))
  | .not, .bool b => some (.bool !b)
  | _, _ => none

def loadP (P : Program) (h : Hp) (t : TypeId) : Value → Option Value
  | .pointer (some a) =>
    match rowAt h a, P.underlying t, P.info? t with
    | some x, some d, some i =>
      if aggD d then if a.off + i.size ≤ x.cells.length then some (.agg ((x.cells.drop a.off).take i.size).toArray) else none
      else x.cells[a.off]?
    | _, _, _ => none
  | _ => none

def storeP (P : Program) (h : Hp) (t : TypeId) (v : Value) : Value → Option Hp
  | .pointer (some a) =>
    match rowAt h a, P.info? t with
    | some x, some i =>
      if x.ro = false ∧ v.cells.size = i.size ∧ a.off + i.size ≤ x.cells.length ∧ v.cells.toList.all one = true then some (h.set a.block (some { x with cells := splice x.cells a.off v.cells.toList })) else none
    | _, _ => none
  | _ => none

def newP (h : Hp) (cells : List Value) (sz : Nat) : Addr × Hp := (⟨h.length, 0, some cells.length⟩, h ++ [some ⟨cells, sz, false⟩])

def addP (a : Addr) (n : Nat) : Addr := { a with off := a.off + n }

def partP (P : Program) (t : TypeId) (cs : List Value) (off : Nat) : Option Value :=
  match P.underlying t, P.info? t with
  | some d, some i => if aggD d then some (.agg ((cs.drop off).take i.size).toArray) else cs[off]?
  | _, _ => none

def fieldsOf (P : Program) (t : TypeId) : Option (List Field) :=
  match P.underlying t with
  | some (.struct fs) => some fs.toList
  | _ => none

def indexAddrP (P : Program) (h : Hp) (t : TypeId) (x i : Value) : Option Value :=
  match P.underlying t, x, i with
  | some (.slice e), .slice (some a) n _, .int _ j =>
    match P.info? e, rowAt h a with
    | some q, some _ => if 0 ≤ j ∧ j < n then some (.pointer (some (addP a (j.toNat * q.size)))) else none
    | _, _ => none
  | some (.array n e), .pointer (some a), .int _ j =>
    match P.info? e with
    | some q => if 0 ≤ j ∧ j < n then some (.pointer (some (addP a (j.toNat * q.size)))) else none
    | _ => none
  | _, _, _ => none

def indexP (P : Program) (t : TypeId) (x i : Value) : Option Value :=
  match P.underlying t, x, i with
  | some (.array n e), .agg cs, .int _ j =>
    match P.info? e with
    | some q => if 0 ≤ j ∧ j < n then partP P e cs.toList (j.toNat * q.size) else none
    | _ => none
  | some .string, .string s, .int _ j => if 0 ≤ j then (s[j.toNat]?).map fun b => .int .u8 b.toNat else none
  | _, _, _ => none

def loP : Option Value → Option Int
  | some v => asI v
  | none => some 0
def hiP (d : Int) : Option Value → Option Int
  | some v => asI v
  | none => some d

def sliceP (P : Program) (h : Hp) (t : TypeId) (x : Value) (lo hi : Option Value) : Option Value :=
  match P.underlying t, x with
  | some (.slice e), .slice (some a) n c =>
    match P.info? e, rowAt h a, hiP n hi, loP lo with
    | some q, some x, some u, some l =>
      if 0 ≤ l ∧ l ≤ u ∧ u ≤ c ∧ x.sz = q.size then some (.slice (some (addP a (l.toNat * q.size))) (u.toNat - l.toNat) (c - l.toNat)) else none
    | _, _, _, _ => none
  | some (.slice e), .slice none 0 0 =>
    match P.info? e, hiP 0 hi, loP lo with
    | some _, some u, some l => if l = 0 ∧ u = 0 then some (.slice none 0 0) else none
    | _, _, _ => none
  | some .string, .string s =>
    match hiP s.size hi, loP lo with
    | some u, some l => if 0 ≤ l ∧ l ≤ u ∧ u ≤ s.size then some (.string (s.extract l.toNat u.toNat)) else none
    | _, _ => none
  | _, _ => none

def zeroP (P : Program) (t : TypeId) : Option Value :=
  match P.info? t with
  | some i => match i.zero with
    | some z => if plain z ∧ z.cells.size = i.size then some z else none
    | none => none
  | none => none

def reps : Nat → List Value → List Value
  | 0, _ => []
  | n + 1, z => z ++ reps n z

def makeP (P : Program) (h : Hp) (t : TypeId) (l c : Value) : Option (Value × Hp) :=
  match P.underlying t, asI l, asI c with
  | some (.slice e), some n, some m =>
    match P.info? e, zeroP P e with
    | some q, some z =>
      if 0 ≤ n ∧ n ≤ m ∧ m * q.bytes ≤ 2 ^ 47 ∧ 0 < q.size ∧ 0 < q.bytes ∧ m < 2 ^ 62 then
        let r := newP h (reps m.toNat z.cells.toList) q.size
        some (.slice (some r.1) n.toNat m.toNat, r.2)
      else none
    | _, _ => none
  | _, _, _ => none

def fillP (place : Nat → Option (Nat × Nat)) : List Value → List (Nat × Value) → Option (List Value)
  | cells, [] => some cells
  | cells, (i, v) :: r =>
    match place i with
    | none => none
    | some (off, size) => if v.cells.size = size ∧ off + size ≤ cells.length then fillP place (splice cells off v.cells.toList) r else none

def places (P : Program) : List Field → Option (List (Nat × Nat))
  | [] => some []
  | f :: r => match P.info? f.type, places P r with
    | some i, some l => some ((f.offset, i.size) :: l)
    | _, _ => none

def buildP (P : Program) (t : TypeId) (parts : List (Nat × Value)) : Option Value :=
  match P.underlying t, zeroP P t with
  | some (.struct fs), some z =>
    match places P fs.toList with
    | some pl => (fillP (pl[·]?) z.cells.toList parts).map fun cs => .agg cs.toArray
    | none => none
  | some (.array _ e), some z =>
    match P.info? e with
    | some q => (fillP (fun i => some (i * q.size, q.size)) z.cells.toList parts).map fun cs => .agg cs.toArray
    | none => none
  | _, _ => none

def buildSliceP (P : Program) (h : Hp) (t : TypeId) (len : Nat) (parts : List (Nat × Value)) : Option (Value × Hp) :=
  match P.underlying t with
  | some (.slice e) =>
    match P.info? e, zeroP P e with
    | some q, some z =>
      if 0 < q.size ∧ len * q.size ≤ 2 ^ 24 then
        match fillP (fun i => some (i * q.size, q.size)) (reps len z.cells.toList) parts with
        | some cs => if cs.all one then
            let r := newP h cs q.size
            some (.slice (some r.1) len len, r.2) else none
        | none => none
      else none
    | _, _ => none
  | _ => none

def evParts (s : Slots) : List (Nat × Operand) → Option (List (Nat × Value))
  | [] => some []
  | (i, x) :: r => (ev s x).bind fun v => (evParts s r).map fun l => (i, v) :: l

def evO (s : Slots) : Option Operand → Option (Option Value)
  | none => some none
  | some x => (ev s x).map some

/-- Operations that call no function. -/
def op1 (P : Program) (s : Slots) (h : Hp) : Op → Option (Value × Hp)
  | .move x | .assign x => (ev s x).map fun v => (v, h)
  | .pick c a b => match ev s c with
    | some (.bool t) => (ev s (if t then a else b)).map fun v => (v, h)
    | _ => none
  | .alloc e => (zeroP P e).map fun z => let r := newP h z.cells.toList 0; (.pointer (some r.1), r.2)
  | .box _ x => (ev s x).bind fun v => if v.cells.toList.all one then let r := newP h v.cells.toList 0; some (.pointer (some r.1), r.2) else none
  | .build t parts => (evParts s parts.toList).bind fun l => (buildP P t l).map fun v => (v, h)
  | .buildSlice t len parts => (evParts s parts.toList).bind fun l => buildSliceP P h t len l
  | .load t a => (ev s a).bind fun v => (loadP P h t v).map fun x => (x, h)
  | .store t a x => (ev s a).bind fun v => (ev s x).bind fun u => (storeP P h t u v).map fun h' => (undef, h')
  | .nilCheck x => match ev s x with
    | some (.pointer (some a)) => some (.pointer (some a), h)
    | some (.func (.func f) a b) => some (.func (.func f) a b, h)
    | _ => none
  | .binOp op t x y _ => (ev s x).bind fun v => (ev s y).bind fun u => (binP P op t v u).map fun r => (r, h)
  | .unOp op _ x => (ev s x).bind fun v => (unP op v).map fun r => (r, h)
  | .makeFunc fn first captured => (evs s first.toList).bind fun a => (evs s captured.toList).map fun b => (.func fn a.toArray b.toArray, h)
  | .makeSlice t l c => (ev s l).bind fun a => (ev s c).bind fun b => makeP P h t a b
  | .slice t x lo hi mx => match mx with
    | none => (ev s x).bind fun v => (evO s lo).bind fun l => (evO s hi).bind fun u => (sliceP P h t v l u).map fun r => (r, h)
    | some _ => none
  | .fieldAddr t x j => match fieldsOf P t, ev s x with
    | some fs, some (.pointer (some a)) => match fs[j]? with
      | some f => match P.info? f.type with
        | some i => if 0 < i.size then some (.pointer (some (addP a f.offset)), h) else none
        | none => none
      | none => none
    | _, _ => none
  | .field t x j => match fieldsOf P t, ev s x with
    | some fs, some (.agg cs) => match fs[j]? with
      | some f => (partP P f.type cs.toList f.offset).map fun v => (v, h)
      | none => none
    | _, _ => none
  | .indexAddr t x i => (ev s x).bind fun v => (ev s i).bind fun u => (indexAddrP P h t v u).map fun r => (r, h)
  | .index t x i => (ev s x).bind fun v => (ev s i).bind fun u => (indexP P t v u).map fun r => (r, h)
  | .extract x j => match ev s x with
    | some (.tuple vs) => (vs[j]?).map fun v => (v, h)
    | _ => none
  | _ => none

/-- The cells of a slice that are seen. -/
def seenP (h : Hp) (size : Nat) : Value → Option (List Value)
  | .slice none 0 0 => some []
  | .slice (some a) n _ => match rowAt h a with
    | some x => if a.off + n * size ≤ x.cells.length ∧ x.sz = size then some ((x.cells.drop a.off).take (n * size)) else none
    | none => none
  | _ => none

def lenP : Value → Option Nat
  | .slice _ n _ => some n
  | _ => none

/-- append: in place where what is seen has room; a row that is grown at its end keeps its number; else a new row, and the old one is gone. -/
def appendP (P : Program) (h : Hp) (t : TypeId) (s x : Value) : Option (Value × Hp) :=
  match P.underlying t with
  | some (.slice e) =>
    match P.info? e, zeroP P e, lenP x with
    | some q, some _, some m =>
      match seenP h q.size x with
      | some ys =>
        if 0 < q.size ∧ 0 < q.bytes ∧ ys.all one = true then
          match s with
          | .slice none 0 0 =>
            if m = 0 then some (.slice none 0 0, h)
            else if m * q.bytes ≤ 2 ^ 47 then
              let r := newP h ys q.size
              some (.slice (some r.1) m m, r.2)
            else none
          | .slice (some a) n c =>
            match rowAt h a with
            | some r =>
              if r.ro = false ∧ r.sz = q.size ∧ a.off + c * q.size ≤ r.cells.length ∧ (n + m) * q.bytes ≤ 2 ^ 47 then
                if n + m ≤ c then some (.slice (some a) (n + m) c, h.set a.block (some { r with cells := splice r.cells (a.off + n * q.size) ys }))
                else if a.off = 0 ∧ n * q.size = r.cells.length then
                  some (.slice (some ⟨a.block, 0, some (r.cells ++ ys).length⟩) (n + m) (n + m), h.set a.block (some { r with cells := r.cells ++ ys }))
                else
                  let zs := (r.cells.drop a.off).take (n * q.size) ++ ys
                  let w := newP (h.set a.block none) zs q.size
                  some (.slice (some w.1) (n + m) (n + m), w.2)
              else none
            | none => none
          | _ => none
        else none
      | none => none
    | _, _, _ => none
  | _ => none

def copyP (P : Program) (h : Hp) (t : TypeId) (d x : Value) : Option (Value × Hp) :=
  match P.underlying t, lenP d, lenP x with
  | some (.slice e), some n, some m =>
    match P.info? e with
    | some q =>
      match d, seenP h q.size x with
      | .slice none 0 0, some _ => some (.int .i64 0, h)
      | .slice (some a) _ _, some ys =>
        match rowAt h a with
        | some r =>
          if r.ro = false ∧ r.sz = q.size ∧ a.off + n * q.size ≤ r.cells.length ∧ ys.all one = true then
            some (.int .i64 (min m n : Nat), h.set a.block (some { r with cells := splice r.cells a.off (ys.take (min m n * q.size)) }))
          else none
        | none => none
      | _, _ => none
    | none => none
  | _, _, _ => none

def lenB (P : Program) (t : TypeId) (x : Value) : Option Value :=
  match P.underlying t, x with
  | some .string, .string s => some (.int .i64 s.size)
  | some (.array n _), _ => some (.int .i64 n)
  | some (.slice _), .slice _ n _ => some (.int .i64 n)
  | _, _ => none

def foldI (f : Int → Int → Int) : Int → List Value → Option Int
  | a, [] => some a
  | a, .int .i64 b :: r => foldI f (f a b) r
  | _, _ => none

def builtinP (P : Program) (h : Hp) (b : Builtin) (ts : List TypeId) (args : List Value) : Option (Value × Hp) :=
  match b, ts, args with
  | .len, t :: _, x :: _ => (lenB P t x).map fun v => (v, h)
  | .append, [t, u], [s, x] => if t = u then appendP P h t s x else none
  | .copy, [t, _], [d, x] => copyP P h t d x
  | .max, _, .int .i64 a :: r => (foldI (fun x y => if y > x then y else x) a r).map fun v => (.int .i64 v, h)
  | .min, _, .int .i64 a :: r => (foldI (fun x y => if y < x then y else x) a r).map fun v => (.int .i64 v, h)
  | _, _, _ => none

def wantP (ops : Array Oper) (s : Slots) (o : Oper) : Option Bool :=
  match o.guard with
  | none => some true
  | some (j, want) => match (ops[j]?).bind (·.dst) with
    | some d => match get s d with
      | some (.bool b) => some (b == want)
      | some _ => some false
      | none => none
    | none => some false

inductive Ex where
  | normal
  | exit (id : Nat)
  | ret

def dstOk (N : Nat) : Option Tmp → Bool
  | some d => decide (d < N)
  | none => true

def number : Nat → List Value → Slots
  | _, [] => []
  | i, v :: r => (i, v) :: number (i + 1) r

def res1 (P : Program) (st : St) : ResultVar → Option Value
  | .tmp t => get st.s t
  | .cell a t => (get st.s a).bind (loadP P st.h t)

def resL (P : Program) (st : St) : List ResultVar → Option (List Value)
  | [] => some []
  | x :: r => (res1 P st x).bind fun v => (resL P st r).map fun l => v :: l

def resP (P : Program) (rs : Array ResultVar) (st : St) : Option Value :=
  (resL P st rs.toList).map fun
    | [v] => v
    | l => .tuple l.toArray

/-- A function that may be entered: its code, its slots, its results. -/
def enterP (P : Program) (g : FuncId) : Option (Code × Nat × Array ResultVar) :=
  match P.funcs[g]? with
  | some fn => if fn.name == "runtime.NumGoroutine" then none else match fn.body with
    | some c => some (c, fn.ntmps, fn.results)
    | none => none
  | none => none

/-- What is told of a function beside its code: the slots that a loop's head keeps; of each region that draws its order, how many operations may come up in any order before the rest comes in line. -/
structure GI where
  keep : List (Nat × List Nat)
  heads : List (Nat × Nat)

/-- The number of the first region of a piece of code. -/
def firstId : Code → Nat
  | .region id _ _ => id
  | .seq a _ => firstId a
  | .cond _ a _ => firstId a
  | .block _ b => firstId b
  | .loop b => firstId b
  | _ => 0
def keepAt : List (Nat × List Nat) → Nat → List Nat
  | [], _ => []
  | (k, l) :: r, id => if k = id then l else keepAt r id

def headOf : List (Nat × Nat) → Nat → Option Nat
  | [], _ => none
  | (k, n) :: r, id => if k = id then some n else headOf r id

def listedTo (n m : Nat) : Array Bool := (List.replicate n true ++ List.replicate m false).toArray

/-- The first n operations may come up in any order that the edges allow; the others come in line behind them. -/
def drawOk (ops : Array Oper) (n : Nat) : Bool :=
  decide (n < ops.size) && Region.sinkB .any ops n && Region.chainB .any ops n && Region.seqB .any ops (ops.size - n) n (listedTo n (ops.size - n)) &&
  ((List.range ops.size).all fun i => match ops[i]? with
    | some o => o.after.all fun e => !Region.binds .any e || decide (e.on < i)
    | none => true) &&
  ((List.range n).all fun i => match ops[i]? with
    | some o => (o.looksAt ops).all fun t => (List.range n).all fun j => match (ops[j]?).bind (·.dst) with
      | some d => d != t || (decide (j < i) && Region.waitsFor .any ops i j)
      | none => true
    | none => true) &&
  ((List.range n).all fun i => match (ops[i]?).bind (·.dst) with
    | some d => (List.range i).all fun j => (ops[j]?).bind (·.dst) != some d
    | none => true)

def codeOk (gi : GI) : Code → Bool
  | .region id ops true => match headOf gi.heads id with
    | some n => drawOk ops n
    | none => true
  | .seq a b => codeOk gi a && codeOk gi b
  | .cond _ a b => codeOk gi a && codeOk gi b
  | .block _ b => codeOk gi b
  | .loop b => codeOk gi b
  | _ => true

def enterG (P : Program) (gi : GI) (g : FuncId) : Option (Code × Nat × Array ResultVar) :=
  match enterP P g with
  | some (c, N, rs) => if codeOk gi c then some (c, N, rs) else none
  | none => none

def newOk (h h' : Hp) : Prop := h <+: h' ∧ (h'.drop h.length).all (fun | some x => !x.ro | none => true) = true
open Classical in
/-- Operations that may come up in any order: none of them writes what was there. -/
noncomputable def runH (F : Oper → St → Option (Value × Hp)) (N : Nat) (ops : Array Oper) : List Oper → St → Option St
  | [], st => some st
  | o :: r, st =>
    if dstOk N o.dst then match wantP ops (keep (o.looksAt ops) st.s) o with
      | some false => runH F N ops r ⟨put st.s o.dst undef, st.h⟩
      | some true => match F o ⟨keep (o.looksAt ops) st.s, st.h⟩ with
        | some (v, h') => if newOk st.h h' then runH F N ops r ⟨put st.s o.dst v, h'⟩ else none
        | none => none
      | none => none
    else none

open Classical in
/-- What a function leaves in memory: nothing, if its result leads nowhere and what was there is as it was. -/
noncomputable def gc (h h' : Hp) (v : Value) : Hp := if plain v = true ∧ h <+: h' then h else h'

mutual
noncomputable def exec (P : Program) (G : FuncId → GI) : Nat → Nat → GI → Code → St → Option (Ex × St)
  | 0, _, _, _, _ => none
  | f + 1, N, K, c, st => match c with
    | .skip => some (.normal, st)
    | .region id ops draw => if draw then match headOf K.heads id with
        | some n => match runH (fun o st => execO P G f o st) N ops (ops.toList.take n) st with
          | some st1 => (execL P G f N ops (ops.toList.drop n) st1).map fun st' => (.normal, st')
          | none => none
        | none => none
      else (execL P G f N ops ops.toList st).map fun st' => (.normal, st')
    | .seq a b => match exec P G f N K a st with
      | some (.normal, st') => exec P G f N K b st'
      | r => r
    | .cond c a b => match ev st.s c with
      | some (.bool t) => if t then exec P G f N K a st else exec P G f N K b st
      | _ => none
    | .block id b => match exec P G f N K b st with
      | some (.exit id', st') => if id' = id then some (.normal, st') else some (.exit id', st')
      | r => r
    | .loop b => match exec P G f N K b { st with s := keep (keepAt K.keep (firstId b)) st.s } with
      | some (.normal, st') => exec P G f N K (.loop b) st'
      | r => r
    | .exit id => some (.exit id, st)
    | .ret => some (.ret, st)
    | _ => none
noncomputable def execL (P : Program) (G : FuncId → GI) : Nat → Nat → Array Oper → List Oper → St → Option St
  | 0, _, _, _, _ => none
  | f + 1, N, ops, l, st => match l with
    | [] => some st
    | o :: r => if dstOk N o.dst then match wantP ops st.s o with
      | some false => execL P G f N ops r { st with s := put st.s o.dst undef }
      | some true => match execO P G f o st with
        | some (v, h) => execL P G f N ops r ⟨put st.s o.dst v, h⟩
        | none => none
      | none => none else none
noncomputable def execO (P : Program) (G : FuncId → GI) : Nat → Oper → St → Option (Value × Hp)
  | 0, _, _ => none
  | f + 1, o, st => match o.op with
    | .call c => match c.callee with
      | .value x => match ev st.s x, evs st.s c.args.toList with
        | some (.func (.func g) first cap), some args => callP P G f g (first.toList ++ args ++ cap.toList) st.h
        | _, _ => none
      | .builtin b => (evs st.s c.args.toList).bind fun args => builtinP P st.h b c.argTypes.toList args
      | .invoke _ _ => none
    | op => op1 P st.s st.h op
noncomputable def callP (P : Program) (G : FuncId → GI) : Nat → FuncId → List Value → Hp → Option (Value × Hp)
  | 0, _, _, _ => none
  | f + 1, g, args, h => match enterG P (G g) g with
    | some (c, N, rs) => if args.length ≤ N then match exec P G f N (G g) c ⟨number 0 args, h⟩ with
      | some (.exit _, _) => none
      | some (_, st) => (resP P rs st).map fun v => (v, gc h st.h v)
      | none => none else none
    | none => none
end
end Go.Pm
