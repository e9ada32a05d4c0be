/- Runs with what is to come as data: rules for simp. -/
import Derived.Test.YtagofldjmcaalaaPmO
set_option linter.unusedVariables false
set_option linter.unusedSimpArgs false
namespace Go.Pm

/-- What is to come. -/
inductive Kont where
  | top
  | seq (b : Code) (k : Kont)
  | block (id : Nat) (k : Kont)

def Kq (P : Program) (G : FuncId → GI) (N : Nat) (K : GI) (Q : Ex → St → Prop) : Kont → Ex → St → Prop
  | .top, ex, st => Q ex st
  | .seq b k, ex, st => onN ex (fun _ => Runs P G N K b st (Kq P G N K Q k)) fun _ => Kq P G N K Q k ex st
  | .block id k, ex, st => Kq P G N K Q k (unblock id ex) st
def R (P : Program) (G : FuncId → GI) (N : Nat) (K : GI) (Q : Ex → St → Prop) (c : Code) (st : St) (k : Kont) : Prop := Runs P G N K c st (Kq P G N K Q k)
def RL (P : Program) (G : FuncId → GI) (N : Nat) (K : GI) (Q : Ex → St → Prop) (ops : Array Oper) (l : List Oper) (st : St) (k : Kont) : Prop := RunsL P G N ops l st fun st' => Kq P G N K Q k .normal st'
def OpL (P : Program) (G : FuncId → GI) (N : Nat) (K : GI) (Q : Ex → St → Prop) (op : Op) (d : Option Tmp) (ops : Array Oper) (l : List Oper) (st : St) (k : Kont) : Prop := RunsO P G op st.s st.h fun v h' => RL P G N K Q ops l ⟨put st.s d v, h'⟩ k
def WL (P : Program) (G : FuncId → GI) (N : Nat) (K : GI) (Q : Ex → St → Prop) (x : Option Bool) (o : Oper) (ops : Array Oper) (l : List Oper) (st : St) (k : Kont) : Prop :=
  onW x (fun _ => OpL P G N K Q o.op o.dst ops l st k) fun _ => RL P G N K Q ops l ⟨put st.s o.dst undef, st.h⟩ k
def OL (P : Program) (G : FuncId → GI) (N : Nat) (K : GI) (Q : Ex → St → Prop) (x : Option (Value × Hp)) (d : Option Tmp) (ops : Array Oper) (l : List Oper) (s : Slots) (k : Kont) : Prop := onR x fun v h' => RL P G N K Q ops l ⟨put s d v, h'⟩ k
def CL (P : Program) (G : FuncId → GI) (N : Nat) (K : GI) (Q : Ex → St → Prop) (g : FuncId) (args : List Value) (h : Hp) (d : Option Tmp) (ops : Array Oper) (l : List Oper) (s : Slots) (k : Kont) : Prop := RunsC P G g args h fun v h' => RL P G N K Q ops l ⟨put s d v, h'⟩ k
def FL (P : Program) (G : FuncId → GI) (N : Nat) (K : GI) (Q : Ex → St → Prop) (x : Option Value) (y : Option (List Value)) (d : Option Tmp) (ops : Array Oper) (l : List Oper) (st : St) (k : Kont) : Prop :=
  onF x y fun g args => CL P G N K Q g args st.h d ops l st.s k
def CB (P : Program) (G : FuncId → GI) (N : Nat) (K : GI) (Q : Ex → St → Prop) (x : Option Value) (a b : Code) (st : St) (k : Kont) : Prop := onB x (fun _ => R P G N K Q a st k) fun _ => R P G N K Q b st k
-- regions that draw their order
def RH (P : Program) (G : FuncId → GI) (N : Nat) (K : GI) (Q : Ex → St → Prop) (ops : Array Oper) (l tl : List Oper) (st : St) (k : Kont) : Prop := RunsH P G N ops l st fun st1 => RL P G N K Q ops tl st1 k
def OpH (P : Program) (G : FuncId → GI) (N : Nat) (K : GI) (Q : Ex → St → Prop) (op : Op) (d : Option Tmp) (s' : Slots) (ops : Array Oper) (l tl : List Oper) (st : St) (k : Kont) : Prop := RunsO P G op s' st.h fun v h' => newOk st.h h' ∧ RH P G N K Q ops l tl ⟨put st.s d v, h'⟩ k
def WH (P : Program) (G : FuncId → GI) (N : Nat) (K : GI) (Q : Ex → St → Prop) (x : Option Bool) (s' : Slots) (o : Oper) (ops : Array Oper) (l tl : List Oper) (st : St) (k : Kont) : Prop :=
  onW x (fun _ => OpH P G N K Q o.op o.dst s' ops l tl st k) fun _ => RH P G N K Q ops l tl ⟨put st.s o.dst undef, st.h⟩ k
def OH (P : Program) (G : FuncId → GI) (N : Nat) (K : GI) (Q : Ex → St → Prop) (x : Option (Value × Hp)) (d : Option Tmp) (ops : Array Oper) (l tl : List Oper) (st : St) (k : Kont) : Prop := onR x fun v h' => newOk st.h h' ∧ RH P G N K Q ops l tl ⟨put st.s d v, h'⟩ k
def CH (P : Program) (G : FuncId → GI) (N : Nat) (K : GI) (Q : Ex → St → Prop) (g : FuncId) (args : List Value) (d : Option Tmp) (ops : Array Oper) (l tl : List Oper) (st : St) (k : Kont) : Prop := RunsC P G g args st.h fun v h' => newOk st.h h' ∧ RH P G N K Q ops l tl ⟨put st.s d v, h'⟩ k
def FH (P : Program) (G : FuncId → GI) (N : Nat) (K : GI) (Q : Ex → St → Prop) (x : Option Value) (y : Option (List Value)) (d : Option Tmp) (ops : Array Oper) (l tl : List Oper) (st : St) (k : Kont) : Prop :=
  onF x y fun g args => CH P G N K Q g args d ops l tl st k
def DH (P : Program) (G : FuncId → GI) (N : Nat) (K : GI) (Q : Ex → St → Prop) (x : Option Nat) (ops : Array Oper) (st : St) (k : Kont) : Prop := onH x fun n => RH P G N K Q ops (ops.toList.take n) (ops.toList.drop n) st k

/-- What stands at a function's end. -/
def Fin (P : Program) (rs : Array ResultVar) (h : Hp) (K : Value → Hp → Prop) (ex : Ex) (st : St) : Prop := onX ex fun _ => onV (resP P rs st) fun v => K v (gc h st.h v)
def FinV (h h' : Hp) (K : Value → Hp → Prop) (x : Option Value) : Prop := onV x fun v => K v (gc h h' v)
/-- What stands at the end of a loop's round. -/
def LQ (P : Program) (G : FuncId → GI) (N : Nat) (K : GI) (Q : Ex → St → Prop) (kp : List Nat) (I : Nat → Slots → Hp → Prop) (n : Nat) (k : Kont) (ex : Ex) (st : St) : Prop := onN ex (fun _ => ∃ m, m < n ∧ I m (keep kp st.s) st.h) fun _ => Kq P G N K Q k ex st

section
variable {P : Program} {G : FuncId → GI} {N : Nat} {K : GI} {Q : Ex → St → Prop} {st : St} {k : Kont} {ops : Array Oper} {l tl : List Oper} {o : Oper} {d : Option Tmp} {s s' : Slots} {h : Hp}
@[simp] theorem R_skip : R P G N K Q .skip st k = Kq P G N K Q k .normal st := rfl
@[simp] theorem R_region {id : Nat} : R P G N K Q (.region id ops false) st k = RL P G N K Q ops ops.toList st k := rfl
@[simp] theorem R_draw {id : Nat} : R P G N K Q (.region id ops true) st k = DH P G N K Q (headOf K.heads id) ops st k := rfl
@[simp] theorem R_seq {a b : Code} : R P G N K Q (.seq a b) st k = R P G N K Q a st (.seq b k) := rfl
@[simp] theorem R_cond {c : Operand} {a b : Code} : R P G N K Q (.cond c a b) st k = CB P G N K Q (ev st.s c) a b st k := rfl
@[simp] theorem R_block {id : Nat} {b : Code} : R P G N K Q (.block id b) st k = R P G N K Q b st (.block id k) := rfl
@[simp] theorem R_exit {id : Nat} : R P G N K Q (.exit id) st k = Kq P G N K Q k (.exit id) st := rfl
@[simp] theorem R_ret : R P G N K Q .ret st k = Kq P G N K Q k .ret st := rfl
@[simp] theorem Kq_top {ex : Ex} : Kq P G N K Q .top ex st = Q ex st := rfl
@[simp] theorem Kq_seq {b : Code} : Kq P G N K Q (.seq b k) .normal st = R P G N K Q b st k := rfl
@[simp] theorem Kq_seq_exit {b : Code} {i : Nat} : Kq P G N K Q (.seq b k) (.exit i) st = Kq P G N K Q k (.exit i) st := rfl
@[simp] theorem Kq_seq_ret {b : Code} : Kq P G N K Q (.seq b k) .ret st = Kq P G N K Q k .ret st := rfl
@[simp] theorem Kq_block {id : Nat} : Kq P G N K Q (.block id k) .normal st = Kq P G N K Q k .normal st := rfl
@[simp] theorem Kq_block_ret {id : Nat} : Kq P G N K Q (.block id k) .ret st = Kq P G N K Q k .ret st := rfl
@[simp] theorem Kq_block_exit {id i : Nat} : Kq P G N K Q (.block id k) (.exit i) st = Kq P G N K Q k (if i = id then .normal else .exit i) st := rfl
@[simp] theorem RL_nil : RL P G N K Q ops [] st k = Kq P G N K Q k .normal st := rfl
@[simp] theorem RL_cons : RL P G N K Q ops (o :: l) st k = (dstOk N o.dst = true ∧ WL P G N K Q (wantP ops st.s o) o ops l st k) := rfl
@[simp] theorem WL_true : WL P G N K Q (some true) o ops l st k = OpL P G N K Q o.op o.dst ops l st k := rfl
@[simp] theorem WL_false : WL P G N K Q (some false) o ops l st k = RL P G N K Q ops l ⟨put st.s o.dst undef, st.h⟩ k := rfl
@[simp] theorem OpL_value {x : Operand} {as : Array Operand} {ts : Array TypeId} : OpL P G N K Q (.call ⟨.value x, as, ts⟩) d ops l st k = FL P G N K Q (ev st.s x) (evs st.s as.toList) d ops l st k := rfl
@[simp] theorem OpL_builtin {b : Builtin} {as : Array Operand} {ts : Array TypeId} : OpL P G N K Q (.call ⟨.builtin b, as, ts⟩) d ops l st k = OL P G N K Q ((evs st.s as.toList).bind fun args => builtinP P st.h b ts.toList args) d ops l st.s k := rfl
@[simp] theorem OpL_move {x : Operand} : OpL P G N K Q (.move x) d ops l st k = OL P G N K Q (op1 P st.s st.h (.move x)) d ops l st.s k := rfl
@[simp] theorem OpL_assign {x : Operand} : OpL P G N K Q (.assign x) d ops l st k = OL P G N K Q (op1 P st.s st.h (.assign x)) d ops l st.s k := rfl
@[simp] theorem OpL_pick {c x y : Operand} : OpL P G N K Q (.pick c x y) d ops l st k = OL P G N K Q (op1 P st.s st.h (.pick c x y)) d ops l st.s k := rfl
@[simp] theorem OpL_alloc {e : TypeId} : OpL P G N K Q (.alloc e) d ops l st k = OL P G N K Q (op1 P st.s st.h (.alloc e)) d ops l st.s k := rfl
@[simp] theorem OpL_box {e : TypeId} {x : Operand} : OpL P G N K Q (.box e x) d ops l st k = OL P G N K Q (op1 P st.s st.h (.box e x)) d ops l st.s k := rfl
@[simp] theorem OpL_build {t : TypeId} {p : Array (Nat × Operand)} : OpL P G N K Q (.build t p) d ops l st k = OL P G N K Q (op1 P st.s st.h (.build t p)) d ops l st.s k := rfl
@[simp] theorem OpL_buildSlice {t : TypeId} {n : Nat} {p : Array (Nat × Operand)} : OpL P G N K Q (.buildSlice t n p) d ops l st k = OL P G N K Q (op1 P st.s st.h (.buildSlice t n p)) d ops l st.s k := rfl
@[simp] theorem OpL_load {t : TypeId} {x : Operand} : OpL P G N K Q (.load t x) d ops l st k = OL P G N K Q (op1 P st.s st.h (.load t x)) d ops l st.s k := rfl
@[simp] theorem OpL_store {t : TypeId} {x y : Operand} : OpL P G N K Q (.store t x y) d ops l st k = OL P G N K Q (op1 P st.s st.h (.store t x y)) d ops l st.s k := rfl
@[simp] theorem OpL_nilCheck {x : Operand} : OpL P G N K Q (.nilCheck x) d ops l st k = OL P G N K Q (op1 P st.s st.h (.nilCheck x)) d ops l st.s k := rfl
@[simp] theorem OpL_binOp {b : BinOp} {t t' : TypeId} {x y : Operand} : OpL P G N K Q (.binOp b t x y t') d ops l st k = OL P G N K Q (op1 P st.s st.h (.binOp b t x y t')) d ops l st.s k := rfl
@[simp] theorem OpL_unOp {b : UnOp} {t : TypeId} {x : Operand} : OpL P G N K Q (.unOp b t x) d ops l st k = OL P G N K Q (op1 P st.s st.h (.unOp b t x)) d ops l st.s k := rfl
@[simp] theorem OpL_convert {t t' : TypeId} {x : Operand} : OpL P G N K Q (.convert t t' x) d ops l st k = OL P G N K Q (op1 P st.s st.h (.convert t t' x)) d ops l st.s k := rfl
@[simp] theorem OpL_makeFunc {f : Fn} {x y : Array Operand} : OpL P G N K Q (.makeFunc f x y) d ops l st k = OL P G N K Q (op1 P st.s st.h (.makeFunc f x y)) d ops l st.s k := rfl
@[simp] theorem OpL_makeSlice {t : TypeId} {x y : Operand} : OpL P G N K Q (.makeSlice t x y) d ops l st k = OL P G N K Q (op1 P st.s st.h (.makeSlice t x y)) d ops l st.s k := rfl
@[simp] theorem OpL_slice {t : TypeId} {x : Operand} {a b c : Option Operand} : OpL P G N K Q (.slice t x a b c) d ops l st k = OL P G N K Q (op1 P st.s st.h (.slice t x a b c)) d ops l st.s k := rfl
@[simp] theorem OpL_fieldAddr {t : TypeId} {x : Operand} {j : Nat} : OpL P G N K Q (.fieldAddr t x j) d ops l st k = OL P G N K Q (op1 P st.s st.h (.fieldAddr t x j)) d ops l st.s k := rfl
@[simp] theorem OpL_field {t : TypeId} {x : Operand} {j : Nat} : OpL P G N K Q (.field t x j) d ops l st k = OL P G N K Q (op1 P st.s st.h (.field t x j)) d ops l st.s k := rfl
@[simp] theorem OpL_indexAddr {t : TypeId} {x y : Operand} : OpL P G N K Q (.indexAddr t x y) d ops l st k = OL P G N K Q (op1 P st.s st.h (.indexAddr t x y)) d ops l st.s k := rfl
@[simp] theorem OpL_index {t : TypeId} {x y : Operand} : OpL P G N K Q (.index t x y) d ops l st k = OL P G N K Q (op1 P st.s st.h (.index t x y)) d ops l st.s k := rfl
@[simp] theorem OpL_extract {x : Operand} {j : Nat} : OpL P G N K Q (.extract x j) d ops l st k = OL P G N K Q (op1 P st.s st.h (.extract x j)) d ops l st.s k := rfl
@[simp] theorem OL_some {x : Value × Hp} : OL P G N K Q (some x) d ops l s k = RL P G N K Q ops l ⟨put s d x.1, x.2⟩ k := rfl
@[simp] theorem FL_some {g : FuncId} {f c : Array Value} {args : List Value} : FL P G N K Q (some (.func (.func g) f c)) (some args) d ops l st k = CL P G N K Q g (f.toList ++ args ++ c.toList) st.h d ops l st.s k := rfl
@[simp] theorem CB_true {a b : Code} : CB P G N K Q (some (.bool true)) a b st k = R P G N K Q a st k := rfl
@[simp] theorem CB_false {a b : Code} : CB P G N K Q (some (.bool false)) a b st k = R P G N K Q b st k := rfl
@[simp] theorem DH_some {n : Nat} : DH P G N K Q (some n) ops st k = RH P G N K Q ops (ops.toList.take n) (ops.toList.drop n) st k := rfl
@[simp] theorem RH_nil : RH P G N K Q ops [] tl st k = RL P G N K Q ops tl st k := rfl
@[simp] theorem RH_cons : RH P G N K Q ops (o :: l) tl st k = (dstOk N o.dst = true ∧ WH P G N K Q (wantP ops (keep (o.looksAt ops) st.s) o) (keep (o.looksAt ops) st.s) o ops l tl st k) := rfl
@[simp] theorem WH_true : WH P G N K Q (some true) s' o ops l tl st k = OpH P G N K Q o.op o.dst s' ops l tl st k := rfl
@[simp] theorem WH_false : WH P G N K Q (some false) s' o ops l tl st k = RH P G N K Q ops l tl ⟨put st.s o.dst undef, st.h⟩ k := rfl
@[simp] theorem OpH_value {x : Operand} {as : Array Operand} {ts : Array TypeId} : OpH P G N K Q (.call ⟨.value x, as, ts⟩) d s' ops l tl st k = FH P G N K Q (ev s' x) (evs s' as.toList) d ops l tl st k := rfl
@[simp] theorem OpH_builtin {b : Builtin} {as : Array Operand} {ts : Array TypeId} : OpH P G N K Q (.call ⟨.builtin b, as, ts⟩) d s' ops l tl st k = OH P G N K Q ((evs s' as.toList).bind fun args => builtinP P st.h b ts.toList args) d ops l tl st k := rfl
@[simp] theorem OpH_move {x : Operand} : OpH P G N K Q (.move x) d s' ops l tl st k = OH P G N K Q (op1 P s' st.h (.move x)) d ops l tl st k := rfl
@[simp] theorem OpH_assign {x : Operand} : OpH P G N K Q (.assign x) d s' ops l tl st k = OH P G N K Q (op1 P s' st.h (.assign x)) d ops l tl st k := rfl
@[simp] theorem OpH_pick {c x y : Operand} : OpH P G N K Q (.pick c x y) d s' ops l tl st k = OH P G N K Q (op1 P s' st.h (.pick c x y)) d ops l tl st k := rfl
@[simp] theorem OpH_alloc {e : TypeId} : OpH P G N K Q (.alloc e) d s' ops l tl st k = OH P G N K Q (op1 P s' st.h (.alloc e)) d ops l tl st k := rfl
@[simp] theorem OpH_box {e : TypeId} {x : Operand} : OpH P G N K Q (.box e x) d s' ops l tl st k = OH P G N K Q (op1 P s' st.h (.box e x)) d ops l tl st k := rfl
@[simp] theorem OpH_build {t : TypeId} {p : Array (Nat × Operand)} : OpH P G N K Q (.build t p) d s' ops l tl st k = OH P G N K Q (op1 P s' st.h (.build t p)) d ops l tl st k := rfl
@[simp] theorem OpH_buildSlice {t : TypeId} {n : Nat} {p : Array (Nat × Operand)} : OpH P G N K Q (.buildSlice t n p) d s' ops l tl st k = OH P G N K Q (op1 P s' st.h (.buildSlice t n p)) d ops l tl st k := rfl
@[simp] theorem OpH_load {t : TypeId} {x : Operand} : OpH P G N K Q (.load t x) d s' ops l tl st k = OH P G N K Q (op1 P s' st.h (.load t x)) d ops l tl st k := rfl
@[simp] theorem OpH_store {t : TypeId} {x y : Operand} : OpH P G N K Q (.store t x y) d s' ops l tl st k = OH P G N K Q (op1 P s' st.h (.store t x y)) d ops l tl st k := rfl
@[simp] theorem OpH_nilCheck {x : Operand} : OpH P G N K Q (.nilCheck x) d s' ops l tl st k = OH P G N K Q (op1 P s' st.h (.nilCheck x)) d ops l tl st k := rfl
@[simp] theorem OpH_binOp {b : BinOp} {t t' : TypeId} {x y : Operand} : OpH P G N K Q (.binOp b t x y t') d s' ops l tl st k = OH P G N K Q (op1 P s' st.h (.binOp b t x y t')) d ops l tl st k := rfl
@[simp] theorem OpH_unOp {b : UnOp} {t : TypeId} {x : Operand} : OpH P G N K Q (.unOp b t x) d s' ops l tl st k = OH P G N K Q (op1 P s' st.h (.unOp b t x)) d ops l tl st k := rfl
@[simp] theorem OpH_convert {t t' : TypeId} {x : Operand} : OpH P G N K Q (.convert t t' x) d s' ops l tl st k = OH P G N K Q (op1 P s' st.h (.convert t t' x)) d ops l tl st k := rfl
@[simp] theorem OpH_makeFunc {f : Fn} {x y : Array Operand} : OpH P G N K Q (.makeFunc f x y) d s' ops l tl st k = OH P G N K Q (op1 P s' st.h (.makeFunc f x y)) d ops l tl st k := rfl
@[simp] theorem OpH_makeSlice {t : TypeId} {x y : Operand} : OpH P G N K Q (.makeSlice t x y) d s' ops l tl st k = OH P G N K Q (op1 P s' st.h (.makeSlice t x y)) d ops l tl st k := rfl
@[simp] theorem OpH_slice {t : TypeId} {x : Operand} {a b c : Option Operand} : OpH P G N K Q (.slice t x a b c) d s' ops l tl st k = OH P G N K Q (op1 P s' st.h (.slice t x a b c)) d ops l tl st k := rfl
@[simp] theorem OpH_fieldAddr {t : TypeId} {x : Operand} {j : Nat} : OpH P G N K Q (.fieldAddr t x j) d s' ops l tl st k = OH P G N K Q (op1 P s' st.h (.fieldAddr t x j)) d ops l tl st k := rfl
@[simp] theorem OpH_field {t : TypeId} {x : Operand} {j : Nat} : OpH P G N K Q (.field t x j) d s' ops l tl st k = OH P G N K Q (op1 P s' st.h (.field t x j)) d ops l tl st k := rfl
@[simp] theorem OpH_indexAddr {t : TypeId} {x y : Operand} : OpH P G N K Q (.indexAddr t x y) d s' ops l tl st k = OH P G N K Q (op1 P s' st.h (.indexAddr t x y)) d ops l tl st k := rfl
@[simp] theorem OpH_index {t : TypeId} {x y : Operand} : OpH P G N K Q (.index t x y) d s' ops l tl st k = OH P G N K Q (op1 P s' st.h (.index t x y)) d ops l tl st k := rfl
@[simp] theorem OpH_extract {x : Operand} {j : Nat} : OpH P G N K Q (.extract x j) d s' ops l tl st k = OH P G N K Q (op1 P s' st.h (.extract x j)) d ops l tl st k := rfl
@[simp] theorem OH_some {x : Value × Hp} : OH P G N K Q (some x) d ops l tl st k = (newOk st.h x.2 ∧ RH P G N K Q ops l tl ⟨put st.s d x.1, x.2⟩ k) := rfl
@[simp] theorem FH_some {g : FuncId} {f c : Array Value} {args : List Value} : FH P G N K Q (some (.func (.func g) f c)) (some args) d ops l tl st k = CH P G N K Q g (f.toList ++ args ++ c.toList) d ops l tl st k := rfl
@[simp] theorem Fin_normal {rs : Array ResultVar} {K : Value → Hp → Prop} : Fin P rs h K .normal st = FinV h st.h K (resP P rs st) := rfl
@[simp] theorem Fin_ret {rs : Array ResultVar} {K : Value → Hp → Prop} : Fin P rs h K .ret st = FinV h st.h K (resP P rs st) := rfl
@[simp] theorem FinV_some {h' : Hp} {K : Value → Hp → Prop} {v : Value} : FinV h h' K (some v) = K v (gc h h' v) := rfl
@[simp] theorem LQ_normal {kp : List Nat} {I : Nat → Slots → Hp → Prop} {n : Nat} : LQ P G N K Q kp I n k .normal st = ∃ m, m < n ∧ I m (keep kp st.s) st.h := rfl
@[simp] theorem LQ_exit {kp : List Nat} {I : Nat → Slots → Hp → Prop} {n i : Nat} : LQ P G N K Q kp I n k (.exit i) st = Kq P G N K Q k (.exit i) st := rfl
@[simp] theorem LQ_ret {kp : List Nat} {I : Nat → Slots → Hp → Prop} {n : Nat} : LQ P G N K Q kp I n k .ret st = Kq P G N K Q k .ret st := rfl
@[simp] theorem newOk_self : newOk h h := ⟨List.prefix_rfl, by simp⟩
@[simp] theorem newOk_own {cs : List Value} {sz : Nat} : newOk h (h ++ [some ⟨cs, sz, false⟩]) := ⟨List.prefix_append .., by simp⟩

theorem R_loop {b : Code} (I : Nat → Slots → Hp → Prop) (hb : ∀ n s h, I n s h → R P G N K (LQ P G N K Q (keepAt K.keep (firstId b)) I n k) b ⟨s, h⟩ .top) {n : Nat} (hi : I n (keep (keepAt K.keep (firstId b)) st.s) st.h) : R P G N K Q (.loop b) st k :=
  Runs.loopK I (fun n s h hI => (hb n s h hI).mono fun ex st' h => h) hi

/-- What a function returns and leaves. -/
def Ret (P : Program) (G : FuncId → GI) (g : FuncId) (args : List Value) (h : Hp) (v : Value) (h1 : Hp) : Prop := RunsC P G g args h fun v' h' => v' = v ∧ h' = h1
theorem CL_ret {g : FuncId} {args : List Value} {v : Value} {h1 : Hp} (r : Ret P G g args h v h1) : CL P G N K Q g args h d ops l s k = RL P G N K Q ops l ⟨put s d v, h1⟩ k := propext (RunsC.iff r _)
theorem CH_ret {g : FuncId} {args : List Value} {v : Value} {h1 : Hp} (r : Ret P G g args st.h v h1) : CH P G N K Q g args d ops l tl st k = (newOk st.h h1 ∧ RH P G N K Q ops l tl ⟨put st.s d v, h1⟩ k) := propext (RunsC.iff r _)
theorem CL_post {g : FuncId} {args : List Value} {Kp : Value → Hp → Prop} (r : RunsC P G g args h Kp) (hk : ∀ v h', Kp v h' → RL P G N K Q ops l ⟨put s d v, h'⟩ k) : CL P G N K Q g args h d ops l s k := RunsC.mono r hk
theorem CH_post {g : FuncId} {args : List Value} {Kp : Value → Hp → Prop} (r : RunsC P G g args st.h Kp) (hk : ∀ v h', Kp v h' → newOk st.h h' ∧ RH P G N K Q ops l tl ⟨put st.s d v, h'⟩ k) : CH P G N K Q g args d ops l tl st k := RunsC.mono r hk
theorem enter_run {g : FuncId} {args : List Value} {Kp : Value → Hp → Prop} {c : Code} {rs : Array ResultVar} (he : enterG P (G g) g = some (c, N, rs)) (hl : args.length ≤ N) (r : R P G N (G g) (Fin P rs h Kp) c ⟨number 0 args, h⟩ .top) : RunsC P G g args h Kp :=
  RunsC.enter he hl (Runs.mono r fun ex st' h => h)
theorem CB_split {c : Bool} {a b : Code} (ht : c = true → R P G N K Q a st k) (hf : c = false → R P G N K Q b st k) : CB P G N K Q (some (.bool c)) a b st k := by
  cases c with
  | true => exact ht rfl
  | false => exact hf rfl
theorem WL_split {c : Bool} (ht : c = true → OpL P G N K Q o.op o.dst ops l st k) (hf : c = false → RL P G N K Q ops l ⟨put st.s o.dst undef, st.h⟩ k) : WL P G N K Q (some c) o ops l st k := by
  cases c with
  | true => exact ht rfl
  | false => exact hf rfl
theorem WH_split {c : Bool} (ht : c = true → OpH P G N K Q o.op o.dst s' ops l tl st k) (hf : c = false → RH P G N K Q ops l tl ⟨put st.s o.dst undef, st.h⟩ k) : WH P G N K Q (some c) s' o ops l tl st k := by
  cases c with
  | true => exact ht rfl
  | false => exact hf rfl
end
end Go.Pm
