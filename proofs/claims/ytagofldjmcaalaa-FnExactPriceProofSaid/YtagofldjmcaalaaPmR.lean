/- Rows that a function has made itself: rules for simp. -/
import Derived.Test.YtagofldjmcaalaaPmQ
set_option linter.unusedVariables false
set_option linter.unusedSimpArgs false
namespace Go.Pm
section
variable {P : Program} {h l : Hp} {x : Row} {y : Option Row} {k o : Nat} {sp : Option Nat} {t : TypeId} {v : Value}

def allOne : List Value → Bool
  | [] => true
  | v :: r => one v && allOne r
@[simp ↓] theorem all_one (l : List Value) : l.all one = allOne l := by
  induction l with
  | nil => rfl
  | cons v r ih => simp only [List.all_cons, allOne, ih]
@[simp] theorem allOne_nil : allOne [] = true := rfl
@[simp] theorem allOne_cons (v : Value) (r : List Value) : allOne (v :: r) = (one v && allOne r) := rfl
theorem hget_app (h l : Hp) (k : Nat) : (h ++ l)[h.length + k]? = l[k]? := by
  have := List.getElem?_append_right (l₁ := h) (l₂ := l) (i := h.length + k) (by omega)
  rwa [Nat.add_sub_cancel_left] at this
theorem hget_app0 (h l : Hp) : (h ++ l)[h.length]? = l[0]? := hget_app h l 0
theorem hset_app (h l : Hp) (k : Nat) (y : Option Row) : List.set (h ++ l) (h.length + k) y = h ++ List.set l k y := by
  have := List.set_append_right (s := h) (t := l) (i := h.length + k) (x := y) (by omega)
  rwa [Nat.add_sub_cancel_left] at this
theorem hset_app0 (h l : Hp) (y : Option Row) : List.set (h ++ l) h.length y = h ++ List.set l 0 y := hset_app h l 0 y

@[simp] theorem rowAt_app : rowAt (h ++ l) ⟨h.length + k, o, sp⟩ = rowAt l ⟨k, o, sp⟩ := by unfold rowAt; rw [hget_app]
@[simp] theorem rowAt_app0 : rowAt (h ++ l) ⟨h.length, o, sp⟩ = rowAt l ⟨0, o, sp⟩ := by unfold rowAt; rw [hget_app0]
@[simp] theorem rowAt_zero : rowAt (some x :: l) ⟨0, o, sp⟩ = if sp = some x.cells.length then some x else none := by simp [rowAt]
@[simp] theorem rowAt_succ : rowAt (y :: l) ⟨k + 1, o, sp⟩ = rowAt l ⟨k, o, sp⟩ := by simp [rowAt]

def rowLoad (P : Program) (t : TypeId) (x : Row) (o : Nat) : Option Value :=
  match P.underlying t, P.info? t with
  | some d, some i => if aggD d then if o + i.size ≤ x.cells.length then some (.agg ((x.cells.drop o).take i.size).toArray) else none else x.cells[o]?
  | _, _ => none
def rowStore (P : Program) (t : TypeId) (x : Row) (o : Nat) (v : Value) : Option Row :=
  match P.info? t with
  | some i => if x.ro = false ∧ v.cells.size = i.size ∧ o + i.size ≤ x.cells.length ∧ v.cells.toList.all one = true then some { x with cells := splice x.cells o v.cells.toList } else none
  | none => none
theorem loadP_eq {a : Addr} : loadP P h t (.pointer (some a)) = (rowAt h a).bind fun x => rowLoad P t x a.off := by
  simp only [loadP, rowLoad]
  cases rowAt h a <;> cases P.underlying t <;> cases P.info? t <;> rfl
theorem storeP_eq {a : Addr} : storeP P h t v (.pointer (some a)) = (rowAt h a).bind fun x => (rowStore P t x a.off v).map fun x' => h.set a.block (some x') := by
  simp only [storeP, rowStore]
  cases rowAt h a <;> cases P.info? t <;> try rfl
  simp only [Option.bind_some]
  split <;> rfl
@[simp] theorem loadP_app : loadP P (h ++ l) t (.pointer (some ⟨h.length + k, o, sp⟩)) = (rowAt l ⟨k, o, sp⟩).bind fun x => rowLoad P t x o := by rw [loadP_eq, rowAt_app]
@[simp] theorem loadP_app0 : loadP P (h ++ l) t (.pointer (some ⟨h.length, o, sp⟩)) = (rowAt l ⟨0, o, sp⟩).bind fun x => rowLoad P t x o := by rw [loadP_eq, rowAt_app0]
@[simp] theorem storeP_app : storeP P (h ++ l) t v (.pointer (some ⟨h.length + k, o, sp⟩)) = (rowAt l ⟨k, o, sp⟩).bind fun x => (rowStore P t x o v).map fun x' => h ++ List.set l k (some x') := by rw [storeP_eq, rowAt_app]; simp only [hset_app]
@[simp] theorem storeP_app0 : storeP P (h ++ l) t v (.pointer (some ⟨h.length, o, sp⟩)) = (rowAt l ⟨0, o, sp⟩).bind fun x => (rowStore P t x o v).map fun x' => h ++ List.set l 0 (some x') := by rw [storeP_eq, rowAt_app0]; simp only [hset_app0]
@[simp] theorem indexAddrP_some {ty : TypeId} {a : Addr} {n c : Nat} {kk : IntKind} {j : Int} : indexAddrP P h ty (.slice (some a) n c) (.int kk j) = match P.underlying ty with
    | some (.slice e) => match P.info? e, rowAt h a with
      | some q, some _ => if 0 ≤ j ∧ j < n then some (.pointer (some (addP a (j.toNat * q.size)))) else none
      | _, _ => none
    | _ => none := by
  unfold indexAddrP
  cases P.underlying ty with
  | none => rfl
  | some d => cases d <;> rfl
@[simp] theorem addP_mk {b : Nat} : addP ⟨b, o, sp⟩ k = ⟨b, o + k, sp⟩ := rfl
theorem gc_grow {v : Value} (hp : plain v = true) : gc h (h ++ l) v = h := gc_app h l v hp
@[simp] theorem gc_bool {b : Bool} : gc h (h ++ l) (.bool b) = h := gc_app h l _ rfl
@[simp] theorem gc_int {k : IntKind} {n : Int} : gc h (h ++ l) (.int k n) = h := gc_app h l _ rfl
theorem gcB {h h' : Hp} (hp : h <+: h') {b : Bool} : gc h h' (.bool b) = h := by obtain ⟨t, rfl⟩ := hp; exact gc_app h t _ rfl
theorem gcB' {h h' l : Hp} (hp : h <+: h') {b : Bool} : gc h (h' ++ l) (.bool b) = h := gcB (hp.trans (List.prefix_append ..))
theorem gcI {h h' : Hp} (hp : h <+: h') {k : IntKind} {b : Int} : gc h h' (.int k b) = h := by obtain ⟨t, rfl⟩ := hp; exact gc_app h t _ rfl
theorem gcI' {h h' l : Hp} (hp : h <+: h') {k : IntKind} {b : Int} : gc h (h' ++ l) (.int k b) = h := gcI (hp.trans (List.prefix_append ..))
end
attribute [simp] firstId keepAt undef evO Oper.looksAt Op.operands Call.operands newP rowLoad rowStore Value.cells one aggD fieldsOf partP splice zeroP
end Go.Pm
