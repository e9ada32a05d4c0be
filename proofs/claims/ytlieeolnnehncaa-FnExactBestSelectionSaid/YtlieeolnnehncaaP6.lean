/- The texts PjA, PjB, Pj1, Pj2, PjL, PjM, Pj3, Pj4 of this work: Job shops: what stands in slices. -/
import Derived.Test.YtlieeolnnehncaaF5
import Derived.Test.YtlieeolnnehncaaM4
/- Job shops: what stands in slices. -/
set_option linter.unusedVariables false
set_option linter.unusedSimpArgs false
set_option maxRecDepth 4000
namespace Go.Pm.PP
open Go.Pm Go.Proofs
attribute [simp] evParts buildSliceP fillP buildP places reps
structure OpR where
  m : Int
  t : Int
def encO (o : OpR) : List Value := [.int .i64 o.m, .int .i64 o.t]
abbrev ov (o : OpR) : Value := .agg #[.int .i64 o.m, .int .i64 o.t]
def encQ (p : Int × Int) : List Value := [.int .i64 p.1, .int .i64 p.2]
abbrev qv (p : Int × Int) : Value := .agg #[.int .i64 p.1, .int .i64 p.2]
def encV (u : Value) : List Value := [u]
abbrev Ops (h : Hp) (v : Value) (xs : List OpR) : Prop := Sees h v 2 (xs.map encO)
abbrev Prs (h : Hp) (v : Value) (xs : List (Int × Int)) : Prop := Sees h v 2 (xs.map encQ)
@[simp] theorem ixA0 {h : Hp} {a : Addr} : indexAddrP P h t_A2_int (.pointer (some a)) (.int .i64 0) = some (.pointer (some (addP a 0))) := ix_arr (j := 0) u_A2_int e_t_int s_t_int (by omega)
@[simp] theorem ixA1 {h : Hp} {a : Addr} : indexAddrP P h t_A2_int (.pointer (some a)) (.int .i64 1) = some (.pointer (some (addP a 1))) := ix_arr (j := 1) u_A2_int e_t_int s_t_int (by omega)
def w64 (n : Int) : Int := IntKind.i64.wrap n
end Go.Pm.PP

/- Typed rules for slices: printed by a program of this work (wrap.py). -/
set_option linter.unusedVariables false
set_option linter.unusedSimpArgs false
set_option maxRecDepth 4000
namespace Go.Pm.PP
open Go.Pm Go.Proofs
theorem load_I {h : Hp} {v : Value} {xs : List (Int)} {i : Nat} {x : Int} (hv : Sees h v 1 (xs.map encI)) (hx : xs[i]? = some x) :
    indexAddrP P h t_S_int v (.int .i64 i) = some (.pointer (some (addP (base v) (i)))) ∧ loadP P h t_int (.pointer (some (addP (base v) (i)))) = some (.int .i64 x) := by
  have hi := (List.getElem?_eq_some_iff.1 hx).1
  have h1 := hv.indexT (P := P) u_S_int i_int (k := .i64) (j := i) (by omega) (by omega)
  rw [Int.toNat_natCast] at h1
  have h2 := hv.cellT (P := P) (ty := t_int) a_int i_int hx (k := 0) (by omega)
  exact ⟨by simpa using h1, by simpa [encI] using h2⟩
theorem len_I (xs : List (Int)) : ∀ e ∈ xs.map encI, e.length = 1 := by
  intro e he
  obtain ⟨x, _, rfl⟩ := List.mem_map.1 he
  rfl
theorem ones_I (xs : List (Int)) : (xs.map encI).flatten.all one = true := by
  induction xs with
  | nil => rfl
  | cons x xs ih => rw [List.map_cons, List.flatten_cons, List.all_append, ih]; rfl
theorem push_I0 {h0 h : Hp} {L : List Asn} (H : Holds h0 h L) (i : Nat) {v : Value} {xs : List (Int)} (hi : L[i]? = some (.own v 1 (xs.map encI))) (x : Int) (hn : xs.length ≤ 2 ^ 40) :
    ∃ v' h', appendP P (h ++ [some ⟨[.int .i64 x], 1, false⟩]) t_S_int v (.slice (some ⟨h.length, 0, some 1⟩) 1 1) = some (v', h') ∧ Holds h0 h' (L.set i (.own v' 1 ((xs ++ [x]).map encI))) ∧ Keeps (rowV v) h h' ∧ (rowV v = none → newOk (h ++ [some ⟨[.int .i64 x], 1, false⟩]) h') := by
  obtain ⟨v', h', g1, g2, g3, g4⟩ := (H.ext (List.prefix_append h [])).push (P := P) i (y := encI x) (n := 1) hi u_S_int e_t_int z_t_int s_t_int (by omega) (by rw [b_t_int]; omega) rfl rfl (by simp [encI]) (by rw [b_t_int]; simp; omega)
  rw [show xs.map encI ++ [encI x] = (xs ++ [x]).map encI by simp] at g2
  exact ⟨v', h', by simpa [encI] using g1, g2, Keeps.app.trans g3, by simpa [encI] using g4⟩
theorem push_I1 {h0 h : Hp} {L : List Asn} (H : Holds h0 h L) (i : Nat) {v : Value} {xs : List (Int)} (hi : L[i]? = some (.own v 1 (xs.map encI))) (x : Int) {a1 : Option Row} (hn : xs.length ≤ 2 ^ 40) :
    ∃ v' h', appendP P (h ++ [a1, some ⟨[.int .i64 x], 1, false⟩]) t_S_int v (.slice (some ⟨h.length + 1, 0, some 1⟩) 1 1) = some (v', h') ∧ Holds h0 h' (L.set i (.own v' 1 ((xs ++ [x]).map encI))) ∧ Keeps (rowV v) h h' ∧ (rowV v = none → newOk (h ++ [a1, some ⟨[.int .i64 x], 1, false⟩]) h') := by
  obtain ⟨v', h', g1, g2, g3, g4⟩ := (H.ext (List.prefix_append h [a1])).push (P := P) i (y := encI x) (n := 1) hi u_S_int e_t_int z_t_int s_t_int (by omega) (by rw [b_t_int]; omega) rfl rfl (by simp [encI]) (by rw [b_t_int]; simp; omega)
  rw [show xs.map encI ++ [encI x] = (xs ++ [x]).map encI by simp] at g2
  exact ⟨v', h', by simpa [encI] using g1, g2, Keeps.app.trans g3, by simpa [encI] using g4⟩
theorem push_I2 {h0 h : Hp} {L : List Asn} (H : Holds h0 h L) (i : Nat) {v : Value} {xs : List (Int)} (hi : L[i]? = some (.own v 1 (xs.map encI))) (x : Int) {a1 a2 : Option Row} (hn : xs.length ≤ 2 ^ 40) :
    ∃ v' h', appendP P (h ++ [a1, a2, some ⟨[.int .i64 x], 1, false⟩]) t_S_int v (.slice (some ⟨h.length + 2, 0, some 1⟩) 1 1) = some (v', h') ∧ Holds h0 h' (L.set i (.own v' 1 ((xs ++ [x]).map encI))) ∧ Keeps (rowV v) h h' ∧ (rowV v = none → newOk (h ++ [a1, a2, some ⟨[.int .i64 x], 1, false⟩]) h') := by
  obtain ⟨v', h', g1, g2, g3, g4⟩ := (H.ext (List.prefix_append h [a1, a2])).push (P := P) i (y := encI x) (n := 1) hi u_S_int e_t_int z_t_int s_t_int (by omega) (by rw [b_t_int]; omega) rfl rfl (by simp [encI]) (by rw [b_t_int]; simp; omega)
  rw [show xs.map encI ++ [encI x] = (xs ++ [x]).map encI by simp] at g2
  exact ⟨v', h', by simpa [encI] using g1, g2, Keeps.app.trans g3, by simpa [encI] using g4⟩
theorem app_I {h0 h : Hp} {L : List Asn} (H : Holds h0 h L) (i : Nat) {v u : Value} {xs ys : List (Int)} (hi : L[i]? = some (.own v 1 (xs.map encI))) (s : Sees h u 1 (ys.map encI)) (hn : xs.length + ys.length ≤ 2 ^ 40) :
    ∃ v' h', appendP P h t_S_int v u = some (v', h') ∧ Holds h0 h' (L.set i (.own v' 1 ((xs ++ ys).map encI))) ∧ Keeps (rowV v) h h' := by
  obtain ⟨v', h', g1, g2, g3⟩ := H.app (P := P) i hi u_S_int e_t_int z_t_int s_t_int (by omega) (by rw [b_t_int]; omega) s (ones_I ys) (by rw [b_t_int]; simp; omega)
  rw [← List.map_append] at g2
  exact ⟨v', h', g1, g2, g3⟩
theorem put_I {h0 h : Hp} {L : List Asn} (H : Holds h0 h L) (i : Nat) {v : Value} {xs : List (Int)} (hi : L[i]? = some (.own v 1 (xs.map encI))) {j : Nat} (hj : j < xs.length) (x : Int) :
    ∃ h', storeP P h t_int (.int .i64 x) (.pointer (some (addP (base v) (j)))) = some h' ∧ Holds h0 h' (L.set i (.own v 1 ((xs.set j x).map encI))) ∧ Keeps (rowV v) h h' := by
  have := H.put (P := P) i (t := t_int) (w := .int .i64 x) (j := j) hi i_int (by simpa using hj) rfl (by simp)
  simpa [List.map_set, encI] using this
theorem make_I {h0 h : Hp} {L : List Asn} (H : Holds h0 h L) {n : Nat} (hn : n ≤ 2 ^ 40) :
    ∃ v h', makeP P h t_S_int (.int .i64 n) (.int .i64 n) = some (v, h') ∧ Holds h0 h' (L ++ [.own v 1 ((List.replicate n (0 : Int)).map encI)]) ∧ h <+: h' ∧ (∃ oa, v = .slice oa n n) := by
  have mk := make_eq (h := h) u_S_int e_t_int z_t_int rfl (by rw [s_t_int]; omega) (by rw [b_t_int]; omega) (n := n) (by omega) (by rw [b_t_int]; omega)
  rw [s_t_int] at mk
  simp only [Value.cells] at mk
  have hlz : ∀ e ∈ List.replicate n ([.int .i64 0] : List Value), e.length = 1 := fun e he => by rw [List.eq_of_mem_replicate he]; rfl
  refine ⟨_, _, mk, ?_, List.prefix_append .., _, rfl⟩
  have := H.lit (els := List.replicate n ([.int .i64 0] : List Value)) (sz := 1) (n := n * 1) hlz (by simp)
  simpa [encI] using this
theorem load_O {h : Hp} {v : Value} {xs : List (OpR)} {i : Nat} {x : OpR} (hv : Sees h v 2 (xs.map encO)) (hx : xs[i]? = some x) :
    indexAddrP P h t_S_impl_Op v (.int .i64 i) = some (.pointer (some (addP (base v) (i * 2)))) ∧ loadP P h t_impl_Op (.pointer (some (addP (base v) (i * 2)))) = some (.agg #[.int .i64 x.m, .int .i64 x.t]) ∧
    loadP P h t_int (.pointer (some (addP (addP (base v) (i * 2)) 0))) = some (.int .i64 x.m) ∧
    loadP P h t_int (.pointer (some (addP (addP (base v) (i * 2)) 1))) = some (.int .i64 x.t) := by
  have hi := (List.getElem?_eq_some_iff.1 hx).1
  have h1 := hv.indexT (P := P) u_S_impl_Op i_impl_Op (k := .i64) (j := i) (by omega) (by omega)
  rw [Int.toNat_natCast] at h1
  have fld : ∀ k, k < 2 → loadP P h t_int (.pointer (some (addP (addP (base v) (i * 2)) k))) = (encO x)[k]? := by
    intro k hk
    have := hv.cellT (P := P) a_int i_int hx hk
    rw [← this]
    simp only [addP, Nat.add_assoc]
  exact ⟨h1, hv.aggT a_impl_Op i_impl_Op hx, fld 0 (by omega), fld 1 (by omega)⟩
theorem len_O (xs : List (OpR)) : ∀ e ∈ xs.map encO, e.length = 2 := by
  intro e he
  obtain ⟨x, _, rfl⟩ := List.mem_map.1 he
  rfl
theorem ones_O (xs : List (OpR)) : (xs.map encO).flatten.all one = true := by
  induction xs with
  | nil => rfl
  | cons x xs ih => rw [List.map_cons, List.flatten_cons, List.all_append, ih]; rfl
theorem push_O0 {h0 h : Hp} {L : List Asn} (H : Holds h0 h L) (i : Nat) {v : Value} {xs : List (OpR)} (hi : L[i]? = some (.own v 2 (xs.map encO))) (x : OpR) (hn : xs.length ≤ 2 ^ 40) :
    ∃ v' h', appendP P (h ++ [some ⟨[.int .i64 x.m, .int .i64 x.t], 2, false⟩]) t_S_impl_Op v (.slice (some ⟨h.length, 0, some 2⟩) 1 1) = some (v', h') ∧ Holds h0 h' (L.set i (.own v' 2 ((xs ++ [x]).map encO))) ∧ Keeps (rowV v) h h' ∧ (rowV v = none → newOk (h ++ [some ⟨[.int .i64 x.m, .int .i64 x.t], 2, false⟩]) h') := by
  obtain ⟨v', h', g1, g2, g3, g4⟩ := (H.ext (List.prefix_append h [])).push (P := P) i (y := encO x) (n := 2) hi u_S_impl_Op e_t_impl_Op z_t_impl_Op s_t_impl_Op (by omega) (by rw [b_t_impl_Op]; omega) rfl rfl (by simp [encO]) (by rw [b_t_impl_Op]; simp; omega)
  rw [show xs.map encO ++ [encO x] = (xs ++ [x]).map encO by simp] at g2
  exact ⟨v', h', by simpa [encO] using g1, g2, Keeps.app.trans g3, by simpa [encO] using g4⟩
theorem push_O1 {h0 h : Hp} {L : List Asn} (H : Holds h0 h L) (i : Nat) {v : Value} {xs : List (OpR)} (hi : L[i]? = some (.own v 2 (xs.map encO))) (x : OpR) {a1 : Option Row} (hn : xs.length ≤ 2 ^ 40) :
    ∃ v' h', appendP P (h ++ [a1, some ⟨[.int .i64 x.m, .int .i64 x.t], 2, false⟩]) t_S_impl_Op v (.slice (some ⟨h.length + 1, 0, some 2⟩) 1 1) = some (v', h') ∧ Holds h0 h' (L.set i (.own v' 2 ((xs ++ [x]).map encO))) ∧ Keeps (rowV v) h h' ∧ (rowV v = none → newOk (h ++ [a1, some ⟨[.int .i64 x.m, .int .i64 x.t], 2, false⟩]) h') := by
  obtain ⟨v', h', g1, g2, g3, g4⟩ := (H.ext (List.prefix_append h [a1])).push (P := P) i (y := encO x) (n := 2) hi u_S_impl_Op e_t_impl_Op z_t_impl_Op s_t_impl_Op (by omega) (by rw [b_t_impl_Op]; omega) rfl rfl (by simp [encO]) (by rw [b_t_impl_Op]; simp; omega)
  rw [show xs.map encO ++ [encO x] = (xs ++ [x]).map encO by simp] at g2
  exact ⟨v', h', by simpa [encO] using g1, g2, Keeps.app.trans g3, by simpa [encO] using g4⟩
theorem push_O2 {h0 h : Hp} {L : List Asn} (H : Holds h0 h L) (i : Nat) {v : Value} {xs : List (OpR)} (hi : L[i]? = some (.own v 2 (xs.map encO))) (x : OpR) {a1 a2 : Option Row} (hn : xs.length ≤ 2 ^ 40) :
    ∃ v' h', appendP P (h ++ [a1, a2, some ⟨[.int .i64 x.m, .int .i64 x.t], 2, false⟩]) t_S_impl_Op v (.slice (some ⟨h.length + 2, 0, some 2⟩) 1 1) = some (v', h') ∧ Holds h0 h' (L.set i (.own v' 2 ((xs ++ [x]).map encO))) ∧ Keeps (rowV v) h h' ∧ (rowV v = none → newOk (h ++ [a1, a2, some ⟨[.int .i64 x.m, .int .i64 x.t], 2, false⟩]) h') := by
  obtain ⟨v', h', g1, g2, g3, g4⟩ := (H.ext (List.prefix_append h [a1, a2])).push (P := P) i (y := encO x) (n := 2) hi u_S_impl_Op e_t_impl_Op z_t_impl_Op s_t_impl_Op (by omega) (by rw [b_t_impl_Op]; omega) rfl rfl (by simp [encO]) (by rw [b_t_impl_Op]; simp; omega)
  rw [show xs.map encO ++ [encO x] = (xs ++ [x]).map encO by simp] at g2
  exact ⟨v', h', by simpa [encO] using g1, g2, Keeps.app.trans g3, by simpa [encO] using g4⟩
theorem app_O {h0 h : Hp} {L : List Asn} (H : Holds h0 h L) (i : Nat) {v u : Value} {xs ys : List (OpR)} (hi : L[i]? = some (.own v 2 (xs.map encO))) (s : Sees h u 2 (ys.map encO)) (hn : xs.length + ys.length ≤ 2 ^ 40) :
    ∃ v' h', appendP P h t_S_impl_Op v u = some (v', h') ∧ Holds h0 h' (L.set i (.own v' 2 ((xs ++ ys).map encO))) ∧ Keeps (rowV v) h h' := by
  obtain ⟨v', h', g1, g2, g3⟩ := H.app (P := P) i hi u_S_impl_Op e_t_impl_Op z_t_impl_Op s_t_impl_Op (by omega) (by rw [b_t_impl_Op]; omega) s (ones_O ys) (by rw [b_t_impl_Op]; simp; omega)
  rw [← List.map_append] at g2
  exact ⟨v', h', g1, g2, g3⟩
theorem put_O {h0 h : Hp} {L : List Asn} (H : Holds h0 h L) (i : Nat) {v : Value} {xs : List (OpR)} (hi : L[i]? = some (.own v 2 (xs.map encO))) {j : Nat} (hj : j < xs.length) (x : OpR) :
    ∃ h', storeP P h t_impl_Op (.agg #[.int .i64 x.m, .int .i64 x.t]) (.pointer (some (addP (base v) (j * 2)))) = some h' ∧ Holds h0 h' (L.set i (.own v 2 ((xs.set j x).map encO))) ∧ Keeps (rowV v) h h' := by
  have := H.put (P := P) i (t := t_impl_Op) (w := .agg #[.int .i64 x.m, .int .i64 x.t]) (j := j) hi i_impl_Op (by simpa using hj) rfl (by simp)
  simpa [List.map_set, encO] using this
theorem fput_O0 {h0 h : Hp} {L : List Asn} (H : Holds h0 h L) (i : Nat) {v : Value} {xs : List (OpR)} (hi : L[i]? = some (.own v 2 (xs.map encO))) {j : Nat} {y : OpR} (hy : xs[j]? = some y) (z : Int) :
    ∃ h', storeP P h t_int (.int .i64 z) (.pointer (some (addP (addP (base v) (j * 2)) 0))) = some h' ∧ Holds h0 h' (L.set i (.own v 2 ((xs.set j ({ y with m := z })).map encO))) ∧ Keeps (rowV v) h h' := by
  have := H.store (P := P) i hi (t := t_int) (w := .int .i64 z) (j := j) (e := encO y) (l := []) (m := [.int .i64 y.m]) (c := [.int .i64 y.t]) e_t_int (by simp [hy]) rfl (by simp) (by simp) (by simp)
  simpa [List.map_set, encO, addP, Nat.add_assoc] using this
theorem fput_O1 {h0 h : Hp} {L : List Asn} (H : Holds h0 h L) (i : Nat) {v : Value} {xs : List (OpR)} (hi : L[i]? = some (.own v 2 (xs.map encO))) {j : Nat} {y : OpR} (hy : xs[j]? = some y) (z : Int) :
    ∃ h', storeP P h t_int (.int .i64 z) (.pointer (some (addP (addP (base v) (j * 2)) 1))) = some h' ∧ Holds h0 h' (L.set i (.own v 2 ((xs.set j ({ y with t := z })).map encO))) ∧ Keeps (rowV v) h h' := by
  have := H.store (P := P) i hi (t := t_int) (w := .int .i64 z) (j := j) (e := encO y) (l := [.int .i64 y.m]) (m := [.int .i64 y.t]) (c := []) e_t_int (by simp [hy]) rfl (by simp) (by simp) (by simp)
  simpa [List.map_set, encO, addP, Nat.add_assoc] using this
theorem make_O {h0 h : Hp} {L : List Asn} (H : Holds h0 h L) {n : Nat} (hn : n ≤ 2 ^ 40) :
    ∃ v h', makeP P h t_S_impl_Op (.int .i64 n) (.int .i64 n) = some (v, h') ∧ Holds h0 h' (L ++ [.own v 2 ((List.replicate n (⟨0, 0⟩ : OpR)).map encO)]) ∧ h <+: h' ∧ (∃ oa, v = .slice oa n n) := by
  have mk := make_eq (h := h) u_S_impl_Op e_t_impl_Op z_t_impl_Op rfl (by rw [s_t_impl_Op]; omega) (by rw [b_t_impl_Op]; omega) (n := n) (by omega) (by rw [b_t_impl_Op]; omega)
  rw [s_t_impl_Op] at mk
  simp only [Value.cells] at mk
  have hlz : ∀ e ∈ List.replicate n ([.int .i64 0, .int .i64 0] : List Value), e.length = 2 := fun e he => by rw [List.eq_of_mem_replicate he]; rfl
  refine ⟨_, _, mk, ?_, List.prefix_append .., _, rfl⟩
  have := H.lit (els := List.replicate n ([.int .i64 0, .int .i64 0] : List Value)) (sz := 2) (n := n * 2) hlz (by simp)
  simpa [encO] using this
theorem load_Q {h : Hp} {v : Value} {xs : List (Int × Int)} {i : Nat} {x : Int × Int} (hv : Sees h v 2 (xs.map encQ)) (hx : xs[i]? = some x) :
    indexAddrP P h t_S_A2_int v (.int .i64 i) = some (.pointer (some (addP (base v) (i * 2)))) ∧ loadP P h t_A2_int (.pointer (some (addP (base v) (i * 2)))) = some (.agg #[.int .i64 x.1, .int .i64 x.2]) ∧
    loadP P h t_int (.pointer (some (addP (addP (base v) (i * 2)) 0))) = some (.int .i64 x.1) ∧
    loadP P h t_int (.pointer (some (addP (addP (base v) (i * 2)) 1))) = some (.int .i64 x.2) := by
  have hi := (List.getElem?_eq_some_iff.1 hx).1
  have h1 := hv.indexT (P := P) u_S_A2_int i_A2_int (k := .i64) (j := i) (by omega) (by omega)
  rw [Int.toNat_natCast] at h1
  have fld : ∀ k, k < 2 → loadP P h t_int (.pointer (some (addP (addP (base v) (i * 2)) k))) = (encQ x)[k]? := by
    intro k hk
    have := hv.cellT (P := P) a_int i_int hx hk
    rw [← this]
    simp only [addP, Nat.add_assoc]
  exact ⟨h1, hv.aggT a_A2_int i_A2_int hx, fld 0 (by omega), fld 1 (by omega)⟩
theorem len_Q (xs : List (Int × Int)) : ∀ e ∈ xs.map encQ, e.length = 2 := by
  intro e he
  obtain ⟨x, _, rfl⟩ := List.mem_map.1 he
  rfl
theorem ones_Q (xs : List (Int × Int)) : (xs.map encQ).flatten.all one = true := by
  induction xs with
  | nil => rfl
  | cons x xs ih => rw [List.map_cons, List.flatten_cons, List.all_append, ih]; rfl
theorem push_Q0 {h0 h : Hp} {L : List Asn} (H : Holds h0 h L) (i : Nat) {v : Value} {xs : List (Int × Int)} (hi : L[i]? = some (.own v 2 (xs.map encQ))) (x : Int × Int) (hn : xs.length ≤ 2 ^ 40) :
    ∃ v' h', appendP P (h ++ [some ⟨[.int .i64 x.1, .int .i64 x.2], 2, false⟩]) t_S_A2_int v (.slice (some ⟨h.length, 0, some 2⟩) 1 1) = some (v', h') ∧ Holds h0 h' (L.set i (.own v' 2 ((xs ++ [x]).map encQ))) ∧ Keeps (rowV v) h h' ∧ (rowV v = none → newOk (h ++ [some ⟨[.int .i64 x.1, .int .i64 x.2], 2, false⟩]) h') := by
  obtain ⟨v', h', g1, g2, g3, g4⟩ := (H.ext (List.prefix_append h [])).push (P := P) i (y := encQ x) (n := 2) hi u_S_A2_int e_t_A2_int z_t_A2_int s_t_A2_int (by omega) (by rw [b_t_A2_int]; omega) rfl rfl (by simp [encQ]) (by rw [b_t_A2_int]; simp; omega)
  rw [show xs.map encQ ++ [encQ x] = (xs ++ [x]).map encQ by simp] at g2
  exact ⟨v', h', by simpa [encQ] using g1, g2, Keeps.app.trans g3, by simpa [encQ] using g4⟩
theorem push_Q1 {h0 h : Hp} {L : List Asn} (H : Holds h0 h L) (i : Nat) {v : Value} {xs : List (Int × Int)} (hi : L[i]? = some (.own v 2 (xs.map encQ))) (x : Int × Int) {a1 : Option Row} (hn : xs.length ≤ 2 ^ 40) :
    ∃ v' h', appendP P (h ++ [a1, some ⟨[.int .i64 x.1, .int .i64 x.2], 2, false⟩]) t_S_A2_int v (.slice (some ⟨h.length + 1, 0, some 2⟩) 1 1) = some (v', h') ∧ Holds h0 h' (L.set i (.own v' 2 ((xs ++ [x]).map encQ))) ∧ Keeps (rowV v) h h' ∧ (rowV v = none → newOk (h ++ [a1, some ⟨[.int .i64 x.1, .int .i64 x.2], 2, false⟩]) h') := by
  obtain ⟨v', h', g1, g2, g3, g4⟩ := (H.ext (List.prefix_append h [a1])).push (P := P) i (y := encQ x) (n := 2) hi u_S_A2_int e_t_A2_int z_t_A2_int s_t_A2_int (by omega) (by rw [b_t_A2_int]; omega) rfl rfl (by simp [encQ]) (by rw [b_t_A2_int]; simp; omega)
  rw [show xs.map encQ ++ [encQ x] = (xs ++ [x]).map encQ by simp] at g2
  exact ⟨v', h', by simpa [encQ] using g1, g2, Keeps.app.trans g3, by simpa [encQ] using g4⟩
theorem push_Q2 {h0 h : Hp} {L : List Asn} (H : Holds h0 h L) (i : Nat) {v : Value} {xs : List (Int × Int)} (hi : L[i]? = some (.own v 2 (xs.map encQ))) (x : Int × Int) {a1 a2 : Option Row} (hn : xs.length ≤ 2 ^ 40) :
    ∃ v' h', appendP P (h ++ [a1, a2, some ⟨[.int .i64 x.1, .int .i64 x.2], 2, false⟩]) t_S_A2_int v (.slice (some ⟨h.length + 2, 0, some 2⟩) 1 1) = some (v', h') ∧ Holds h0 h' (L.set i (.own v' 2 ((xs ++ [x]).map encQ))) ∧ Keeps (rowV v) h h' ∧ (rowV v = none → newOk (h ++ [a1, a2, some ⟨[.int .i64 x.1, .int .i64 x.2], 2, false⟩]) h') := by
  obtain ⟨v', h', g1, g2, g3, g4⟩ := (H.ext (List.prefix_append h [a1, a2])).push (P := P) i (y := encQ x) (n := 2) hi u_S_A2_int e_t_A2_int z_t_A2_int s_t_A2_int (by omega) (by rw [b_t_A2_int]; omega) rfl rfl (by simp [encQ]) (by rw [b_t_A2_int]; simp; omega)
  rw [show xs.map encQ ++ [encQ x] = (xs ++ [x]).map encQ by simp] at g2
  exact ⟨v', h', by simpa [encQ] using g1, g2, Keeps.app.trans g3, by simpa [encQ] using g4⟩
theorem app_Q {h0 h : Hp} {L : List Asn} (H : Holds h0 h L) (i : Nat) {v u : Value} {xs ys : List (Int × Int)} (hi : L[i]? = some (.own v 2 (xs.map encQ))) (s : Sees h u 2 (ys.map encQ)) (hn : xs.length + ys.length ≤ 2 ^ 40) :
    ∃ v' h', appendP P h t_S_A2_int v u = some (v', h') ∧ Holds h0 h' (L.set i (.own v' 2 ((xs ++ ys).map encQ))) ∧ Keeps (rowV v) h h' := by
  obtain ⟨v', h', g1, g2, g3⟩ := H.app (P := P) i hi u_S_A2_int e_t_A2_int z_t_A2_int s_t_A2_int (by omega) (by rw [b_t_A2_int]; omega) s (ones_Q ys) (by rw [b_t_A2_int]; simp; omega)
  rw [← List.map_append] at g2
  exact ⟨v', h', g1, g2, g3⟩
theorem put_Q {h0 h : Hp} {L : List Asn} (H : Holds h0 h L) (i : Nat) {v : Value} {xs : List (Int × Int)} (hi : L[i]? = some (.own v 2 (xs.map encQ))) {j : Nat} (hj : j < xs.length) (x : Int × Int) :
    ∃ h', storeP P h t_A2_int (.agg #[.int .i64 x.1, .int .i64 x.2]) (.pointer (some (addP (base v) (j * 2)))) = some h' ∧ Holds h0 h' (L.set i (.own v 2 ((xs.set j x).map encQ))) ∧ Keeps (rowV v) h h' := by
  have := H.put (P := P) i (t := t_A2_int) (w := .agg #[.int .i64 x.1, .int .i64 x.2]) (j := j) hi i_A2_int (by simpa using hj) rfl (by simp)
  simpa [List.map_set, encQ] using this
theorem fput_Q0 {h0 h : Hp} {L : List Asn} (H : Holds h0 h L) (i : Nat) {v : Value} {xs : List (Int × Int)} (hi : L[i]? = some (.own v 2 (xs.map encQ))) {j : Nat} {y : Int × Int} (hy : xs[j]? = some y) (z : Int) :
    ∃ h', storeP P h t_int (.int .i64 z) (.pointer (some (addP (addP (base v) (j * 2)) 0))) = some h' ∧ Holds h0 h' (L.set i (.own v 2 ((xs.set j ((z, y.2))).map encQ))) ∧ Keeps (rowV v) h h' := by
  have := H.store (P := P) i hi (t := t_int) (w := .int .i64 z) (j := j) (e := encQ y) (l := []) (m := [.int .i64 y.1]) (c := [.int .i64 y.2]) e_t_int (by simp [hy]) rfl (by simp) (by simp) (by simp)
  simpa [List.map_set, encQ, addP, Nat.add_assoc] using this
theorem fput_Q1 {h0 h : Hp} {L : List Asn} (H : Holds h0 h L) (i : Nat) {v : Value} {xs : List (Int × Int)} (hi : L[i]? = some (.own v 2 (xs.map encQ))) {j : Nat} {y : Int × Int} (hy : xs[j]? = some y) (z : Int) :
    ∃ h', storeP P h t_int (.int .i64 z) (.pointer (some (addP (addP (base v) (j * 2)) 1))) = some h' ∧ Holds h0 h' (L.set i (.own v 2 ((xs.set j ((y.1, z))).map encQ))) ∧ Keeps (rowV v) h h' := by
  have := H.store (P := P) i hi (t := t_int) (w := .int .i64 z) (j := j) (e := encQ y) (l := [.int .i64 y.1]) (m := [.int .i64 y.2]) (c := []) e_t_int (by simp [hy]) rfl (by simp) (by simp) (by simp)
  simpa [List.map_set, encQ, addP, Nat.add_assoc] using this
theorem make_Q {h0 h : Hp} {L : List Asn} (H : Holds h0 h L) {n : Nat} (hn : n ≤ 2 ^ 40) :
    ∃ v h', makeP P h t_S_A2_int (.int .i64 n) (.int .i64 n) = some (v, h') ∧ Holds h0 h' (L ++ [.own v 2 ((List.replicate n ((0, 0) : Int × Int)).map encQ)]) ∧ h <+: h' ∧ (∃ oa, v = .slice oa n n) := by
  have mk := make_eq (h := h) u_S_A2_int e_t_A2_int z_t_A2_int rfl (by rw [s_t_A2_int]; omega) (by rw [b_t_A2_int]; omega) (n := n) (by omega) (by rw [b_t_A2_int]; omega)
  rw [s_t_A2_int] at mk
  simp only [Value.cells] at mk
  have hlz : ∀ e ∈ List.replicate n ([.int .i64 0, .int .i64 0] : List Value), e.length = 2 := fun e he => by rw [List.eq_of_mem_replicate he]; rfl
  refine ⟨_, _, mk, ?_, List.prefix_append .., _, rfl⟩
  have := H.lit (els := List.replicate n ([.int .i64 0, .int .i64 0] : List Value)) (sz := 2) (n := n * 2) hlz (by simp)
  simpa [encQ] using this
theorem load_N {h : Hp} {v : Value} {xs : List (Value)} {i : Nat} {x : Value} (hv : Sees h v 1 (xs.map encV)) (hx : xs[i]? = some x) :
    indexAddrP P h t_S_S_int v (.int .i64 i) = some (.pointer (some (addP (base v) (i)))) ∧ loadP P h t_S_int (.pointer (some (addP (base v) (i)))) = some (x) := by
  have hi := (List.getElem?_eq_some_iff.1 hx).1
  have h1 := hv.indexT (P := P) u_S_S_int i_S_int (k := .i64) (j := i) (by omega) (by omega)
  rw [Int.toNat_natCast] at h1
  have h2 := hv.cellT (P := P) (ty := t_S_int) a_S_int i_S_int hx (k := 0) (by omega)
  exact ⟨by simpa using h1, by simpa [encV] using h2⟩
theorem len_N (xs : List (Value)) : ∀ e ∈ xs.map encV, e.length = 1 := by
  intro e he
  obtain ⟨x, _, rfl⟩ := List.mem_map.1 he
  rfl
theorem ones_N (xs : List (Value)) (hone : ∀ x ∈ xs, one x = true) : (xs.map encV).flatten.all one = true := by
  induction xs with
  | nil => rfl
  | cons x xs ih => rw [List.map_cons, List.flatten_cons, List.all_append, ih fun y hy => hone y (List.mem_cons_of_mem _ hy)]; simp [encV, -one, hone x (List.mem_cons_self ..)]
theorem push_N0 {h0 h : Hp} {L : List Asn} (H : Holds h0 h L) (i : Nat) {v : Value} {xs : List (Value)} (hi : L[i]? = some (.own v 1 (xs.map encV))) (x : Value) (hone : one x = true) (hn : xs.length ≤ 2 ^ 40) :
    ∃ v' h', appendP P (h ++ [some ⟨[x], 1, false⟩]) t_S_S_int v (.slice (some ⟨h.length, 0, some 1⟩) 1 1) = some (v', h') ∧ Holds h0 h' (L.set i (.own v' 1 ((xs ++ [x]).map encV))) ∧ Keeps (rowV v) h h' ∧ (rowV v = none → newOk (h ++ [some ⟨[x], 1, false⟩]) h') := by
  obtain ⟨v', h', g1, g2, g3, g4⟩ := (H.ext (List.prefix_append h [])).push (P := P) i (y := encV x) (n := 1) hi u_S_S_int e_t_S_int z_t_S_int s_t_S_int (by omega) (by rw [b_t_S_int]; omega) rfl rfl (by simp [encV, -one, hone]) (by rw [b_t_S_int]; simp; omega)
  rw [show xs.map encV ++ [encV x] = (xs ++ [x]).map encV by simp] at g2
  exact ⟨v', h', by simpa [encV] using g1, g2, Keeps.app.trans g3, by simpa [encV] using g4⟩
theorem push_N1 {h0 h : Hp} {L : List Asn} (H : Holds h0 h L) (i : Nat) {v : Value} {xs : List (Value)} (hi : L[i]? = some (.own v 1 (xs.map encV))) (x : Value) (hone : one x = true) {a1 : Option Row} (hn : xs.length ≤ 2 ^ 40) :
    ∃ v' h', appendP P (h ++ [a1, some ⟨[x], 1, false⟩]) t_S_S_int v (.slice (some ⟨h.length + 1, 0, some 1⟩) 1 1) = some (v', h') ∧ Holds h0 h' (L.set i (.own v' 1 ((xs ++ [x]).map encV))) ∧ Keeps (rowV v) h h' ∧ (rowV v = none → newOk (h ++ [a1, some ⟨[x], 1, false⟩]) h') := by
  obtain ⟨v', h', g1, g2, g3, g4⟩ := (H.ext (List.prefix_append h [a1])).push (P := P) i (y := encV x) (n := 1) hi u_S_S_int e_t_S_int z_t_S_int s_t_S_int (by omega) (by rw [b_t_S_int]; omega) rfl rfl (by simp [encV, -one, hone]) (by rw [b_t_S_int]; simp; omega)
  rw [show xs.map encV ++ [encV x] = (xs ++ [x]).map encV by simp] at g2
  exact ⟨v', h', by simpa [encV] using g1, g2, Keeps.app.trans g3, by simpa [encV] using g4⟩
theorem push_N2 {h0 h : Hp} {L : List Asn} (H : Holds h0 h L) (i : Nat) {v : Value} {xs : List (Value)} (hi : L[i]? = some (.own v 1 (xs.map encV))) (x : Value) (hone : one x = true) {a1 a2 : Option Row} (hn : xs.length ≤ 2 ^ 40) :
    ∃ v' h', appendP P (h ++ [a1, a2, some ⟨[x], 1, false⟩]) t_S_S_int v (.slice (some ⟨h.length + 2, 0, some 1⟩) 1 1) = some (v', h') ∧ Holds h0 h' (L.set i (.own v' 1 ((xs ++ [x]).map encV))) ∧ Keeps (rowV v) h h' ∧ (rowV v = none → newOk (h ++ [a1, a2, some ⟨[x], 1, false⟩]) h') := by
  obtain ⟨v', h', g1, g2, g3, g4⟩ := (H.ext (List.prefix_append h [a1, a2])).push (P := P) i (y := encV x) (n := 1) hi u_S_S_int e_t_S_int z_t_S_int s_t_S_int (by omega) (by rw [b_t_S_int]; omega) rfl rfl (by simp [encV, -one, hone]) (by rw [b_t_S_int]; simp; omega)
  rw [show xs.map encV ++ [encV x] = (xs ++ [x]).map encV by simp] at g2
  exact ⟨v', h', by simpa [encV] using g1, g2, Keeps.app.trans g3, by simpa [encV] using g4⟩
theorem app_N {h0 h : Hp} {L : List Asn} (H : Holds h0 h L) (i : Nat) {v u : Value} {xs ys : List (Value)} (hi : L[i]? = some (.own v 1 (xs.map encV))) (s : Sees h u 1 (ys.map encV)) (hone : ∀ x ∈ ys, one x = true) (hn : xs.length + ys.length ≤ 2 ^ 40) :
    ∃ v' h', appendP P h t_S_S_int v u = some (v', h') ∧ Holds h0 h' (L.set i (.own v' 1 ((xs ++ ys).map encV))) ∧ Keeps (rowV v) h h' := by
  obtain ⟨v', h', g1, g2, g3⟩ := H.app (P := P) i hi u_S_S_int e_t_S_int z_t_S_int s_t_S_int (by omega) (by rw [b_t_S_int]; omega) s (ones_N ys hone) (by rw [b_t_S_int]; simp; omega)
  rw [← List.map_append] at g2
  exact ⟨v', h', g1, g2, g3⟩
theorem put_N {h0 h : Hp} {L : List Asn} (H : Holds h0 h L) (i : Nat) {v : Value} {xs : List (Value)} (hi : L[i]? = some (.own v 1 (xs.map encV))) {j : Nat} (hj : j < xs.length) (x : Value) (hone : one x = true) :
    ∃ h', storeP P h t_S_int (x) (.pointer (some (addP (base v) (j)))) = some h' ∧ Holds h0 h' (L.set i (.own v 1 ((xs.set j x).map encV))) ∧ Keeps (rowV v) h h' := by
  have := H.put (P := P) i (t := t_S_int) (w := x) (j := j) hi i_S_int (by simpa using hj) (by cases x <;> first | rfl | cases hone) (by cases x <;> first | rfl | cases hone)
  rw [show (x : Value).cells.toList = [x] by cases x <;> first | rfl | cases hone] at this
  simpa [List.map_set, encV] using this
theorem makeN_N {h0 h : Hp} {L : List Asn} (H : Holds h0 h L) {n : Nat} (hn : n ≤ 2 ^ 40) :
    ∃ v h', makeP P h t_S_S_int (.int .i64 n) (.int .i64 n) = some (v, h') ∧ Holds h0 h' (L ++ [.own v 1 ((List.replicate n (Value.slice none 0 0)).map encV)]) ∧ h <+: h' ∧ (∃ oa, v = .slice oa n n) := by
  have mk := make_eq (h := h) u_S_S_int e_t_S_int z_t_S_int rfl (by rw [s_t_S_int]; omega) (by rw [b_t_S_int]; omega) (n := n) (by omega) (by rw [b_t_S_int]; omega)
  rw [s_t_S_int] at mk
  simp only [Value.cells] at mk
  have hlz : ∀ e ∈ List.replicate n ([.slice none 0 0] : List Value), e.length = 1 := fun e he => by rw [List.eq_of_mem_replicate he]; rfl
  refine ⟨_, _, mk, ?_, List.prefix_append .., _, rfl⟩
  have := H.lit (els := List.replicate n ([.slice none 0 0] : List Value)) (sz := 1) (n := n * 1) hlz (by simp)
  simpa [encV] using this
theorem load_lO {h : Hp} {v : Value} {xs : List (OpR)} {i : Nat} {x : OpR} (hv : Sees h v 2 (xs.map encO)) (hx : xs[i]? = some x) :
    indexAddrP P h t_S_laws_Op v (.int .i64 i) = some (.pointer (some (addP (base v) (i * 2)))) ∧ loadP P h t_laws_Op (.pointer (some (addP (base v) (i * 2)))) = some (.agg #[.int .i64 x.m, .int .i64 x.t]) ∧
    loadP P h t_int (.pointer (some (addP (addP (base v) (i * 2)) 0))) = some (.int .i64 x.m) ∧
    loadP P h t_int (.pointer (some (addP (addP (base v) (i * 2)) 1))) = some (.int .i64 x.t) := by
  have hi := (List.getElem?_eq_some_iff.1 hx).1
  have h1 := hv.indexT (P := P) u_S_laws_Op i_laws_Op (k := .i64) (j := i) (by omega) (by omega)
  rw [Int.toNat_natCast] at h1
  have fld : ∀ k, k < 2 → loadP P h t_int (.pointer (some (addP (addP (base v) (i * 2)) k))) = (encO x)[k]? := by
    intro k hk
    have := hv.cellT (P := P) a_int i_int hx hk
    rw [← this]
    simp only [addP, Nat.add_assoc]
  exact ⟨h1, hv.aggT a_laws_Op i_laws_Op hx, fld 0 (by omega), fld 1 (by omega)⟩
theorem len_lO (xs : List (OpR)) : ∀ e ∈ xs.map encO, e.length = 2 := by
  intro e he
  obtain ⟨x, _, rfl⟩ := List.mem_map.1 he
  rfl
theorem ones_lO (xs : List (OpR)) : (xs.map encO).flatten.all one = true := by
  induction xs with
  | nil => rfl
  | cons x xs ih => rw [List.map_cons, List.flatten_cons, List.all_append, ih]; rfl
theorem push_lO0 {h0 h : Hp} {L : List Asn} (H : Holds h0 h L) (i : Nat) {v : Value} {xs : List (OpR)} (hi : L[i]? = some (.own v 2 (xs.map encO))) (x : OpR) (hn : xs.length ≤ 2 ^ 40) :
    ∃ v' h', appendP P (h ++ [some ⟨[.int .i64 x.m, .int .i64 x.t], 2, false⟩]) t_S_laws_Op v (.slice (some ⟨h.length, 0, some 2⟩) 1 1) = some (v', h') ∧ Holds h0 h' (L.set i (.own v' 2 ((xs ++ [x]).map encO))) ∧ Keeps (rowV v) h h' ∧ (rowV v = none → newOk (h ++ [some ⟨[.int .i64 x.m, .int .i64 x.t], 2, false⟩]) h') := by
  obtain ⟨v', h', g1, g2, g3, g4⟩ := (H.ext (List.prefix_append h [])).push (P := P) i (y := encO x) (n := 2) hi u_S_laws_Op e_t_laws_Op z_t_laws_Op s_t_laws_Op (by omega) (by rw [b_t_laws_Op]; omega) rfl rfl (by simp [encO]) (by rw [b_t_laws_Op]; simp; omega)
  rw [show xs.map encO ++ [encO x] = (xs ++ [x]).map encO by simp] at g2
  exact ⟨v', h', by simpa [encO] using g1, g2, Keeps.app.trans g3, by simpa [encO] using g4⟩
theorem push_lO1 {h0 h : Hp} {L : List Asn} (H : Holds h0 h L) (i : Nat) {v : Value} {xs : List (OpR)} (hi : L[i]? = some (.own v 2 (xs.map encO))) (x : OpR) {a1 : Option Row} (hn : xs.length ≤ 2 ^ 40) :
    ∃ v' h', appendP P (h ++ [a1, some ⟨[.int .i64 x.m, .int .i64 x.t], 2, false⟩]) t_S_laws_Op v (.slice (some ⟨h.length + 1, 0, some 2⟩) 1 1) = some (v', h') ∧ Holds h0 h' (L.set i (.own v' 2 ((xs ++ [x]).map encO))) ∧ Keeps (rowV v) h h' ∧ (rowV v = none → newOk (h ++ [a1, some ⟨[.int .i64 x.m, .int .i64 x.t], 2, false⟩]) h') := by
  obtain ⟨v', h', g1, g2, g3, g4⟩ := (H.ext (List.prefix_append h [a1])).push (P := P) i (y := encO x) (n := 2) hi u_S_laws_Op e_t_laws_Op z_t_laws_Op s_t_laws_Op (by omega) (by rw [b_t_laws_Op]; omega) rfl rfl (by simp [encO]) (by rw [b_t_laws_Op]; simp; omega)
  rw [show xs.map encO ++ [encO x] = (xs ++ [x]).map encO by simp] at g2
  exact ⟨v', h', by simpa [encO] using g1, g2, Keeps.app.trans g3, by simpa [encO] using g4⟩
theorem push_lO2 {h0 h : Hp} {L : List Asn} (H : Holds h0 h L) (i : Nat) {v : Value} {xs : List (OpR)} (hi : L[i]? = some (.own v 2 (xs.map encO))) (x : OpR) {a1 a2 : Option Row} (hn : xs.length ≤ 2 ^ 40) :
    ∃ v' h', appendP P (h ++ [a1, a2, some ⟨[.int .i64 x.m, .int .i64 x.t], 2, false⟩]) t_S_laws_Op v (.slice (some ⟨h.length + 2, 0, some 2⟩) 1 1) = some (v', h') ∧ Holds h0 h' (L.set i (.own v' 2 ((xs ++ [x]).map encO))) ∧ Keeps (rowV v) h h' ∧ (rowV v = none → newOk (h ++ [a1, a2, some ⟨[.int .i64 x.m, .int .i64 x.t], 2, false⟩]) h') := by
  obtain ⟨v', h', g1, g2, g3, g4⟩ := (H.ext (List.prefix_append h [a1, a2])).push (P := P) i (y := encO x) (n := 2) hi u_S_laws_Op e_t_laws_Op z_t_laws_Op s_t_laws_Op (by omega) (by rw [b_t_laws_Op]; omega) rfl rfl (by simp [encO]) (by rw [b_t_laws_Op]; simp; omega)
  rw [show xs.map encO ++ [encO x] = (xs ++ [x]).map encO by simp] at g2
  exact ⟨v', h', by simpa [encO] using g1, g2, Keeps.app.trans g3, by simpa [encO] using g4⟩
theorem app_lO {h0 h : Hp} {L : List Asn} (H : Holds h0 h L) (i : Nat) {v u : Value} {xs ys : List (OpR)} (hi : L[i]? = some (.own v 2 (xs.map encO))) (s : Sees h u 2 (ys.map encO)) (hn : xs.length + ys.length ≤ 2 ^ 40) :
    ∃ v' h', appendP P h t_S_laws_Op v u = some (v', h') ∧ Holds h0 h' (L.set i (.own v' 2 ((xs ++ ys).map encO))) ∧ Keeps (rowV v) h h' := by
  obtain ⟨v', h', g1, g2, g3⟩ := H.app (P := P) i hi u_S_laws_Op e_t_laws_Op z_t_laws_Op s_t_laws_Op (by omega) (by rw [b_t_laws_Op]; omega) s (ones_lO ys) (by rw [b_t_laws_Op]; simp; omega)
  rw [← List.map_append] at g2
  exact ⟨v', h', g1, g2, g3⟩
theorem put_lO {h0 h : Hp} {L : List Asn} (H : Holds h0 h L) (i : Nat) {v : Value} {xs : List (OpR)} (hi : L[i]? = some (.own v 2 (xs.map encO))) {j : Nat} (hj : j < xs.length) (x : OpR) :
    ∃ h', storeP P h t_laws_Op (.agg #[.int .i64 x.m, .int .i64 x.t]) (.pointer (some (addP (base v) (j * 2)))) = some h' ∧ Holds h0 h' (L.set i (.own v 2 ((xs.set j x).map encO))) ∧ Keeps (rowV v) h h' := by
  have := H.put (P := P) i (t := t_laws_Op) (w := .agg #[.int .i64 x.m, .int .i64 x.t]) (j := j) hi i_laws_Op (by simpa using hj) rfl (by simp)
  simpa [List.map_set, encO] using this
theorem fput_lO0 {h0 h : Hp} {L : List Asn} (H : Holds h0 h L) (i : Nat) {v : Value} {xs : List (OpR)} (hi : L[i]? = some (.own v 2 (xs.map encO))) {j : Nat} {y : OpR} (hy : xs[j]? = some y) (z : Int) :
    ∃ h', storeP P h t_int (.int .i64 z) (.pointer (some (addP (addP (base v) (j * 2)) 0))) = some h' ∧ Holds h0 h' (L.set i (.own v 2 ((xs.set j ({ y with m := z })).map encO))) ∧ Keeps (rowV v) h h' := by
  have := H.store (P := P) i hi (t := t_int) (w := .int .i64 z) (j := j) (e := encO y) (l := []) (m := [.int .i64 y.m]) (c := [.int .i64 y.t]) e_t_int (by simp [hy]) rfl (by simp) (by simp) (by simp)
  simpa [List.map_set, encO, addP, Nat.add_assoc] using this
theorem fput_lO1 {h0 h : Hp} {L : List Asn} (H : Holds h0 h L) (i : Nat) {v : Value} {xs : List (OpR)} (hi : L[i]? = some (.own v 2 (xs.map encO))) {j : Nat} {y : OpR} (hy : xs[j]? = some y) (z : Int) :
    ∃ h', storeP P h t_int (.int .i64 z) (.pointer (some (addP (addP (base v) (j * 2)) 1))) = some h' ∧ Holds h0 h' (L.set i (.own v 2 ((xs.set j ({ y with t := z })).map encO))) ∧ Keeps (rowV v) h h' := by
  have := H.store (P := P) i hi (t := t_int) (w := .int .i64 z) (j := j) (e := encO y) (l := [.int .i64 y.m]) (m := [.int .i64 y.t]) (c := []) e_t_int (by simp [hy]) rfl (by simp) (by simp) (by simp)
  simpa [List.map_set, encO, addP, Nat.add_assoc] using this
theorem make_lO {h0 h : Hp} {L : List Asn} (H : Holds h0 h L) {n : Nat} (hn : n ≤ 2 ^ 40) :
    ∃ v h', makeP P h t_S_laws_Op (.int .i64 n) (.int .i64 n) = some (v, h') ∧ Holds h0 h' (L ++ [.own v 2 ((List.replicate n (⟨0, 0⟩ : OpR)).map encO)]) ∧ h <+: h' ∧ (∃ oa, v = .slice oa n n) := by
  have mk := make_eq (h := h) u_S_laws_Op e_t_laws_Op z_t_laws_Op rfl (by rw [s_t_laws_Op]; omega) (by rw [b_t_laws_Op]; omega) (n := n) (by omega) (by rw [b_t_laws_Op]; omega)
  rw [s_t_laws_Op] at mk
  simp only [Value.cells] at mk
  have hlz : ∀ e ∈ List.replicate n ([.int .i64 0, .int .i64 0] : List Value), e.length = 2 := fun e he => by rw [List.eq_of_mem_replicate he]; rfl
  refine ⟨_, _, mk, ?_, List.prefix_append .., _, rfl⟩
  have := H.lit (els := List.replicate n ([.int .i64 0, .int .i64 0] : List Value)) (sz := 2) (n := n * 2) hlz (by simp)
  simpa [encO] using this
theorem load_NO {h : Hp} {v : Value} {xs : List (Value)} {i : Nat} {x : Value} (hv : Sees h v 1 (xs.map encV)) (hx : xs[i]? = some x) :
    indexAddrP P h t_S_S_impl_Op v (.int .i64 i) = some (.pointer (some (addP (base v) (i)))) ∧ loadP P h t_S_impl_Op (.pointer (some (addP (base v) (i)))) = some (x) := by
  have hi := (List.getElem?_eq_some_iff.1 hx).1
  have h1 := hv.indexT (P := P) u_S_S_impl_Op i_S_impl_Op (k := .i64) (j := i) (by omega) (by omega)
  rw [Int.toNat_natCast] at h1
  have h2 := hv.cellT (P := P) (ty := t_S_impl_Op) a_S_impl_Op i_S_impl_Op hx (k := 0) (by omega)
  exact ⟨by simpa using h1, by simpa [encV] using h2⟩
theorem len_NO (xs : List (Value)) : ∀ e ∈ xs.map encV, e.length = 1 := by
  intro e he
  obtain ⟨x, _, rfl⟩ := List.mem_map.1 he
  rfl
theorem ones_NO (xs : List (Value)) (hone : ∀ x ∈ xs, one x = true) : (xs.map encV).flatten.all one = true := by
  induction xs with
  | nil => rfl
  | cons x xs ih => rw [List.map_cons, List.flatten_cons, List.all_append, ih fun y hy => hone y (List.mem_cons_of_mem _ hy)]; simp [encV, -one, hone x (List.mem_cons_self ..)]
theorem push_NO0 {h0 h : Hp} {L : List Asn} (H : Holds h0 h L) (i : Nat) {v : Value} {xs : List (Value)} (hi : L[i]? = some (.own v 1 (xs.map encV))) (x : Value) (hone : one x = true) (hn : xs.length ≤ 2 ^ 40) :
    ∃ v' h', appendP P (h ++ [some ⟨[x], 1, false⟩]) t_S_S_impl_Op v (.slice (some ⟨h.length, 0, some 1⟩) 1 1) = some (v', h') ∧ Holds h0 h' (L.set i (.own v' 1 ((xs ++ [x]).map encV))) ∧ Keeps (rowV v) h h' ∧ (rowV v = none → newOk (h ++ [some ⟨[x], 1, false⟩]) h') := by
  obtain ⟨v', h', g1, g2, g3, g4⟩ := (H.ext (List.prefix_append h [])).push (P := P) i (y := encV x) (n := 1) hi u_S_S_impl_Op e_t_S_impl_Op z_t_S_impl_Op s_t_S_impl_Op (by omega) (by rw [b_t_S_impl_Op]; omega) rfl rfl (by simp [encV, -one, hone]) (by rw [b_t_S_impl_Op]; simp; omega)
  rw [show xs.map encV ++ [encV x] = (xs ++ [x]).map encV by simp] at g2
  exact ⟨v', h', by simpa [encV] using g1, g2, Keeps.app.trans g3, by simpa [encV] using g4⟩
theorem push_NO1 {h0 h : Hp} {L : List Asn} (H : Holds h0 h L) (i : Nat) {v : Value} {xs : List (Value)} (hi : L[i]? = some (.own v 1 (xs.map encV))) (x : Value) (hone : one x = true) {a1 : Option Row} (hn : xs.length ≤ 2 ^ 40) :
    ∃ v' h', appendP P (h ++ [a1, some ⟨[x], 1, false⟩]) t_S_S_impl_Op v (.slice (some ⟨h.length + 1, 0, some 1⟩) 1 1) = some (v', h') ∧ Holds h0 h' (L.set i (.own v' 1 ((xs ++ [x]).map encV))) ∧ Keeps (rowV v) h h' ∧ (rowV v = none → newOk (h ++ [a1, some ⟨[x], 1, false⟩]) h') := by
  obtain ⟨v', h', g1, g2, g3, g4⟩ := (H.ext (List.prefix_append h [a1])).push (P := P) i (y := encV x) (n := 1) hi u_S_S_impl_Op e_t_S_impl_Op z_t_S_impl_Op s_t_S_impl_Op (by omega) (by rw [b_t_S_impl_Op]; omega) rfl rfl (by simp [encV, -one, hone]) (by rw [b_t_S_impl_Op]; simp; omega)
  rw [show xs.map encV ++ [encV x] = (xs ++ [x]).map encV by simp] at g2
  exact ⟨v', h', by simpa [encV] using g1, g2, Keeps.app.trans g3, by simpa [encV] using g4⟩
theorem push_NO2 {h0 h : Hp} {L : List Asn} (H : Holds h0 h L) (i : Nat) {v : Value} {xs : List (Value)} (hi : L[i]? = some (.own v 1 (xs.map encV))) (x : Value) (hone : one x = true) {a1 a2 : Option Row} (hn : xs.length ≤ 2 ^ 40) :
    ∃ v' h', appendP P (h ++ [a1, a2, some ⟨[x], 1, false⟩]) t_S_S_impl_Op v (.slice (some ⟨h.length + 2, 0, some 1⟩) 1 1) = some (v', h') ∧ Holds h0 h' (L.set i (.own v' 1 ((xs ++ [x]).map encV))) ∧ Keeps (rowV v) h h' ∧ (rowV v = none → newOk (h ++ [a1, a2, some ⟨[x], 1, false⟩]) h') := by
  obtain ⟨v', h', g1, g2, g3, g4⟩ := (H.ext (List.prefix_append h [a1, a2])).push (P := P) i (y := encV x) (n := 1) hi u_S_S_impl_Op e_t_S_impl_Op z_t_S_impl_Op s_t_S_impl_Op (by omega) (by rw [b_t_S_impl_Op]; omega) rfl rfl (by simp [encV, -one, hone]) (by rw [b_t_S_impl_Op]; simp; omega)
  rw [show xs.map encV ++ [encV x] = (xs ++ [x]).map encV by simp] at g2
  exact ⟨v', h', by simpa [encV] using g1, g2, Keeps.app.trans g3, by simpa [encV] using g4⟩
theorem app_NO {h0 h : Hp} {L : List Asn} (H : Holds h0 h L) (i : Nat) {v u : Value} {xs ys : List (Value)} (hi : L[i]? = some (.own v 1 (xs.map encV))) (s : Sees h u 1 (ys.map encV)) (hone : ∀ x ∈ ys, one x = true) (hn : xs.length + ys.length ≤ 2 ^ 40) :
    ∃ v' h', appendP P h t_S_S_impl_Op v u = some (v', h') ∧ Holds h0 h' (L.set i (.own v' 1 ((xs ++ ys).map encV))) ∧ Keeps (rowV v) h h' := by
  obtain ⟨v', h', g1, g2, g3⟩ := H.app (P := P) i hi u_S_S_impl_Op e_t_S_impl_Op z_t_S_impl_Op s_t_S_impl_Op (by omega) (by rw [b_t_S_impl_Op]; omega) s (ones_NO ys hone) (by rw [b_t_S_impl_Op]; simp; omega)
  rw [← List.map_append] at g2
  exact ⟨v', h', g1, g2, g3⟩
theorem put_NO {h0 h : Hp} {L : List Asn} (H : Holds h0 h L) (i : Nat) {v : Value} {xs : List (Value)} (hi : L[i]? = some (.own v 1 (xs.map encV))) {j : Nat} (hj : j < xs.length) (x : Value) (hone : one x = true) :
    ∃ h', storeP P h t_S_impl_Op (x) (.pointer (some (addP (base v) (j)))) = some h' ∧ Holds h0 h' (L.set i (.own v 1 ((xs.set j x).map encV))) ∧ Keeps (rowV v) h h' := by
  have := H.put (P := P) i (t := t_S_impl_Op) (w := x) (j := j) hi i_S_impl_Op (by simpa using hj) (by cases x <;> first | rfl | cases hone) (by cases x <;> first | rfl | cases hone)
  rw [show (x : Value).cells.toList = [x] by cases x <;> first | rfl | cases hone] at this
  simpa [List.map_set, encV] using this
theorem makeN_NO {h0 h : Hp} {L : List Asn} (H : Holds h0 h L) {n : Nat} (hn : n ≤ 2 ^ 40) :
    ∃ v h', makeP P h t_S_S_impl_Op (.int .i64 n) (.int .i64 n) = some (v, h') ∧ Holds h0 h' (L ++ [.own v 1 ((List.replicate n (Value.slice none 0 0)).map encV)]) ∧ h <+: h' ∧ (∃ oa, v = .slice oa n n) := by
  have mk := make_eq (h := h) u_S_S_impl_Op e_t_S_impl_Op z_t_S_impl_Op rfl (by rw [s_t_S_impl_Op]; omega) (by rw [b_t_S_impl_Op]; omega) (n := n) (by omega) (by rw [b_t_S_impl_Op]; omega)
  rw [s_t_S_impl_Op] at mk
  simp only [Value.cells] at mk
  have hlz : ∀ e ∈ List.replicate n ([.slice none 0 0] : List Value), e.length = 1 := fun e he => by rw [List.eq_of_mem_replicate he]; rfl
  refine ⟨_, _, mk, ?_, List.prefix_append .., _, rfl⟩
  have := H.lit (els := List.replicate n ([.slice none 0 0] : List Value)) (sz := 1) (n := n * 1) hlz (by simp)
  simpa [encV] using this
end Go.Pm.PP

/- Job shops: what is valid. -/
set_option linter.unusedVariables false
set_option linter.unusedSimpArgs false
set_option maxRecDepth 4000
set_option maxHeartbeats 1000000
namespace Go.Pm.PP
open Go.Pm Go.Proofs
def inB (x a b : Int) : Bool := decide (a ≤ x) && decide (x ≤ b)
def hasL (x : Int) (xs : List Int) : Bool := xs.any (· == x)
theorem l1In_run {h : Hp} {x a b : Int} : Ret P G n_spec_l1In [.int .i64 x, .int .i64 a, .int .i64 b] h (.bool (inB x a b)) h := by
  refine enter_run e_spec_l1In (by simp) ?_
  simp -implicitDefEqProofs
  refine WL_split (fun h => ?_) (fun h => ?_) <;> simp [h, inB]
theorem within_run {h : Hp} {x a b : Int} : Ret P G n_impl_within [.int .i64 x, .int .i64 a, .int .i64 b] h (.bool (inB x a b)) h := by
  refine enter_run e_impl_within (by simp) ?_
  simp -implicitDefEqProofs
  refine WL_split (fun h => ?_) (fun h => ?_) <;> simp [h, inB]
theorem isNumber_run {h : Hp} {i n : Int} : Ret P G n_impl_isNumber [.int .i64 i, .int .i64 n] h (.bool (inB i 0 (w64 (n - 1)))) h := by
  refine enter_run e_impl_isNumber (by simp) ?_
  simp -implicitDefEqProofs [CL_ret within_run, w64]
theorem l1Most_run {h : Hp} {a b : Int} : Ret P G n_spec_l1Most [.int .i64 a, .int .i64 b] h (.int .i64 (max a b)) h := by
  refine enter_run e_spec_l1Most (by simp) ?_
  simp -implicitDefEqProofs
  refine CB_split (fun h => ?_) (fun h => ?_) <;> simp at h <;> simp [h] <;> omega
theorem hasL_cons {x y : Int} {xs : List Int} : hasL x (y :: xs) = ((y == x) || hasL x xs) := rfl
theorem hasL_nil {x : Int} : hasL x [] = false := rfl
theorem l1Has_run {h : Hp} {v : Value} {xs : List Int} {x : Int} (hv : Ints h v xs) (hn : xs.length ≤ 2 ^ 40) :
    Ret P G n_spec_l1Has [v, .int .i64 x] h (.bool (hasL x xs)) h := by
  refine enter_run e_spec_l1Has (by simp) ?_
  obtain ⟨oa, c, rfl⟩ := hv.shapeT
  simp -implicitDefEqProofs
  refine R_loop (fun n s h' => ∃ i : Nat, i + n = xs.length ∧ s = [(0, .slice oa xs.length c), (1, .int .i64 x), (5, .int .i64 i)] ∧ h' = h ∧ hasL x xs = hasL x (xs.drop i)) (fun n s h' => ?_) ⟨0, Nat.zero_add _, by simp⟩
  rintro ⟨i, hi, rfl, rfl, hx⟩
  by_cases hlt : i < xs.length
  · obtain ⟨y, hy, hd⟩ := drop_at hlt
    rw [hd, hasL_cons] at hx
    simp -implicitDefEqProofs [hlt, load_I hv hy]
    refine CB_split (fun h => ?_) (fun h => ?_)
    · simp -implicitDefEqProofs [hx, h]
    · rw [h, Bool.false_or] at hx
      simp -implicitDefEqProofs [winc hlt hn]
      exact ⟨n - 1, by omega, i + 1, by omega, rfl, hx⟩
  · rw [List.drop_eq_nil_of_le (by omega), hasL_nil] at hx
    simp -implicitDefEqProofs [hlt, hx]
theorem has_run {h : Hp} {v : Value} {xs : List Int} {x : Int} (hv : Ints h v xs) (hn : xs.length ≤ 2 ^ 40) :
    Ret P G n_impl_has [v, .int .i64 x] h (.bool (hasL x xs)) h := by
  refine enter_run e_impl_has (by simp) ?_
  obtain ⟨oa, c, rfl⟩ := hv.shapeT
  simp -implicitDefEqProofs
  refine R_loop (fun n s h' => ∃ i : Nat, i + n = xs.length ∧ s = [(1, .int .i64 x), (7, .slice oa xs.length c), (8, .int .i64 xs.length), (9, .int .i64 i)] ∧ h' = h ∧ hasL x xs = hasL x (xs.drop i)) (fun n s h' => ?_) ⟨0, Nat.zero_add _, by simp⟩
  rintro ⟨i, hi, rfl, rfl, hx⟩
  by_cases hlt : i < xs.length
  · obtain ⟨y, hy, hd⟩ := drop_at hlt
    rw [hd, hasL_cons] at hx
    simp -implicitDefEqProofs [hlt, load_I hv hy]
    refine CB_split (fun h => ?_) (fun h => ?_)
    · simp -implicitDefEqProofs [hx, h]
    · rw [h, Bool.false_or] at hx
      simp -implicitDefEqProofs [winc hlt hn]
      exact ⟨n - 1, by omega, i + 1, by omega, rfl, hx⟩
  · rw [List.drop_eq_nil_of_le (by omega), hasL_nil] at hx
    simp -implicitDefEqProofs [hlt, hx]
/-! ### shops -/
structure Shop where
  m : Int
  routes : List (List OpR)
def cntN {α : Type} : List (List α) → Nat
  | [] => 0
  | x :: xs => x.length + cntN xs
theorem cntN_drop {α : Type} {xs : List (List α)} {i : Nat} {x : List α} (h : xs[i]? = some x) : cntN (xs.drop i) = x.length + cntN (xs.drop (i + 1)) := by
  obtain ⟨y, hy, hd⟩ := drop_at (List.getElem?_eq_some_iff.1 h).1
  rw [h] at hy; cases hy
  rw [hd]; rfl
theorem cntN_le {α : Type} {xs : List (List α)} : ∀ (i : Nat), cntN (xs.drop i) ≤ cntN xs := by
  induction xs with
  | nil => intro i; simp [cntN]
  | cons x xs ih =>
    intro i
    cases i with
    | zero => exact Nat.le_refl _
    | succ i => rw [List.drop_succ_cons]; have := ih i; simp only [cntN]; omega
theorem cntN_mem {α : Type} {xs : List (List α)} {x : List α} (h : x ∈ xs) : x.length ≤ cntN xs := by
  obtain ⟨i, hi⟩ := List.getElem?_of_mem h
  have h1 := cntN_drop hi
  have h2 := cntN_le (xs := xs) i
  omega
structure SAt (h : Hp) (vr : Value) (s : Shop) : Prop where
  n : ∃ vs, Nest h vr encO 2 s.routes vs
  rn : s.routes.length ≤ 2 ^ 20
  tot : cntN s.routes ≤ 2 ^ 20
abbrev sv (s : Shop) (vr : Value) : Value := .agg #[.int .i64 s.m, vr]
section
variable {h h' : Hp} {vr : Value} {s : Shop}
theorem SAt.pre (S : SAt h vr s) (hp : h <+: h') : SAt h' vr s := ⟨by obtain ⟨vs, n⟩ := S.n; exact ⟨vs, n.pre hp⟩, S.rn, S.tot⟩
theorem SAt.ext (S : SAt h vr s) (l : Hp) : SAt (h ++ l) vr s := S.pre (List.prefix_append ..)
theorem SAt.shape (S : SAt h vr s) : ∃ oa c, vr = .slice oa s.routes.length c := by obtain ⟨vs, n⟩ := S.n; exact n.shape
theorem SAt.at (S : SAt h vr s) {i : Nat} {x : List OpR} (hx : s.routes[i]? = some x) : ∃ oa c, Ops h (.slice oa x.length c) x ∧ x.length ≤ 2 ^ 20 ∧ ∀ h', h <+: h' →
    indexAddrP P h' t_S_S_impl_Op vr (.int .i64 i) = some (.pointer (some (addP (base vr) i))) ∧ loadP P h' t_S_impl_Op (.pointer (some (addP (base vr) i))) = some (.slice oa x.length c) := by
  obtain ⟨vs, n⟩ := S.n
  obtain ⟨u, hu, ho⟩ := n.at hx
  obtain ⟨oa, c, rfl⟩ := ho.shapeT
  exact ⟨oa, c, ho, Nat.le_trans (cntN_mem (List.mem_of_getElem? hx)) S.tot, fun h' hp => (n.pre hp).load (P := P) u_S_S_impl_Op i_S_impl_Op a_S_impl_Op hu⟩
end
theorem l9Count_run {h : Hp} {vr : Value} {s : Shop} (S : SAt h vr s) : Ret P G n_spec_l9Count [sv s vr] h (.int .i64 (cntN s.routes)) h := by
  refine enter_run e_spec_l9Count (by simp) ?_
  have Ss := S
  obtain ⟨oa, c, rfl⟩ := S.shape
  simp -implicitDefEqProofs
  refine R_loop (fun n st h' => ∃ i a : Nat, i + n = s.routes.length ∧ st = [(1, .pointer (some ⟨h.length, 0, some 2⟩)), (3, .int .i64 a), (4, .int .i64 i)] ∧ h' = h ++ [some ⟨[.int .i64 s.m, .slice oa s.routes.length c], 0, false⟩] ∧ cntN s.routes = a + cntN (s.routes.drop i)) (fun n st h' => ?_) ⟨0, 0, Nat.zero_add _, by simp, rfl, by simp⟩
  rintro ⟨i, a, hi, rfl, rfl, hx⟩
  have tot := Ss.tot
  have rn := Ss.rn
  by_cases hlt : i < s.routes.length
  · obtain ⟨y, hy, hd⟩ := drop_at hlt
    rw [cntN_drop hy] at hx
    obtain ⟨ob, d, ho, hn, g⟩ := Ss.at hy
    have g1 := g (h ++ [some ⟨[.int .i64 s.m, .slice oa s.routes.length c], 0, false⟩]) (List.prefix_append ..)
    have w : IntKind.i64.wrap ((a : Int) + y.length) = ((a + y.length : Nat) : Int) := by rw [wrap_ok] <;> omega
    simp -implicitDefEqProofs [-indexAddrP_some, hlt, g1, winc hlt (by omega), w]
    exact ⟨n - 1, by omega, i + 1, by omega, a + y.length, ⟨rfl, rfl⟩, by omega⟩
  · rw [List.drop_eq_nil_of_le (by omega)] at hx
    simp -implicitDefEqProofs [hlt, hx, cntN]
/-! ### a route -/
def rtOk (M : Int) : List Int → List OpR → Bool
  | _, [] => true
  | us, x :: r => inB x.m 0 (w64 (M - 1)) && inB x.t 1 20 && !hasL x.m us && rtOk M (us ++ [x.m]) r
theorem l9Route_run {h : Hp} {v : Value} {xs : List OpR} {M : Int} (hv : Ops h v xs) (hn : xs.length ≤ 2 ^ 20) : Ret P G n_spec_l9Route [.int .i64 M, v] h (.bool (rtOk M [] xs)) h := by
  refine enter_run e_spec_l9Route (by simp) ?_
  have hvs := hv
  obtain ⟨oa, c, rfl⟩ := hv.shapeT
  simp -implicitDefEqProofs
  refine R_loop (fun n st h' => ∃ (i : Nat) (u : Value) (us : List Int), i + n = xs.length ∧ st = [(0, .int .i64 M), (1, .slice oa xs.length c), (5, u), (6, .int .i64 i)] ∧ Holds h h' [.own u 1 (us.map encI)] ∧ us.length = i ∧ rtOk M [] xs = rtOk M us (xs.drop i)) (fun n st h' => ?_) ⟨0, _, [], Nat.zero_add _, by simp; rfl, Holds.start.call List.prefix_rfl (by simpa using Own.nil), rfl, by simp⟩
  rintro ⟨i, u, us, hi, rfl, H, hus, hx⟩
  have hu := H.sees 0 rfl
  have hv2 := hvs.pre H.pre
  by_cases hlt : i < xs.length
  · obtain ⟨y, hy, hd⟩ := drop_at hlt
    rw [hd, rtOk] at hx
    have hh := fun l => l1Has_run (x := y.m) (hu.ext l) (by omega)
    cases c1 : inB y.m 0 (w64 (M - 1))
    · simp only [c1, Bool.false_and] at hx
      simp -implicitDefEqProofs [-indexAddrP_some, hlt, load_O hv2 hy, CL_ret l1In_run, show inB y.m 0 (IntKind.i64.wrap (M - 1)) = false from c1, hx, gcB' H.pre]
    · cases c2 : inB y.t 1 20
      · simp only [c1, c2, Bool.false_and, Bool.and_false] at hx
        simp -implicitDefEqProofs [-indexAddrP_some, hlt, load_O hv2 hy, CL_ret l1In_run, show inB y.m 0 (IntKind.i64.wrap (M - 1)) = true from c1, c2, hx, gcB' H.pre]
      · cases c3 : hasL y.m us
        · simp only [c1, c2, c3, Bool.true_and, Bool.not_false] at hx
          obtain ⟨v', h', ha, H2, k, _⟩ := push_I1 H 0 rfl y.m (a1 := some ⟨[.int .i64 y.m, .int .i64 y.t], 0, false⟩) (by omega)
          simp -implicitDefEqProofs [-indexAddrP_some, hlt, load_O hv2 hy, CL_ret l1In_run, show inB y.m 0 (IntKind.i64.wrap (M - 1)) = true from c1, c2, CL_ret (hh _), c3, ha, winc hlt (by omega)]
          exact ⟨n - 1, by omega, i + 1, by omega, _, ⟨rfl, rfl⟩, us ++ [y.m], H2, by simp; omega, hx⟩
        · simp only [c1, c2, c3, Bool.true_and, Bool.not_true, Bool.false_and] at hx
          simp -implicitDefEqProofs [-indexAddrP_some, hlt, load_O hv2 hy, CL_ret l1In_run, show inB y.m 0 (IntKind.i64.wrap (M - 1)) = true from c1, c2, CL_ret (hh _), c3, hx, gcB' H.pre]
  · rw [List.drop_eq_nil_of_le (by omega), rtOk] at hx
    simp -implicitDefEqProofs [hlt, hx, gcB H.pre]
/-! ### a shop -/
def rtsOk (M : Int) (rs : List (List OpR)) : Bool := rs.all (rtOk M [])
theorem rtsOk_cons {M : Int} {r : List OpR} {rs : List (List OpR)} : rtsOk M (r :: rs) = (rtOk M [] r && rtsOk M rs) := rfl
def goodS (s : Shop) : Bool := inB s.m 1 4 && decide (s.routes.length ≤ 4) && rtsOk s.m s.routes && decide (cntN s.routes ≤ 12)
theorem l9Good_run {h : Hp} {vr : Value} {s : Shop} (S : SAt h vr s) : Ret P G n_spec_l9Good [sv s vr] h (.bool (goodS s)) h := by
  refine enter_run e_spec_l9Good (by simp) ?_
  have Ss := S
  obtain ⟨oa, c, rfl⟩ := S.shape
  have rn := Ss.rn
  cases c1 : inB s.m 1 4
  · simp -implicitDefEqProofs [CL_ret l1In_run, c1, goodS]
  · by_cases c2 : s.routes.length ≤ 4
    · simp -implicitDefEqProofs [CL_ret l1In_run, c1, show ¬ (4 : Int) < s.routes.length by omega, c2]
      refine R_loop (fun n st h' => ∃ i : Nat, i + n = s.routes.length ∧ st = [(1, .pointer (some ⟨h.length, 0, some 2⟩)), (3, .int .i64 i)] ∧ h' = h ++ [some ⟨[.int .i64 s.m, .slice oa s.routes.length c], 0, false⟩] ∧ rtsOk s.m s.routes = rtsOk s.m (s.routes.drop i)) (fun n st h' => ?_) ⟨0, Nat.zero_add _, by simp, rfl, by simp⟩
      rintro ⟨i, hi, rfl, rfl, hx⟩
      by_cases hlt : i < s.routes.length
      · obtain ⟨y, hy, hd⟩ := drop_at hlt
        rw [hd, rtsOk_cons] at hx
        obtain ⟨ob, d, ho, hn, g⟩ := Ss.at hy
        have g1 := g (h ++ [some ⟨[.int .i64 s.m, .slice oa s.routes.length c], 0, false⟩]) (List.prefix_append ..)
        have rr := l9Route_run (M := s.m) (ho.ext [some ⟨[.int .i64 s.m, .slice oa s.routes.length c], 0, false⟩]) hn
        cases c3 : rtOk s.m [] y
        · simp only [c3, Bool.false_and] at hx
          simp -implicitDefEqProofs [-indexAddrP_some, hlt, g1, CL_ret rr, CH_at rr, c3, goodS, hx]
        · simp only [c3, Bool.true_and] at hx
          simp -implicitDefEqProofs [-indexAddrP_some, hlt, g1, CL_ret rr, CH_at rr, c3, winc hlt (by omega)]
          exact ⟨n - 1, by omega, i + 1, by omega, rfl, hx⟩
      · rw [List.drop_eq_nil_of_le (by omega)] at hx
        have rc := l9Count_run (Ss.ext [some ⟨[.int .i64 s.m, .slice oa s.routes.length c], 0, false⟩])
        simp -implicitDefEqProofs [hlt, CL_ret rc, goodS, c1, c2, hx, show rtsOk s.m [] = true from rfl]
        omega
    · simp -implicitDefEqProofs [CL_ret l1In_run, c1, show (4 : Int) < s.routes.length by omega, c2, goodS]
theorem IsJobShop_run {h : Hp} {vr : Value} {s : Shop} (S : SAt h vr s) : Ret P G n_impl_IsJobShop [sv s vr] h (.bool (goodS s)) h := by
  refine enter_run e_impl_IsJobShop (by simp) ?_
  have Ss := S
  obtain ⟨oa, c, rfl⟩ := S.shape
  have rn := Ss.rn
  have tot := Ss.tot
  cases c1 : inB s.m 1 4
  · simp -implicitDefEqProofs [CL_ret within_run, c1, goodS]
  · by_cases c2 : s.routes.length ≤ 4
    · simp -implicitDefEqProofs [CL_ret within_run, c1, show ¬ (4 : Int) < s.routes.length by omega, c2]
      refine R_loop (fun n st h' => ∃ i a : Nat, i + n = s.routes.length ∧ st = [(1, .pointer (some ⟨h.length, 0, some 2⟩)), (3, .int .i64 a), (20, .slice oa s.routes.length c), (21, .int .i64 s.routes.length), (22, .int .i64 i)] ∧ Holds h h' [.box h.length [.int .i64 s.m, .slice oa s.routes.length c]] ∧ rtsOk s.m s.routes = rtsOk s.m (s.routes.drop i) ∧ cntN s.routes = a + cntN (s.routes.drop i)) (fun n st h' => ?_) ⟨0, 0, Nat.zero_add _, by simp, Holds.start.alloc _, by simp, by simp⟩
      rintro ⟨i, a, hi, rfl, H, hx, hc⟩
      have S2 := Ss.pre H.pre
      by_cases hlt : i < s.routes.length
      · obtain ⟨y, hy, hd⟩ := drop_at hlt
        rw [hd, rtsOk_cons] at hx
        rw [cntN_drop hy] at hc
        obtain ⟨ob, d, ho, hn, g⟩ := Ss.at hy
        have g1 := g h' H.pre
        have w : IntKind.i64.wrap ((a : Int) + y.length) = ((a + y.length : Nat) : Int) := by rw [wrap_ok] <;> omega
        simp -implicitDefEqProofs [-indexAddrP_some, hlt, g1]
        refine R_loop (fun m st h2 => ∃ (j : Nat) (u : Value) (us : List Int), j + m = y.length ∧ st = [(1, .pointer (some ⟨h.length, 0, some 2⟩)), (3, .int .i64 a), (5, .slice ob y.length d), (6, u), (20, .slice oa s.routes.length c), (21, .int .i64 s.routes.length), (22, .int .i64 i), (26, .slice ob y.length d), (27, .int .i64 y.length), (28, .int .i64 j)] ∧ Holds h h2 [.box h.length [.int .i64 s.m, .slice oa s.routes.length c], .own u 1 (us.map encI)] ∧ us.length = j ∧ rtOk s.m [] y = rtOk s.m us (y.drop j)) (fun m st h2 => ?_) ⟨0, _, [], Nat.zero_add _, by simp; rfl, H.call List.prefix_rfl (by simpa using Own.nil), rfl, by simp⟩
        rintro ⟨j, u, us, hj, rfl, H2, hus, hy2⟩
        have hu := H2.sees 1 rfl
        have ho2 := ho.pre H2.pre
        by_cases hlt2 : j < y.length
        · obtain ⟨z, hz, hd2⟩ := drop_at hlt2
          rw [hd2, rtOk] at hy2
          have hh := fun l => has_run (x := z.m) (hu.ext l) (by omega)
          cases d1 : inB z.m 0 (w64 (s.m - 1))
          · simp only [d1, Bool.false_and] at hy2
            simp -implicitDefEqProofs [-indexAddrP_some, hlt2, load_O ho2 hz, H2.bl 0 2 rfl rfl, H2.blx 0 2 rfl rfl, CL_ret isNumber_run, CL_ret within_run, d1, goodS, hx, hy2, gcB' H2.pre]
          · cases d2 : inB z.t 1 20
            · simp only [d1, d2, Bool.false_and, Bool.and_false] at hy2
              simp -implicitDefEqProofs [-indexAddrP_some, hlt2, load_O ho2 hz, H2.bl 0 2 rfl rfl, H2.blx 0 2 rfl rfl, CL_ret isNumber_run, CL_ret within_run, d1, d2, goodS, hx, hy2, gcB' H2.pre]
            · cases d3 : hasL z.m us
              · simp only [d1, d2, d3, Bool.true_and, Bool.not_false] at hy2
                obtain ⟨v', h3, ha, H3, k, _⟩ := push_I1 H2 1 rfl z.m (a1 := some ⟨[.int .i64 z.m, .int .i64 z.t], 0, false⟩) (by omega)
                simp -implicitDefEqProofs [-indexAddrP_some, hlt2, load_O ho2 hz, H2.bl 0 2 rfl rfl, H2.blx 0 2 rfl rfl, CL_ret isNumber_run, CL_ret within_run, d1, d2, CL_ret (hh _), d3, ha, winc hlt2 (by omega)]
                exact ⟨m - 1, by omega, j + 1, by omega, _, ⟨rfl, rfl⟩, us ++ [z.m], H3, by simp; omega, hy2⟩
              · simp only [d1, d2, d3, Bool.true_and, Bool.not_true, Bool.false_and] at hy2
                simp -implicitDefEqProofs [-indexAddrP_some, hlt2, load_O ho2 hz, H2.bl 0 2 rfl rfl, H2.blx 0 2 rfl rfl, CL_ret isNumber_run, CL_ret within_run, d1, d2, CL_ret (hh _), d3, goodS, hx, hy2, gcB' H2.pre]
        · rw [List.drop_eq_nil_of_le (by omega), rtOk] at hy2
          simp only [hy2, Bool.true_and] at hx
          simp -implicitDefEqProofs [hlt2, winc hlt (by omega), w]
          exact ⟨n - 1, by omega, i + 1, by omega, a + y.length, ⟨rfl, rfl⟩, H2.take 1, hx, by omega⟩
      · rw [List.drop_eq_nil_of_le (by omega)] at hx hc
        simp -implicitDefEqProofs [hlt, goodS, c1, c2, hx, show rtsOk s.m [] = true from rfl, gcB H.pre]
        simp [cntN] at hc
        omega
    · simp -implicitDefEqProofs [CL_ret within_run, c1, show (4 : Int) < s.routes.length by omega, c2, goodS]
end Go.Pm.PP

/- Job shops by the reference: operations, selections, arcs. -/
set_option linter.unusedVariables false
set_option linter.unusedSimpArgs false
set_option maxRecDepth 4000
set_option maxHeartbeats 1000000
namespace Go.Pm.PP
open Go.Pm Go.Proofs
theorem own_nil {h0 h : Hp} {L : List Asn} (H : Holds h0 h L) (α : Type) (enc : α → List Value) (sz : Nat) : Holds h0 h (L ++ [.own (.slice none 0 0) sz (([] : List α).map enc)]) := H.call List.prefix_rfl (by simpa using Own.nil)
/-! ### nested lists of numbers -/
structure OAt (h : Hp) (v : Value) (xss : List (List Int)) : Prop where
  n : ∃ vs, Nest h v encI 1 xss vs
  rn : xss.length ≤ 2 ^ 20
  tot : cntN xss ≤ 2 ^ 20
section
variable {h h' : Hp} {v : Value} {xss : List (List Int)}
theorem OAt.pre (S : OAt h v xss) (hp : h <+: h') : OAt h' v xss := ⟨by obtain ⟨vs, n⟩ := S.n; exact ⟨vs, n.pre hp⟩, S.rn, S.tot⟩
theorem OAt.ext (S : OAt h v xss) (l : Hp) : OAt (h ++ l) v xss := S.pre (List.prefix_append ..)
theorem OAt.shape (S : OAt h v xss) : ∃ oa c, v = .slice oa xss.length c := by obtain ⟨vs, n⟩ := S.n; exact n.shape
theorem OAt.at (S : OAt h v xss) {i : Nat} {x : List Int} (hx : xss[i]? = some x) : ∃ oa c, Ints h (.slice oa x.length c) x ∧ x.length ≤ 2 ^ 20 ∧ ∀ h', h <+: h' →
    indexAddrP P h' t_S_S_int v (.int .i64 i) = some (.pointer (some (addP (base v) i))) ∧ loadP P h' t_S_int (.pointer (some (addP (base v) i))) = some (.slice oa x.length c) := by
  obtain ⟨vs, n⟩ := S.n
  obtain ⟨u, hu, ho⟩ := n.at hx
  obtain ⟨oa, c, rfl⟩ := ho.shapeT
  exact ⟨oa, c, ho, Nat.le_trans (cntN_mem (List.mem_of_getElem? hx)) S.tot, fun h' hp => (n.pre hp).load (P := P) u_S_S_int i_S_int a_S_int hu⟩
end
/-! ### all operations -/
def opsL (s : Shop) : List OpR := s.routes.flatten
theorem flat_len' {α : Type} {xs : List (List α)} : xs.flatten.length = cntN xs := by
  induction xs with
  | nil => rfl
  | cons x xs ih => rw [List.flatten_cons, List.length_append, ih]; rfl
theorem l9All_run {h : Hp} {vr : Value} {s : Shop} (S : SAt h vr s) : RunsC P G n_spec_l9All [sv s vr] h fun v h' => h <+: h' ∧ Own h.length h' v 2 ((opsL s).map encO) := by
  refine enter_run e_spec_l9All (by simp) ?_
  have Ss := S
  obtain ⟨oa, c, rfl⟩ := S.shape
  have rn := Ss.rn
  have tot := Ss.tot
  simp -implicitDefEqProofs
  refine R_loop (fun n st h' => ∃ (i : Nat) (u : Value) (us : List OpR), i + n = s.routes.length ∧ st = [(1, .pointer (some ⟨h.length, 0, some 2⟩)), (3, u), (4, .int .i64 i)] ∧ Holds h h' [.box h.length [.int .i64 s.m, .slice oa s.routes.length c], .own u 2 (us.map encO)] ∧ opsL s = us ++ (s.routes.drop i).flatten ∧ us.length + cntN (s.routes.drop i) = cntN s.routes) (fun n st h' => ?_) ⟨0, _, [], Nat.zero_add _, by simp, own_nil (Holds.start.alloc _) _ _ _, by simp [opsL], by simp⟩
  rintro ⟨i, u, us, hi, rfl, H, hx, hc⟩
  by_cases hlt : i < s.routes.length
  · obtain ⟨y, hy, hd⟩ := drop_at hlt
    rw [cntN_drop hy] at hc
    rw [hd, List.flatten_cons, ← List.append_assoc] at hx
    obtain ⟨ob, d, ho, hn, g⟩ := Ss.at hy
    obtain ⟨v', h2, ha, H2, k⟩ := app_O H 1 rfl (ho.pre H.pre) (by omega)
    simp -implicitDefEqProofs [-indexAddrP_some, hlt, H.bl 0 2 rfl rfl, H.blx 0 2 rfl rfl, g h' H.pre, ha, winc hlt (by omega)]
    exact ⟨n - 1, by omega, i + 1, by omega, _, ⟨rfl, rfl⟩, us ++ y, H2, hx, by simp; omega⟩
  · rw [List.drop_eq_nil_of_le (by omega), List.flatten_nil, List.append_nil] at hx
    subst hx
    simp -implicitDefEqProofs [hlt, H.bl 0 2 rfl rfl, H.blx 0 2 rfl rfl]
    exact H.ret 1 rfl
/-! ### those of a machine -/
def onGo (m : Int) : List OpR → Nat → List Int
  | [], _ => []
  | x :: r, i => if x.m == m then (i : Int) :: onGo m r (i + 1) else onGo m r (i + 1)
def onL (s : Shop) (m : Int) : List Int := onGo m (opsL s) 0
theorem onGo_len {m : Int} : ∀ {xs : List OpR} {i : Nat}, (onGo m xs i).length ≤ xs.length
  | [], _ => Nat.le_refl _
  | x :: r, i => by
    rw [onGo]
    have := @onGo_len m r (i + 1)
    split <;> simp <;> omega
theorem ops_len {s : Shop} : (opsL s).length = cntN s.routes := flat_len'
theorem l9On_run {h : Hp} {vr : Value} {s : Shop} {m : Int} (S : SAt h vr s) : RunsC P G n_spec_l9On [sv s vr, .int .i64 m] h fun v h' => h <+: h' ∧ Own h.length h' v 1 ((onL s m).map encI) := by
  refine enter_run e_spec_l9On (by simp) ?_
  have Ss := S
  obtain ⟨oa, c, rfl⟩ := S.shape
  have tot := Ss.tot
  have ol := ops_len (s := s)
  simp -implicitDefEqProofs
  refine CL_post (l9All_run (Ss.ext _)) fun v h1 ⟨hp1, ho⟩ => ?_
  have H1 := (Holds.start.alloc [.int .i64 s.m, .slice oa s.routes.length c] (h := h)).call hp1 ho
  obtain ⟨ob, d, rfl⟩ := ho.sees.shapeT
  simp -implicitDefEqProofs
  refine R_loop (fun n st h' => ∃ (i : Nat) (u : Value) (us : List Int), i + n = (opsL s).length ∧ st = [(1, .int .i64 m), (5, u), (6, .slice ob (opsL s).length d), (7, .int .i64 i)] ∧ Holds h h' [.box h.length [.int .i64 s.m, .slice oa s.routes.length c], .own (.slice ob (opsL s).length d) 2 ((opsL s).map encO), .own u 1 (us.map encI)] ∧ onL s m = us ++ onGo m ((opsL s).drop i) i ∧ us.length ≤ i) (fun n st h' => ?_) ⟨0, _, [], Nat.zero_add _, by simp, own_nil H1 _ _ _, by simp [onL], by simp⟩
  rintro ⟨i, u, us, hi, rfl, H, hx, hu⟩
  by_cases hlt : i < (opsL s).length
  · obtain ⟨y, hy, hd⟩ := drop_at hlt
    rw [hd, onGo] at hx
    have ho2 := H.sees 1 rfl
    cases c1 : (y.m == m)
    · rw [c1] at hx
      simp -implicitDefEqProofs [-indexAddrP_some, hlt, load_O ho2 hy, c1, winc hlt (by omega)]
      exact ⟨n - 1, by omega, i + 1, by omega, _, ⟨rfl, rfl⟩, us, H, by simpa using hx, by omega⟩
    · rw [c1] at hx
      obtain ⟨v', h2, ha, H2, k, _⟩ := push_I0 H 2 rfl (i : Int) (by omega)
      simp -implicitDefEqProofs [-indexAddrP_some, hlt, load_O ho2 hy, c1, ha, winc hlt (by omega)]
      exact ⟨n - 1, by omega, i + 1, by omega, _, ⟨rfl, rfl⟩, us ++ [(i : Int)], H2, by simpa using hx, by simp; omega⟩
  · rw [List.drop_eq_nil_of_le (by omega), onGo, List.append_nil] at hx
    subst hx
    simp -implicitDefEqProofs [hlt]
    exact H.ret 2 rfl
/-! ### route and index -/
def rowP (r : Nat) : Nat → Nat → List (Int × Int)
  | _, 0 => []
  | k, n + 1 => ((r : Int), (k : Int)) :: rowP r (k + 1) n
def idxGo : Nat → List (List OpR) → List (Int × Int)
  | _, [] => []
  | r, x :: xs => rowP r 0 x.length ++ idxGo (r + 1) xs
def idxL (s : Shop) : List (Int × Int) := idxGo 0 s.routes
theorem rowP_len {r : Nat} : ∀ {k n : Nat}, (rowP r k n).length = n
  | _, 0 => rfl
  | k, n + 1 => by rw [rowP, List.length_cons, rowP_len]
theorem idxGo_len : ∀ {r : Nat} {xs : List (List OpR)}, (idxGo r xs).length = cntN xs
  | _, [] => rfl
  | r, x :: xs => by rw [idxGo, List.length_append, rowP_len, idxGo_len]; rfl
theorem l9Ops_run {h : Hp} {vr : Value} {s : Shop} (S : SAt h vr s) : RunsC P G n_spec_l9Ops [sv s vr] h fun v h' => h <+: h' ∧ Own h.length h' v 2 ((idxL s).map encQ) := by
  refine enter_run e_spec_l9Ops (by simp) ?_
  have Ss := S
  obtain ⟨oa, c, rfl⟩ := S.shape
  have rn := Ss.rn
  have tot := Ss.tot
  have il : (idxL s).length = cntN s.routes := idxGo_len
  simp -implicitDefEqProofs
  refine R_loop (fun n st h' => ∃ (i : Nat) (u : Value) (us : List (Int × Int)), i + n = s.routes.length ∧ st = [(1, .pointer (some ⟨h.length, 0, some 2⟩)), (3, u), (4, .int .i64 i)] ∧ Holds h h' [.box h.length [.int .i64 s.m, .slice oa s.routes.length c], .own u 2 (us.map encQ)] ∧ idxL s = us ++ idxGo i (s.routes.drop i)) (fun n st h' => ?_) ⟨0, _, [], Nat.zero_add _, by simp, own_nil (Holds.start.alloc _) _ _ _, by simp [idxL]⟩
  rintro ⟨i, u, us, hi, rfl, H, hx⟩
  by_cases hlt : i < s.routes.length
  · obtain ⟨y, hy, hd⟩ := drop_at hlt
    rw [hd, idxGo] at hx
    obtain ⟨ob, d, ho, hn, g⟩ := Ss.at hy
    simp -implicitDefEqProofs [-indexAddrP_some, hlt, H.bl 0 2 rfl rfl, H.blx 0 2 rfl rfl]
    refine R_loop (fun m st h2 => ∃ (j : Nat) (u : Value) (us : List (Int × Int)), j + m = y.length ∧ st = [(1, .pointer (some ⟨h.length, 0, some 2⟩)), (3, u), (4, .int .i64 i), (5, .int .i64 j)] ∧ Holds h h2 [.box h.length [.int .i64 s.m, .slice oa s.routes.length c], .own u 2 (us.map encQ)] ∧ idxL s = us ++ (rowP i j (y.length - j) ++ idxGo (i + 1) (s.routes.drop (i + 1)))) (fun m st h2 => ?_) ⟨0, _, us, Nat.zero_add _, by simp, H, by simpa using hx⟩
    rintro ⟨j, u, us, hj, rfl, H, hx⟩
    by_cases hlt2 : j < y.length
    · rw [show y.length - j = (y.length - (j + 1)) + 1 by omega, rowP] at hx
      have hul := congrArg List.length hx
      rw [il] at hul
      simp at hul
      obtain ⟨v', h3, ha, H2, k, _⟩ := push_Q0 H 1 rfl ((i : Int), (j : Int)) (by omega)
      simp -implicitDefEqProofs [-indexAddrP_some, hlt2, H.bl 0 2 rfl rfl, H.blx 0 2 rfl rfl, g h2 H.pre, ha, winc hlt2 (by omega)]
      exact ⟨m - 1, by omega, j + 1, by omega, _, ⟨rfl, rfl⟩, us ++ [((i : Int), (j : Int))], H2, by simpa using hx⟩
    · rw [show y.length - j = 0 by omega, rowP, List.nil_append] at hx
      simp -implicitDefEqProofs [-indexAddrP_some, hlt2, H.bl 0 2 rfl rfl, H.blx 0 2 rfl rfl, g h2 H.pre, winc hlt (by omega)]
      exact ⟨n - 1, by omega, i + 1, by omega, _, ⟨rfl, rfl⟩, us, H, hx⟩
  · rw [List.drop_eq_nil_of_le (by omega), idxGo, List.append_nil] at hx
    subst hx
    simp -implicitDefEqProofs [hlt, H.bl 0 2 rfl rfl, H.blx 0 2 rfl rfl]
    exact H.ret 1 rfl
/-! ### arcs of routes -/
def nxGo : Nat → List Int → List (Int × Int)
  | i, a :: b :: r => if a == b then ((i : Int), (i : Int) + 1) :: nxGo (i + 1) (b :: r) else nxGo (i + 1) (b :: r)
  | _, _ => []
theorem nxGo_len : ∀ {i : Nat} {xs : List Int}, (nxGo i xs).length ≤ xs.length
  | _, [] => by simp [nxGo]
  | _, [a] => by simp [nxGo]
  | i, a :: b :: r => by
    rw [nxGo]
    have := @nxGo_len (i + 1) (b :: r)
    split <;> simp at this ⊢ <;> omega
def rtL (s : Shop) : List Int := (idxL s).map (·.1)
def nxL (s : Shop) : List (Int × Int) := nxGo 0 (rtL s)
theorem rt_len {s : Shop} : (rtL s).length = cntN s.routes := by rw [rtL, List.length_map]; exact idxGo_len
theorem nx_len {s : Shop} : (nxL s).length ≤ cntN s.routes := by rw [← rt_len]; exact nxGo_len
theorem l9Next_run {h : Hp} {vr : Value} {s : Shop} (S : SAt h vr s) : RunsC P G n_spec_l9Next [sv s vr] h fun v h' => h <+: h' ∧ Own h.length h' v 2 ((nxL s).map encQ) := by
  refine enter_run e_spec_l9Next (by simp) ?_
  have Ss := S
  obtain ⟨oa, c, rfl⟩ := S.shape
  have tot := Ss.tot
  have il : (idxL s).length = cntN s.routes := idxGo_len
  simp -implicitDefEqProofs
  refine CL_post (l9Ops_run (Ss.ext _)) fun v h1 ⟨hp1, ho⟩ => ?_
  have H1 := (Holds.start.alloc [.int .i64 s.m, .slice oa s.routes.length c] (h := h)).call hp1 ho
  obtain ⟨ob, d, rfl⟩ := ho.sees.shapeT
  simp -implicitDefEqProofs
  refine R_loop (fun n st h' => ∃ (i : Nat) (u : Value) (us : List (Int × Int)), i + n = (idxL s).length ∧ st = [(3, u), (4, .slice ob (idxL s).length d), (5, .int .i64 i)] ∧ Holds h h' [.box h.length [.int .i64 s.m, .slice oa s.routes.length c], .own (.slice ob (idxL s).length d) 2 ((idxL s).map encQ), .own u 2 (us.map encQ)] ∧ nxL s = us ++ nxGo i ((rtL s).drop i) ∧ us.length ≤ i) (fun n st h' => ?_) ⟨0, _, [], Nat.zero_add _, by simp, own_nil H1 _ _ _, by simp [nxL], by simp⟩
  rintro ⟨i, u, us, hi, rfl, H, hx, hu⟩
  have w0 : i < (idxL s).length → IntKind.i64.wrap ((i : Int) + 1) = (i : Int) + 1 := fun _ => by rw [wrap_ok] <;> omega
  by_cases hlt : i + 1 < (idxL s).length
  · obtain ⟨y, hy, hd⟩ := drop_at (show i < (idxL s).length by omega)
    obtain ⟨z, hz, hd2⟩ := drop_at hlt
    have hr : (rtL s).drop i = y.1 :: z.1 :: (rtL s).drop (i + 2) := by
      rw [rtL, ← List.map_drop, hd, hd2, List.map_cons, List.map_cons, List.map_drop]
    have hr2 : (rtL s).drop (i + 1) = z.1 :: (rtL s).drop (i + 2) := by
      rw [rtL, ← List.map_drop, hd2, List.map_cons, List.map_drop]
    rw [hr, nxGo, ← hr2] at hx
    have ho2 := H.sees 1 rfl
    have lz := load_Q ho2 hz
    rw [show ((i + 1 : Nat) : Int) = (i : Int) + 1 from rfl] at lz
    have hlt' : (i : Int) + 1 < (idxL s).length := by omega
    cases c1 : (y.1 == z.1)
    · rw [c1] at hx
      simp -implicitDefEqProofs [-indexAddrP_some, hlt', load_Q ho2 hy, lz, c1, w0 (by omega)]
      exact ⟨n - 1, by omega, i + 1, by omega, _, ⟨rfl, rfl⟩, us, H, by simpa using hx, by omega⟩
    · rw [c1] at hx
      obtain ⟨v', h2, ha, H2, k, _⟩ := push_Q0 H 2 rfl ((i : Int), (i : Int) + 1) (by omega)
      simp -implicitDefEqProofs [-indexAddrP_some, hlt', load_Q ho2 hy, lz, c1, ha, w0 (by omega)]
      exact ⟨n - 1, by omega, i + 1, by omega, _, ⟨rfl, rfl⟩, us ++ [((i : Int), (i : Int) + 1)], H2, by simpa using hx, by simp; omega⟩
  · have hlt' : ¬ (i : Int) + 1 < (idxL s).length := by omega
    have hw : IntKind.i64.wrap ((i : Int) + 1) = (i : Int) + 1 := by rw [wrap_ok] <;> omega
    have hn : nxGo i ((rtL s).drop i) = [] := by
      have : ((rtL s).drop i).length ≤ 1 := by rw [List.length_drop, rt_len]; omega
      match (rtL s).drop i, this with
      | [], _ => rfl
      | [a], _ => rfl
      | a :: b :: r, h => simp at h
    rw [hn, List.append_nil] at hx
    subst hx
    simp -implicitDefEqProofs [hlt', hw]
    exact H.ret 2 rfl
end Go.Pm.PP

/- Longest ways by rounds: the plain law, without a program. -/
set_option linter.unusedVariables false
set_option linter.unusedSimpArgs false
namespace Go.Pm.JS
/-- The number at a place, 0 where there is none. -/
def gN (v : List Int) (i : Nat) : Int := v.getD i 0
structure Arc where
  x : Nat
  y : Nat
  w : Int
/-- One arc: the value at x is at least that at y and w. -/
def gstep (v : List Int) (e : Arc) : List Int := if gN v e.y + e.w > gN v e.x then v.set e.x (gN v e.y + e.w) else v
def gpass (A : List Arc) (v : List Int) : List Int := A.foldl gstep v
def gpasses (A : List Arc) : Nat → List Int → List Int
  | 0, v => v
  | k + 1, v => gpasses A k (gpass A v)
theorem gN_set {v : List Int} {i j : Nat} {z : Int} (hi : i < v.length) : gN (v.set i z) j = if i = j then z else gN v j := by
  unfold gN
  rw [List.getD_eq_getElem?_getD, List.getD_eq_getElem?_getD, List.getElem?_set]
  split
  · rename_i h; subst h; rfl
  · rfl
theorem gstep_len (v : List Int) (e : Arc) : (gstep v e).length = v.length := by unfold gstep; split <;> simp
theorem gpass_len (A : List Arc) (v : List Int) : (gpass A v).length = v.length := by
  unfold gpass
  induction A generalizing v with
  | nil => rfl
  | cons e A ih => rw [List.foldl_cons, ih, gstep_len]
theorem gpasses_len (A : List Arc) : ∀ (k : Nat) (v : List Int), (gpasses A k v).length = v.length
  | 0, v => rfl
  | k + 1, v => by rw [gpasses, gpasses_len A k, gpass_len]
def In (n : Nat) (A : List Arc) : Prop := ∀ e ∈ A, e.x < n ∧ e.y < n ∧ 1 ≤ e.w
/-- p meets all arcs. -/
def Pot (A : List Arc) (p : Nat → Int) : Prop := ∀ e ∈ A, p e.y + e.w ≤ p e.x
section
variable {n : Nat} {A B : List Arc} {v : List Int} {p : Nat → Int}
theorem gstep_up {e : Arc} (hx : e.x < v.length) (j : Nat) : gN v j ≤ gN (gstep v e) j := by
  unfold gstep
  split
  · rw [gN_set hx]; split
    · rename_i h1 h2; subst h2; omega
    · exact Int.le_refl _
  · exact Int.le_refl _
theorem gstep_le {e : Arc} (hx : e.x < v.length) (hp : p e.y + e.w ≤ p e.x) (hv : ∀ j, gN v j ≤ p j) : ∀ j, gN (gstep v e) j ≤ p j := by
  intro j
  unfold gstep
  split
  · rw [gN_set hx]; split
    · rename_i h1 h2; subst h2; have := hv e.y; omega
    · exact hv j
  · exact hv j
theorem gstep_ok {e : Arc} (hx : e.x < v.length) (hne : e.y ≠ e.x) : gN (gstep v e) e.y + e.w ≤ gN (gstep v e) e.x := by
  unfold gstep
  split
  · rename_i h
    rw [gN_set hx, gN_set hx, if_pos rfl, if_neg (fun h => hne h.symm)]; omega
  · omega
theorem gpass_up (hA : In n A) (hn : v.length = n) (j : Nat) : gN v j ≤ gN (gpass A v) j := by
  unfold gpass
  induction A generalizing v with
  | nil => exact Int.le_refl _
  | cons e A ih =>
    rw [List.foldl_cons]
    have h1 := hA e (List.mem_cons_self ..)
    exact Int.le_trans (gstep_up (by omega) j) (ih (fun e he => hA e (List.mem_cons_of_mem _ he)) (by rw [gstep_len]; exact hn))
theorem gpass_le (hA : In n A) (hn : v.length = n) (hp : Pot A p) (hv : ∀ j, gN v j ≤ p j) : ∀ j, gN (gpass A v) j ≤ p j := by
  unfold gpass
  induction A generalizing v with
  | nil => exact hv
  | cons e A ih =>
    rw [List.foldl_cons]
    have h1 := hA e (List.mem_cons_self ..)
    exact ih (fun e he => hA e (List.mem_cons_of_mem _ he)) (by rw [gstep_len]; exact hn) (fun e he => hp e (List.mem_cons_of_mem _ he)) (gstep_le (by omega) (hp e (List.mem_cons_self ..)) hv)
theorem gpasses_le (hA : In n A) (hp : Pot A p) : ∀ (k : Nat) {v : List Int}, v.length = n → (∀ j, gN v j ≤ p j) → ∀ j, gN (gpasses A k v) j ≤ p j
  | 0, v, hn, hv => hv
  | k + 1, v, hn, hv => gpasses_le hA hp k (by rw [gpass_len]; exact hn) (gpass_le hA hn hp hv)
theorem gpasses_up (hA : In n A) : ∀ (k : Nat) {v : List Int}, v.length = n → ∀ j, gN v j ≤ gN (gpasses A k v) j
  | 0, v, hn, j => Int.le_refl _
  | k + 1, v, hn, j => Int.le_trans (gpass_up hA hn j) (gpasses_up hA k (by rw [gpass_len]; exact hn) j)
/-- All arcs into places below rank k are met. -/
def Met (A : List Arc) (r : Nat → Nat) (k : Nat) (v : List Int) : Prop := ∀ e ∈ A, r e.x < k → gN v e.y + e.w ≤ gN v e.x
theorem gstep_same {e : Arc} {r : Nat → Nat} {k : Nat} (hA : ∀ e ∈ A, r e.y < r e.x) (he : e ∈ A) (hx : e.x < v.length) (hm : Met A r k v) : (∀ j, r j < k → gN (gstep v e) j = gN v j) ∧ Met A r k (gstep v e) := by
  have h1 : ∀ j, r j < k → gN (gstep v e) j = gN v j := fun j hj => by
    unfold gstep
    split
    · rename_i h
      rw [gN_set hx]
      split
      · rename_i h2
        subst h2
        have := hm e he hj
        omega
      · rfl
    · rfl
  refine ⟨h1, fun f hf hk => ?_⟩
  have := hA f hf
  rw [h1 f.x hk, h1 f.y (by omega)]
  exact hm f hf hk
/-- A pass over some of the arcs: those that it goes over are met up to rank k. -/
theorem gpass_met {r : Nat → Nat} {k : Nat} (hA : In n A) (hr : ∀ e ∈ A, r e.y < r e.x) : ∀ (C : List Arc), (∀ e ∈ C, e ∈ A) → ∀ {v : List Int}, v.length = n → Met A r k v → Met A r k (gpass C v) ∧ ∀ e ∈ C, r e.x < k + 1 → gN (gpass C v) e.y + e.w ≤ gN (gpass C v) e.x
  | [], _, v, hn, hm => ⟨hm, fun e he => by cases he⟩
  | c :: C, hC, v, hn, hm => by
    have hc := hC c (List.mem_cons_self ..)
    have hin := hA c hc
    obtain ⟨h1, h2⟩ := gstep_same hr hc (by omega) hm
    have hl : (gstep v c).length = n := by rw [gstep_len]; exact hn
    obtain ⟨h3, h4⟩ := gpass_met hA hr C (fun e he => hC e (List.mem_cons_of_mem _ he)) hl h2
    refine ⟨h3, fun e he hk => ?_⟩
    rcases List.mem_cons.1 he with rfl | he
    · have h5 := gstep_ok (v := v) (e := e) (by omega) (fun h => by have := hr e hc; rw [h] at this; omega)
      -- the value at y stays in what follows, that at x grows
      have h6 := gpass_up (A := C) (fun e he => hA e (hC e (List.mem_cons_of_mem _ he))) hl e.x
      have h7 : ∀ (D : List Arc), (∀ e ∈ D, e ∈ A) → ∀ {u : List Int}, u.length = n → Met A r k u → ∀ j, r j < k → gN (gpass D u) j = gN u j := by
        intro D
        induction D with
        | nil => intro _ u _ _ j _; rfl
        | cons d D ih =>
          intro hD u hu hmu j hj
          obtain ⟨g1, g2⟩ := gstep_same hr (hD d (List.mem_cons_self ..)) (by have := hA d (hD d (List.mem_cons_self ..)); omega) hmu
          have := ih (fun e he => hD e (List.mem_cons_of_mem _ he)) (u := gstep u d) (by rw [gstep_len]; exact hu) g2 j hj
          show gN (gpass D (gstep u d)) j = _
          rw [this, g1 j hj]
      have h8 := h7 C (fun e he => hC e (List.mem_cons_of_mem _ he)) hl h2 e.y (by have := hr e hc; omega)
      show gN (gpass C (gstep v e)) e.y + e.w ≤ gN (gpass C (gstep v e)) e.x
      rw [h8]; omega
    · exact h4 e he hk
theorem gpasses_met {r : Nat → Nat} (hA : In n A) (hr : ∀ e ∈ A, r e.y < r e.x) : ∀ (j k : Nat) {v : List Int}, v.length = n → Met A r k v → Met A r (k + j) (gpasses A j v)
  | 0, k, v, hn, hm => hm
  | j + 1, k, v, hn, hm => by
    have h1 := (gpass_met hA hr A (fun e he => he) hn hm).2
    have := gpasses_met hA hr j (k + 1) (v := gpass A v) (by rw [gpass_len]; exact hn) h1
    rw [show k + (j + 1) = k + 1 + j by omega]
    exact this
theorem filter_two {α : Type} (f : α → Bool) : ∀ (l : List α), l.length = (l.filter f).length + (l.filter fun x => !f x).length
  | [] => rfl
  | x :: l => by
    have := filter_two f l
    cases h : f x <;> simp [List.filter_cons, h] <;> omega
/-- How many places have less. -/
def rank (p : Nat → Int) (n i : Nat) : Nat := ((List.range n).filter fun j => decide (p j < p i)).length
theorem rank_lt {i : Nat} (hi : i < n) : rank p n i < n := by
  unfold rank
  have h1 : (List.filter (fun j => decide (p j < p i)) (List.range n)).length + (List.filter (fun j => !decide (p j < p i)) (List.range n)).length = n := by
    have := filter_two (fun j => decide (p j < p i)) (List.range n)
    simpa using this.symm
  have h2 : 0 < (List.filter (fun j => !decide (p j < p i)) (List.range n)).length := List.length_pos_of_mem (a := i) (by simp [hi])
  omega
theorem rank_mono {i j : Nat} (hi : i < n) (h : p i < p j) : rank p n i < rank p n j := by
  unfold rank
  have h1 : List.Sublist ((List.range n).filter fun k => decide (p k < p i)) (((List.range n).filter fun k => decide (p k < p j)).filter fun k => decide (p k < p i)) := by
    rw [List.filter_filter]
    refine (List.filter_congr fun k hk => ?_) ▸ List.Sublist.refl _
    by_cases g : p k < p i
    · simp [g]; omega
    · simp [g]
  have h2 := h1.length_le
  have h3 := filter_two (fun k => decide (p k < p i)) ((List.range n).filter fun k => decide (p k < p j))
  have h4 : 0 < (List.filter (fun k => !decide (p k < p i)) ((List.range n).filter fun k => decide (p k < p j))).length := List.length_pos_of_mem (a := i) (by simp [hi, h])
  omega
/-- With something that meets all arcs, n - 1 passes meet them, and more. -/
theorem gpasses_ok (hA : In n A) (hp : Pot A p) (k : Nat) (hk : n ≤ k + 1) (hn : v.length = n) : ∀ e ∈ A, gN (gpasses A k v) e.y + e.w ≤ gN (gpasses A k v) e.x := by
  have hr : ∀ e ∈ A, rank p n e.y < rank p n e.x := fun e he => by
    have h1 := hA e he
    have h2 := hp e he
    exact rank_mono h1.2.1 (by omega)
  have h0 : Met A (rank p n) 1 v := fun e he h => by have := hr e he; omega
  have := gpasses_met hA hr k 1 hn h0
  intro e he
  exact this e he (by have := rank_lt (p := p) (hA e he).1; omega)
theorem gpass_fix (hm : ∀ e ∈ A, gN v e.y + e.w ≤ gN v e.x) : gpass A v = v := by
  unfold gpass
  induction A with
  | nil => rfl
  | cons e A ih =>
    have h1 := hm e (List.mem_cons_self ..)
    have : gstep v e = v := by unfold gstep; rw [if_neg (by omega)]
    rw [List.foldl_cons, this]
    exact ih fun e he => hm e (List.mem_cons_of_mem _ he)
theorem list_eq {u w : List Int} (hl : u.length = w.length) (h : ∀ j, gN u j = gN w j) : u = w := by
  apply List.ext_getElem hl
  intro i h1 h2
  have := h i
  unfold gN at this
  rw [List.getD_eq_getElem?_getD, List.getD_eq_getElem?_getD, List.getElem?_eq_getElem h1, List.getElem?_eq_getElem h2] at this
  simpa using this
/-- Two that meet all arcs and are below all that do are the same. -/
theorem least_eq {u w : List Int} (hu : u.length = n) (hw : w.length = n) (h1 : Pot A (gN u)) (h2 : Pot B (gN w)) (hAB : ∀ e, e ∈ A ↔ e ∈ B) (hv : v.length = n) (g1 : ∀ j, gN v j ≤ gN u j) (g2 : ∀ j, gN v j ≤ gN w j)
    (l1 : ∀ p, Pot A p → (∀ j, gN v j ≤ p j) → ∀ j, gN u j ≤ p j) (l2 : ∀ p, Pot B p → (∀ j, gN v j ≤ p j) → ∀ j, gN w j ≤ p j) : u = w := by
  refine list_eq (by omega) fun j => ?_
  have a := l1 (gN w) (fun e he => h2 e ((hAB e).1 he)) g2 j
  have b := l2 (gN u) (fun e he => h1 e ((hAB e).2 he)) g1 j
  omega
/-- Enough passes over the same arcs, in whatever order. -/
theorem passes_eq (hA : In n A) (hAB : ∀ e, e ∈ A ↔ e ∈ B) (hp : Pot A p) (hv : v.length = n) (k m : Nat) (hk : n ≤ k + 1) (hm : n ≤ m + 1) : gpasses A k v = gpasses B m v := by
  have hB : In n B := fun e he => hA e ((hAB e).2 he)
  have hpB : Pot B p := fun e he => hp e ((hAB e).2 he)
  exact least_eq (n := n) (v := v) (by rw [gpasses_len]; exact hv) (by rw [gpasses_len]; exact hv) (gpasses_ok hA hp k hk hv) (gpasses_ok hB hpB m hm hv) hAB hv (gpasses_up hA k hv) (gpasses_up hB m hv)
    (fun q hq h => gpasses_le hA hq k hv h) (fun q hq h => gpasses_le hB hq m hv h)
end
/-! ### rounds until nothing changes -/
def fstep (s : List Int × Bool) (e : Arc) : List Int × Bool := if gN s.1 e.y + e.w > gN s.1 e.x then (s.1.set e.x (gN s.1 e.y + e.w), true) else s
def fpass (A : List Arc) (s : List Int × Bool) : List Int × Bool := A.foldl fstep s
def rounds (A : List Arc) : Nat → List Int → Option (List Int)
  | 0, _ => none
  | k + 1, v => if (fpass A (v, false)).2 then rounds A k (fpass A (v, false)).1 else some (fpass A (v, false)).1
theorem fpass_fst (A : List Arc) (s : List Int × Bool) : (fpass A s).1 = gpass A s.1 := by
  unfold fpass gpass
  induction A generalizing s with
  | nil => rfl
  | cons e A ih =>
    rw [List.foldl_cons, List.foldl_cons, ih]
    congr 1
    unfold fstep gstep
    split <;> rfl
theorem fpass_true (A : List Arc) (v : List Int) : (fpass A (v, true)).2 = true := by
  unfold fpass
  induction A generalizing v with
  | nil => rfl
  | cons e A ih =>
    rw [List.foldl_cons]
    unfold fstep
    split <;> exact ih _
theorem fpass_false {A : List Arc} {v : List Int} : (fpass A (v, false)).2 = false ↔ ∀ e ∈ A, gN v e.y + e.w ≤ gN v e.x := by
  induction A with
  | nil => simp [fpass]
  | cons e A ih =>
    show (fpass A (fstep (v, false) e)).2 = false ↔ _
    by_cases h : gN v e.y + e.w > gN v e.x
    · rw [show fstep (v, false) e = (v.set e.x (gN v e.y + e.w), true) by unfold fstep; rw [if_pos h], fpass_true]
      simp; intro h2; omega
    · rw [show fstep (v, false) e = (v, false) by unfold fstep; rw [if_neg h], ih]
      simp; omega
section
variable {n : Nat} {A B : List Arc} {v u : List Int} {p : Nat → Int}
/-- What is told where nothing changes any more: the least that meets all arcs. -/
theorem rounds_some (hA : In n A) : ∀ {k : Nat} {v : List Int}, v.length = n → rounds A k v = some u → u.length = n ∧ Pot A (gN u) ∧ (∀ j, gN v j ≤ gN u j) ∧ ∀ p, Pot A p → (∀ j, gN v j ≤ p j) → ∀ j, gN u j ≤ p j
  | 0, v, hn, h => by cases h
  | k + 1, v, hn, h => by
    unfold rounds at h
    split at h
    · rw [fpass_fst] at h
      obtain ⟨h1, h2, h3, h4⟩ := rounds_some hA (by rw [gpass_len]; exact hn) h
      exact ⟨h1, h2, fun j => Int.le_trans (gpass_up hA hn j) (h3 j), fun q hq hv => h4 q hq (gpass_le hA hn hq hv)⟩
    · rename_i hf
      have hm := fpass_false.1 (by simpa using hf)
      have e : (fpass A (v, false)).1 = v := by rw [fpass_fst]; exact gpass_fix hm
      rw [e] at h
      cases h
      exact ⟨hn, hm, fun j => Int.le_refl _, fun q hq hv => hv⟩
theorem rounds_none {k : Nat} {v : List Int} (h : rounds A k v = none) (j : Nat) (hj : j < k) : ∃ e ∈ A, ¬ gN (gpasses A j v) e.y + e.w ≤ gN (gpasses A j v) e.x := by
  induction k generalizing v j with
  | zero => omega
  | succ k ih =>
    unfold rounds at h
    split at h
    · rename_i hf
      rw [fpass_fst] at h
      cases j with
      | zero =>
        have : ¬ ∀ e ∈ A, gN v e.y + e.w ≤ gN v e.x := fun hm => by rw [fpass_false.2 hm] at hf; cases hf
        simpa [gpasses] using this
      | succ j => exact ih h j (by omega)
    · cases h
/-- It ends where something meets all arcs. -/
theorem rounds_pot (hA : In n A) (hp : Pot A p) (hn : v.length = n) : ∃ u, rounds A (n + 1) v = some u := by
  cases h : rounds A (n + 1) v with
  | some u => exact ⟨u, rfl⟩
  | none =>
    obtain ⟨e, he, h1⟩ := rounds_none h n (by omega)
    exact absurd (gpasses_ok hA hp n (by omega) hn e he) h1
/-- The order of the arcs is all one. -/
theorem rounds_eq (hA : In n A) (hAB : ∀ e, e ∈ A ↔ e ∈ B) (hn : v.length = n) : rounds A (n + 1) v = rounds B (n + 1) v := by
  have hB : In n B := fun e he => hA e ((hAB e).2 he)
  cases h1 : rounds A (n + 1) v with
  | some u =>
    obtain ⟨a1, a2, a3, a4⟩ := rounds_some hA hn h1
    obtain ⟨w, h2⟩ := rounds_pot hB (p := gN u) (fun e he => a2 e ((hAB e).2 he)) hn
    obtain ⟨b1, b2, b3, b4⟩ := rounds_some hB hn h2
    rw [h2, least_eq a1 b1 a2 b2 hAB hn a3 b3 a4 b4]
  | none =>
    cases h2 : rounds B (n + 1) v with
    | none => rfl
    | some w =>
      obtain ⟨b1, b2, b3, b4⟩ := rounds_some hB hn h2
      obtain ⟨u, h3⟩ := rounds_pot hA (p := gN w) (fun e he => b2 e ((hAB e).1 he)) hn
      rw [h1] at h3; cases h3
end
end Go.Pm.JS

/- Heads and tails: the plain law, without a program. -/
set_option linter.unusedVariables false
set_option linter.unusedSimpArgs false
namespace Go.Pm.JS
def mx (l : List Int) : Int := l.foldl max 0
theorem foldl_max_ge (l : List Int) (a : Int) : a ≤ l.foldl max a ∧ ∀ x ∈ l, x ≤ l.foldl max a := by
  induction l generalizing a with
  | nil => simp
  | cons y l ih =>
    obtain ⟨h1, h2⟩ := ih (max a y)
    refine ⟨by rw [List.foldl_cons]; omega, fun x hx => ?_⟩
    rw [List.foldl_cons]
    rcases List.mem_cons.1 hx with rfl | hx
    · omega
    · exact h2 x hx
theorem foldl_max_le {l : List Int} {a b : Int} (ha : a ≤ b) (h : ∀ x ∈ l, x ≤ b) : l.foldl max a ≤ b := by
  induction l generalizing a with
  | nil => exact ha
  | cons y l ih =>
    rw [List.foldl_cons]
    have := h y (List.mem_cons_self ..)
    exact ih (by omega) fun x hx => h x (List.mem_cons_of_mem _ hx)
theorem mx_nonneg (l : List Int) : 0 ≤ mx l := (foldl_max_ge l 0).1
theorem mx_ge {l : List Int} {x : Int} (h : x ∈ l) : x ≤ mx l := (foldl_max_ge l 0).2 x h
theorem mx_le {l : List Int} {b : Int} (hb : 0 ≤ b) (h : ∀ x ∈ l, x ≤ b) : mx l ≤ b := foldl_max_le hb h
theorem gN_mem {v : List Int} {i : Nat} (h : i < v.length) : gN v i ∈ v := by
  unfold gN
  rw [List.getD_eq_getElem?_getD, List.getElem?_eq_getElem h]
  exact List.getElem_mem _
theorem gN_out {v : List Int} {i : Nat} (h : v.length ≤ i) : gN v i = 0 := by
  unfold gN
  rw [List.getD_eq_getElem?_getD, List.getElem?_eq_none h]; rfl
theorem mem_gN {v : List Int} {x : Int} (h : x ∈ v) : ∃ i, i < v.length ∧ gN v i = x := by
  obtain ⟨i, hi⟩ := List.getElem?_of_mem h
  exact ⟨i, (List.getElem?_eq_some_iff.1 hi).1, by unfold gN; rw [List.getD_eq_getElem?_getD, hi]; rfl⟩
theorem gN_le_mx (v : List Int) (i : Nat) : gN v i ≤ mx v := by
  rcases Nat.lt_or_ge i v.length with h | h
  · exact mx_ge (gN_mem h)
  · rw [gN_out h]; exact mx_nonneg _
/-- Arcs between places, by pairs: forwards (heads) and backwards (tails). -/
def hArcs (t : List Int) (ps : List (Nat × Nat)) : List Arc := ps.map fun p => ⟨p.2, p.1, gN t p.1⟩
def tArcs (t : List Int) (ps : List (Nat × Nat)) : List Arc := ps.map fun p => ⟨p.1, p.2, gN t p.1⟩
/-- Pairs of places below n, and times of at least 1. -/
structure POk (n : Nat) (t : List Int) (ps : List (Nat × Nat)) : Prop where
  tl : t.length = n
  pos : ∀ x ∈ t, 1 ≤ x
  lt : ∀ p ∈ ps, p.1 < n ∧ p.2 < n
section
variable {n : Nat} {t : List Int} {ps bs : List (Nat × Nat)} {u T : List Int}
theorem POk.hIn (o : POk n t ps) : In n (hArcs t ps) := by
  intro e he
  obtain ⟨p, hp, rfl⟩ := List.mem_map.1 he
  have := o.lt p hp
  exact ⟨this.2, this.1, o.pos _ (gN_mem (by rw [o.tl]; exact this.1))⟩
theorem POk.tIn (o : POk n t ps) : In n (tArcs t ps) := by
  intro e he
  obtain ⟨p, hp, rfl⟩ := List.mem_map.1 he
  have := o.lt p hp
  exact ⟨this.1, this.2, o.pos _ (gN_mem (by rw [o.tl]; exact this.1))⟩
theorem POk.nonneg (o : POk n t ps) (i : Nat) : 0 ≤ gN t i := by
  rcases Nat.lt_or_ge i t.length with h | h
  · have := o.pos _ (gN_mem h); omega
  · rw [gN_out h]; omega
/-- The least heads. -/
structure Heads (n : Nat) (t : List Int) (ps : List (Nat × Nat)) (u : List Int) : Prop where
  len : u.length = n
  pos : ∀ j, 0 ≤ gN u j
  arc : ∀ p ∈ ps, gN u p.1 + gN t p.1 ≤ gN u p.2
  least : ∀ q : Nat → Int, (∀ p ∈ ps, q p.1 + gN t p.1 ≤ q p.2) → (∀ j, 0 ≤ q j) → ∀ j, gN u j ≤ q j
structure Tails (n : Nat) (t : List Int) (ps : List (Nat × Nat)) (T : List Int) : Prop where
  len : T.length = n
  up : ∀ j, gN t j ≤ gN T j
  arc : ∀ p ∈ ps, gN T p.2 + gN t p.1 ≤ gN T p.1
  least : ∀ q : Nat → Int, (∀ p ∈ ps, q p.2 + gN t p.1 ≤ q p.1) → (∀ j, gN t j ≤ q j) → ∀ j, gN T j ≤ q j
theorem gN_zeros (n j : Nat) : gN (List.replicate n 0) j = 0 := by
  unfold gN
  rw [List.getD_eq_getElem?_getD, List.getElem?_replicate]
  split <;> rfl
theorem heads_of (o : POk n t ps) {k : Nat} (h : rounds (hArcs t ps) k (List.replicate n 0) = some u) : Heads n t ps u := by
  obtain ⟨h1, h2, h3, h4⟩ := rounds_some o.hIn (by simp) h
  refine ⟨h1, fun j => by have := h3 j; rwa [gN_zeros] at this, fun p hp => h2 ⟨p.2, p.1, gN t p.1⟩ (List.mem_map_of_mem hp), fun q hq h0 => h4 q (fun e he => ?_) fun j => by rw [gN_zeros]; exact h0 j⟩
  obtain ⟨p, hp, rfl⟩ := List.mem_map.1 he
  exact hq p hp
theorem tails_of (o : POk n t ps) {p : Nat → Int} (hp : Pot (tArcs t ps) p) {k : Nat} (hk : n ≤ k + 1) : Tails n t ps (gpasses (tArcs t ps) k t) := by
  refine ⟨by rw [gpasses_len]; exact o.tl, gpasses_up o.tIn k o.tl, fun q hq => gpasses_ok o.tIn hp k hk o.tl ⟨q.1, q.2, gN t q.1⟩ (List.mem_map_of_mem hq), fun q hq h0 => gpasses_le o.tIn (fun e he => ?_) k o.tl h0⟩
  obtain ⟨p, hp, rfl⟩ := List.mem_map.1 he
  exact hq p hp
/-- Where there are heads, something meets the arcs backwards. -/
theorem Heads.back (h : Heads n t ps u) : Pot (tArcs t ps) fun j => - gN u j := by
  intro e he
  obtain ⟨p, hp, rfl⟩ := List.mem_map.1 he
  have := h.arc p hp
  show - gN u p.2 + gN t p.1 ≤ - gN u p.1
  omega
theorem Heads.sum (h : Heads n t ps u) (g : Tails n t ps T) (j : Nat) : gN u j + gN T j ≤ mx T := by
  have := h.least (fun j => mx T - gN T j) (fun p hp => by have := g.arc p hp; show mx T - gN T p.1 + gN t p.1 ≤ mx T - gN T p.2; omega) (fun j => by have := gN_le_mx T j; show 0 ≤ mx T - gN T j; omega) j
  have h2 : gN u j ≤ mx T - gN T j := this
  omega
/-- Ends by heads. -/
def ends (u t : List Int) : List Int := List.zipWith (· + ·) u t
theorem gN_ends (hl : u.length = t.length) (i : Nat) : gN (ends u t) i = gN u i + gN t i := by
  unfold gN ends
  simp only [List.getD_eq_getElem?_getD, List.getElem?_zipWith]
  rcases Nat.lt_or_ge i u.length with h | h
  · rw [List.getElem?_eq_getElem h, List.getElem?_eq_getElem (show i < t.length by omega)]; rfl
  · rw [List.getElem?_eq_none h, List.getElem?_eq_none (show t.length ≤ i by omega)]; rfl
theorem length_eq (o : POk n t ps) (h : Heads n t ps u) (g : Tails n t ps T) : mx (ends u t) = mx T := by
  have hl : u.length = t.length := by rw [h.len, o.tl]
  have hel : (ends u t).length = n := by unfold ends; rw [List.length_zipWith, h.len, o.tl, Nat.min_self]
  apply Int.le_antisymm
  · refine mx_le (mx_nonneg _) fun x hx => ?_
    obtain ⟨i, hi, rfl⟩ := mem_gN hx
    rw [gN_ends hl]
    have h1 := h.sum g i
    have h2 := g.up i
    omega
  · have hM : ∀ j, gN u j + gN t j ≤ mx (ends u t) := fun j => by rw [← gN_ends hl]; exact gN_le_mx _ j
    have := g.least (fun j => mx (ends u t) - gN u j) (fun p hp => by have := h.arc p hp; show mx (ends u t) - gN u p.2 + gN t p.1 ≤ mx (ends u t) - gN u p.1; omega) (fun j => by have := hM j; show gN t j ≤ mx (ends u t) - gN u j; omega)
    refine mx_le (mx_nonneg _) fun x hx => ?_
    obtain ⟨i, hi, rfl⟩ := mem_gN hx
    have h1 : gN T i ≤ mx (ends u t) - gN u i := this i
    have h2 := h.pos i
    omega
/-- A tail is the time itself, or goes on by an arc. -/
theorem Tails.next (g : Tails n t ps T) (o : POk n t ps) (i : Nat) : gN T i = gN t i ∨ ∃ p ∈ ps, p.1 = i ∧ gN T i = gN t i + gN T p.2 := by
  rcases Classical.em (∃ p ∈ ps, p.1 = i ∧ gN T i = gN t i + gN T p.2) with h | h
  · exact .inr h
  refine .inl ?_
  rcases Classical.em (gN T i = gN t i) with h1 | h1
  · exact h1
  exfalso
  have hu := g.up i
  have := g.least (fun j => if j = i then gN T i - 1 else gN T j) (fun p hp => ?_) (fun j => ?_) i
  · simp at this; omega
  · have ha := g.arc p hp
    have h2 : p.1 = i → gN T i ≠ gN t i + gN T p.2 := fun e e2 => h ⟨p, hp, e, e2⟩
    have hpos : 1 ≤ gN t p.1 := o.pos _ (gN_mem (by rw [o.tl]; exact (o.lt p hp).1))
    show (if p.2 = i then gN T i - 1 else gN T p.2) + gN t p.1 ≤ if p.1 = i then gN T i - 1 else gN T p.1
    by_cases e1 : p.1 = i
    · have h3 := h2 e1
      rw [if_pos e1]
      rw [e1] at ha hpos ⊢
      by_cases e2 : p.2 = i
      · rw [if_pos e2]; rw [e2] at ha; omega
      · rw [if_neg e2]; omega
    · rw [if_neg e1]
      by_cases e2 : p.2 = i
      · rw [if_pos e2]; rw [e2] at ha; omega
      · rw [if_neg e2]; exact ha
  · show gN t j ≤ if j = i then gN T i - 1 else gN T j
    split
    · rename_i e; subst e; omega
    · exact g.up j
/-- The first critical Op. -/
theorem crit_first (h : Heads n t ps u) (g : Tails n t ps T) (i : Nat) : (gN T i = mx T) ↔ (gN u i = 0 ∧ gN u i + gN T i = mx T) := by
  have h1 := h.sum g i
  have h2 := h.pos i
  omega
/-- The next critical Op behind one. -/
theorem crit_next (h : Heads n t ps u) (g : Tails n t ps T) {a i : Nat} (hl : (a, i) ∈ ps) (ha : gN u a + gN T a = mx T) : (gN T i = gN T a - gN t a) ↔ (gN u i = gN u a + gN t a ∧ gN u i + gN T i = mx T) := by
  have h1 := h.sum g i
  have h2 := h.arc (a, i) hl
  have h3 : gN u a + gN t a ≤ gN u i := h2
  omega
theorem crit_pair (h : Heads n t ps u) (g : Tails n t ps T) {a b : Nat} (hl : (a, b) ∈ ps) : (gN u a + gN t a + gN T b = mx T) ↔ (gN u a + gN t a = gN u b ∧ gN u a + gN T a = mx T ∧ gN u b + gN T b = mx T) := by
  have h1 := h.sum g a
  have h2 := h.sum g b
  have h3 : gN u a + gN t a ≤ gN u b := h.arc (a, b) hl
  have h4 : gN T b + gN t a ≤ gN T a := g.arc (a, b) hl
  omega
end
end Go.Pm.JS

/- Job shops by the reference: arcs, selections, earliest starts. -/
set_option linter.unusedVariables false
set_option linter.unusedSimpArgs false
set_option maxRecDepth 4000
set_option maxHeartbeats 1000000
namespace Go.Pm.PP
open Go.Pm Go.Proofs Go.Pm.JS
/-! ### arcs of orders -/
def nbr : List Int → List (Int × Int)
  | a :: b :: r => (a, b) :: nbr (b :: r)
  | _ => []
def arcsL (oss : List (List Int)) : List (Int × Int) := (oss.map nbr).flatten
theorem nbr_len : ∀ {xs : List Int}, (nbr xs).length ≤ xs.length
  | [] => by simp [nbr]
  | [a] => by simp [nbr]
  | a :: b :: r => by
    rw [nbr]
    have := @nbr_len (b :: r)
    simp at this ⊢; omega
theorem arcs_len {xs : List (List Int)} : ((xs.map nbr).flatten).length ≤ cntN xs := by
  induction xs with
  | nil => simp [cntN]
  | cons x xs ih =>
    rw [List.map_cons, List.flatten_cons, List.length_append, cntN]
    have := nbr_len (xs := x)
    omega
theorem l9Arcs_run {h : Hp} {vr vo : Value} {s : Shop} {oss : List (List Int)} (S : SAt h vr s) (O : OAt h vo oss) : RunsC P G n_spec_l9Arcs [sv s vr, vo] h fun v h' => h <+: h' ∧ Own h.length h' v 2 ((nxL s ++ arcsL oss).map encQ) := by
  refine enter_run e_spec_l9Arcs (by simp) ?_
  have Ss := S
  have Os := O
  obtain ⟨oa, c, rfl⟩ := S.shape
  obtain ⟨ob, d, rfl⟩ := O.shape
  have tot := Ss.tot
  have rn := Os.rn
  have otot := Os.tot
  have nl := nx_len (s := s)
  have al : (arcsL oss).length ≤ cntN oss := arcs_len
  obtain ⟨R, hR⟩ : ∃ R, R = nxL s ++ arcsL oss := ⟨_, rfl⟩
  have hRl : R.length ≤ 2 ^ 40 := by rw [hR, List.length_append]; omega
  rw [← hR]
  simp -implicitDefEqProofs
  refine CL_post (l9Next_run (Ss.ext _)) fun v h1 ⟨hp1, ho⟩ => ?_
  have H1 := (Holds.start.alloc [.int .i64 s.m, .slice oa s.routes.length c] (h := h)).call hp1 ho
  simp -implicitDefEqProofs
  refine R_loop (fun n st h' => ∃ (i : Nat) (u : Value) (us : List (Int × Int)), i + n = oss.length ∧ st = [(1, .slice ob oss.length d), (5, u), (6, .int .i64 i)] ∧ Holds h h' [.box h.length [.int .i64 s.m, .slice oa s.routes.length c], .own u 2 (us.map encQ)] ∧ R = us ++ arcsL (oss.drop i)) (fun n st h' => ?_) ⟨0, _, nxL s, Nat.zero_add _, by simp, H1, by simpa using hR⟩
  rintro ⟨i, u, us, hi, rfl, H, hx⟩
  by_cases hlt : i < oss.length
  · obtain ⟨y, hy, hd⟩ := drop_at hlt
    rw [hd, arcsL, List.map_cons, List.flatten_cons] at hx
    obtain ⟨oc, e, hI, hyn, g⟩ := Os.at hy
    simp -implicitDefEqProofs [-indexAddrP_some, hlt]
    refine R_loop (fun m st h2 => ∃ (j : Nat) (u : Value) (us : List (Int × Int)), j + m = y.length ∧ st = [(1, .slice ob oss.length d), (5, u), (6, .int .i64 i), (7, .int .i64 j)] ∧ Holds h h2 [.box h.length [.int .i64 s.m, .slice oa s.routes.length c], .own u 2 (us.map encQ)] ∧ R = us ++ (nbr (y.drop j) ++ arcsL (oss.drop (i + 1)))) (fun m st h2 => ?_) ⟨0, _, us, Nat.zero_add _, by simp, H, by rw [arcsL]; simpa using hx⟩
    rintro ⟨j, u, us, hj, rfl, H, hx⟩
    have hus : us.length ≤ 2 ^ 40 := by
      have := congrArg List.length hx
      rw [List.length_append] at this; omega
    have gg := g h2 H.pre
    have hI2 := hI.pre H.pre
    have hw : j ≤ y.length → IntKind.i64.wrap ((j : Int) + 1) = (j : Int) + 1 := fun _ => by rw [wrap_ok] <;> omega
    by_cases hlt2 : j + 1 < y.length
    · obtain ⟨a, ha, hda⟩ := drop_at (show j < y.length by omega)
      obtain ⟨b, hb, hdb⟩ := drop_at hlt2
      rw [hda, hdb, nbr, ← hdb] at hx
      have lb := load_I hI2 hb
      rw [show ((j + 1 : Nat) : Int) = (j : Int) + 1 from rfl] at lb
      have hlt' : (j : Int) + 1 < y.length := by omega
      obtain ⟨v', h3, hap, H2, k, _⟩ := push_Q0 H 1 rfl (a, b) hus
      simp -implicitDefEqProofs [-indexAddrP_some, hlt', gg, load_I hI2 ha, lb, hap, hw (by omega)]
      exact ⟨m - 1, by omega, j + 1, by omega, _, ⟨rfl, rfl⟩, us ++ [(a, b)], H2, by simpa using hx⟩
    · have hlt' : ¬ (j : Int) + 1 < y.length := by omega
      have hn : nbr (y.drop j) = [] := by
        have : (y.drop j).length ≤ 1 := by rw [List.length_drop]; omega
        match y.drop j, this with
        | [], _ => rfl
        | [a], _ => rfl
        | a :: b :: r, h => simp at h
      rw [hn, List.nil_append] at hx
      have hwj : IntKind.i64.wrap ((j : Int) + 1) = (j : Int) + 1 := by rw [wrap_ok] <;> omega
      simp -implicitDefEqProofs [-indexAddrP_some, hlt', gg, hwj, winc hlt (by omega)]
      exact ⟨n - 1, by omega, i + 1, by omega, _, ⟨rfl, rfl⟩, us, H, hx⟩
  · rw [List.drop_eq_nil_of_le (by omega), show arcsL [] = [] from rfl, List.append_nil] at hx
    subst hx
    simp -implicitDefEqProofs [hlt]
    exact H.ret 1 rfl
/-! ### selections -/
def selGo (s : Shop) : Nat → List (List Int) → Bool
  | _, [] => true
  | k, o :: r => (onL s k).all (fun x => hasL x o) && o.length == (onL s k).length && selGo s (k + 1) r
def selS (s : Shop) (oss : List (List Int)) : Bool := decide ((oss.length : Int) = s.m) && selGo s 0 oss
theorem l9Selects_run {h : Hp} {vr vo : Value} {s : Shop} {oss : List (List Int)} (S : SAt h vr s) (O : OAt h vo oss) : Ret P G n_spec_l9Selects [sv s vr, vo] h (.bool (selS s oss)) h := by
  refine enter_run e_spec_l9Selects (by simp) ?_
  have Ss := S
  have Os := O
  obtain ⟨oa, c, rfl⟩ := S.shape
  obtain ⟨ob, d, rfl⟩ := O.shape
  have tot := Ss.tot
  have rn := Os.rn
  by_cases c1 : (oss.length : Int) = s.m
  · have hsel : selS s oss = selGo s 0 oss := by simp [selS, c1]
    rw [hsel]
    simp -implicitDefEqProofs [c1]
    rw [← c1]
    refine R_loop (fun n st h' => ∃ i : Nat, i + n = oss.length ∧ st = [(1, .slice ob oss.length d), (2, .pointer (some ⟨h.length, 0, some 2⟩)), (5, .int .i64 i)] ∧ Holds h h' [.box h.length [.int .i64 oss.length, .slice oa s.routes.length c]] ∧ selGo s 0 oss = selGo s i (oss.drop i)) (fun n st h' => ?_) ⟨0, Nat.zero_add _, by simp, Holds.start.alloc _, by simp⟩
    rintro ⟨i, hi, rfl, H, hx⟩
    by_cases hlt : i < oss.length
    · obtain ⟨y, hy, hd⟩ := drop_at hlt
      rw [hd, selGo] at hx
      obtain ⟨oc, e, hI, hyn, g⟩ := Os.at hy
      have ron := l9On_run (m := (i : Int)) (Ss.pre H.pre)
      rw [sv, ← c1] at ron
      simp -implicitDefEqProofs [-indexAddrP_some, hlt, H.bl 0 2 rfl rfl, H.blx 0 2 rfl rfl]
      refine CL_post ron fun v h1 ⟨hp1, ho⟩ => ?_
      have H1 := H.call hp1 ho
      obtain ⟨of, f, rfl⟩ := ho.sees.shapeT
      have onl : (onL s i).length ≤ 2 ^ 20 := Nat.le_trans onGo_len (by rw [ops_len]; exact tot)
      simp -implicitDefEqProofs
      refine R_loop (fun m st h2 => ∃ j : Nat, j + m = (onL s i).length ∧ st = [(1, .slice ob oss.length d), (2, .pointer (some ⟨h.length, 0, some 2⟩)), (5, .int .i64 i), (6, .slice of (onL s i).length f), (7, .int .i64 j)] ∧ h2 = h1 ∧ (onL s i).all (fun x => hasL x y) = ((onL s i).drop j).all fun x => hasL x y) (fun m st h2 => ?_) ⟨0, Nat.zero_add _, by simp, rfl, by simp⟩
      rintro ⟨j, hj, rfl, rfl, hall⟩
      have hz1 := H1.sees 1 rfl
      have gg := g h2 H1.pre
      by_cases hlt2 : j < (onL s i).length
      · obtain ⟨z, hz, hdz⟩ := drop_at hlt2
        rw [hdz, List.all_cons] at hall
        have rh := l1Has_run (x := z) (hI.pre H1.pre) (by omega)
        cases c2 : hasL z y
        · rw [c2, Bool.false_and] at hall
          rw [hall, Bool.false_and, Bool.false_and] at hx
          simp -implicitDefEqProofs [-indexAddrP_some, hlt2, gg, load_I hz1 hz, CL_ret rh, CH_at rh, c2, hx, gcB H1.pre]
        · rw [c2, Bool.true_and] at hall
          simp -implicitDefEqProofs [-indexAddrP_some, hlt2, gg, load_I hz1 hz, CL_ret rh, CH_at rh, c2, winc hlt2 (by omega)]
          exact ⟨m - 1, by omega, j + 1, by omega, rfl, by simpa using hall⟩
      · rw [List.drop_eq_nil_of_le (by omega), List.all_nil] at hall
        rw [hall, Bool.true_and] at hx
        by_cases c3 : y.length = (onL s i).length
        · rw [c3] at gg
          rw [show (y.length == (onL s i).length) = true by simpa using c3, Bool.true_and] at hx
          simp -implicitDefEqProofs [-indexAddrP_some, hlt2, gg, c3, winc hlt (by omega)]
          exact ⟨n - 1, by omega, i + 1, by omega, rfl, H1.take 1, hx⟩
        · rw [show (y.length == (onL s i).length) = false by simpa using c3, Bool.false_and] at hx
          have c3' : ¬ (y.length : Int) = (onL s i).length := by omega
          simp -implicitDefEqProofs [-indexAddrP_some, hlt2, gg, c3, c3', nt c3', hx, gcB H1.pre]
    · rw [List.drop_eq_nil_of_le (by omega), selGo] at hx
      simp -implicitDefEqProofs [hlt, hx, gcB H.pre]
  · simp -implicitDefEqProofs [c1, nt c1, selS]
def sel2 (s : Shop) (oss : List (List Int)) : Bool := goodS s && selS s oss
theorem l9Selected_run {h : Hp} {vr vo : Value} {s : Shop} {oss : List (List Int)} (S : SAt h vr s) (O : OAt h vo oss) : Ret P G n_spec_l9Selected [sv s vr, vo] h (.bool (sel2 s oss)) h := by
  refine enter_run e_spec_l9Selected (by simp) ?_
  have r1 := fun l => l9Good_run (S.ext l)
  have r2 := fun l => l9Selects_run (S.ext l) (O.ext l)
  obtain ⟨oa, c, rfl⟩ := S.shape
  obtain ⟨ob, d, rfl⟩ := O.shape
  cases c1 : goodS s <;> simp -implicitDefEqProofs [CL_ret (r1 _), CL_ret (r2 _), c1, sel2]
end Go.Pm.PP

/- Job shops by the reference: earliest starts and tails. -/
set_option linter.unusedVariables false
set_option linter.unusedSimpArgs false
set_option maxRecDepth 4000
set_option maxHeartbeats 2000000
namespace Go.Pm.PP
open Go.Pm Go.Proofs Go.Pm.JS
def tsL (s : Shop) : List Int := (opsL s).map (·.t)
def cP (p : Nat × Nat) : Int × Int := ((p.1 : Int), (p.2 : Int))
theorem gN_get {v : List Int} {i : Nat} (h : i < v.length) : v[i]? = some (gN v i) := by
  unfold gN
  rw [List.getD_eq_getElem?_getD, List.getElem?_eq_getElem h]; rfl
def Bd (c : Nat) (v : List Int) : Prop := ∀ j, 0 ≤ gN v j ∧ gN v j ≤ 20 * (c : Int)
theorem Bd.mono {c d : Nat} {v : List Int} (b : Bd c v) (h : c ≤ d) : Bd d v := fun j => ⟨(b j).1, by have := (b j).2; omega⟩
theorem Bd.step {c : Nat} {v : List Int} (b : Bd c v) {e : Arc} (hx : e.x < v.length) (h1 : 1 ≤ e.w) (h2 : e.w ≤ 20) : Bd (c + 1) (gstep v e) := by
  intro j
  unfold gstep
  have bj := b j
  have by' := b e.y
  split
  · rw [gN_set hx]
    split
    · omega
    · omega
  · omega
/-- What is asked of arcs. -/
structure AsOk (s : Shop) (ps : List (Nat × Nat)) : Prop where
  n : (opsL s).length ≤ 2 ^ 20
  t : ∀ x ∈ tsL s, 1 ≤ x ∧ x ≤ 20
  lt : ∀ p ∈ ps, p.1 < (opsL s).length ∧ p.2 < (opsL s).length
  len : ps.length ≤ 2 ^ 22
section
variable {s : Shop} {ps : List (Nat × Nat)}
theorem ts_len : (tsL s).length = (opsL s).length := by simp [tsL]
theorem AsOk.pok (o : AsOk s ps) : POk (opsL s).length (tsL s) ps := ⟨ts_len, fun x hx => (o.t x hx).1, o.lt⟩
theorem AsOk.time (o : AsOk s ps) {i : Nat} (hi : i < (opsL s).length) : ∃ y, (opsL s)[i]? = some y ∧ gN (tsL s) i = y.t ∧ 1 ≤ y.t ∧ y.t ≤ 20 := by
  obtain ⟨y, hy, _⟩ := drop_at hi
  have h1 : (tsL s)[i]? = some y.t := by simp [tsL, hy]
  have h2 : gN (tsL s) i = y.t := by unfold gN; rw [List.getD_eq_getElem?_getD, h1]; rfl
  have := o.t y.t (List.mem_of_getElem? h1)
  exact ⟨y, hy, h2, this.1, this.2⟩
end
def zerosN (n : Nat) : List Int := List.replicate n 0
theorem Bd_zeros {n : Nat} : Bd 0 (zerosN n) := fun j => by rw [zerosN, gN_zeros]; omega
theorem fstep_eq {v : List Int} {ch : Bool} {e : Arc} : fstep (v, ch) e = if gN v e.y + e.w > gN v e.x then (v.set e.x (gN v e.y + e.w), true) else (v, ch) := rfl
theorem hArcs_cons {t : List Int} {p : Nat × Nat} {ps : List (Nat × Nat)} : hArcs t (p :: ps) = ⟨p.2, p.1, gN t p.1⟩ :: hArcs t ps := rfl
theorem tArcs_cons {t : List Int} {p : Nat × Nat} {ps : List (Nat × Nat)} : tArcs t (p :: ps) = ⟨p.1, p.2, gN t p.1⟩ :: tArcs t ps := rfl
theorem fpass_cons {e : Arc} {A : List Arc} {s : List Int × Bool} : fpass (e :: A) s = fpass A (fstep s e) := rfl
theorem l9Starts_run {h : Hp} {vr va : Value} {s : Shop} {ps : List (Nat × Nat)} (S : SAt h vr s) (A : Prs h va (ps.map cP)) (o : AsOk s ps) :
    RunsC P G n_spec_l9Starts [sv s vr, va] h fun v h' => h <+: h' ∧ ∃ vs us, v = .tuple #[vs, .bool (rounds (hArcs (tsL s) ps) ((opsL s).length + 1) (zerosN (opsL s).length)).isSome] ∧ Own h.length h' vs 1 (us.map encI) ∧ us.length = (opsL s).length ∧
      ∀ u, rounds (hArcs (tsL s) ps) ((opsL s).length + 1) (zerosN (opsL s).length) = some u → us = u := by
  refine hideC fun K hK => enter_run e_spec_l9Starts (by simp) ?_
  have Ss := S
  have Ass := A
  obtain ⟨oa, c, rfl⟩ := S.shape
  obtain ⟨ob, d, rfl⟩ := A.shapeT
  rw [List.length_map] at *
  have on1 := o.n
  have ol := o.len
  simp -implicitDefEqProofs
  refine CL_post (l9All_run (Ss.ext _)) fun v h1 ⟨hp1, ho⟩ => ?_
  have H1 := (Holds.start.alloc [.int .i64 s.m, .slice oa s.routes.length c] (h := h)).call hp1 ho
  obtain ⟨oc, e, rfl⟩ := ho.sees.shapeT
  obtain ⟨vz, h2, mk, H2, hp2, oz, rfl⟩ := make_I H1 (n := (opsL s).length) (by omega)
  generalize hN : (opsL s).length = N at *
  generalize hR : rounds (hArcs (tsL s) ps) (N + 1) (zerosN N) = R at *
  simp -implicitDefEqProofs [mk]
  refine R_loopO (fun n st h' => ∃ (r : Nat) (v : List Int), r + n = N + 1 ∧ st = [(1, .slice ob ps.length d), (6, .slice oc N e), (7, .slice oz N N), (8, .int .i64 r)] ∧
    Holds h h' [.box h.length [.int .i64 s.m, .slice oa s.routes.length c], .own (.slice oc N e) 2 ((opsL s).map encO), .own (.slice oz N N) 1 (v.map encI)] ∧ v.length = N ∧ Bd (r * ps.length) v ∧ R = rounds (hArcs (tsL s) ps) n v) (fun I hI n st h' => ?_) ⟨0, zerosN N, Nat.zero_add _, by simp, H2, by simp [zerosN], by rw [Nat.zero_mul]; exact Bd_zeros, hR.symm⟩
  rintro ⟨r, v, hr, rfl, H, hvl, hb, hx⟩
  by_cases hlt : r < N + 1
  · obtain ⟨m0, rfl⟩ : ∃ m0, n = m0 + 1 := ⟨n - 1, by omega⟩
    have hlt' : (r : Int) ≤ N := by omega
    rw [rounds] at hx
    have hrk : r * ps.length ≤ 2 ^ 20 * 2 ^ 22 := Nat.mul_le_mul (by omega) ol
    simp -implicitDefEqProofs [hlt']
    refine R_loopO (fun n st h' => ∃ (i : Nat) (v' : List Int) (ch : Bool), i + n = ps.length ∧ st = [(1, .slice ob ps.length d), (6, .slice oc N e), (7, .slice oz N N), (8, .int .i64 r), (9, .bool ch), (10, .int .i64 i)] ∧
      Holds h h' [.box h.length [.int .i64 s.m, .slice oa s.routes.length c], .own (.slice oc N e) 2 ((opsL s).map encO), .own (.slice oz N N) 1 (v'.map encI)] ∧ v'.length = N ∧ Bd (r * ps.length + i) v' ∧ fpass (hArcs (tsL s) ps) (v, false) = fpass (hArcs (tsL s) (ps.drop i)) (v', ch)) (fun I2 hI2 n st h' => ?_) ⟨0, v, false, Nat.zero_add _, by simp, H, hvl, hb, by simp⟩
    rintro ⟨i, v', ch, hi, rfl, H3, hvl', hb', hf⟩
    by_cases hlt2 : i < ps.length
    · obtain ⟨p, hp, hd⟩ := drop_at hlt2
      obtain ⟨a, b⟩ := p
      have hab := o.lt (a, b) (List.mem_of_getElem? hp)
      simp only [] at hab
      rw [hN] at hab
      obtain ⟨y, hy, hty, ht1, ht2⟩ := o.time (i := a) (by rw [hN]; exact hab.1)
      have hQ := load_Q (Ass.pre H3.pre) (x := ((a : Int), (b : Int))) (i := i) (by simp [hp, cP])
      have hA1 := load_I (H3.sees 2 rfl) (gN_get (v := v') (i := a) (by omega))
      have hB1 := load_I (H3.sees 2 rfl) (gN_get (v := v') (i := b) (by omega))
      have hT1 := load_O (H3.sees 1 rfl) hy
      have ba := hb' a
      have wA : IntKind.i64.wrap (gN v' a + y.t) = gN v' a + y.t := by rw [wrap_ok] <;> omega
      rw [hd, hArcs_cons, fpass_cons, fstep_eq] at hf
      simp only [hty] at hf
      by_cases c1 : gN v' a + y.t > gN v' b
      · rw [if_pos c1] at hf
        obtain ⟨h4, hs4, H4, k4⟩ := put_I H3 2 rfl (j := b) (by omega) (gN v' a + y.t)
        have c1' : gN v' b < gN v' a + y.t := c1
        simp -implicitDefEqProofs [-indexAddrP_some, hlt2, hQ, hA1, hB1, hT1, wA, c1', hs4, winc hlt2 (by omega)]
        refine ⟨n - 1, by omega, on hI2 ⟨i + 1, v'.set b (gN v' a + y.t), true, by omega, rfl, H4, by simp [hvl'], ?_, hf⟩⟩
        have := hb'.step (e := ⟨b, a, y.t⟩) (by rw [hvl']; exact hab.2) ht1 ht2
        unfold gstep at this
        rw [if_pos c1] at this
        exact this
      · rw [if_neg c1] at hf
        have c1' : ¬ gN v' b < gN v' a + y.t := c1
        simp -implicitDefEqProofs [-indexAddrP_some, hlt2, hQ, hA1, hB1, hT1, wA, c1', winc hlt2 (by omega)]
        exact ⟨n - 1, by omega, on hI2 ⟨i + 1, v', ch, by omega, rfl, H3, hvl', hb'.mono (by omega), hf⟩⟩
    · rw [List.drop_eq_nil_of_le (by omega)] at hf
      have hf' : fpass (hArcs (tsL s) ps) (v, false) = (v', ch) := hf
      rw [hf'] at hx
      have hrn := hb'.mono (d := (r + 1) * ps.length) (by rw [Nat.succ_mul]; omega)
      cases ch
      · simp only [Bool.false_eq_true, if_false] at hx
        simp -implicitDefEqProofs [hlt2]
        exact onK hK ⟨(H3.ret2 2 rfl).1, _, v', by rw [hx]; rfl, (H3.ret2 2 rfl).2, hvl', fun u hu => by rw [hx] at hu; cases hu; rfl⟩
      · simp only [if_true] at hx
        have hw : IntKind.i64.wrap ((r : Int) + 1) = ((r + 1 : Nat) : Int) := by rw [wrap_ok] <;> omega
        simp -implicitDefEqProofs [hlt2, hw]
        exact ⟨m0, by omega, on hI ⟨r + 1, v', by omega, rfl, H3, hvl', hrn, hx⟩⟩
  · have hn0 : n = 0 := by omega
    subst hn0
    have hlt' : ¬ (r : Int) ≤ N := by omega
    rw [rounds] at hx
    simp -implicitDefEqProofs [hlt']
    exact onK hK ⟨(H.ret2 2 rfl).1, _, v, by rw [hx]; rfl, (H.ret2 2 rfl).2, hvl, fun u hu => by rw [hx] at hu; cases hu⟩
end Go.Pm.PP
