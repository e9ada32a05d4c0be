/- The texts PqA, PlJ, PvA, PvB, PvG, Ps1, Ps2, Ps3, PvSa, Ps4, Ps5, Ps6, Ps7, PvV, PvN, PvW, PvX, PvY, Pv1, Pv2, Pv3, Pv4, Pv5, Pv6, Pv7, Pv8, Pv9 of this work: Orders of a list, one after the other, in plain terms: the next order of the program is the next one of the reference's list. -/
import Derived.Test.YtcmbjbddjlamaaaM3
import Derived.Test.YtcmbjbddjlamaaaF5
import Derived.Test.YtcmbjbddjlamaaaM4
/- Orders of a list, one after the other, in plain terms: the next order of the program is the next one of the reference's list. -/
set_option linter.unusedVariables false
set_option linter.unusedSimpArgs false
namespace Go.Pm.PE
/-- All orders, by the first element. -/
def perms : List Int → Nat → List (List Int)
  | _, 0 => [[]]
  | l, n + 1 => (List.range' 0 l.length).flatMap fun i => (perms (l.eraseIdx i) n).map ((l[i]?.getD 0) :: ·)
theorem flat_get {α β : Type} {f : α → List β} : ∀ {l : List α} {i j : Nat} {x : α} {y : β}, l[i]? = some x → (f x)[j]? = some y → ∃ k, (l.flatMap f)[k]? = some y ∧ ((l.flatMap f)[k + 1]? = match (f x)[j + 1]? with | some z => some z | none => ((l.drop (i + 1)).flatMap f)[0]?)
  | a :: l, 0, j, x, y, h1, h2 => by
    simp at h1; subst h1
    refine ⟨j, ?_, ?_⟩
    · rw [List.flatMap_cons, List.getElem?_append_left (List.getElem?_eq_some_iff.1 h2).1]; exact h2
    · rw [List.flatMap_cons]
      have hj := (List.getElem?_eq_some_iff.1 h2).1
      cases h3 : (f a)[j + 1]? with
      | some z => rw [List.getElem?_append_left (List.getElem?_eq_some_iff.1 h3).1]; exact h3
      | none =>
        have h4 := List.getElem?_eq_none_iff.1 h3
        rw [List.getElem?_append_right h4, show j + 1 - (f a).length = 0 by omega]
        rfl
  | a :: l, i + 1, j, x, y, h1, h2 => by
    obtain ⟨k, h3, h4⟩ := @flat_get α β f l i j x y (by simpa using h1) h2
    refine ⟨(f a).length + k, ?_, ?_⟩
    · rw [List.flatMap_cons, List.getElem?_append_right (by omega), Nat.add_sub_cancel_left]; exact h3
    · rw [List.flatMap_cons, List.getElem?_append_right (by omega), show (f a).length + k + 1 - (f a).length = k + 1 by omega, h4, List.drop_succ_cons]
end Go.Pm.PE

/- Jobs, ends and values of objectives, in plain terms; searches through all orders. -/
set_option linter.unusedVariables false
set_option linter.unusedSimpArgs false
namespace Go.Pm.PP
open Go.Pm Go.Pm.PE
structure Job where
  t : Int
  w : Int
  r : Int
  d : Int
def jA (js : List Job) (x : Int) : Job := (js[x.toNat]?).getD ⟨0, 0, 0, 0⟩
def gE (l : List Int) (i : Nat) : Int := (l[i]?).getD 0
theorem gE_set {l : List Int} {j i : Nat} {x : Int} (h : j < l.length) : gE (l.set j x) i = if i = j then x else gE l i := by
  unfold gE
  rw [List.getElem?_set]
  by_cases e : j = i
  · subst e; simp [h]
  · rw [if_neg e, if_neg fun g => e g.symm]
theorem gE_get {l : List Int} {i : Nat} (h : i < l.length) : l[i]? = some (gE l i) := by simp [gE, List.getElem?_eq_getElem h]
def endGo (js : List Job) : List Int → Int → List Int → List Int
  | [], _, E => E
  | x :: r, now, E => endGo js r (max now (jA js x).r + (jA js x).t) (E.set x.toNat (max now (jA js x).r + (jA js x).t))
def endsL (js : List Job) (xs : List Int) : List Int := endGo js xs 0 (List.replicate js.length 0)
theorem endGo_len {js : List Job} : ∀ {xs : List Int} {now : Int} {E : List Int}, (endGo js xs now E).length = E.length
  | [], _, _ => rfl
  | x :: r, now, E => by rw [endGo, endGo_len, List.length_set]
theorem endsL_len {js : List Job} {xs : List Int} : (endsL js xs).length = js.length := by rw [endsL, endGo_len, List.length_replicate]
def inN (n : Nat) (xs : List Int) : Prop := ∀ x, x ∈ xs → 0 ≤ x ∧ x < n
/-! ### values -/
def costV (o : Int) (j : Job) (e : Int) : Int := if o = 2 then e else if o = 3 then j.w * e else if o = 5 then max (e - j.d) 0 else if o = 6 then j.w * max (e - j.d) 0 else if max (e - j.d) 0 = 0 then 0 else if o = 7 then 1 else j.w
def stepV (o : Int) (first : Bool) (acc : Int) (j : Job) (e : Int) : Int := if o = 1 then max acc e else if o = 4 then (if first = true then e - j.d else max acc (e - j.d)) else acc + costV o j e
def valGo (o : Int) : Bool → Int → List Job → List Int → Int
  | f, acc, j :: js, e :: es => valGo o false (stepV o f acc j e) js es
  | _, acc, _, _ => acc
def valE (o : Int) (js : List Job) (es : List Int) : Int := valGo o true 0 js es
/-! ### searches -/
def rem (n : Nat) (begun : List Int) : List Int := ((List.range' 0 n).map fun i : Nat => (i : Int)).filter fun x => !begun.any (· == x)
theorem fold_congr {α β : Type} {f g : β → α → β} : ∀ {l : List α} {b : β}, (∀ x, x ∈ l → ∀ b, f b x = g b x) → l.foldl f b = l.foldl g b
  | [], _, _ => rfl
  | x :: l, b, h => by rw [List.foldl_cons, List.foldl_cons, h x (List.mem_cons_self ..)]; exact fold_congr fun y hy => h y (List.mem_cons_of_mem _ hy)
end Go.Pm.PP

/- Jobs, scenarios: what stands in slices. -/
set_option linter.unusedVariables false
set_option linter.unusedSimpArgs false
set_option maxRecDepth 4000
set_option maxHeartbeats 4000000
namespace Go.Pm.PP
open Go.Pm Go.Proofs
attribute [simp] evParts buildSliceP fillP buildP places reps
def encJ (j : Job) : List Value := [.int .i64 j.t, .int .i64 j.w, .int .i64 j.r, .int .i64 j.d]
abbrev jv (j : Job) : Value := .agg #[.int .i64 j.t, .int .i64 j.w, .int .i64 j.r, .int .i64 j.d]
abbrev Jobs (h : Hp) (v : Value) (js : List Job) : Prop := Sees h v 4 (js.map encJ)
def encV (u : Value) : List Value := [u]
def w64 (n : Int) : Int := IntKind.i64.wrap n
abbrev nilV : Value := .slice none 0 0
end Go.Pm.PP

/- Typed rules for slices: printed by a program of this work (wrap.py). -/
set_option linter.unusedVariables false
set_option linter.unusedSimpArgs false
set_option maxRecDepth 4000
namespace Go.Pm.PP
open Go.Pm Go.Proofs
theorem load_I {h : Hp} {v : Value} {xs : List (Int)} {i : Nat} {x : Int} (hv : Sees h v 1 (xs.map encI)) (hx : xs[i]? = some x) :
    indexAddrP P h t_S_int v (.int .i64 i) = some (.pointer (some (addP (base v) (i)))) ∧ loadP P h t_int (.pointer (some (addP (base v) (i)))) = some (.int .i64 x) := by
  have hi := (List.getElem?_eq_some_iff.1 hx).1
  have h1 := hv.indexT (P := P) u_S_int i_int (k := .i64) (j := i) (by omega) (by omega)
  rw [Int.toNat_natCast] at h1
  have h2 := hv.cellT (P := P) (ty := t_int) a_int i_int hx (k := 0) (by omega)
  exact ⟨by simpa using h1, by simpa [encI] using h2⟩
theorem len_I (xs : List (Int)) : ∀ e ∈ xs.map encI, e.length = 1 := by
  intro e he
  obtain ⟨x, _, rfl⟩ := List.mem_map.1 he
  rfl
theorem ones_I (xs : List (Int)) : (xs.map encI).flatten.all one = true := by
  induction xs with
  | nil => rfl
  | cons x xs ih => rw [List.map_cons, List.flatten_cons, List.all_append, ih]; rfl
theorem push_I0 {h0 h : Hp} {L : List Asn} (H : Holds h0 h L) (i : Nat) {v : Value} {xs : List (Int)} (hi : L[i]? = some (.own v 1 (xs.map encI))) (x : Int) (hn : xs.length ≤ 2 ^ 40) :
    ∃ v' h', appendP P (h ++ [some ⟨[.int .i64 x], 1, false⟩]) t_S_int v (.slice (some ⟨h.length, 0, some 1⟩) 1 1) = some (v', h') ∧ Holds h0 h' (L.set i (.own v' 1 ((xs ++ [x]).map encI))) ∧ Keeps (rowV v) h h' ∧ (rowV v = none → newOk (h ++ [some ⟨[.int .i64 x], 1, false⟩]) h') := by
  obtain ⟨v', h', g1, g2, g3, g4⟩ := (H.ext (List.prefix_append h [])).push (P := P) i (y := encI x) (n := 1) hi u_S_int e_t_int z_t_int s_t_int (by omega) (by rw [b_t_int]; omega) rfl rfl (by simp [encI]) (by rw [b_t_int]; simp; omega)
  rw [show xs.map encI ++ [encI x] = (xs ++ [x]).map encI by simp] at g2
  exact ⟨v', h', by simpa [encI] using g1, g2, Keeps.app.trans g3, by simpa [encI] using g4⟩
theorem app_I {h0 h : Hp} {L : List Asn} (H : Holds h0 h L) (i : Nat) {v u : Value} {xs ys : List (Int)} (hi : L[i]? = some (.own v 1 (xs.map encI))) (s : Sees h u 1 (ys.map encI)) (hn : xs.length + ys.length ≤ 2 ^ 40) :
    ∃ v' h', appendP P h t_S_int v u = some (v', h') ∧ Holds h0 h' (L.set i (.own v' 1 ((xs ++ ys).map encI))) ∧ Keeps (rowV v) h h' := by
  obtain ⟨v', h', g1, g2, g3⟩ := H.app (P := P) i hi u_S_int e_t_int z_t_int s_t_int (by omega) (by rw [b_t_int]; omega) s (ones_I ys) (by rw [b_t_int]; simp; omega)
  rw [← List.map_append] at g2
  exact ⟨v', h', g1, g2, g3⟩
theorem put_I {h0 h : Hp} {L : List Asn} (H : Holds h0 h L) (i : Nat) {v : Value} {xs : List (Int)} (hi : L[i]? = some (.own v 1 (xs.map encI))) {j : Nat} (hj : j < xs.length) (x : Int) :
    ∃ h', storeP P h t_int (.int .i64 x) (.pointer (some (addP (base v) (j)))) = some h' ∧ Holds h0 h' (L.set i (.own v 1 ((xs.set j x).map encI))) ∧ Keeps (rowV v) h h' := by
  have := H.put (P := P) i (t := t_int) (w := .int .i64 x) (j := j) hi i_int (by simpa using hj) rfl (by simp)
  simpa [List.map_set, encI] using this
theorem make_I {h0 h : Hp} {L : List Asn} (H : Holds h0 h L) {n : Nat} (hn : n ≤ 2 ^ 40) :
    ∃ v h', makeP P h t_S_int (.int .i64 n) (.int .i64 n) = some (v, h') ∧ Holds h0 h' (L ++ [.own v 1 ((List.replicate n (0 : Int)).map encI)]) ∧ h <+: h' ∧ (∃ oa, v = .slice oa n n) := by
  have mk := make_eq (h := h) u_S_int e_t_int z_t_int rfl (by rw [s_t_int]; omega) (by rw [b_t_int]; omega) (n := n) (by omega) (by rw [b_t_int]; omega)
  rw [s_t_int] at mk
  simp only [Value.cells] at mk
  have hlz : ∀ e ∈ List.replicate n ([.int .i64 0] : List Value), e.length = 1 := fun e he => by rw [List.eq_of_mem_replicate he]; rfl
  refine ⟨_, _, mk, ?_, List.prefix_append .., _, rfl⟩
  have := H.lit (els := List.replicate n ([.int .i64 0] : List Value)) (sz := 1) (n := n * 1) hlz (by simp)
  simpa [encI] using this
theorem load_J {h : Hp} {v : Value} {xs : List (Job)} {i : Nat} {x : Job} (hv : Sees h v 4 (xs.map encJ)) (hx : xs[i]? = some x) :
    indexAddrP P h t_S_impl_Job v (.int .i64 i) = some (.pointer (some (addP (base v) (i * 4)))) ∧ loadP P h t_impl_Job (.pointer (some (addP (base v) (i * 4)))) = some (.agg #[.int .i64 x.t, .int .i64 x.w, .int .i64 x.r, .int .i64 x.d]) ∧
    loadP P h t_int (.pointer (some (addP (addP (base v) (i * 4)) 0))) = some (.int .i64 x.t) ∧
    loadP P h t_int (.pointer (some (addP (addP (base v) (i * 4)) 1))) = some (.int .i64 x.w) ∧
    loadP P h t_int (.pointer (some (addP (addP (base v) (i * 4)) 2))) = some (.int .i64 x.r) ∧
    loadP P h t_int (.pointer (some (addP (addP (base v) (i * 4)) 3))) = some (.int .i64 x.d) := by
  have hi := (List.getElem?_eq_some_iff.1 hx).1
  have h1 := hv.indexT (P := P) u_S_impl_Job i_impl_Job (k := .i64) (j := i) (by omega) (by omega)
  rw [Int.toNat_natCast] at h1
  have fld : ∀ k, k < 4 → loadP P h t_int (.pointer (some (addP (addP (base v) (i * 4)) k))) = (encJ x)[k]? := by
    intro k hk
    have := hv.cellT (P := P) a_int i_int hx hk
    rw [← this]
    simp only [addP, Nat.add_assoc]
  exact ⟨h1, hv.aggT a_impl_Job i_impl_Job hx, fld 0 (by omega), fld 1 (by omega), fld 2 (by omega), fld 3 (by omega)⟩
theorem push_J0 {h0 h : Hp} {L : List Asn} (H : Holds h0 h L) (i : Nat) {v : Value} {xs : List (Job)} (hi : L[i]? = some (.own v 4 (xs.map encJ))) (x : Job) (hn : xs.length ≤ 2 ^ 40) :
    ∃ v' h', appendP P (h ++ [some ⟨[.int .i64 x.t, .int .i64 x.w, .int .i64 x.r, .int .i64 x.d], 4, false⟩]) t_S_impl_Job v (.slice (some ⟨h.length, 0, some 4⟩) 1 1) = some (v', h') ∧ Holds h0 h' (L.set i (.own v' 4 ((xs ++ [x]).map encJ))) ∧ Keeps (rowV v) h h' ∧ (rowV v = none → newOk (h ++ [some ⟨[.int .i64 x.t, .int .i64 x.w, .int .i64 x.r, .int .i64 x.d], 4, false⟩]) h') := by
  obtain ⟨v', h', g1, g2, g3, g4⟩ := (H.ext (List.prefix_append h [])).push (P := P) i (y := encJ x) (n := 4) hi u_S_impl_Job e_t_impl_Job z_t_impl_Job s_t_impl_Job (by omega) (by rw [b_t_impl_Job]; omega) rfl rfl (by simp [encJ]) (by rw [b_t_impl_Job]; simp; omega)
  rw [show xs.map encJ ++ [encJ x] = (xs ++ [x]).map encJ by simp] at g2
  exact ⟨v', h', by simpa [encJ] using g1, g2, Keeps.app.trans g3, by simpa [encJ] using g4⟩
theorem put_J {h0 h : Hp} {L : List Asn} (H : Holds h0 h L) (i : Nat) {v : Value} {xs : List (Job)} (hi : L[i]? = some (.own v 4 (xs.map encJ))) {j : Nat} (hj : j < xs.length) (x : Job) :
    ∃ h', storeP P h t_impl_Job (.agg #[.int .i64 x.t, .int .i64 x.w, .int .i64 x.r, .int .i64 x.d]) (.pointer (some (addP (base v) (j * 4)))) = some h' ∧ Holds h0 h' (L.set i (.own v 4 ((xs.set j x).map encJ))) ∧ Keeps (rowV v) h h' := by
  have := H.put (P := P) i (t := t_impl_Job) (w := .agg #[.int .i64 x.t, .int .i64 x.w, .int .i64 x.r, .int .i64 x.d]) (j := j) hi i_impl_Job (by simpa using hj) rfl (by simp)
  simpa [List.map_set, encJ] using this
theorem fput_J0 {h0 h : Hp} {L : List Asn} (H : Holds h0 h L) (i : Nat) {v : Value} {xs : List (Job)} (hi : L[i]? = some (.own v 4 (xs.map encJ))) {j : Nat} {y : Job} (hy : xs[j]? = some y) (z : Int) :
    ∃ h', storeP P h t_int (.int .i64 z) (.pointer (some (addP (addP (base v) (j * 4)) 0))) = some h' ∧ Holds h0 h' (L.set i (.own v 4 ((xs.set j ({ y with t := z })).map encJ))) ∧ Keeps (rowV v) h h' := by
  have := H.store (P := P) i hi (t := t_int) (w := .int .i64 z) (j := j) (e := encJ y) (l := []) (m := [.int .i64 y.t]) (c := [.int .i64 y.w, .int .i64 y.r, .int .i64 y.d]) e_t_int (by simp [hy]) rfl (by simp) (by simp) (by simp)
  simpa [List.map_set, encJ, addP, Nat.add_assoc] using this
theorem fput_J1 {h0 h : Hp} {L : List Asn} (H : Holds h0 h L) (i : Nat) {v : Value} {xs : List (Job)} (hi : L[i]? = some (.own v 4 (xs.map encJ))) {j : Nat} {y : Job} (hy : xs[j]? = some y) (z : Int) :
    ∃ h', storeP P h t_int (.int .i64 z) (.pointer (some (addP (addP (base v) (j * 4)) 1))) = some h' ∧ Holds h0 h' (L.set i (.own v 4 ((xs.set j ({ y with w := z })).map encJ))) ∧ Keeps (rowV v) h h' := by
  have := H.store (P := P) i hi (t := t_int) (w := .int .i64 z) (j := j) (e := encJ y) (l := [.int .i64 y.t]) (m := [.int .i64 y.w]) (c := [.int .i64 y.r, .int .i64 y.d]) e_t_int (by simp [hy]) rfl (by simp) (by simp) (by simp)
  simpa [List.map_set, encJ, addP, Nat.add_assoc] using this
theorem fput_J2 {h0 h : Hp} {L : List Asn} (H : Holds h0 h L) (i : Nat) {v : Value} {xs : List (Job)} (hi : L[i]? = some (.own v 4 (xs.map encJ))) {j : Nat} {y : Job} (hy : xs[j]? = some y) (z : Int) :
    ∃ h', storeP P h t_int (.int .i64 z) (.pointer (some (addP (addP (base v) (j * 4)) 2))) = some h' ∧ Holds h0 h' (L.set i (.own v 4 ((xs.set j ({ y with r := z })).map encJ))) ∧ Keeps (rowV v) h h' := by
  have := H.store (P := P) i hi (t := t_int) (w := .int .i64 z) (j := j) (e := encJ y) (l := [.int .i64 y.t, .int .i64 y.w]) (m := [.int .i64 y.r]) (c := [.int .i64 y.d]) e_t_int (by simp [hy]) rfl (by simp) (by simp) (by simp)
  simpa [List.map_set, encJ, addP, Nat.add_assoc] using this
theorem fput_J3 {h0 h : Hp} {L : List Asn} (H : Holds h0 h L) (i : Nat) {v : Value} {xs : List (Job)} (hi : L[i]? = some (.own v 4 (xs.map encJ))) {j : Nat} {y : Job} (hy : xs[j]? = some y) (z : Int) :
    ∃ h', storeP P h t_int (.int .i64 z) (.pointer (some (addP (addP (base v) (j * 4)) 3))) = some h' ∧ Holds h0 h' (L.set i (.own v 4 ((xs.set j ({ y with d := z })).map encJ))) ∧ Keeps (rowV v) h h' := by
  have := H.store (P := P) i hi (t := t_int) (w := .int .i64 z) (j := j) (e := encJ y) (l := [.int .i64 y.t, .int .i64 y.w, .int .i64 y.r]) (m := [.int .i64 y.d]) (c := []) e_t_int (by simp [hy]) rfl (by simp) (by simp) (by simp)
  simpa [List.map_set, encJ, addP, Nat.add_assoc] using this
end Go.Pm.PP

/- What is asked of jobs and orders; numbers in lists. -/
set_option linter.unusedVariables false
set_option linter.unusedSimpArgs false
set_option maxRecDepth 4000
set_option maxHeartbeats 4000000
namespace Go.Pm.PP
open Go.Pm Go.Proofs
def inB (x a b : Int) : Bool := decide (a ≤ x) && decide (x ≤ b)
def hasL (x : Int) (xs : List Int) : Bool := xs.any (· == x)
theorem l1In_run {h : Hp} {x a b : Int} : Ret P G n_spec_l1In [.int .i64 x, .int .i64 a, .int .i64 b] h (.bool (inB x a b)) h := by
  refine enter_run e_spec_l1In (by simp) ?_
  simp -implicitDefEqProofs
  refine WL_split (fun h => ?_) (fun h => ?_) <;> simp [h, inB]
theorem within_run {h : Hp} {x a b : Int} : Ret P G n_impl_within [.int .i64 x, .int .i64 a, .int .i64 b] h (.bool (inB x a b)) h := by
  refine enter_run e_impl_within (by simp) ?_
  simp -implicitDefEqProofs
  refine WL_split (fun h => ?_) (fun h => ?_) <;> simp [h, inB]
theorem isNumber_run {h : Hp} {i n : Int} : Ret P G n_impl_isNumber [.int .i64 i, .int .i64 n] h (.bool (inB i 0 (w64 (n - 1)))) h := by
  refine enter_run e_impl_isNumber (by simp) ?_
  simp -implicitDefEqProofs [CL_ret within_run, w64]
theorem hasL_cons {x y : Int} {xs : List Int} : hasL x (y :: xs) = ((y == x) || hasL x xs) := rfl
theorem hasL_nil {x : Int} : hasL x [] = false := rfl
theorem l1Has_run {h : Hp} {v : Value} {xs : List Int} {x : Int} (hv : Ints h v xs) (hn : xs.length ≤ 2 ^ 40) :
    Ret P G n_spec_l1Has [v, .int .i64 x] h (.bool (hasL x xs)) h := by
  refine enter_run e_spec_l1Has (by simp) ?_
  obtain ⟨oa, c, rfl⟩ := hv.shapeT
  simp -implicitDefEqProofs
  refine R_loop (fun n s h' => ∃ i : Nat, i + n = xs.length ∧ s = [(0, .slice oa xs.length c), (1, .int .i64 x), (5, .int .i64 i)] ∧ h' = h ∧ hasL x xs = hasL x (xs.drop i)) (fun n s h' => ?_) ⟨0, Nat.zero_add _, by simp⟩
  rintro ⟨i, hi, rfl, rfl, hx⟩
  by_cases hlt : i < xs.length
  · obtain ⟨y, hy, hd⟩ := drop_at hlt
    rw [hd, hasL_cons] at hx
    simp -implicitDefEqProofs [hlt, load_I hv hy]
    refine CB_split (fun h => ?_) (fun h => ?_)
    · simp -implicitDefEqProofs [hx, h]
    · rw [h, Bool.false_or] at hx
      simp -implicitDefEqProofs [winc hlt hn]
      exact ⟨n - 1, by omega, i + 1, by omega, rfl, hx⟩
  · rw [List.drop_eq_nil_of_le (by omega), hasL_nil] at hx
    simp -implicitDefEqProofs [hlt, hx]
theorem has_run {h : Hp} {v : Value} {xs : List Int} {x : Int} (hv : Ints h v xs) (hn : xs.length ≤ 2 ^ 40) :
    Ret P G n_impl_has [v, .int .i64 x] h (.bool (hasL x xs)) h := by
  refine enter_run e_impl_has (by simp) ?_
  obtain ⟨oa, c, rfl⟩ := hv.shapeT
  simp -implicitDefEqProofs
  refine R_loop (fun n s h' => ∃ i : Nat, i + n = xs.length ∧ s = [(1, .int .i64 x), (7, .slice oa xs.length c), (8, .int .i64 xs.length), (9, .int .i64 i)] ∧ h' = h ∧ hasL x xs = hasL x (xs.drop i)) (fun n s h' => ?_) ⟨0, Nat.zero_add _, by simp⟩
  rintro ⟨i, hi, rfl, rfl, hx⟩
  by_cases hlt : i < xs.length
  · obtain ⟨y, hy, hd⟩ := drop_at hlt
    rw [hd, hasL_cons] at hx
    simp -implicitDefEqProofs [hlt, load_I hv hy]
    refine CB_split (fun h => ?_) (fun h => ?_)
    · simp -implicitDefEqProofs [hx, h]
    · rw [h, Bool.false_or] at hx
      simp -implicitDefEqProofs [winc hlt hn]
      exact ⟨n - 1, by omega, i + 1, by omega, rfl, hx⟩
  · rw [List.drop_eq_nil_of_le (by omega), hasL_nil] at hx
    simp -implicitDefEqProofs [hlt, hx]
theorem own_nil {h0 h : Hp} {L : List Asn} (H : Holds h0 h L) (α : Type) (enc : α → List Value) (sz : Nat) : Holds h0 h (L ++ [.own (.slice none 0 0) sz (([] : List α).map enc)]) := H.call List.prefix_rfl (by simpa using Own.nil)
def arGo (n : Int) : List Int → List Int → Bool
  | _, [] => true
  | us, x :: r => inB x 0 (w64 (n - 1)) && !hasL x us && arGo n (us ++ [x]) r
theorem areDifferent_run {h : Hp} {v : Value} {xs : List Int} {n : Int} (hv : Ints h v xs) (hn : xs.length ≤ 2 ^ 40) : Ret P G n_impl_areDifferent [.int .i64 n, v] h (.bool (arGo n [] xs)) h := by
  refine enter_run e_impl_areDifferent (by simp) ?_
  have hvs := hv
  obtain ⟨oa, c, rfl⟩ := hv.shapeT
  simp -implicitDefEqProofs
  refine R_loopO (fun m s h' => ∃ i : Nat, i + m = xs.length ∧ s = [(0, .int .i64 n), (1, .slice oa xs.length c), (7, .slice oa xs.length c), (8, .int .i64 xs.length), (9, .int .i64 i)] ∧ h' = h ∧ arGo n [] xs = arGo n (xs.take i) (xs.drop i)) (fun I hI m s h' => ?_) ⟨0, Nat.zero_add _, by simp, rfl, by simp⟩
  rintro ⟨i, hi, rfl, rfl, hx⟩
  by_cases hlt : i < xs.length
  · obtain ⟨y, hy, hd⟩ := drop_at hlt
    rw [hd, arGo, ← take_succ' hy] at hx
    obtain ⟨v', hs, hu⟩ := hvs.front (P := P) u_S_int i_int (k := .i64) (j := (i : Int)) (by omega) (by simp; omega)
    rw [Int.toNat_natCast, ← List.map_take] at hu
    have rh := has_run (x := y) hu (by simp; omega)
    cases c1 : inB y 0 (w64 (n - 1))
    · rw [c1, Bool.false_and, Bool.false_and] at hx
      simp -implicitDefEqProofs [-indexAddrP_some, hlt, load_I hvs hy, CL_ret isNumber_run, c1, hx]
    · cases c2 : hasL y (xs.take i)
      · rw [c1, c2] at hx
        simp -implicitDefEqProofs [-indexAddrP_some, hlt, load_I hvs hy, CL_ret isNumber_run, c1, hs, CL_ret rh, c2, winc hlt hn]
        exact ⟨m - 1, by omega, on hI ⟨i + 1, by omega, rfl, rfl, by simpa using hx⟩⟩
      · rw [c1, c2] at hx
        simp -implicitDefEqProofs [-indexAddrP_some, hlt, load_I hvs hy, CL_ret isNumber_run, c1, hs, CL_ret rh, c2]
        simpa using hx
  · rw [List.drop_eq_nil_of_le (by omega), arGo] at hx
    simp -implicitDefEqProofs [hlt, hx]
theorem copyInts_run {h : Hp} {v : Value} {xs : List Int} (hv : Ints h v xs) (hn : xs.length ≤ 2 ^ 40) : RunsC P G n_impl_copyInts [v] h fun v' h' => h <+: h' ∧ Own h.length h' v' 1 (xs.map encI) := by
  refine hideC fun K hK => enter_run e_impl_copyInts (by simp) ?_
  have H0 := own_nil (Holds.start (h := h)) Int encI 1
  obtain ⟨v', h', ha, H1, k⟩ := app_I H0 0 rfl hv (by simp; omega)
  simp -implicitDefEqProofs [ha]
  exact onK hK (H1.ret 0 rfl)
theorem isDate_run {h : Hp} {x : Int} : Ret P G n_impl_isDate [.int .i64 x] h (.bool (inB x 0 500)) h := by
  refine enter_run e_impl_isDate (by simp) ?_
  simp -implicitDefEqProofs [CL_ret within_run]
def jobOk (j : Job) : Bool := inB j.t 1 50 && inB j.w 0 50 && inB j.r 0 500 && inB j.d 0 500
theorem jobOk_eq (j : Job) : jobOk j = (inB j.t 1 50 && inB j.w 0 50 && inB j.r 0 500 && inB j.d 0 500) := rfl
theorem l2Job_run {h : Hp} {j : Job} : Ret P G n_spec_l2Job [jv j] h (.bool (jobOk j)) h := by
  refine enter_run e_spec_l2Job (by simp) ?_
  cases h1 : inB j.t 1 50 <;> cases h2 : inB j.w 0 50 <;> cases h3 : inB j.r 0 500 <;> cases h4 : inB j.d 0 500 <;>
    simp -implicitDefEqProofs [CL_ret l1In_run, h1, h2, h3, h4, jobOk]
def goodL (js : List Job) : Bool := js.all jobOk
theorem goodL_cons {j : Job} {js : List Job} : goodL (j :: js) = (jobOk j && goodL js) := rfl
theorem goodL_nil : goodL [] = true := rfl
theorem l2Good_run {h : Hp} {v : Value} {js : List Job} (hv : Jobs h v js) (hn : js.length ≤ 2 ^ 40) :
    Ret P G n_spec_l2Good [v] h (.bool (decide (js.length ≤ 8) && goodL js)) h := by
  refine enter_run e_spec_l2Good (by simp) ?_
  obtain ⟨oa, c, rfl⟩ := hv.shapeT
  simp -implicitDefEqProofs
  refine R_loopO (fun n s h' => ∃ i : Nat, i + n = js.length ∧ s = [(0, .slice oa js.length c), (3, .int .i64 i)] ∧ h' = h ∧ goodL js = goodL (js.drop i)) (fun I hI n s h' => ?_) ⟨0, Nat.zero_add _, by simp⟩
  rintro ⟨i, hi, rfl, rfl, hx⟩
  by_cases hlt : i < js.length
  · obtain ⟨y, hy, hd⟩ := drop_at hlt
    rw [hd, goodL_cons] at hx
    cases c1 : jobOk y
    · rw [c1, Bool.false_and] at hx
      simp -implicitDefEqProofs [-indexAddrP_some, hlt, load_J hv hy, CL_ret l2Job_run, c1, hx]
    · rw [c1, Bool.true_and] at hx
      simp -implicitDefEqProofs [-indexAddrP_some, hlt, load_J hv hy, CL_ret l2Job_run, c1, winc hlt hn]
      exact ⟨n - 1, by omega, on hI ⟨i + 1, by omega, rfl, rfl, hx⟩⟩
  · rw [List.drop_eq_nil_of_le (by omega), goodL_nil] at hx
    simp -implicitDefEqProofs [hlt, hx]
    try omega
theorem IsJobs_run {h : Hp} {v : Value} {js : List Job} (hv : Jobs h v js) (hn : js.length ≤ 2 ^ 40) :
    Ret P G n_impl_IsJobs [v] h (.bool (decide (js.length ≤ 8) && goodL js)) h := by
  refine enter_run e_impl_IsJobs (by simp) ?_
  obtain ⟨oa, c, rfl⟩ := hv.shapeT
  simp -implicitDefEqProofs
  refine CB_split (fun h => ?_) (fun h => ?_)
  · simp at h
    simp -implicitDefEqProofs [show ¬ js.length ≤ 8 by omega]
  · have h8 : js.length ≤ 8 := by simp at h; omega
    simp -implicitDefEqProofs [h8]
    rename_i h0
    refine R_loop (fun n s h' => ∃ i : Nat, i + n = js.length ∧ s = [(8, .slice oa js.length c), (9, .int .i64 js.length), (10, .int .i64 i)] ∧ h0 <+: h' ∧ goodL js = goodL (js.drop i)) (fun n s h' => ?_) ⟨0, Nat.zero_add _, by simp⟩
    rintro ⟨i, hi, rfl, hp, hx⟩
    have hv' := hv.pre hp
    by_cases hlt : i < js.length
    · obtain ⟨y, hy, hd⟩ := drop_at hlt
      rw [hd, goodL_cons, jobOk_eq] at hx
      cases h1 : inB y.t 1 50 <;> cases h2 : inB y.w 0 50 <;> cases h3 : inB y.r 0 500 <;> cases h4 : inB y.d 0 500 <;>
        (rw [h1, h2, h3, h4] at hx; simp -implicitDefEqProofs [-indexAddrP_some, hlt, load_J hv' hy, CL_ret within_run, CL_ret isDate_run, h1, h2, h3, h4, winc hlt hn])
      all_goals first
        | (simp at hx; simp -implicitDefEqProofs [hx, gcB' hp]; done)
        | exact ⟨n - 1, by omega, i + 1, by omega, rfl, hp.trans (List.prefix_append ..), by simpa using hx⟩
    · rw [List.drop_eq_nil_of_le (by omega), goodL_nil] at hx
      simp -implicitDefEqProofs [hlt, hx, gcB hp]
theorem pigeon : ∀ (xs S : List Int), xs.Nodup → (∀ x ∈ xs, x ∈ S) → S.length ≤ xs.length → ∀ y ∈ S, y ∈ xs
  | [], S, _, _, hl, y, hy => by
    have : S = [] := List.eq_nil_of_length_eq_zero (by simpa using hl)
    rw [this] at hy; cases hy
  | a :: xs, S, hnd, hs, hl, y, hy => by
    have hnd := List.nodup_cons.1 hnd
    have ha := hs a (List.mem_cons_self ..)
    by_cases hya : y = a
    · rw [hya]; exact List.mem_cons_self ..
    · refine List.mem_cons_of_mem _ (pigeon xs (S.erase a) hnd.2 (fun x hx => ?_) ?_ y ((List.mem_erase_of_ne hya).2 hy))
      · have hxa : x ≠ a := fun e => hnd.1 (e ▸ hx)
        exact (List.mem_erase_of_ne hxa).2 (hs x (List.mem_cons_of_mem _ hx))
      · rw [List.length_erase_of_mem ha]
        simp only [List.length_cons] at hl
        omega
def upTo (n : Nat) : List Int := (List.range n).map fun i : Nat => (i : Int)
theorem mem_upTo {n : Nat} {x : Int} : x ∈ upTo n ↔ 0 ≤ x ∧ x < n := by
  simp only [upTo, List.mem_map, List.mem_range]
  constructor
  · rintro ⟨i, hi, rfl⟩; omega
  · rintro ⟨h1, h2⟩; exact ⟨x.toNat, by omega, by omega⟩
theorem upTo_nodup (n : Nat) : (upTo n).Nodup := by
  refine List.Pairwise.map _ (fun a b h e => h ?_) List.nodup_range
  omega
theorem upTo_len (n : Nat) : (upTo n).length = n := by simp [upTo]
end Go.Pm.PP

/- Exchanges of neighbours in plain terms; the value of an order, told along the order. -/
set_option linter.unusedVariables false
set_option linter.unusedSimpArgs false
namespace Go.Pm.PE
/-! ### exchanges -/
/-- Moving one to the front. -/
theorem exch_front {f : List Int → Int} {le : Int → Int → Prop} {S : List Int → Prop} (hS : ∀ A x y C, S (A ++ x :: y :: C) → S (A ++ y :: x :: C))
    (hf : ∀ A x y C, S (A ++ x :: y :: C) → le y x → f (A ++ y :: x :: C) ≤ f (A ++ x :: y :: C)) {y : Int} : ∀ {B A C : List Int}, S (A ++ (B ++ y :: C)) → (∀ b, b ∈ B → le y b) →
    f (A ++ y :: (B ++ C)) ≤ f (A ++ (B ++ y :: C)) ∧ S (A ++ y :: (B ++ C))
  | [], A, C, hs, _ => ⟨Int.le_refl _, hs⟩
  | b :: B, A, C, hs, hle => by
    have h1 := exch_front hS hf (B := B) (A := A ++ [b]) (C := C) (by simpa using hs) fun x hx => hle x (List.mem_cons_of_mem _ hx)
    have h2 : S (A ++ b :: y :: (B ++ C)) := by simpa using h1.2
    have h3 := hf A b y (B ++ C) h2 (hle b (List.mem_cons_self ..))
    have h4 : f (A ++ b :: y :: (B ++ C)) ≤ f (A ++ (b :: B ++ y :: C)) := by simpa using h1.1
    refine ⟨Int.le_trans ?_ h4, ?_⟩
    · simpa using h3
    · simpa using hS _ _ _ _ h2
/-- What is sorted is best. -/
theorem exch_sorted {f : List Int → Int} {le : Int → Int → Prop} {S : List Int → Prop} (hS : ∀ A x y C, S (A ++ x :: y :: C) → S (A ++ y :: x :: C))
    (hf : ∀ A x y C, S (A ++ x :: y :: C) → le y x → f (A ++ y :: x :: C) ≤ f (A ++ x :: y :: C)) : ∀ {ys A xs : List Int}, S (A ++ xs) → ys.Pairwise le → xs.Perm ys → f (A ++ ys) ≤ f (A ++ xs)
  | [], A, xs, _, _, hp => by rw [List.perm_nil.1 hp]; exact Int.le_refl _
  | y :: ys, A, xs, hs, hd, hp => by
    have hd := List.pairwise_cons.1 hd
    obtain ⟨B, C, rfl⟩ := List.append_of_mem (hp.symm.mem_iff.1 (List.mem_cons_self ..))
    have hp2 : (B ++ C).Perm ys := (List.perm_cons y).1 (List.perm_middle.symm.trans hp)
    have h1 := exch_front hS hf (B := B) (A := A) (C := C) (y := y) hs fun b hb => hd.1 b (hp2.mem_iff.1 (List.mem_append_left _ hb))
    have h2 := exch_sorted hS hf (ys := ys) (A := A ++ [y]) (xs := B ++ C) (by simpa using h1.2) hd.2 hp2
    have h3 : f (A ++ y :: ys) ≤ f (A ++ y :: (B ++ C)) := by simpa using h2
    exact Int.le_trans h3 h1.1
/-! ### sums -/
theorem sum_perm {l l' : List Int} (h : l.Perm l') : l.sum = l'.sum := by
  induction h with
  | nil => rfl
  | cons x _ ih => rw [List.sum_cons, List.sum_cons, ih]
  | swap x y l => simp only [List.sum_cons]; omega
  | trans _ _ h1 h2 => rw [h1, h2]
end Go.Pm.PE
namespace Go.Pm.PP
open Go.Pm Go.Pm.PE
/-! ### along an order -/
def endAt (j : Job) (now : Int) : Int := max now j.r + j.t
def nowGo (js : List Job) : Int → List Int → Int
  | now, [] => now
  | now, x :: r => nowGo js (endAt (jA js x) now) r
def sumGo (o : Int) (js : List Job) : Int → List Int → Int
  | _, [] => 0
  | now, x :: r => costV o (jA js x) (endAt (jA js x) now) + sumGo o js (endAt (jA js x) now) r
/-- The greatest one of a number and the latenesses. -/
def latGo (js : List Job) : Int → Int → List Int → Int
  | _, m, [] => m
  | now, m, x :: r => latGo js (endAt (jA js x) now) (max m (endAt (jA js x) now - (jA js x).d)) r
theorem latGo_app {js : List Job} : ∀ {A C : List Int} {now m : Int}, latGo js now m (A ++ C) = latGo js (nowGo js now A) (latGo js now m A) C
  | [], _, _, _ => rfl
  | a :: A, C, now, m => by rw [List.cons_append, latGo, latGo, nowGo, latGo_app]
/-- Costs by the jobs' numbers. -/
def sumE (o : Int) (js : List Job) (E : List Int) (l : List Int) : Int := (l.map fun x => costV o (jA js x) (gE E x.toNat)).sum
theorem end_out {js : List Job} {i : Nat} : ∀ {xs : List Int} {now : Int} {E : List Int}, (∀ y, y ∈ xs → 0 ≤ y) → (i : Int) ∉ xs → gE (endGo js xs now E) i = gE E i
  | [], _, _, _, _ => rfl
  | x :: r, now, E, h0, hi => by
    have hx := h0 x (List.mem_cons_self ..)
    rw [endGo, end_out (fun y hy => h0 y (List.mem_cons_of_mem _ hy)) (fun g => hi (List.mem_cons_of_mem _ g))]
    have : ¬ x.toNat = i := fun g => hi (by rw [← g, show ((x.toNat : Nat) : Int) = x by omega]; exact List.mem_cons_self ..)
    unfold gE
    rw [List.getElem?_set_ne this]
/-- The costs along an order are those of the ends. -/
theorem sum_order {o : Int} {js : List Job} : ∀ {xs : List Int} {now : Int} {E : List Int}, inN E.length xs → xs.Nodup → sumE o js (endGo js xs now E) xs = sumGo o js now xs
  | [], _, _, _, _ => rfl
  | x :: r, now, E, hin, hnd => by
    have hx := hin x (List.mem_cons_self ..)
    have hnd := List.nodup_cons.1 hnd
    have h0 : ∀ y, y ∈ r → 0 ≤ y := fun y hy => (hin y (List.mem_cons_of_mem _ hy)).1
    have ih := sum_order (o := o) (js := js) (xs := r) (now := endAt (jA js x) now) (E := E.set x.toNat (endAt (jA js x) now)) (by rw [List.length_set]; exact fun y hy => hin y (List.mem_cons_of_mem _ hy)) hnd.2
    have he : gE (endGo js r (endAt (jA js x) now) (E.set x.toNat (endAt (jA js x) now))) x.toNat = endAt (jA js x) now := by
      rw [end_out h0 (by rw [show ((x.toNat : Nat) : Int) = x by omega]; exact hnd.1), gE_set (by omega), if_pos rfl]
    have e1 : endGo js (x :: r) now E = endGo js r (endAt (jA js x) now) (E.set x.toNat (endAt (jA js x) now)) := rfl
    rw [e1, sumGo, ← ih]
    show (List.map _ (x :: r)).sum = _
    rw [List.map_cons, List.sum_cons, he]
    rfl
theorem valGo_sum {o : Int} (h1 : ¬ o = 1) (h4 : ¬ o = 4) : ∀ {js : List Job} {es : List Int} {f : Bool} {a : Int}, js.length = es.length → valGo o f a js es = a + ((List.range' 0 js.length).map fun i => costV o ((js[i]?).getD ⟨0, 0, 0, 0⟩) (gE es i)).sum
  | [], [], f, a, _ => by simp [valGo]
  | [], e :: es, f, a, h => by simp at h
  | j :: js, [], f, a, h => by simp at h
  | j :: js, e :: es, f, a, h => by
    rw [valGo, valGo_sum h1 h4 (by simpa using h), List.length_cons, List.range'_succ, List.map_cons, List.sum_cons]
    have e1 : List.range' (0 + 1) js.length = (List.range' 0 js.length).map (1 + ·) := by rw [List.map_add_range' (a := 1)]
    have e2 : stepV o f a j e = a + costV o j e := by unfold stepV; rw [if_neg h1, if_neg h4]
    rw [e1, List.map_map, e2, Int.add_assoc]
    congr 1
    congr 1
    congr 1
    apply List.map_congr_left
    intro i _
    simp [gE, Nat.add_comm 1 i]
/-- An order of n jobs. -/
def Prm (n : Nat) (xs : List Int) : Prop := xs.Perm ((List.range' 0 n).map fun i : Nat => (i : Int))
theorem Prm.inn {n : Nat} {xs : List Int} (h : Prm n xs) : inN n xs := fun x hx => by
  have := h.mem_iff.1 hx
  obtain ⟨i, hi, rfl⟩ := List.mem_map.1 this
  simp [List.mem_range'_1] at hi
  omega
theorem Prm.nd {n : Nat} {xs : List Int} (h : Prm n xs) : xs.Nodup := h.nodup_iff.2 (List.Pairwise.map _ (fun a b h e => h (by omega)) List.nodup_range')
theorem Prm.len {n : Nat} {xs : List Int} (h : Prm n xs) : xs.length = n := by rw [h.length_eq]; simp
/-- Sums along an order. -/
theorem val_sum {o : Int} {js : List Job} {xs : List Int} (h1 : ¬ o = 1) (h4 : ¬ o = 4) (h : Prm js.length xs) : valE o js (endsL js xs) = sumGo o js 0 xs := by
  have hl : (List.replicate js.length (0 : Int)).length = js.length := by simp
  have e1 := sum_order (o := o) (js := js) (xs := xs) (now := 0) (E := List.replicate js.length 0) (by rw [hl]; exact h.inn) h.nd
  unfold valE
  rw [valGo_sum h1 h4 endsL_len.symm, Int.zero_add, ← e1]
  unfold sumE
  rw [sum_perm (h.map fun x => costV o (jA js x) (gE (endGo js xs 0 (List.replicate js.length 0)) x.toNat)), List.map_map]
  rfl
/-! ### the greatest lateness -/
def mxE (js : List Job) (E : List Int) (m : Int) (l : List Int) : Int := l.foldl (fun m x => max m (gE E x.toNat - (jA js x).d)) m
theorem mxE_perm {js : List Job} {E : List Int} {l l' : List Int} (h : l.Perm l') : ∀ {m : Int}, mxE js E m l = mxE js E m l' := by
  induction h with
  | nil => intro m; rfl
  | cons x _ ih => intro m; exact ih
  | swap x y l => intro m; unfold mxE; simp only [List.foldl_cons]; congr 1; omega
  | trans _ _ h1 h2 => intro m; rw [h1, h2]
theorem lat_order {js : List Job} : ∀ {xs : List Int} {now m : Int} {E : List Int}, inN E.length xs → xs.Nodup → mxE js (endGo js xs now E) m xs = latGo js now m xs
  | [], _, _, _, _, _ => rfl
  | x :: r, now, m, E, hin, hnd => by
    have hx := hin x (List.mem_cons_self ..)
    have hnd := List.nodup_cons.1 hnd
    have h0 : ∀ y, y ∈ r → 0 ≤ y := fun y hy => (hin y (List.mem_cons_of_mem _ hy)).1
    have ih := lat_order (js := js) (xs := r) (now := endAt (jA js x) now) (m := max m (endAt (jA js x) now - (jA js x).d)) (E := E.set x.toNat (endAt (jA js x) now)) (by rw [List.length_set]; exact fun y hy => hin y (List.mem_cons_of_mem _ hy)) hnd.2
    have he : gE (endGo js r (endAt (jA js x) now) (E.set x.toNat (endAt (jA js x) now))) x.toNat = endAt (jA js x) now := by
      rw [end_out h0 (by rw [show ((x.toNat : Nat) : Int) = x by omega]; exact hnd.1), gE_set (by omega), if_pos rfl]
    have e1 : endGo js (x :: r) now E = endGo js r (endAt (jA js x) now) (E.set x.toNat (endAt (jA js x) now)) := rfl
    rw [e1, latGo, ← ih]
    unfold mxE
    rw [List.foldl_cons, he]
theorem valGo_lat : ∀ {js : List Job} {es : List Int} {a : Int}, js.length = es.length → valGo 4 false a js es = (List.range' 0 js.length).foldl (fun m i => max m (gE es i - ((js[i]?).getD ⟨0, 0, 0, 0⟩).d)) a
  | [], [], a, _ => by simp [valGo]
  | [], e :: es, a, h => by simp at h
  | j :: js, [], a, h => by simp at h
  | j :: js, e :: es, a, h => by
    rw [valGo, valGo_lat (by simpa using h), List.length_cons, List.range'_succ, List.foldl_cons]
    have e1 : List.range' (0 + 1) js.length = (List.range' 0 js.length).map (1 + ·) := by rw [List.map_add_range' (a := 1)]
    rw [e1, List.foldl_map]
    have e2 : stepV 4 false a j e = max a (gE (e :: es) 0 - (((j :: js)[0]?).getD (⟨0, 0, 0, 0⟩ : Job)).d) := rfl
    rw [e2]
    exact fold_congr fun i _ m => by simp [gE, Nat.add_comm 1 i]
/-- The greatest lateness along an order: no number below all of them changes it. -/
theorem val_lat {js : List Job} {xs : List Int} (h : Prm js.length xs) {m : Int} (hm : ∃ x, x ∈ xs ∧ m ≤ gE (endsL js xs) x.toNat - (jA js x).d) : valE 4 js (endsL js xs) = latGo js 0 m xs := by
  have hl : (List.replicate js.length (0 : Int)).length = js.length := by simp
  have e1 := lat_order (js := js) (xs := xs) (now := 0) (m := m) (E := List.replicate js.length 0) (by rw [hl]; exact h.inn) h.nd
  rw [← e1, mxE_perm h]
  unfold valE
  have hel : (endsL js xs).length = js.length := endsL_len
  obtain ⟨x, hx, hmx⟩ := hm
  have hxm := h.mem_iff.1 hx
  show _ = mxE js (endsL js xs) m _
  generalize endsL js xs = es at *
  cases js with
  | nil => simp at hxm
  | cons j js =>
    cases es with
    | nil => simp at hel
    | cons e es =>
      have hmax : ∀ {l : List Int} {a b : Int}, (b ≤ a ∨ ∃ x, x ∈ l ∧ b ≤ gE (e :: es) x.toNat - (jA (j :: js) x).d) → mxE (j :: js) (e :: es) (max b a) l = mxE (j :: js) (e :: es) a l := by
        intro l
        induction l with
        | nil => intro a b g; rcases g with g | ⟨x, g, _⟩; (show max b a = a; omega); cases g
        | cons y l ih =>
          intro a b g
          unfold mxE at ih ⊢
          rw [List.foldl_cons, List.foldl_cons]
          rw [show max (max b a) (gE (e :: es) y.toNat - (jA (j :: js) y).d) = max b (max a (gE (e :: es) y.toNat - (jA (j :: js) y).d)) by omega]
          refine ih ?_
          rcases g with g | ⟨x, g, hb⟩
          · left; omega
          · rcases List.mem_cons.1 g with rfl | g
            · left; omega
            · exact .inr ⟨x, g, hb⟩
      rw [valGo, valGo_lat (by simpa using hel.symm)]
      rw [List.length_cons, List.range'_succ, List.map_cons]
      have e2 : stepV 4 true 0 j e = gE (e :: es) 0 - (jA (j :: js) 0).d := by simp [stepV, gE, jA]
      have e3 : List.foldl (fun m i => max m (gE es i - ((js[i]?).getD ⟨0, 0, 0, 0⟩).d)) (gE (e :: es) 0 - (jA (j :: js) 0).d) (List.range' 0 js.length) = mxE (j :: js) (e :: es) (gE (e :: es) 0 - (jA (j :: js) 0).d) ((List.range' (0 + 1) js.length).map fun i : Nat => (i : Int)) := by
        have e1 : List.range' (0 + 1) js.length = (List.range' 0 js.length).map (1 + ·) := by rw [List.map_add_range' (a := 1)]
        unfold mxE
        rw [e1, List.map_map, List.foldl_map]
        exact fold_congr fun i _ m => by simp [Function.comp, jA, Int.toNat_natCast, gE, Nat.add_comm 1 i]
      rw [e2, e3]
      show mxE _ _ _ _ = mxE _ _ (max m (gE (e :: es) ((0 : Nat) : Int).toNat - (jA (j :: js) ((0 : Nat) : Int)).d)) _
      rw [hmax]
      · rfl
      · rw [List.length_cons, List.range'_succ, List.map_cons] at hxm
        rcases List.mem_cons.1 hxm with g | g
        · left; rw [g] at hmx; exact hmx
        · exact .inr ⟨x, g, hmx⟩
end Go.Pm.PP

/- Exchanges of neighbours for jobs without releases: sums, weighted sums, lateness; losses by inversions. -/
set_option linter.unusedVariables false
set_option linter.unusedSimpArgs false
namespace Go.Pm.PP
open Go.Pm Go.Pm.PE
/-- Jobs without releases. -/
structure Pl (js : List Job) : Prop where
  r : ∀ x, (jA js x).r = 0
  t : ∀ x, 0 ≤ (jA js x).t
theorem Pl.endAt {js : List Job} (p : Pl js) {x now : Int} (h : 0 ≤ now) : endAt (jA js x) now = now + (jA js x).t := by
  unfold PP.endAt; rw [p.r]; omega
theorem Pl.now {js : List Job} (p : Pl js) : ∀ {A : List Int} {now : Int}, 0 ≤ now → 0 ≤ nowGo js now A
  | [], _, h => h
  | x :: A, now, h => by
    rw [nowGo, p.endAt h]
    exact p.now (by have := p.t x; omega)
theorem lat_mono {js : List Job} {C : List Int} : ∀ {now m n : Int}, m ≤ n → latGo js now m C ≤ latGo js now n C := by
  induction C with
  | nil => intro now m n h; exact h
  | cons x C ih => intro now m n h; rw [latGo, latGo]; exact ih (by omega)
theorem lat_swap {js : List Job} (p : Pl js) {A C : List Int} {x y m : Int} (h : (jA js y).d ≤ (jA js x).d) : latGo js 0 m (A ++ y :: x :: C) ≤ latGo js 0 m (A ++ x :: y :: C) := by
  have hn := p.now (A := A) (Int.le_refl 0)
  generalize hN : nowGo js 0 A = n at hn
  have tx := p.t x
  have ty := p.t y
  rw [latGo_app, latGo_app, hN, latGo, latGo, latGo, latGo, p.endAt (x := x) hn, p.endAt (x := y) hn, p.endAt (x := y) (by omega : 0 ≤ n + (jA js x).t), p.endAt (x := x) (by omega : 0 ≤ n + (jA js y).t)]
  rw [show n + (jA js y).t + (jA js x).t = n + (jA js x).t + (jA js y).t by omega]
  exact lat_mono (by omega)
theorem lat_best {js : List Job} (p : Pl js) {m : Int} {xs ys : List Int} (hs : ys.Pairwise fun a b => (jA js a).d ≤ (jA js b).d) (hp : xs.Perm ys) : latGo js 0 m ys ≤ latGo js 0 m xs :=
  exch_sorted (f := latGo js 0 m) (S := fun _ => True) (fun _ _ _ _ _ => trivial) (fun A x y C _ h => lat_swap p h) (A := []) trivial hs hp
/-! ### inversions -/
end Go.Pm.PP

/- Sorting in plain terms: the program's from behind, the reference's from the front. -/
set_option linter.unusedVariables false
set_option linter.unusedSimpArgs false
namespace Go.Pm.PE
variable {ah : Int → Int → Bool}
/-- The place of x in l, looked for from behind: as long as x is ahead of the one before it. -/
def insK (ah : Int → Int → Bool) (x : Int) (l : List Int) : Nat → Nat
  | 0 => 0
  | k + 1 => if ah x ((l[k]?).getD 0) = true then insK ah x l k else k + 1
def insB (ah : Int → Int → Bool) (l : List Int) (x : Int) : List Int := l.take (insK ah x l l.length) ++ x :: l.drop (insK ah x l l.length)
def sortB (ah : Int → Int → Bool) (l : List Int) : List Int := l.foldl (insB ah) []
theorem insK_le {x : Int} {l : List Int} : ∀ {k : Nat}, insK ah x l k ≤ k
  | 0 => Nat.le_refl _
  | k + 1 => by
    rw [insK]; split
    · exact Nat.le_succ_of_le insK_le
    · exact Nat.le_refl _
theorem insB_perm {x : Int} {l : List Int} : (insB ah l x).Perm (x :: l) := by
  unfold insB
  refine List.perm_middle.trans ?_
  rw [List.take_append_drop]
theorem sortGo_perm : ∀ {l acc : List Int}, (l.foldl (insB ah) acc).Perm (acc ++ l)
  | [], acc => by simp
  | x :: l, acc => by
    rw [List.foldl_cons]
    refine sortGo_perm.trans ?_
    refine (List.Perm.append_right l insB_perm).trans ?_
    rw [List.cons_append]
    exact List.perm_middle.symm
theorem sortB_perm {l : List Int} : (sortB ah l).Perm l := by
  have := @sortGo_perm ah l []
  simpa [sortB] using this
theorem insB_len {x : Int} {l : List Int} : (insB ah l x).length = l.length + 1 := insB_perm.length_eq
theorem sortB_len {l : List Int} : (sortB ah l).length = l.length := sortB_perm.length_eq
/-- A relation by which x goes ahead. -/
structure Weak (ah : Int → Int → Bool) : Prop where
  asy : ∀ {a b}, ah a b = true → ah b a = false
  tr : ∀ {a b c}, ah a b = false → ah b c = false → ah a c = false
/-- What stands in order, the tied ones in ascending order. -/
def Lex (ah : Int → Int → Bool) (a b : Int) : Prop := ah a b = true ∨ (ah b a = false ∧ a < b)
theorem Lex.na {a b : Int} (w : Weak ah) (h : Lex ah a b) : ah b a = false := by
  rcases h with h | h
  · exact w.asy h
  · exact h.1
theorem insK_spec (w : Weak ah) {x : Int} {l : List Int} (hs : l.Pairwise fun a b => ah b a = false) : ∀ {k : Nat}, k ≤ l.length → (∀ i y, i < insK ah x l k → l[i]? = some y → ah x y = false) ∧ (∀ i y, insK ah x l k ≤ i → i < k → l[i]? = some y → ah x y = true)
  | 0, _ => ⟨fun i y h => by simp [insK] at h, fun i y _ h => by omega⟩
  | k + 1, hk => by
    obtain ⟨z, hz, _⟩ := drop_at (show k < l.length by omega)
    rw [insK, hz, Option.getD_some]
    cases hc : ah x z with
    | true =>
      rw [if_pos rfl]
      obtain ⟨h1, h2⟩ := insK_spec w (x := x) hs (k := k) (by omega)
      refine ⟨h1, fun i y g1 g2 g3 => ?_⟩
      rcases Nat.lt_or_ge i k with g | g
      · exact h2 i y g1 g g3
      · have : i = k := by omega
        subst this
        rw [hz] at g3; cases g3; exact hc
    | false =>
      rw [if_neg (by simp)]
      refine ⟨fun i y g1 g3 => ?_, fun i y g1 g2 => by omega⟩
      rcases Nat.lt_or_ge i k with g | g
      · have hi := List.pairwise_iff_getElem.1 hs i k (by omega) (by omega) g
        rw [(List.getElem?_eq_some_iff.1 g3).2, (List.getElem?_eq_some_iff.1 hz).2] at hi
        exact w.tr hc hi
      · have : i = k := by omega
        subst this
        rw [hz] at g3; cases g3; exact hc
theorem insB_sorted (w : Weak ah) {x : Int} {l : List Int} (hs : l.Pairwise (Lex ah)) (hx : ∀ y, y ∈ l → y < x) : (insB ah l x).Pairwise (Lex ah) := by
  have hs' : l.Pairwise fun a b => ah b a = false := hs.imp fun h => h.na w
  obtain ⟨h1, h2⟩ := insK_spec w (x := x) hs' (k := l.length) (Nat.le_refl _)
  have hk := @insK_le ah x l l.length
  unfold insB
  generalize insK ah x l l.length = k at *
  have m1 : ∀ a, a ∈ l.take k → ah x a = false := fun a ha => by
    obtain ⟨i, hi⟩ := List.getElem?_of_mem ha
    rw [List.getElem?_take] at hi
    split at hi
    · rename_i g; exact h1 i a g hi
    · cases hi
  have m2 : ∀ b, b ∈ l.drop k → ah x b = true := fun b hb => by
    obtain ⟨i, hi⟩ := List.getElem?_of_mem hb
    rw [List.getElem?_drop] at hi
    exact h2 (k + i) b (by omega) ((List.getElem?_eq_some_iff.1 hi).1) hi
  rw [List.pairwise_append]
  refine ⟨hs.sublist (List.take_sublist ..), List.pairwise_cons.2 ⟨fun b hb => .inl (m2 b hb), hs.sublist (List.drop_sublist ..)⟩, fun a ha b hb => ?_⟩
  rcases List.mem_cons.1 hb with rfl | hb
  · exact .inr ⟨m1 a ha, hx a (List.mem_of_mem_take ha)⟩
  · have e : l = l.take k ++ l.drop k := (List.take_append_drop ..).symm
    rw [e, List.pairwise_append] at hs
    exact hs.2.2 a ha b hb
theorem sortGo_sorted (w : Weak ah) : ∀ {l acc : List Int}, acc.Pairwise (Lex ah) → l.Pairwise (· < ·) → (∀ a, a ∈ acc → ∀ b, b ∈ l → a < b) → (l.foldl (insB ah) acc).Pairwise (Lex ah)
  | [], acc, h, _, _ => h
  | x :: l, acc, h, hl, hal => by
    have hl := List.pairwise_cons.1 hl
    rw [List.foldl_cons]
    refine sortGo_sorted w (insB_sorted w h fun y hy => hal y hy x (List.mem_cons_self ..)) hl.2 fun a ha b hb => ?_
    rcases List.mem_cons.1 (insB_perm.mem_iff.1 ha) with rfl | g
    · exact hl.1 b hb
    · exact hal a g b (List.mem_cons_of_mem _ hb)
theorem sortB_sorted (w : Weak ah) {l : List Int} (hl : l.Pairwise (· < ·)) : (sortB ah l).Pairwise (Lex ah) :=
  sortGo_sorted w List.Pairwise.nil hl fun a ha => by cases ha
/-- Sorting of any list: none ahead of one before it. -/
theorem insB_weak (w : Weak ah) {x : Int} {l : List Int} (hs : l.Pairwise fun a b => ah b a = false) : (insB ah l x).Pairwise fun a b => ah b a = false := by
  obtain ⟨h1, h2⟩ := insK_spec w (x := x) hs (k := l.length) (Nat.le_refl _)
  have hk := @insK_le ah x l l.length
  unfold insB
  generalize insK ah x l l.length = k at *
  rw [List.pairwise_append]
  refine ⟨hs.sublist (List.take_sublist ..), List.pairwise_cons.2 ⟨fun b hb => ?_, hs.sublist (List.drop_sublist ..)⟩, fun a ha b hb => ?_⟩
  · obtain ⟨i, hi⟩ := List.getElem?_of_mem hb
    rw [List.getElem?_drop] at hi
    exact w.asy (h2 (k + i) b (by omega) ((List.getElem?_eq_some_iff.1 hi).1) hi)
  · rcases List.mem_cons.1 hb with rfl | hb
    · obtain ⟨i, hi⟩ := List.getElem?_of_mem ha
      rw [List.getElem?_take] at hi
      split at hi
      · rename_i g; exact h1 i a g hi
      · cases hi
    · have e : l = l.take k ++ l.drop k := (List.take_append_drop ..).symm
      rw [e, List.pairwise_append] at hs
      exact hs.2.2 a ha b hb
theorem sortB_weak (w : Weak ah) {l : List Int} : (sortB ah l).Pairwise fun a b => ah b a = false := by
  have go : ∀ {l acc : List Int}, (acc.Pairwise fun a b => ah b a = false) → (l.foldl (insB ah) acc).Pairwise fun a b => ah b a = false := by
    intro l
    induction l with
    | nil => intro acc h; exact h
    | cons x l ih => intro acc h; rw [List.foldl_cons]; exact ih (insB_weak w h)
  exact go List.Pairwise.nil
/-- Two lists of the same elements that are sorted strictly are the same. -/
theorem sorted_eq {R : Int → Int → Prop} (hR : ∀ a b, R a b → R b a → False) : ∀ {l l' : List Int}, l.Pairwise R → l'.Pairwise R → l.Perm l' → l = l'
  | [], l', _, _, hp => (List.perm_nil.1 hp.symm).symm
  | x :: l, [], _, _, hp => by have := hp.length_eq; simp at this
  | x :: l, y :: l', h, h', hp => by
    have h := List.pairwise_cons.1 h
    have h' := List.pairwise_cons.1 h'
    have hx := hp.mem_iff.1 (List.mem_cons_self ..)
    have hy := hp.symm.mem_iff.1 (List.mem_cons_self ..)
    have e : x = y := by
      rcases List.mem_cons.1 hx with g | g
      · exact g
      · rcases List.mem_cons.1 hy with g2 | g2
        · exact g2.symm
        · exact (hR x y (h.1 y g2) (h'.1 x g)).elim
    subst e
    rw [sorted_eq hR h.2 h'.2 ((List.perm_cons x).1 hp)]
theorem Lex.asymm (w : Weak ah) {a b : Int} (h1 : Lex ah a b) (h2 : Lex ah b a) : False := by
  have n1 := h1.na w
  have n2 := h2.na w
  rcases h1 with h1 | h1
  · rw [h1] at n2; cases n2
  · rcases h2 with h2 | h2
    · rw [h2] at n1; cases n1
    · omega
theorem shift_set {us : List Int} {x : Int} {j : Nat} (hj : j ≤ us.length) : (((us ++ [0]).take (j + 1) ++ ((us ++ [0]).drop j).take ((us ++ [0]).length - (j + 1))).set j x) = us.take j ++ x :: us.drop j := by
  apply List.ext_getElem?
  intro i
  have hl : ((us ++ [0]).take (j + 1)).length = j + 1 := by simp; omega
  rw [List.getElem?_set]
  have htl : (us.take j).length = j := by simp; omega
  split
  · rename_i e
    subst e
    rw [if_pos (by simp; omega), List.getElem?_append_right (by omega), htl, Nat.sub_self]; rfl
  · rename_i hne
    rcases Nat.lt_or_ge i j with g | g
    · rw [List.getElem?_append_left (by omega), List.getElem?_append_left (by omega), List.getElem?_take, List.getElem?_take, if_pos (by omega), if_pos g, List.getElem?_append_left (by omega)]
    · rw [List.getElem?_append_right (by omega), List.getElem?_append_right (by omega), hl, htl, List.getElem?_take, List.getElem?_drop]
      rw [show i - j = (i - (j + 1)) + 1 by omega, List.getElem?_cons_succ, List.getElem?_drop]
      simp only [List.length_append, List.length_cons, List.length_nil]
      split
      · rw [List.getElem?_append_left (by omega)]
      · rw [List.getElem?_eq_none (by omega)]
/-! ### from the front -/
/-- Put before the first one that p holds of. -/
def insF (p : Int → Bool) (x : Int) : List Int → List Int
  | [] => [x]
  | y :: l => if p y = true then y :: insF p x l else x :: y :: l
theorem insF_perm {p : Int → Bool} {x : Int} : ∀ {l : List Int}, (insF p x l).Perm (x :: l)
  | [] => List.Perm.refl _
  | y :: l => by
    rw [insF]; split
    · exact (List.Perm.cons y insF_perm).trans (List.Perm.swap ..)
    · exact List.Perm.refl _
theorem insF_take {p : Int → Bool} {x : Int} : ∀ {l : List Int} {k : Nat}, k ≤ l.length → (∀ i y, i < k → l[i]? = some y → p y = true) → (∀ y, l[k]? = some y → p y = false) → insF p x l = l.take k ++ x :: l.drop k
  | [], k, hk, _, _ => by
    have : k = 0 := by simpa using hk
    subst this; rfl
  | y :: l, 0, _, _, h2 => by
    rw [insF, h2 y rfl]; rfl
  | y :: l, k + 1, hk, h1, h2 => by
    rw [insF, h1 0 y (by omega) rfl, if_pos rfl, insF_take (k := k) (by simpa using hk) (fun i z hi hz => h1 (i + 1) z (by omega) (by simpa using hz)) (fun z hz => h2 z (by simpa using hz))]
    rfl
/-- The same place from the front. -/
theorem insF_sorted {R : Int → Int → Prop} {p : Int → Bool} {x : Int} : ∀ {l : List Int}, l.Pairwise R → (∀ y, y ∈ l → p y = true → R y x) → (∀ y, y ∈ l → p y = false → R x y) → (∀ y z, y ∈ l → z ∈ l → R y z → p y = false → p z = false) → (insF p x l).Pairwise R
  | [], _, _, _, _ => by rw [insF]; exact List.pairwise_singleton ..
  | y :: l, h, h1, h2, h3 => by
    have h := List.pairwise_cons.1 h
    rw [insF]
    cases c : p y with
    | true =>
      rw [if_pos rfl]
      refine List.pairwise_cons.2 ⟨fun z hz => ?_, insF_sorted h.2 (fun z hz => h1 z (List.mem_cons_of_mem _ hz)) (fun z hz => h2 z (List.mem_cons_of_mem _ hz)) fun a b ha hb => h3 a b (List.mem_cons_of_mem _ ha) (List.mem_cons_of_mem _ hb)⟩
      rcases List.mem_cons.1 (insF_perm.mem_iff.1 hz) with rfl | g
      · exact h1 y (List.mem_cons_self ..) c
      · exact h.1 z g
    | false =>
      rw [if_neg (by simp)]
      refine List.pairwise_cons.2 ⟨fun z hz => ?_, List.pairwise_cons.2 h⟩
      rcases List.mem_cons.1 hz with rfl | g
      · exact h2 z (List.mem_cons_self ..) c
      · exact h2 z (List.mem_cons_of_mem _ g) (h3 y z (List.mem_cons_self ..) (List.mem_cons_of_mem _ g) (h.1 z g) c)
end Go.Pm.PE

/- Sorting by the program: sortedBy for any comparison. -/
set_option linter.unusedVariables false
set_option linter.unusedSimpArgs false
set_option maxRecDepth 4000
set_option maxHeartbeats 8000000
namespace Go.Pm.PP
open Go.Pm Go.Proofs Go.Pm.PE
theorem sortedBy_run {h : Hp} {v : Value} {xs : List Int} {g : FuncId} {cl : Array Value} {ah : Int → Int → Bool} (hv : Ints h v xs) (hn : xs.length ≤ 2 ^ 20)
    (tell : ∀ h2, h <+: h2 → ∀ a b, a ∈ xs → b ∈ xs → Ret P G g (.int .i64 a :: .int .i64 b :: cl.toList) h2 (.bool (ah a b)) h2) :
    RunsC P G n_impl_sortedBy [v, .func (.func g) #[] cl] h fun v' h' => h <+: h' ∧ Own h.length h' v' 1 ((sortB ah xs).map encI) := by
  refine hideC fun K hK => enter_run e_impl_sortedBy (by simp) ?_
  have hvs := hv
  obtain ⟨oa, c, rfl⟩ := hv.shapeT
  simp -implicitDefEqProofs
  refine R_loopO (fun n st h' => ∃ (i : Nat) (u : Value) (us : List Int), i + n = xs.length ∧ st = [(1, .func (.func g) #[] cl), (5, u), (9, .slice oa xs.length c), (10, .int .i64 xs.length), (11, .int .i64 i)] ∧
    Holds h h' [.own u 1 (us.map encI)] ∧ us.length = i ∧ (∀ z, z ∈ us → z ∈ xs) ∧ sortB ah xs = (xs.drop i).foldl (insB ah) us) (fun I hI n st h' => ?_) ⟨0, _, [], Nat.zero_add _, by simp, own_nil Holds.start _ _ _, rfl, by simp, rfl⟩
  rintro ⟨i, u, us, hi, rfl, H, hul, hin, hs⟩
  by_cases hlt : i < xs.length
  · obtain ⟨y, hy, hd⟩ := drop_at hlt
    rw [hd, List.foldl_cons] at hs
    have hus := H.sees 0 rfl
    obtain ⟨ou, cu, rfl⟩ : ∃ a c, u = .slice a i c := by obtain ⟨a, c, e⟩ := hus.shapeT; exact ⟨a, c, by rw [e, hul]⟩
    simp -implicitDefEqProofs [-indexAddrP_some, hlt, load_I (hvs.pre H.pre) hy]
    refine R_loopO (fun n st h2 => ∃ (j : Nat), j = n ∧ st = [(1, .func (.func g) #[] cl), (5, .slice ou i cu), (7, .int .i64 y), (8, .int .i64 j), (9, .slice oa xs.length c), (10, .int .i64 xs.length), (11, .int .i64 i)] ∧
      h2 = h' ∧ j ≤ us.length ∧ insK ah y us us.length = insK ah y us j) (fun I2 hI2 m st h2 => ?_) ⟨i, rfl, by simp, rfl, by omega, by rw [hul]⟩
    rintro ⟨j, rfl, rfl, rfl, hj, hgt⟩
    have fin : insK ah y us j = j → ∃ v2 h3 dv mv nn h4 h5, appendP P (h2 ++ [some ⟨[.int .i64 0], 1, false⟩]) t_S_int (.slice ou i cu) (.slice (some ⟨h2.length, 0, some 1⟩) 1 1) = some (v2, h3) ∧
        sliceP P h3 t_S_int v2 (some (.int .i64 ((j : Int) + 1))) none = some dv ∧ sliceP P h3 t_S_int v2 (some (.int .i64 j)) none = some mv ∧ copyP P h3 t_S_int dv mv = some (.int .i64 nn, h4) ∧
        indexAddrP P h4 t_S_int v2 (.int .i64 j) = some (.pointer (some (addP (base v2) j))) ∧ storeP P h4 t_int (.int .i64 y) (.pointer (some (addP (base v2) j))) = some h5 ∧ Holds h h5 [.own v2 1 ((insB ah us y).map encI)] := fun hk => by
      obtain ⟨v2, h3, ha, H3, k3, _⟩ := push_I0 H 0 rfl (0 : Int) (by omega)
      obtain ⟨dv, mv, nn, h4, s1, s2, s3, H4, k4⟩ := H3.shift (P := P) 0 rfl (k := j) u_S_int i_int (ones_I _) (by simp; omega)
      have e1 : (((us ++ [0]).map encI).take (j + 1) ++ (((us ++ [0]).map encI).drop j).take (((us ++ [0]).map encI).length - (j + 1))) = ((us ++ [0]).take (j + 1) ++ ((us ++ [0]).drop j).take ((us ++ [0]).length - (j + 1))).map encI := by
        generalize us ++ [0] = ws
        rw [List.map_append, List.map_take, List.map_take, List.map_drop, List.length_map]
      rw [e1] at H4
      have hlen : ((us ++ [0]).take (j + 1) ++ ((us ++ [0]).drop j).take ((us ++ [0]).length - (j + 1))).length = i + 1 := by simp; omega
      obtain ⟨h5, s5, H5, k5⟩ := put_I H4 0 rfl (j := j) (by rw [hlen]; omega) y
      rw [shift_set hj] at H5
      obtain ⟨z, hz, _⟩ := drop_at (show j < ((us ++ [0]).take (j + 1) ++ ((us ++ [0]).drop j).take ((us ++ [0]).length - (j + 1))).length by rw [hlen]; omega)
      have ix := (load_I (H4.sees 0 rfl) hz).1
      refine ⟨v2, h3, dv, mv, nn, h4, h5, ha, s1, s2, s3, ix, s5, ?_⟩
      unfold insB
      rw [hgt, hk]
      exact H5
    have hli : (insB ah us y).length = i + 1 := by rw [insB_len, hul]
    have hini : ∀ z, z ∈ insB ah us y → z ∈ xs := fun z hz => by
      rcases List.mem_cons.1 (insB_perm.mem_iff.1 hz) with rfl | g
      · exact List.mem_of_getElem? hy
      · exact hin z g
    have wj : IntKind.i64.wrap ((j : Int) + 1) = (j : Int) + 1 := by rw [wrap_ok] <;> omega
    by_cases h0 : 0 < j
    · obtain ⟨z, hz, _⟩ := drop_at (show j - 1 < us.length by omega)
      have w1 : IntKind.i64.wrap ((j : Int) - 1) = ((j - 1 : Nat) : Int) := by rw [wrap_ok] <;> omega
      have lz := load_I hus hz
      have h0' : (0 : Int) < j := by omega
      have tl := tell h2 H.pre y z (List.mem_of_getElem? hy) (hin z (List.mem_of_getElem? hz))
      have ek : insK ah y us j = if ah y z = true then insK ah y us (j - 1) else j := by
        obtain ⟨k, rfl⟩ : ∃ k, j = k + 1 := ⟨j - 1, by omega⟩
        rw [Nat.add_sub_cancel] at hz
        rw [insK, hz, Option.getD_some, Nat.add_sub_cancel]
      cases c1 : ah y z
      · rw [c1] at tl
        rw [c1, if_neg (by simp)] at ek
        obtain ⟨v2, h3, dv, mv, nn, h4, h5, ha, s1, s2, s3, ix, s5, H5⟩ := fin ek
        simp -implicitDefEqProofs [-indexAddrP_some, h0, h0', w1, lz, CL_ret tl, ha, wj, s1, s2, s3, ix, s5, winc hlt (by omega)]
        exact ⟨n - 1, by omega, on hI ⟨i + 1, v2, _, by omega, rfl, H5, hli, hini, hs⟩⟩
      · rw [c1] at tl
        rw [c1, if_pos rfl] at ek
        simp -implicitDefEqProofs [-indexAddrP_some, h0, h0', w1, lz, CL_ret tl]
        exact ⟨j - 1, by omega, on hI2 ⟨j - 1, rfl, rfl, rfl, by omega, by rw [hgt, ek]⟩⟩
    · obtain ⟨v2, h3, dv, mv, nn, h4, h5, ha, s1, s2, s3, ix, s5, H5⟩ := fin (by
        have : j = 0 := by omega
        subst this; rfl)
      have h0' : ¬ (0 : Int) < j := by omega
      simp -implicitDefEqProofs [-indexAddrP_some, h0, h0', ha, wj, s1, s2, s3, ix, s5, winc hlt (by omega)]
      exact ⟨n - 1, by omega, on hI ⟨i + 1, v2, _, by omega, rfl, H5, hli, hini, hs⟩⟩
  · rw [List.drop_eq_nil_of_le (by omega), List.foldl_nil] at hs
    rw [hs] at hK
    simp -implicitDefEqProofs [hlt]
    exact onK hK ⟨(H.ret 0 rfl).1, (H.ret 0 rfl).2⟩
end Go.Pm.PP

/- Sets as binary digits, in plain terms. -/
set_option linter.unusedVariables false
set_option linter.unusedSimpArgs false
namespace Go.Pm.PE
theorem bit_sub {c i j : Nat} (h : c.testBit i = true) : (c - 2 ^ i).testBit j = (c.testBit j && !decide (j = i)) := by
  have e1 := Nat.div_add_mod c (2 ^ (i + 1))
  have e2 := Nat.mod_lt c (Nat.two_pow_pos (i + 1))
  have e3 : (c % 2 ^ (i + 1)).testBit i = true := by rw [Nat.testBit_mod_two_pow, h]; simp
  generalize c / 2 ^ (i + 1) = q at *
  generalize c % 2 ^ (i + 1) = b at *
  have hb : 2 ^ i ≤ b := Nat.ge_two_pow_of_testBit e3
  obtain ⟨r, rfl⟩ : ∃ r, b = 2 ^ i * 1 + r := ⟨b - 2 ^ i, by omega⟩
  have hr : r < 2 ^ i := by rw [Nat.pow_succ] at e2; omega
  rw [← e1]
  have e4 : 2 ^ (i + 1) * q + (2 ^ i * 1 + r) - 2 ^ i = 2 ^ (i + 1) * q + r := by omega
  rw [e4, Nat.testBit_two_pow_mul_add q (by rw [Nat.pow_succ]; omega) j, Nat.testBit_two_pow_mul_add q e2 j]
  by_cases g : j < i + 1
  · rw [if_pos g, if_pos g, Nat.testBit_two_pow_mul_add 1 hr j]
    by_cases g2 : j < i
    · rw [if_pos g2]; simp; omega
    · have : j = i := by omega
      subst this
      rw [if_neg g2]
      simp [Nat.testBit_lt_two_pow hr]
  · rw [if_neg g, if_neg g]
    simp; omega
/-- The set with the digits of a number. -/
def bitsL (n c : Nat) : List Int := ((List.range' 0 n).filter fun i => c.testBit i).map fun i : Nat => (i : Int)
theorem mem_bits {n c : Nat} {x : Int} : x ∈ bitsL n c ↔ 0 ≤ x ∧ x < n ∧ c.testBit x.toNat = true := by
  unfold bitsL
  rw [List.mem_map]
  constructor
  · rintro ⟨i, hi, rfl⟩
    rw [List.mem_filter] at hi
    have := hi.1
    simp [List.mem_range'_1] at this
    exact ⟨by omega, by omega, by simpa using hi.2⟩
  · rintro ⟨h1, h2, h3⟩
    refine ⟨x.toNat, List.mem_filter.2 ⟨by simp [List.mem_range'_1]; omega, h3⟩, by omega⟩
theorem bits_asc {n c : Nat} : (bitsL n c).Pairwise (· < ·) := by
  unfold bitsL
  refine List.Pairwise.map _ (fun a b h => ?_) (List.Pairwise.filter _ List.pairwise_lt_range')
  omega
theorem bits_nodup {n c : Nat} : (bitsL n c).Nodup := bits_asc.imp fun h => by omega
theorem bits_zero {n : Nat} : bitsL n 0 = [] := by
  unfold bitsL
  rw [List.filter_eq_nil_iff.2]; rfl
  intro i _; simp
/-- One less. -/
theorem bits_del {n c i : Nat} (hi : i < n) (h : c.testBit i = true) : (bitsL n c).Perm ((i : Int) :: bitsL n (c - 2 ^ i)) := by
  refine (List.perm_ext_iff_of_nodup bits_nodup (List.nodup_cons.2 ⟨fun g => ?_, bits_nodup⟩)).2 fun x => ?_
  · have := (mem_bits.1 g).2.2
    rw [bit_sub h] at this
    simp at this
  · rw [List.mem_cons, mem_bits, mem_bits, bit_sub h]
    constructor
    · rintro ⟨h1, h2, h3⟩
      by_cases e : x = i
      · exact .inl e
      · refine .inr ⟨h1, h2, ?_⟩
        rw [h3]; simp; omega
    · rintro (rfl | ⟨h1, h2, h3⟩)
      · exact ⟨by omega, by omega, by simpa using h⟩
      · simp at h3; exact ⟨h1, h2, h3.1⟩
/-- The digits of a number less than 2^n are among the first n. -/
theorem bit_lt {n c i : Nat} (hn : c < 2 ^ n) (h : c.testBit i = true) : i < n := (Nat.pow_lt_pow_iff_right (by omega : 1 < 2)).1 (Nat.lt_of_le_of_lt (Nat.ge_two_pow_of_testBit h) hn)
end Go.Pm.PE

/- The table of the least values of sets, in plain terms. -/
set_option linter.unusedVariables false
set_option linter.unusedSimpArgs false
namespace Go.Pm.PP
open Go.Pm Go.Pm.PE
/-- Costs are bounded, and no less for later ends. -/
structure Cb (o : Int) (js : List Job) : Prop where
  lo : ∀ x e, 0 ≤ e → 0 ≤ costV o (jA js x) e
  hi : ∀ x e, 0 ≤ e → e ≤ 2 ^ 20 → costV o (jA js x) e ≤ 2 ^ 27
  mo : ∀ x e e', 0 ≤ e → e ≤ e' → costV o (jA js x) e ≤ costV o (jA js x) e'
end Go.Pm.PP

/- Ruled orders, due orders, inversions, in plain terms. -/
set_option linter.unusedVariables false
set_option linter.unusedSimpArgs false
namespace Go.Pm.PP
open Go.Pm Go.Pm.PE
/-! ### the list of inversions -/
/-! ### due order -/
def dueAh (js : List Job) (a b : Int) : Bool := decide ((jA js a).d < (jA js b).d) || (((jA js a).d == (jA js b).d) && decide ((jA js a).t < (jA js b).t))
theorem due_weak {js : List Job} : Weak (dueAh js) := by
  constructor
  · intro a b h
    simp only [dueAh, Bool.or_eq_true, decide_eq_true_eq, Bool.and_eq_true, beq_iff_eq, Bool.or_eq_false_iff, decide_eq_false_iff_not, Bool.and_eq_false_iff, beq_eq_false_iff_ne] at h ⊢
    omega
  · intro a b c h1 h2
    simp only [dueAh, Bool.or_eq_false_iff, decide_eq_false_iff_not, Bool.and_eq_false_iff, beq_eq_false_iff_ne] at h1 h2 ⊢
    omega
theorem due_d {js : List Job} {a b : Int} (h : dueAh js b a = false) : (jA js a).d ≤ (jA js b).d := by
  simp only [dueAh, Bool.or_eq_false_iff, decide_eq_false_iff_not] at h
  omega
def dueL (js : List Job) (xs : List Int) : List Int := sortB (dueAh js) xs
theorem dueL_d {js : List Job} {xs : List Int} : (dueL js xs).Pairwise fun a b => (jA js a).d ≤ (jA js b).d := (sortB_weak due_weak).imp due_d
/-- By dates alone. -/
def dAh (js : List Job) (a b : Int) : Bool := decide ((jA js a).d < (jA js b).d)
theorem dAh_weak {js : List Job} : Weak (dAh js) := ⟨fun h => by simp [dAh] at h ⊢; omega, fun h1 h2 => by simp [dAh] at h1 h2 ⊢; omega⟩
theorem dAhL_d {js : List Job} {xs : List Int} : (sortB (dAh js) xs).Pairwise fun a b => (jA js a).d ≤ (jA js b).d := (sortB_weak dAh_weak).imp fun h => by simp [dAh] at h; exact h
/-- By the reference: insertion from the front. -/
def sooner (js : List Job) (a b : Int) : Bool := if (jA js a).d ≠ (jA js b).d then decide ((jA js a).d < (jA js b).d) else if (jA js a).t ≠ (jA js b).t then decide ((jA js a).t < (jA js b).t) else decide (a < b)
theorem sooner_lex {js : List Job} {a b : Int} : sooner js a b = true ↔ Lex (dueAh js) a b := by
  unfold sooner Lex dueAh
  simp only [Bool.or_eq_true, decide_eq_true_eq, Bool.and_eq_true, beq_iff_eq, Bool.or_eq_false_iff, decide_eq_false_iff_not, Bool.and_eq_false_iff, beq_eq_false_iff_ne]
  split
  · simp only [decide_eq_true_eq]; omega
  · split
    · simp only [decide_eq_true_eq]; omega
    · simp only [decide_eq_true_eq]; omega
def dueF (js : List Job) (xs : List Int) : List Int := xs.foldl (fun l x => insF (fun y => sooner js y x) x l) []
theorem dueF_go {js : List Job} : ∀ {xs acc : List Int}, acc.Pairwise (Lex (dueAh js)) → (acc ++ xs).Nodup → (xs.foldl (fun l x => insF (fun y => sooner js y x) x l) acc).Pairwise (Lex (dueAh js)) ∧ (xs.foldl (fun l x => insF (fun y => sooner js y x) x l) acc).Perm (acc ++ xs)
  | [], acc, h, _ => by rw [List.foldl_nil, List.append_nil]; exact ⟨h, List.Perm.refl _⟩
  | x :: xs, acc, h, hnd => by
    rw [List.foldl_cons]
    have hp : (insF (fun y => sooner js y x) x acc).Perm (x :: acc) := insF_perm
    have hx : ∀ y, y ∈ acc → y ≠ x := fun y hy e => by
      subst e
      have := List.nodup_append.1 hnd
      exact this.2.2 y hy y (List.mem_cons_self ..) rfl
    have tot : ∀ y, y ≠ x → sooner js y x = false → Lex (dueAh js) x y := fun y hy hs => by
      rw [← sooner_lex]
      unfold sooner at hs ⊢
      split at hs
      · rename_i e
        rw [if_pos (fun g => e g.symm)]
        simp only [decide_eq_false_iff_not, decide_eq_true_eq] at hs ⊢
        omega
      · rename_i e
        rw [if_neg (fun g => e fun g' => g g'.symm)]
        split at hs
        · rename_i e
          rw [if_pos (fun g => e g.symm)]
          simp only [decide_eq_false_iff_not, decide_eq_true_eq] at hs ⊢
          omega
        · rename_i e
          rw [if_neg (fun g => e fun g' => g g'.symm)]
          simp only [decide_eq_false_iff_not, decide_eq_true_eq] at hs ⊢
          omega
    have lt : ∀ {a b c : Int}, Lex (dueAh js) a b → Lex (dueAh js) b c → Lex (dueAh js) a c := fun {a b c} h1 h2 => by
      rw [← sooner_lex] at h1 h2 ⊢
      unfold sooner at h1 h2 ⊢
      split at h1 <;> split at h2 <;> (try split at h1) <;> (try split at h2) <;> simp only [decide_eq_true_eq] at h1 h2 <;> split <;> (try split) <;> simp only [decide_eq_true_eq] <;> omega
    have hs := insF_sorted (R := Lex (dueAh js)) (p := fun y => sooner js y x) (x := x) h (fun y hy g => sooner_lex.1 g) (fun y hy g => tot y (hx y hy) g) fun y z hy hz hr g => by
      cases c : sooner js z x with
      | false => rfl
      | true =>
        have := lt hr (sooner_lex.1 c)
        rw [← sooner_lex] at this
        rw [this] at g; cases g
    have hq : (insF (fun y => sooner js y x) x acc ++ xs).Perm (acc ++ x :: xs) := ((hp.append_right xs).trans (by rw [List.cons_append])).trans List.perm_middle.symm
    obtain ⟨r1, r2⟩ := dueF_go (xs := xs) hs (hq.nodup_iff.2 hnd)
    exact ⟨r1, r2.trans hq⟩
/-- Both due orders are the same, for ascending sets. -/
theorem due_eq {js : List Job} {xs : List Int} (h : xs.Pairwise (· < ·)) : dueF js xs = dueL js xs := by
  have hnd : ([] ++ xs).Nodup := by rw [List.nil_append]; exact h.imp fun g => by omega
  obtain ⟨h1, h2⟩ := dueF_go (js := js) (xs := xs) (acc := []) List.Pairwise.nil hnd
  exact sorted_eq (R := Lex (dueAh js)) (fun a b => Lex.asymm due_weak) h1 (sortB_sorted due_weak h) (h2.trans sortB_perm.symm)
/-! ### timely -/
def timGo (js : List Job) : Int → List Int → Bool
  | _, [] => true
  | now, x :: r => decide (now + (jA js x).t ≤ (jA js x).d) && timGo js (now + (jA js x).t) r
/-- Timely if the greatest lateness is not above 0. -/
theorem tim_lat {js : List Job} (p : Pl js) : ∀ {xs : List Int} {now m : Int}, 0 ≤ now → m ≤ 0 → (timGo js now xs = true ↔ latGo js now m xs ≤ 0)
  | [], now, m, _, hm => by simp [timGo, latGo, hm]
  | x :: r, now, m, h, hm => by
    have := p.t x
    rw [timGo, latGo, p.endAt h, Bool.and_eq_true, decide_eq_true_eq]
    have mono : ∀ {xs : List Int} {now m : Int}, m ≤ latGo js now m xs := by
      intro xs
      induction xs with
      | nil => intro now m; exact Int.le_refl _
      | cons x xs ih =>
        intro now m
        rw [latGo]
        exact Int.le_trans (by omega) ih
    constructor
    · rintro ⟨h1, h2⟩
      exact (tim_lat p (by omega) (by omega)).1 h2
    · intro hl
      have h1 := @mono r (now + (jA js x).t) (max m (now + (jA js x).t - (jA js x).d))
      have h2 : now + (jA js x).t ≤ (jA js x).d := by omega
      exact ⟨h2, (tim_lat p (by omega) (by omega)).2 hl⟩
/-- In any order by dates the same. -/
theorem tim_sorted {js : List Job} (p : Pl js) {xs ys : List Int} (hx : xs.Pairwise fun a b => (jA js a).d ≤ (jA js b).d) (hy : ys.Pairwise fun a b => (jA js a).d ≤ (jA js b).d) (hp : xs.Perm ys) : timGo js 0 xs = timGo js 0 ys := by
  have h1 := lat_best p (m := 0) hx hp.symm
  have h2 := lat_best p (m := 0) hy hp
  have t1 := tim_lat p (xs := xs) (Int.le_refl 0) (Int.le_refl 0)
  have t2 := tim_lat p (xs := ys) (Int.le_refl 0) (Int.le_refl 0)
  rw [Bool.eq_iff_iff, t1, t2]
  omega
end Go.Pm.PP

/- The last end of an order; sets of digits of any length. -/
set_option linter.unusedVariables false
set_option linter.unusedSimpArgs false
namespace Go.Pm.PE
theorem bits_any {c i n : Nat} (h1 : c < 2 ^ i) (h2 : c < 2 ^ n) : bitsL i c = bitsL n c := by
  refine sorted_eq (R := (· < ·)) (fun a b h1 h2 => by omega) bits_asc bits_asc ((List.perm_ext_iff_of_nodup bits_nodup bits_nodup).2 fun x => ?_)
  rw [mem_bits, mem_bits]
  constructor
  · rintro ⟨g1, g2, g3⟩
    have := bit_lt h2 g3
    exact ⟨g1, by omega, g3⟩
  · rintro ⟨g1, g2, g3⟩
    have := bit_lt h1 g3
    exact ⟨g1, by omega, g3⟩
theorem bits_snoc {i c : Nat} : bitsL (i + 1) c = bitsL i c ++ (if c.testBit i = true then [(i : Int)] else []) := by
  unfold bitsL
  rw [List.range'_concat, List.filter_append, List.map_append]
  congr 1
  rw [Nat.zero_add, Nat.one_mul, List.filter_cons]
  split <;> rfl
theorem bits_len {i c : Nat} : (bitsL i c).length ≤ i := by
  unfold bitsL
  rw [List.length_map]
  refine Nat.le_trans (List.length_filter_le ..) ?_
  simp
end Go.Pm.PE
namespace Go.Pm.PP
open Go.Pm Go.Pm.PE
end Go.Pm.PP

/- Ends and values of objectives, by both. -/
set_option linter.unusedVariables false
set_option linter.unusedSimpArgs false
set_option maxRecDepth 4000
set_option maxHeartbeats 8000000
namespace Go.Pm.PP
open Go.Pm Go.Proofs
theorem job_of {j : Job} (h : jobOk j = true) : (1 ≤ j.t ∧ j.t ≤ 50) ∧ (0 ≤ j.w ∧ j.w ≤ 50) ∧ (0 ≤ j.r ∧ j.r ≤ 500) ∧ 0 ≤ j.d ∧ j.d ≤ 500 := by
  simp only [jobOk, inB, Bool.and_eq_true, decide_eq_true_eq] at h
  omega
theorem job_at {js : List Job} (h : goodL js = true) {i : Nat} {y : Job} (hy : js[i]? = some y) : jobOk y = true := List.all_eq_true.1 h y (List.mem_of_getElem? hy)
/-! ### ends -/
theorem jA_get {js : List Job} {x : Int} {n : Nat} (hn : n = js.length) (h : 0 ≤ x ∧ x < n) : ∃ k : Nat, x = k ∧ k < js.length ∧ js[k]? = some (jA js x) := by
  obtain ⟨y, hy, _⟩ := drop_at (show x.toNat < js.length by omega)
  exact ⟨x.toNat, by omega, by omega, by rw [hy]; unfold jA; rw [hy]; rfl⟩
end Go.Pm.PP

/- The next order of a list, in place. -/
set_option linter.unusedVariables false
set_option linter.unusedSimpArgs false
set_option maxRecDepth 4000
set_option maxHeartbeats 4000000
namespace Go.Pm.PE
end Go.Pm.PE
namespace Go.Pm.PP
open Go.Pm Go.Proofs Go.Pm.PE
end Go.Pm.PP

/- What is seen stands where a box is written; what may be written in a head; numbers up to n. -/
set_option linter.unusedVariables false
set_option linter.unusedSimpArgs false
set_option maxRecDepth 4000
set_option maxHeartbeats 4000000
namespace Go.Pm.PP
open Go.Pm Go.Proofs
theorem nr_mod {b : Nat} {h h' : Hp} (n : NR b h') (m : NR h.length h') (hp : h.take b <+: h') : modOk b h h' := ⟨m.1, hp, by
  rw [List.all_eq_true]
  intro x hx
  cases x with
  | none => rfl
  | some x =>
    obtain ⟨k, hk⟩ := List.getElem?_of_mem hx
    rw [List.getElem?_drop] at hk
    simp [n.2 _ x (by omega) hk]⟩
theorem nr_self {h : Hp} : NR h.length h := ⟨Nat.le_refl _, fun r x hr hx => by rw [List.getElem?_eq_none hr] at hx; cases hx⟩
theorem app_mod {b : Nat} {h h1 h' : Hp} {t : TypeId} {s x v : Value} (hb : h.length = b) (n : NR b h1) (e : appendP P h1 t s x = some (v, h')) (hp : h <+: h1) (hp' : h <+: h') : modOk b h1 h' :=
  nr_mod (append_nr n e) (append_nr nr_self e) (by
    subst hb
    obtain ⟨l, rfl⟩ := hp
    rw [List.take_left' rfl]
    exact hp')
end Go.Pm.PP
namespace Go.Pm
theorem Holds.one {h0 h : Hp} {L : List Asn} {A : Asn} (H : Holds h0 h L) (i : Nat) (hi : L[i]? = some A) : Holds h0 h [A] :=
  H.sub (fun _ => i) (fun j B hB => by
    match j, hB with
    | 0, hB => cases hB; exact hi
    | j + 1, hB => cases hB) fun j k B C hB hC _ => by
    match j, k, hB, hC with
    | 0, 0, _, _ => rfl
    | j + 1, _, hB, _ => cases hB
    | _, k + 1, _, hC => cases hC
end Go.Pm

/- The best order of jobs: the reference's search. -/
set_option linter.unusedVariables false
set_option linter.unusedSimpArgs false
set_option maxRecDepth 4000
set_option maxHeartbeats 8000000
namespace Go.Pm.PP
open Go.Pm Go.Proofs Go.Pm.PE
/-- What a search has found. -/
structure Sr where
  o : List Int
  v : Int
  c : Int
def valX (o : Int) (js : List Job) (xs : List Int) : Int := valE o js (endsL js xs)
theorem Sees.gcU {h0 h : Hp} {v u : Value} {sz : Nat} {els : List (List Value)} (s : Sees h v sz els) (hu : plain u = true → plainC v = true) : Sees (gc h0 h u) v sz els := by
  rcases gc_cases h0 h u with g | ⟨hp, g⟩ <;> rw [g]
  · exact s
  · have hv := hu hp
    obtain ⟨h1, oa, c, rfl, h3⟩ := s
    rcases h3 with ⟨rfl, rfl, rfl⟩ | ⟨r, o, x, rfl, _⟩
    · exact ⟨by simp, none, 0, rfl, .inl ⟨rfl, rfl, rfl⟩⟩
    · cases hv
/-- An order of all jobs. -/
structure Ord (n : Nat) (xs : List Int) : Prop where
  len : xs.length = n
  inn : inN n xs
  nd : xs.Nodup
theorem Ord.all {n : Nat} {xs : List Int} (o : Ord n xs) {i : Nat} (hi : i < n) : (i : Int) ∈ xs :=
  pigeon xs (upTo n) o.nd (fun x hx => mem_upTo.2 (o.inn x hx)) (by rw [upTo_len, o.len]; omega) i (mem_upTo.2 (by omega))
section
variable {h : Hp} {v u : Value} {js : List Job} {xs : List Int} {o : Int}
end
end Go.Pm.PP

/- The best order of jobs: both. -/
set_option linter.unusedVariables false
set_option linter.unusedSimpArgs false
set_option maxRecDepth 4000
set_option maxHeartbeats 8000000
namespace Go.Pm.PE
theorem perms_perm : ∀ {n : Nat} {l p : List Int}, l.length = n → p ∈ perms l n → p.Perm l
  | 0, l, p, h, hp => by
    rw [List.eq_nil_of_length_eq_zero h]
    simp [perms] at hp
    rw [hp]
  | n + 1, l, p, h, hp => by
    rw [perms, List.mem_flatMap] at hp
    obtain ⟨i, hi, hp⟩ := hp
    have hi : i < l.length := by simpa [List.mem_range'_1] using hi
    obtain ⟨q, hq, rfl⟩ := List.mem_map.1 hp
    have h1 := perms_perm (by rw [List.length_eraseIdx_of_lt hi]; omega) hq
    obtain ⟨x, hx, hd⟩ := drop_at hi
    rw [hx, Option.getD_some]
    refine (List.Perm.cons x h1).trans ?_
    have e : l = l.take i ++ x :: l.drop (i + 1) := by conv => lhs; rw [← List.take_append_drop i l, hd]
    rw [List.eraseIdx_eq_take_drop_succ]
    conv => rhs; rw [e]
    exact List.perm_middle.symm
end Go.Pm.PE
namespace Go.Pm
/-- What stands in between is let go. -/
theorem Holds.cut {h0 h : Hp} {A B C : List Asn} (H : Holds h0 h ((A ++ B) ++ C)) : Holds h0 h (A ++ C) := by
  refine Holds.weak (T := B) (H.perm ?_)
  rw [List.append_assoc, List.append_assoc]
  exact List.Perm.append_left A List.perm_append_comm
end Go.Pm
namespace Go.Pm.PP
open Go.Pm Go.Proofs Go.Pm.PE
def ordsL (n : Nat) : List (List Int) := perms (upTo n) n
theorem up_asc {n : Nat} : (upTo n).Pairwise (· < ·) := by
  refine List.Pairwise.map _ (fun a b h => ?_) List.pairwise_lt_range
  omega
theorem ords_ord {n : Nat} {xs : List Int} (h : xs ∈ ordsL n) : Ord n xs := by
  have p := perms_perm (upTo_len n) h
  exact ⟨by rw [p.length_eq, upTo_len], fun x hx => mem_upTo.1 (p.mem_iff.1 hx), p.nodup_iff.2 (upTo_nodup n)⟩
theorem plainT {vo : Value} {r : List Value} (h : plain (.tuple (vo :: r).toArray) = true) : plainC vo = true := by
  have : ((vo :: r).toArray : Array Value).toList.all plainC = true := h
  simp only [List.all_cons, Bool.and_eq_true] at this
  exact this.1
/-! ### all orders by the program -/
theorem numbersTo_run {h : Hp} {n : Nat} (hn : n ≤ 2 ^ 30) : RunsC P G n_impl_numbersTo [.int .i64 n] h fun v h' => h <+: h' ∧ Own h.length h' v 1 ((upTo n).map encI) := by
  refine hideC fun K hK => enter_run e_impl_numbersTo (by simp) ?_
  have H0 := own_nil (Holds.start (h := h)) Int encI 1
  simp -implicitDefEqProofs
  refine R_loopO (fun m s h' => ∃ (i : Nat) (u : Value), i + m = n ∧ s = [(0, .int .i64 n), (3, u), (4, .int .i64 i)] ∧ Holds h h' [.own u 1 ((upTo i).map encI)]) (fun I hI m s h' => ?_) (n := n) ⟨0, _, Nat.zero_add _, by simp; rfl, by simpa [upTo] using H0⟩
  rintro ⟨i, u, hi, rfl, H⟩
  by_cases hlt : i < n
  · have hlt' : (i : Int) < n := by omega
    obtain ⟨v', h2, ha, H2, _⟩ := push_I0 H 0 rfl (i : Int) (by rw [upTo_len]; omega)
    simp -implicitDefEqProofs [hlt, hlt', ha, winc hlt (by omega)]
    refine ⟨m - 1, by omega, on hI ⟨i + 1, v', by omega, rfl, ?_⟩⟩
    have e : upTo (i + 1) = upTo i ++ [(i : Int)] := by simp [upTo, List.range_succ]
    rw [e]
    exact H2
  · have hlt' : ¬ (i : Int) < n := by omega
    have e : i = n := by omega
    subst e
    simp -implicitDefEqProofs [hlt']
    exact onK hK (H.ret 0 rfl)
theorem load_pre {hb h' : Hp} {r n : Nat} {cs : List Value} (hp : hb <+: h') (hr : hb[r]? = some (some ⟨cs, 0, false⟩)) (hn : cs.length = n) (t : TypeId) : loadP P h' t (.pointer (some ⟨r, 0, some n⟩)) = rowLoad P t ⟨cs, 0, false⟩ 0 := by
  have h5 : h'[r]? = some (some ⟨cs, 0, false⟩) := by
    obtain ⟨l, rfl⟩ := hp
    rw [List.getElem?_append_left (List.getElem?_eq_some_iff.1 hr).1]; exact hr
  rw [loadP_eq]
  simp only [rowAt, h5, hn, if_true, Option.bind_some]
end Go.Pm.PP

/- Best orders and exchanges of neighbours, in plain terms. -/
set_option linter.unusedVariables false
set_option linter.unusedSimpArgs false
namespace Go.Pm.PE
theorem perms_all : ∀ {n : Nat} {l xs : List Int}, l.length = n → xs.Perm l → xs ∈ perms l n
  | 0, l, xs, h, hp => by
    have hl : l = [] := List.eq_nil_of_length_eq_zero h
    subst hl
    rw [List.perm_nil.1 hp]; simp [perms]
  | n + 1, l, [], h, hp => by
    have := hp.length_eq
    rw [h] at this; simp at this
  | n + 1, l, x :: r, h, hp => by
    have hx : x ∈ l := hp.mem_iff.1 (List.mem_cons_self ..)
    obtain ⟨i, hi⟩ := List.getElem?_of_mem hx
    have hil := (List.getElem?_eq_some_iff.1 hi).1
    have e : l.Perm (x :: l.eraseIdx i) := by
      have e2 : l = l.take i ++ x :: l.drop (i + 1) := by
        obtain ⟨y, hy, hd⟩ := drop_at hil
        rw [hi] at hy; cases hy
        conv => lhs; rw [← List.take_append_drop i l, hd]
      rw [List.eraseIdx_eq_take_drop_succ]
      conv => lhs; rw [e2]
      exact List.perm_middle
    have hr : r.Perm (l.eraseIdx i) := (List.perm_cons x).1 (hp.trans e)
    rw [perms, List.mem_flatMap]
    refine ⟨i, by simp [List.mem_range'_1, hil], List.mem_map.2 ⟨r, perms_all (by rw [List.length_eraseIdx_of_lt hil]; omega) hr, ?_⟩⟩
    rw [hi, Option.getD_some]
end Go.Pm.PE
namespace Go.Pm.PP
open Go.Pm Go.Pm.PE
theorem ord_mem {n : Nat} {xs : List Int} (h : Ord n xs) : xs ∈ ordsL n := by
  refine perms_all (upTo_len n) ((List.perm_ext_iff_of_nodup h.nd (upTo_nodup n)).2 fun x => ?_)
  rw [mem_upTo]
  refine ⟨fun hx => h.inn x hx, fun hx => ?_⟩
  have := h.all (i := x.toNat) (by omega)
  rwa [show ((x.toNat : Nat) : Int) = x by omega] at this
/-! ### exchanges of neighbours -/
end Go.Pm.PP

/- Typed rules for slices: printed by a program of this work (wrap.py). -/
set_option linter.unusedVariables false
set_option linter.unusedSimpArgs false
set_option maxRecDepth 4000
namespace Go.Pm.PP
def encU (x : Int) : List Value := [.int .u8 x]
open Go.Pm Go.Proofs
theorem load_U {h : Hp} {v : Value} {xs : List (Int)} {i : Nat} {x : Int} (hv : Sees h v 1 (xs.map encU)) (hx : xs[i]? = some x) :
    indexAddrP P h t_S_u8 v (.int .i64 i) = some (.pointer (some (addP (base v) (i)))) ∧ loadP P h t_u8 (.pointer (some (addP (base v) (i)))) = some (.int .u8 x) := by
  have hi := (List.getElem?_eq_some_iff.1 hx).1
  have h1 := hv.indexT (P := P) u_S_u8 i_u8 (k := .i64) (j := i) (by omega) (by omega)
  rw [Int.toNat_natCast] at h1
  have h2 := hv.cellT (P := P) (ty := t_u8) a_u8 i_u8 hx (k := 0) (by omega)
  exact ⟨by simpa using h1, by simpa [encU] using h2⟩
theorem len_U (xs : List (Int)) : ∀ e ∈ xs.map encU, e.length = 1 := by
  intro e he
  obtain ⟨x, _, rfl⟩ := List.mem_map.1 he
  rfl
end Go.Pm.PP

/- Draws: bytes, numbers, one of some. -/
set_option linter.unusedVariables false
set_option linter.unusedSimpArgs false
set_option maxRecDepth 4000
set_option maxHeartbeats 8000000
namespace Go.Pm.PP
open Go.Pm Go.Proofs Go.Pm.PE
/-- A cursor over bytes. -/
abbrev cu (r : Nat) (vc : Value) (at' sd : Int) : Asn := .box r [vc, .int .i64 at', .int .u64 sd]
/-- A code that is read. -/
def By (h0 : Hp) (vc : Value) : Prop := ∃ bs : List Int, Sees h0 vc 1 (bs.map encU) ∧ (∀ b, b ∈ bs → 0 ≤ b ∧ b ≤ 255) ∧ bs.length ≤ 2 ^ 20
def Cur (h0 h : Hp) (r : Nat) (vc : Value) (n : Nat) (L : List Asn) : Prop := ∃ a s : Int, 0 ≤ a ∧ a ≤ n ∧ Holds h0 h (cu r vc a s :: L)
section
variable {h0 h h' : Hp} {r n m : Nat} {vc u w : Value} {L T : List Asn}
theorem Cur.mono (C : Cur h0 h r vc n L) (hm : n ≤ m) : Cur h0 h r vc m L := by
  obtain ⟨a, s, h1, h2, H⟩ := C
  exact ⟨a, s, h1, by omega, H⟩
theorem Cur.weak (C : Cur h0 h r vc n (L ++ T)) : Cur h0 h r vc n L := by
  obtain ⟨a, s, h1, h2, H⟩ := C
  exact ⟨a, s, h1, h2, Holds.weak (T := T) H⟩
theorem Cur.pre (C : Cur h0 h r vc n L) : h0 <+: h := by
  obtain ⟨a, s, h1, h2, H⟩ := C
  exact H.pre
/-- At a function's end. -/
theorem Cur.gc (C : Cur h0 h r vc n L) (C' : Cur h0 h' r vc m L) : Cur h0 (gc h h' u) r vc m L := by
  obtain ⟨a, s, _, _, H⟩ := C
  obtain ⟨a', s', h1, h2, H'⟩ := C'
  exact ⟨a', s', h1, h2, H.gcR H' rfl⟩
theorem Cur.gcO {sz : Nat} {els : List (List Value)} (C : Cur h0 h r vc n L) (C' : Cur h0 h' r vc m (L ++ [.own w sz els])) (hu : plain u = true → plainC w = true) : Cur h0 (Pm.gc h h' u) r vc m (L ++ [.own w sz els]) := by
  obtain ⟨a, s, _, _, H⟩ := C
  obtain ⟨a', s', h1, h2, H'⟩ := C'
  refine ⟨a', s', h1, h2, ?_⟩
  rcases gc_cases h h' u with g | ⟨hp, g⟩
  · rw [g]; exact H'
  · have G := H.gcR (u := u) (L' := cu r vc a' s' :: L) (Holds.weak (L := cu r vc a' s' :: L) (T := [.own w sz els]) H') rfl
    rw [g] at G ⊢
    have hw := hu hp
    have ho := H'.own (L.length + 1) (v := w) (sz := sz) (els := els) (by
      rw [List.getElem?_cons_succ, List.getElem?_append_right (Nat.le_refl _), Nat.sub_self]; rfl)
    have hn : els = [] := by
      rcases ho.2 with ⟨_, h2⟩ | ⟨_, _, _, _, _, h2, _⟩
      · exact h2
      · rw [h2] at hw; cases hw
    subst hn
    have hw2 : w = nilV := by
      obtain ⟨a, c, e⟩ := ho.sees.shape
      rw [e] at hw ⊢
      simp only [List.length_nil] at hw ⊢
      match a, c, hw with
      | none, 0, _ => rfl
    subst hw2
    exact G.call List.prefix_rfl Own.nil
end
theorem wrap_u64 {n : Int} (h1 : 0 ≤ n) (h2 : n ≤ 255) : IntKind.u64.wrap n = n := by
  unfold IntKind.wrap
  simp [IntKind.signed, IntKind.bits]
  omega
theorem and_bd (p : Nat) : 0 ≤ IntKind.i64.wrap (IntKind.u64.wrap ↑(p &&& (255 % 2 ^ IntKind.u64.bits : Int).toNat)) ∧ IntKind.i64.wrap (IntKind.u64.wrap ↑(p &&& (255 % 2 ^ IntKind.u64.bits : Int).toNat)) ≤ 255 := by
  have e : (255 % 2 ^ IntKind.u64.bits : Int).toNat = 255 := by decide
  rw [e]
  have : p &&& 255 ≤ 255 := Nat.and_le_right
  rw [wrap_u64 (by omega) (by omega), wrap_ok (by omega) (by omega)]
  omega
theorem emod_le' {a k : Int} (h : 0 ≤ a) (hk : 0 ≤ k) : a % k ≤ a := by
  obtain ⟨n, rfl⟩ := Int.eq_ofNat_of_zero_le h
  obtain ⟨m, rfl⟩ := Int.eq_ofNat_of_zero_le hk
  have := Nat.mod_le n m
  rw [← Int.natCast_emod]
  exact Int.ofNat_le.2 this
theorem cv1 {b : Int} : convP P t_u8 t_int (.int .u8 b) = some (.int .i64 (IntKind.i64.wrap b)) := by unfold convP; rw [u_u8, u_int]
theorem cv2 {b : Int} : convP P t_int t_u64 (.int .i64 b) = some (.int .u64 (IntKind.u64.wrap b)) := by unfold convP; rw [u_int, u_u64]
theorem cv3 {b : Int} : convP P t_u64 t_int (.int .u64 b) = some (.int .i64 (IntKind.i64.wrap b)) := by unfold convP; rw [u_u64, u_int]
theorem shr40 (a : Int) : ∃ z : Int, shiftI .shr .u64 a 40 = some (.int .u64 z) := ⟨_, rfl⟩
section
variable {h0 h : Hp} {r n : Nat} {vc : Value} {L : List Asn}
theorem next_run (B : By h0 vc) (C : Cur h0 h r vc n L) (hn : n ≤ 2 ^ 50) : RunsC P G n_spec_l1Cur_next [.pointer (some ⟨r, 0, some 3⟩)] h fun v h' => ∃ x : Int, v = .int .i64 x ∧ 0 ≤ x ∧ x ≤ 255 ∧ Cur h0 h' r vc (n + 1) L := by
  refine hideC fun K hK => enter_run e_spec_l1Cur_next (by simp) ?_
  have Cs := C
  obtain ⟨bs, Sb, hb, hl⟩ := B
  obtain ⟨a, s, a0, a1, H⟩ := C
  obtain ⟨ob, cb, rfl⟩ := Sb.shapeT
  have Sb' := Sb.pre H.pre
  have l1 := H.bl (P := P) 0 3 rfl rfl
  obtain ⟨h1, s1, H1, _⟩ := H.set (P := P) 0 (n := 3) (o := 1) (ty := t_int) (w := .int .i64 (a + 1)) rfl rfl e_t_int (by simp) (by simp) (by simp)
  have l2 := H1.bl (P := P) 0 3 rfl rfl
  have wa : IntKind.i64.wrap (a + 1) = a + 1 := by rw [wrap_ok] <;> omega
  by_cases c1 : a < bs.length
  · obtain ⟨b, hbb, _⟩ := drop_at (show a.toNat < bs.length by omega)
    have lb := load_U Sb' hbb
    rw [show ((a.toNat : Nat) : Int) = a by omega] at lb
    have hb' := hb b (List.mem_of_getElem? hbb)
    have wb : IntKind.i64.wrap b = b := by rw [wrap_ok] <;> omega
    have c2 : a + 1 ≤ bs.length := by omega
    obtain ⟨h2, s2, H2, _⟩ := H1.set (P := P) 0 (n := 3) (o := 2) (ty := t_u64) (w := .int .u64 (IntKind.u64.wrap (IntKind.u64.wrap (IntKind.u64.wrap (s * 6364136223846793005) + IntKind.u64.wrap b) + 462197))) rfl rfl e_t_u64 (by simp) (by simp) (by simp)
    have l3 := H2.bl (P := P) 0 3 rfl rfl
    simp -implicitDefEqProofs [-indexAddrP_some, l1, c1, lb, wb, wa, s1, l2, s2, l3, c2, cv1, cv2, cv3]
    exact onK hK ⟨b, rfl, hb'.1, hb'.2, Cs.gc ⟨a + 1, _, by omega, by omega, H2⟩⟩
  · have c2 : ¬ a + 1 ≤ bs.length := by omega
    obtain ⟨h2, s2, H2, _⟩ := H1.set (P := P) 0 (n := 3) (o := 2) (ty := t_u64) (w := .int .u64 (IntKind.u64.wrap (IntKind.u64.wrap (IntKind.u64.wrap (s * 6364136223846793005) + IntKind.u64.wrap 0) + 462197))) rfl rfl e_t_u64 (by simp) (by simp) (by simp)
    have l3 := H2.bl (P := P) 0 3 rfl rfl
    obtain ⟨z, hz⟩ := shr40 (IntKind.u64.wrap (IntKind.u64.wrap (IntKind.u64.wrap (s * 6364136223846793005) + IntKind.u64.wrap 0) + 462197))
    simp -implicitDefEqProofs [-indexAddrP_some, l1, c1, wa, s1, l2, s2, l3, c2, cv1, cv2, cv3, hz]
    exact onK hK ⟨_, rfl, (and_bd _).1, (and_bd _).2, Cs.gc ⟨a + 1, _, by omega, by omega, H2⟩⟩
theorem pick_run (B : By h0 vc) (C : Cur h0 h r vc n L) (hn : n ≤ 2 ^ 40) {k : Int} (hk : k ≤ 2 ^ 40) : RunsC P G n_spec_l1Cur_pick [.pointer (some ⟨r, 0, some 3⟩), .int .i64 k] h fun v h' => ∃ x : Int, v = .int .i64 x ∧ 0 ≤ x ∧ x ≤ 2 ^ 20 ∧ (1 ≤ k → x < k) ∧ Cur h0 h' r vc (n + 2) L := by
  refine hideC fun K hK => enter_run e_spec_l1Cur_pick (by simp) ?_
  by_cases c0 : k ≤ 1
  · simp -implicitDefEqProofs [c0]
    exact onK hK ⟨0, rfl, by omega, by omega, fun h => by omega, C.mono (by omega)⟩
  · simp -implicitDefEqProofs [c0]
    refine CL_post (next_run B C (by omega)) fun v h1 ⟨x, ev, x0, x1, C1⟩ => ?_
    subst ev
    have k0 : ¬ k = 0 := by omega
    by_cases c1 : 200 < k
    · have w1 : IntKind.i64.wrap (x * 256) = x * 256 := by rw [wrap_ok] <;> omega
      simp -implicitDefEqProofs [c1, w1]
      refine CL_post (next_run B C1 (by omega)) fun v h2 ⟨y, ev, y0, y1, C2⟩ => ?_
      subst ev
      have w2 : IntKind.i64.wrap (x * 256 + y) = x * 256 + y := by rw [wrap_ok] <;> omega
      have e : (x * 256 + y).tmod k = (x * 256 + y) % k := Int.tmod_eq_emod_of_nonneg (by omega)
      have m1 := Int.emod_nonneg (x * 256 + y) k0
      have m2 := Int.emod_lt_of_pos (x * 256 + y) (show 0 < k by omega)
      have m3 : (x * 256 + y) % k ≤ x * 256 + y := emod_le' (by omega) (by omega)
      simp -implicitDefEqProofs [w2, k0, e]
      exact onK hK ⟨_, rfl, m1, by omega, fun _ => m2, C.gc C2⟩
    · have e : x.tmod k = x % k := Int.tmod_eq_emod_of_nonneg x0
      have m1 := Int.emod_nonneg x k0
      have m2 := Int.emod_lt_of_pos x (show 0 < k by omega)
      have m3 : x % k ≤ x := emod_le' x0 (by omega)
      simp -implicitDefEqProofs [c1, k0, e]
      exact onK hK ⟨_, rfl, m1, by omega, fun _ => m2, C.gc (C1.mono (by omega))⟩
theorem one_run (B : By h0 vc) (C : Cur h0 h r vc n L) (hn : n ≤ 2 ^ 40) {k : Int} (hk : k ≤ 2 ^ 40) : RunsC P G n_spec_l1Cur_one [.pointer (some ⟨r, 0, some 3⟩), .int .i64 k] h fun v h' => ∃ b : Bool, v = .bool b ∧ Cur h0 h' r vc (n + 2) L := by
  refine hideC fun K hK => enter_run e_spec_l1Cur_one (by simp) ?_
  simp -implicitDefEqProofs
  refine CL_post (pick_run B C hn hk) fun v h1 ⟨x, ev, _, _, _, C1⟩ => ?_
  subst ev
  simp -implicitDefEqProofs
  exact onK hK ⟨_, rfl, C.gc C1⟩
theorem among_run (B : By h0 vc) {xs : List Int} {vl : Value} {i : Nat} (C : Cur h0 h r vc n L) (hn : n ≤ 2 ^ 40) (hi : L[i]? = some (.own vl 1 (xs.map encI))) (h1 : 1 ≤ xs.length) (h2 : xs.length ≤ 2 ^ 40) :
    RunsC P G n_spec_l1Cur_among [.pointer (some ⟨r, 0, some 3⟩), vl] h fun v h' => ∃ x : Int, v = .int .i64 x ∧ x ∈ xs ∧ Cur h0 h' r vc (n + 2) L := by
  refine hideC fun K hK => enter_run e_spec_l1Cur_among (by simp) ?_
  have S0 : Ints h vl xs := by obtain ⟨a, s, _, _, H⟩ := C; exact H.sees (i + 1) (by rw [List.getElem?_cons_succ]; exact hi)
  obtain ⟨oa, ca, rfl⟩ := S0.shapeT
  simp -implicitDefEqProofs
  refine CL_post (pick_run B C hn (k := xs.length) (by omega)) fun v h3 ⟨x, ev, x0, _, xk, C1⟩ => ?_
  subst ev
  have hx := xk (by omega)
  have S1 : Ints h3 (.slice oa xs.length ca) xs := by obtain ⟨a, s, _, _, H⟩ := C1; exact H.sees (i + 1) (by rw [List.getElem?_cons_succ]; exact hi)
  obtain ⟨y, hy, _⟩ := drop_at (show x.toNat < xs.length by omega)
  have ly := load_I S1 hy
  rw [show ((x.toNat : Nat) : Int) = x by omega] at ly
  simp -implicitDefEqProofs [-indexAddrP_some, ly]
  exact onK hK ⟨y, rfl, List.mem_of_getElem? hy, C.gc C1⟩
/-- A list that is told. -/
theorem Cur.lit (C : Cur h0 h r vc n L) (xs : List Int) : Cur h0 (h ++ [some ⟨xs.map fun x => .int .i64 x, 1, false⟩]) r vc n (L ++ [.own (.slice (some ⟨h.length, 0, some xs.length⟩) xs.length xs.length) 1 (xs.map encI)]) := by
  obtain ⟨a, s, h1, h2, H⟩ := C
  refine ⟨a, s, h1, h2, ?_⟩
  have e : (xs.map encI).flatten = xs.map fun x => Value.int .i64 x := by
    induction xs with
    | nil => rfl
    | cons x xs ih => rw [List.map_cons, List.flatten_cons, ih]; rfl
  have := H.lit (sz := 1) (n := xs.length) (els := xs.map encI) (len_I xs) (by simp)
  rw [e, List.length_map] at this
  exact this
theorem snoc_get {A : Asn} : (L ++ [A])[L.length]? = some A := by rw [List.getElem?_append_right (Nat.le_refl _), Nat.sub_self]; rfl
end
end Go.Pm.PP

/- Draws: jobs and orders. -/
set_option linter.unusedVariables false
set_option linter.unusedSimpArgs false
set_option maxRecDepth 4000
set_option maxHeartbeats 8000000
namespace Go.Pm.PP
open Go.Pm Go.Proofs Go.Pm.PE
section
variable {h0 h : Hp} {r n : Nat} {vc : Value} {L : List Asn}
theorem Cur.alloc (C : Cur h0 h r vc n L) (cs : List Value) : Cur h0 (h ++ [some ⟨cs, 0, false⟩]) r vc n (L ++ [.box h.length cs]) := by
  obtain ⟨a, s, h1, h2, H⟩ := C
  exact ⟨a, s, h1, h2, H.alloc cs⟩
abbrev zJ : List Value := [.int .i64 0, .int .i64 0, .int .i64 0, .int .i64 0]
theorem job_run (B : By h0 vc) (C : Cur h0 h r vc n L) (hn : n ≤ 2 ^ 30) {b : Bool} : RunsC P G n_spec_l1Cur_job [.pointer (some ⟨r, 0, some 3⟩), .bool b] h fun v h' => ∃ j : Job, v = jv j ∧ Cur h0 h' r vc (n + 8) L := by
  refine hideC fun K hK => enter_run e_spec_l1Cur_job (by simp) ?_
  have C0 := C.alloc zJ
  have C1 : Cur h0 (h ++ [some ⟨zJ, 0, false⟩, some ⟨([1, 2, 3, 4, 5, 7, 9] : List Int).map fun x => .int .i64 x, 1, false⟩]) r vc n ((L ++ [.box h.length zJ]) ++ [.own (.slice (some ⟨h.length + 1, 0, some 7⟩) 7 7) 1 (([1, 2, 3, 4, 5, 7, 9] : List Int).map encI)]) := by
    have := C0.lit [1, 2, 3, 4, 5, 7, 9]
    rw [List.append_assoc h, List.length_append] at this
    exact this
  simp -implicitDefEqProofs
  refine CL_post (among_run B C1 (by omega) snoc_get (xs := [1, 2, 3, 4, 5, 7, 9]) (by simp) (by simp)) fun v h1 ⟨x, ev, _, C2⟩ => ?_
  subst ev
  have C3 := C2.weak.lit [0, 1, 1, 2, 3, 5, 8]
  simp -implicitDefEqProofs
  refine CL_post (among_run B C3 (by omega) snoc_get (xs := [0, 1, 1, 2, 3, 5, 8]) (by simp) (by simp)) fun v h2 ⟨y, ev, _, C4⟩ => ?_
  subst ev
  simp -implicitDefEqProofs
  refine CL_post (pick_run B C4.weak (by omega) (k := 24) (by omega)) fun v h3 ⟨z, ev, _, _, _, C5⟩ => ?_
  subst ev
  have C6 := C5.alloc [.int .i64 x, .int .i64 y, .int .i64 0, .int .i64 z]
  have g4 : ∀ {A : Asn} {x : List Value} {T : List Asn}, (A :: ((L ++ [.box h.length x]) ++ T))[L.length + 1]? = some (.box h.length x) := by
    intro A x T
    rw [List.getElem?_cons_succ, List.append_assoc, List.getElem?_append_right (Nat.le_refl _), Nat.sub_self]; rfl
  cases b
  · obtain ⟨a, s, g1, g2, H⟩ := C6
    obtain ⟨h4, s4, H4, _⟩ := H.set (P := P) (L.length + 1) (n := 4) (o := 0) (ty := t_impl_Job) (w := jv ⟨x, y, 0, z⟩) (r := h.length) (cs := zJ) g4 rfl e_t_impl_Job (by simp) (by simp) (by simp)
    have e4 : (cu r vc a s :: ((L ++ [.box h.length zJ]) ++ [.box h3.length [.int .i64 x, .int .i64 y, .int .i64 0, .int .i64 z]])).set (L.length + 1) (.box h.length (splice zJ 0 (jv ⟨x, y, 0, z⟩).cells.toList)) = cu r vc a s :: ((L ++ [.box h.length [.int .i64 x, .int .i64 y, .int .i64 0, .int .i64 z]]) ++ [.box h3.length [.int .i64 x, .int .i64 y, .int .i64 0, .int .i64 z]]) := by
      rw [List.set_cons_succ, List.append_assoc, List.set_append_right (h := Nat.le_refl _), Nat.sub_self, List.append_assoc]; rfl
    rw [e4] at H4
    have s4' : storeP P (h3 ++ [some ⟨[.int .i64 x, .int .i64 y, .int .i64 0, .int .i64 z], 0, false⟩]) 85 (.agg #[.int .i64 x, .int .i64 y, .int .i64 0, .int .i64 z]) (.pointer (some ⟨h.length, 0, some 4⟩)) = some h4 := s4
    have l4 := H4.bl (P := P) (L.length + 1) 4 g4 rfl
    simp -implicitDefEqProofs
    simp -implicitDefEqProofs [-storeP_app0, s4', l4]
    exact onK hK ⟨⟨x, y, 0, z⟩, rfl, C.gc (Cur.weak (T := [.box h.length [.int .i64 x, .int .i64 y, .int .i64 0, .int .i64 z]] ++ [.box h3.length [.int .i64 x, .int .i64 y, .int .i64 0, .int .i64 z]]) ⟨a, s, g1, by omega, by rw [← List.append_assoc]; exact H4⟩)⟩
  · simp -implicitDefEqProofs
    refine CL_post (pick_run B C6 (by omega) (k := 12) (by omega)) fun v h4 ⟨q, ev, _, _, _, C7⟩ => ?_
    subst ev
    obtain ⟨a, s, g1, g2, H⟩ := C7
    have g5 : ∀ {A : Asn} {x : List Value} {B : Asn}, (A :: ((L ++ [B]) ++ [.box h3.length x]))[L.length + 1 + 1]? = some (.box h3.length x) := by
      intro A x B
      rw [List.getElem?_cons_succ, List.append_assoc, List.getElem?_append_right (by omega), Nat.add_sub_cancel_left]; rfl
    obtain ⟨h5, s5, H5, _⟩ := H.set (P := P) (L.length + 1 + 1) (n := 4) (o := 2) (ty := t_int) (w := .int .i64 q) g5 rfl e_t_int (by simp) (by simp) (by simp)
    have e5 : (cu r vc a s :: ((L ++ [.box h.length zJ]) ++ [.box h3.length [.int .i64 x, .int .i64 y, .int .i64 0, .int .i64 z]])).set (L.length + 1 + 1) (.box h3.length (splice [.int .i64 x, .int .i64 y, .int .i64 0, .int .i64 z] 2 (Value.int .i64 q).cells.toList)) = cu r vc a s :: ((L ++ [.box h.length zJ]) ++ [.box h3.length [.int .i64 x, .int .i64 y, .int .i64 q, .int .i64 z]]) := by
      rw [List.set_cons_succ, List.append_assoc, List.set_append_right (h := by omega), Nat.add_sub_cancel_left, List.append_assoc]; rfl
    rw [e5] at H5
    have l5 := H5.bl (P := P) (L.length + 1 + 1) 4 g5 rfl
    obtain ⟨h6, s6, H6, _⟩ := H5.set (P := P) (L.length + 1) (n := 4) (o := 0) (ty := t_impl_Job) (w := jv ⟨x, y, q, z⟩) (r := h.length) (cs := zJ) g4 rfl e_t_impl_Job (by simp) (by simp) (by simp)
    have e6 : (cu r vc a s :: ((L ++ [.box h.length zJ]) ++ [.box h3.length [.int .i64 x, .int .i64 y, .int .i64 q, .int .i64 z]])).set (L.length + 1) (.box h.length (splice zJ 0 (jv ⟨x, y, q, z⟩).cells.toList)) = cu r vc a s :: ((L ++ [.box h.length [.int .i64 x, .int .i64 y, .int .i64 q, .int .i64 z]]) ++ [.box h3.length [.int .i64 x, .int .i64 y, .int .i64 q, .int .i64 z]]) := by
      rw [List.set_cons_succ, List.append_assoc, List.set_append_right (h := Nat.le_refl _), Nat.sub_self, List.append_assoc]; rfl
    rw [e6] at H6
    have s6' : storeP P h5 85 (.agg #[.int .i64 x, .int .i64 y, .int .i64 q, .int .i64 z]) (.pointer (some ⟨h.length, 0, some 4⟩)) = some h6 := s6
    have l6 := H6.bl (P := P) (L.length + 1) 4 g4 rfl
    simp -implicitDefEqProofs [-storeP_app0, s5, l5, s6', l6]
    exact onK hK ⟨⟨x, y, q, z⟩, rfl, C.gc (Cur.weak (T := [.box h.length [.int .i64 x, .int .i64 y, .int .i64 q, .int .i64 z]] ++ [.box h3.length [.int .i64 x, .int .i64 y, .int .i64 q, .int .i64 z]]) ⟨a, s, g1, by omega, by rw [← List.append_assoc]; exact H6⟩)⟩
end
end Go.Pm.PP

/- Draws: spoilt jobs, lists of jobs. -/
set_option linter.unusedVariables false
set_option linter.unusedSimpArgs false
set_option maxRecDepth 4000
set_option maxHeartbeats 8000000
namespace Go.Pm.PP
open Go.Pm Go.Proofs Go.Pm.PE
section
variable {h0 h : Hp} {r n : Nat} {vc : Value} {L : List Asn}
theorem spoiltJob_run (B : By h0 vc) (C : Cur h0 h r vc n L) (hn : n ≤ 2 ^ 30) {j : Job} : RunsC P G n_spec_l1Cur_spoiltJob [.pointer (some ⟨r, 0, some 3⟩), jv j] h fun v h' => ∃ j' : Job, v = jv j' ∧ Cur h0 h' r vc (n + 4) L := by
  refine hideC fun K hK => enter_run e_spec_l1Cur_spoiltJob (by simp) ?_
  have C1 : Cur h0 (h ++ [some ⟨[.int .i64 j.t, .int .i64 j.w, .int .i64 j.r, .int .i64 j.d], 0, false⟩, some ⟨zJ, 0, false⟩]) r vc n ((L ++ [.box h.length (encJ j)]) ++ [.box (h.length + 1) zJ]) := by
    have := (C.alloc (encJ j)).alloc zJ
    rw [List.append_assoc h, List.length_append] at this
    exact this
  have g3 : ∀ {A : Asn} {x : List Value} {T : List Asn}, (A :: ((L ++ [.box h.length x]) ++ T))[L.length + 1]? = some (.box h.length x) := by
    intro A x T
    rw [List.getElem?_cons_succ, List.append_assoc, List.getElem?_append_right (Nat.le_refl _), Nat.sub_self]; rfl
  have g4 : ∀ {A : Asn} {x : List Value} {B : Asn}, (A :: ((L ++ [B]) ++ [.box (h.length + 1) x]))[L.length + 1 + 1]? = some (.box (h.length + 1) x) := by
    intro A x B
    rw [List.getElem?_cons_succ, List.append_assoc, List.getElem?_append_right (by omega), Nat.add_sub_cancel_left]; rfl
  have fin : ∀ (fo : Nat) (q : Int) (j' : Job) (h5 : Hp), fo + 1 ≤ 4 → splice (encJ j) fo [.int .i64 q] = encJ j' → Cur h0 h5 r vc (n + 4) ((L ++ [.box h.length (encJ j)]) ++ [.box (h.length + 1) zJ]) →
      ∃ h6 h7, storeP P h5 t_int (.int .i64 q) (.pointer (some ⟨h.length, fo, some 4⟩)) = some h6 ∧ loadP P h6 85 (.pointer (some ⟨h.length, 0, some 4⟩)) = some (.agg #[.int .i64 j'.t, .int .i64 j'.w, .int .i64 j'.r, .int .i64 j'.d]) ∧
        storeP P h6 85 (.agg #[.int .i64 j'.t, .int .i64 j'.w, .int .i64 j'.r, .int .i64 j'.d]) (.pointer (some ⟨h.length + 1, 0, some 4⟩)) = some h7 ∧ loadP P h7 85 (.pointer (some ⟨h.length + 1, 0, some 4⟩)) = some (.agg #[.int .i64 j'.t, .int .i64 j'.w, .int .i64 j'.r, .int .i64 j'.d]) ∧ ∀ u, K (jv j') (gc h h7 u) := by
    intro fo q j' h5 hfo he ⟨a, s, a0, a1, H⟩
    obtain ⟨h6, s6, H6, _⟩ := H.set (P := P) (L.length + 1) (n := 4) (o := fo) (ty := t_int) (w := .int .i64 q) g3 rfl e_t_int (by simp) (by simpa [encJ] using hfo) (by simp)
    rw [show (Value.int .i64 q).cells.toList = [.int .i64 q] from rfl, he] at H6
    have e6 : (cu r vc a s :: ((L ++ [.box h.length (encJ j)]) ++ [.box (h.length + 1) zJ])).set (L.length + 1) (.box h.length (encJ j')) = cu r vc a s :: ((L ++ [.box h.length (encJ j')]) ++ [.box (h.length + 1) zJ]) := by
      rw [List.set_cons_succ, List.append_assoc, List.set_append_right (h := Nat.le_refl _), Nat.sub_self, List.append_assoc]; rfl
    rw [e6] at H6
    have l6 := H6.bl (P := P) (L.length + 1) 4 g3 rfl t_impl_Job 0
    obtain ⟨h7, s7, H7, _⟩ := H6.set (P := P) (L.length + 1 + 1) (n := 4) (o := 0) (ty := t_impl_Job) (w := jv j') g4 rfl e_t_impl_Job (by simp) (by simp) (by simp)
    have e7 : (cu r vc a s :: ((L ++ [.box h.length (encJ j')]) ++ [.box (h.length + 1) zJ])).set (L.length + 1 + 1) (.box (h.length + 1) (splice zJ 0 (jv j').cells.toList)) = cu r vc a s :: ((L ++ [.box h.length (encJ j')]) ++ [.box (h.length + 1) (encJ j')]) := by
      rw [List.set_cons_succ, List.append_assoc, List.set_append_right (h := by omega), Nat.add_sub_cancel_left, List.append_assoc]; rfl
    rw [e7] at H7
    have l7 := H7.bl (P := P) (L.length + 1 + 1) 4 g4 rfl t_impl_Job 0
    refine ⟨h6, h7, s6, by rw [l6]; simp [encJ], s7, by rw [l7]; simp [encJ], fun u => onK hK ⟨j', rfl, C.gc (Cur.weak (T := [.box h.length (encJ j')] ++ [.box (h.length + 1) (encJ j')]) ⟨a, s, a0, by omega, by rw [← List.append_assoc]; exact H7⟩)⟩⟩
  simp -implicitDefEqProofs
  refine CL_post (pick_run B C1 (by omega) (k := 4) (by omega)) fun v h2 ⟨x, ev, x0, _, _, C2⟩ => ?_
  subst ev
  by_cases c0 : x = 0
  · subst c0
    simp -implicitDefEqProofs
    refine CL_post (among_run B (C2.lit [0, 50, 51, -1, 4611686018427387904]) (by omega) snoc_get (by simp) (by simp)) fun v h3 ⟨q, ev, _, C3⟩ => ?_
    subst ev
    obtain ⟨h6, h7, s6, l6, s7, l7, f⟩ := fin 0 q ⟨q, j.w, j.r, j.d⟩ h3 (by omega) rfl C3.weak
    simp -implicitDefEqProofs [s6, l6, s7, l7]
    exact f _
  · by_cases c1 : x = 1
    · subst c1
      simp -implicitDefEqProofs
      refine CL_post (among_run B (C2.lit [-1, 50, 51]) (by omega) snoc_get (by simp) (by simp)) fun v h3 ⟨q, ev, _, C3⟩ => ?_
      subst ev
      obtain ⟨h6, h7, s6, l6, s7, l7, f⟩ := fin 1 q ⟨j.t, q, j.r, j.d⟩ h3 (by omega) rfl C3.weak
      simp -implicitDefEqProofs [s6, l6, s7, l7]
      exact f _
    · by_cases c2 : x = 2
      · subst c2
        simp -implicitDefEqProofs
        refine CL_post (among_run B (C2.lit [-1, 500, 501]) (by omega) snoc_get (by simp) (by simp)) fun v h3 ⟨q, ev, _, C3⟩ => ?_
        subst ev
        obtain ⟨h6, h7, s6, l6, s7, l7, f⟩ := fin 2 q ⟨j.t, j.w, q, j.d⟩ h3 (by omega) rfl C3.weak
        simp -implicitDefEqProofs [s6, l6, s7, l7]
        exact f _
      · simp -implicitDefEqProofs [nb c0, nb c1, nb c2]
        refine CL_post (among_run B (C2.lit [-1, 500, 501, -9223372036854775808]) (by omega) snoc_get (by simp) (by simp)) fun v h3 ⟨q, ev, _, C3⟩ => ?_
        subst ev
        obtain ⟨h6, h7, s6, l6, s7, l7, f⟩ := fin 3 q ⟨j.t, j.w, j.r, q⟩ h3 (by omega) rfl C3.weak
        simp -implicitDefEqProofs [s6, l6, s7, l7]
        exact f _
end
end Go.Pm.PP

/- Draws: lists of jobs. -/
set_option linter.unusedVariables false
set_option linter.unusedSimpArgs false
set_option maxRecDepth 4000
set_option maxHeartbeats 16000000
namespace Go.Pm.PP
open Go.Pm Go.Proofs Go.Pm.PE
section
variable {h0 h : Hp} {r n : Nat} {vc : Value} {L : List Asn}
/-- Something is put at the end of a list of one's own that is drawn. -/
theorem Cur.pushJ {u : Value} {js : List Job} (C : Cur h0 h r vc n (L ++ [.own u 4 (js.map encJ)])) (j : Job) (hl : js.length ≤ 2 ^ 40) : ∃ u' h', appendP P (h ++ [some ⟨[.int .i64 j.t, .int .i64 j.w, .int .i64 j.r, .int .i64 j.d], 4, false⟩]) t_S_impl_Job u (.slice (some ⟨h.length, 0, some 4⟩) 1 1) = some (u', h') ∧ Cur h0 h' r vc n (L ++ [.own u' 4 ((js ++ [j]).map encJ)]) := by
  obtain ⟨a, s, h1, h2, H⟩ := C
  obtain ⟨u', h', g1, g2, _⟩ := push_J0 H (L.length + 1) (by rw [List.getElem?_cons_succ]; exact snoc_get) j hl
  refine ⟨u', h', g1, a, s, h1, h2, ?_⟩
  rw [List.set_cons_succ, List.set_append_right (h := Nat.le_refl _), Nat.sub_self] at g2
  exact g2
theorem Cur.seesJ {u : Value} {js : List Job} (C : Cur h0 h r vc n (L ++ [.own u 4 (js.map encJ)])) : Jobs h u js := by
  obtain ⟨a, s, h1, h2, H⟩ := C
  exact H.sees (L.length + 1) (by rw [List.getElem?_cons_succ]; exact snoc_get)
theorem Cur.putJ {u : Value} {js : List Job} (C : Cur h0 h r vc n (L ++ [.own u 4 (js.map encJ)])) {k : Nat} (hk : k < js.length) (j : Job) : ∃ h', storeP P h t_impl_Job (jv j) (.pointer (some (addP (base u) (k * 4)))) = some h' ∧ Cur h0 h' r vc n (L ++ [.own u 4 ((js.set k j).map encJ)]) := by
  obtain ⟨a, s, h1, h2, H⟩ := C
  obtain ⟨h', g1, g2, _⟩ := put_J H (L.length + 1) (by rw [List.getElem?_cons_succ]; exact snoc_get) hk j
  refine ⟨h', g1, a, s, h1, h2, ?_⟩
  rw [List.set_cons_succ, List.set_append_right (h := Nat.le_refl _), Nat.sub_self] at g2
  exact g2
theorem Cur.nil (C : Cur h0 h r vc n L) (α : Type) (enc : α → List Value) (sz : Nat) : Cur h0 h r vc n (L ++ [.own (.slice none 0 0) sz (([] : List α).map enc)]) := by
  obtain ⟨a, s, h1, h2, H⟩ := C
  exact ⟨a, s, h1, h2, H.call List.prefix_rfl (by simpa using Own.nil)⟩
theorem someJobs_run (B : By h0 vc) (C : Cur h0 h r vc n L) (hn : n ≤ 2 ^ 20) {b : Bool} {most : Nat} (hm : most ≤ 8) : RunsC P G n_spec_l1Cur_someJobs [.pointer (some ⟨r, 0, some 3⟩), .bool b, .int .i64 most] h fun v h' => ∃ js : List Job, js.length ≤ 9 ∧ Cur h0 h' r vc (n + 200) (L ++ [.own v 4 (js.map encJ)]) := by
  refine hideC fun K hK => enter_run e_spec_l1Cur_someJobs (by simp) ?_
  simp -implicitDefEqProofs
  refine CL_post (among_run B (C.lit [3, 4, 5, 2, 6, 1, 0]) (by omega) snoc_get (by simp) (by simp)) fun v h1 ⟨x, ev, hx, C1'⟩ => ?_
  subst ev
  have hx2 : 0 ≤ x ∧ x ≤ 6 := by
    simp only [List.mem_cons, List.not_mem_nil, or_false] at hx
    omega
  have C1 := C1'.weak
  obtain ⟨X, hX, hX2⟩ : ∃ X : Int, X = x ∧ 0 ≤ X ∧ X ≤ 9 := ⟨x, rfl, by omega, by omega⟩
  by_cases c : (6 : Int) < most
  case' neg =>
    rw [← hX]
    clear hX
    have C2 : Cur h0 h1 r vc (n + 6) L := C1.mono (by omega)
    obtain ⟨h2, hh2⟩ : ∃ h2, h2 = h1 := ⟨_, rfl⟩
    have c' : ¬ 6 < most := by omega
    simp -implicitDefEqProofs [c, c']
    rw [← hh2] at C2 ⊢
  case' pos =>
    clear hX hX2
    have c' : 6 < most := by omega
    simp -implicitDefEqProofs [c, c']
    refine CL_post (one_run B C1 (by omega) (k := 6) (by omega)) fun v h2 ⟨b2, ev, C1''⟩ => ?_
    subst ev
    clear X
    cases b2
    case' false =>
      obtain ⟨X, hX, hX2⟩ : ∃ X : Int, X = x ∧ 0 ≤ X ∧ X ≤ 9 := ⟨x, rfl, by omega, by omega⟩
      rw [← hX]
      clear hX
      have C2 : Cur h0 h2 r vc (n + 6) L := C1''.mono (by omega)
      simp -implicitDefEqProofs
    case' true =>
      simp -implicitDefEqProofs
      refine CL_post (pick_run B C1'' (by omega) (k := 2) (by omega)) fun v h2 ⟨y, ev, y0, _, y1, C2'⟩ => ?_
      subst ev
      have y2 := y1 (by omega)
      have w7 : IntKind.i64.wrap (7 + y) = 7 + y := by rw [wrap_ok] <;> omega
      obtain ⟨X, hX, hX2⟩ : ∃ X : Int, X = 7 + y ∧ 0 ≤ X ∧ X ≤ 9 := ⟨7 + y, rfl, by omega, by omega⟩
      have C2 : Cur h0 h2 r vc (n + 6) L := C2'.mono (by omega)
      simp -implicitDefEqProofs [w7]
      rw [← hX]
  all_goals
    refine R_loopO (fun m st h' => ∃ (js : List Job) (u : Value), st = [(0, .pointer (some ⟨r, 0, some 3⟩)), (1, .bool b), (2, .int .i64 most), (7, u), (8, .int .i64 m)] ∧ js.length + m ≤ 9 ∧ Cur h0 h' r vc (n + 6 + 8 * js.length) (L ++ [.own u 4 (js.map encJ)])) (fun I hI m st h' => ?_) (n := X.toNat) ⟨[], .slice none 0 0, by simp; omega, by simp; omega, C2.nil Job encJ 4⟩
    rintro ⟨js, u, rfl, hj, C3⟩
    obtain ⟨ua, uc, rfl⟩ : ∃ a c, u = .slice a js.length c := C3.seesJ.shapeT
    by_cases c1 : 0 < m
    case' pos =>
      by_cases c2 : js.length < most
      case pos =>
        have w1 : IntKind.i64.wrap ((m : Int) - 1) = ((m - 1 : Nat) : Int) := by rw [wrap_ok] <;> omega
        have c1' : (0 : Int) < m := by omega
        have c2' : (js.length : Int) < most := by omega
        simp -implicitDefEqProofs [c1, c1', c2, c2']
        refine CL_post (job_run B C3 (by omega) (b := b)) fun v h4 ⟨j, ev, C4⟩ => ?_
        subst ev
        obtain ⟨u', h5, ha, C5⟩ := C4.pushJ j (by omega)
        simp -implicitDefEqProofs [ha, w1]
        exact ⟨m - 1, by omega, on hI ⟨js ++ [j], u', rfl, by simp; omega, by
          have e : n + 6 + 8 * (js ++ [j]).length = n + 6 + 8 * js.length + 8 := by simp; omega
          rw [e]; exact C5⟩⟩
      case' neg =>
        have c1' : (0 : Int) < m := by omega
        have c2' : ¬ (js.length : Int) < most := by omega
        simp -implicitDefEqProofs [c1, c1', c2, c2']
    case' neg =>
      have c1' : ¬ (0 : Int) < m := by omega
      simp -implicitDefEqProofs [c1, c1']
    all_goals
      by_cases c3 : 0 < js.length
      case' neg =>
        have c3' : ¬ (0 : Int) < js.length := by omega
        have C5 : Cur h0 h' r vc (n + 86) (L ++ [.own (.slice ua js.length uc) 4 (js.map encJ)]) := C3.mono (by omega)
        have hl5 : js.length ≤ 9 := by omega
        simp -implicitDefEqProofs [c3, c3']
      case' pos =>
        have c3' : (0 : Int) < js.length := by omega
        simp -implicitDefEqProofs [c3, c3']
        refine CL_post (one_run B C3 (by omega) (k := 20) (by omega)) fun v h4 ⟨b3, ev, C4⟩ => ?_
        subst ev
        cases b3
        case' false =>
          have C5 : Cur h0 h4 r vc (n + 86) (L ++ [.own (.slice ua js.length uc) 4 (js.map encJ)]) := C4.mono (by omega)
          have hl5 : js.length ≤ 9 := by omega
          simp -implicitDefEqProofs
        case' true =>
          simp -implicitDefEqProofs
          refine CL_post (pick_run B C4 (by omega) (k := js.length) (by omega)) fun v h5 ⟨q, ev, q0, _, q1, C5'⟩ => ?_
          subst ev
          obtain ⟨k, rfl⟩ : ∃ k : Nat, q = k := ⟨q.toNat, by omega⟩
          have hk : k < js.length := by have := q1 (by omega); omega
          obtain ⟨y, hy, _⟩ := drop_at hk
          have ly := load_J C5'.seesJ hy
          simp -implicitDefEqProofs [-indexAddrP_some, ly]
          refine CL_post (spoiltJob_run B C5' (by omega) (j := y)) fun v h6 ⟨j', ev, C6'⟩ => ?_
          subst ev
          have ix := (load_J C6'.seesJ hy).1
          obtain ⟨h7, s7, C7⟩ := C6'.putJ hk j'
          have C5 : Cur h0 h7 r vc (n + 86) (L ++ [.own (.slice ua js.length uc) 4 ((js.set k j').map encJ)]) := C7.mono (by omega)
          have hl5 : (js.set k j').length ≤ 9 := by rw [List.length_set]; omega
          simp -implicitDefEqProofs [-indexAddrP_some, ix, s7]
      all_goals
        refine CL_post (one_run B C5 (by omega) (k := 60) (by omega)) fun v h8 ⟨b4, ev, C8⟩ => ?_
        subst ev
        cases b4
        case false =>
          simp -implicitDefEqProofs
          exact onK hK ⟨_, hl5, C.gcO (C8.mono (by omega)) (fun h => h)⟩
        case true =>
          simp -implicitDefEqProofs
          refine R_loopO (fun m st h' => ∃ (js : List Job) (u : Value), st = [(0, .pointer (some ⟨r, 0, some 3⟩)), (1, .bool b), (7, u)] ∧ js.length + m = 9 ∧ Cur h0 h' r vc (n + 88 + 8 * js.length) (L ++ [.own u 4 (js.map encJ)])) (fun I2 hI2 m2 st h' => ?_) (n := 9 - js.length) ⟨_, _, by simp, ?_, C8.mono (by omega)⟩
          · rintro ⟨js2, u2, rfl, hj2, C9⟩
            obtain ⟨ub, ud, rfl⟩ : ∃ a c, u2 = .slice a js2.length c := C9.seesJ.shapeT
            by_cases c9 : js2.length < 9
            · have c9' : (js2.length : Int) < 9 := by omega
              simp -implicitDefEqProofs [c9, c9']
              refine CL_post (job_run B C9 (by omega) (b := b)) fun v h10 ⟨j, ev, C10⟩ => ?_
              subst ev
              obtain ⟨u', h11, ha, C11⟩ := C10.pushJ j (by omega)
              simp -implicitDefEqProofs [ha]
              exact ⟨m2 - 1, by omega, on hI2 ⟨js2 ++ [j], u', rfl, by simp; omega, by
                have e : n + 88 + 8 * (js2 ++ [j]).length = n + 88 + 8 * js2.length + 8 := by simp; omega
                rw [e]; exact C11⟩⟩
            · have c9' : ¬ (js2.length : Int) < 9 := by omega
              simp -implicitDefEqProofs [c9, c9']
              exact onK hK ⟨js2, by omega, C.gcO (C9.mono (by omega)) (fun h => h)⟩
          · first | omega | (rw [List.length_set]; omega)
end
end Go.Pm.PP

/- Draws: orders; the draw of jobs, an order and an objective. -/
set_option linter.unusedVariables false
set_option linter.unusedSimpArgs false
set_option maxRecDepth 4000
set_option maxHeartbeats 16000000
namespace Go.Pm.PP
open Go.Pm Go.Proofs Go.Pm.PE
theorem newOk_of {h h' : Hp} (hp : h <+: h') (n : NR h.length h') : newOk h h' := by
  refine ⟨hp, ?_⟩
  rw [List.all_eq_true]
  intro x hx
  cases x with
  | none => rfl
  | some x =>
    obtain ⟨k, hk⟩ := List.getElem?_of_mem hx
    rw [List.getElem?_drop] at hk
    simp [n.2 _ x (by omega) hk]
section
variable {h0 h : Hp} {r n : Nat} {vc : Value} {L : List Asn}
theorem Cur.seesI {u : Value} {xs : List Int} (C : Cur h0 h r vc n (L ++ [.own u 1 (xs.map encI)])) : Ints h u xs := by
  obtain ⟨a, s, h1, h2, H⟩ := C
  exact H.sees (L.length + 1) (by rw [List.getElem?_cons_succ]; exact snoc_get)
theorem Cur.join {h1 : Hp} {A : Asn} (C : Cur h0 h r vc n L) (D : Holds h h1 [A]) : Cur h0 h1 r vc n (L ++ [A]) := by
  obtain ⟨a, s, g1, g2, H⟩ := C
  exact ⟨a, s, g1, g2, H.join D⟩
theorem Cur.swapW {A B : Asn} (C : Cur h0 h r vc n ((L ++ [A]) ++ [B])) : Cur h0 h r vc n (L ++ [B]) := by
  obtain ⟨a, s, g1, g2, H⟩ := C
  refine ⟨a, s, g1, g2, ?_⟩
  have : Holds h0 h (((cu r vc a s :: L) ++ [A]) ++ [B]) := H
  exact this.cut
end
end Go.Pm.PP

/- Values, best orders and exchanges, as the programs export them. -/
set_option linter.unusedVariables false
set_option linter.unusedSimpArgs false
set_option maxRecDepth 4000
set_option maxHeartbeats 8000000
namespace Go.Pm.PP
open Go.Pm Go.Proofs Go.Pm.PE
/-! ### bounds -/
theorem endGo_bd {js : List Job} (hg : goodL js = true) : ∀ {xs : List Int} {now : Int} {E : List Int} {k : Nat}, inN js.length xs → 0 ≤ now → now ≤ 550 * k → (∀ e, e ∈ E → 0 ≤ e ∧ e ≤ 550 * (k + xs.length : Nat)) → ∀ e, e ∈ endGo js xs now E → 0 ≤ e ∧ e ≤ 550 * (k + xs.length : Nat)
  | [], now, E, k, _, _, _, hE, e, he => hE e he
  | x :: r, now, E, k, hin, h0, h1, hE, e, he => by
    obtain ⟨i, hi, hil, hy⟩ := jA_get rfl (hin x (List.mem_cons_self ..))
    have jb := job_of (job_at hg hy)
    rw [endGo] at he
    have := endGo_bd hg (xs := r) (now := max now (jA js x).r + (jA js x).t) (k := k + 1) (fun y hy => hin y (List.mem_cons_of_mem _ hy)) (by omega) (by omega) (fun e he => by
      rcases List.mem_or_eq_of_mem_set he with g | g
      · have := hE e g
        simp only [List.length_cons] at this
        omega
      · omega) e he
    simp only [List.length_cons]
    omega
def jOk (js : List Job) : Bool := decide (js.length ≤ 8) && goodL js
theorem jOk_of {js : List Job} (h : jOk js = true) : js.length ≤ 8 ∧ goodL js = true := by
  rw [jOk, Bool.and_eq_true, decide_eq_true_eq] at h; exact h
section
variable {h : Hp} {v u : Value} {js : List Job} {xs : List Int} {o : Int}
theorem good_run (hj : Jobs h v js) (hl : js.length ≤ 2 ^ 40) : Ret P G n_spec_l2Good [v] h (.bool (jOk js)) h := l2Good_run hj hl
theorem isJobs_run (hj : Jobs h v js) (hl : js.length ≤ 2 ^ 40) : Ret P G n_impl_IsJobs [v] h (.bool (jOk js)) h := IsJobs_run hj hl
end
end Go.Pm.PP

/- Best values, counts, and exchanges of neighbours, as the programs export them. -/
set_option linter.unusedVariables false
set_option linter.unusedSimpArgs false
set_option maxRecDepth 4000
set_option maxHeartbeats 8000000
namespace Go.Pm.PP
open Go.Pm Go.Proofs Go.Pm.PE
section
variable {h : Hp} {v u : Value} {js : List Job} {xs ys : List Int} {o : Int}
theorem rBig_run {bs : List Int} (hb : Sees h v 1 (bs.map encU)) : Ret P G n_laws_rBig [v] h (.bool (decide ((65536 : Int) < bs.length))) h := by
  refine enter_run e_laws_rBig (by simp) ?_
  obtain ⟨oa, ca, rfl⟩ := hb.shapeT
  simp -implicitDefEqProofs
  try omega
theorem rInts_run (hv : Ints h v xs) (hu : Ints h u xs) (hx : xs.length ≤ 2 ^ 40) : Ret P G n_laws_rInts [v, u] h (.bool true) h := by
  refine enter_run e_laws_rInts (by simp) ?_
  have hvs := hv
  have hus := hu
  obtain ⟨oa, ca, rfl⟩ := hv.shapeT
  obtain ⟨ob, cb, rfl⟩ := hu.shapeT
  simp -implicitDefEqProofs
  refine R_loopO (fun m s h' => ∃ i : Nat, i + m = xs.length ∧ s = [(0, .slice oa xs.length ca), (1, .slice ob xs.length cb), (5, .int .i64 i)] ∧ h' = h) (fun I hI m s h' => ?_) (n := xs.length) ⟨0, Nat.zero_add _, by simp, rfl⟩
  rintro ⟨i, hi, rfl, rfl⟩
  by_cases hlt : i < xs.length
  · obtain ⟨y, hy, _⟩ := drop_at hlt
    simp -implicitDefEqProofs [-indexAddrP_some, hlt, load_I hvs hy, load_I hus hy, winc hlt hx]
    exact ⟨m - 1, by omega, on hI ⟨i + 1, by omega, rfl, rfl⟩⟩
  · simp -implicitDefEqProofs [hlt]
/-! ### exchanges -/
end
end Go.Pm.PP
