/- The texts PqA, PlJ, PwA, PwB, PwG, PwV, PwN, PwW, PwX, PwY, Pw1, Pw2, Pw3, Pw4, Pw5, Pw6, Pw7, Pw8, Pw9, Ps1, Ps2, Ps3, Ps4, Ps5, Ps6, Ps7, Ps8 of this work: Orders of a list, one after the other, in plain terms: the next order of the program is the next one of the reference's list. -/
import Derived.Test.YtjjjalkfpajckaaM3
import Derived.Test.YtjjjalkfpajckaaF5
import Derived.Test.YtjjjalkfpajckaaM4
/- Orders of a list, one after the other, in plain terms: the next order of the program is the next one of the reference's list. -/
set_option linter.unusedVariables false
set_option linter.unusedSimpArgs false
namespace Go.Pm.PE
/-- All orders, by the first element. -/
def perms : List Int → Nat → List (List Int)
  | _, 0 => [[]]
  | l, n + 1 => (List.range' 0 l.length).flatMap fun i => (perms (l.eraseIdx i) n).map ((l[i]?.getD 0) :: ·)
theorem flat_get {α β : Type} {f : α → List β} : ∀ {l : List α} {i j : Nat} {x : α} {y : β}, l[i]? = some x → (f x)[j]? = some y → ∃ k, (l.flatMap f)[k]? = some y ∧ ((l.flatMap f)[k + 1]? = match (f x)[j + 1]? with | some z => some z | none => ((l.drop (i + 1)).flatMap f)[0]?)
  | a :: l, 0, j, x, y, h1, h2 => by
    simp at h1; subst h1
    refine ⟨j, ?_, ?_⟩
    · rw [List.flatMap_cons, List.getElem?_append_left (List.getElem?_eq_some_iff.1 h2).1]; exact h2
    · rw [List.flatMap_cons]
      have hj := (List.getElem?_eq_some_iff.1 h2).1
      cases h3 : (f a)[j + 1]? with
      | some z => rw [List.getElem?_append_left (List.getElem?_eq_some_iff.1 h3).1]; exact h3
      | none =>
        have h4 := List.getElem?_eq_none_iff.1 h3
        rw [List.getElem?_append_right h4, show j + 1 - (f a).length = 0 by omega]
        rfl
  | a :: l, i + 1, j, x, y, h1, h2 => by
    obtain ⟨k, h3, h4⟩ := @flat_get α β f l i j x y (by simpa using h1) h2
    refine ⟨(f a).length + k, ?_, ?_⟩
    · rw [List.flatMap_cons, List.getElem?_append_right (by omega), Nat.add_sub_cancel_left]; exact h3
    · rw [List.flatMap_cons, List.getElem?_append_right (by omega), show (f a).length + k + 1 - (f a).length = k + 1 by omega, h4, List.drop_succ_cons]
end Go.Pm.PE

/- Jobs, ends and values of objectives, in plain terms; searches through all orders. -/
set_option linter.unusedVariables false
set_option linter.unusedSimpArgs false
namespace Go.Pm.PP
open Go.Pm Go.Pm.PE
structure Job where
  t : Int
  w : Int
  r : Int
  d : Int
def jA (js : List Job) (x : Int) : Job := (js[x.toNat]?).getD ⟨0, 0, 0, 0⟩
def gE (l : List Int) (i : Nat) : Int := (l[i]?).getD 0
theorem gE_set {l : List Int} {j i : Nat} {x : Int} (h : j < l.length) : gE (l.set j x) i = if i = j then x else gE l i := by
  unfold gE
  rw [List.getElem?_set]
  by_cases e : j = i
  · subst e; simp [h]
  · rw [if_neg e, if_neg fun g => e g.symm]
theorem gE_get {l : List Int} {i : Nat} (h : i < l.length) : l[i]? = some (gE l i) := by simp [gE, List.getElem?_eq_getElem h]
def endGo (js : List Job) : List Int → Int → List Int → List Int
  | [], _, E => E
  | x :: r, now, E => endGo js r (max now (jA js x).r + (jA js x).t) (E.set x.toNat (max now (jA js x).r + (jA js x).t))
def stGo (js : List Job) : List Int → Int → List Int → List Int
  | [], _, S => S
  | x :: r, now, S => stGo js r (max now (jA js x).r + (jA js x).t) (S.set x.toNat (max now (jA js x).r))
def endsL (js : List Job) (xs : List Int) : List Int := endGo js xs 0 (List.replicate js.length 0)
def stL (js : List Job) (xs : List Int) : List Int := stGo js xs 0 (List.replicate js.length 0)
theorem endGo_len {js : List Job} : ∀ {xs : List Int} {now : Int} {E : List Int}, (endGo js xs now E).length = E.length
  | [], _, _ => rfl
  | x :: r, now, E => by rw [endGo, endGo_len, List.length_set]
theorem stGo_len {js : List Job} : ∀ {xs : List Int} {now : Int} {E : List Int}, (stGo js xs now E).length = E.length
  | [], _, _ => rfl
  | x :: r, now, E => by rw [stGo, stGo_len, List.length_set]
theorem endsL_len {js : List Job} {xs : List Int} : (endsL js xs).length = js.length := by rw [endsL, endGo_len, List.length_replicate]
theorem stL_len {js : List Job} {xs : List Int} : (stL js xs).length = js.length := by rw [stL, stGo_len, List.length_replicate]
def inN (n : Nat) (xs : List Int) : Prop := ∀ x, x ∈ xs → 0 ≤ x ∧ x < n
theorem st_out {js : List Job} {n i : Nat} : ∀ {xs : List Int} {now : Int} {S : List Int}, S.length = n → inN n xs → (i : Int) ∉ xs → gE (stGo js xs now S) i = gE S i
  | [], _, _, _, _, _ => rfl
  | x :: r, now, S, hS, hin, hi => by
    have hx := hin x (List.mem_cons_self ..)
    rw [stGo, st_out (by rw [List.length_set]; exact hS) (fun y hy => hin y (List.mem_cons_of_mem _ hy)) (fun g => hi (List.mem_cons_of_mem _ g)), gE_set (by omega), if_neg]
    intro e
    exact hi (by rw [e, show ((x.toNat : Nat) : Int) = x by omega]; exact List.mem_cons_self ..)
theorem end_st {js : List Job} {n i : Nat} (hi : i < n) : ∀ {xs : List Int} {now : Int} {E S : List Int}, E.length = n → S.length = n → inN n xs → xs.Nodup →
    gE (endGo js xs now E) i = if (i : Int) ∈ xs then gE (stGo js xs now S) i + (jA js i).t else gE E i
  | [], _, _, _, _, _, _, _ => by simp [endGo]
  | x :: r, now, E, S, hE, hS, hin, hnd => by
    have hx := hin x (List.mem_cons_self ..)
    have hnd := List.nodup_cons.1 hnd
    have hin' : inN n r := fun y hy => hin y (List.mem_cons_of_mem _ hy)
    rw [endGo, stGo, end_st hi (S := S.set x.toNat (max now (jA js x).r)) (by rw [List.length_set]; exact hE) (by rw [List.length_set]; exact hS) hin' hnd.2]
    by_cases h1 : (i : Int) ∈ r
    · rw [if_pos h1, if_pos (List.mem_cons_of_mem _ h1)]
    · rw [if_neg h1, gE_set (by omega)]
      by_cases h2 : (i : Int) = x
      · subst h2
        rw [if_pos (by omega), if_pos (List.mem_cons_self ..), st_out (by rw [List.length_set]; exact hS) hin' h1, gE_set (by omega), if_pos (by omega)]
      · rw [if_neg (by omega), if_neg (fun g => by rcases List.mem_cons.1 g with g | g; exact h2 g; exact h1 g)]
/-- Starts and times are ends. -/
theorem ends_eq {js : List Job} {xs : List Int} (hin : inN js.length xs) (hnd : xs.Nodup) (hall : ∀ i : Nat, i < js.length → (i : Int) ∈ xs) {i : Nat} (hi : i < js.length) : gE (endsL js xs) i = gE (stL js xs) i + (jA js i).t := by
  unfold endsL stL
  rw [end_st hi (S := List.replicate js.length 0) (by simp) (by simp) hin hnd, if_pos (hall i hi)]
/-! ### values -/
def costV (o : Int) (j : Job) (e : Int) : Int := if o = 2 then e else if o = 3 then j.w * e else if o = 5 then max (e - j.d) 0 else if o = 6 then j.w * max (e - j.d) 0 else if max (e - j.d) 0 = 0 then 0 else if o = 7 then 1 else j.w
def stepV (o : Int) (first : Bool) (acc : Int) (j : Job) (e : Int) : Int := if o = 1 then max acc e else if o = 4 then (if first = true then e - j.d else max acc (e - j.d)) else acc + costV o j e
def valGo (o : Int) : Bool → Int → List Job → List Int → Int
  | f, acc, j :: js, e :: es => valGo o false (stepV o f acc j e) js es
  | _, acc, _, _ => acc
def valE (o : Int) (js : List Job) (es : List Int) : Int := valGo o true 0 js es
/-! ### searches -/
def rem (n : Nat) (begun : List Int) : List Int := ((List.range' 0 n).map fun i : Nat => (i : Int)).filter fun x => !begun.any (· == x)
end Go.Pm.PP

/- Jobs, scenarios: what stands in slices. -/
set_option linter.unusedVariables false
set_option linter.unusedSimpArgs false
set_option maxRecDepth 4000
set_option maxHeartbeats 4000000
namespace Go.Pm.PP
open Go.Pm Go.Proofs
attribute [simp] evParts buildSliceP fillP buildP places reps
def encJ (j : Job) : List Value := [.int .i64 j.t, .int .i64 j.w, .int .i64 j.r, .int .i64 j.d]
abbrev jv (j : Job) : Value := .agg #[.int .i64 j.t, .int .i64 j.w, .int .i64 j.r, .int .i64 j.d]
abbrev Jobs (h : Hp) (v : Value) (js : List Job) : Prop := Sees h v 4 (js.map encJ)
def w64 (n : Int) : Int := IntKind.i64.wrap n
abbrev nilV : Value := .slice none 0 0
end Go.Pm.PP

/- Typed rules for slices: printed by a program of this work (wrap.py). -/
set_option linter.unusedVariables false
set_option linter.unusedSimpArgs false
set_option maxRecDepth 4000
namespace Go.Pm.PP
open Go.Pm Go.Proofs
theorem load_I {h : Hp} {v : Value} {xs : List (Int)} {i : Nat} {x : Int} (hv : Sees h v 1 (xs.map encI)) (hx : xs[i]? = some x) :
    indexAddrP P h t_S_int v (.int .i64 i) = some (.pointer (some (addP (base v) (i)))) ∧ loadP P h t_int (.pointer (some (addP (base v) (i)))) = some (.int .i64 x) := by
  have hi := (List.getElem?_eq_some_iff.1 hx).1
  have h1 := hv.indexT (P := P) u_S_int i_int (k := .i64) (j := i) (by omega) (by omega)
  rw [Int.toNat_natCast] at h1
  have h2 := hv.cellT (P := P) (ty := t_int) a_int i_int hx (k := 0) (by omega)
  exact ⟨by simpa using h1, by simpa [encI] using h2⟩
theorem len_I (xs : List (Int)) : ∀ e ∈ xs.map encI, e.length = 1 := by
  intro e he
  obtain ⟨x, _, rfl⟩ := List.mem_map.1 he
  rfl
theorem ones_I (xs : List (Int)) : (xs.map encI).flatten.all one = true := by
  induction xs with
  | nil => rfl
  | cons x xs ih => rw [List.map_cons, List.flatten_cons, List.all_append, ih]; rfl
theorem push_I0 {h0 h : Hp} {L : List Asn} (H : Holds h0 h L) (i : Nat) {v : Value} {xs : List (Int)} (hi : L[i]? = some (.own v 1 (xs.map encI))) (x : Int) (hn : xs.length ≤ 2 ^ 40) :
    ∃ v' h', appendP P (h ++ [some ⟨[.int .i64 x], 1, false⟩]) t_S_int v (.slice (some ⟨h.length, 0, some 1⟩) 1 1) = some (v', h') ∧ Holds h0 h' (L.set i (.own v' 1 ((xs ++ [x]).map encI))) ∧ Keeps (rowV v) h h' ∧ (rowV v = none → newOk (h ++ [some ⟨[.int .i64 x], 1, false⟩]) h') := by
  obtain ⟨v', h', g1, g2, g3, g4⟩ := (H.ext (List.prefix_append h [])).push (P := P) i (y := encI x) (n := 1) hi u_S_int e_t_int z_t_int s_t_int (by omega) (by rw [b_t_int]; omega) rfl rfl (by simp [encI]) (by rw [b_t_int]; simp; omega)
  rw [show xs.map encI ++ [encI x] = (xs ++ [x]).map encI by simp] at g2
  exact ⟨v', h', by simpa [encI] using g1, g2, Keeps.app.trans g3, by simpa [encI] using g4⟩
theorem app_I {h0 h : Hp} {L : List Asn} (H : Holds h0 h L) (i : Nat) {v u : Value} {xs ys : List (Int)} (hi : L[i]? = some (.own v 1 (xs.map encI))) (s : Sees h u 1 (ys.map encI)) (hn : xs.length + ys.length ≤ 2 ^ 40) :
    ∃ v' h', appendP P h t_S_int v u = some (v', h') ∧ Holds h0 h' (L.set i (.own v' 1 ((xs ++ ys).map encI))) ∧ Keeps (rowV v) h h' := by
  obtain ⟨v', h', g1, g2, g3⟩ := H.app (P := P) i hi u_S_int e_t_int z_t_int s_t_int (by omega) (by rw [b_t_int]; omega) s (ones_I ys) (by rw [b_t_int]; simp; omega)
  rw [← List.map_append] at g2
  exact ⟨v', h', g1, g2, g3⟩
theorem put_I {h0 h : Hp} {L : List Asn} (H : Holds h0 h L) (i : Nat) {v : Value} {xs : List (Int)} (hi : L[i]? = some (.own v 1 (xs.map encI))) {j : Nat} (hj : j < xs.length) (x : Int) :
    ∃ h', storeP P h t_int (.int .i64 x) (.pointer (some (addP (base v) (j)))) = some h' ∧ Holds h0 h' (L.set i (.own v 1 ((xs.set j x).map encI))) ∧ Keeps (rowV v) h h' := by
  have := H.put (P := P) i (t := t_int) (w := .int .i64 x) (j := j) hi i_int (by simpa using hj) rfl (by simp)
  simpa [List.map_set, encI] using this
theorem make_I {h0 h : Hp} {L : List Asn} (H : Holds h0 h L) {n : Nat} (hn : n ≤ 2 ^ 40) :
    ∃ v h', makeP P h t_S_int (.int .i64 n) (.int .i64 n) = some (v, h') ∧ Holds h0 h' (L ++ [.own v 1 ((List.replicate n (0 : Int)).map encI)]) ∧ h <+: h' ∧ (∃ oa, v = .slice oa n n) := by
  have mk := make_eq (h := h) u_S_int e_t_int z_t_int rfl (by rw [s_t_int]; omega) (by rw [b_t_int]; omega) (n := n) (by omega) (by rw [b_t_int]; omega)
  rw [s_t_int] at mk
  simp only [Value.cells] at mk
  have hlz : ∀ e ∈ List.replicate n ([.int .i64 0] : List Value), e.length = 1 := fun e he => by rw [List.eq_of_mem_replicate he]; rfl
  refine ⟨_, _, mk, ?_, List.prefix_append .., _, rfl⟩
  have := H.lit (els := List.replicate n ([.int .i64 0] : List Value)) (sz := 1) (n := n * 1) hlz (by simp)
  simpa [encI] using this
theorem load_J {h : Hp} {v : Value} {xs : List (Job)} {i : Nat} {x : Job} (hv : Sees h v 4 (xs.map encJ)) (hx : xs[i]? = some x) :
    indexAddrP P h t_S_impl_Job v (.int .i64 i) = some (.pointer (some (addP (base v) (i * 4)))) ∧ loadP P h t_impl_Job (.pointer (some (addP (base v) (i * 4)))) = some (.agg #[.int .i64 x.t, .int .i64 x.w, .int .i64 x.r, .int .i64 x.d]) ∧
    loadP P h t_int (.pointer (some (addP (addP (base v) (i * 4)) 0))) = some (.int .i64 x.t) ∧
    loadP P h t_int (.pointer (some (addP (addP (base v) (i * 4)) 1))) = some (.int .i64 x.w) ∧
    loadP P h t_int (.pointer (some (addP (addP (base v) (i * 4)) 2))) = some (.int .i64 x.r) ∧
    loadP P h t_int (.pointer (some (addP (addP (base v) (i * 4)) 3))) = some (.int .i64 x.d) := by
  have hi := (List.getElem?_eq_some_iff.1 hx).1
  have h1 := hv.indexT (P := P) u_S_impl_Job i_impl_Job (k := .i64) (j := i) (by omega) (by omega)
  rw [Int.toNat_natCast] at h1
  have fld : ∀ k, k < 4 → loadP P h t_int (.pointer (some (addP (addP (base v) (i * 4)) k))) = (encJ x)[k]? := by
    intro k hk
    have := hv.cellT (P := P) a_int i_int hx hk
    rw [← this]
    simp only [addP, Nat.add_assoc]
  exact ⟨h1, hv.aggT a_impl_Job i_impl_Job hx, fld 0 (by omega), fld 1 (by omega), fld 2 (by omega), fld 3 (by omega)⟩
theorem push_J0 {h0 h : Hp} {L : List Asn} (H : Holds h0 h L) (i : Nat) {v : Value} {xs : List (Job)} (hi : L[i]? = some (.own v 4 (xs.map encJ))) (x : Job) (hn : xs.length ≤ 2 ^ 40) :
    ∃ v' h', appendP P (h ++ [some ⟨[.int .i64 x.t, .int .i64 x.w, .int .i64 x.r, .int .i64 x.d], 4, false⟩]) t_S_impl_Job v (.slice (some ⟨h.length, 0, some 4⟩) 1 1) = some (v', h') ∧ Holds h0 h' (L.set i (.own v' 4 ((xs ++ [x]).map encJ))) ∧ Keeps (rowV v) h h' ∧ (rowV v = none → newOk (h ++ [some ⟨[.int .i64 x.t, .int .i64 x.w, .int .i64 x.r, .int .i64 x.d], 4, false⟩]) h') := by
  obtain ⟨v', h', g1, g2, g3, g4⟩ := (H.ext (List.prefix_append h [])).push (P := P) i (y := encJ x) (n := 4) hi u_S_impl_Job e_t_impl_Job z_t_impl_Job s_t_impl_Job (by omega) (by rw [b_t_impl_Job]; omega) rfl rfl (by simp [encJ]) (by rw [b_t_impl_Job]; simp; omega)
  rw [show xs.map encJ ++ [encJ x] = (xs ++ [x]).map encJ by simp] at g2
  exact ⟨v', h', by simpa [encJ] using g1, g2, Keeps.app.trans g3, by simpa [encJ] using g4⟩
theorem put_J {h0 h : Hp} {L : List Asn} (H : Holds h0 h L) (i : Nat) {v : Value} {xs : List (Job)} (hi : L[i]? = some (.own v 4 (xs.map encJ))) {j : Nat} (hj : j < xs.length) (x : Job) :
    ∃ h', storeP P h t_impl_Job (.agg #[.int .i64 x.t, .int .i64 x.w, .int .i64 x.r, .int .i64 x.d]) (.pointer (some (addP (base v) (j * 4)))) = some h' ∧ Holds h0 h' (L.set i (.own v 4 ((xs.set j x).map encJ))) ∧ Keeps (rowV v) h h' := by
  have := H.put (P := P) i (t := t_impl_Job) (w := .agg #[.int .i64 x.t, .int .i64 x.w, .int .i64 x.r, .int .i64 x.d]) (j := j) hi i_impl_Job (by simpa using hj) rfl (by simp)
  simpa [List.map_set, encJ] using this
theorem fput_J0 {h0 h : Hp} {L : List Asn} (H : Holds h0 h L) (i : Nat) {v : Value} {xs : List (Job)} (hi : L[i]? = some (.own v 4 (xs.map encJ))) {j : Nat} {y : Job} (hy : xs[j]? = some y) (z : Int) :
    ∃ h', storeP P h t_int (.int .i64 z) (.pointer (some (addP (addP (base v) (j * 4)) 0))) = some h' ∧ Holds h0 h' (L.set i (.own v 4 ((xs.set j ({ y with t := z })).map encJ))) ∧ Keeps (rowV v) h h' := by
  have := H.store (P := P) i hi (t := t_int) (w := .int .i64 z) (j := j) (e := encJ y) (l := []) (m := [.int .i64 y.t]) (c := [.int .i64 y.w, .int .i64 y.r, .int .i64 y.d]) e_t_int (by simp [hy]) rfl (by simp) (by simp) (by simp)
  simpa [List.map_set, encJ, addP, Nat.add_assoc] using this
theorem fput_J2 {h0 h : Hp} {L : List Asn} (H : Holds h0 h L) (i : Nat) {v : Value} {xs : List (Job)} (hi : L[i]? = some (.own v 4 (xs.map encJ))) {j : Nat} {y : Job} (hy : xs[j]? = some y) (z : Int) :
    ∃ h', storeP P h t_int (.int .i64 z) (.pointer (some (addP (addP (base v) (j * 4)) 2))) = some h' ∧ Holds h0 h' (L.set i (.own v 4 ((xs.set j ({ y with r := z })).map encJ))) ∧ Keeps (rowV v) h h' := by
  have := H.store (P := P) i hi (t := t_int) (w := .int .i64 z) (j := j) (e := encJ y) (l := [.int .i64 y.t, .int .i64 y.w]) (m := [.int .i64 y.r]) (c := [.int .i64 y.d]) e_t_int (by simp [hy]) rfl (by simp) (by simp) (by simp)
  simpa [List.map_set, encJ, addP, Nat.add_assoc] using this
theorem fput_J3 {h0 h : Hp} {L : List Asn} (H : Holds h0 h L) (i : Nat) {v : Value} {xs : List (Job)} (hi : L[i]? = some (.own v 4 (xs.map encJ))) {j : Nat} {y : Job} (hy : xs[j]? = some y) (z : Int) :
    ∃ h', storeP P h t_int (.int .i64 z) (.pointer (some (addP (addP (base v) (j * 4)) 3))) = some h' ∧ Holds h0 h' (L.set i (.own v 4 ((xs.set j ({ y with d := z })).map encJ))) ∧ Keeps (rowV v) h h' := by
  have := H.store (P := P) i hi (t := t_int) (w := .int .i64 z) (j := j) (e := encJ y) (l := [.int .i64 y.t, .int .i64 y.w, .int .i64 y.r]) (m := [.int .i64 y.d]) (c := []) e_t_int (by simp [hy]) rfl (by simp) (by simp) (by simp)
  simpa [List.map_set, encJ, addP, Nat.add_assoc] using this
end Go.Pm.PP

/- What is asked of jobs and orders; numbers in lists. -/
set_option linter.unusedVariables false
set_option linter.unusedSimpArgs false
set_option maxRecDepth 4000
set_option maxHeartbeats 4000000
namespace Go.Pm.PP
open Go.Pm Go.Proofs
def inB (x a b : Int) : Bool := decide (a ≤ x) && decide (x ≤ b)
def hasL (x : Int) (xs : List Int) : Bool := xs.any (· == x)
theorem l1In_run {h : Hp} {x a b : Int} : Ret P G n_spec_l1In [.int .i64 x, .int .i64 a, .int .i64 b] h (.bool (inB x a b)) h := by
  refine enter_run e_spec_l1In (by simp) ?_
  simp -implicitDefEqProofs
  refine WL_split (fun h => ?_) (fun h => ?_) <;> simp [h, inB]
theorem within_run {h : Hp} {x a b : Int} : Ret P G n_impl_within [.int .i64 x, .int .i64 a, .int .i64 b] h (.bool (inB x a b)) h := by
  refine enter_run e_impl_within (by simp) ?_
  simp -implicitDefEqProofs
  refine WL_split (fun h => ?_) (fun h => ?_) <;> simp [h, inB]
theorem isNumber_run {h : Hp} {i n : Int} : Ret P G n_impl_isNumber [.int .i64 i, .int .i64 n] h (.bool (inB i 0 (w64 (n - 1)))) h := by
  refine enter_run e_impl_isNumber (by simp) ?_
  simp -implicitDefEqProofs [CL_ret within_run, w64]
theorem l1Most_run {h : Hp} {a b : Int} : Ret P G n_spec_l1Most [.int .i64 a, .int .i64 b] h (.int .i64 (max a b)) h := by
  refine enter_run e_spec_l1Most (by simp) ?_
  simp -implicitDefEqProofs
  refine CB_split (fun h => ?_) (fun h => ?_) <;> simp at h <;> simp [h] <;> omega
theorem hasL_cons {x y : Int} {xs : List Int} : hasL x (y :: xs) = ((y == x) || hasL x xs) := rfl
theorem hasL_nil {x : Int} : hasL x [] = false := rfl
theorem l1Has_run {h : Hp} {v : Value} {xs : List Int} {x : Int} (hv : Ints h v xs) (hn : xs.length ≤ 2 ^ 40) :
    Ret P G n_spec_l1Has [v, .int .i64 x] h (.bool (hasL x xs)) h := by
  refine enter_run e_spec_l1Has (by simp) ?_
  obtain ⟨oa, c, rfl⟩ := hv.shapeT
  simp -implicitDefEqProofs
  refine R_loop (fun n s h' => ∃ i : Nat, i + n = xs.length ∧ s = [(0, .slice oa xs.length c), (1, .int .i64 x), (5, .int .i64 i)] ∧ h' = h ∧ hasL x xs = hasL x (xs.drop i)) (fun n s h' => ?_) ⟨0, Nat.zero_add _, by simp⟩
  rintro ⟨i, hi, rfl, rfl, hx⟩
  by_cases hlt : i < xs.length
  · obtain ⟨y, hy, hd⟩ := drop_at hlt
    rw [hd, hasL_cons] at hx
    simp -implicitDefEqProofs [hlt, load_I hv hy]
    refine CB_split (fun h => ?_) (fun h => ?_)
    · simp -implicitDefEqProofs [hx, h]
    · rw [h, Bool.false_or] at hx
      simp -implicitDefEqProofs [winc hlt hn]
      exact ⟨n - 1, by omega, i + 1, by omega, rfl, hx⟩
  · rw [List.drop_eq_nil_of_le (by omega), hasL_nil] at hx
    simp -implicitDefEqProofs [hlt, hx]
theorem has_run {h : Hp} {v : Value} {xs : List Int} {x : Int} (hv : Ints h v xs) (hn : xs.length ≤ 2 ^ 40) :
    Ret P G n_impl_has [v, .int .i64 x] h (.bool (hasL x xs)) h := by
  refine enter_run e_impl_has (by simp) ?_
  obtain ⟨oa, c, rfl⟩ := hv.shapeT
  simp -implicitDefEqProofs
  refine R_loop (fun n s h' => ∃ i : Nat, i + n = xs.length ∧ s = [(1, .int .i64 x), (7, .slice oa xs.length c), (8, .int .i64 xs.length), (9, .int .i64 i)] ∧ h' = h ∧ hasL x xs = hasL x (xs.drop i)) (fun n s h' => ?_) ⟨0, Nat.zero_add _, by simp⟩
  rintro ⟨i, hi, rfl, rfl, hx⟩
  by_cases hlt : i < xs.length
  · obtain ⟨y, hy, hd⟩ := drop_at hlt
    rw [hd, hasL_cons] at hx
    simp -implicitDefEqProofs [hlt, load_I hv hy]
    refine CB_split (fun h => ?_) (fun h => ?_)
    · simp -implicitDefEqProofs [hx, h]
    · rw [h, Bool.false_or] at hx
      simp -implicitDefEqProofs [winc hlt hn]
      exact ⟨n - 1, by omega, i + 1, by omega, rfl, hx⟩
  · rw [List.drop_eq_nil_of_le (by omega), hasL_nil] at hx
    simp -implicitDefEqProofs [hlt, hx]
theorem own_nil {h0 h : Hp} {L : List Asn} (H : Holds h0 h L) (α : Type) (enc : α → List Value) (sz : Nat) : Holds h0 h (L ++ [.own (.slice none 0 0) sz (([] : List α).map enc)]) := H.call List.prefix_rfl (by simpa using Own.nil)
def arGo (n : Int) : List Int → List Int → Bool
  | _, [] => true
  | us, x :: r => inB x 0 (w64 (n - 1)) && !hasL x us && arGo n (us ++ [x]) r
theorem areDifferent_run {h : Hp} {v : Value} {xs : List Int} {n : Int} (hv : Ints h v xs) (hn : xs.length ≤ 2 ^ 40) : Ret P G n_impl_areDifferent [.int .i64 n, v] h (.bool (arGo n [] xs)) h := by
  refine enter_run e_impl_areDifferent (by simp) ?_
  have hvs := hv
  obtain ⟨oa, c, rfl⟩ := hv.shapeT
  simp -implicitDefEqProofs
  refine R_loopO (fun m s h' => ∃ i : Nat, i + m = xs.length ∧ s = [(0, .int .i64 n), (1, .slice oa xs.length c), (7, .slice oa xs.length c), (8, .int .i64 xs.length), (9, .int .i64 i)] ∧ h' = h ∧ arGo n [] xs = arGo n (xs.take i) (xs.drop i)) (fun I hI m s h' => ?_) ⟨0, Nat.zero_add _, by simp, rfl, by simp⟩
  rintro ⟨i, hi, rfl, rfl, hx⟩
  by_cases hlt : i < xs.length
  · obtain ⟨y, hy, hd⟩ := drop_at hlt
    rw [hd, arGo, ← take_succ' hy] at hx
    obtain ⟨v', hs, hu⟩ := hvs.front (P := P) u_S_int i_int (k := .i64) (j := (i : Int)) (by omega) (by simp; omega)
    rw [Int.toNat_natCast, ← List.map_take] at hu
    have rh := has_run (x := y) hu (by simp; omega)
    cases c1 : inB y 0 (w64 (n - 1))
    · rw [c1, Bool.false_and, Bool.false_and] at hx
      simp -implicitDefEqProofs [-indexAddrP_some, hlt, load_I hvs hy, CL_ret isNumber_run, c1, hx]
    · cases c2 : hasL y (xs.take i)
      · rw [c1, c2] at hx
        simp -implicitDefEqProofs [-indexAddrP_some, hlt, load_I hvs hy, CL_ret isNumber_run, c1, hs, CL_ret rh, c2, winc hlt hn]
        exact ⟨m - 1, by omega, on hI ⟨i + 1, by omega, rfl, rfl, by simpa using hx⟩⟩
      · rw [c1, c2] at hx
        simp -implicitDefEqProofs [-indexAddrP_some, hlt, load_I hvs hy, CL_ret isNumber_run, c1, hs, CL_ret rh, c2]
        simpa using hx
  · rw [List.drop_eq_nil_of_le (by omega), arGo] at hx
    simp -implicitDefEqProofs [hlt, hx]
theorem l1Own_run {h : Hp} {v : Value} {xs : List Int} (hv : Ints h v xs) (hn : xs.length ≤ 2 ^ 40) : RunsC P G n_spec_l1Own [v] h fun v' h' => h <+: h' ∧ Own h.length h' v' 1 (xs.map encI) := by
  refine hideC fun K hK => enter_run e_spec_l1Own (by simp) ?_
  have H0 := own_nil (Holds.start (h := h)) Int encI 1
  obtain ⟨v', h', ha, H1, k⟩ := app_I H0 0 rfl hv (by simp; omega)
  simp -implicitDefEqProofs [ha]
  exact onK hK (H1.ret 0 rfl)
theorem isDate_run {h : Hp} {x : Int} : Ret P G n_impl_isDate [.int .i64 x] h (.bool (inB x 0 500)) h := by
  refine enter_run e_impl_isDate (by simp) ?_
  simp -implicitDefEqProofs [CL_ret within_run]
def jobOk (j : Job) : Bool := inB j.t 1 50 && inB j.w 0 50 && inB j.r 0 500 && inB j.d 0 500
theorem jobOk_eq (j : Job) : jobOk j = (inB j.t 1 50 && inB j.w 0 50 && inB j.r 0 500 && inB j.d 0 500) := rfl
theorem l2Job_run {h : Hp} {j : Job} : Ret P G n_spec_l2Job [jv j] h (.bool (jobOk j)) h := by
  refine enter_run e_spec_l2Job (by simp) ?_
  cases h1 : inB j.t 1 50 <;> cases h2 : inB j.w 0 50 <;> cases h3 : inB j.r 0 500 <;> cases h4 : inB j.d 0 500 <;>
    simp -implicitDefEqProofs [CL_ret l1In_run, h1, h2, h3, h4, jobOk]
def goodL (js : List Job) : Bool := js.all jobOk
theorem goodL_cons {j : Job} {js : List Job} : goodL (j :: js) = (jobOk j && goodL js) := rfl
theorem goodL_nil : goodL [] = true := rfl
theorem l2Good_run {h : Hp} {v : Value} {js : List Job} (hv : Jobs h v js) (hn : js.length ≤ 2 ^ 40) :
    Ret P G n_spec_l2Good [v] h (.bool (decide (js.length ≤ 8) && goodL js)) h := by
  refine enter_run e_spec_l2Good (by simp) ?_
  obtain ⟨oa, c, rfl⟩ := hv.shapeT
  simp -implicitDefEqProofs
  refine R_loopO (fun n s h' => ∃ i : Nat, i + n = js.length ∧ s = [(0, .slice oa js.length c), (3, .int .i64 i)] ∧ h' = h ∧ goodL js = goodL (js.drop i)) (fun I hI n s h' => ?_) ⟨0, Nat.zero_add _, by simp⟩
  rintro ⟨i, hi, rfl, rfl, hx⟩
  by_cases hlt : i < js.length
  · obtain ⟨y, hy, hd⟩ := drop_at hlt
    rw [hd, goodL_cons] at hx
    cases c1 : jobOk y
    · rw [c1, Bool.false_and] at hx
      simp -implicitDefEqProofs [-indexAddrP_some, hlt, load_J hv hy, CL_ret l2Job_run, c1, hx]
    · rw [c1, Bool.true_and] at hx
      simp -implicitDefEqProofs [-indexAddrP_some, hlt, load_J hv hy, CL_ret l2Job_run, c1, winc hlt hn]
      exact ⟨n - 1, by omega, on hI ⟨i + 1, by omega, rfl, rfl, hx⟩⟩
  · rw [List.drop_eq_nil_of_le (by omega), goodL_nil] at hx
    simp -implicitDefEqProofs [hlt, hx]
    try omega
theorem IsJobs_run {h : Hp} {v : Value} {js : List Job} (hv : Jobs h v js) (hn : js.length ≤ 2 ^ 40) :
    Ret P G n_impl_IsJobs [v] h (.bool (decide (js.length ≤ 8) && goodL js)) h := by
  refine enter_run e_impl_IsJobs (by simp) ?_
  obtain ⟨oa, c, rfl⟩ := hv.shapeT
  simp -implicitDefEqProofs
  refine CB_split (fun h => ?_) (fun h => ?_)
  · simp at h
    simp -implicitDefEqProofs [show ¬ js.length ≤ 8 by omega]
  · have h8 : js.length ≤ 8 := by simp at h; omega
    simp -implicitDefEqProofs [h8]
    rename_i h0
    refine R_loop (fun n s h' => ∃ i : Nat, i + n = js.length ∧ s = [(8, .slice oa js.length c), (9, .int .i64 js.length), (10, .int .i64 i)] ∧ h0 <+: h' ∧ goodL js = goodL (js.drop i)) (fun n s h' => ?_) ⟨0, Nat.zero_add _, by simp⟩
    rintro ⟨i, hi, rfl, hp, hx⟩
    have hv' := hv.pre hp
    by_cases hlt : i < js.length
    · obtain ⟨y, hy, hd⟩ := drop_at hlt
      rw [hd, goodL_cons, jobOk_eq] at hx
      cases h1 : inB y.t 1 50 <;> cases h2 : inB y.w 0 50 <;> cases h3 : inB y.r 0 500 <;> cases h4 : inB y.d 0 500 <;>
        (rw [h1, h2, h3, h4] at hx; simp -implicitDefEqProofs [-indexAddrP_some, hlt, load_J hv' hy, CL_ret within_run, CL_ret isDate_run, h1, h2, h3, h4, winc hlt hn])
      all_goals first
        | (simp at hx; simp -implicitDefEqProofs [hx, gcB' hp]; done)
        | exact ⟨n - 1, by omega, i + 1, by omega, rfl, hp.trans (List.prefix_append ..), by simpa using hx⟩
    · rw [List.drop_eq_nil_of_le (by omega), goodL_nil] at hx
      simp -implicitDefEqProofs [hlt, hx, gcB hp]
def allIn (xs : List Int) (n : Nat) : Bool := (List.range n).all fun i => hasL i xs
theorem allIn_false {xs : List Int} {n i : Nat} (hi : i < n) (h : hasL i xs = false) : allIn xs n = false := by
  cases hc : allIn xs n with
  | false => rfl
  | true => have := List.all_eq_true.1 hc i (List.mem_range.2 hi); rw [h] at this; cases this
def l2OrderL (n : Int) (xs : List Int) : Bool := inB n 0 8 && ((xs.length : Int) == n) && allIn xs xs.length
theorem l2Order_run {h : Hp} {v : Value} {xs : List Int} {n : Int} (hv : Ints h v xs) (hn : xs.length ≤ 2 ^ 40) :
    Ret P G n_spec_l2Order [.int .i64 n, v] h (.bool (l2OrderL n xs)) h := by
  refine enter_run e_spec_l2Order (by simp) ?_
  have hvs := hv
  obtain ⟨oa, c, rfl⟩ := hv.shapeT
  cases h1 : inB n 0 8
  · simp -implicitDefEqProofs [CL_ret l1In_run, h1, l2OrderL]
  · by_cases h2 : (xs.length : Int) = n
    · subst h2
      simp -implicitDefEqProofs [CL_ret l1In_run, h1, l2OrderL]
      refine R_loop (fun m s h' => ∃ i : Nat, i + m = xs.length ∧ s = [(0, .int .i64 xs.length), (1, .slice oa xs.length c), (5, .int .i64 i)] ∧ h' = h ∧ ∀ j : Nat, j < i → hasL j xs = true) (fun m s h' => ?_) ⟨0, Nat.zero_add _, by simp⟩
      rintro ⟨i, hi, rfl, rfl, hx⟩
      by_cases hlt : i < xs.length
      · have w0 : IntKind.i64.wrap (i + 1) = ((i : Int) + 1) := by rw [wrap_ok] <;> omega
        cases h3 : hasL i xs
        · simp -implicitDefEqProofs [hlt, CL_ret (l1Has_run hvs hn), h3, allIn_false hlt h3]
        · simp -implicitDefEqProofs [hlt, CL_ret (l1Has_run hvs hn), h3, w0]
          refine ⟨m - 1, by omega, i + 1, by omega, by omega, fun j hj => ?_⟩
          by_cases hji : j = i
          · subst hji; exact h3
          · exact hx j (by omega)
      · have : allIn xs xs.length = true := List.all_eq_true.2 fun j hj => hx j (by have := List.mem_range.1 hj; omega)
        simp -implicitDefEqProofs [hlt, this]
    · simp -implicitDefEqProofs [CL_ret l1In_run, h1, l2OrderL, nb h2, nt h2]
theorem isOrder_run {h : Hp} {v : Value} {xs : List Int} {n : Int} (hv : Ints h v xs) (hn : xs.length ≤ 2 ^ 40) :
    Ret P G n_impl_isOrder [.int .i64 n, v] h (.bool (((xs.length : Int) == n) && arGo n [] xs)) h := by
  refine enter_run e_impl_isOrder (by simp) ?_
  have hvs := hv
  obtain ⟨oa, c, rfl⟩ := hv.shapeT
  cases h1 : ((xs.length : Int) == n) <;>
    simp -implicitDefEqProofs [CL_ret (areDifferent_run hvs hn), h1]
theorem hasL_mem {x : Int} {xs : List Int} : hasL x xs = true ↔ x ∈ xs := by
  unfold hasL
  rw [List.any_eq_true]
  constructor
  · rintro ⟨y, hy, h⟩
    have : y = x := by simpa using h
    exact this ▸ hy
  · intro h; exact ⟨x, h, by simp⟩
theorem arGo_iff {n : Int} (hn : w64 (n - 1) = n - 1) : ∀ {xs us : List Int}, arGo n us xs = true ↔ (∀ x ∈ xs, 0 ≤ x ∧ x < n) ∧ xs.Nodup ∧ ∀ x ∈ xs, x ∉ us
  | [], us => by simp [arGo]
  | x :: r, us => by
    rw [arGo, Bool.and_eq_true, Bool.and_eq_true, arGo_iff hn, hn]
    simp only [inB, Bool.and_eq_true, decide_eq_true_eq, Bool.not_eq_true', List.mem_cons, List.nodup_cons, List.mem_append, List.not_mem_nil, or_false, not_or]
    have hh : hasL x us = false ↔ x ∉ us := by rw [← hasL_mem]; simp
    rw [hh]
    constructor
    · rintro ⟨⟨h1, h2⟩, h3, h4, h5⟩
      refine ⟨fun y hy => ?_, ⟨fun hx => (h5 x hx).2 rfl, h4⟩, fun y hy => ?_⟩
      · rcases hy with rfl | hy
        · omega
        · exact h3 y hy
      · rcases hy with rfl | hy
        · exact h2
        · exact (h5 y hy).1
    · rintro ⟨h1, ⟨h2, h3⟩, h4⟩
      refine ⟨⟨by have := h1 x (.inl rfl); omega, h4 x (.inl rfl)⟩, fun y hy => h1 y (.inr hy), h3, fun y hy => ⟨h4 y (.inr hy), fun e => h2 (by rw [← e]; exact hy)⟩⟩
theorem pigeon : ∀ (xs S : List Int), xs.Nodup → (∀ x ∈ xs, x ∈ S) → S.length ≤ xs.length → ∀ y ∈ S, y ∈ xs
  | [], S, _, _, hl, y, hy => by
    have : S = [] := List.eq_nil_of_length_eq_zero (by simpa using hl)
    rw [this] at hy; cases hy
  | a :: xs, S, hnd, hs, hl, y, hy => by
    have hnd := List.nodup_cons.1 hnd
    have ha := hs a (List.mem_cons_self ..)
    by_cases hya : y = a
    · rw [hya]; exact List.mem_cons_self ..
    · refine List.mem_cons_of_mem _ (pigeon xs (S.erase a) hnd.2 (fun x hx => ?_) ?_ y ((List.mem_erase_of_ne hya).2 hy))
      · have hxa : x ≠ a := fun e => hnd.1 (e ▸ hx)
        exact (List.mem_erase_of_ne hxa).2 (hs x (List.mem_cons_of_mem _ hx))
      · rw [List.length_erase_of_mem ha]
        simp only [List.length_cons] at hl
        omega
theorem pigeon2 : ∀ (S xs : List Int), S.Nodup → (∀ x ∈ S, x ∈ xs) → xs.length ≤ S.length → xs.Nodup
  | [], xs, _, _, hl => by
    have : xs = [] := List.eq_nil_of_length_eq_zero (by simpa using hl)
    rw [this]; exact List.nodup_nil
  | a :: S, xs, hnd, hs, hl => by
    have hnd' := List.nodup_cons.1 hnd
    have ha := hs a (List.mem_cons_self ..)
    have h1 : ∀ x ∈ S, x ∈ xs.erase a := fun x hx => by
      have hxa : x ≠ a := fun e => hnd'.1 (e ▸ hx)
      exact (List.mem_erase_of_ne hxa).2 (hs x (List.mem_cons_of_mem _ hx))
    have h2 : (xs.erase a).length ≤ S.length := by
      rw [List.length_erase_of_mem ha]
      simp only [List.length_cons] at hl
      omega
    have h3 := pigeon2 S (xs.erase a) hnd'.2 h1 h2
    have h4 := pigeon S (xs.erase a) hnd'.2 h1 h2
    exact (List.perm_cons_erase ha).nodup_iff.2 (List.nodup_cons.2 ⟨fun h => hnd'.1 (h4 a h), h3⟩)
def upTo (n : Nat) : List Int := (List.range n).map fun i : Nat => (i : Int)
theorem mem_upTo {n : Nat} {x : Int} : x ∈ upTo n ↔ 0 ≤ x ∧ x < n := by
  simp only [upTo, List.mem_map, List.mem_range]
  constructor
  · rintro ⟨i, hi, rfl⟩; omega
  · rintro ⟨h1, h2⟩; exact ⟨x.toNat, by omega, by omega⟩
theorem upTo_nodup (n : Nat) : (upTo n).Nodup := by
  refine List.Pairwise.map _ (fun a b h e => h ?_) List.nodup_range
  omega
theorem upTo_len (n : Nat) : (upTo n).length = n := by simp [upTo]
theorem hasL_iff' {x : Int} {xs : List Int} : hasL x xs = true ↔ x ∈ xs := by simp [hasL]
theorem order_eq {n : Nat} {xs : List Int} (hn : n ≤ 8) : (((xs.length : Int) == n) && arGo n [] xs) = (((xs.length : Int) == n) && allIn xs xs.length) := by
  cases h2 : ((xs.length : Int) == n) with
  | false => rfl
  | true =>
    have hl : xs.length = n := by have := beq_iff_eq.1 h2; omega
    have wn : w64 ((n : Int) - 1) = (n : Int) - 1 := by unfold w64; rw [wrap_ok] <;> omega
    rw [Bool.true_and, Bool.true_and, Bool.eq_iff_iff, arGo_iff wn]
    constructor
    · rintro ⟨h3, h4, _⟩
      refine List.all_eq_true.2 fun i hi => hasL_iff'.2 ?_
      have hi := List.mem_range.1 hi
      exact pigeon xs (upTo n) h4 (fun x hx => mem_upTo.2 (h3 x hx)) (by rw [upTo_len]; omega) i (mem_upTo.2 (by omega))
    · intro h3
      have h4 : ∀ i : Nat, i < n → (i : Int) ∈ xs := fun i hi => hasL_iff'.1 (List.all_eq_true.1 h3 i (List.mem_range.2 (by omega)))
      have h5 : ∀ x ∈ upTo n, x ∈ xs := fun x hx => by
        have := mem_upTo.1 hx
        have h6 := h4 x.toNat (by omega)
        rwa [show ((x.toNat : Nat) : Int) = x by omega] at h6
      have h6 := pigeon (upTo n) xs (upTo_nodup n) h5 (by rw [upTo_len]; omega)
      exact ⟨fun x hx => mem_upTo.1 (h6 x hx), pigeon2 (upTo n) xs (upTo_nodup n) h5 (by rw [upTo_len]; omega), by simp⟩
end Go.Pm.PP

/- Ends and values of objectives, by both. -/
set_option linter.unusedVariables false
set_option linter.unusedSimpArgs false
set_option maxRecDepth 4000
set_option maxHeartbeats 8000000
namespace Go.Pm.PP
open Go.Pm Go.Proofs
theorem mx_if (a b : Int) : (if a < b then b else a) = max a b := by rw [Int.max_def]; split <;> split <;> omega
theorem job_of {j : Job} (h : jobOk j = true) : (1 ≤ j.t ∧ j.t ≤ 50) ∧ (0 ≤ j.w ∧ j.w ≤ 50) ∧ (0 ≤ j.r ∧ j.r ≤ 500) ∧ 0 ≤ j.d ∧ j.d ≤ 500 := by
  simp only [jobOk, inB, Bool.and_eq_true, decide_eq_true_eq] at h
  omega
theorem job_at {js : List Job} (h : goodL js = true) {i : Nat} {y : Job} (hy : js[i]? = some y) : jobOk y = true := List.all_eq_true.1 h y (List.mem_of_getElem? hy)
theorem mul_bd {w e : Int} (h1 : 0 ≤ w) (h2 : w ≤ 50) (h3 : 0 ≤ e) (h4 : e ≤ 2 ^ 21) : 0 ≤ w * e ∧ w * e ≤ 50 * 2 ^ 21 := ⟨Int.mul_nonneg h1 h3, Int.mul_le_mul h2 h4 h3 (by omega)⟩
theorem cost_bd {o : Int} {j : Job} {e : Int} (hj : jobOk j = true) (h1 : 0 ≤ e) (h2 : e ≤ 2 ^ 20) : 0 ≤ costV o j e ∧ costV o j e ≤ 2 ^ 27 := by
  obtain ⟨_, hw, _, hd⟩ := job_of hj
  have m1 := mul_bd hw.1 hw.2 h1 (by omega)
  have m2 := mul_bd hw.1 hw.2 (e := max (e - j.d) 0) (by omega) (by omega)
  unfold costV
  split
  · omega
  split
  · omega
  split
  · omega
  split
  · omega
  split
  · omega
  split <;> omega
theorem l2Greatest_run {h : Hp} {o : Int} : Ret P G n_spec_l2Greatest [.int .i64 o] h (.bool ((o == 1) || (o == 4))) h := by
  refine enter_run e_spec_l2Greatest (by simp) ?_
  cases c1 : (o == 1) <;> simp -implicitDefEqProofs [c1]
theorem l2Cost_run {h : Hp} {j : Job} {e o : Int} (hj : jobOk j = true) (h1 : 0 ≤ e) (h2 : e ≤ 2 ^ 20) (ho : 1 ≤ o ∧ o ≤ 8) (ho1 : ¬ o = 1) (ho4 : ¬ o = 4) : Ret P G n_spec_l2Cost [jv j, .int .i64 e, .int .i64 o] h (.int .i64 (costV o j e)) h := by
  refine enter_run e_spec_l2Cost (by simp) ?_
  obtain ⟨_, hw, _, hd⟩ := job_of hj
  have m1 := mul_bd hw.1 hw.2 h1 (by omega)
  have m2 := mul_bd hw.1 hw.2 (e := max (e - j.d) 0) (by omega) (by omega)
  have w1 : IntKind.i64.wrap (e - j.d) = e - j.d := by rw [wrap_ok] <;> omega
  have w2 : IntKind.i64.wrap (j.w * e) = j.w * e := by rw [wrap_ok] <;> omega
  have w3 : IntKind.i64.wrap (j.w * max (e - j.d) 0) = j.w * max (e - j.d) 0 := by rw [wrap_ok] <;> omega
  obtain ⟨L, hL⟩ : ∃ L, L = max (e - j.d) 0 := ⟨_, rfl⟩
  unfold costV
  rw [← hL]
  rw [← hL] at w3
  have lr : ∀ {h : Hp}, Ret P G n_spec_l1Most [.int .i64 (e - j.d), .int .i64 0] h (.int .i64 L) h := fun {h} => by rw [hL]; exact l1Most_run
  have hc : o = 2 ∨ o = 3 ∨ o = 5 ∨ o = 6 ∨ o = 7 ∨ o = 8 := by omega
  rcases hc with rfl | rfl | rfl | rfl | rfl | rfl
  · simp -implicitDefEqProofs [w1, CL_ret lr]
  · simp -implicitDefEqProofs [w1, CL_ret lr, w2]
  · simp -implicitDefEqProofs [w1, CL_ret lr]
  · simp -implicitDefEqProofs [w1, CL_ret lr, w3]
  · by_cases c : L = 0
    · simp -implicitDefEqProofs [w1, CL_ret lr, c]
    · simp -implicitDefEqProofs [w1, CL_ret lr, c, nb c]
  · by_cases c : L = 0
    · simp -implicitDefEqProofs [w1, CL_ret lr, c]
    · simp -implicitDefEqProofs [w1, CL_ret lr, c, nb c]
theorem add_run {h : Hp} {j : Job} {a e o : Int} {f : Bool} (hj : jobOk j = true) (h1 : 0 ≤ e) (h2 : e ≤ 2 ^ 20) (ho : 1 ≤ o ∧ o ≤ 8) (ha : -(2 ^ 50) ≤ a ∧ a ≤ 2 ^ 50) : Ret P G n_impl_add [.int .i64 a, jv j, .int .i64 e, .int .i64 o, .bool f] h (.int .i64 (stepV o f a j e)) h := by
  refine enter_run e_impl_add (by simp) ?_
  obtain ⟨_, hw, _, hd⟩ := job_of hj
  have m1 := mul_bd hw.1 hw.2 h1 (by omega)
  have m2 := mul_bd hw.1 hw.2 (e := max 0 (e - j.d)) (by omega) (by omega)
  have w1 : IntKind.i64.wrap (e - j.d) = e - j.d := by rw [wrap_ok] <;> omega
  have w2 : IntKind.i64.wrap (j.w * e) = j.w * e := by rw [wrap_ok] <;> omega
  have w3 : IntKind.i64.wrap (j.w * max 0 (e - j.d)) = j.w * max 0 (e - j.d) := by rw [wrap_ok] <;> omega
  have w4 : IntKind.i64.wrap (a + e) = a + e := by rw [wrap_ok] <;> omega
  have w5 : IntKind.i64.wrap (a + j.w * e) = a + j.w * e := by rw [wrap_ok] <;> omega
  have w6 : IntKind.i64.wrap (a + max 0 (e - j.d)) = a + max 0 (e - j.d) := by rw [wrap_ok] <;> omega
  have w7 : IntKind.i64.wrap (a + j.w * max 0 (e - j.d)) = a + j.w * max 0 (e - j.d) := by rw [wrap_ok] <;> omega
  have w8 : IntKind.i64.wrap (a + 1) = a + 1 := by rw [wrap_ok] <;> omega
  have w9 : IntKind.i64.wrap (a + j.w) = a + j.w := by rw [wrap_ok] <;> omega
  have mc : max 0 (e - j.d) = max (e - j.d) 0 := Int.max_comm ..
  rw [mc] at w3 w6 w7
  have hc : o = 1 ∨ o = 2 ∨ o = 3 ∨ o = 4 ∨ o = 5 ∨ o = 6 ∨ o = 7 ∨ o = 8 := by omega
  rcases hc with rfl | rfl | rfl | rfl | rfl | rfl | rfl | rfl
  · simp -implicitDefEqProofs [w1, foldI, mx_if, stepV]
  · simp -implicitDefEqProofs [w1, w4, stepV, costV]
  · simp -implicitDefEqProofs [w1, w2, w5, stepV, costV]
  · cases f <;> simp -implicitDefEqProofs [w1, foldI, mx_if, stepV]
  · simp -implicitDefEqProofs [w1, foldI, mx_if, w6, stepV, costV, mc]
  · simp -implicitDefEqProofs [w1, foldI, mx_if, w3, w7, stepV, costV, mc]
  · by_cases c : e - j.d ≤ 0
    · have c' : max (e - j.d) 0 = 0 := by omega
      simp -implicitDefEqProofs [w1, c, stepV, costV, c']
    · have c' : ¬ max (e - j.d) 0 = 0 := by omega
      simp -implicitDefEqProofs [w1, c, w8, stepV, costV, c']
  · by_cases c : e - j.d ≤ 0
    · have c' : max (e - j.d) 0 = 0 := by omega
      simp -implicitDefEqProofs [w1, c, stepV, costV, c']
    · have c' : ¬ max (e - j.d) 0 = 0 := by omega
      simp -implicitDefEqProofs [w1, c, w9, stepV, costV, c']
theorem step_bd {o : Int} {f : Bool} {a : Int} {j : Job} {e : Int} {B : Int} (hj : jobOk j = true) (h1 : 0 ≤ e) (h2 : e ≤ 2 ^ 20) (ha : -B ≤ a ∧ a ≤ B) (hB : 0 ≤ B) : -(B + 2 ^ 27) ≤ stepV o f a j e ∧ stepV o f a j e ≤ B + 2 ^ 27 := by
  have hc := cost_bd (o := o) hj h1 h2
  obtain ⟨_, _, _, hd⟩ := job_of hj
  unfold stepV
  split
  · omega
  · split
    · split <;> omega
    · omega
theorem val_drop {o : Int} {f : Bool} {a : Int} {js : List Job} {es : List Int} {i : Nat} {y : Job} {e : Int} (hy : js[i]? = some y) (he : es[i]? = some e) : valGo o f a (js.drop i) (es.drop i) = valGo o false (stepV o f a y e) (js.drop (i + 1)) (es.drop (i + 1)) := by
  obtain ⟨y', hy', hd⟩ := drop_at (List.getElem?_eq_some_iff.1 hy).1
  obtain ⟨e', he', hd'⟩ := drop_at (List.getElem?_eq_some_iff.1 he).1
  rw [hy] at hy'; cases hy'
  rw [he] at he'; cases he'
  rw [hd, hd', valGo]
theorem l2Of_run {h : Hp} {v u : Value} {js : List Job} {es : List Int} {o : Int} (hj : Jobs h v js) (hu : Ints h u es) (hg : goodL js = true) (hn : js.length ≤ 8) (hl : es.length = js.length) (he : ∀ e, e ∈ es → 0 ≤ e ∧ e ≤ 2 ^ 20) (ho : 1 ≤ o ∧ o ≤ 8) :
    Ret P G n_spec_l2Of [v, u, .int .i64 o] h (.int .i64 (valE o js es)) h := by
  refine enter_run e_spec_l2Of (by simp) ?_
  have hjs := hj
  have hus := hu
  obtain ⟨oj, cj, rfl⟩ := hj.shapeT
  obtain ⟨oa, c, rfl⟩ := hu.shapeT
  simp -implicitDefEqProofs
  refine R_loopO (fun m s h' => ∃ (i : Nat) (a : Int), i + m = js.length ∧ s = [(0, .slice oj js.length cj), (1, .slice oa es.length c), (2, .int .i64 o), (7, .int .i64 a), (8, .int .i64 i)] ∧ h' = h ∧ valE o js es = valGo o (decide (i = 0)) a (js.drop i) (es.drop i) ∧ -((i : Int) * 2 ^ 27) ≤ a ∧ a ≤ (i : Int) * 2 ^ 27 ∧ (i = 0 → a = 0)) (fun I hI m s h' => ?_) ⟨0, 0, Nat.zero_add _, by simp, rfl, rfl, by omega, by omega, fun _ => rfl⟩
  rintro ⟨i, a, hi, rfl, rfl, hx, ha1, ha2, ha0⟩
  by_cases hlt : i < js.length
  · obtain ⟨y, hy, _⟩ := drop_at hlt
    obtain ⟨e, he', _⟩ := drop_at (show i < es.length by omega)
    have hjy := job_at hg hy
    have hey := he e (List.mem_of_getElem? he')
    rw [val_drop hy he'] at hx
    have sb := step_bd (o := o) (f := decide (i = 0)) hjy hey.1 hey.2 ⟨ha1, ha2⟩ (by omega)
    have cb := cost_bd (o := o) hjy hey.1 hey.2
    obtain ⟨_, _, _, hd⟩ := job_of hjy
    have lj := load_J hjs hy
    have le := load_I hus he'
    have wi := winc hlt (show js.length ≤ 2 ^ 40 by omega)
    have go : ∃ k, k < m ∧ I k [(0, .slice oj js.length cj), (1, .slice oa es.length c), (2, .int .i64 o), (7, .int .i64 (stepV o (decide (i = 0)) a y e)), (8, .int .i64 ((i + 1 : Nat) : Int))] h' :=
      ⟨m - 1, by omega, on hI ⟨i + 1, _, by omega, rfl, rfl, by simpa using hx, by omega, by omega, by omega⟩⟩
    by_cases o1 : o = 1
    · subst o1
      have ew : stepV 1 (decide (i = 0)) a y e = if i = 0 then e else max a e := by
        unfold stepV; rw [if_pos rfl]
        split
        · rename_i g; rw [ha0 g]; omega
        · rfl
      rw [ew] at go
      by_cases i0 : i = 0
      · subst i0
        rw [if_pos rfl] at go
        rw [show ((0 : Nat) : Int) = 0 from rfl] at le
        simp -implicitDefEqProofs [-indexAddrP_some, hlt, CL_ret l2Greatest_run, le, wrap_ok]
        simpa using go
      · rw [if_neg i0] at go
        have i0' : ((i : Int) == 0) = false := nb (by omega)
        by_cases c2 : a < e
        · rw [show max a e = e by omega] at go
          simp -implicitDefEqProofs [-indexAddrP_some, hlt, CL_ret l2Greatest_run, le, i0', c2, wi]
          simpa using go
        · rw [show max a e = a by omega] at go
          simp -implicitDefEqProofs [-indexAddrP_some, hlt, CL_ret l2Greatest_run, le, i0', c2, wi]
          simpa using go
    · by_cases o4 : o = 4
      · subst o4
        have we : IntKind.i64.wrap (e - y.d) = e - y.d := by rw [wrap_ok] <;> omega
        have ew : stepV 4 (decide (i = 0)) a y e = if i = 0 then e - y.d else max a (e - y.d) := by
          unfold stepV; rw [if_neg (by decide), if_pos rfl]; simp
        rw [ew] at go
        by_cases i0 : i = 0
        · subst i0
          rw [if_pos rfl] at go
          rw [show ((0 : Nat) : Int) = 0 from rfl] at le lj
          rw [Nat.zero_mul] at lj
          simp -implicitDefEqProofs [-indexAddrP_some, hlt, CL_ret l2Greatest_run, le, lj, we, wrap_ok]
          simpa using go
        · rw [if_neg i0] at go
          have i0' : ((i : Int) == 0) = false := nb (by omega)
          by_cases c2 : a < e - y.d
          · rw [show max a (e - y.d) = e - y.d by omega] at go
            simp -implicitDefEqProofs [-indexAddrP_some, hlt, CL_ret l2Greatest_run, le, lj, we, i0', c2, wi]
            simpa using go
          · rw [show max a (e - y.d) = a by omega] at go
            simp -implicitDefEqProofs [-indexAddrP_some, hlt, CL_ret l2Greatest_run, le, lj, we, i0', c2, wi]
            simpa using go
      · have rc := l2Cost_run (h := h') hjy hey.1 hey.2 ho o1 o4
        have ew : stepV o (decide (i = 0)) a y e = a + costV o y e := by unfold stepV; rw [if_neg o1, if_neg o4]
        rw [ew] at go
        have wa : IntKind.i64.wrap (a + costV o y e) = a + costV o y e := by rw [wrap_ok] <;> omega
        simp -implicitDefEqProofs [-indexAddrP_some, hlt, CL_ret l2Greatest_run, nb o1, nb o4, le, lj, CL_ret rc, CH_at rc, wa, wi]
        simpa using go
  · rw [List.drop_eq_nil_of_le (by omega)] at hx
    have hx' : valE o js es = a := by rw [hx]; simp [valGo]
    simp -implicitDefEqProofs [hlt, hx']
theorem valueOfEnds_run {h : Hp} {v u : Value} {js : List Job} {es : List Int} {o : Int} (hj : Jobs h v js) (hu : Ints h u es) (hg : goodL js = true) (hn : js.length ≤ 8) (hl : es.length = js.length) (he : ∀ e, e ∈ es → 0 ≤ e ∧ e ≤ 2 ^ 20) (ho : 1 ≤ o ∧ o ≤ 8) :
    Ret P G n_impl_valueOfEnds [v, u, .int .i64 o] h (.int .i64 (valE o js es)) h := by
  refine enter_run e_impl_valueOfEnds (by simp) ?_
  have hjs := hj
  have hus := hu
  obtain ⟨oj, cj, rfl⟩ := hj.shapeT
  obtain ⟨oa, c, rfl⟩ := hu.shapeT
  simp -implicitDefEqProofs
  refine R_loopO (fun m s h' => ∃ (i : Nat) (a : Int), i + m = js.length ∧ s = [(1, .slice oa es.length c), (2, .int .i64 o), (7, .int .i64 a), (10, .slice oj js.length cj), (11, .int .i64 js.length), (12, .int .i64 i)] ∧ h <+: h' ∧ valE o js es = valGo o (decide (i = 0)) a (js.drop i) (es.drop i) ∧ -((i : Int) * 2 ^ 27) ≤ a ∧ a ≤ (i : Int) * 2 ^ 27) (fun I hI m s h' => ?_) ⟨0, 0, Nat.zero_add _, by simp, List.prefix_rfl, rfl, by omega, by omega⟩
  rintro ⟨i, a, hi, rfl, hp, hx, ha1, ha2⟩
  by_cases hlt : i < js.length
  · obtain ⟨y, hy, _⟩ := drop_at hlt
    obtain ⟨e, he', _⟩ := drop_at (show i < es.length by omega)
    have hjy := job_at hg hy
    have hey := he e (List.mem_of_getElem? he')
    rw [val_drop hy he'] at hx
    have sb := step_bd (o := o) (f := decide (i = 0)) hjy hey.1 hey.2 ⟨ha1, ha2⟩ (by omega)
    have lj := load_J (hjs.pre hp) hy
    have le := fun l => load_I (hus.pre (hp.trans (List.prefix_append h' l))) he'
    have wi := winc hlt (show js.length ≤ 2 ^ 40 by omega)
    have ra := fun (h : Hp) => add_run (h := h) (a := a) (f := decide (i = 0)) hjy hey.1 hey.2 ho (by omega)
    have hb : ((i : Int) == 0) = decide (i = 0) := by
      by_cases g : i = 0
      · subst g; rfl
      · rw [nb (by omega)]; simp [g]
    simp -implicitDefEqProofs [-indexAddrP_some, hlt, lj, le, hb, CL_ret (ra _), CH_at (ra _), wi]
    exact ⟨m - 1, by omega, on hI ⟨i + 1, _, by omega, rfl, hp.trans (List.prefix_append ..), by simpa using hx, by omega, by omega⟩⟩
  · rw [List.drop_eq_nil_of_le (by omega)] at hx
    have hx' : valE o js es = a := by rw [hx]; simp [valGo]
    simp -implicitDefEqProofs [hlt, hx']
    exact gcP hp rfl
/-! ### ends -/
theorem jA_get {js : List Job} {x : Int} {n : Nat} (hn : n = js.length) (h : 0 ≤ x ∧ x < n) : ∃ k : Nat, x = k ∧ k < js.length ∧ js[k]? = some (jA js x) := by
  obtain ⟨y, hy, _⟩ := drop_at (show x.toNat < js.length by omega)
  exact ⟨x.toNat, by omega, by omega, by rw [hy]; unfold jA; rw [hy]; rfl⟩
theorem l2Starts_run {h : Hp} {v u : Value} {js : List Job} {xs : List Int} (hj : Jobs h v js) (hu : Ints h u xs) (hg : goodL js = true) (hn : js.length ≤ 8) (hl : xs.length ≤ 8) (hin : inN js.length xs) :
    RunsC P G n_spec_l2Starts [v, u] h fun v' h' => h <+: h' ∧ Own h.length h' v' 1 ((stL js xs).map encI) ∧ ∀ e, e ∈ stL js xs → 0 ≤ e ∧ e ≤ 5000 := by
  refine hideC fun K hK => enter_run e_spec_l2Starts (by simp) ?_
  have hjs := hj
  have hus := hu
  obtain ⟨oj, cj, rfl⟩ := hj.shapeT
  obtain ⟨oa, c, rfl⟩ := hu.shapeT
  obtain ⟨vz, h1, mk, H1, hp1, oz, rfl⟩ := make_I (Holds.start (h := h)) (n := js.length) (by omega)
  generalize hX : stL js xs = X at hK
  simp -implicitDefEqProofs [mk]
  refine R_loopO (fun m s h' => ∃ (i : Nat) (now : Int) (S : List Int), i + m = xs.length ∧ s = [(0, .slice oj js.length cj), (1, .slice oa xs.length c), (5, .slice oz js.length js.length), (6, .int .i64 now), (7, .int .i64 i)] ∧
    Holds h h' [.own (.slice oz js.length js.length) 1 (S.map encI)] ∧ X = stGo js (xs.drop i) now S ∧ S.length = js.length ∧ 0 ≤ now ∧ now ≤ 550 * i ∧ ∀ e, e ∈ S → 0 ≤ e ∧ e ≤ 5000) (fun I hI m s h' => ?_) ⟨0, 0, List.replicate js.length 0, Nat.zero_add _, by simp, H1, hX.symm, by simp, by omega, by omega, fun e he => by rw [List.eq_of_mem_replicate he]; omega⟩
  rintro ⟨i, now, S, hi, rfl, H, hx, hS, n0, n1, hSe⟩
  by_cases hlt : i < xs.length
  · obtain ⟨x, hxx, hd⟩ := drop_at hlt
    rw [hd, stGo] at hx
    obtain ⟨k, hk, hkl, hky⟩ := jA_get rfl (hin x (List.mem_of_getElem? hxx))
    have jb := job_of (job_at hg hky)
    generalize hJ : jA js x = y at hx hky jb
    subst hk
    rw [Int.toNat_natCast] at hx
    have lx := load_I (hus.pre H.pre) hxx
    have ly := load_J (hjs.pre H.pre) hky
    obtain ⟨M, hM⟩ : ∃ M, M = max now y.r := ⟨_, rfl⟩
    rw [← hM] at hx
    have lm : ∀ {h : Hp}, Ret P G n_spec_l1Most [.int .i64 now, .int .i64 y.r] h (.int .i64 M) h := fun {h} => by rw [hM]; exact l1Most_run
    have ix := (load_I (H.sees 0 rfl) (gE_get (l := S) (i := k) (by omega))).1
    obtain ⟨h2, s2, H2, _⟩ := put_I H 0 rfl (j := k) (by omega) M
    have lx2 := load_I (hus.pre H2.pre) hxx
    have ly2 := load_J (hjs.pre H2.pre) hky
    have lS := load_I (H2.sees 0 rfl) (i := k) (x := M) (List.getElem?_set_self (by omega))
    have wM : IntKind.i64.wrap (M + y.t) = M + y.t := by rw [wrap_ok] <;> omega
    simp -implicitDefEqProofs [-indexAddrP_some, hlt, lx, ly, CL_ret lm, CH_at lm, ix, s2, lx2, ly2, lS, wM, winc hlt (by omega)]
    refine ⟨m - 1, by omega, on hI ⟨i + 1, M + y.t, S.set k M, by omega, rfl, H2, hx, by rw [List.length_set]; exact hS, by omega, by omega, fun e he => ?_⟩⟩
    rcases List.mem_or_eq_of_mem_set he with g | g
    · exact hSe e g
    · omega
  · rw [List.drop_eq_nil_of_le (by omega), stGo] at hx
    subst hx
    simp -implicitDefEqProofs [hlt]
    exact onK hK ⟨(H.ret 0 rfl).1, (H.ret 0 rfl).2, hSe⟩
theorem l2Ends_run {h : Hp} {v u : Value} {js : List Job} {xs : List Int} (hj : Jobs h v js) (hu : Ints h u xs) (hg : goodL js = true) (hn : js.length ≤ 8) (hl : xs.length ≤ 8) (hin : inN js.length xs) (hnd : xs.Nodup) (hall : ∀ i : Nat, i < js.length → (i : Int) ∈ xs) :
    RunsC P G n_spec_l2Ends [v, u] h fun v' h' => h <+: h' ∧ Own h.length h' v' 1 ((endsL js xs).map encI) ∧ ∀ e, e ∈ endsL js xs → 0 ≤ e ∧ e ≤ 5050 := by
  refine hideC fun K hK => enter_run e_spec_l2Ends (by simp) ?_
  have hjs := hj
  obtain ⟨oj, cj, rfl⟩ := hj.shapeT
  simp -implicitDefEqProofs
  refine CL_post (l2Starts_run hjs hu hg hn hl hin) fun v1 h1 ⟨hp1, ho1, hb1⟩ => ?_
  have H1 := (Holds.start (h := h)).call hp1 ho1
  have hsl : (stL js xs).length = js.length := stL_len
  obtain ⟨o1, c1, rfl⟩ : ∃ a c, v1 = .slice a js.length c := by obtain ⟨a, c, e⟩ := ho1.sees.shapeT; exact ⟨a, c, by rw [e, hsl]⟩
  have heq : ∀ i : Nat, i < js.length → gE (endsL js xs) i = gE (stL js xs) i + (jA js i).t := fun i hi => ends_eq hin hnd hall hi
  have hel : (endsL js xs).length = js.length := endsL_len
  generalize endsL js xs = X at hK heq hel
  generalize stL js xs = S0 at H1 hsl heq hb1
  simp -implicitDefEqProofs
  refine R_loopO (fun m s h' => ∃ (i : Nat) (E : List Int), i + m = js.length ∧ s = [(0, .slice oj js.length cj), (5, .slice o1 js.length c1), (6, .int .i64 i)] ∧ Holds h h' [.own (.slice o1 js.length c1) 1 (E.map encI)] ∧ E.length = js.length ∧
    (∀ k : Nat, k < js.length → gE E k = if k < i then gE X k else gE S0 k)) (fun I hI m s h' => ?_) ⟨0, S0, Nat.zero_add _, by simp, H1, hsl, fun k hk => by rw [if_neg (by omega)]⟩
  rintro ⟨i, E, hi, rfl, H, hE, hk⟩
  have gX : ∀ k : Nat, k < js.length → 0 ≤ gE S0 k ∧ gE S0 k ≤ 5000 := fun k hk => hb1 _ (List.mem_of_getElem? (gE_get (by omega)))
  by_cases hlt : i < js.length
  · obtain ⟨y, hy, _⟩ := drop_at hlt
    have jb := job_of (job_at hg hy)
    have ly := load_J (hjs.pre H.pre) hy
    have e0 : gE E i = gE S0 i := by rw [hk i hlt, if_neg (by omega)]
    have eX : gE X i = gE S0 i + y.t := by
      rw [heq i hlt]
      unfold jA
      rw [Int.toNat_natCast, hy]; rfl
    have lE := load_I (H.sees 0 rfl) (gE_get (l := E) (i := i) (by omega))
    rw [e0] at lE
    have b0 := gX i hlt
    have w1 : IntKind.i64.wrap (gE S0 i + y.t) = gE S0 i + y.t := by rw [wrap_ok] <;> omega
    obtain ⟨h2, s2, H2, _⟩ := put_I H 0 rfl (j := i) (by omega) (gE S0 i + y.t)
    simp -implicitDefEqProofs [-indexAddrP_some, hlt, lE, ly, w1, s2, winc hlt (by omega)]
    refine ⟨m - 1, by omega, on hI ⟨i + 1, _, by omega, rfl, H2, by rw [List.length_set]; exact hE, fun k hkl => ?_⟩⟩
    rw [gE_set (by omega)]
    by_cases g : k = i
    · subst g; rw [if_pos rfl, if_pos (by omega), eX]
    · rw [if_neg g, hk k hkl]
      by_cases g2 : k < i
      · rw [if_pos g2, if_pos (by omega)]
      · rw [if_neg g2, if_neg (by omega)]
  · have hEX : E = X := by
      apply List.ext_getElem?
      intro k
      rcases Nat.lt_or_ge k js.length with g | g
      · have := hk k g
        rw [if_pos (by omega)] at this
        rw [gE_get (by omega), gE_get (by omega), this]
      · rw [List.getElem?_eq_none (by omega), List.getElem?_eq_none (by omega)]
    subst hEX
    simp -implicitDefEqProofs [hlt]
    refine onK hK ⟨(H.ret 0 rfl).1, (H.ret 0 rfl).2, fun e he => ?_⟩
    obtain ⟨k, hk'⟩ := List.getElem?_of_mem he
    have hkl : k < js.length := by rw [← hE]; exact (List.getElem?_eq_some_iff.1 hk').1
    have h1 := heq k hkl
    obtain ⟨y, hy, _⟩ := drop_at hkl
    have jb := job_of (job_at hg hy)
    unfold jA at h1
    rw [Int.toNat_natCast, hy, Option.getD_some] at h1
    have h2 : gE E k = e := by unfold gE; rw [hk']; rfl
    have h3 := gX k hkl
    omega
theorem endsOf_run {h : Hp} {v u : Value} {js : List Job} {xs : List Int} (hj : Jobs h v js) (hu : Ints h u xs) (hg : goodL js = true) (hn : js.length ≤ 8) (hl : xs.length ≤ 8) (hin : inN js.length xs) :
    RunsC P G n_impl_endsOf [v, u] h fun v' h' => h <+: h' ∧ Own h.length h' v' 1 ((endsL js xs).map encI) ∧ ∀ e, e ∈ endsL js xs → 0 ≤ e ∧ e ≤ 5050 := by
  refine hideC fun K hK => enter_run e_impl_endsOf (by simp) ?_
  have hjs := hj
  have hus := hu
  obtain ⟨oj, cj, rfl⟩ := hj.shapeT
  obtain ⟨oa, c, rfl⟩ := hu.shapeT
  obtain ⟨vz, h1, mk, H1, hp1, oz, rfl⟩ := make_I (Holds.start (h := h)) (n := js.length) (by omega)
  generalize hX : endsL js xs = X at hK
  simp -implicitDefEqProofs [mk]
  refine R_loopO (fun m s h' => ∃ (i : Nat) (now : Int) (S : List Int), i + m = xs.length ∧ s = [(0, .slice oj js.length cj), (5, .slice oz js.length js.length), (6, .int .i64 now), (12, .slice oa xs.length c), (13, .int .i64 xs.length), (14, .int .i64 i)] ∧
    Holds h h' [.own (.slice oz js.length js.length) 1 (S.map encI)] ∧ X = endGo js (xs.drop i) now S ∧ S.length = js.length ∧ 0 ≤ now ∧ now ≤ 550 * i ∧ ∀ e, e ∈ S → 0 ≤ e ∧ e ≤ 5050) (fun I hI m s h' => ?_) ⟨0, 0, List.replicate js.length 0, Nat.zero_add _, by simp, H1, hX.symm, by simp, by omega, by omega, fun e he => by rw [List.eq_of_mem_replicate he]; omega⟩
  rintro ⟨i, now, S, hi, rfl, H, hx, hS, n0, n1, hSe⟩
  by_cases hlt : i < xs.length
  · obtain ⟨x, hxx, hd⟩ := drop_at hlt
    rw [hd, endGo] at hx
    obtain ⟨k, hk, hkl, hky⟩ := jA_get rfl (hin x (List.mem_of_getElem? hxx))
    have jb := job_of (job_at hg hky)
    generalize hJ : jA js x = y at hx hky jb
    subst hk
    rw [Int.toNat_natCast] at hx
    have lx := load_I (hus.pre H.pre) hxx
    have ly := load_J (hjs.pre H.pre) hky
    have ix := (load_I (H.sees 0 rfl) (gE_get (l := S) (i := k) (by omega))).1
    obtain ⟨h2, s2, H2, _⟩ := put_I H 0 rfl (j := k) (by omega) (max now y.r + y.t)
    have wM : IntKind.i64.wrap (max now y.r + y.t) = max now y.r + y.t := by rw [wrap_ok] <;> omega
    simp -implicitDefEqProofs [-indexAddrP_some, hlt, lx, ly, foldI, mx_if, wM, ix, s2, winc hlt (by omega)]
    refine ⟨m - 1, by omega, on hI ⟨i + 1, _, _, by omega, rfl, H2, hx, by rw [List.length_set]; exact hS, by omega, by omega, fun e he => ?_⟩⟩
    rcases List.mem_or_eq_of_mem_set he with g | g
    · exact hSe e g
    · omega
  · rw [List.drop_eq_nil_of_le (by omega), endGo] at hx
    subst hx
    simp -implicitDefEqProofs [hlt]
    exact onK hK ⟨(H.ret 0 rfl).1, (H.ret 0 rfl).2, hSe⟩
end Go.Pm.PP

/- The next order of a list, in place. -/
set_option linter.unusedVariables false
set_option linter.unusedSimpArgs false
set_option maxRecDepth 4000
set_option maxHeartbeats 4000000
namespace Go.Pm.PE
end Go.Pm.PE
namespace Go.Pm.PP
open Go.Pm Go.Proofs Go.Pm.PE
end Go.Pm.PP

/- What is seen stands where a box is written; what may be written in a head; numbers up to n. -/
set_option linter.unusedVariables false
set_option linter.unusedSimpArgs false
set_option maxRecDepth 4000
set_option maxHeartbeats 4000000
namespace Go.Pm.PP
open Go.Pm Go.Proofs
theorem nr_mod {b : Nat} {h h' : Hp} (n : NR b h') (m : NR h.length h') (hp : h.take b <+: h') : modOk b h h' := ⟨m.1, hp, by
  rw [List.all_eq_true]
  intro x hx
  cases x with
  | none => rfl
  | some x =>
    obtain ⟨k, hk⟩ := List.getElem?_of_mem hx
    rw [List.getElem?_drop] at hk
    simp [n.2 _ x (by omega) hk]⟩
theorem nr_self {h : Hp} : NR h.length h := ⟨Nat.le_refl _, fun r x hr hx => by rw [List.getElem?_eq_none hr] at hx; cases hx⟩
theorem app_mod {b : Nat} {h h1 h' : Hp} {t : TypeId} {s x v : Value} (hb : h.length = b) (n : NR b h1) (e : appendP P h1 t s x = some (v, h')) (hp : h <+: h1) (hp' : h <+: h') : modOk b h1 h' :=
  nr_mod (append_nr n e) (append_nr nr_self e) (by
    subst hb
    obtain ⟨l, rfl⟩ := hp
    rw [List.take_left' rfl]
    exact hp')
end Go.Pm.PP
namespace Go.Pm
theorem Holds.one {h0 h : Hp} {L : List Asn} {A : Asn} (H : Holds h0 h L) (i : Nat) (hi : L[i]? = some A) : Holds h0 h [A] :=
  H.sub (fun _ => i) (fun j B hB => by
    match j, hB with
    | 0, hB => cases hB; exact hi
    | j + 1, hB => cases hB) fun j k B C hB hC _ => by
    match j, k, hB, hC with
    | 0, 0, _, _ => rfl
    | j + 1, _, hB, _ => cases hB
    | _, k + 1, _, hC => cases hC
end Go.Pm

/- The best order of jobs: the reference's search. -/
set_option linter.unusedVariables false
set_option linter.unusedSimpArgs false
set_option maxRecDepth 4000
set_option maxHeartbeats 8000000
namespace Go.Pm.PP
open Go.Pm Go.Proofs Go.Pm.PE
/-- What a search has found. -/
structure Sr where
  o : List Int
  v : Int
  c : Int
def valX (o : Int) (js : List Job) (xs : List Int) : Int := valE o js (endsL js xs)
def updS (f : List Int → Int) (b : Sr) (xs : List Int) : Sr := if b.c = 0 ∨ f xs < b.v then ⟨xs, f xs, 1⟩ else if f xs = b.v then ⟨b.o, b.v, w64 (b.c + 1)⟩ else b
theorem Sees.gcU {h0 h : Hp} {v u : Value} {sz : Nat} {els : List (List Value)} (s : Sees h v sz els) (hu : plain u = true → plainC v = true) : Sees (gc h0 h u) v sz els := by
  rcases gc_cases h0 h u with g | ⟨hp, g⟩ <;> rw [g]
  · exact s
  · have hv := hu hp
    obtain ⟨h1, oa, c, rfl, h3⟩ := s
    rcases h3 with ⟨rfl, rfl, rfl⟩ | ⟨r, o, x, rfl, _⟩
    · exact ⟨by simp, none, 0, rfl, .inl ⟨rfl, rfl, rfl⟩⟩
    · cases hv
/-- An order of all jobs. -/
structure Ord (n : Nat) (xs : List Int) : Prop where
  len : xs.length = n
  inn : inN n xs
  nd : xs.Nodup
theorem Ord.all {n : Nat} {xs : List Int} (o : Ord n xs) {i : Nat} (hi : i < n) : (i : Int) ∈ xs :=
  pigeon xs (upTo n) o.nd (fun x hx => mem_upTo.2 (o.inn x hx)) (by rw [upTo_len, o.len]; omega) i (mem_upTo.2 (by omega))
section
variable {h : Hp} {v u : Value} {js : List Job} {xs : List Int} {o : Int}
theorem valueOf_run (hj : Jobs h v js) (hu : Ints h u xs) (hg : goodL js = true) (hn : js.length ≤ 8) (ho : 1 ≤ o ∧ o ≤ 8) (hx : Ord js.length xs) : Ret P G n_impl_valueOf [v, u, .int .i64 o] h (.int .i64 (valX o js xs)) h := by
  refine enter_run e_impl_valueOf (by simp) ?_
  have hjs := hj
  obtain ⟨oj, cj, rfl⟩ := hj.shapeT
  simp -implicitDefEqProofs
  refine CL_post (endsOf_run hjs hu hg hn (by rw [hx.len]; exact hn) hx.inn) fun v1 h1 ⟨hp1, ho1, hb1⟩ => ?_
  have r := valueOfEnds_run (o := o) (hjs.pre hp1) ho1.sees hg hn endsL_len (fun e he => by have := hb1 e he; omega) ho
  simp -implicitDefEqProofs [CL_ret r]
  exact ⟨rfl, gcP hp1 rfl⟩
end
end Go.Pm.PP

/- The best order of jobs: both. -/
set_option linter.unusedVariables false
set_option linter.unusedSimpArgs false
set_option maxRecDepth 4000
set_option maxHeartbeats 8000000
namespace Go.Pm.PE
end Go.Pm.PE
namespace Go.Pm
/-- What stands in between is let go. -/
theorem Holds.cut {h0 h : Hp} {A B C : List Asn} (H : Holds h0 h ((A ++ B) ++ C)) : Holds h0 h (A ++ C) := by
  refine Holds.weak (T := B) (H.perm ?_)
  rw [List.append_assoc, List.append_assoc]
  exact List.Perm.append_left A List.perm_append_comm
end Go.Pm
namespace Go.Pm.PP
open Go.Pm Go.Proofs Go.Pm.PE
def ordsL (n : Nat) : List (List Int) := perms (upTo n) n
def sr0 : Sr := ⟨[], 0, 0⟩
def bestR (f : List Int → Int) (n : Nat) : Sr := (ordsL n).foldl (updS f) sr0
theorem plainT {vo : Value} {r : List Value} (h : plain (.tuple (vo :: r).toArray) = true) : plainC vo = true := by
  have : ((vo :: r).toArray : Array Value).toList.all plainC = true := h
  simp only [List.all_cons, Bool.and_eq_true] at this
  exact this.1
/-! ### all orders by the program -/
def bx4 (p q r : Nat) (vf : Value) (b : Sr) : List Asn := [.box p [vf], .box q [.int .i64 b.v], .box r [.int .i64 b.c], .own vf 1 (b.o.map encI)]
end Go.Pm.PP

/- Best orders and exchanges of neighbours, in plain terms. -/
set_option linter.unusedVariables false
set_option linter.unusedSimpArgs false
namespace Go.Pm.PE
end Go.Pm.PE
namespace Go.Pm.PP
open Go.Pm Go.Pm.PE
/-! ### exchanges of neighbours -/
def swp (xs : List Int) (i : Nat) : List Int := (xs.set i (gE xs (i + 1))).set (i + 1) (gE xs i)
def gn (f : List Int → Int) (xs : List Int) (i : Nat) : Int := f xs - f (swp xs i)
end Go.Pm.PP

/- Typed rules for slices: printed by a program of this work (wrap.py). -/
set_option linter.unusedVariables false
set_option linter.unusedSimpArgs false
set_option maxRecDepth 4000
namespace Go.Pm.PP
def encU (x : Int) : List Value := [.int .u8 x]
open Go.Pm Go.Proofs
theorem load_U {h : Hp} {v : Value} {xs : List (Int)} {i : Nat} {x : Int} (hv : Sees h v 1 (xs.map encU)) (hx : xs[i]? = some x) :
    indexAddrP P h t_S_u8 v (.int .i64 i) = some (.pointer (some (addP (base v) (i)))) ∧ loadP P h t_u8 (.pointer (some (addP (base v) (i)))) = some (.int .u8 x) := by
  have hi := (List.getElem?_eq_some_iff.1 hx).1
  have h1 := hv.indexT (P := P) u_S_u8 i_u8 (k := .i64) (j := i) (by omega) (by omega)
  rw [Int.toNat_natCast] at h1
  have h2 := hv.cellT (P := P) (ty := t_u8) a_u8 i_u8 hx (k := 0) (by omega)
  exact ⟨by simpa using h1, by simpa [encU] using h2⟩
theorem len_U (xs : List (Int)) : ∀ e ∈ xs.map encU, e.length = 1 := by
  intro e he
  obtain ⟨x, _, rfl⟩ := List.mem_map.1 he
  rfl
theorem ones_U (xs : List (Int)) : (xs.map encU).flatten.all one = true := by
  induction xs with
  | nil => rfl
  | cons x xs ih => rw [List.map_cons, List.flatten_cons, List.all_append, ih]; rfl
theorem push_U0 {h0 h : Hp} {L : List Asn} (H : Holds h0 h L) (i : Nat) {v : Value} {xs : List (Int)} (hi : L[i]? = some (.own v 1 (xs.map encU))) (x : Int) (hn : xs.length ≤ 2 ^ 40) :
    ∃ v' h', appendP P (h ++ [some ⟨[.int .u8 x], 1, false⟩]) t_S_u8 v (.slice (some ⟨h.length, 0, some 1⟩) 1 1) = some (v', h') ∧ Holds h0 h' (L.set i (.own v' 1 ((xs ++ [x]).map encU))) ∧ Keeps (rowV v) h h' ∧ (rowV v = none → newOk (h ++ [some ⟨[.int .u8 x], 1, false⟩]) h') := by
  obtain ⟨v', h', g1, g2, g3, g4⟩ := (H.ext (List.prefix_append h [])).push (P := P) i (y := encU x) (n := 1) hi u_S_u8 e_t_u8 z_t_u8 s_t_u8 (by omega) (by rw [b_t_u8]; omega) rfl rfl (by simp [encU]) (by rw [b_t_u8]; simp; omega)
  rw [show xs.map encU ++ [encU x] = (xs ++ [x]).map encU by simp] at g2
  exact ⟨v', h', by simpa [encU] using g1, g2, Keeps.app.trans g3, by simpa [encU] using g4⟩
theorem app_U {h0 h : Hp} {L : List Asn} (H : Holds h0 h L) (i : Nat) {v u : Value} {xs ys : List (Int)} (hi : L[i]? = some (.own v 1 (xs.map encU))) (s : Sees h u 1 (ys.map encU)) (hn : xs.length + ys.length ≤ 2 ^ 40) :
    ∃ v' h', appendP P h t_S_u8 v u = some (v', h') ∧ Holds h0 h' (L.set i (.own v' 1 ((xs ++ ys).map encU))) ∧ Keeps (rowV v) h h' := by
  obtain ⟨v', h', g1, g2, g3⟩ := H.app (P := P) i hi u_S_u8 e_t_u8 z_t_u8 s_t_u8 (by omega) (by rw [b_t_u8]; omega) s (ones_U ys) (by rw [b_t_u8]; simp; omega)
  rw [← List.map_append] at g2
  exact ⟨v', h', g1, g2, g3⟩
end Go.Pm.PP

/- Draws: bytes, numbers, one of some. -/
set_option linter.unusedVariables false
set_option linter.unusedSimpArgs false
set_option maxRecDepth 4000
set_option maxHeartbeats 8000000
namespace Go.Pm.PP
open Go.Pm Go.Proofs Go.Pm.PE
/-- A cursor over bytes. -/
abbrev cu (r : Nat) (vc : Value) (at' sd : Int) : Asn := .box r [vc, .int .i64 at', .int .u64 sd]
/-- A code that is read. -/
def By (h0 : Hp) (vc : Value) : Prop := ∃ bs : List Int, Sees h0 vc 1 (bs.map encU) ∧ (∀ b, b ∈ bs → 0 ≤ b ∧ b ≤ 255) ∧ bs.length ≤ 2 ^ 20
def Cur (h0 h : Hp) (r : Nat) (vc : Value) (n : Nat) (L : List Asn) : Prop := ∃ a s : Int, 0 ≤ a ∧ a ≤ n ∧ Holds h0 h (cu r vc a s :: L)
section
variable {h0 h h' : Hp} {r n m : Nat} {vc u w : Value} {L T : List Asn}
theorem Cur.mono (C : Cur h0 h r vc n L) (hm : n ≤ m) : Cur h0 h r vc m L := by
  obtain ⟨a, s, h1, h2, H⟩ := C
  exact ⟨a, s, h1, by omega, H⟩
theorem Cur.weak (C : Cur h0 h r vc n (L ++ T)) : Cur h0 h r vc n L := by
  obtain ⟨a, s, h1, h2, H⟩ := C
  exact ⟨a, s, h1, h2, Holds.weak (T := T) H⟩
theorem Cur.pre (C : Cur h0 h r vc n L) : h0 <+: h := by
  obtain ⟨a, s, h1, h2, H⟩ := C
  exact H.pre
/-- At a function's end. -/
theorem Cur.gc (C : Cur h0 h r vc n L) (C' : Cur h0 h' r vc m L) : Cur h0 (gc h h' u) r vc m L := by
  obtain ⟨a, s, _, _, H⟩ := C
  obtain ⟨a', s', h1, h2, H'⟩ := C'
  exact ⟨a', s', h1, h2, H.gcR H' rfl⟩
theorem Cur.gcO {sz : Nat} {els : List (List Value)} (C : Cur h0 h r vc n L) (C' : Cur h0 h' r vc m (L ++ [.own w sz els])) (hu : plain u = true → plainC w = true) : Cur h0 (Pm.gc h h' u) r vc m (L ++ [.own w sz els]) := by
  obtain ⟨a, s, _, _, H⟩ := C
  obtain ⟨a', s', h1, h2, H'⟩ := C'
  refine ⟨a', s', h1, h2, ?_⟩
  rcases gc_cases h h' u with g | ⟨hp, g⟩
  · rw [g]; exact H'
  · have G := H.gcR (u := u) (L' := cu r vc a' s' :: L) (Holds.weak (L := cu r vc a' s' :: L) (T := [.own w sz els]) H') rfl
    rw [g] at G ⊢
    have hw := hu hp
    have ho := H'.own (L.length + 1) (v := w) (sz := sz) (els := els) (by
      rw [List.getElem?_cons_succ, List.getElem?_append_right (Nat.le_refl _), Nat.sub_self]; rfl)
    have hn : els = [] := by
      rcases ho.2 with ⟨_, h2⟩ | ⟨_, _, _, _, _, h2, _⟩
      · exact h2
      · rw [h2] at hw; cases hw
    subst hn
    have hw2 : w = nilV := by
      obtain ⟨a, c, e⟩ := ho.sees.shape
      rw [e] at hw ⊢
      simp only [List.length_nil] at hw ⊢
      match a, c, hw with
      | none, 0, _ => rfl
    subst hw2
    exact G.call List.prefix_rfl Own.nil
end
theorem wrap_u64 {n : Int} (h1 : 0 ≤ n) (h2 : n ≤ 255) : IntKind.u64.wrap n = n := by
  unfold IntKind.wrap
  simp [IntKind.signed, IntKind.bits]
  omega
theorem and_bd (p : Nat) : 0 ≤ IntKind.i64.wrap (IntKind.u64.wrap ↑(p &&& (255 % 2 ^ IntKind.u64.bits : Int).toNat)) ∧ IntKind.i64.wrap (IntKind.u64.wrap ↑(p &&& (255 % 2 ^ IntKind.u64.bits : Int).toNat)) ≤ 255 := by
  have e : (255 % 2 ^ IntKind.u64.bits : Int).toNat = 255 := by decide
  rw [e]
  have : p &&& 255 ≤ 255 := Nat.and_le_right
  rw [wrap_u64 (by omega) (by omega), wrap_ok (by omega) (by omega)]
  omega
theorem emod_le' {a k : Int} (h : 0 ≤ a) (hk : 0 ≤ k) : a % k ≤ a := by
  obtain ⟨n, rfl⟩ := Int.eq_ofNat_of_zero_le h
  obtain ⟨m, rfl⟩ := Int.eq_ofNat_of_zero_le hk
  have := Nat.mod_le n m
  rw [← Int.natCast_emod]
  exact Int.ofNat_le.2 this
theorem cv1 {b : Int} : convP P t_u8 t_int (.int .u8 b) = some (.int .i64 (IntKind.i64.wrap b)) := by unfold convP; rw [u_u8, u_int]
theorem cv2 {b : Int} : convP P t_int t_u64 (.int .i64 b) = some (.int .u64 (IntKind.u64.wrap b)) := by unfold convP; rw [u_int, u_u64]
theorem cv3 {b : Int} : convP P t_u64 t_int (.int .u64 b) = some (.int .i64 (IntKind.i64.wrap b)) := by unfold convP; rw [u_u64, u_int]
theorem shr40 (a : Int) : ∃ z : Int, shiftI .shr .u64 a 40 = some (.int .u64 z) := ⟨_, rfl⟩
section
variable {h0 h : Hp} {r n : Nat} {vc : Value} {L : List Asn}
theorem next_run (B : By h0 vc) (C : Cur h0 h r vc n L) (hn : n ≤ 2 ^ 50) : RunsC P G n_spec_l1Cur_next [.pointer (some ⟨r, 0, some 3⟩)] h fun v h' => ∃ x : Int, v = .int .i64 x ∧ 0 ≤ x ∧ x ≤ 255 ∧ Cur h0 h' r vc (n + 1) L := by
  refine hideC fun K hK => enter_run e_spec_l1Cur_next (by simp) ?_
  have Cs := C
  obtain ⟨bs, Sb, hb, hl⟩ := B
  obtain ⟨a, s, a0, a1, H⟩ := C
  obtain ⟨ob, cb, rfl⟩ := Sb.shapeT
  have Sb' := Sb.pre H.pre
  have l1 := H.bl (P := P) 0 3 rfl rfl
  obtain ⟨h1, s1, H1, _⟩ := H.set (P := P) 0 (n := 3) (o := 1) (ty := t_int) (w := .int .i64 (a + 1)) rfl rfl e_t_int (by simp) (by simp) (by simp)
  have l2 := H1.bl (P := P) 0 3 rfl rfl
  have wa : IntKind.i64.wrap (a + 1) = a + 1 := by rw [wrap_ok] <;> omega
  by_cases c1 : a < bs.length
  · obtain ⟨b, hbb, _⟩ := drop_at (show a.toNat < bs.length by omega)
    have lb := load_U Sb' hbb
    rw [show ((a.toNat : Nat) : Int) = a by omega] at lb
    have hb' := hb b (List.mem_of_getElem? hbb)
    have wb : IntKind.i64.wrap b = b := by rw [wrap_ok] <;> omega
    have c2 : a + 1 ≤ bs.length := by omega
    obtain ⟨h2, s2, H2, _⟩ := H1.set (P := P) 0 (n := 3) (o := 2) (ty := t_u64) (w := .int .u64 (IntKind.u64.wrap (IntKind.u64.wrap (IntKind.u64.wrap (s * 6364136223846793005) + IntKind.u64.wrap b) + 462197))) rfl rfl e_t_u64 (by simp) (by simp) (by simp)
    have l3 := H2.bl (P := P) 0 3 rfl rfl
    simp -implicitDefEqProofs [-indexAddrP_some, l1, c1, lb, wb, wa, s1, l2, s2, l3, c2, cv1, cv2, cv3]
    exact onK hK ⟨b, rfl, hb'.1, hb'.2, Cs.gc ⟨a + 1, _, by omega, by omega, H2⟩⟩
  · have c2 : ¬ a + 1 ≤ bs.length := by omega
    obtain ⟨h2, s2, H2, _⟩ := H1.set (P := P) 0 (n := 3) (o := 2) (ty := t_u64) (w := .int .u64 (IntKind.u64.wrap (IntKind.u64.wrap (IntKind.u64.wrap (s * 6364136223846793005) + IntKind.u64.wrap 0) + 462197))) rfl rfl e_t_u64 (by simp) (by simp) (by simp)
    have l3 := H2.bl (P := P) 0 3 rfl rfl
    obtain ⟨z, hz⟩ := shr40 (IntKind.u64.wrap (IntKind.u64.wrap (IntKind.u64.wrap (s * 6364136223846793005) + IntKind.u64.wrap 0) + 462197))
    simp -implicitDefEqProofs [-indexAddrP_some, l1, c1, wa, s1, l2, s2, l3, c2, cv1, cv2, cv3, hz]
    exact onK hK ⟨_, rfl, (and_bd _).1, (and_bd _).2, Cs.gc ⟨a + 1, _, by omega, by omega, H2⟩⟩
theorem pick_run (B : By h0 vc) (C : Cur h0 h r vc n L) (hn : n ≤ 2 ^ 40) {k : Int} (hk : k ≤ 2 ^ 40) : RunsC P G n_spec_l1Cur_pick [.pointer (some ⟨r, 0, some 3⟩), .int .i64 k] h fun v h' => ∃ x : Int, v = .int .i64 x ∧ 0 ≤ x ∧ x ≤ 2 ^ 20 ∧ (1 ≤ k → x < k) ∧ Cur h0 h' r vc (n + 2) L := by
  refine hideC fun K hK => enter_run e_spec_l1Cur_pick (by simp) ?_
  by_cases c0 : k ≤ 1
  · simp -implicitDefEqProofs [c0]
    exact onK hK ⟨0, rfl, by omega, by omega, fun h => by omega, C.mono (by omega)⟩
  · simp -implicitDefEqProofs [c0]
    refine CL_post (next_run B C (by omega)) fun v h1 ⟨x, ev, x0, x1, C1⟩ => ?_
    subst ev
    have k0 : ¬ k = 0 := by omega
    by_cases c1 : 200 < k
    · have w1 : IntKind.i64.wrap (x * 256) = x * 256 := by rw [wrap_ok] <;> omega
      simp -implicitDefEqProofs [c1, w1]
      refine CL_post (next_run B C1 (by omega)) fun v h2 ⟨y, ev, y0, y1, C2⟩ => ?_
      subst ev
      have w2 : IntKind.i64.wrap (x * 256 + y) = x * 256 + y := by rw [wrap_ok] <;> omega
      have e : (x * 256 + y).tmod k = (x * 256 + y) % k := Int.tmod_eq_emod_of_nonneg (by omega)
      have m1 := Int.emod_nonneg (x * 256 + y) k0
      have m2 := Int.emod_lt_of_pos (x * 256 + y) (show 0 < k by omega)
      have m3 : (x * 256 + y) % k ≤ x * 256 + y := emod_le' (by omega) (by omega)
      simp -implicitDefEqProofs [w2, k0, e]
      exact onK hK ⟨_, rfl, m1, by omega, fun _ => m2, C.gc C2⟩
    · have e : x.tmod k = x % k := Int.tmod_eq_emod_of_nonneg x0
      have m1 := Int.emod_nonneg x k0
      have m2 := Int.emod_lt_of_pos x (show 0 < k by omega)
      have m3 : x % k ≤ x := emod_le' x0 (by omega)
      simp -implicitDefEqProofs [c1, k0, e]
      exact onK hK ⟨_, rfl, m1, by omega, fun _ => m2, C.gc (C1.mono (by omega))⟩
theorem one_run (B : By h0 vc) (C : Cur h0 h r vc n L) (hn : n ≤ 2 ^ 40) {k : Int} (hk : k ≤ 2 ^ 40) : RunsC P G n_spec_l1Cur_one [.pointer (some ⟨r, 0, some 3⟩), .int .i64 k] h fun v h' => ∃ b : Bool, v = .bool b ∧ Cur h0 h' r vc (n + 2) L := by
  refine hideC fun K hK => enter_run e_spec_l1Cur_one (by simp) ?_
  simp -implicitDefEqProofs
  refine CL_post (pick_run B C hn hk) fun v h1 ⟨x, ev, _, _, _, C1⟩ => ?_
  subst ev
  simp -implicitDefEqProofs
  exact onK hK ⟨_, rfl, C.gc C1⟩
theorem among_run (B : By h0 vc) {xs : List Int} {vl : Value} {i : Nat} (C : Cur h0 h r vc n L) (hn : n ≤ 2 ^ 40) (hi : L[i]? = some (.own vl 1 (xs.map encI))) (h1 : 1 ≤ xs.length) (h2 : xs.length ≤ 2 ^ 40) :
    RunsC P G n_spec_l1Cur_among [.pointer (some ⟨r, 0, some 3⟩), vl] h fun v h' => ∃ x : Int, v = .int .i64 x ∧ x ∈ xs ∧ Cur h0 h' r vc (n + 2) L := by
  refine hideC fun K hK => enter_run e_spec_l1Cur_among (by simp) ?_
  have S0 : Ints h vl xs := by obtain ⟨a, s, _, _, H⟩ := C; exact H.sees (i + 1) (by rw [List.getElem?_cons_succ]; exact hi)
  obtain ⟨oa, ca, rfl⟩ := S0.shapeT
  simp -implicitDefEqProofs
  refine CL_post (pick_run B C hn (k := xs.length) (by omega)) fun v h3 ⟨x, ev, x0, _, xk, C1⟩ => ?_
  subst ev
  have hx := xk (by omega)
  have S1 : Ints h3 (.slice oa xs.length ca) xs := by obtain ⟨a, s, _, _, H⟩ := C1; exact H.sees (i + 1) (by rw [List.getElem?_cons_succ]; exact hi)
  obtain ⟨y, hy, _⟩ := drop_at (show x.toNat < xs.length by omega)
  have ly := load_I S1 hy
  rw [show ((x.toNat : Nat) : Int) = x by omega] at ly
  simp -implicitDefEqProofs [-indexAddrP_some, ly]
  exact onK hK ⟨y, rfl, List.mem_of_getElem? hy, C.gc C1⟩
/-- A list that is told. -/
theorem Cur.lit (C : Cur h0 h r vc n L) (xs : List Int) : Cur h0 (h ++ [some ⟨xs.map fun x => .int .i64 x, 1, false⟩]) r vc n (L ++ [.own (.slice (some ⟨h.length, 0, some xs.length⟩) xs.length xs.length) 1 (xs.map encI)]) := by
  obtain ⟨a, s, h1, h2, H⟩ := C
  refine ⟨a, s, h1, h2, ?_⟩
  have e : (xs.map encI).flatten = xs.map fun x => Value.int .i64 x := by
    induction xs with
    | nil => rfl
    | cons x xs ih => rw [List.map_cons, List.flatten_cons, ih]; rfl
  have := H.lit (sz := 1) (n := xs.length) (els := xs.map encI) (len_I xs) (by simp)
  rw [e, List.length_map] at this
  exact this
theorem snoc_get {A : Asn} : (L ++ [A])[L.length]? = some A := by rw [List.getElem?_append_right (Nat.le_refl _), Nat.sub_self]; rfl
theorem objective_run (B : By h0 vc) (C : Cur h0 h r vc n L) (hn : n ≤ 2 ^ 30) : RunsC P G n_spec_l1Cur_objective [.pointer (some ⟨r, 0, some 3⟩)] h fun v h' => ∃ x : Int, v = .int .i64 x ∧ Cur h0 h' r vc (n + 4) L := by
  refine hideC fun K hK => enter_run e_spec_l1Cur_objective (by simp) ?_
  simp -implicitDefEqProofs
  refine CL_post (one_run B C (by omega) (by omega)) fun v h1 ⟨b, ev, C1⟩ => ?_
  subst ev
  cases b
  · simp -implicitDefEqProofs
    refine CL_post (pick_run B C1 (by omega) (k := 8) (by omega)) fun v h2 ⟨x, ev, x0, x1, _, C2⟩ => ?_
    subst ev
    simp -implicitDefEqProofs
    exact onK hK ⟨_, rfl, C.gc (C2.mono (by omega))⟩
  · have C2 := C1.lit [0, 9, -1]
    simp -implicitDefEqProofs
    refine CL_post (among_run B C2 (by omega) snoc_get (by simp) (by simp)) fun v h2 ⟨x, ev, _, C3⟩ => ?_
    subst ev
    simp -implicitDefEqProofs
    exact onK hK ⟨_, rfl, C.gc (C3.weak.mono (by omega))⟩
end
end Go.Pm.PP

/- Draws: jobs and orders. -/
set_option linter.unusedVariables false
set_option linter.unusedSimpArgs false
set_option maxRecDepth 4000
set_option maxHeartbeats 8000000
namespace Go.Pm.PP
open Go.Pm Go.Proofs Go.Pm.PE
section
variable {h0 h : Hp} {r n : Nat} {vc : Value} {L : List Asn}
theorem Cur.alloc (C : Cur h0 h r vc n L) (cs : List Value) : Cur h0 (h ++ [some ⟨cs, 0, false⟩]) r vc n (L ++ [.box h.length cs]) := by
  obtain ⟨a, s, h1, h2, H⟩ := C
  exact ⟨a, s, h1, h2, H.alloc cs⟩
abbrev zJ : List Value := [.int .i64 0, .int .i64 0, .int .i64 0, .int .i64 0]
theorem job_run (B : By h0 vc) (C : Cur h0 h r vc n L) (hn : n ≤ 2 ^ 30) {b : Bool} : RunsC P G n_spec_l1Cur_job [.pointer (some ⟨r, 0, some 3⟩), .bool b] h fun v h' => ∃ j : Job, v = jv j ∧ Cur h0 h' r vc (n + 8) L := by
  refine hideC fun K hK => enter_run e_spec_l1Cur_job (by simp) ?_
  have C0 := C.alloc zJ
  have C1 : Cur h0 (h ++ [some ⟨zJ, 0, false⟩, some ⟨([1, 2, 3, 4, 5, 7, 9] : List Int).map fun x => .int .i64 x, 1, false⟩]) r vc n ((L ++ [.box h.length zJ]) ++ [.own (.slice (some ⟨h.length + 1, 0, some 7⟩) 7 7) 1 (([1, 2, 3, 4, 5, 7, 9] : List Int).map encI)]) := by
    have := C0.lit [1, 2, 3, 4, 5, 7, 9]
    rw [List.append_assoc h, List.length_append] at this
    exact this
  simp -implicitDefEqProofs
  refine CL_post (among_run B C1 (by omega) snoc_get (xs := [1, 2, 3, 4, 5, 7, 9]) (by simp) (by simp)) fun v h1 ⟨x, ev, _, C2⟩ => ?_
  subst ev
  have C3 := C2.weak.lit [0, 1, 1, 2, 3, 5, 8]
  simp -implicitDefEqProofs
  refine CL_post (among_run B C3 (by omega) snoc_get (xs := [0, 1, 1, 2, 3, 5, 8]) (by simp) (by simp)) fun v h2 ⟨y, ev, _, C4⟩ => ?_
  subst ev
  simp -implicitDefEqProofs
  refine CL_post (pick_run B C4.weak (by omega) (k := 24) (by omega)) fun v h3 ⟨z, ev, _, _, _, C5⟩ => ?_
  subst ev
  have C6 := C5.alloc [.int .i64 x, .int .i64 y, .int .i64 0, .int .i64 z]
  have g4 : ∀ {A : Asn} {x : List Value} {T : List Asn}, (A :: ((L ++ [.box h.length x]) ++ T))[L.length + 1]? = some (.box h.length x) := by
    intro A x T
    rw [List.getElem?_cons_succ, List.append_assoc, List.getElem?_append_right (Nat.le_refl _), Nat.sub_self]; rfl
  cases b
  · obtain ⟨a, s, g1, g2, H⟩ := C6
    obtain ⟨h4, s4, H4, _⟩ := H.set (P := P) (L.length + 1) (n := 4) (o := 0) (ty := t_impl_Job) (w := jv ⟨x, y, 0, z⟩) (r := h.length) (cs := zJ) g4 rfl e_t_impl_Job (by simp) (by simp) (by simp)
    have e4 : (cu r vc a s :: ((L ++ [.box h.length zJ]) ++ [.box h3.length [.int .i64 x, .int .i64 y, .int .i64 0, .int .i64 z]])).set (L.length + 1) (.box h.length (splice zJ 0 (jv ⟨x, y, 0, z⟩).cells.toList)) = cu r vc a s :: ((L ++ [.box h.length [.int .i64 x, .int .i64 y, .int .i64 0, .int .i64 z]]) ++ [.box h3.length [.int .i64 x, .int .i64 y, .int .i64 0, .int .i64 z]]) := by
      rw [List.set_cons_succ, List.append_assoc, List.set_append_right (h := Nat.le_refl _), Nat.sub_self, List.append_assoc]; rfl
    rw [e4] at H4
    have s4' : storeP P (h3 ++ [some ⟨[.int .i64 x, .int .i64 y, .int .i64 0, .int .i64 z], 0, false⟩]) 77 (.agg #[.int .i64 x, .int .i64 y, .int .i64 0, .int .i64 z]) (.pointer (some ⟨h.length, 0, some 4⟩)) = some h4 := s4
    have l4 := H4.bl (P := P) (L.length + 1) 4 g4 rfl
    simp -implicitDefEqProofs
    simp -implicitDefEqProofs [-storeP_app0, s4', l4]
    exact onK hK ⟨⟨x, y, 0, z⟩, rfl, C.gc (Cur.weak (T := [.box h.length [.int .i64 x, .int .i64 y, .int .i64 0, .int .i64 z]] ++ [.box h3.length [.int .i64 x, .int .i64 y, .int .i64 0, .int .i64 z]]) ⟨a, s, g1, by omega, by rw [← List.append_assoc]; exact H4⟩)⟩
  · simp -implicitDefEqProofs
    refine CL_post (pick_run B C6 (by omega) (k := 12) (by omega)) fun v h4 ⟨q, ev, _, _, _, C7⟩ => ?_
    subst ev
    obtain ⟨a, s, g1, g2, H⟩ := C7
    have g5 : ∀ {A : Asn} {x : List Value} {B : Asn}, (A :: ((L ++ [B]) ++ [.box h3.length x]))[L.length + 1 + 1]? = some (.box h3.length x) := by
      intro A x B
      rw [List.getElem?_cons_succ, List.append_assoc, List.getElem?_append_right (by omega), Nat.add_sub_cancel_left]; rfl
    obtain ⟨h5, s5, H5, _⟩ := H.set (P := P) (L.length + 1 + 1) (n := 4) (o := 2) (ty := t_int) (w := .int .i64 q) g5 rfl e_t_int (by simp) (by simp) (by simp)
    have e5 : (cu r vc a s :: ((L ++ [.box h.length zJ]) ++ [.box h3.length [.int .i64 x, .int .i64 y, .int .i64 0, .int .i64 z]])).set (L.length + 1 + 1) (.box h3.length (splice [.int .i64 x, .int .i64 y, .int .i64 0, .int .i64 z] 2 (Value.int .i64 q).cells.toList)) = cu r vc a s :: ((L ++ [.box h.length zJ]) ++ [.box h3.length [.int .i64 x, .int .i64 y, .int .i64 q, .int .i64 z]]) := by
      rw [List.set_cons_succ, List.append_assoc, List.set_append_right (h := by omega), Nat.add_sub_cancel_left, List.append_assoc]; rfl
    rw [e5] at H5
    have l5 := H5.bl (P := P) (L.length + 1 + 1) 4 g5 rfl
    obtain ⟨h6, s6, H6, _⟩ := H5.set (P := P) (L.length + 1) (n := 4) (o := 0) (ty := t_impl_Job) (w := jv ⟨x, y, q, z⟩) (r := h.length) (cs := zJ) g4 rfl e_t_impl_Job (by simp) (by simp) (by simp)
    have e6 : (cu r vc a s :: ((L ++ [.box h.length zJ]) ++ [.box h3.length [.int .i64 x, .int .i64 y, .int .i64 q, .int .i64 z]])).set (L.length + 1) (.box h.length (splice zJ 0 (jv ⟨x, y, q, z⟩).cells.toList)) = cu r vc a s :: ((L ++ [.box h.length [.int .i64 x, .int .i64 y, .int .i64 q, .int .i64 z]]) ++ [.box h3.length [.int .i64 x, .int .i64 y, .int .i64 q, .int .i64 z]]) := by
      rw [List.set_cons_succ, List.append_assoc, List.set_append_right (h := Nat.le_refl _), Nat.sub_self, List.append_assoc]; rfl
    rw [e6] at H6
    have s6' : storeP P h5 77 (.agg #[.int .i64 x, .int .i64 y, .int .i64 q, .int .i64 z]) (.pointer (some ⟨h.length, 0, some 4⟩)) = some h6 := s6
    have l6 := H6.bl (P := P) (L.length + 1) 4 g4 rfl
    simp -implicitDefEqProofs [-storeP_app0, s5, l5, s6', l6]
    exact onK hK ⟨⟨x, y, q, z⟩, rfl, C.gc (Cur.weak (T := [.box h.length [.int .i64 x, .int .i64 y, .int .i64 q, .int .i64 z]] ++ [.box h3.length [.int .i64 x, .int .i64 y, .int .i64 q, .int .i64 z]]) ⟨a, s, g1, by omega, by rw [← List.append_assoc]; exact H6⟩)⟩
end
end Go.Pm.PP

/- Draws: spoilt jobs, lists of jobs. -/
set_option linter.unusedVariables false
set_option linter.unusedSimpArgs false
set_option maxRecDepth 4000
set_option maxHeartbeats 8000000
namespace Go.Pm.PP
open Go.Pm Go.Proofs Go.Pm.PE
section
variable {h0 h : Hp} {r n : Nat} {vc : Value} {L : List Asn}
theorem spoiltJob_run (B : By h0 vc) (C : Cur h0 h r vc n L) (hn : n ≤ 2 ^ 30) {j : Job} : RunsC P G n_spec_l1Cur_spoiltJob [.pointer (some ⟨r, 0, some 3⟩), jv j] h fun v h' => ∃ j' : Job, v = jv j' ∧ Cur h0 h' r vc (n + 4) L := by
  refine hideC fun K hK => enter_run e_spec_l1Cur_spoiltJob (by simp) ?_
  have C1 : Cur h0 (h ++ [some ⟨[.int .i64 j.t, .int .i64 j.w, .int .i64 j.r, .int .i64 j.d], 0, false⟩, some ⟨zJ, 0, false⟩]) r vc n ((L ++ [.box h.length (encJ j)]) ++ [.box (h.length + 1) zJ]) := by
    have := (C.alloc (encJ j)).alloc zJ
    rw [List.append_assoc h, List.length_append] at this
    exact this
  have g3 : ∀ {A : Asn} {x : List Value} {T : List Asn}, (A :: ((L ++ [.box h.length x]) ++ T))[L.length + 1]? = some (.box h.length x) := by
    intro A x T
    rw [List.getElem?_cons_succ, List.append_assoc, List.getElem?_append_right (Nat.le_refl _), Nat.sub_self]; rfl
  have g4 : ∀ {A : Asn} {x : List Value} {B : Asn}, (A :: ((L ++ [B]) ++ [.box (h.length + 1) x]))[L.length + 1 + 1]? = some (.box (h.length + 1) x) := by
    intro A x B
    rw [List.getElem?_cons_succ, List.append_assoc, List.getElem?_append_right (by omega), Nat.add_sub_cancel_left]; rfl
  have fin : ∀ (fo : Nat) (q : Int) (j' : Job) (h5 : Hp), fo + 1 ≤ 4 → splice (encJ j) fo [.int .i64 q] = encJ j' → Cur h0 h5 r vc (n + 4) ((L ++ [.box h.length (encJ j)]) ++ [.box (h.length + 1) zJ]) →
      ∃ h6 h7, storeP P h5 t_int (.int .i64 q) (.pointer (some ⟨h.length, fo, some 4⟩)) = some h6 ∧ loadP P h6 77 (.pointer (some ⟨h.length, 0, some 4⟩)) = some (.agg #[.int .i64 j'.t, .int .i64 j'.w, .int .i64 j'.r, .int .i64 j'.d]) ∧
        storeP P h6 77 (.agg #[.int .i64 j'.t, .int .i64 j'.w, .int .i64 j'.r, .int .i64 j'.d]) (.pointer (some ⟨h.length + 1, 0, some 4⟩)) = some h7 ∧ loadP P h7 77 (.pointer (some ⟨h.length + 1, 0, some 4⟩)) = some (.agg #[.int .i64 j'.t, .int .i64 j'.w, .int .i64 j'.r, .int .i64 j'.d]) ∧ ∀ u, K (jv j') (gc h h7 u) := by
    intro fo q j' h5 hfo he ⟨a, s, a0, a1, H⟩
    obtain ⟨h6, s6, H6, _⟩ := H.set (P := P) (L.length + 1) (n := 4) (o := fo) (ty := t_int) (w := .int .i64 q) g3 rfl e_t_int (by simp) (by simpa [encJ] using hfo) (by simp)
    rw [show (Value.int .i64 q).cells.toList = [.int .i64 q] from rfl, he] at H6
    have e6 : (cu r vc a s :: ((L ++ [.box h.length (encJ j)]) ++ [.box (h.length + 1) zJ])).set (L.length + 1) (.box h.length (encJ j')) = cu r vc a s :: ((L ++ [.box h.length (encJ j')]) ++ [.box (h.length + 1) zJ]) := by
      rw [List.set_cons_succ, List.append_assoc, List.set_append_right (h := Nat.le_refl _), Nat.sub_self, List.append_assoc]; rfl
    rw [e6] at H6
    have l6 := H6.bl (P := P) (L.length + 1) 4 g3 rfl t_impl_Job 0
    obtain ⟨h7, s7, H7, _⟩ := H6.set (P := P) (L.length + 1 + 1) (n := 4) (o := 0) (ty := t_impl_Job) (w := jv j') g4 rfl e_t_impl_Job (by simp) (by simp) (by simp)
    have e7 : (cu r vc a s :: ((L ++ [.box h.length (encJ j')]) ++ [.box (h.length + 1) zJ])).set (L.length + 1 + 1) (.box (h.length + 1) (splice zJ 0 (jv j').cells.toList)) = cu r vc a s :: ((L ++ [.box h.length (encJ j')]) ++ [.box (h.length + 1) (encJ j')]) := by
      rw [List.set_cons_succ, List.append_assoc, List.set_append_right (h := by omega), Nat.add_sub_cancel_left, List.append_assoc]; rfl
    rw [e7] at H7
    have l7 := H7.bl (P := P) (L.length + 1 + 1) 4 g4 rfl t_impl_Job 0
    refine ⟨h6, h7, s6, by rw [l6]; simp [encJ], s7, by rw [l7]; simp [encJ], fun u => onK hK ⟨j', rfl, C.gc (Cur.weak (T := [.box h.length (encJ j')] ++ [.box (h.length + 1) (encJ j')]) ⟨a, s, a0, by omega, by rw [← List.append_assoc]; exact H7⟩)⟩⟩
  simp -implicitDefEqProofs
  refine CL_post (pick_run B C1 (by omega) (k := 4) (by omega)) fun v h2 ⟨x, ev, x0, _, _, C2⟩ => ?_
  subst ev
  by_cases c0 : x = 0
  · subst c0
    simp -implicitDefEqProofs
    refine CL_post (among_run B (C2.lit [0, 50, 51, -1, 4611686018427387904]) (by omega) snoc_get (by simp) (by simp)) fun v h3 ⟨q, ev, _, C3⟩ => ?_
    subst ev
    obtain ⟨h6, h7, s6, l6, s7, l7, f⟩ := fin 0 q ⟨q, j.w, j.r, j.d⟩ h3 (by omega) rfl C3.weak
    simp -implicitDefEqProofs [s6, l6, s7, l7]
    exact f _
  · by_cases c1 : x = 1
    · subst c1
      simp -implicitDefEqProofs
      refine CL_post (among_run B (C2.lit [-1, 50, 51]) (by omega) snoc_get (by simp) (by simp)) fun v h3 ⟨q, ev, _, C3⟩ => ?_
      subst ev
      obtain ⟨h6, h7, s6, l6, s7, l7, f⟩ := fin 1 q ⟨j.t, q, j.r, j.d⟩ h3 (by omega) rfl C3.weak
      simp -implicitDefEqProofs [s6, l6, s7, l7]
      exact f _
    · by_cases c2 : x = 2
      · subst c2
        simp -implicitDefEqProofs
        refine CL_post (among_run B (C2.lit [-1, 500, 501]) (by omega) snoc_get (by simp) (by simp)) fun v h3 ⟨q, ev, _, C3⟩ => ?_
        subst ev
        obtain ⟨h6, h7, s6, l6, s7, l7, f⟩ := fin 2 q ⟨j.t, j.w, q, j.d⟩ h3 (by omega) rfl C3.weak
        simp -implicitDefEqProofs [s6, l6, s7, l7]
        exact f _
      · simp -implicitDefEqProofs [nb c0, nb c1, nb c2]
        refine CL_post (among_run B (C2.lit [-1, 500, 501, -9223372036854775808]) (by omega) snoc_get (by simp) (by simp)) fun v h3 ⟨q, ev, _, C3⟩ => ?_
        subst ev
        obtain ⟨h6, h7, s6, l6, s7, l7, f⟩ := fin 3 q ⟨j.t, j.w, j.r, q⟩ h3 (by omega) rfl C3.weak
        simp -implicitDefEqProofs [s6, l6, s7, l7]
        exact f _
end
end Go.Pm.PP

/- Draws: lists of jobs. -/
set_option linter.unusedVariables false
set_option linter.unusedSimpArgs false
set_option maxRecDepth 4000
set_option maxHeartbeats 16000000
namespace Go.Pm.PP
open Go.Pm Go.Proofs Go.Pm.PE
section
variable {h0 h : Hp} {r n : Nat} {vc : Value} {L : List Asn}
/-- Something is put at the end of a list of one's own that is drawn. -/
theorem Cur.pushJ {u : Value} {js : List Job} (C : Cur h0 h r vc n (L ++ [.own u 4 (js.map encJ)])) (j : Job) (hl : js.length ≤ 2 ^ 40) : ∃ u' h', appendP P (h ++ [some ⟨[.int .i64 j.t, .int .i64 j.w, .int .i64 j.r, .int .i64 j.d], 4, false⟩]) t_S_impl_Job u (.slice (some ⟨h.length, 0, some 4⟩) 1 1) = some (u', h') ∧ Cur h0 h' r vc n (L ++ [.own u' 4 ((js ++ [j]).map encJ)]) := by
  obtain ⟨a, s, h1, h2, H⟩ := C
  obtain ⟨u', h', g1, g2, _⟩ := push_J0 H (L.length + 1) (by rw [List.getElem?_cons_succ]; exact snoc_get) j hl
  refine ⟨u', h', g1, a, s, h1, h2, ?_⟩
  rw [List.set_cons_succ, List.set_append_right (h := Nat.le_refl _), Nat.sub_self] at g2
  exact g2
theorem Cur.seesJ {u : Value} {js : List Job} (C : Cur h0 h r vc n (L ++ [.own u 4 (js.map encJ)])) : Jobs h u js := by
  obtain ⟨a, s, h1, h2, H⟩ := C
  exact H.sees (L.length + 1) (by rw [List.getElem?_cons_succ]; exact snoc_get)
theorem Cur.putJ {u : Value} {js : List Job} (C : Cur h0 h r vc n (L ++ [.own u 4 (js.map encJ)])) {k : Nat} (hk : k < js.length) (j : Job) : ∃ h', storeP P h t_impl_Job (jv j) (.pointer (some (addP (base u) (k * 4)))) = some h' ∧ Cur h0 h' r vc n (L ++ [.own u 4 ((js.set k j).map encJ)]) := by
  obtain ⟨a, s, h1, h2, H⟩ := C
  obtain ⟨h', g1, g2, _⟩ := put_J H (L.length + 1) (by rw [List.getElem?_cons_succ]; exact snoc_get) hk j
  refine ⟨h', g1, a, s, h1, h2, ?_⟩
  rw [List.set_cons_succ, List.set_append_right (h := Nat.le_refl _), Nat.sub_self] at g2
  exact g2
theorem Cur.nil (C : Cur h0 h r vc n L) (α : Type) (enc : α → List Value) (sz : Nat) : Cur h0 h r vc n (L ++ [.own (.slice none 0 0) sz (([] : List α).map enc)]) := by
  obtain ⟨a, s, h1, h2, H⟩ := C
  exact ⟨a, s, h1, h2, H.call List.prefix_rfl (by simpa using Own.nil)⟩
theorem someJobs_run (B : By h0 vc) (C : Cur h0 h r vc n L) (hn : n ≤ 2 ^ 20) {b : Bool} {most : Nat} (hm : most ≤ 8) : RunsC P G n_spec_l1Cur_someJobs [.pointer (some ⟨r, 0, some 3⟩), .bool b, .int .i64 most] h fun v h' => ∃ js : List Job, js.length ≤ 9 ∧ Cur h0 h' r vc (n + 200) (L ++ [.own v 4 (js.map encJ)]) := by
  refine hideC fun K hK => enter_run e_spec_l1Cur_someJobs (by simp) ?_
  simp -implicitDefEqProofs
  refine CL_post (among_run B (C.lit [3, 4, 5, 2, 6, 1, 0]) (by omega) snoc_get (by simp) (by simp)) fun v h1 ⟨x, ev, hx, C1'⟩ => ?_
  subst ev
  have hx2 : 0 ≤ x ∧ x ≤ 6 := by
    simp only [List.mem_cons, List.not_mem_nil, or_false] at hx
    omega
  have C1 := C1'.weak
  obtain ⟨X, hX, hX2⟩ : ∃ X : Int, X = x ∧ 0 ≤ X ∧ X ≤ 9 := ⟨x, rfl, by omega, by omega⟩
  by_cases c : (6 : Int) < most
  case' neg =>
    rw [← hX]
    clear hX
    have C2 : Cur h0 h1 r vc (n + 6) L := C1.mono (by omega)
    obtain ⟨h2, hh2⟩ : ∃ h2, h2 = h1 := ⟨_, rfl⟩
    have c' : ¬ 6 < most := by omega
    simp -implicitDefEqProofs [c, c']
    rw [← hh2] at C2 ⊢
  case' pos =>
    clear hX hX2
    have c' : 6 < most := by omega
    simp -implicitDefEqProofs [c, c']
    refine CL_post (one_run B C1 (by omega) (k := 6) (by omega)) fun v h2 ⟨b2, ev, C1''⟩ => ?_
    subst ev
    clear X
    cases b2
    case' false =>
      obtain ⟨X, hX, hX2⟩ : ∃ X : Int, X = x ∧ 0 ≤ X ∧ X ≤ 9 := ⟨x, rfl, by omega, by omega⟩
      rw [← hX]
      clear hX
      have C2 : Cur h0 h2 r vc (n + 6) L := C1''.mono (by omega)
      simp -implicitDefEqProofs
    case' true =>
      simp -implicitDefEqProofs
      refine CL_post (pick_run B C1'' (by omega) (k := 2) (by omega)) fun v h2 ⟨y, ev, y0, _, y1, C2'⟩ => ?_
      subst ev
      have y2 := y1 (by omega)
      have w7 : IntKind.i64.wrap (7 + y) = 7 + y := by rw [wrap_ok] <;> omega
      obtain ⟨X, hX, hX2⟩ : ∃ X : Int, X = 7 + y ∧ 0 ≤ X ∧ X ≤ 9 := ⟨7 + y, rfl, by omega, by omega⟩
      have C2 : Cur h0 h2 r vc (n + 6) L := C2'.mono (by omega)
      simp -implicitDefEqProofs [w7]
      rw [← hX]
  all_goals
    refine R_loopO (fun m st h' => ∃ (js : List Job) (u : Value), st = [(0, .pointer (some ⟨r, 0, some 3⟩)), (1, .bool b), (2, .int .i64 most), (7, u), (8, .int .i64 m)] ∧ js.length + m ≤ 9 ∧ Cur h0 h' r vc (n + 6 + 8 * js.length) (L ++ [.own u 4 (js.map encJ)])) (fun I hI m st h' => ?_) (n := X.toNat) ⟨[], .slice none 0 0, by simp; omega, by simp; omega, C2.nil Job encJ 4⟩
    rintro ⟨js, u, rfl, hj, C3⟩
    obtain ⟨ua, uc, rfl⟩ : ∃ a c, u = .slice a js.length c := C3.seesJ.shapeT
    by_cases c1 : 0 < m
    case' pos =>
      by_cases c2 : js.length < most
      case pos =>
        have w1 : IntKind.i64.wrap ((m : Int) - 1) = ((m - 1 : Nat) : Int) := by rw [wrap_ok] <;> omega
        have c1' : (0 : Int) < m := by omega
        have c2' : (js.length : Int) < most := by omega
        simp -implicitDefEqProofs [c1, c1', c2, c2']
        refine CL_post (job_run B C3 (by omega) (b := b)) fun v h4 ⟨j, ev, C4⟩ => ?_
        subst ev
        obtain ⟨u', h5, ha, C5⟩ := C4.pushJ j (by omega)
        simp -implicitDefEqProofs [ha, w1]
        exact ⟨m - 1, by omega, on hI ⟨js ++ [j], u', rfl, by simp; omega, by
          have e : n + 6 + 8 * (js ++ [j]).length = n + 6 + 8 * js.length + 8 := by simp; omega
          rw [e]; exact C5⟩⟩
      case' neg =>
        have c1' : (0 : Int) < m := by omega
        have c2' : ¬ (js.length : Int) < most := by omega
        simp -implicitDefEqProofs [c1, c1', c2, c2']
    case' neg =>
      have c1' : ¬ (0 : Int) < m := by omega
      simp -implicitDefEqProofs [c1, c1']
    all_goals
      by_cases c3 : 0 < js.length
      case' neg =>
        have c3' : ¬ (0 : Int) < js.length := by omega
        have C5 : Cur h0 h' r vc (n + 86) (L ++ [.own (.slice ua js.length uc) 4 (js.map encJ)]) := C3.mono (by omega)
        have hl5 : js.length ≤ 9 := by omega
        simp -implicitDefEqProofs [c3, c3']
      case' pos =>
        have c3' : (0 : Int) < js.length := by omega
        simp -implicitDefEqProofs [c3, c3']
        refine CL_post (one_run B C3 (by omega) (k := 20) (by omega)) fun v h4 ⟨b3, ev, C4⟩ => ?_
        subst ev
        cases b3
        case' false =>
          have C5 : Cur h0 h4 r vc (n + 86) (L ++ [.own (.slice ua js.length uc) 4 (js.map encJ)]) := C4.mono (by omega)
          have hl5 : js.length ≤ 9 := by omega
          simp -implicitDefEqProofs
        case' true =>
          simp -implicitDefEqProofs
          refine CL_post (pick_run B C4 (by omega) (k := js.length) (by omega)) fun v h5 ⟨q, ev, q0, _, q1, C5'⟩ => ?_
          subst ev
          obtain ⟨k, rfl⟩ : ∃ k : Nat, q = k := ⟨q.toNat, by omega⟩
          have hk : k < js.length := by have := q1 (by omega); omega
          obtain ⟨y, hy, _⟩ := drop_at hk
          have ly := load_J C5'.seesJ hy
          simp -implicitDefEqProofs [-indexAddrP_some, ly]
          refine CL_post (spoiltJob_run B C5' (by omega) (j := y)) fun v h6 ⟨j', ev, C6'⟩ => ?_
          subst ev
          have ix := (load_J C6'.seesJ hy).1
          obtain ⟨h7, s7, C7⟩ := C6'.putJ hk j'
          have C5 : Cur h0 h7 r vc (n + 86) (L ++ [.own (.slice ua js.length uc) 4 ((js.set k j').map encJ)]) := C7.mono (by omega)
          have hl5 : (js.set k j').length ≤ 9 := by rw [List.length_set]; omega
          simp -implicitDefEqProofs [-indexAddrP_some, ix, s7]
      all_goals
        refine CL_post (one_run B C5 (by omega) (k := 60) (by omega)) fun v h8 ⟨b4, ev, C8⟩ => ?_
        subst ev
        cases b4
        case false =>
          simp -implicitDefEqProofs
          exact onK hK ⟨_, hl5, C.gcO (C8.mono (by omega)) (fun h => h)⟩
        case true =>
          simp -implicitDefEqProofs
          refine R_loopO (fun m st h' => ∃ (js : List Job) (u : Value), st = [(0, .pointer (some ⟨r, 0, some 3⟩)), (1, .bool b), (7, u)] ∧ js.length + m = 9 ∧ Cur h0 h' r vc (n + 88 + 8 * js.length) (L ++ [.own u 4 (js.map encJ)])) (fun I2 hI2 m2 st h' => ?_) (n := 9 - js.length) ⟨_, _, by simp, ?_, C8.mono (by omega)⟩
          · rintro ⟨js2, u2, rfl, hj2, C9⟩
            obtain ⟨ub, ud, rfl⟩ : ∃ a c, u2 = .slice a js2.length c := C9.seesJ.shapeT
            by_cases c9 : js2.length < 9
            · have c9' : (js2.length : Int) < 9 := by omega
              simp -implicitDefEqProofs [c9, c9']
              refine CL_post (job_run B C9 (by omega) (b := b)) fun v h10 ⟨j, ev, C10⟩ => ?_
              subst ev
              obtain ⟨u', h11, ha, C11⟩ := C10.pushJ j (by omega)
              simp -implicitDefEqProofs [ha]
              exact ⟨m2 - 1, by omega, on hI2 ⟨js2 ++ [j], u', rfl, by simp; omega, by
                have e : n + 88 + 8 * (js2 ++ [j]).length = n + 88 + 8 * js2.length + 8 := by simp; omega
                rw [e]; exact C11⟩⟩
            · have c9' : ¬ (js2.length : Int) < 9 := by omega
              simp -implicitDefEqProofs [c9, c9']
              exact onK hK ⟨js2, by omega, C.gcO (C9.mono (by omega)) (fun h => h)⟩
          · first | omega | (rw [List.length_set]; omega)
end
end Go.Pm.PP

/- Draws: orders; the draw of jobs, an order and an objective. -/
set_option linter.unusedVariables false
set_option linter.unusedSimpArgs false
set_option maxRecDepth 4000
set_option maxHeartbeats 16000000
namespace Go.Pm.PP
open Go.Pm Go.Proofs Go.Pm.PE
theorem newOk_of {h h' : Hp} (hp : h <+: h') (n : NR h.length h') : newOk h h' := by
  refine ⟨hp, ?_⟩
  rw [List.all_eq_true]
  intro x hx
  cases x with
  | none => rfl
  | some x =>
    obtain ⟨k, hk⟩ := List.getElem?_of_mem hx
    rw [List.getElem?_drop] at hk
    simp [n.2 _ x (by omega) hk]
section
variable {h0 h : Hp} {r n : Nat} {vc : Value} {L : List Asn}
theorem Cur.seesI {u : Value} {xs : List Int} (C : Cur h0 h r vc n (L ++ [.own u 1 (xs.map encI)])) : Ints h u xs := by
  obtain ⟨a, s, h1, h2, H⟩ := C
  exact H.sees (L.length + 1) (by rw [List.getElem?_cons_succ]; exact snoc_get)
theorem Cur.join {h1 : Hp} {A : Asn} (C : Cur h0 h r vc n L) (D : Holds h h1 [A]) : Cur h0 h1 r vc n (L ++ [A]) := by
  obtain ⟨a, s, g1, g2, H⟩ := C
  exact ⟨a, s, g1, g2, H.join D⟩
theorem Cur.swapW {A B : Asn} (C : Cur h0 h r vc n ((L ++ [A]) ++ [B])) : Cur h0 h r vc n (L ++ [B]) := by
  obtain ⟨a, s, g1, g2, H⟩ := C
  refine ⟨a, s, g1, g2, ?_⟩
  have : Holds h0 h (((cu r vc a s :: L) ++ [A]) ++ [B]) := H
  exact this.cut
theorem order_run (B : By h0 vc) (C : Cur h0 h r vc n L) (hn : n ≤ 2 ^ 19) {N : Nat} (hN : N ≤ 2 ^ 10) : RunsC P G n_spec_l1Cur_order [.pointer (some ⟨r, 0, some 3⟩), .int .i64 N] h fun v h' => ∃ xs : List Int, xs.length ≤ N + 1 ∧ Cur h0 h' r vc (n + 2 * N + 4) (L ++ [.own v 1 (xs.map encI)]) := by
  refine hideC fun K hK => enter_run e_spec_l1Cur_order (by simp) ?_
  simp -implicitDefEqProofs
  refine R_loopO (fun m st h' => ∃ (i : Nat) (xs : List Int) (u : Value), i + m = N ∧ st = [(0, .pointer (some ⟨r, 0, some 3⟩)), (1, .int .i64 N), (5, u), (6, .int .i64 i)] ∧ xs.length = i ∧ Cur h0 h' r vc (n + 2 * i) (L ++ [.own u 1 (xs.map encI)])) (fun I hI m st h' => ?_) (n := N) ⟨0, [], .slice none 0 0, by omega, by simp, rfl, C.nil Int encI 1⟩
  rintro ⟨i, xs, u, hi, rfl, hl, C1⟩
  obtain ⟨ua, uc, rfl⟩ : ∃ a c, u = .slice a xs.length c := C1.seesI.shapeT
  by_cases hlt : i < N
  · have hlt' : (i : Int) < N := by omega
    have w1 : IntKind.i64.wrap ((xs.length : Int) + 1) = (xs.length : Int) + 1 := by rw [wrap_ok] <;> omega
    have wi : IntKind.i64.wrap ((i : Int) + 1) = (i : Int) + 1 := by rw [wrap_ok] <;> omega
    simp -implicitDefEqProofs [hlt, hlt', w1]
    refine CL_post (pick_run B C1 (by omega) (k := (xs.length : Int) + 1) (by omega)) fun v h2 ⟨q, ev, q0, _, q1, C2⟩ => ?_
    subst ev
    have q2 := q1 (by omega)
    obtain ⟨k, rfl⟩ : ∃ k : Nat, q = k := ⟨q.toNat, by omega⟩
    have S2 := C2.seesI
    obtain ⟨v3, s3, f3⟩ := S2.front (P := P) u_S_int i_int (k := .i64) (j := (k : Int)) (by omega) (by simp; omega)
    rw [Int.toNat_natCast, ← List.map_take] at f3
    have H0 := own_nil (Holds.start (h := h2)) Int encI 1
    obtain ⟨v4, h4, ha4, H4', _⟩ := app_I H0 0 rfl f3 (by simp; omega)
    have H4 : Holds h2 h4 [.own v4 1 ((xs.take k).map encI)] := H4'
    have n4 : NR h2.length h4 := append_nr nr_self ha4
    have no4 := newOk_of H4.pre n4
    obtain ⟨v5, h5, ha5, H5', k5, _⟩ := push_I0 H4 0 rfl (i : Int) (by simp; omega)
    have H5 : Holds h2 h5 [.own v5 1 ((xs.take k ++ [(i : Int)]).map encI)] := H5'
    have n5 : NR h2.length (h4 ++ [some ⟨[.int .i64 (i : Int)], 1, false⟩]) := n4.new [.int .i64 (i : Int)] 1
    have md := app_mod (b := h2.length) rfl n5 ha5 (H4.pre.trans (List.prefix_append ..)) H5.pre
    obtain ⟨v6, s6, f6, _⟩ := (S2.pre H5.pre).back (P := P) u_S_int i_int (k := .i64) (j := (k : Int)) (by omega) (by simp; omega)
    rw [Int.toNat_natCast, ← List.map_drop] at f6
    obtain ⟨v7, h7, ha7, H7', _⟩ := app_I H5 0 rfl f6 (by simp; omega)
    have H7 : Holds h2 h7 [.own v7 1 ((xs.take k ++ [(i : Int)] ++ xs.drop k).map encI)] := H7'
    have C7 := (C2.join H7).swapW
    obtain ⟨a3, b3, c3, rfl⟩ : ∃ a n c, v3 = .slice a n c := by obtain ⟨a, c, e⟩ := f3.shape; exact ⟨_, _, _, e⟩
    obtain ⟨a4, b4, c4, rfl⟩ : ∃ a n c, v4 = .slice a n c := by obtain ⟨a, c, e⟩ := (H4.sees 0 rfl).shape; exact ⟨_, _, _, e⟩
    obtain ⟨a5, b5, c5, rfl⟩ : ∃ a n c, v5 = .slice a n c := by obtain ⟨a, c, e⟩ := (H5.sees 0 rfl).shape; exact ⟨_, _, _, e⟩
    obtain ⟨a6, b6, c6, rfl⟩ : ∃ a n c, v6 = .slice a n c := by obtain ⟨a, c, e⟩ := f6.shape; exact ⟨_, _, _, e⟩
    simp -implicitDefEqProofs [s3, ha4, no4, ha5, md, s6, ha7, wi]
    exact ⟨m - 1, by omega, on hI ⟨i + 1, _, v7, by omega, rfl, by simp; omega, C7.mono (by omega)⟩⟩
  · have hlt' : ¬ (i : Int) < N := by omega
    simp -implicitDefEqProofs [hlt, hlt']
    refine CL_post (one_run B C1 (by omega) (k := 30) (by omega)) fun v h2 ⟨b, ev, C2⟩ => ?_
    subst ev
    cases b
    · simp -implicitDefEqProofs
      exact onK hK ⟨xs, by omega, C.gcO (C2.mono (by omega)) (fun h => h)⟩
    · have C3 := C2.lit [0, (N : Int), -1]
      simp -implicitDefEqProofs
      refine CL_post (among_run B C3 (by omega) snoc_get (xs := [0, (N : Int), -1]) (by simp) (by simp)) fun v h3 ⟨x, ev, _, C4⟩ => ?_
      subst ev
      obtain ⟨a, s, g1, g2, H⟩ := C4.weak
      obtain ⟨u', h5, g3, g4, _⟩ := push_I0 H (L.length + 1) (by rw [List.getElem?_cons_succ]; exact snoc_get) x (by omega)
      rw [List.set_cons_succ, List.set_append_right (h := Nat.le_refl _), Nat.sub_self] at g4
      have C5 : Cur h0 h5 r vc (n + 2 * N + 4) (L ++ [.own u' 1 ((xs ++ [x]).map encI)]) := ⟨a, s, g1, by omega, g4⟩
      obtain ⟨ub, ud, rfl⟩ : ∃ a c, u' = .slice a (xs.length + 1) c := by
        obtain ⟨a, c, e⟩ := C5.seesI.shapeT
        exact ⟨a, c, by rw [e]; simp⟩
      simp -implicitDefEqProofs [g3]
      exact onK hK ⟨xs ++ [x], by simp; omega, C.gcO C5 (fun h => h)⟩
end
end Go.Pm.PP

/- Values, best orders and exchanges, as the programs export them. -/
set_option linter.unusedVariables false
set_option linter.unusedSimpArgs false
set_option maxRecDepth 4000
set_option maxHeartbeats 8000000
namespace Go.Pm.PP
open Go.Pm Go.Proofs Go.Pm.PE
/-! ### bounds -/
def jOk (js : List Job) : Bool := decide (js.length ≤ 8) && goodL js
def okV (js : List Job) (xs : List Int) (o : Int) : Bool := (jOk js && l2OrderL js.length xs) && inB o 1 8
def okB (js : List Job) (o : Int) : Bool := jOk js && inB o 1 8
theorem jOk_of {js : List Job} (h : jOk js = true) : js.length ≤ 8 ∧ goodL js = true := by
  rw [jOk, Bool.and_eq_true, decide_eq_true_eq] at h; exact h
theorem inB_of {o : Int} (h : inB o 1 8 = true) : 1 ≤ o ∧ o ≤ 8 := by simpa [inB] using h
theorem ord_of {n : Nat} {xs : List Int} (hf : l2OrderL n xs = true) : Ord n xs := by
  rw [l2OrderL, Bool.and_eq_true, Bool.and_eq_true] at hf
  obtain ⟨⟨h1, h2⟩, h3⟩ := hf
  have hl : n ≤ 8 := by simp only [inB, Bool.and_eq_true, decide_eq_true_eq] at h1; omega
  have := order_eq (n := n) (xs := xs) hl
  rw [h2, h3, Bool.true_and, Bool.true_and] at this
  have wn : w64 ((n : Int) - 1) = (n : Int) - 1 := by unfold w64; rw [wrap_ok] <;> omega
  obtain ⟨g1, g2, _⟩ := (arGo_iff wn).1 this
  exact ⟨by have := beq_iff_eq.1 h2; omega, g1, g2⟩
theorem okV_of {js : List Job} {xs : List Int} {o : Int} (h : okV js xs o = true) : js.length ≤ 8 ∧ goodL js = true ∧ Ord js.length xs ∧ (1 ≤ o ∧ o ≤ 8) := by
  rw [okV, Bool.and_eq_true, Bool.and_eq_true] at h
  obtain ⟨⟨h1, h2⟩, h3⟩ := h
  exact ⟨(jOk_of h1).1, (jOk_of h1).2, ord_of h2, inB_of h3⟩
theorem l2Objective_run {h : Hp} {x : Int} : Ret P G n_spec_l2Objective [.int .i64 x] h (.bool (inB x 1 8)) h := by
  refine enter_run e_spec_l2Objective (by simp) ?_
  simp -implicitDefEqProofs [CL_ret l1In_run]
theorem isObjective_run {h : Hp} {x : Int} : Ret P G n_impl_isObjective [.int .i64 x] h (.bool (inB x 1 8)) h := by
  refine enter_run e_impl_isObjective (by simp) ?_
  simp -implicitDefEqProofs [CL_ret within_run]
section
variable {h : Hp} {v u : Value} {js : List Job} {xs : List Int} {o : Int}
theorem good_run (hj : Jobs h v js) (hl : js.length ≤ 2 ^ 40) : Ret P G n_spec_l2Good [v] h (.bool (jOk js)) h := l2Good_run hj hl
theorem isJobs_run (hj : Jobs h v js) (hl : js.length ≤ 2 ^ 40) : Ret P G n_impl_IsJobs [v] h (.bool (jOk js)) h := IsJobs_run hj hl
theorem l2Two_run (hj : Jobs h v js) (hu : Ints h u xs) (hl : js.length ≤ 2 ^ 40) (hx : xs.length ≤ 2 ^ 40) : Ret P G n_spec_l2Two [v, u] h (.bool (jOk js && l2OrderL js.length xs)) h := by
  refine enter_run e_spec_l2Two (by simp) ?_
  have r1 := good_run hj hl
  have r2 := l2Order_run (n := js.length) hu hx
  obtain ⟨oj, cj, rfl⟩ := hj.shapeT
  cases c1 : jOk js
  · simp -implicitDefEqProofs [CL_ret r1, c1]
  · simp -implicitDefEqProofs [CL_ret r1, c1, CL_ret r2]
theorem isScheduled_run (hj : Jobs h v js) (hu : Ints h u xs) (hl : js.length ≤ 2 ^ 40) (hx : xs.length ≤ 2 ^ 40) : Ret P G n_impl_isScheduled [v, u] h (.bool (jOk js && l2OrderL js.length xs)) h := by
  refine enter_run e_impl_isScheduled (by simp) ?_
  have r1 := isJobs_run hj hl
  have r2 := isOrder_run (n := js.length) hu hx
  obtain ⟨oj, cj, rfl⟩ := hj.shapeT
  cases c1 : jOk js
  · simp -implicitDefEqProofs [CL_ret r1, c1]
  · have hn := (jOk_of c1).1
    have e : (((xs.length : Int) == (js.length : Nat)) && arGo js.length [] xs) = l2OrderL js.length xs := by
      rw [order_eq hn, l2OrderL, show inB js.length 0 8 = true by simp [inB]; omega, Bool.true_and]
    rw [e] at r2
    simp -implicitDefEqProofs [CL_ret r1, c1, CL_ret r2]
theorem isValued_run (hj : Jobs h v js) (hu : Ints h u xs) (hl : js.length ≤ 2 ^ 40) (hx : xs.length ≤ 2 ^ 40) : Ret P G n_impl_isValued [v, u, .int .i64 o] h (.bool (okV js xs o)) h := by
  refine enter_run e_impl_isValued (by simp) ?_
  have r1 := isScheduled_run hj hu hl hx
  obtain ⟨oj, cj, rfl⟩ := hj.shapeT
  obtain ⟨oa, ca, rfl⟩ := hu.shapeT
  cases c1 : (jOk js && l2OrderL js.length xs)
  · rw [c1] at r1
    simp -implicitDefEqProofs [CL_ret r1, okV, c1]
  · rw [c1] at r1
    simp -implicitDefEqProofs [CL_ret r1, okV, c1, CL_ret isObjective_run]
def vOf (js : List Job) (xs : List Int) (o : Int) : Int := if okV js xs o = true then valX o js xs else 0
theorem implValueOf_run (hj : Jobs h v js) (hu : Ints h u xs) (hl : js.length ≤ 2 ^ 40) (hx : xs.length ≤ 2 ^ 40) : Ret P G n_impl_ValueOf [v, u, .int .i64 o] h (.tuple #[.int .i64 (vOf js xs o), .bool (okV js xs o)]) h := by
  refine enter_run e_impl_ValueOf (by simp) ?_
  have r1 := isValued_run (o := o) hj hu hl hx
  have hjs := hj
  have hus := hu
  obtain ⟨oj, cj, rfl⟩ := hj.shapeT
  obtain ⟨oa, ca, rfl⟩ := hu.shapeT
  cases c1 : okV js xs o
  · simp -implicitDefEqProofs [CL_ret r1, c1, vOf]
  · obtain ⟨hn, hg, ox, ho⟩ := okV_of c1
    have rv := valueOf_run (o := o) hjs hus hg hn ho ox
    simp -implicitDefEqProofs [CL_ret r1, c1, CL_ret rv, vOf]
def bR (js : List Job) (o : Int) : Sr := if okB js o = true then bestR (valX o js) js.length else sr0
end
end Go.Pm.PP

/- Best values, counts, and exchanges of neighbours, as the programs export them. -/
set_option linter.unusedVariables false
set_option linter.unusedSimpArgs false
set_option maxRecDepth 4000
set_option maxHeartbeats 8000000
namespace Go.Pm.PP
open Go.Pm Go.Proofs Go.Pm.PE
section
variable {h : Hp} {v u : Value} {js : List Job} {xs ys : List Int} {o : Int}
/-! ### exchanges -/
end
end Go.Pm.PP

/- Exchanges of neighbours in plain terms; the value of an order, told along the order. -/
set_option linter.unusedVariables false
set_option linter.unusedSimpArgs false
namespace Go.Pm.PE
/-! ### exchanges -/
/-! ### sums -/
theorem sum_perm {l l' : List Int} (h : l.Perm l') : l.sum = l'.sum := by
  induction h with
  | nil => rfl
  | cons x _ ih => rw [List.sum_cons, List.sum_cons, ih]
  | swap x y l => simp only [List.sum_cons]; omega
  | trans _ _ h1 h2 => rw [h1, h2]
end Go.Pm.PE
namespace Go.Pm.PP
open Go.Pm Go.Pm.PE
/-! ### along an order -/
def endAt (j : Job) (now : Int) : Int := max now j.r + j.t
def nowGo (js : List Job) : Int → List Int → Int
  | now, [] => now
  | now, x :: r => nowGo js (endAt (jA js x) now) r
theorem end_out {js : List Job} {i : Nat} : ∀ {xs : List Int} {now : Int} {E : List Int}, (∀ y, y ∈ xs → 0 ≤ y) → (i : Int) ∉ xs → gE (endGo js xs now E) i = gE E i
  | [], _, _, _, _ => rfl
  | x :: r, now, E, h0, hi => by
    have hx := h0 x (List.mem_cons_self ..)
    rw [endGo, end_out (fun y hy => h0 y (List.mem_cons_of_mem _ hy)) (fun g => hi (List.mem_cons_of_mem _ g))]
    have : ¬ x.toNat = i := fun g => hi (by rw [← g, show ((x.toNat : Nat) : Int) = x by omega]; exact List.mem_cons_self ..)
    unfold gE
    rw [List.getElem?_set_ne this]
theorem valGo_sum {o : Int} (h1 : ¬ o = 1) (h4 : ¬ o = 4) : ∀ {js : List Job} {es : List Int} {f : Bool} {a : Int}, js.length = es.length → valGo o f a js es = a + ((List.range' 0 js.length).map fun i => costV o ((js[i]?).getD ⟨0, 0, 0, 0⟩) (gE es i)).sum
  | [], [], f, a, _ => by simp [valGo]
  | [], e :: es, f, a, h => by simp at h
  | j :: js, [], f, a, h => by simp at h
  | j :: js, e :: es, f, a, h => by
    rw [valGo, valGo_sum h1 h4 (by simpa using h), List.length_cons, List.range'_succ, List.map_cons, List.sum_cons]
    have e1 : List.range' (0 + 1) js.length = (List.range' 0 js.length).map (1 + ·) := by rw [List.map_add_range' (a := 1)]
    have e2 : stepV o f a j e = a + costV o j e := by unfold stepV; rw [if_neg h1, if_neg h4]
    rw [e1, List.map_map, e2, Int.add_assoc]
    congr 1
    congr 1
    congr 1
    apply List.map_congr_left
    intro i _
    simp [gE, Nat.add_comm 1 i]
/-- An order of n jobs. -/
def Prm (n : Nat) (xs : List Int) : Prop := xs.Perm ((List.range' 0 n).map fun i : Nat => (i : Int))
theorem Prm.inn {n : Nat} {xs : List Int} (h : Prm n xs) : inN n xs := fun x hx => by
  have := h.mem_iff.1 hx
  obtain ⟨i, hi, rfl⟩ := List.mem_map.1 this
  simp [List.mem_range'_1] at hi
  omega
theorem Prm.nd {n : Nat} {xs : List Int} (h : Prm n xs) : xs.Nodup := h.nodup_iff.2 (List.Pairwise.map _ (fun a b h e => h (by omega)) List.nodup_range')
theorem Prm.len {n : Nat} {xs : List Int} (h : Prm n xs) : xs.length = n := by rw [h.length_eq]; simp
/-! ### the greatest lateness -/
end Go.Pm.PP

/- Exchanges of neighbours for jobs without releases: sums, weighted sums, lateness; losses by inversions. -/
set_option linter.unusedVariables false
set_option linter.unusedSimpArgs false
namespace Go.Pm.PP
open Go.Pm Go.Pm.PE
/-- Jobs without releases. -/
structure Pl (js : List Job) : Prop where
  r : ∀ x, (jA js x).r = 0
  t : ∀ x, 0 ≤ (jA js x).t
theorem Pl.endAt {js : List Job} (p : Pl js) {x now : Int} (h : 0 ≤ now) : endAt (jA js x) now = now + (jA js x).t := by
  unfold PP.endAt; rw [p.r]; omega
theorem Pl.now {js : List Job} (p : Pl js) : ∀ {A : List Int} {now : Int}, 0 ≤ now → 0 ≤ nowGo js now A
  | [], _, h => h
  | x :: A, now, h => by
    rw [nowGo, p.endAt h]
    exact p.now (by have := p.t x; omega)
/-! ### inversions -/
end Go.Pm.PP

/- Sorting in plain terms: the program's from behind, the reference's from the front. -/
set_option linter.unusedVariables false
set_option linter.unusedSimpArgs false
namespace Go.Pm.PE
variable {ah : Int → Int → Bool}
/-- A relation by which x goes ahead. -/
structure Weak (ah : Int → Int → Bool) : Prop where
  asy : ∀ {a b}, ah a b = true → ah b a = false
  tr : ∀ {a b c}, ah a b = false → ah b c = false → ah a c = false
/-- What stands in order, the tied ones in ascending order. -/
def Lex (ah : Int → Int → Bool) (a b : Int) : Prop := ah a b = true ∨ (ah b a = false ∧ a < b)
theorem Lex.na {a b : Int} (w : Weak ah) (h : Lex ah a b) : ah b a = false := by
  rcases h with h | h
  · exact w.asy h
  · exact h.1
/-! ### from the front -/
end Go.Pm.PE

/- Sets as binary digits, in plain terms. -/
set_option linter.unusedVariables false
set_option linter.unusedSimpArgs false
namespace Go.Pm.PE
end Go.Pm.PE

/- The table of the least values of sets, in plain terms. -/
set_option linter.unusedVariables false
set_option linter.unusedSimpArgs false
namespace Go.Pm.PP
open Go.Pm Go.Pm.PE
/-- Costs are bounded, and no less for later ends. -/
structure Cb (o : Int) (js : List Job) : Prop where
  lo : ∀ x e, 0 ≤ e → 0 ≤ costV o (jA js x) e
  hi : ∀ x e, 0 ≤ e → e ≤ 2 ^ 20 → costV o (jA js x) e ≤ 2 ^ 27
  mo : ∀ x e e', 0 ≤ e → e ≤ e' → costV o (jA js x) e ≤ costV o (jA js x) e'
end Go.Pm.PP

/- Ruled orders, due orders, inversions, in plain terms. -/
set_option linter.unusedVariables false
set_option linter.unusedSimpArgs false
namespace Go.Pm.PP
open Go.Pm Go.Pm.PE
/-! ### the list of inversions -/
/-! ### due order -/
/-! ### timely -/
end Go.Pm.PP

/- The last end of an order; sets of digits of any length. -/
set_option linter.unusedVariables false
set_option linter.unusedSimpArgs false
namespace Go.Pm.PE
end Go.Pm.PE
namespace Go.Pm.PP
open Go.Pm Go.Pm.PE
end Go.Pm.PP

/- Ruled orders are best, in plain terms: the last end too. -/
set_option linter.unusedVariables false
set_option linter.unusedSimpArgs false
namespace Go.Pm.PP
open Go.Pm Go.Pm.PE
end Go.Pm.PP
