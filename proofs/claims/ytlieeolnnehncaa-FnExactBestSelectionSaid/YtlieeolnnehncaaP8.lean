/- The texts PjG, PjH, PjI, PjJ1, PjK, PjJ2, PjJ3, PjN, Pj14, Pj15 of this work: The laws' own functions on lists: printed by a program of this work (lawgen.py). -/
import Derived.ProofKit
import Derived.OpenShut
import Derived.Carry
import Derived.Test.YtlieeolnnehncaaP6
import Derived.Test.YtlieeolnnehncaaP7
import Derived.Test.YtlieeolnnehncaaM4
/- The laws' own functions on lists: printed by a program of this work (lawgen.py). -/
set_option linter.unusedVariables false
set_option linter.unusedSimpArgs false
set_option maxRecDepth 4000
set_option maxHeartbeats 2000000
namespace Go.Pm.PP
open Go.Pm Go.Proofs
theorem szIntS_run {h : Hp} {v : Value} {xs : List (Int)} {left : Int} (hv : Sees h v 1 (xs.map encI)) (hn : xs.length < 2 ^ 63) (h0 : 0 ≤ left) (h1 : left ≤ 2 ^ 20) :
    Ret P G n_laws_szIntS [v, .int .i64 left] h (.int .i64 (szL left xs.length)) h := by
  refine enter_run e_laws_szIntS (by simp) ?_
  obtain ⟨oj, cj, rfl⟩ := hv.shapeT
  have w : IntKind.i64.wrap (left - xs.length) = left - xs.length := by rw [wrap_ok] <;> omega
  cases h2 : decide (left - (xs.length : Int) < 0) <;> simp -implicitDefEqProofs [w, h2, szL] <;> simp at h2 <;> omega
theorem toIntS_run {h : Hp} {v : Value} {xs : List (Int)} (hv : Sees h v 1 (xs.map encI)) (hn : xs.length ≤ 2 ^ 40) :
    RunsC P G n_laws_toIntS [v] h fun v' h' => Holds h h' [.own v' 1 (xs.map encI)] := by
  refine hideC fun K hK => enter_run e_laws_toIntS (by simp) ?_
  have hvs := hv
  obtain ⟨oa, c, rfl⟩ := hv.shapeT
  obtain ⟨vz, h1, mk, H1, hp1, oz, rfl⟩ := make_I (Holds.start (h := h)) (n := xs.length) hn
  simp -implicitDefEqProofs [mk]
  refine R_loopO (fun m s h' => ∃ i : Nat, i + m = xs.length ∧ s = [(0, .slice oa xs.length c), (3, .slice oz xs.length xs.length), (4, .int .i64 i)] ∧
    Holds h h' [.own (.slice oz xs.length xs.length) 1 ((xs.take i ++ List.replicate (xs.length - i) (0 : Int)).map encI)]) (fun I hI m s h' => ?_) ⟨0, Nat.zero_add _, by simp, by simpa using H1⟩
  rintro ⟨i, hi, rfl, H⟩
  have hEl : (xs.take i ++ List.replicate (xs.length - i) (0 : Int)).length = xs.length := by simp; omega
  by_cases hlt : i < xs.length
  · obtain ⟨y, hy, hd⟩ := drop_at hlt
    obtain ⟨h2, hs2, H2, k2⟩ := put_I H 0 rfl (j := i) (by rw [hEl]; exact hlt) y
    rw [set_next hy] at H2
    obtain ⟨z, hz, _⟩ := drop_at (show i < (xs.take i ++ List.replicate (xs.length - i) (0 : Int)).length by rw [hEl]; exact hlt)
    have ix := (load_I (H.sees 0 rfl) hz).1
    simp -implicitDefEqProofs [-indexAddrP_some, hlt, load_I (hvs.pre H.pre) hy, ix, hs2, winc hlt hn]
    exact ⟨m - 1, by omega, on hI ⟨i + 1, by omega, rfl, H2⟩⟩
  · have hi2 : i = xs.length := by omega
    subst hi2
    rw [List.take_of_length_le (Nat.le_refl _), Nat.sub_self, List.replicate_zero, List.append_nil] at H
    simp -implicitDefEqProofs [hlt]
    exact onK hK (H.gcO fun hp i A hA => by
      match i, hA with
      | 0, hA => cases hA; exact ⟨_, _, _, rfl, hp⟩
      | i + 1, hA => cases hA)
theorem eqIntS_run {h : Hp} {v u : Value} {xs : List (Int)} (hv : Sees h v 1 (xs.map encI)) (hu : Sees h u 1 (xs.map encI)) (hn : xs.length ≤ 2 ^ 40) :
    Ret P G n_laws_eqIntS [v, u] h (.bool true) h := by
  refine enter_run e_laws_eqIntS (by simp) ?_
  have hvs := hv
  have hus := hu
  obtain ⟨oa, c, rfl⟩ := hv.shapeT
  obtain ⟨ob, d, rfl⟩ := hu.shapeT
  simp -implicitDefEqProofs
  refine R_loopO (fun m s h' => ∃ i : Nat, i + m = xs.length ∧ s = [(0, .slice oa xs.length c), (1, .slice ob xs.length d), (5, .int .i64 i)] ∧ h' = h) (fun I hI m s h' => ?_) ⟨0, Nat.zero_add _, by simp, rfl⟩
  rintro ⟨i, hi, rfl, rfl⟩
  by_cases hlt : i < xs.length
  · obtain ⟨y, hy, hd⟩ := drop_at hlt
    simp -implicitDefEqProofs [-indexAddrP_some, hlt, load_I hvs hy, load_I hus hy, winc hlt hn]
    exact ⟨m - 1, by omega, on hI ⟨i + 1, by omega, rfl, rfl⟩⟩
  · simp -implicitDefEqProofs [hlt]
def mkI (k : Int) : Int := k
theorem markIntS_run {h0 h : Hp} {L : List Asn} {v : Value} {xs : List (Int)} {k : Int} (H0 : Holds h0 h L) (i : Nat) (hi0 : L[i]? = some (.own v 1 (xs.map encI))) (hn : xs.length ≤ 2 ^ 40) (h1 : 0 ≤ k) (h2 : k ≤ 2 ^ 50) :
    RunsC P G n_laws_markIntS [v, .int .i64 k] h fun r h' => r = .int .i64 (k + (xs.length : Int)) ∧ Holds h0 h' (L.set i (.own v 1 ((marksT mkI 1 k xs.length).map encI))) := by
  refine hideC fun K hK => enter_run e_laws_markIntS (by simp) ?_
  have hil := (List.getElem?_eq_some_iff.1 hi0).1
  have hget := (List.getElem?_eq_some_iff.1 hi0).2
  obtain ⟨oa, c, ev⟩ := (H0.sees i hi0).shapeT
  subst ev
  simp -implicitDefEqProofs
  refine R_loopO (fun m s h' => ∃ (j : Nat), j + m = xs.length ∧ s = [(0, .slice oa xs.length c), (1, .int .i64 (k + (j : Int))), (5, .int .i64 j)] ∧ Holds h0 h' (L.set i (.own (.slice oa xs.length c) 1 ((marksT mkI 1 k j ++ xs.drop j).map encI)))) (fun I hI m s h' => ?_) ⟨0, Nat.zero_add _, by simp, by
      rw [show (marksT mkI 1 k 0 ++ xs.drop 0) = xs by simp [marksT], ← hget, List.set_getElem_self]; exact H0⟩
  rintro ⟨j, hi, rfl, H⟩
  have hEl : (marksT mkI 1 k j ++ xs.drop j).length = xs.length := by rw [List.length_append, marksT_len, List.length_drop]; omega
  by_cases hlt : j < xs.length
  · obtain ⟨y, hy, hd⟩ := drop_at hlt
    obtain ⟨z, hz, _⟩ := drop_at (show j < (marksT mkI 1 k j ++ xs.drop j).length by rw [hEl]; exact hlt)
    obtain ⟨h2, hs2, H2, k2⟩ := put_I H i (List.getElem?_set_self hil) (j := j) (by rw [hEl]; exact hlt) (k + j)
    rw [List.set_set] at H2
    have ix := (load_I (H.sees i (List.getElem?_set_self hil)) hz).1
    have w1 : IntKind.i64.wrap (k + j + 1) = k + j + 1 := by rw [wrap_ok] <;> omega
    simp -implicitDefEqProofs [-indexAddrP_some, hlt, ix, hs2, w1, winc hlt hn]
    refine ⟨m - 1, by omega, on hI ⟨j + 1, by omega, ?_, ?_⟩⟩
    · rw [show k + j + 1 = k + ((j + 1 : Nat) : Int) by omega]; rfl
    · rw [marks_next (mk := mkI) (n := 1) hy (show mkI (k + (1 : Nat) * (j : Int)) = k + j by simp [mkI])] at H2; exact H2
  · have hj : j = xs.length := by omega
    subst hj
    rw [List.drop_eq_nil_of_le (Nat.le_refl _), List.append_nil] at H
    simp -implicitDefEqProofs [hlt]
    exact onK hK ⟨rfl, H0.gcR H (set_row hi0 rfl)⟩
theorem heldIntS_run {h : Hp} {v : Value} {n : Nat} {k : Int} (hv : Sees h v 1 ((marksT mkI 1 k n).map encI)) (hn : n ≤ 2 ^ 40) (h1 : 0 ≤ k) (h2 : k ≤ 2 ^ 50) :
    Ret P G n_laws_heldIntS [v, .int .i64 k] h (.int .i64 (k + (n : Int))) h := by
  refine enter_run e_laws_heldIntS (by simp) ?_
  have hvs := hv
  obtain ⟨oa, c, ev⟩ := hv.shapeT
  rw [marksT_len] at ev
  subst ev
  simp -implicitDefEqProofs
  refine R_loopO (fun m s h' => ∃ (j : Nat), j + m = n ∧ s = [(0, .slice oa n c), (1, .int .i64 (k + (j : Int))), (5, .int .i64 j)] ∧ h' = h) (fun I hI m s h' => ?_) ⟨0, Nat.zero_add _, by simp, rfl⟩
  rintro ⟨j, hi, rfl, rfl⟩
  by_cases hlt : j < n
  · have w1 : IntKind.i64.wrap (k + j + 1) = k + j + 1 := by rw [wrap_ok] <;> omega
    simp -implicitDefEqProofs [-indexAddrP_some, hlt, load_I hvs (x := k + (j : Int)) (i := j) (by have := marksT_get (mk := mkI) (n := 1) (k := k) hlt; simpa [mkI] using this), w1, winc hlt hn]
    exact ⟨m - 1, by omega, on hI ⟨j + 1, by omega, by rw [show k + (j : Int) + 1 = k + ((j + 1 : Nat) : Int) by omega]; rfl, rfl⟩⟩
  · have hj : j = n := by omega
    subst hj
    simp -implicitDefEqProofs [hlt]
theorem szOpS_run {h : Hp} {v : Value} {xs : List (OpR)} {left : Int} (hv : Sees h v 2 (xs.map encO)) (hn : xs.length < 2 ^ 63) (h0 : 0 ≤ left) (h1 : left ≤ 2 ^ 20) :
    Ret P G n_laws_szOpS [v, .int .i64 left] h (.int .i64 (szL left xs.length)) h := by
  refine enter_run e_laws_szOpS (by simp) ?_
  obtain ⟨oj, cj, rfl⟩ := hv.shapeT
  have w : IntKind.i64.wrap (left - xs.length) = left - xs.length := by rw [wrap_ok] <;> omega
  cases h2 : decide (left - (xs.length : Int) < 0) <;> simp -implicitDefEqProofs [w, h2, szL] <;> simp at h2 <;> omega
theorem toOp_run {h : Hp} {x : OpR} : Ret P G n_laws_toOp [ov x] h (ov x) h := by
  refine enter_run e_laws_toOp (by simp) ?_
  simp -implicitDefEqProofs
  refine gc_app _ _ _ (by simp)
theorem toOpS_run {h : Hp} {v : Value} {xs : List (OpR)} (hv : Sees h v 2 (xs.map encO)) (hn : xs.length ≤ 2 ^ 40) :
    RunsC P G n_laws_toOpS [v] h fun v' h' => Holds h h' [.own v' 2 (xs.map encO)] := by
  refine hideC fun K hK => enter_run e_laws_toOpS (by simp) ?_
  have hvs := hv
  obtain ⟨oa, c, rfl⟩ := hv.shapeT
  obtain ⟨vz, h1, mk, H1, hp1, oz, rfl⟩ := make_O (Holds.start (h := h)) (n := xs.length) hn
  simp -implicitDefEqProofs [mk]
  refine R_loopO (fun m s h' => ∃ i : Nat, i + m = xs.length ∧ s = [(0, .slice oa xs.length c), (3, .slice oz xs.length xs.length), (4, .int .i64 i)] ∧
    Holds h h' [.own (.slice oz xs.length xs.length) 2 ((xs.take i ++ List.replicate (xs.length - i) (⟨0, 0⟩ : OpR)).map encO)]) (fun I hI m s h' => ?_) ⟨0, Nat.zero_add _, by simp, by simpa using H1⟩
  rintro ⟨i, hi, rfl, H⟩
  have hEl : (xs.take i ++ List.replicate (xs.length - i) (⟨0, 0⟩ : OpR)).length = xs.length := by simp; omega
  by_cases hlt : i < xs.length
  · obtain ⟨y, hy, hd⟩ := drop_at hlt
    obtain ⟨h2, hs2, H2, k2⟩ := put_O H 0 rfl (j := i) (by rw [hEl]; exact hlt) y
    rw [set_next hy] at H2
    obtain ⟨z, hz, _⟩ := drop_at (show i < (xs.take i ++ List.replicate (xs.length - i) (⟨0, 0⟩ : OpR)).length by rw [hEl]; exact hlt)
    have ix := (load_O (H.sees 0 rfl) hz).1
    simp -implicitDefEqProofs [-indexAddrP_some, hlt, load_lO (hvs.pre H.pre) hy, CL_ret toOp_run, ix, hs2, winc hlt hn]
    exact ⟨m - 1, by omega, on hI ⟨i + 1, by omega, rfl, H2⟩⟩
  · have hi2 : i = xs.length := by omega
    subst hi2
    rw [List.take_of_length_le (Nat.le_refl _), Nat.sub_self, List.replicate_zero, List.append_nil] at H
    simp -implicitDefEqProofs [hlt]
    exact onK hK (H.gcO fun hp i A hA => by
      match i, hA with
      | 0, hA => cases hA; exact ⟨_, _, _, rfl, hp⟩
      | i + 1, hA => cases hA)
theorem eqOp_run {h : Hp} {x : OpR} : Ret P G n_laws_eqOp [ov x, ov x] h (.bool true) h := by
  refine enter_run e_laws_eqOp (by simp) ?_
  simp -implicitDefEqProofs
theorem eqOpS_run {h : Hp} {v u : Value} {xs : List (OpR)} (hv : Sees h v 2 (xs.map encO)) (hu : Sees h u 2 (xs.map encO)) (hn : xs.length ≤ 2 ^ 40) :
    Ret P G n_laws_eqOpS [v, u] h (.bool true) h := by
  refine enter_run e_laws_eqOpS (by simp) ?_
  have hvs := hv
  have hus := hu
  obtain ⟨oa, c, rfl⟩ := hv.shapeT
  obtain ⟨ob, d, rfl⟩ := hu.shapeT
  simp -implicitDefEqProofs
  refine R_loopO (fun m s h' => ∃ i : Nat, i + m = xs.length ∧ s = [(0, .slice oa xs.length c), (1, .slice ob xs.length d), (5, .int .i64 i)] ∧ h' = h) (fun I hI m s h' => ?_) ⟨0, Nat.zero_add _, by simp, rfl⟩
  rintro ⟨i, hi, rfl, rfl⟩
  by_cases hlt : i < xs.length
  · obtain ⟨y, hy, hd⟩ := drop_at hlt
    simp -implicitDefEqProofs [-indexAddrP_some, hlt, load_O hvs hy, load_O hus hy, CL_ret eqOp_run, CH_ret eqOp_run, winc hlt hn]
    exact ⟨m - 1, by omega, on hI ⟨i + 1, by omega, rfl, rfl⟩⟩
  · simp -implicitDefEqProofs [hlt]
def mkO (k : Int) : OpR := ⟨k, k + 1⟩
theorem markOpS_run {h0 h : Hp} {L : List Asn} {v : Value} {xs : List (OpR)} {k : Int} (H0 : Holds h0 h L) (i : Nat) (hi0 : L[i]? = some (.own v 2 (xs.map encO))) (hn : xs.length ≤ 2 ^ 40) (h1 : 0 ≤ k) (h2 : k ≤ 2 ^ 50) :
    RunsC P G n_laws_markOpS [v, .int .i64 k] h fun r h' => r = .int .i64 (k + 2 * (xs.length : Int)) ∧ Holds h0 h' (L.set i (.own v 2 ((marksT mkO 2 k xs.length).map encO))) := by
  refine hideC fun K hK => enter_run e_laws_markOpS (by simp) ?_
  have hil := (List.getElem?_eq_some_iff.1 hi0).1
  have hget := (List.getElem?_eq_some_iff.1 hi0).2
  obtain ⟨oa, c, ev⟩ := (H0.sees i hi0).shapeT
  subst ev
  simp -implicitDefEqProofs
  refine R_loopO (fun m s h' => ∃ (j : Nat), j + m = xs.length ∧ s = [(0, .slice oa xs.length c), (1, .int .i64 (k + 2 * (j : Int))), (5, .int .i64 j)] ∧ Holds h0 h' (L.set i (.own (.slice oa xs.length c) 2 ((marksT mkO 2 k j ++ xs.drop j).map encO)))) (fun I hI m s h' => ?_) ⟨0, Nat.zero_add _, by simp, by
      rw [show (marksT mkO 2 k 0 ++ xs.drop 0) = xs by simp [marksT], ← hget, List.set_getElem_self]; exact H0⟩
  rintro ⟨j, hi, rfl, H⟩
  have hEl : (marksT mkO 2 k j ++ xs.drop j).length = xs.length := by rw [List.length_append, marksT_len, List.length_drop]; omega
  by_cases hlt : j < xs.length
  · obtain ⟨y, hy, hd⟩ := drop_at hlt
    obtain ⟨z, hz, _⟩ := drop_at (show j < (marksT mkO 2 k j ++ xs.drop j).length by rw [hEl]; exact hlt)
    obtain ⟨h2, hs2, H2, k2⟩ := fput_O0 H i (List.getElem?_set_self hil) hz (k + 2 * j)
    rw [List.set_set] at H2
    have hz2 : ((marksT mkO 2 k j ++ xs.drop j).set j ({ z with m := k + 2 * j }))[j]? = some ({ z with m := k + 2 * j }) := List.getElem?_set_self (by rw [hEl]; exact hlt)
    obtain ⟨h3, hs3, H3, k3⟩ := fput_O1 H2 i (List.getElem?_set_self hil) hz2 (k + 2 * j + 1)
    rw [List.set_set, List.set_set] at H3
    have ix := (load_O (H.sees i (List.getElem?_set_self hil)) hz).1
    have ix2 := (load_O (H2.sees i (List.getElem?_set_self hil)) hz2).1
    have w1 : IntKind.i64.wrap (k + 2 * j + 1) = k + 2 * j + 1 := by rw [wrap_ok] <;> omega
    have w2 : IntKind.i64.wrap (k + 2 * j + 1 + 1) = k + 2 * j + 1 + 1 := by rw [wrap_ok] <;> omega
    simp -implicitDefEqProofs [-indexAddrP_some, hlt, ix, ix2, hs2, hs3, w1, w2, winc hlt hn]
    refine ⟨m - 1, by omega, on hI ⟨j + 1, by omega, ?_, ?_⟩⟩
    · rw [show k + 2 * (j : Int) + 1 + 1 = k + 2 * ((j + 1 : Nat) : Int) by omega]; rfl
    · rw [marks_next (mk := mkO) (n := 2) hy (show mkO (k + (2 : Nat) * (j : Int)) = (⟨k + 2 * j, k + 2 * j + 1⟩ : OpR) by simp [mkO])] at H3; exact H3
  · have hj : j = xs.length := by omega
    subst hj
    rw [List.drop_eq_nil_of_le (Nat.le_refl _), List.append_nil] at H
    simp -implicitDefEqProofs [hlt]
    exact onK hK ⟨rfl, H0.gcR H (set_row hi0 rfl)⟩
theorem szIntSS_run {h : Hp} {v : Value} {xss : List (List (Int))} {vs : List Value} {left : Int} (N : Nest h v encI 1 xss vs) (hn : xss.length < 2 ^ 63) (hi : ∀ x ∈ xss, x.length < 2 ^ 63) (h0 : 0 ≤ left) (h1 : left ≤ 2 ^ 20) :
    Ret P G n_laws_szIntSS [v, .int .i64 left] h (.int .i64 (szN left xss)) h := by
  refine enter_run e_laws_szIntSS (by simp) ?_
  have Ns := N
  obtain ⟨oj, cj, rfl⟩ := N.shape
  have w : IntKind.i64.wrap (left - xss.length) = left - xss.length := by rw [wrap_ok] <;> omega
  by_cases h2 : left - (xss.length : Int) < 0
  · simp -implicitDefEqProofs [w, h2, szN]
  · have hsz : szN left xss = szGo (left - xss.length) xss := by rw [szN, if_neg h2]
    rw [hsz]
    simp -implicitDefEqProofs [w, h2]
    refine R_loopO (fun m s h' => ∃ (i : Nat) (l : Int), i + m = xss.length ∧ s = [(0, .slice oj xss.length cj), (1, .int .i64 l), (5, .int .i64 i)] ∧ h' = h ∧ 0 ≤ l ∧ l ≤ 2 ^ 20 ∧ szGo (left - xss.length) xss = szGo l (xss.drop i)) (fun I hI m s h' => ?_) ⟨0, left - xss.length, Nat.zero_add _, by simp, rfl, by omega, by omega, by simp⟩
    rintro ⟨i, l, hi', rfl, rfl, l0, l1, hx⟩
    by_cases hlt : i < xss.length
    · obtain ⟨y, hy, hd⟩ := drop_at hlt
      rw [hd, szGo] at hx
      obtain ⟨u, hu, ho⟩ := Ns.at hy
      obtain ⟨g1, g2⟩ := Ns.load (P := P) u_S_S_int i_S_int a_S_int hu
      have r := szIntS_run (left := l) ho (hi y (List.mem_of_getElem? hy)) l0 l1
      have wi := winc hlt (show xss.length ≤ 2 ^ 40 by omega)
      by_cases h3 : l - (y.length : Int) < 0
      · rw [if_pos h3] at hx
        simp -implicitDefEqProofs [-indexAddrP_some, hlt, g1, g2, CL_ret r, szL, h3, hx]
      · rw [if_neg h3] at hx
        simp -implicitDefEqProofs [-indexAddrP_some, hlt, g1, g2, CL_ret r, szL, h3, wi]
        exact ⟨m - 1, by omega, on hI ⟨i + 1, l - y.length, by omega, rfl, rfl, by omega, by omega, hx⟩⟩
    · rw [List.drop_eq_nil_of_le (by omega), szGo] at hx
      simp -implicitDefEqProofs [hlt, hx]
theorem toIntSS_run {h : Hp} {v : Value} {xss : List (List (Int))} {vs : List Value} (N : Nest h v encI 1 xss vs) (hn : xss.length ≤ 2 ^ 40) (hi : ∀ x ∈ xss, x.length ≤ 2 ^ 40) :
    RunsC P G n_laws_toIntSS [v] h fun v' h' => ∃ us : List Value, us.length = xss.length ∧ Holds h h' (.own v' 1 (us.map encV) :: inL encI 1 us xss) := by
  refine hideC fun K hK => enter_run e_laws_toIntSS (by simp) ?_
  have Ns := N
  obtain ⟨oa, c, rfl⟩ := N.shape
  obtain ⟨vz, h1, mk, H1, hp1, oz, rfl⟩ := makeN_N (Holds.start (h := h)) (n := xss.length) hn
  simp -implicitDefEqProofs [mk]
  refine R_loopO (fun m s h' => ∃ (i : Nat) (us : List Value), i + m = xss.length ∧ s = [(0, .slice oa xss.length c), (3, .slice oz xss.length xss.length), (4, .int .i64 i)] ∧ us.length = i ∧
    Holds h h' (.own (.slice oz xss.length xss.length) 1 ((us ++ List.replicate (xss.length - i) (Value.slice none 0 0)).map encV) :: inL encI 1 us (xss.take i))) (fun I hI m s h' => ?_) ⟨0, [], Nat.zero_add _, by simp, rfl, by simpa [inL] using H1⟩
  rintro ⟨i, us, hi', rfl, hus, H⟩
  have hEl : (us ++ List.replicate (xss.length - i) (Value.slice none 0 0)).length = xss.length := by simp; omega
  by_cases hlt : i < xss.length
  · obtain ⟨y, hy, hd⟩ := drop_at hlt
    have Np := Ns.pre H.pre
    obtain ⟨u, hu, ho⟩ := Np.at hy
    obtain ⟨g1, g2⟩ := Np.load (P := P) u_S_S_int i_S_int a_S_int hu
    simp -implicitDefEqProofs [-indexAddrP_some, hlt, g1, g2]
    refine CL_post (toIntS_run ho (hi y (List.mem_of_getElem? hy))) fun u2 h2 C => ?_
    have H2 := H.join C
    obtain ⟨a2, n2, c2, rfl⟩ : ∃ a n c, u2 = .slice a n c := by obtain ⟨a, c, e⟩ := (C.sees 0 rfl).shape; exact ⟨_, _, _, e⟩
    obtain ⟨z, hz, _⟩ := drop_at (show i < (us ++ List.replicate (xss.length - i) (Value.slice none 0 0)).length by rw [hEl]; exact hlt)
    have ix := (load_N (H2.sees 0 rfl) hz).1
    obtain ⟨h3, hs3, H3, k3⟩ := put_N H2 0 rfl (j := i) (by rw [hEl]; exact hlt) (.slice a2 n2 c2) rfl
    have hset : (us ++ List.replicate (xss.length - i) (Value.slice none 0 0)).set i (.slice a2 n2 c2) = (us ++ [.slice a2 n2 c2]) ++ List.replicate (xss.length - (i + 1)) (.slice none 0 0) := by
      have hse := List.set_append_right (s := us) (t := List.replicate (xss.length - i) (Value.slice none 0 0)) (i := i) (x := .slice a2 n2 c2) (by omega)
      rw [hse, hus, Nat.sub_self, show xss.length - i = (xss.length - (i + 1)) + 1 by omega, List.replicate_succ, List.set_cons_zero]
      simp
    have hin : inL encI 1 (us ++ [.slice a2 n2 c2]) (xss.take (i + 1)) = inL encI 1 us (xss.take i) ++ [.own (.slice a2 n2 c2) 1 (y.map encI)] := by
      rw [take_succ' hy]; exact inL_snoc (by simp; omega)
    simp -implicitDefEqProofs [-indexAddrP_some, ix, hs3, winc hlt hn]
    refine ⟨m - 1, by omega, on hI ⟨i + 1, us ++ [.slice a2 n2 c2], by omega, rfl, by simp; omega, ?_⟩⟩
    rw [hin, ← hset]
    exact H3
  · have hi2 : i = xss.length := by omega
    subst hi2
    rw [List.take_of_length_le (Nat.le_refl _), Nat.sub_self, List.replicate_zero, List.append_nil] at H
    simp -implicitDefEqProofs [hlt]
    refine onK hK ⟨us, hus, ?_⟩
    refine H.gcO fun hp i A hA => ?_
    have hv0 : us = [] := by
      have ho := H.own 0 rfl
      rcases ho.2 with ⟨_, h2⟩ | ⟨_, _, _, _, _, h2, _⟩
      · simpa using h2
      · rw [h2] at hp; cases hp
    subst hv0
    have hx0 : xss = [] := List.eq_nil_of_length_eq_zero (by simpa using hus.symm)
    subst hx0
    match i, hA with
    | 0, hA => cases hA; exact ⟨_, _, _, rfl, hp⟩
    | i + 1, hA => cases hA
theorem eqIntSS_run {h : Hp} {v u : Value} {xss : List (List (Int))} {vs us : List Value} (hv : Nest h v encI 1 xss vs) (hu : Nest h u encI 1 xss us) (hn : xss.length ≤ 2 ^ 40) (hi : ∀ x ∈ xss, x.length ≤ 2 ^ 40) :
    Ret P G n_laws_eqIntSS [v, u] h (.bool true) h := by
  refine enter_run e_laws_eqIntSS (by simp) ?_
  have hvs := hv
  have hus := hu
  obtain ⟨oa, c, rfl⟩ := hv.shape
  obtain ⟨ob, d, rfl⟩ := hu.shape
  simp -implicitDefEqProofs
  refine R_loopO (fun m s h' => ∃ i : Nat, i + m = xss.length ∧ s = [(0, .slice oa xss.length c), (1, .slice ob xss.length d), (5, .int .i64 i)] ∧ h' = h) (fun I hI m s h' => ?_) ⟨0, Nat.zero_add _, by simp, rfl⟩
  rintro ⟨i, hi', rfl, rfl⟩
  by_cases hlt : i < xss.length
  · obtain ⟨y, hy, hd⟩ := drop_at hlt
    obtain ⟨a, ha, ho⟩ := hvs.at hy
    obtain ⟨b, hb, hp⟩ := hus.at hy
    have e := eqIntS_run ho hp (hi y (List.mem_of_getElem? hy))
    simp -implicitDefEqProofs [-indexAddrP_some, hlt, hvs.load (P := P) u_S_S_int i_S_int a_S_int ha, hus.load (P := P) u_S_S_int i_S_int a_S_int hb, CL_ret e, CH_at e, winc hlt hn]
    exact ⟨m - 1, by omega, on hI ⟨i + 1, by omega, rfl, rfl⟩⟩
  · simp -implicitDefEqProofs [hlt]
theorem markIntSS_run {h0 h : Hp} {L1 L2 : List Asn} {v : Value} {us : List Value} {xss : List (List (Int))} {k : Int} {o : Nat} (H0 : Holds h0 h (L1 ++ (inL encI 1 us xss ++ L2))) (ho : L1[o]? = some (.own v 1 (us.map encV))) (hl : us.length = xss.length) (hn : xss.length ≤ 2 ^ 40) (ht : tot xss ≤ 2 ^ 40) (h1 : 0 ≤ k) (h2 : k ≤ 2 ^ 40) :
    RunsC P G n_laws_markIntSS [v, .int .i64 k] h fun r h' => r = .int .i64 (k + (tot xss : Int)) ∧ Holds h0 h' (L1 ++ (inL encI 1 us (marksN mkI 1 k xss) ++ L2)) := by
  refine hideC fun K hK => enter_run e_laws_markIntSS (by simp) ?_
  have N0 := H0.nest ho hl
  obtain ⟨oa, c, ev⟩ := N0.shape
  subst ev
  simp -implicitDefEqProofs
  refine R_loopO (fun m s h' => ∃ (i : Nat), i + m = xss.length ∧ s = [(0, .slice oa xss.length c), (1, .int .i64 (k + (tot (xss.take i) : Int))), (5, .int .i64 i)] ∧ Holds h0 h' (L1 ++ (inL encI 1 us ((marksN mkI 1 k xss).take i ++ xss.drop i) ++ L2))) (fun I hI m s h' => ?_) ⟨0, Nat.zero_add _, by simp [tot], by simpa using H0⟩
  rintro ⟨i, hi', rfl, H⟩
  have hll : us.length = ((marksN mkI 1 k xss).take i ++ xss.drop i).length := by rw [List.length_append, List.length_take, marksN_len, List.length_drop]; omega
  by_cases hlt : i < xss.length
  · obtain ⟨y, hy, hd⟩ := drop_at hlt
    obtain ⟨u, hu, _⟩ := drop_at (show i < us.length by omega)
    have hy2 : ((marksN mkI 1 k xss).take i ++ xss.drop i)[i]? = some y := by
      have hlk : ((marksN mkI 1 k xss).take i).length = i := by rw [List.length_take, marksN_len]; omega
      rw [List.getElem?_append_right (by omega), hlk, Nat.sub_self, hd]; rfl
    have N1 := H.nest ho hll
    have ix := N1.load (P := P) u_S_S_int i_S_int a_S_int hu
    have hp : (L1 ++ (inL encI 1 us ((marksN mkI 1 k xss).take i ++ xss.drop i) ++ L2))[L1.length + i]? = some (.own u 1 (y.map encI)) := by
      rw [List.getElem?_append_right (by omega), Nat.add_sub_cancel_left, List.getElem?_append_left (by rw [inL_len hll]; omega)]
      exact inL_get hu hy2
    have tt := tot_take_succ hy
    have tl := tot_take_le (xss := xss) (i := i + 1)
    have r := markIntS_run (k := k + (tot (xss.take i) : Int)) H (L1.length + i) hp (Nat.le_trans (tot_mem (List.mem_of_getElem? hy)) ht) (by omega) (by omega)
    simp -implicitDefEqProofs [-indexAddrP_some, hlt, ix]
    refine CL_post r fun rv h2 ⟨er, H2⟩ => ?_
    subst er
    simp -implicitDefEqProofs [winc hlt hn]
    refine ⟨m - 1, by omega, on hI ⟨i + 1, by omega, ?_, ?_⟩⟩
    · rw [tt, Int.natCast_add]
      simp only [Int.mul_add, Int.add_assoc]
      rfl
    · have hse := List.set_append_right (s := L1) (t := inL encI 1 us ((marksN mkI 1 k xss).take i ++ xss.drop i) ++ L2) (i := L1.length + i) (x := .own u 1 ((marksT mkI 1 (k + (tot (xss.take i) : Int)) y.length).map encI)) (by omega)
      have hil : i < (inL encI 1 us ((marksN mkI 1 k xss).take i ++ xss.drop i)).length := by rw [inL_len hll]; omega
      rw [hse, Nat.add_sub_cancel_left, List.set_append_left _ _ hil, inL_set hu hll] at H2
      have hm : ((marksN mkI 1 k xss).take i ++ xss.drop i).set i (marksT mkI 1 (k + (tot (xss.take i) : Int)) y.length) = (marksN mkI 1 k xss).take (i + 1) ++ xss.drop (i + 1) := by
        have hlk : ((marksN mkI 1 k xss).take i).length = i := by rw [List.length_take, marksN_len]; omega
        have hs2 := List.set_append_right (s := (marksN mkI 1 k xss).take i) (t := xss.drop i) (i := i) (x := marksT mkI 1 (k + (tot (xss.take i) : Int)) y.length) (by omega)
        have hg := marksN_get (mk := mkI) (n := 1) (k := k) hy
        rw [hs2, hlk, Nat.sub_self, hd, List.set_cons_zero, take_succ' hg, List.append_assoc]
        simp
      rw [hm] at H2
      exact H2
  · rw [List.drop_eq_nil_of_le (by omega), List.append_nil, List.take_of_length_le (by rw [marksN_len]; omega)] at H
    rw [List.take_of_length_le (by omega)]
    simp -implicitDefEqProofs [hlt]
    refine onK hK ⟨rfl, H0.gcR H ?_⟩
    rw [List.map_append, List.map_append, List.map_append, List.map_append, inL_row (ys := xss) (by rw [marksN_len]; exact hl) hl]
theorem szOpSS_run {h : Hp} {v : Value} {xss : List (List (OpR))} {vs : List Value} {left : Int} (N : Nest h v encO 2 xss vs) (hn : xss.length < 2 ^ 63) (hi : ∀ x ∈ xss, x.length < 2 ^ 63) (h0 : 0 ≤ left) (h1 : left ≤ 2 ^ 20) :
    Ret P G n_laws_szOpSS [v, .int .i64 left] h (.int .i64 (szN left xss)) h := by
  refine enter_run e_laws_szOpSS (by simp) ?_
  have Ns := N
  obtain ⟨oj, cj, rfl⟩ := N.shape
  have w : IntKind.i64.wrap (left - xss.length) = left - xss.length := by rw [wrap_ok] <;> omega
  by_cases h2 : left - (xss.length : Int) < 0
  · simp -implicitDefEqProofs [w, h2, szN]
  · have hsz : szN left xss = szGo (left - xss.length) xss := by rw [szN, if_neg h2]
    rw [hsz]
    simp -implicitDefEqProofs [w, h2]
    refine R_loopO (fun m s h' => ∃ (i : Nat) (l : Int), i + m = xss.length ∧ s = [(0, .slice oj xss.length cj), (1, .int .i64 l), (5, .int .i64 i)] ∧ h' = h ∧ 0 ≤ l ∧ l ≤ 2 ^ 20 ∧ szGo (left - xss.length) xss = szGo l (xss.drop i)) (fun I hI m s h' => ?_) ⟨0, left - xss.length, Nat.zero_add _, by simp, rfl, by omega, by omega, by simp⟩
    rintro ⟨i, l, hi', rfl, rfl, l0, l1, hx⟩
    by_cases hlt : i < xss.length
    · obtain ⟨y, hy, hd⟩ := drop_at hlt
      rw [hd, szGo] at hx
      obtain ⟨u, hu, ho⟩ := Ns.at hy
      obtain ⟨g1, g2⟩ := Ns.load (P := P) u_S_S_laws_Op i_S_laws_Op a_S_laws_Op hu
      have r := szOpS_run (left := l) ho (hi y (List.mem_of_getElem? hy)) l0 l1
      have wi := winc hlt (show xss.length ≤ 2 ^ 40 by omega)
      by_cases h3 : l - (y.length : Int) < 0
      · rw [if_pos h3] at hx
        simp -implicitDefEqProofs [-indexAddrP_some, hlt, g1, g2, CL_ret r, szL, h3, hx]
      · rw [if_neg h3] at hx
        simp -implicitDefEqProofs [-indexAddrP_some, hlt, g1, g2, CL_ret r, szL, h3, wi]
        exact ⟨m - 1, by omega, on hI ⟨i + 1, l - y.length, by omega, rfl, rfl, by omega, by omega, hx⟩⟩
    · rw [List.drop_eq_nil_of_le (by omega), szGo] at hx
      simp -implicitDefEqProofs [hlt, hx]
theorem toOpSS_run {h : Hp} {v : Value} {xss : List (List (OpR))} {vs : List Value} (N : Nest h v encO 2 xss vs) (hn : xss.length ≤ 2 ^ 40) (hi : ∀ x ∈ xss, x.length ≤ 2 ^ 40) :
    RunsC P G n_laws_toOpSS [v] h fun v' h' => ∃ us : List Value, us.length = xss.length ∧ Holds h h' (.own v' 1 (us.map encV) :: inL encO 2 us xss) := by
  refine hideC fun K hK => enter_run e_laws_toOpSS (by simp) ?_
  have Ns := N
  obtain ⟨oa, c, rfl⟩ := N.shape
  obtain ⟨vz, h1, mk, H1, hp1, oz, rfl⟩ := makeN_NO (Holds.start (h := h)) (n := xss.length) hn
  simp -implicitDefEqProofs [mk]
  refine R_loopO (fun m s h' => ∃ (i : Nat) (us : List Value), i + m = xss.length ∧ s = [(0, .slice oa xss.length c), (3, .slice oz xss.length xss.length), (4, .int .i64 i)] ∧ us.length = i ∧
    Holds h h' (.own (.slice oz xss.length xss.length) 1 ((us ++ List.replicate (xss.length - i) (Value.slice none 0 0)).map encV) :: inL encO 2 us (xss.take i))) (fun I hI m s h' => ?_) ⟨0, [], Nat.zero_add _, by simp, rfl, by simpa [inL] using H1⟩
  rintro ⟨i, us, hi', rfl, hus, H⟩
  have hEl : (us ++ List.replicate (xss.length - i) (Value.slice none 0 0)).length = xss.length := by simp; omega
  by_cases hlt : i < xss.length
  · obtain ⟨y, hy, hd⟩ := drop_at hlt
    have Np := Ns.pre H.pre
    obtain ⟨u, hu, ho⟩ := Np.at hy
    obtain ⟨g1, g2⟩ := Np.load (P := P) u_S_S_laws_Op i_S_laws_Op a_S_laws_Op hu
    simp -implicitDefEqProofs [-indexAddrP_some, hlt, g1, g2]
    refine CL_post (toOpS_run ho (hi y (List.mem_of_getElem? hy))) fun u2 h2 C => ?_
    have H2 := H.join C
    obtain ⟨a2, n2, c2, rfl⟩ : ∃ a n c, u2 = .slice a n c := by obtain ⟨a, c, e⟩ := (C.sees 0 rfl).shape; exact ⟨_, _, _, e⟩
    obtain ⟨z, hz, _⟩ := drop_at (show i < (us ++ List.replicate (xss.length - i) (Value.slice none 0 0)).length by rw [hEl]; exact hlt)
    have ix := (load_NO (H2.sees 0 rfl) hz).1
    obtain ⟨h3, hs3, H3, k3⟩ := put_NO H2 0 rfl (j := i) (by rw [hEl]; exact hlt) (.slice a2 n2 c2) rfl
    have hset : (us ++ List.replicate (xss.length - i) (Value.slice none 0 0)).set i (.slice a2 n2 c2) = (us ++ [.slice a2 n2 c2]) ++ List.replicate (xss.length - (i + 1)) (.slice none 0 0) := by
      have hse := List.set_append_right (s := us) (t := List.replicate (xss.length - i) (Value.slice none 0 0)) (i := i) (x := .slice a2 n2 c2) (by omega)
      rw [hse, hus, Nat.sub_self, show xss.length - i = (xss.length - (i + 1)) + 1 by omega, List.replicate_succ, List.set_cons_zero]
      simp
    have hin : inL encO 2 (us ++ [.slice a2 n2 c2]) (xss.take (i + 1)) = inL encO 2 us (xss.take i) ++ [.own (.slice a2 n2 c2) 2 (y.map encO)] := by
      rw [take_succ' hy]; exact inL_snoc (by simp; omega)
    simp -implicitDefEqProofs [-indexAddrP_some, ix, hs3, winc hlt hn]
    refine ⟨m - 1, by omega, on hI ⟨i + 1, us ++ [.slice a2 n2 c2], by omega, rfl, by simp; omega, ?_⟩⟩
    rw [hin, ← hset]
    exact H3
  · have hi2 : i = xss.length := by omega
    subst hi2
    rw [List.take_of_length_le (Nat.le_refl _), Nat.sub_self, List.replicate_zero, List.append_nil] at H
    simp -implicitDefEqProofs [hlt]
    refine onK hK ⟨us, hus, ?_⟩
    refine H.gcO fun hp i A hA => ?_
    have hv0 : us = [] := by
      have ho := H.own 0 rfl
      rcases ho.2 with ⟨_, h2⟩ | ⟨_, _, _, _, _, h2, _⟩
      · simpa using h2
      · rw [h2] at hp; cases hp
    subst hv0
    have hx0 : xss = [] := List.eq_nil_of_length_eq_zero (by simpa using hus.symm)
    subst hx0
    match i, hA with
    | 0, hA => cases hA; exact ⟨_, _, _, rfl, hp⟩
    | i + 1, hA => cases hA
theorem eqOpSS_run {h : Hp} {v u : Value} {xss : List (List (OpR))} {vs us : List Value} (hv : Nest h v encO 2 xss vs) (hu : Nest h u encO 2 xss us) (hn : xss.length ≤ 2 ^ 40) (hi : ∀ x ∈ xss, x.length ≤ 2 ^ 40) :
    Ret P G n_laws_eqOpSS [v, u] h (.bool true) h := by
  refine enter_run e_laws_eqOpSS (by simp) ?_
  have hvs := hv
  have hus := hu
  obtain ⟨oa, c, rfl⟩ := hv.shape
  obtain ⟨ob, d, rfl⟩ := hu.shape
  simp -implicitDefEqProofs
  refine R_loopO (fun m s h' => ∃ i : Nat, i + m = xss.length ∧ s = [(0, .slice oa xss.length c), (1, .slice ob xss.length d), (5, .int .i64 i)] ∧ h' = h) (fun I hI m s h' => ?_) ⟨0, Nat.zero_add _, by simp, rfl⟩
  rintro ⟨i, hi', rfl, rfl⟩
  by_cases hlt : i < xss.length
  · obtain ⟨y, hy, hd⟩ := drop_at hlt
    obtain ⟨a, ha, ho⟩ := hvs.at hy
    obtain ⟨b, hb, hp⟩ := hus.at hy
    have e := eqOpS_run ho hp (hi y (List.mem_of_getElem? hy))
    simp -implicitDefEqProofs [-indexAddrP_some, hlt, hvs.load (P := P) u_S_S_impl_Op i_S_impl_Op a_S_impl_Op ha, hus.load (P := P) u_S_S_impl_Op i_S_impl_Op a_S_impl_Op hb, CL_ret e, CH_at e, winc hlt hn]
    exact ⟨m - 1, by omega, on hI ⟨i + 1, by omega, rfl, rfl⟩⟩
  · simp -implicitDefEqProofs [hlt]
theorem markOpSS_run {h0 h : Hp} {L1 L2 : List Asn} {v : Value} {us : List Value} {xss : List (List (OpR))} {k : Int} {o : Nat} (H0 : Holds h0 h (L1 ++ (inL encO 2 us xss ++ L2))) (ho : L1[o]? = some (.own v 1 (us.map encV))) (hl : us.length = xss.length) (hn : xss.length ≤ 2 ^ 40) (ht : tot xss ≤ 2 ^ 40) (h1 : 0 ≤ k) (h2 : k ≤ 2 ^ 40) :
    RunsC P G n_laws_markOpSS [v, .int .i64 k] h fun r h' => r = .int .i64 (k + 2 * (tot xss : Int)) ∧ Holds h0 h' (L1 ++ (inL encO 2 us (marksN mkO 2 k xss) ++ L2)) := by
  refine hideC fun K hK => enter_run e_laws_markOpSS (by simp) ?_
  have N0 := H0.nest ho hl
  obtain ⟨oa, c, ev⟩ := N0.shape
  subst ev
  simp -implicitDefEqProofs
  refine R_loopO (fun m s h' => ∃ (i : Nat), i + m = xss.length ∧ s = [(0, .slice oa xss.length c), (1, .int .i64 (k + 2 * (tot (xss.take i) : Int))), (5, .int .i64 i)] ∧ Holds h0 h' (L1 ++ (inL encO 2 us ((marksN mkO 2 k xss).take i ++ xss.drop i) ++ L2))) (fun I hI m s h' => ?_) ⟨0, Nat.zero_add _, by simp [tot], by simpa using H0⟩
  rintro ⟨i, hi', rfl, H⟩
  have hll : us.length = ((marksN mkO 2 k xss).take i ++ xss.drop i).length := by rw [List.length_append, List.length_take, marksN_len, List.length_drop]; omega
  by_cases hlt : i < xss.length
  · obtain ⟨y, hy, hd⟩ := drop_at hlt
    obtain ⟨u, hu, _⟩ := drop_at (show i < us.length by omega)
    have hy2 : ((marksN mkO 2 k xss).take i ++ xss.drop i)[i]? = some y := by
      have hlk : ((marksN mkO 2 k xss).take i).length = i := by rw [List.length_take, marksN_len]; omega
      rw [List.getElem?_append_right (by omega), hlk, Nat.sub_self, hd]; rfl
    have N1 := H.nest ho hll
    have ix := N1.load (P := P) u_S_S_impl_Op i_S_impl_Op a_S_impl_Op hu
    have hp : (L1 ++ (inL encO 2 us ((marksN mkO 2 k xss).take i ++ xss.drop i) ++ L2))[L1.length + i]? = some (.own u 2 (y.map encO)) := by
      rw [List.getElem?_append_right (by omega), Nat.add_sub_cancel_left, List.getElem?_append_left (by rw [inL_len hll]; omega)]
      exact inL_get hu hy2
    have tt := tot_take_succ hy
    have tl := tot_take_le (xss := xss) (i := i + 1)
    have r := markOpS_run (k := k + 2 * (tot (xss.take i) : Int)) H (L1.length + i) hp (Nat.le_trans (tot_mem (List.mem_of_getElem? hy)) ht) (by omega) (by omega)
    simp -implicitDefEqProofs [-indexAddrP_some, hlt, ix]
    refine CL_post r fun rv h2 ⟨er, H2⟩ => ?_
    subst er
    simp -implicitDefEqProofs [winc hlt hn]
    refine ⟨m - 1, by omega, on hI ⟨i + 1, by omega, ?_, ?_⟩⟩
    · rw [tt, Int.natCast_add]
      simp only [Int.mul_add, Int.add_assoc]
      rfl
    · have hse := List.set_append_right (s := L1) (t := inL encO 2 us ((marksN mkO 2 k xss).take i ++ xss.drop i) ++ L2) (i := L1.length + i) (x := .own u 2 ((marksT mkO 2 (k + 2 * (tot (xss.take i) : Int)) y.length).map encO)) (by omega)
      have hil : i < (inL encO 2 us ((marksN mkO 2 k xss).take i ++ xss.drop i)).length := by rw [inL_len hll]; omega
      rw [hse, Nat.add_sub_cancel_left, List.set_append_left _ _ hil, inL_set hu hll] at H2
      have hm : ((marksN mkO 2 k xss).take i ++ xss.drop i).set i (marksT mkO 2 (k + 2 * (tot (xss.take i) : Int)) y.length) = (marksN mkO 2 k xss).take (i + 1) ++ xss.drop (i + 1) := by
        have hlk : ((marksN mkO 2 k xss).take i).length = i := by rw [List.length_take, marksN_len]; omega
        have hs2 := List.set_append_right (s := (marksN mkO 2 k xss).take i) (t := xss.drop i) (i := i) (x := marksT mkO 2 (k + 2 * (tot (xss.take i) : Int)) y.length) (by omega)
        have hg := marksN_get (mk := mkO) (n := 2) (k := k) hy
        rw [hs2, hlk, Nat.sub_self, hd, List.set_cons_zero, take_succ' hg, List.append_assoc]
        simp
      rw [hm] at H2
      exact H2
  · rw [List.drop_eq_nil_of_le (by omega), List.append_nil, List.take_of_length_le (by rw [marksN_len]; omega)] at H
    rw [List.take_of_length_le (by omega)]
    simp -implicitDefEqProofs [hlt]
    refine onK hK ⟨rfl, H0.gcR H ?_⟩
    rw [List.map_append, List.map_append, List.map_append, List.map_append, inL_row (ys := xss) (by rw [marksN_len]; exact hl) hl]
end Go.Pm.PP

/- Job shops: the laws' own functions on shops. -/
set_option linter.unusedVariables false
set_option linter.unusedSimpArgs false
set_option maxRecDepth 4000
set_option maxHeartbeats 2000000
namespace Go.Pm.PP
open Go.Pm Go.Proofs
section
variable {h : Hp} {vr : Value} {s : Shop} {vs : List Value}
theorem szJobShop_run {left : Int} (N : Nest h vr encO 2 s.routes vs) (hn : s.routes.length < 2 ^ 63) (hi : ∀ x ∈ s.routes, x.length < 2 ^ 63) (h0 : 0 ≤ left) (h1 : left ≤ 2 ^ 20) :
    Ret P G n_laws_szJobShop [sv s vr, .int .i64 left] h (.int .i64 (szN left s.routes)) h := by
  refine enter_run e_laws_szJobShop (by simp) ?_
  have Ns := N
  obtain ⟨oa, c, rfl⟩ := N.shape
  have r := fun l => szOpSS_run (left := left) (Ns.pre (List.prefix_append h l)) hn hi h0 h1
  by_cases h2 : szN left s.routes < 0
  · simp -implicitDefEqProofs [CL_ret (r _), h2, szN_neg h0 h2]
  · simp -implicitDefEqProofs [CL_ret (r _), h2]
theorem toJobShop_run (N : Nest h vr encO 2 s.routes vs) (hn : s.routes.length ≤ 2 ^ 40) (hi : ∀ x ∈ s.routes, x.length ≤ 2 ^ 40) :
    RunsC P G n_laws_toJobShop [sv s vr] h fun v h' => ∃ vr' us, v = sv s vr' ∧ us.length = s.routes.length ∧ Holds h h' (.own vr' 1 (us.map encV) :: inL encO 2 us s.routes) := by
  refine hideC fun K hK => enter_run e_laws_toJobShop (by simp) ?_
  have Ns := N
  obtain ⟨oa, c, rfl⟩ := N.shape
  have H0 := (((Holds.start.alloc [.int .i64 s.m, .slice oa s.routes.length c] (h := h)).alloc [.int .i64 0, .slice none 0 0]).alloc [.int .i64 s.m, .slice none 0 0])
  simp only [List.append_assoc, List.cons_append, List.nil_append, List.length_append, List.length_cons, List.length_nil, Nat.zero_add] at H0
  simp -implicitDefEqProofs
  refine CL_post (toOpSS_run (Ns.pre (List.prefix_append h _)) hn hi) fun v h2 ⟨us, hus, C⟩ => ?_
  obtain ⟨a, n, d, rfl⟩ : ∃ a n c, v = .slice a n c := by obtain ⟨a, c, e⟩ := (C.sees 0 rfl).shape; exact ⟨_, _, _, e⟩
  have H1 := H0.join C
  obtain ⟨h3, s3, H3, k3⟩ := H1.set (P := P) 2 (n := 2) (o := 1) (ty := t_S_S_impl_Op) (w := .slice a n d) rfl rfl e_t_S_S_impl_Op (by simp) (by simp) (by simp)
  obtain ⟨h4, s4, H4, k4⟩ := H3.set (P := P) 1 (n := 2) (o := 0) (ty := t_impl_JobShop) (w := .agg #[.int .i64 s.m, .slice a n d]) rfl rfl e_t_impl_JobShop (by simp) (by simp) (by simp)
  have H5 : Holds h h4 (.own (.slice a n d) 1 (us.map encV) :: inL encO 2 us s.routes) := H4.tail.tail.tail
  simp -implicitDefEqProofs [s3, H3.bl 2 2 rfl rfl, s4, H4.bl 1 2 rfl rfl]
  refine onK hK ⟨_, us, rfl, hus, H5.gcO fun hp i A hA => ?_⟩
  have hp' : plainC (.slice a n d) = true := by simpa [plain] using hp
  have hv0 : us = [] := by
    have ho := H5.own 0 rfl
    rcases ho.2 with ⟨_, h2⟩ | ⟨_, _, _, _, _, h2, _⟩
    · simpa using h2
    · rw [h2] at hp'; cases hp'
  subst hv0
  have hx0 : s.routes = [] := List.eq_nil_of_length_eq_zero (by simpa using hus.symm)
  rw [hx0] at hA
  match i, hA with
  | 0, hA => cases hA; exact ⟨_, _, _, rfl, hp'⟩
  | i + 1, hA => cases hA
theorem eqJobShop_run {vu : Value} {us : List Value} (N : Nest h vr encO 2 s.routes vs) (M : Nest h vu encO 2 s.routes us) (hn : s.routes.length ≤ 2 ^ 40) (hi : ∀ x ∈ s.routes, x.length ≤ 2 ^ 40) :
    Ret P G n_laws_eqJobShop [sv s vr, sv s vu] h (.bool true) h := by
  refine enter_run e_laws_eqJobShop (by simp) ?_
  have Ns := N
  have Ms := M
  obtain ⟨oa, c, rfl⟩ := N.shape
  obtain ⟨ob, d, rfl⟩ := M.shape
  have r := fun l => eqOpSS_run (Ns.pre (List.prefix_append h l)) (Ms.pre (List.prefix_append h l)) hn hi
  simp -implicitDefEqProofs [CL_ret (r _)]
end
theorem markJobShop_run {h0 h : Hp} {L1 L2 : List Asn} {v : Value} {us : List Value} {s : Shop} {k : Int} {o : Nat} (H0 : Holds h0 h (L1 ++ (inL encO 2 us s.routes ++ L2))) (ho : L1[o]? = some (.own v 1 (us.map encV))) (hl : us.length = s.routes.length) (hn : s.routes.length ≤ 2 ^ 40) (ht : tot s.routes ≤ 2 ^ 40) (h1 : 0 ≤ k) (h2 : k ≤ 2 ^ 40) :
    RunsC P G n_laws_markJobShop [sv s v, .int .i64 k] h fun r h' => r = .int .i64 (k + 2 * (tot s.routes : Int)) ∧ Holds h0 h' (L1 ++ (inL encO 2 us (marksN mkO 2 k s.routes) ++ L2)) := by
  refine hideC fun K hK => enter_run e_laws_markJobShop (by simp) ?_
  have N0 := H0.nest ho hl
  obtain ⟨oa, c, ev⟩ := N0.shape
  subst ev
  simp -implicitDefEqProofs
  refine CL_post (markOpSS_run (H0.ext (List.prefix_append ..)) ho hl hn ht h1 h2) fun r h3 ⟨er, H3⟩ => ?_
  subst er
  simp -implicitDefEqProofs
  refine onK hK ⟨rfl, H0.gcR H3 ?_⟩
  rw [List.map_append, List.map_append, List.map_append, List.map_append, inL_row (ys := s.routes) (by rw [marksN_len]; exact hl) hl]
end Go.Pm.PP

/- Job shops: how long what is returned is. -/
set_option linter.unusedVariables false
set_option linter.unusedSimpArgs false
namespace Go.Pm.PP
open Go.Pm Go.Proofs Go.Pm.JS
theorem cnt_tot {α : Type} : ∀ {xs : List (List α)}, cntN xs = tot xs
  | [] => rfl
  | x :: xs => by rw [cntN, tot, cnt_tot]
theorem zerosN_len {n : Nat} : (zerosN n).length = n := by simp [zerosN]
theorem rounds_len {A : List Arc} : ∀ {k : Nat} {v u : List Int}, rounds A k v = some u → u.length = v.length
  | 0, v, u, h => by cases h
  | k + 1, v, u, h => by
    unfold rounds at h
    split at h
    · rw [rounds_len h, fpass_fst, gpass_len]
    · cases h; rw [fpass_fst, gpass_len]
theorem good_ops {s : Shop} (h : goodS s = true) : (opsL s).length ≤ 12 := by rw [ops_len]; exact (good_n h).1
theorem heads_good {s : Shop} {oss : List (List Int)} {us : List Int} (h : headsO s oss = some us) : goodS s = true ∧ us.length = (opsL s).length ∧ SelGo s 0 oss := by
  unfold headsO at h
  split at h
  · rename_i hc
    obtain ⟨hg, _, hs⟩ := sel2_iff.1 hc
    exact ⟨hg, by rw [rounds_len h, zerosN_len], hs⟩
  · cases h
theorem heads_len {s : Shop} {oss : List (List Int)} : ((headsO s oss).getD []).length ≤ 2 ^ 40 := by
  cases h : headsO s oss with
  | none => simp
  | some us =>
    obtain ⟨hg, hl, _⟩ := heads_good h
    have := good_ops hg
    simp [hl]; omega
theorem tails_len {s : Shop} {oss : List (List Int)} : ((tailsO s oss).getD []).length ≤ 2 ^ 40 := by
  unfold tailsO
  cases h : headsO s oss with
  | none => simp
  | some us =>
    obtain ⟨hg, hl, _⟩ := heads_good h
    have := good_ops hg
    simp [tailsL, gpasses_len, ts_len]; omega
end Go.Pm.PP

/- FnExactHeadsOf in the small machine. -/
set_option linter.unusedVariables false
set_option linter.unusedSimpArgs false
set_option maxRecDepth 4000
set_option maxHeartbeats 4000000
namespace Go.Pm.PP
open Go.Pm Go.Proofs
theorem law_HeadsOf {h : Hp} {vr vo : Value} {s : Shop} {oss : List (List Int)} {vs ws : List Value} (NS : Nest h vr encO 2 s.routes vs) (NO : Nest h vo encI 1 oss ws) (l1 : s.routes.length < 2 ^ 63) (l2 : ∀ x ∈ s.routes, x.length < 2 ^ 63) (l3 : oss.length < 2 ^ 63) (l4 : ∀ x ∈ oss, x.length < 2 ^ 63) :
    Ret P G n_laws_FnExactHeadsOf [sv s vr, vo] h (.bool true) h := by
  refine enter_run e_laws_FnExactHeadsOf (by simp) ?_
  have NSs := NS
  have NOs := NO
  obtain ⟨oa, ca, rfl⟩ := NS.shape
  obtain ⟨ob, cb, rfl⟩ := NO.shape
  have z1 := fun l => szJobShop_run (left := 1048576) (NSs.pre (List.prefix_append h l)) l1 l2 (by omega) (by omega)
  by_cases c1 : szN 1048576 s.routes < 0
  · simp -implicitDefEqProofs [CL_ret (z1 _), c1]
  have e1 := szN_ok c1
  have z2 := fun l => szIntSS_run (left := szN 1048576 s.routes) (NOs.pre (List.prefix_append h l)) l3 l4 (by omega) (by omega)
  by_cases c2 : szN (szN 1048576 s.routes) oss < 0
  · simp -implicitDefEqProofs [CL_ret (z1 _), c1, CL_ret (z2 _), c2]
  have e2 := szN_ok c2
  have b1 : s.routes.length ≤ 2 ^ 20 := by omega
  have b2 : tot s.routes ≤ 2 ^ 20 := by omega
  have b3 : oss.length ≤ 2 ^ 20 := by omega
  have b4 : tot oss ≤ 2 ^ 20 := by omega
  have b5 : ∀ x ∈ s.routes, x.length ≤ 2 ^ 40 := fun x hx => by have := tot_mem hx; omega
  have b6 : ∀ x ∈ oss, x.length ≤ 2 ^ 40 := fun x hx => by have := tot_mem hx; omega
  have toS : ∀ {h' : Hp}, h <+: h' → RunsC P G n_laws_toJobShop [sv s (.slice oa s.routes.length ca)] h' fun v h2 => ∃ vr' us, v = sv s vr' ∧ us.length = s.routes.length ∧ Holds h' h2 (.own vr' 1 (us.map encV) :: inL encO 2 us s.routes) := fun hp => toJobShop_run (NSs.pre hp) (by omega) b5
  have toO : ∀ {h' : Hp}, h <+: h' → RunsC P G n_laws_toIntSS [.slice ob oss.length cb] h' fun v h2 => ∃ us : List Value, us.length = oss.length ∧ Holds h' h2 (.own v 1 (us.map encV) :: inL encI 1 us oss) := fun hp => toIntSS_run (NOs.pre hp) (by omega) b6
  have H0 := (Holds.start.alloc [.int .i64 s.m, .slice oa s.routes.length ca] (h := h)).open
  obtain ⟨X, hX⟩ : ∃ X, X = headsO s oss := ⟨_, rfl⟩
  obtain ⟨xs, hxs⟩ : ∃ xs, xs = X.getD [] := ⟨_, rfl⟩
  -- the reference
  simp -implicitDefEqProofs [CL_ret (z1 _), c1, CL_ret (z2 _), c2]
  refine CL_post (toS H0.pre) fun v h1 ⟨r1, u1, ev, hu1, C1⟩ => ?_
  subst ev
  have p1 := H0.pre.trans C1.pre
  simp -implicitDefEqProofs
  refine CL_post (toO p1) fun v2 h2 ⟨u2, hu2, C2⟩ => ?_
  have S1 : SAt h2 r1 s := ⟨⟨u1, (Holds.nest (L1 := [_]) (L2 := []) (o := 0) (C1.ext C2.pre).open rfl hu1)⟩, b1, by rw [cnt_tot]; exact b2⟩
  have O1 : OAt h2 v2 oss := ⟨⟨u2, (Holds.nest (L1 := [_]) (L2 := []) (o := 0) C2.open rfl hu2)⟩, b3, by rw [cnt_tot]; exact b4⟩
  simp -implicitDefEqProofs
  refine CL_post (specHeadsOf_run S1 O1) fun v h3 ⟨p3, w, ev, ow⟩ => ?_
  subst ev
  rw [← hX, ← hxs] at ow
  rw [← hX]
  obtain ⟨w1, w2, w3, rfl⟩ : ∃ a n c, w = .slice a n c := by obtain ⟨a, c, e⟩ := ow.sees.shape; exact ⟨_, _, _, e⟩
  have H1 := (H0.ext (C1.pre.trans C2.pre)).callT p3 ow
  -- the copies
  simp -implicitDefEqProofs [H1.bl 0 2 rfl rfl]
  refine CL_post (toS H1.pre) fun v h4 ⟨r3, u3, ev, hu3, C3⟩ => ?_
  subst ev
  obtain ⟨x1, x2, x3, rfl⟩ : ∃ a n c, r3 = .slice a n c := by obtain ⟨a, c, e⟩ := (C3.sees 0 rfl).shape; exact ⟨_, _, _, e⟩
  have H2 := (Holds.joinT (A := [_]) (M := inL encO 2 u3 s.routes) H1 C3).allocT [.int .i64 s.m, .slice x1 x2 x3]
  simp -implicitDefEqProofs
  refine CL_post (toO H2.pre) fun v5 h5 ⟨u4, hu4, C4⟩ => ?_
  obtain ⟨y1, y2, y3, rfl⟩ : ∃ a n c, v5 = .slice a n c := by obtain ⟨a, c, e⟩ := (C4.sees 0 rfl).shape; exact ⟨_, _, _, e⟩
  have H3 := Holds.joinT (A := [_]) (M := inL encI 1 u4 oss) H2 C4
  have N3 := Holds.nest (o := 2) H3.swap rfl hu3
  have M3 := Holds.nest (o := 4) H3 rfl hu4
  have S3 : SAt h5 (.slice x1 x2 x3) s := ⟨⟨u3, N3⟩, b1, by rw [cnt_tot]; exact b2⟩
  have O3 : OAt h5 (.slice y1 y2 y3) oss := ⟨⟨u4, M3⟩, b3, by rw [cnt_tot]; exact b4⟩
  -- the program
  simp -implicitDefEqProofs [H3.bl 3 2 rfl rfl]
  refine CL_post (HeadsOf_run S3 O3) fun v h6 ⟨p6, g, ev, og⟩ => ?_
  subst ev
  rw [← hX, ← hxs] at og
  rw [← hX]
  obtain ⟨g1, g2, g3, rfl⟩ : ∃ a n c, g = .slice a n c := by obtain ⟨a, c, e⟩ := og.sees.shape; exact ⟨_, _, _, e⟩
  have H4 := H3.callT p6 og
  have xl : xs.length ≤ 2 ^ 40 := by rw [hxs, hX]; exact heads_len
  have q1 := eqIntS_run (H4.sees 5 rfl) (H4.sees 1 rfl) xl
  simp -implicitDefEqProofs [CL_ret q1, H4.bl 3 2 rfl rfl, H4.bl 0 2 rfl rfl]
  -- the copies are as they were
  refine CH_post (toS H4.pre).new fun v h7 ⟨⟨r7, u7, ev, hu7, C7⟩, hn7⟩ => ⟨hn7 C7.pre, ?_⟩
  subst ev
  have H5 := H4.ext C7.pre
  have q2 := eqJobShop_run (N3.pre (p6.trans C7.pre)) (Holds.nest (L1 := [_]) (L2 := []) (o := 0) C7.open rfl hu7) (by omega) b5
  simp -implicitDefEqProofs [CL_ret q2, CH_at q2]
  refine CL_post (toO H5.pre) fun v8 h8 ⟨u8, hu8, C8⟩ => ?_
  have H6 := H5.ext C8.pre
  have q3 := eqIntSS_run (M3.pre (p6.trans (C7.pre.trans C8.pre))) (Holds.nest (L1 := [_]) (L2 := []) (o := 0) C8.open rfl hu8) (by omega) b6
  simp -implicitDefEqProofs [CL_ret q3, H6.bl 3 2 rfl rfl]
  -- marks in the copies
  refine CL_post (markJobShop_run (k := 1) (o := 2) H6.swap rfl hu3 (by omega) (by omega) (by omega) (by omega)) fun r h9 ⟨er, H7⟩ => ?_
  subst er
  have H8 := H7.swap
  simp -implicitDefEqProofs
  refine CL_post (markIntSS_run (k := 1 + 2 * (tot s.routes : Int)) (o := 4) H8 rfl hu4 (by omega) (by omega) (by omega) (by omega)) fun r h10 ⟨er, H9⟩ => ?_
  subst er
  have q4 := eqIntS_run (H9.sees 5 rfl) (H9.sees 1 rfl) xl
  have hk0 : ¬ (1 + 2 * (tot s.routes : Int) + tot oss < 0) := by omega
  simp -implicitDefEqProofs [hk0, CL_ret q4]
  -- marks in the result
  refine CL_post (markIntS_run (k := 1) H9 5 rfl xl (by omega) (by omega)) fun r h11 ⟨er, H10⟩ => ?_
  subst er
  have q5 := heldIntS_run (k := 1) (H10.sees 5 rfl) xl (by omega) (by omega)
  have hk1 : ¬ (1 + (xs.length : Int) < 0) := by omega
  simp -implicitDefEqProofs [CL_ret q5, hk1, H10.bl 0 2 rfl rfl]
  -- once more
  refine CL_post (toS H10.pre) fun v h12 ⟨r12, u12, ev, hu12, C12⟩ => ?_
  subst ev
  simp -implicitDefEqProofs
  refine CL_post (toO (H10.pre.trans C12.pre)) fun v13 h13 ⟨u13, hu13, C13⟩ => ?_
  have S13 : SAt h13 r12 s := ⟨⟨u12, (Holds.nest (L1 := [_]) (L2 := []) (o := 0) (C12.ext C13.pre).open rfl hu12)⟩, b1, by rw [cnt_tot]; exact b2⟩
  have O13 : OAt h13 v13 oss := ⟨⟨u13, (Holds.nest (L1 := [_]) (L2 := []) (o := 0) C13.open rfl hu13)⟩, b3, by rw [cnt_tot]; exact b4⟩
  simp -implicitDefEqProofs
  refine CL_post (HeadsOf_run S13 O13) fun v h14 ⟨p14, t, ev, ot⟩ => ?_
  subst ev
  rw [← hX, ← hxs] at ot
  rw [← hX]
  have H11 := H10.ext (C12.pre.trans (C13.pre.trans p14))
  have q6 := eqIntS_run ot.sees (H11.sees 1 rfl) xl
  have q7 := heldIntS_run (k := 1) (H11.sees 5 rfl) xl (by omega) (by omega)
  simp -implicitDefEqProofs [CL_ret q6, CL_ret q7, hk1]
  exact gcP H11.pre rfl
end Go.Pm.PP

/- Job shops and orders as arguments, opened as rows. -/
set_option linter.unusedVariables false
set_option linter.unusedSimpArgs false
set_option maxRecDepth 4000
namespace Go.Pm.PP
open Go.Pm Go.Proofs
theorem follows : P.follows .mixedOrders = true := by kernel_rfl
theorem cells_int : P.cellsOf t_int = 1 := by kernel_rfl
theorem cells_S_int : P.cellsOf t_S_int = 1 := by kernel_rfl
theorem cells_lOp : P.cellsOf t_laws_Op = 2 := by kernel_rfl
theorem cells_S_lOp : P.cellsOf t_S_laws_Op = 1 := by kernel_rfl
theorem cells_lShop : P.cellsOf t_laws_JobShop = 2 := by kernel_rfl
theorem lOpF : ∃ fs, P.underlying t_laws_Op = some (.struct fs) ∧ ∀ i, i < 2 → ∃ f, fs[i]? = some f ∧ f.offset = i ∧ P.underlying f.type = some (.int .i64) ∧ P.cellsOf f.type = 1 := by
  refine ⟨_, rfl, fun i hi => ?_⟩
  match i, hi with
  | 0, _ => exact ⟨_, rfl, rfl, rfl, by kernel_rfl⟩
  | 1, _ => exact ⟨_, rfl, rfl, rfl, by kernel_rfl⟩
theorem lShopF : ∃ fs f0 f1, P.underlying t_laws_JobShop = some (.struct fs) ∧ (fs[0]? = some f0 ∧ f0.offset = 0 ∧ P.underlying f0.type = some (.int .i64) ∧ P.cellsOf f0.type = 1) ∧ (fs[1]? = some f1 ∧ f1.offset = 1 ∧ f1.type = t_S_S_laws_Op ∧ P.cellsOf f1.type = 1) :=
  ⟨_, _, _, rfl, ⟨rfl, rfl, rfl, by kernel_rfl⟩, ⟨rfl, rfl, rfl, by kernel_rfl⟩⟩
def opOf (ns : List Int) : OpR := ⟨ns.getD 0 0, ns.getD 1 0⟩
theorem opOf_enc {ns : List Int} (h : ns.length = 2) : encO (opOf ns) = ns.map fun z => .int .i64 z := by
  match ns, h with
  | [a, b], _ => rfl
section
variable {H : Type} {enc : TypeId × Value → H} {W : World}
theorem shows_lOps (fu : Nat) (u : Value) (y : DataW H × List MemPlace) (hd : DataW.trod enc P W 0 (fun _ => true) true fu t_S_laws_Op [u] = some y) : ∃ xs : List OpR, xs.length ≤ maxLen ∧ ∀ (ρ : Mp) (h : Hp), Shows ρ h W 2 (xs.map encO) u := by
  obtain ⟨gs, ug, hg⟩ := lOpF
  obtain ⟨nss, l0, g0, s0⟩ := shows_recs (P := P) (v := u) u_S_laws_Op ug cells_lOp (by omega) hg hd
  have hm0 : (nss.map fun ns => ns.map fun z => Value.int .i64 z) = (nss.map opOf).map encO := by
    rw [List.map_map]
    exact List.map_congr_left fun ns hns => (opOf_enc (g0 ns hns)).symm
  exact ⟨nss.map opOf, by simpa using l0, fun ρ h => by rw [← hm0]; exact s0 ρ h⟩
theorem shows_Ints (fu : Nat) (u : Value) (y : DataW H × List MemPlace) (hd : DataW.trod enc P W 0 (fun _ => true) true fu t_S_int [u] = some y) : ∃ xs : List Int, xs.length ≤ maxLen ∧ ∀ (ρ : Mp) (h : Hp), Shows ρ h W 1 (xs.map encI) u :=
  shows_ints (P := P) u_S_int u_int cells_int hd
theorem open_iss {ρ : Mp} {h : Hp} (R : Rel ρ h W) (ha : AllRo h) {v : Value} {n0 : Nat} {x0 : DataW H × List MemPlace} (d0 : DataW.trod enc P W 0 (fun _ => true) true n0 t_S_S_int [v] = some x0) :
    ∃ (h2 : Hp) (ρ2 : Mp) (p : Value) (xss : List (List Int)) (vs : List Value), h <+: h2 ∧ Rel ρ2 h2 W ∧ AllRo h2 ∧ Step ρ h ρ2 h2 ∧ VR ρ2 h2 p v ∧ Nest h2 p encI 1 xss vs ∧ xss.length < 2 ^ 63 ∧ ∀ x ∈ xss, x.length < 2 ^ 63 := by
  have hmx : maxLen = 2 ^ 63 - 1 := rfl
  obtain ⟨L, l1, l2, hv⟩ := open_nest (P := P) (sz := 1) (enc := encI) u_S_S_int cells_S_int shows_Ints d0
  obtain ⟨h2, ρ2, p, vs, q, R2, a2, st, r, N⟩ := add_nest (w := W) (sz := 1) (enc := encI) (fun x => rfl) (fun y hy => (l2 y hy).2) hv R ha
  refine ⟨h2, ρ2, p, L.map (·.2), vs, q, R2, a2, st, r, N, by simp; omega, fun x hx => ?_⟩
  obtain ⟨y, hy, rfl⟩ := List.mem_map.1 hx
  have := (l2 y hy).1
  omega
theorem open_shop {ρ : Mp} {h : Hp} (R : Rel ρ h W) (ha : AllRo h) {cs : Array Value} {n0 : Nat} {x0 : DataW H × List MemPlace} (hcs : cs.size = 2)
    (d0 : DataW.trod enc P W 0 (fun _ => true) true n0 t_laws_JobShop cs.toList = some x0) :
    ∃ (h2 : Hp) (ρ2 : Mp) (p : Value) (s : Shop) (vs : List Value), h <+: h2 ∧ Rel ρ2 h2 W ∧ AllRo h2 ∧ Step ρ h ρ2 h2 ∧ VR ρ2 h2 (sv s p) (.agg cs) ∧ Nest h2 p encO 2 s.routes vs ∧ s.routes.length < 2 ^ 63 ∧ ∀ x ∈ s.routes, x.length < 2 ^ 63 := by
  have hmx : maxLen = 2 ^ 63 - 1 := rfl
  obtain ⟨fs, f0, f1, uf, ⟨a0, b0, c0, e0⟩, ⟨a1, b1, c1, e1⟩⟩ := lShopF
  obtain ⟨ys, q, _, _, hl2, hy, hall⟩ := DataW.trod_struct uf d0
  have hfs : 2 ≤ fs.size := (Array.getElem?_eq_some_iff.1 a1).1
  obtain ⟨v0, v1, hv⟩ : ∃ v0 v1, cs.toList = [v0, v1] := by
    have : cs.toList.length = 2 := by simpa using hcs
    match cs.toList, this with
    | [a, b], _ => exact ⟨a, b, rfl⟩
  rw [hv] at hall
  have k0 := hall 0 f0 a0
  have k1 := hall 1 f1 a1
  rw [b0, e0, List.getElem?_eq_getElem (show 0 < ys.length by omega)] at k0
  rw [b1, e1, c1, List.getElem?_eq_getElem (show 1 < ys.length by omega)] at k1
  obtain ⟨z0, hz0, _⟩ := DataW.trod_int c0 k0
  have hv0 : v0 = .int .i64 z0 := by simpa using hz0
  obtain ⟨L, l1, l2, hvv⟩ := open_nest (P := P) (v := v1) (sz := 2) (enc := encO) u_S_S_laws_Op cells_S_lOp shows_lOps (by simpa using k1)
  obtain ⟨h2, ρ2, p, vs, q, R2, a2, st, r, N⟩ := add_nest (w := W) (sz := 2) (enc := encO) (fun x => rfl) (fun y hy => (l2 y hy).2) hvv R ha
  refine ⟨h2, ρ2, p, ⟨z0, L.map (·.2)⟩, vs, q, R2, a2, st, ?_, N, by simp; omega, fun x hx => ?_⟩
  · have hcs2 : cs = #[.int .i64 z0, v1] := by
      apply Array.ext'
      rw [hv, hv0]
    rw [hcs2]
    refine .agg _ _ rfl fun i u u' g1 g2 => ?_
    match i with
    | 0 => simp at g1 g2; subst g1; subst g2; exact .int _ _
    | 1 => simp at g1 g2; subst g1; subst g2; exact r
    | i + 2 => simp at g1
  · obtain ⟨y, hy, rfl⟩ := List.mem_map.1 hx
    have := (l2 y hy).1
    omega
end
end Go.Pm.PP

/- FnExactOpTails in the small machine. -/
set_option linter.unusedVariables false
set_option linter.unusedSimpArgs false
set_option maxRecDepth 4000
set_option maxHeartbeats 4000000
namespace Go.Pm.PP
open Go.Pm Go.Proofs
theorem law_OpTails {h : Hp} {vr vo : Value} {s : Shop} {oss : List (List Int)} {vs ws : List Value} (NS : Nest h vr encO 2 s.routes vs) (NO : Nest h vo encI 1 oss ws) (l1 : s.routes.length < 2 ^ 63) (l2 : ∀ x ∈ s.routes, x.length < 2 ^ 63) (l3 : oss.length < 2 ^ 63) (l4 : ∀ x ∈ oss, x.length < 2 ^ 63) :
    Ret P G n_laws_FnExactOpTails [sv s vr, vo] h (.bool true) h := by
  refine enter_run e_laws_FnExactOpTails (by simp) ?_
  have NSs := NS
  have NOs := NO
  obtain ⟨oa, ca, rfl⟩ := NS.shape
  obtain ⟨ob, cb, rfl⟩ := NO.shape
  have z1 := fun l => szJobShop_run (left := 1048576) (NSs.pre (List.prefix_append h l)) l1 l2 (by omega) (by omega)
  by_cases c1 : szN 1048576 s.routes < 0
  · simp -implicitDefEqProofs [CL_ret (z1 _), c1]
  have e1 := szN_ok c1
  have z2 := fun l => szIntSS_run (left := szN 1048576 s.routes) (NOs.pre (List.prefix_append h l)) l3 l4 (by omega) (by omega)
  by_cases c2 : szN (szN 1048576 s.routes) oss < 0
  · simp -implicitDefEqProofs [CL_ret (z1 _), c1, CL_ret (z2 _), c2]
  have e2 := szN_ok c2
  have b1 : s.routes.length ≤ 2 ^ 20 := by omega
  have b2 : tot s.routes ≤ 2 ^ 20 := by omega
  have b3 : oss.length ≤ 2 ^ 20 := by omega
  have b4 : tot oss ≤ 2 ^ 20 := by omega
  have b5 : ∀ x ∈ s.routes, x.length ≤ 2 ^ 40 := fun x hx => by have := tot_mem hx; omega
  have b6 : ∀ x ∈ oss, x.length ≤ 2 ^ 40 := fun x hx => by have := tot_mem hx; omega
  have toS : ∀ {h' : Hp}, h <+: h' → RunsC P G n_laws_toJobShop [sv s (.slice oa s.routes.length ca)] h' fun v h2 => ∃ vr' us, v = sv s vr' ∧ us.length = s.routes.length ∧ Holds h' h2 (.own vr' 1 (us.map encV) :: inL encO 2 us s.routes) := fun hp => toJobShop_run (NSs.pre hp) (by omega) b5
  have toO : ∀ {h' : Hp}, h <+: h' → RunsC P G n_laws_toIntSS [.slice ob oss.length cb] h' fun v h2 => ∃ us : List Value, us.length = oss.length ∧ Holds h' h2 (.own v 1 (us.map encV) :: inL encI 1 us oss) := fun hp => toIntSS_run (NOs.pre hp) (by omega) b6
  have H0 := (Holds.start.alloc [.int .i64 s.m, .slice oa s.routes.length ca] (h := h)).open
  obtain ⟨X, hX⟩ : ∃ X, X = tailsO s oss := ⟨_, rfl⟩
  obtain ⟨xs, hxs⟩ : ∃ xs, xs = X.getD [] := ⟨_, rfl⟩
  -- the reference
  simp -implicitDefEqProofs [CL_ret (z1 _), c1, CL_ret (z2 _), c2]
  refine CL_post (toS H0.pre) fun v h1 ⟨r1, u1, ev, hu1, C1⟩ => ?_
  subst ev
  have p1 := H0.pre.trans C1.pre
  simp -implicitDefEqProofs
  refine CL_post (toO p1) fun v2 h2 ⟨u2, hu2, C2⟩ => ?_
  have S1 : SAt h2 r1 s := ⟨⟨u1, (Holds.nest (L1 := [_]) (L2 := []) (o := 0) (C1.ext C2.pre).open rfl hu1)⟩, b1, by rw [cnt_tot]; exact b2⟩
  have O1 : OAt h2 v2 oss := ⟨⟨u2, (Holds.nest (L1 := [_]) (L2 := []) (o := 0) C2.open rfl hu2)⟩, b3, by rw [cnt_tot]; exact b4⟩
  simp -implicitDefEqProofs
  refine CL_post (specOpTails_run S1 O1) fun v h3 ⟨p3, w, ev, ow⟩ => ?_
  subst ev
  rw [← hX, ← hxs] at ow
  rw [← hX]
  obtain ⟨w1, w2, w3, rfl⟩ : ∃ a n c, w = .slice a n c := by obtain ⟨a, c, e⟩ := ow.sees.shape; exact ⟨_, _, _, e⟩
  have H1 := (H0.ext (C1.pre.trans C2.pre)).callT p3 ow
  -- the copies
  simp -implicitDefEqProofs [H1.bl 0 2 rfl rfl]
  refine CL_post (toS H1.pre) fun v h4 ⟨r3, u3, ev, hu3, C3⟩ => ?_
  subst ev
  obtain ⟨x1, x2, x3, rfl⟩ : ∃ a n c, r3 = .slice a n c := by obtain ⟨a, c, e⟩ := (C3.sees 0 rfl).shape; exact ⟨_, _, _, e⟩
  have H2 := (Holds.joinT (A := [_]) (M := inL encO 2 u3 s.routes) H1 C3).allocT [.int .i64 s.m, .slice x1 x2 x3]
  simp -implicitDefEqProofs
  refine CL_post (toO H2.pre) fun v5 h5 ⟨u4, hu4, C4⟩ => ?_
  obtain ⟨y1, y2, y3, rfl⟩ : ∃ a n c, v5 = .slice a n c := by obtain ⟨a, c, e⟩ := (C4.sees 0 rfl).shape; exact ⟨_, _, _, e⟩
  have H3 := Holds.joinT (A := [_]) (M := inL encI 1 u4 oss) H2 C4
  have N3 := Holds.nest (o := 2) H3.swap rfl hu3
  have M3 := Holds.nest (o := 4) H3 rfl hu4
  have S3 : SAt h5 (.slice x1 x2 x3) s := ⟨⟨u3, N3⟩, b1, by rw [cnt_tot]; exact b2⟩
  have O3 : OAt h5 (.slice y1 y2 y3) oss := ⟨⟨u4, M3⟩, b3, by rw [cnt_tot]; exact b4⟩
  -- the program
  simp -implicitDefEqProofs [H3.bl 3 2 rfl rfl]
  refine CL_post (OpTails_run S3 O3) fun v h6 ⟨p6, g, ev, og⟩ => ?_
  subst ev
  rw [← hX, ← hxs] at og
  rw [← hX]
  obtain ⟨g1, g2, g3, rfl⟩ : ∃ a n c, g = .slice a n c := by obtain ⟨a, c, e⟩ := og.sees.shape; exact ⟨_, _, _, e⟩
  have H4 := H3.callT p6 og
  have xl : xs.length ≤ 2 ^ 40 := by rw [hxs, hX]; exact tails_len
  have q1 := eqIntS_run (H4.sees 5 rfl) (H4.sees 1 rfl) xl
  simp -implicitDefEqProofs [CL_ret q1, H4.bl 3 2 rfl rfl, H4.bl 0 2 rfl rfl]
  -- the copies are as they were
  refine CH_post (toS H4.pre).new fun v h7 ⟨⟨r7, u7, ev, hu7, C7⟩, hn7⟩ => ⟨hn7 C7.pre, ?_⟩
  subst ev
  have H5 := H4.ext C7.pre
  have q2 := eqJobShop_run (N3.pre (p6.trans C7.pre)) (Holds.nest (L1 := [_]) (L2 := []) (o := 0) C7.open rfl hu7) (by omega) b5
  simp -implicitDefEqProofs [CL_ret q2, CH_at q2]
  refine CL_post (toO H5.pre) fun v8 h8 ⟨u8, hu8, C8⟩ => ?_
  have H6 := H5.ext C8.pre
  have q3 := eqIntSS_run (M3.pre (p6.trans (C7.pre.trans C8.pre))) (Holds.nest (L1 := [_]) (L2 := []) (o := 0) C8.open rfl hu8) (by omega) b6
  simp -implicitDefEqProofs [CL_ret q3, H6.bl 3 2 rfl rfl]
  -- marks in the copies
  refine CL_post (markJobShop_run (k := 1) (o := 2) H6.swap rfl hu3 (by omega) (by omega) (by omega) (by omega)) fun r h9 ⟨er, H7⟩ => ?_
  subst er
  have H8 := H7.swap
  simp -implicitDefEqProofs
  refine CL_post (markIntSS_run (k := 1 + 2 * (tot s.routes : Int)) (o := 4) H8 rfl hu4 (by omega) (by omega) (by omega) (by omega)) fun r h10 ⟨er, H9⟩ => ?_
  subst er
  have q4 := eqIntS_run (H9.sees 5 rfl) (H9.sees 1 rfl) xl
  have hk0 : ¬ (1 + 2 * (tot s.routes : Int) + tot oss < 0) := by omega
  simp -implicitDefEqProofs [hk0, CL_ret q4]
  -- marks in the result
  refine CL_post (markIntS_run (k := 1) H9 5 rfl xl (by omega) (by omega)) fun r h11 ⟨er, H10⟩ => ?_
  subst er
  have q5 := heldIntS_run (k := 1) (H10.sees 5 rfl) xl (by omega) (by omega)
  have hk1 : ¬ (1 + (xs.length : Int) < 0) := by omega
  simp -implicitDefEqProofs [CL_ret q5, hk1, H10.bl 0 2 rfl rfl]
  -- once more
  refine CL_post (toS H10.pre) fun v h12 ⟨r12, u12, ev, hu12, C12⟩ => ?_
  subst ev
  simp -implicitDefEqProofs
  refine CL_post (toO (H10.pre.trans C12.pre)) fun v13 h13 ⟨u13, hu13, C13⟩ => ?_
  have S13 : SAt h13 r12 s := ⟨⟨u12, (Holds.nest (L1 := [_]) (L2 := []) (o := 0) (C12.ext C13.pre).open rfl hu12)⟩, b1, by rw [cnt_tot]; exact b2⟩
  have O13 : OAt h13 v13 oss := ⟨⟨u13, (Holds.nest (L1 := [_]) (L2 := []) (o := 0) C13.open rfl hu13)⟩, b3, by rw [cnt_tot]; exact b4⟩
  simp -implicitDefEqProofs
  refine CL_post (OpTails_run S13 O13) fun v h14 ⟨p14, t, ev, ot⟩ => ?_
  subst ev
  rw [← hX, ← hxs] at ot
  rw [← hX]
  have H11 := H10.ext (C12.pre.trans (C13.pre.trans p14))
  have q6 := eqIntS_run ot.sees (H11.sees 1 rfl) xl
  have q7 := heldIntS_run (k := 1) (H11.sees 5 rfl) xl (by omega) (by omega)
  simp -implicitDefEqProofs [CL_ret q6, CL_ret q7, hk1]
  exact gcP H11.pre rfl
end Go.Pm.PP

/- FnExactShopLength in the small machine. -/
set_option linter.unusedVariables false
set_option linter.unusedSimpArgs false
set_option maxRecDepth 4000
set_option maxHeartbeats 4000000
namespace Go.Pm.PP
open Go.Pm Go.Proofs
theorem law_ShopLength {h : Hp} {vr vo : Value} {s : Shop} {oss : List (List Int)} {vs ws : List Value} (NS : Nest h vr encO 2 s.routes vs) (NO : Nest h vo encI 1 oss ws) (l1 : s.routes.length < 2 ^ 63) (l2 : ∀ x ∈ s.routes, x.length < 2 ^ 63) (l3 : oss.length < 2 ^ 63) (l4 : ∀ x ∈ oss, x.length < 2 ^ 63) :
    Ret P G n_laws_FnExactShopLength [sv s vr, vo] h (.bool true) h := by
  refine enter_run e_laws_FnExactShopLength (by simp) ?_
  have NSs := NS
  have NOs := NO
  obtain ⟨oa, ca, rfl⟩ := NS.shape
  obtain ⟨ob, cb, rfl⟩ := NO.shape
  have z1 := fun l => szJobShop_run (left := 1048576) (NSs.pre (List.prefix_append h l)) l1 l2 (by omega) (by omega)
  by_cases c1 : szN 1048576 s.routes < 0
  · simp -implicitDefEqProofs [CL_ret (z1 _), c1]
  have e1 := szN_ok c1
  have z2 := fun l => szIntSS_run (left := szN 1048576 s.routes) (NOs.pre (List.prefix_append h l)) l3 l4 (by omega) (by omega)
  by_cases c2 : szN (szN 1048576 s.routes) oss < 0
  · simp -implicitDefEqProofs [CL_ret (z1 _), c1, CL_ret (z2 _), c2]
  have e2 := szN_ok c2
  have b1 : s.routes.length ≤ 2 ^ 20 := by omega
  have b2 : tot s.routes ≤ 2 ^ 20 := by omega
  have b3 : oss.length ≤ 2 ^ 20 := by omega
  have b4 : tot oss ≤ 2 ^ 20 := by omega
  have b5 : ∀ x ∈ s.routes, x.length ≤ 2 ^ 40 := fun x hx => by have := tot_mem hx; omega
  have b6 : ∀ x ∈ oss, x.length ≤ 2 ^ 40 := fun x hx => by have := tot_mem hx; omega
  have toS : ∀ {h' : Hp}, h <+: h' → RunsC P G n_laws_toJobShop [sv s (.slice oa s.routes.length ca)] h' fun v h2 => ∃ vr' us, v = sv s vr' ∧ us.length = s.routes.length ∧ Holds h' h2 (.own vr' 1 (us.map encV) :: inL encO 2 us s.routes) := fun hp => toJobShop_run (NSs.pre hp) (by omega) b5
  have toO : ∀ {h' : Hp}, h <+: h' → RunsC P G n_laws_toIntSS [.slice ob oss.length cb] h' fun v h2 => ∃ us : List Value, us.length = oss.length ∧ Holds h' h2 (.own v 1 (us.map encV) :: inL encI 1 us oss) := fun hp => toIntSS_run (NOs.pre hp) (by omega) b6
  have H0 := (Holds.start.alloc [.int .i64 s.m, .slice oa s.routes.length ca] (h := h)).open
  -- the reference
  simp -implicitDefEqProofs [CL_ret (z1 _), c1, CL_ret (z2 _), c2]
  refine CL_post (toS H0.pre) fun v h1 ⟨r1, u1, ev, hu1, C1⟩ => ?_
  subst ev
  have p1 := H0.pre.trans C1.pre
  simp -implicitDefEqProofs
  refine CL_post (toO p1) fun v2 h2 ⟨u2, hu2, C2⟩ => ?_
  have S1 : SAt h2 r1 s := ⟨⟨u1, (Holds.nest (L1 := [_]) (L2 := []) (o := 0) (C1.ext C2.pre).open rfl hu1)⟩, b1, by rw [cnt_tot]; exact b2⟩
  have O1 : OAt h2 v2 oss := ⟨⟨u2, (Holds.nest (L1 := [_]) (L2 := []) (o := 0) C2.open rfl hu2)⟩, b3, by rw [cnt_tot]; exact b4⟩
  simp -implicitDefEqProofs
  have rs := specShopLength_run S1 O1
  have H1 := H0.ext (C1.pre.trans C2.pre)
  simp -implicitDefEqProofs [CL_ret rs, H1.bl 0 2 rfl rfl]
  generalize hL : lenO s oss = L at *
  generalize hB : (tailsO s oss).isSome = B at *
  -- the copies
  refine CL_post (toS H1.pre) fun v h4 ⟨r3, u3, ev, hu3, C3⟩ => ?_
  subst ev
  obtain ⟨x1, x2, x3, rfl⟩ : ∃ a n c, r3 = .slice a n c := by obtain ⟨a, c, e⟩ := (C3.sees 0 rfl).shape; exact ⟨_, _, _, e⟩
  have H2 := (Holds.joinT (A := [_]) (M := inL encO 2 u3 s.routes) H1 C3).allocT [.int .i64 s.m, .slice x1 x2 x3]
  simp -implicitDefEqProofs
  refine CL_post (toO H2.pre) fun v5 h5 ⟨u4, hu4, C4⟩ => ?_
  obtain ⟨y1, y2, y3, rfl⟩ : ∃ a n c, v5 = .slice a n c := by obtain ⟨a, c, e⟩ := (C4.sees 0 rfl).shape; exact ⟨_, _, _, e⟩
  have H3 := Holds.joinT (A := [_]) (M := inL encI 1 u4 oss) H2 C4
  have N3 := Holds.nest (o := 1) H3.swap rfl hu3
  have M3 := Holds.nest (o := 3) H3 rfl hu4
  have S3 : SAt h5 (.slice x1 x2 x3) s := ⟨⟨u3, N3⟩, b1, by rw [cnt_tot]; exact b2⟩
  have O3 : OAt h5 (.slice y1 y2 y3) oss := ⟨⟨u4, M3⟩, b3, by rw [cnt_tot]; exact b4⟩
  -- the program
  simp -implicitDefEqProofs [H3.bl 2 2 rfl rfl]
  have ri := ShopLength_run S3 O3
  rw [hL, hB] at ri
  simp -implicitDefEqProofs [CL_ret ri, H3.bl 2 2 rfl rfl, H3.bl 0 2 rfl rfl]
  -- the copies are as they were
  refine CH_post (toS H3.pre).new fun v h7 ⟨⟨r7, u7, ev, hu7, C7⟩, hn7⟩ => ⟨hn7 C7.pre, ?_⟩
  subst ev
  have H5 := H3.ext C7.pre
  have q2 := eqJobShop_run (N3.pre C7.pre) (Holds.nest (L1 := [_]) (L2 := []) (o := 0) C7.open rfl hu7) (by omega) b5
  simp -implicitDefEqProofs [CL_ret q2, CH_at q2]
  refine CL_post (toO H5.pre) fun v8 h8 ⟨u8, hu8, C8⟩ => ?_
  have H6 := H5.ext C8.pre
  have q3 := eqIntSS_run (M3.pre (C7.pre.trans C8.pre)) (Holds.nest (L1 := [_]) (L2 := []) (o := 0) C8.open rfl hu8) (by omega) b6
  simp -implicitDefEqProofs [CL_ret q3]
  exact gcP H6.pre rfl
end Go.Pm.PP

/- Job shops: the first critical path, the plain law. -/
set_option linter.unusedVariables false
set_option linter.unusedSimpArgs false
namespace Go.Pm.PP
open Go.Pm Go.Proofs Go.Pm.JS
theorem find_first {n i : Nat} {p : Nat → Bool} (hi : i < n) (hp : p i = true) (hlt : ∀ j, j < i → p j = false) : (List.range n).find? p = some i := by
  rw [List.find?_eq_some_iff_getElem]
  refine ⟨hp, i, by simpa using hi, by simp, fun j hj => ?_⟩
  simp [hlt j hj]
def leadsB (s : Shop) (oss : List (List Int)) (a i : Nat) : Bool := decide ((a, i) ∈ psL s oss)
def okAfter (s : Shop) (oss : List (List Int)) (last : Option Nat) (i : Nat) : Bool := match last with
  | none => true
  | some a => leadsB s oss a i
def pickP (s : Shop) (oss : List (List Int)) (last : Option Nat) (want : Int) (i : Nat) : Bool := (gN (tailsL s (psL s oss)) i == want) && okAfter s oss last i
def pathGo (s : Shop) (oss : List (List Int)) : Nat → Option Nat → Int → List Nat
  | 0, _, _ => []
  | f + 1, last, want => if want > 0 then match (List.range (opsL s).length).find? (pickP s oss last want) with
    | some i => i :: pathGo s oss f (some i) (want - gN (tsL s) i)
    | none => []
    else []
def pathL (s : Shop) (oss : List (List Int)) : List Nat := pathGo s oss (mx (tailsL s (psL s oss))).toNat none (mx (tailsL s (psL s oss)))
/-- Where a critical path stands. -/
def Crit (s : Shop) (oss : List (List Int)) (us : List Int) (last : Option Nat) (want : Int) : Prop :=
  (last = none ∧ want = mx (tailsL s (psL s oss))) ∨ ∃ a, last = some a ∧ a < (opsL s).length ∧ want = gN (tailsL s (psL s oss)) a - gN (tsL s) a ∧ gN us a + gN (tailsL s (psL s oss)) a = mx (tailsL s (psL s oss))
section
variable {s : Shop} {oss : List (List Int)} {us : List Int} {last : Option Nat} {want : Int}
theorem path_step {f i : Nat} (hw : want > 0) (hf : (List.range (opsL s).length).find? (pickP s oss last want) = some i) : pathGo s oss (f + 1) last want = i :: pathGo s oss f (some i) (want - gN (tsL s) i) := by
  rw [pathGo, if_pos hw, hf]
theorem path_end {f : Nat} (hw : ¬ want > 0) : pathGo s oss f last want = [] := by
  cases f with
  | zero => rfl
  | succ f => rw [pathGo, if_neg hw]
theorem crit_ex (hd : Heads (opsL s).length (tsL s) (psL s oss) us) (tl : Tails (opsL s).length (tsL s) (psL s oss) (tailsL s (psL s oss))) (o : AsOk s (psL s oss)) (c : Crit s oss us last want) (hw : want > 0) : ∃ i, i < (opsL s).length ∧ pickP s oss last want i = true := by
  rcases c with ⟨rfl, hwant⟩ | ⟨a, rfl, ha, hwant, _⟩
  · have hne : (tailsL s (psL s oss)) ≠ [] := by
      intro h
      rw [hwant, h] at hw
      simp [mx] at hw
    -- the greatest is one of them
    rcases Classical.em (∃ i, i < (opsL s).length ∧ gN (tailsL s (psL s oss)) i = want) with ⟨i, hi, h⟩ | h
    · exact ⟨i, hi, by simp [pickP, okAfter, h]⟩
    · exfalso
      have : mx (tailsL s (psL s oss)) ≤ want - 1 := by
        refine mx_le (by omega) fun x hx => ?_
        obtain ⟨i, hi, rfl⟩ := mem_gN hx
        have h1 := gN_le_mx (tailsL s (psL s oss)) i
        have h2 : gN (tailsL s (psL s oss)) i ≠ want := fun e => h ⟨i, by rw [tl.len] at hi; exact hi, e⟩
        omega
      omega
  · rcases tl.next o.pok a with h | ⟨p, hp, rfl, h⟩
    · omega
    · refine ⟨p.2, (o.lt p hp).2, ?_⟩
      have : gN (tailsL s (psL s oss)) p.2 = want := by omega
      simp [pickP, okAfter, leadsB, this]
      exact hp
theorem pick_same (hd : Heads (opsL s).length (tsL s) (psL s oss) us) (tl : Tails (opsL s).length (tsL s) (psL s oss) (tailsL s (psL s oss))) (o : AsOk s (psL s oss)) (c : Crit s oss us last want) (i : Nat) : pickP s oss last want i = (gN us i == mx (tailsL s (psL s oss)) - want && gN us i + gN (tailsL s (psL s oss)) i == mx (tailsL s (psL s oss)) && okAfter s oss last i) := by
  rcases c with ⟨rfl, rfl⟩ | ⟨a, rfl, ha, rfl, hc⟩
  · simp only [pickP, okAfter, Bool.and_true]
    rw [Bool.eq_iff_iff]
    simp only [Bool.and_eq_true, beq_iff_eq]
    have := crit_first hd tl i
    constructor
    · intro h; have := this.1 h; omega
    · intro h; exact this.2 ⟨by omega, h.2⟩
  · simp only [pickP, okAfter]
    cases hl : leadsB s oss a i
    · simp
    · have hm : (a, i) ∈ psL s oss := by simpa [leadsB] using hl
      have := crit_next hd tl hm hc
      simp only [Bool.and_true]
      rw [Bool.eq_iff_iff]
      simp only [Bool.and_eq_true, beq_iff_eq]
      constructor
      · intro h; have := this.1 h; omega
      · intro h; exact this.2 ⟨by omega, h.2⟩
theorem crit_step (hd : Heads (opsL s).length (tsL s) (psL s oss) us) (tl : Tails (opsL s).length (tsL s) (psL s oss) (tailsL s (psL s oss))) (o : AsOk s (psL s oss)) (c : Crit s oss us last want) {i : Nat} (hi : i < (opsL s).length) (hp : pickP s oss last want i = true) : Crit s oss us (some i) (want - gN (tsL s) i) ∧ 0 ≤ want - gN (tsL s) i ∧ 1 ≤ gN (tsL s) i ∧ gN (tsL s) i ≤ 20 := by
  have h1 := pick_same hd tl o c i
  rw [hp] at h1
  have h2 := h1.symm
  rw [Bool.and_eq_true, Bool.and_eq_true, beq_iff_eq, beq_iff_eq] at h2
  have h3 : gN (tailsL s (psL s oss)) i = want := by
    rw [pickP, Bool.and_eq_true, beq_iff_eq] at hp
    exact hp.1
  have h4 := tl.up i
  have h5 := o.t _ (gN_mem (show i < (tsL s).length by rw [ts_len]; exact hi))
  exact ⟨.inr ⟨i, rfl, hi, by rw [h3], h2.1.2⟩, by omega, h5.1, h5.2⟩
theorem crit_le (hd : Heads (opsL s).length (tsL s) (psL s oss) us) (tl : Tails (opsL s).length (tsL s) (psL s oss) (tailsL s (psL s oss))) (o : AsOk s (psL s oss)) (c : Crit s oss us last want) : want ≤ mx (tailsL s (psL s oss)) ∧ 0 ≤ want := by
  rcases c with ⟨rfl, rfl⟩ | ⟨a, rfl, ha, rfl, hc⟩
  · exact ⟨Int.le_refl _, mx_nonneg _⟩
  · have h1 := gN_le_mx (tailsL s (psL s oss)) a
    have h2 := tl.up a
    have h3 := o.pok.nonneg a
    omega
end
end Go.Pm.PP

/- Job shops: the first critical path of both. -/
set_option linter.unusedVariables false
set_option linter.unusedSimpArgs false
set_option maxRecDepth 4000
set_option maxHeartbeats 2000000
namespace Go.Pm.PP
open Go.Pm Go.Proofs Go.Pm.JS
theorem eqA2 {a b c d : Int} : eqAgg P t_A2_int (.agg #[.int .i64 a, .int .i64 b]) (.agg #[.int .i64 c, .int .i64 d]) = some (a == c && b == d) := by
  unfold eqAgg
  rw [if_neg (by rw [show P.eqGuardType P.depth t_A2_int = false by kernel_rfl]; simp)]
  have hc : P.cellsOf t_int = 1 := by kernel_rfl
  simp [eqV, u_A2_int, eqE, partP, List.range, List.range.loop, u_int, hc]
def natI (n : Nat) : Int := n
theorem beq_natI {a b : Nat} : ((a : Int) == (b : Int)) = (a == b) := by
  rw [Bool.eq_iff_iff]; simp; omega
theorem mem_step {ps : List (Nat × Nat)} {p : Nat × Nat} {a b : Nat} : decide ((a, b) ∈ p :: ps) = (((p.1 : Int) == (a : Int) && (p.2 : Int) == (b : Int)) || decide ((a, b) ∈ ps)) := by
  rw [beq_natI, beq_natI, Bool.eq_iff_iff]
  simp only [decide_eq_true_eq, List.mem_cons, Bool.or_eq_true, Bool.and_eq_true, beq_iff_eq]
  constructor
  · rintro (h | h)
    · left; rw [← h]; exact ⟨rfl, rfl⟩
    · exact .inr h
  · rintro (h | h)
    · left; rw [← h.1, ← h.2]
    · exact .inr h
theorem l9Leads_run {h : Hp} {va : Value} {ps : List (Nat × Nat)} {a b : Nat} (A : Prs h va (ps.map cP)) (hn : ps.length ≤ 2 ^ 40) : Ret P G n_spec_l9Leads [va, .int .i64 a, .int .i64 b] h (.bool (decide ((a, b) ∈ ps))) h := by
  refine enter_run e_spec_l9Leads (by simp) ?_
  have Ass := A
  obtain ⟨ov, cv, rfl⟩ := A.shapeT
  rw [List.length_map] at *
  simp -implicitDefEqProofs
  refine R_loopO (fun n st h' => ∃ (i : Nat), i + n = ps.length ∧ st = [(0, .slice ov ps.length cv), (1, .int .i64 a), (2, .int .i64 b), (7, .int .i64 i)] ∧ h' = h ∧ decide ((a, b) ∈ ps) = decide ((a, b) ∈ ps.drop i)) (fun I hI n st h' => ?_) ⟨0, Nat.zero_add _, by simp, rfl, by simp⟩
  rintro ⟨i, hi, rfl, rfl, hx⟩
  by_cases hlt : i < ps.length
  · obtain ⟨p, hp, hd⟩ := drop_at hlt
    rw [hd, mem_step] at hx
    have hQ := load_Q Ass (x := ((p.1 : Int), (p.2 : Int))) (i := i) (by simp [hp, cP])
    cases c1 : ((p.1 : Int) == (a : Int) && (p.2 : Int) == (b : Int))
    · rw [c1, Bool.false_or] at hx
      simp -implicitDefEqProofs [-indexAddrP_some, hlt, hQ, eqA2, c1, winc hlt hn]
      exact ⟨n - 1, by omega, on hI ⟨i + 1, by omega, rfl, rfl, hx⟩⟩
    · rw [c1, Bool.true_or] at hx
      simp -implicitDefEqProofs [-indexAddrP_some, hlt, hQ, eqA2, c1, hx]
  · rw [List.drop_eq_nil_of_le (by omega)] at hx
    simp -implicitDefEqProofs [hlt, hx]
theorem next_mem {s : Shop} {a b : Nat} (ha : a < (opsL s).length) : (a, b) ∈ nxN s ↔ nextI (flatF s) a = (b : Int) := by
  rw [nxN_mem]
  constructor
  · rintro ⟨i, hi, h⟩
    rw [nx1] at h
    split at h
    · rename_i hn
      have hab : (a, b) = (i, i + 1) := by simpa using h
      cases hab
      rcases nextI_some (f := flatF s) (i := a) with e | e
      · rw [e]; omega
      · rw [e] at hn; omega
    · cases h
  · intro h
    refine ⟨a, ha, ?_⟩
    rcases nextI_some (f := flatF s) (i := a) with e | e
    · rw [nx1, if_pos (by omega)]
      rw [e] at h
      have : b = a + 1 := by omega
      simp [this]
    · rw [e] at h; omega
/-- What belongs to a selection, as it is read. -/
structure SelSee (h : Hp) (vo vt vi va vh vT : Value) (s : Shop) (oss : List (List Int)) (us : List Int) : Prop where
  f : FAt h vo vt vi (flatF s)
  a : Prs h va ((qsL oss).map cP)
  hd : Ints h vh us
  tl : Ints h vT (tailsL s (psL s oss))
theorem SelSee.pre {h h' : Hp} {vo vt vi va vh vT : Value} {s : Shop} {oss : List (List Int)} {us : List Int} (o : SelSee h vo vt vi va vh vT s oss us) (hp : h <+: h') : SelSee h' vo vt vi va vh vT s oss us :=
  ⟨o.f.pre hp, o.a.pre hp, o.hd.pre hp, o.tl.pre hp⟩
theorem SelOwn.see {b : Nat} {h : Hp} {vo vt vi va vh vT : Value} {s : Shop} {oss : List (List Int)} {us : List Int} (o : SelOwn b h vo vt vi va vh vT s oss us) (hs : SelGo s 0 oss) : SelSee h vo vt vi va vh vT s oss us :=
  ⟨⟨o.o.sees, o.t.sees, o.i.sees⟩, by rw [qsL_map hs]; exact o.a.sees, o.hd.sees, o.tl.sees⟩
theorem SelSee.shapes {h : Hp} {vo vt vi va vh vT : Value} {s : Shop} {oss : List (List Int)} {us : List Int} (o : SelSee h vo vt vi va vh vT s oss us) :
    (∃ a c, vo = .slice a (opsL s).length c) ∧ (∃ a c, vt = .slice a (flatF s).rt.length c) ∧ (∃ a c, vi = .slice a (flatF s).ix.length c) ∧ (∃ a c, va = .slice a (qsL oss).length c) ∧ (∃ a c, vh = .slice a us.length c) ∧ ∃ a c, vT = .slice a (tailsL s (psL s oss)).length c := by
  obtain ⟨h1, h2, h3⟩ := o.f.shapes
  exact ⟨h1, h2, h3, by obtain ⟨a, c, e⟩ := o.a.shapeT; exact ⟨a, c, by rw [e, List.length_map]⟩, o.hd.shapeT, o.tl.shapeT⟩
theorem selLeads_run {h : Hp} {vo vt vi va vh vT : Value} {s : Shop} {oss : List (List Int)} {us : List Int} {n : Int} {a b : Nat} (o : SelSee h vo vt vi va vh vT s oss us) (hN : (opsL s).length ≤ 12) (hq : (qsL oss).length ≤ 2 ^ 21) (ha : a < (opsL s).length) :
    Ret P G n_impl_selected_leads [selv vo vt vi va vh vT n, .int .i64 a, .int .i64 b] h (.bool (leadsB s oss a b)) h := by
  refine enter_run e_impl_selected_leads (by simp) ?_
  have os := o
  obtain ⟨⟨a1, c1, rfl⟩, ⟨a2, c2, rfl⟩, ⟨a3, c3, rfl⟩, ⟨a4, c4, rfl⟩, ⟨a5, c5, rfl⟩, a6, c6, rfl⟩ := o.shapes
  have rl : (flatF s).rt.length = (flatF s).ops.length := by rw [rt_eq, rt_len, ← ops_len]; rfl
  have rn := fun l => next_run (i := a) (os.f.pre (List.prefix_append h l)) rl (by show (opsL s).length ≤ _; omega) ha
  have hl : leadsB s oss a b = (decide ((a, b) ∈ nxN s) || decide ((a, b) ∈ qsL oss)) := by rw [leadsB, psL_eq, Bool.eq_iff_iff]; simp
  rw [hl]
  have hm := next_mem (s := s) (a := a) (b := b) ha
  cases c1 : (nextI (flatF s) a == (b : Int))
  · have : ¬ nextI (flatF s) a = (b : Int) := by simpa using c1
    have hf : decide ((a, b) ∈ nxN s) = false := by rw [decide_eq_false_iff_not, hm]; exact this
    rw [hf, Bool.false_or]
    simp -implicitDefEqProofs [CL_ret (rn _), c1]
    refine R_loopO (fun n st h' => ∃ (i : Nat), i + n = (qsL oss).length ∧ st = [(1, .int .i64 a), (2, .int .i64 b), (16, .slice a4 (qsL oss).length c4), (17, .int .i64 (qsL oss).length), (18, .int .i64 i)] ∧ h <+: h' ∧ decide ((a, b) ∈ qsL oss) = decide ((a, b) ∈ (qsL oss).drop i)) (fun I hI n st h' => ?_) ⟨0, Nat.zero_add _, by simp, List.prefix_append .., by simp⟩
    rintro ⟨i, hi, rfl, hp, hx⟩
    by_cases hlt : i < (qsL oss).length
    · obtain ⟨p, hpp, hd⟩ := drop_at hlt
      rw [hd, mem_step] at hx
      have hQ := load_Q (os.a.pre hp) (x := ((p.1 : Int), (p.2 : Int))) (i := i) (by simp [hpp, cP])
      cases c2 : ((p.1 : Int) == (a : Int) && (p.2 : Int) == (b : Int))
      · rw [c2, Bool.false_or] at hx
        simp -implicitDefEqProofs [-indexAddrP_some, hlt, hQ, eqA2, c2, winc hlt (show (qsL oss).length ≤ 2 ^ 40 by omega)]
        exact ⟨n - 1, by omega, on hI ⟨i + 1, by omega, rfl, hp.trans (List.prefix_append ..), hx⟩⟩
      · rw [c2, Bool.true_or] at hx
        simp -implicitDefEqProofs [-indexAddrP_some, hlt, hQ, eqA2, c2, hx, gcB' hp]
    · rw [List.drop_eq_nil_of_le (by omega)] at hx
      simp -implicitDefEqProofs [hlt, hx, gcB hp]
  · have : nextI (flatF s) a = (b : Int) := by simpa using c1
    have hf : decide ((a, b) ∈ nxN s) = true := by rw [decide_eq_true_eq, hm]; exact this
    rw [hf, Bool.true_or]
    simp -implicitDefEqProofs [CL_ret (rn _), c1]
theorem tails_small {s : Shop} {ps : List (Nat × Nat)} (o : AsOk s ps) (hN : (opsL s).length ≤ 12) : mx (tailsL s ps) ≤ 2 ^ 30 := by
  have hk : (opsL s).length * (tArcs (tsL s) ps).length ≤ 12 * 2 ^ 22 := Nat.mul_le_mul hN (by rw [tArcs, List.length_map]; exact o.len)
  have hA : ∀ e ∈ tArcs (tsL s) ps, e.x < (opsL s).length ∧ 1 ≤ e.w ∧ e.w ≤ 20 := fun e he => by
    have h1 := o.pok.tIn e he
    obtain ⟨p, hp, rfl⟩ := List.mem_map.1 he
    have := o.t _ (gN_mem (show p.1 < (tsL s).length by rw [ts_len]; exact (o.lt p hp).1))
    exact ⟨h1.1, h1.2.2, this.2⟩
  have h0 : Bd 1 (tsL s) := fun j => by
    rcases Nat.lt_or_ge j (tsL s).length with g | g
    · have := o.t _ (gN_mem g); omega
    · rw [gN_out g]; omega
  have hb := gpasses_bd hA (k := (opsL s).length) ts_len h0
  refine mx_le (by omega) fun z hz => ?_
  obtain ⟨i, _, rfl⟩ := mem_gN hz
  have := (hb i).2
  show gN (gpasses _ _ _) i ≤ _
  omega
def lastO (acc : List Nat) : Option Nat := acc.getLast?
theorem last_at {acc : List Nat} {a : Nat} (h : lastO acc = some a) : 0 < acc.length ∧ (acc.map natI)[acc.length - 1]? = some (a : Int) := by
  obtain ⟨ys, hy⟩ := List.getLast?_eq_some_iff.1 h
  subst hy
  refine ⟨by simp, ?_⟩
  simp [natI]
theorem last_snoc {acc : List Nat} {a : Nat} : lastO (acc ++ [a]) = some a := by simp [lastO]
end Go.Pm.PP

/- Job shops: critical paths. -/
set_option linter.unusedVariables false
set_option linter.unusedSimpArgs false
set_option maxRecDepth 4000
set_option maxHeartbeats 2000000
namespace Go.Pm.PP
open Go.Pm Go.Proofs Go.Pm.JS
theorem headsO_facts {s : Shop} {oss : List (List Int)} {us : List Int} (ho : cntN oss ≤ 2 ^ 20) (h : headsO s oss = some us) : goodS s = true ∧ SelGo s 0 oss ∧ AsOk s (psL s oss) ∧ Heads (opsL s).length (tsL s) (psL s oss) us ∧ Tails (opsL s).length (tsL s) (psL s oss) (tailsL s (psL s oss)) ∧ (opsL s).length ≤ 12 := by
  obtain ⟨hg, _, hs⟩ := heads_good h
  have ao := AsOk.of hg hs ho
  have c1 : sel2 s oss = true := by
    unfold headsO at h; split at h
    · assumption
    · cases h
  rw [headsO, if_pos c1] at h
  have hd := heads_at ao h
  exact ⟨hg, hs, ao, hd, tails_at ao hd, good_ops hg⟩
def pathI (s : Shop) (oss : List (List Int)) : List Int := (pathL s oss).map natI
theorem natI_mem {acc : List Nat} {i : Nat} : (acc ++ [i]).map natI = acc.map natI ++ [(i : Int)] := by simp [natI]
theorem okAfter_last {s : Shop} {oss : List (List Int)} {acc : List Nat} {i : Nat} : okAfter s oss (lastO acc) i = (decide (acc.length = 0) || (match lastO acc with | some a => leadsB s oss a i | none => false)) := by
  cases acc with
  | nil => simp [lastO, okAfter]
  | cons x r =>
    have : (x :: r).getLast? ≠ none := by simp
    cases h : lastO (x :: r) with
    | none => exact absurd h this
    | some a => simp [okAfter]
theorem l9Path_run {h : Hp} {vr vo : Value} {s : Shop} {oss : List (List Int)} {us : List Int} (S : SAt h vr s) (O : OAt h vo oss) (hO : headsO s oss = some us) :
    RunsC P G n_spec_l9Path [sv s vr, vo] h fun v h' => h <+: h' ∧ Own h.length h' v 1 ((pathI s oss).map encI) := by
  refine hideC fun K hK => enter_run e_spec_l9Path (by simp) ?_
  have Ss := S
  have Os := O
  obtain ⟨oa, c, rfl⟩ := S.shape
  obtain ⟨ob, d, rfl⟩ := O.shape
  obtain ⟨hg, hs, ao, hd, tl, hN⟩ := headsO_facts Os.tot hO
  have tlen := tl.len
  have H0 := Holds.start.alloc [.int .i64 s.m, .slice oa s.routes.length c] (h := h)
  simp -implicitDefEqProofs
  refine CH_post (l9Arcs_run (Ss.ext _) (Os.ext _)).new fun v h1 ⟨⟨hp1, ho1⟩, hn⟩ => ⟨hn hp1, ?_⟩
  rw [← psL_map hs] at ho1
  have H1 := H0.call hp1 ho1
  obtain ⟨a1, c1, rfl⟩ : ∃ a c, v = .slice a (psL s oss).length c := by obtain ⟨a, c, e⟩ := ho1.sees.shapeT; exact ⟨a, c, by rw [e, List.length_map]⟩
  simp -implicitDefEqProofs [H1.bl 0 2 rfl rfl]
  refine CL_post (l9All_run (Ss.pre H1.pre)) fun v h2 ⟨hp2, ho2⟩ => ?_
  have H2 := H1.call hp2 ho2
  obtain ⟨a2, c2, rfl⟩ := ho2.sees.shapeT
  simp -implicitDefEqProofs [H2.bl 0 2 rfl rfl]
  refine CL_post (l9Tails_run (Ss.pre H2.pre) (H2.sees 1 rfl) ao) fun v h3 ⟨hp3, ho3⟩ => ?_
  have H3 := H2.call hp3 ho3
  obtain ⟨a3, c3, rfl⟩ := ho3.sees.shapeT
  have rl2 := l2Last_run (H3.sees 3 rfl) (by rw [tlen]; omega)
  simp -implicitDefEqProofs [CL_ret rl2]
  rw [tlen] at *
  have tlen := tl.len
  have tb := tails_small ao hN
  refine R_loopO (fun n st h' => ∃ (acc : List Nat) (want : Int) (u : Value), st = [(5, .slice a1 (psL s oss).length c1), (6, .slice a2 (opsL s).length c2), (7, .slice a3 (opsL s).length c3), (8, u), (9, .int .i64 want)] ∧
    Holds h h' [.box h.length [.int .i64 s.m, .slice oa s.routes.length c], .own (.slice a1 (psL s oss).length c1) 2 (((psL s oss).map cP).map encQ), .own (.slice a2 (opsL s).length c2) 2 ((opsL s).map encO), .own (.slice a3 (opsL s).length c3) 1 ((tailsL s (psL s oss)).map encI), .own u 1 ((acc.map natI).map encI)] ∧
    Crit s oss us (lastO acc) want ∧ pathL s oss = acc ++ pathGo s oss n (lastO acc) want ∧ want ≤ n ∧ acc.length + n ≤ 2 ^ 31) (fun I hI n st h' => ?_) (n := (mx (tailsL s (psL s oss))).toNat) ⟨[], mx (tailsL s (psL s oss)), _, by simp, own_nil H3 _ _ _, .inl ⟨rfl, rfl⟩, by simp [pathL, lastO], by omega, ?_⟩
  · rintro ⟨acc, want, u, rfl, H, hc, hx, hwn, hal⟩
    have hle := crit_le hd tl ao hc
    by_cases hw : 0 < want
    · obtain ⟨m0, rfl⟩ : ∃ m0, n = m0 + 1 := ⟨n - 1, by omega⟩
      obtain ⟨i0, hi0, hpi0⟩ := crit_ex hd tl ao hc hw
      obtain ⟨uo, uc, rfl⟩ : ∃ a c, u = .slice a acc.length c := by obtain ⟨a, c, e⟩ := (H.sees 4 rfl).shapeT; exact ⟨a, c, by rw [e, List.length_map]⟩
      simp -implicitDefEqProofs [hw]
      refine R_loopO (fun n st h2 => ∃ (j : Nat), j + n = (opsL s).length ∧ st = [(5, .slice a1 (psL s oss).length c1), (6, .slice a2 (opsL s).length c2), (7, .slice a3 (opsL s).length c3), (8, .slice uo acc.length uc), (9, .int .i64 want), (10, .int .i64 j)] ∧ h2 = h' ∧ ∀ i, i < j → pickP s oss (lastO acc) want i = false) (fun I2 hI2 n st h2 => ?_) ⟨0, Nat.zero_add _, by simp, rfl, fun i hi => by omega⟩
      rintro ⟨j, hj, rfl, rfl, hno⟩
      have hjN : j < (opsL s).length := by
        rcases Nat.lt_or_ge j (opsL s).length with g | g
        · exact g
        · have := hno i0 (by omega)
          rw [hpi0] at this; cases this
      have hT1 := load_I (H.sees 3 rfl) (gN_get (v := tailsL s (psL s oss)) (i := j) (by omega))
      have wj := winc hjN (show (opsL s).length ≤ 2 ^ 40 by omega)
      have go : pickP s oss (lastO acc) want j = false → ∃ m, m < n ∧ I2 m [(5, .slice a1 (psL s oss).length c1), (6, .slice a2 (opsL s).length c2), (7, .slice a3 (opsL s).length c3), (8, .slice uo acc.length uc), (9, .int .i64 want), (10, .int .i64 ((j : Int) + 1))] h2 := fun hp => by
        refine ⟨n - 1, by omega, on hI2 ⟨j + 1, by omega, rfl, rfl, fun i hi => ?_⟩⟩
        rcases Nat.lt_or_ge i j with g | g
        · exact hno i g
        · have : i = j := by omega
          rw [this]; exact hp
      have stop : pickP s oss (lastO acc) want j = true → ∃ (y : OpR) (v' : Value) (h3 : Hp), (opsL s)[j]? = some y ∧ appendP P (h2 ++ [some ⟨[.int .i64 (j : Int)], 1, false⟩]) t_S_int (.slice uo acc.length uc) (.slice (some ⟨h2.length, 0, some 1⟩) 1 1) = some (v', h3) ∧
          indexAddrP P h3 t_S_impl_Op (.slice a2 (opsL s).length c2) (.int .i64 j) = some (.pointer (some (addP (base (.slice a2 (opsL s).length c2)) (j * 2)))) ∧ loadP P h3 t_int (.pointer (some (addP (addP (base (.slice a2 (opsL s).length c2)) (j * 2)) 1))) = some (.int .i64 y.t) ∧
          IntKind.i64.wrap (want - y.t) = want - y.t ∧ I m0 [(5, .slice a1 (psL s oss).length c1), (6, .slice a2 (opsL s).length c2), (7, .slice a3 (opsL s).length c3), (8, v'), (9, .int .i64 (want - y.t))] h3 := fun hp => by
        obtain ⟨y, hy, hty, ht1, ht2⟩ := ao.time hjN
        obtain ⟨v', h3, ha, H4, k, _⟩ := push_I0 H 4 rfl (j : Int) (by simp; omega)
        obtain ⟨g1, g2, g3, g4⟩ := crit_step hd tl ao hc hjN hp
        have hq := load_O (H4.sees 2 rfl) hy
        rw [path_step hw (find_first hjN hp hno)] at hx
        rw [hty] at g1 g2 hx
        refine ⟨y, v', h3, hy, ha, hq.1, hq.2.2.2, by rw [wrap_ok] <;> omega, on hI ⟨acc ++ [j], want - y.t, v', rfl, ?_, by rw [last_snoc]; exact g1, by rw [last_snoc]; simpa using hx, by omega, by simp; omega⟩⟩
        rw [natI_mem]; exact H4
      cases c4 : (gN (tailsL s (psL s oss)) j == want)
      · have c4' : (gN (tailsL s (psL s oss)) j != want) = true := by rw [bne, c4]; rfl
        have := go (by rw [pickP, c4]; rfl)
        simp -implicitDefEqProofs [-indexAddrP_some, hT1, c4', wj]
        exact this
      · have c4' : (gN (tailsL s (psL s oss)) j != want) = false := by rw [bne, c4]; rfl
        have hpk : pickP s oss (lastO acc) want j = okAfter s oss (lastO acc) j := by rw [pickP, c4, Bool.true_and]
        cases hl : lastO acc with
        | none =>
          have h0 : acc = [] := List.getLast?_eq_none_iff.1 hl
          obtain ⟨y, v', h3, hy, ha, g1, g2, w, hgo⟩ := stop (by rw [hpk, hl]; rfl)
          have hal0 : acc.length = 0 := by rw [h0]; rfl
          rw [hal0] at ha ⊢
          simp -implicitDefEqProofs [-indexAddrP_some, hT1, c4', ha, g1, g2, w]
          exact ⟨m0, by omega, hgo⟩
        | some a =>
          obtain ⟨g0, ga⟩ := last_at hl
          have g0' : (0 : Int) < acc.length := by omega
          have wl : IntKind.i64.wrap ((acc.length : Int) - 1) = ((acc.length - 1 : Nat) : Int) := by rw [wrap_ok] <;> omega
          have la := load_I (H.sees 4 rfl) ga
          have rl := l9Leads_run (a := a) (b := j) (H.sees 1 rfl) (by have := ao.len; omega)
          cases c5 : decide ((a, j) ∈ psL s oss)
          · have := go (by rw [hpk, hl]; exact c5)
            simp -implicitDefEqProofs [-indexAddrP_some, hT1, c4', g0, g0', wl, la, CL_ret rl, c5, wj]
            exact this
          · obtain ⟨y, v', h3, hy, ha, g1, g2, w, hgo⟩ := stop (by rw [hpk, hl]; exact c5)
            simp -implicitDefEqProofs [-indexAddrP_some, hT1, c4', g0, g0', wl, la, CL_ret rl, c5, ha, g1, g2, w]
            exact ⟨m0, by omega, hgo⟩
    · rw [path_end (by omega), List.append_nil] at hx
      simp -implicitDefEqProofs [hw]
      rw [pathI, hx] at hK
      exact onK hK (H.ret 4 rfl)
  · have := tails_small ao hN
    show 0 + _ ≤ _
    omega
theorem selPath_run {h : Hp} {vo vt vi va vh vT : Value} {s : Shop} {oss : List (List Int)} {us : List Int} (o : SelSee h vo vt vi va vh vT s oss us) (ho : cntN oss ≤ 2 ^ 20) (hO : headsO s oss = some us) :
    RunsC P G n_impl_selected_path [selv vo vt vi va vh vT (mx (tailsL s (psL s oss)))] h fun v h' => h <+: h' ∧ Own h.length h' v 1 ((pathI s oss).map encI) := by
  refine hideC fun K hK => enter_run e_impl_selected_path (by simp) ?_
  obtain ⟨hg, hs, ao, hd, tl, hN⟩ := headsO_facts ho hO
  have os := o
  have ulen := hd.len
  have tlen := tl.len
  obtain ⟨⟨a1, c1, rfl⟩, ⟨a2, c2, rfl⟩, ⟨a3, c3, rfl⟩, ⟨a4, c4, rfl⟩, ⟨a5, c5, e5⟩, a6, c6, e6⟩ := o.shapes
  rw [ulen] at e5
  rw [tlen] at e6
  subst e5; subst e6
  have hql : (qsL oss).length ≤ 2 ^ 21 := by rw [qsL, List.length_map]; exact Nat.le_trans (Nat.le_trans arcs_len ho) (by omega)
  have tb := tails_small ao hN
  generalize hL : mx (tailsL s (psL s oss)) = L at *
  simp -implicitDefEqProofs
  have H0 := own_nil (Holds.start.alloc [.slice a1 (opsL s).length c1, .slice a2 (flatF s).rt.length c2, .slice a3 (flatF s).ix.length c3, .slice a4 (qsL oss).length c4, .slice a5 (opsL s).length c5, .slice a6 (opsL s).length c6, .int .i64 L] (h := h)) Int encI 1
  refine R_loopO (fun n st h' => ∃ (acc : List Nat) (want : Int) (u : Value), st = [(1, .pointer (some ⟨h.length, 0, some 7⟩)), (3, u), (4, .int .i64 (L - want))] ∧
    Holds h h' [.box h.length [.slice a1 (opsL s).length c1, .slice a2 (flatF s).rt.length c2, .slice a3 (flatF s).ix.length c3, .slice a4 (qsL oss).length c4, .slice a5 (opsL s).length c5, .slice a6 (opsL s).length c6, .int .i64 L], .own u 1 ((acc.map natI).map encI)] ∧
    Crit s oss us (lastO acc) want ∧ pathL s oss = acc ++ pathGo s oss n (lastO acc) want ∧ want ≤ n ∧ acc.length + n ≤ 2 ^ 31) (fun I hI n st h' => ?_) (n := L.toNat) ⟨[], L, _, by simp, H0, .inl ⟨rfl, hL.symm⟩, by simp [pathL, lastO, hL], by omega, ?_⟩
  · rintro ⟨acc, want, u, rfl, H, hc, hx, hwn, hal⟩
    have hle := crit_le hd tl ao hc
    rw [hL] at hle
    by_cases hw : 0 < want
    · obtain ⟨m0, rfl⟩ : ∃ m0, n = m0 + 1 := ⟨n - 1, by omega⟩
      have hw' : L - want < L := by omega
      obtain ⟨i0, hi0, hpi0⟩ := crit_ex hd tl ao hc hw
      obtain ⟨uo, uc, rfl⟩ : ∃ a c, u = .slice a acc.length c := by obtain ⟨a, c, e⟩ := (H.sees 1 rfl).shapeT; exact ⟨a, c, by rw [e, List.length_map]⟩
      simp -implicitDefEqProofs [H.bl 0 7 rfl rfl, hw']
      refine R_loopO (fun n st h2 => ∃ (j : Nat), j + n = (opsL s).length ∧ st = [(1, .pointer (some ⟨h.length, 0, some 7⟩)), (3, .slice uo acc.length uc), (4, .int .i64 (L - want)), (13, .int .i64 (opsL s).length), (14, .int .i64 j)] ∧ h2 = h' ∧ ∀ i, i < j → pickP s oss (lastO acc) want i = false) (fun I2 hI2 n st h2 => ?_) ⟨0, Nat.zero_add _, by simp, rfl, fun i hi => by omega⟩
      rintro ⟨j, hj, rfl, rfl, hno⟩
      have hjN : j < (opsL s).length := by
        rcases Nat.lt_or_ge j (opsL s).length with g | g
        · exact g
        · have := hno i0 (by omega)
          rw [hpi0] at this; cases this
      have hU1 := load_I (os.hd.pre H.pre) (gN_get (v := us) (i := j) (by omega))
      have hT1 := load_I (os.tl.pre H.pre) (gN_get (v := tailsL s (psL s oss)) (i := j) (by omega))
      have sm := hd.sum tl j
      have up := hd.pos j
      have wS : IntKind.i64.wrap (gN us j + gN (tailsL s (psL s oss)) j) = gN us j + gN (tailsL s (psL s oss)) j := by
        have t0 := tl.up j
        have t1 := ao.pok.nonneg j
        rw [wrap_ok] <;> omega
      have wj := winc hjN (show (opsL s).length ≤ 2 ^ 40 by omega)
      have ps := pick_same hd tl ao hc j
      rw [hL] at ps
      have go : pickP s oss (lastO acc) want j = false → ∃ m, m < n ∧ I2 m [(1, .pointer (some ⟨h.length, 0, some 7⟩)), (3, .slice uo acc.length uc), (4, .int .i64 (L - want)), (13, .int .i64 (opsL s).length), (14, .int .i64 ((j : Int) + 1))] h2 := fun hp => by
        refine ⟨n - 1, by omega, on hI2 ⟨j + 1, by omega, rfl, rfl, fun i hi => ?_⟩⟩
        rcases Nat.lt_or_ge i j with g | g
        · exact hno i g
        · have : i = j := by omega
          rw [this]; exact hp
      have stop : pickP s oss (lastO acc) want j = true → ∃ (y : OpR) (v' : Value) (h3 : Hp), appendP P (h2 ++ [some ⟨[.int .i64 (j : Int)], 1, false⟩]) t_S_int (.slice uo acc.length uc) (.slice (some ⟨h2.length, 0, some 1⟩) 1 1) = some (v', h3) ∧
          (∀ t o, loadP P h3 t (.pointer (some ⟨h.length, o, some 7⟩)) = rowLoad P t ⟨[.slice a1 (opsL s).length c1, .slice a2 (flatF s).rt.length c2, .slice a3 (flatF s).ix.length c3, .slice a4 (qsL oss).length c4, .slice a5 (opsL s).length c5, .slice a6 (opsL s).length c6, .int .i64 L], 0, false⟩ o) ∧
          indexAddrP P h3 t_S_impl_Op (.slice a1 (opsL s).length c1) (.int .i64 j) = some (.pointer (some (addP (base (.slice a1 (opsL s).length c1)) (j * 2)))) ∧ loadP P h3 t_int (.pointer (some (addP (addP (base (.slice a1 (opsL s).length c1)) (j * 2)) 1))) = some (.int .i64 y.t) ∧
          IntKind.i64.wrap (L - want + y.t) = L - (want - y.t) ∧ I m0 [(1, .pointer (some ⟨h.length, 0, some 7⟩)), (3, v'), (4, .int .i64 (L - (want - y.t)))] h3 := fun hp => by
        obtain ⟨y, hy, hty, ht1, ht2⟩ := ao.time hjN
        obtain ⟨v', h3, ha, H4, k, _⟩ := push_I0 H 1 rfl (j : Int) (by simp; omega)
        obtain ⟨g1, g2, g3, g4⟩ := crit_step hd tl ao hc hjN hp
        have hq := load_O (os.f.o.pre H4.pre) hy
        rw [path_step hw (find_first hjN hp hno)] at hx
        rw [hty] at g1 g2 hx
        refine ⟨y, v', h3, ha, H4.bl 0 7 rfl rfl, hq.1, hq.2.2.2, by rw [wrap_ok] <;> omega, on hI ⟨acc ++ [j], want - y.t, v', rfl, ?_, by rw [last_snoc]; exact g1, by rw [last_snoc]; simpa using hx, by omega, by simp; omega⟩⟩
        rw [natI_mem]; exact H4
      cases c7 : (gN us j == L - want)
      · have := go (by rw [ps, c7]; rfl)
        simp -implicitDefEqProofs [-indexAddrP_some, hjN, H.bl 0 7 rfl rfl, hU1, c7, wj]
        exact this
      · cases c8 : (gN us j + gN (tailsL s (psL s oss)) j == L)
        · have := go (by rw [ps, c7, c8]; rfl)
          simp -implicitDefEqProofs [-indexAddrP_some, hjN, H.bl 0 7 rfl rfl, hU1, hT1, wS, c7, c8, wj]
          exact this
        · have hpk : pickP s oss (lastO acc) want j = okAfter s oss (lastO acc) j := by rw [ps, c7, c8]; rfl
          cases hl : lastO acc with
          | none =>
            have h0 : acc = [] := List.getLast?_eq_none_iff.1 hl
            obtain ⟨y, v', h3, ha, gb, g1, g2, w, hgo⟩ := stop (by rw [hpk, hl]; rfl)
            have hal0 : acc.length = 0 := by rw [h0]; rfl
            rw [hal0] at ha ⊢
            simp -implicitDefEqProofs [-indexAddrP_some, hjN, H.bl 0 7 rfl rfl, hU1, hT1, wS, c7, c8, ha, gb, g1, g2, w]
            exact ⟨m0, by omega, hgo⟩
          | some a =>
            obtain ⟨g0, ga⟩ := last_at hl
            have haN : a < (opsL s).length := by
              rcases hc with ⟨e, _⟩ | ⟨a', e, h2, _⟩
              · rw [hl] at e; cases e
              · rw [hl] at e; cases e; exact h2
            have g0' : ¬ (acc.length : Int) = 0 := by omega
            have hne : ¬ acc = [] := fun e => by rw [e] at g0; simp at g0
            have wl : IntKind.i64.wrap ((acc.length : Int) - 1) = ((acc.length - 1 : Nat) : Int) := by rw [wrap_ok] <;> omega
            have la := load_I (H.sees 1 rfl) ga
            have rl := selLeads_run (a := a) (b := j) (n := L) (os.pre H.pre) hN hql haN
            cases c5 : leadsB s oss a j
            · have := go (by rw [hpk, hl]; exact c5)
              simp -implicitDefEqProofs [-indexAddrP_some, hjN, H.bl 0 7 rfl rfl, hU1, hT1, wS, c7, c8, nb g0', g0', hne, wl, la, CL_ret rl, CH_at rl, c5, wj]
              exact this
            · obtain ⟨y, v', h3, ha, gb, g1, g2, w, hgo⟩ := stop (by rw [hpk, hl]; exact c5)
              simp -implicitDefEqProofs [-indexAddrP_some, hjN, H.bl 0 7 rfl rfl, hU1, hT1, wS, c7, c8, nb g0', g0', hne, wl, la, CL_ret rl, CH_at rl, c5, ha, gb, g1, g2, w]
              exact ⟨m0, by omega, hgo⟩
    · have hw' : ¬ L - want < L := by omega
      rw [path_end (by omega), List.append_nil] at hx
      simp -implicitDefEqProofs [H.bl 0 7 rfl rfl, hw']
      rw [pathI, hx] at hK
      exact onK hK (H.ret 1 rfl)
  · show 0 + _ ≤ _
    omega
end Go.Pm.PP
