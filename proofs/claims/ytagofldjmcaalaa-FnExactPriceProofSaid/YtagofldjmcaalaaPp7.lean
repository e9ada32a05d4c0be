/- Functions of PriceProof: fairness. -/
import Derived.Test.YtagofldjmcaalaaPp4
set_option linter.unusedVariables false
set_option linter.unusedSimpArgs false
set_option maxRecDepth 4000
set_option maxHeartbeats 4000000
namespace Go.Pm.PP
open Go.Pm Go.Proofs
def sumFor (i : Int) : List SP → Int → Int
  | [], a => a
  | x :: r, a => sumFor i r (if hasL i x.s then w64 (a + x.p) else a)
theorem sumFor_cons {i a : Int} {x : SP} {r : List SP} : sumFor i (x :: r) a = sumFor i r (if hasL i x.s then w64 (a + x.p) else a) := rfl
def fairL (ps : List SP) (sc : Int) : Nat → List Job → Bool
  | _, [] => true
  | i, j :: r => !decide (w64 (sumFor i ps 0 * j.t) > w64 (j.w * sc)) && fairL ps sc (i + 1) r
theorem fairL_cons {ps : List SP} {sc : Int} {i : Nat} {j : Job} {r : List Job} : fairL ps sc i (j :: r) = (!decide (w64 (sumFor i ps 0 * j.t) > w64 (j.w * sc)) && fairL ps sc (i + 1) r) := rfl
theorem isFair_run {h : Hp} {v vp : Value} {js : List Job} {ps : List SP} {sc : Int} (hj : Jobs h v js) (hv : Prices h vp ps) (hjn : js.length ≤ 2 ^ 40) (hn : ps.length ≤ 2 ^ 40) :
    Ret P G n_impl_isFair [v, vp, .int .i64 sc] h (.bool (fairL ps sc 0 js)) h := by
  refine enter_run e_impl_isFair (by simp) ?_
  obtain ⟨oj, cj, rfl⟩ := hj.shapeT
  obtain ⟨oa, c, rfl⟩ := hv.sees.shapeT
  simp -implicitDefEqProofs
  refine R_loop (fun m s h' => ∃ i : Nat, i + m = js.length ∧ s = [(1, .slice oa ps.length c), (2, .int .i64 sc), (12, .slice oj js.length cj), (13, .int .i64 js.length), (14, .int .i64 i)] ∧ h <+: h' ∧ fairL ps sc 0 js = fairL ps sc i (js.drop i)) (fun m s h' => ?_) ⟨0, Nat.zero_add _, by simp, List.prefix_rfl, rfl⟩
  rintro ⟨i, hi, rfl, hp, hx⟩
  have hj' := hj.pre hp
  have hv' := hv.pre hp
  by_cases hlt : i < js.length
  · obtain ⟨y, hy, hd⟩ := drop_at hlt
    rw [hd, fairL_cons] at hx
    have w0 : IntKind.i64.wrap (i + 1) = ((i : Int) + 1) := by rw [wrap_ok] <;> omega
    simp -implicitDefEqProofs [hlt, jobs_idx hj' hlt, jobs_agg hj' hy]
    refine R_loop (fun n s h2 => ∃ (k : Nat) (t : Hp) (a : Int), k + n = ps.length ∧ s = [(1, .slice oa ps.length c), (2, .int .i64 sc), (7, .int .i64 i), (8, .pointer (some ⟨h'.length, 0, some 4⟩)), (9, .int .i64 a), (12, .slice oj js.length cj), (13, .int .i64 js.length), (14, .int .i64 i), (19, .slice oa ps.length c), (20, .int .i64 ps.length), (21, .int .i64 k)] ∧ h2 = h' ++ (some ⟨[.int .i64 y.t, .int .i64 y.w, .int .i64 y.r, .int .i64 y.d], 0, false⟩ :: t) ∧ sumFor i ps 0 = sumFor i (ps.drop k) a) (fun n s h2 => ?_) ⟨0, [], 0, Nat.zero_add _, by simp, by simp, rfl⟩
    rintro ⟨k, t, a, hk, rfl, rfl, hy2⟩
    have hv2 : Prices (h' ++ (some ⟨[.int .i64 y.t, .int .i64 y.w, .int .i64 y.r, .int .i64 y.d], 0, false⟩ :: t)) (.slice oa ps.length c) ps := hv'.pre (List.prefix_append ..)
    by_cases hlt2 : k < ps.length
    · obtain ⟨x, hx2, hd2⟩ := drop_at hlt2
      rw [hd2, sumFor_cons] at hy2
      obtain ⟨xv, xl, xp⟩ := x
      obtain ⟨xs, xn⟩ : Ints h' xv xl ∧ xl.length ≤ 2 ^ 40 := hv'.set _ (List.mem_of_getElem? hx2)
      have i0 := prices_idx hv2 (i := k) (by omega) (by omega)
      rw [show (k : Int).toNat = k by omega] at i0
      have la := prices_agg hv2 hx2
      obtain ⟨ob, d, rfl⟩ := xs.shapeT
      have xs2 := xs.ext (some ⟨[.int .i64 y.t, .int .i64 y.w, .int .i64 y.r, .int .i64 y.d], 0, false⟩ :: (t ++ [some ⟨[.slice ob xl.length d, .int .i64 xp], 0, false⟩]))
      have w1 : IntKind.i64.wrap (k + 1) = ((k : Int) + 1) := by rw [wrap_ok] <;> omega
      cases h1 : hasL i xl <;>
        (rw [h1] at hy2; simp -implicitDefEqProofs [hlt2, i0, la, CL_ret (has_run xs2 xn), h1, w1])
      · exact ⟨n - 1, by omega, k + 1, by omega, _, _, ⟨rfl, by omega⟩, rfl, by simpa using hy2⟩
      · exact ⟨n - 1, by omega, k + 1, by omega, _, _, ⟨rfl, by omega⟩, rfl, by simpa [w64] using hy2⟩
    · rw [List.drop_eq_nil_of_le (by omega), sumFor] at hy2
      subst hy2
      simp -implicitDefEqProofs [hlt2]
      refine CB_split (fun h5 => ?_) (fun h5 => ?_)
      · rw [show decide (w64 (sumFor i ps 0 * y.t) > w64 (y.w * sc)) = true from h5] at hx
        simp at hx
        simp -implicitDefEqProofs [hx, gcB' hp]
      · rw [show decide (w64 (sumFor i ps 0 * y.t) > w64 (y.w * sc)) = false from h5] at hx
        simp -implicitDefEqProofs [w0]
        exact ⟨m - 1, by omega, i + 1, by omega, by omega, hp.trans (List.prefix_append ..), by simpa using hx⟩
  · rw [List.drop_eq_nil_of_le (by omega), fairL] at hx
    simp -implicitDefEqProofs [hlt, hx, gcB hp]
theorem l10Fair_run {h : Hp} {v vp : Value} {js : List Job} {ps : List SP} {sc : Int} (hj : Jobs h v js) (hv : Prices h vp ps) (hjn : js.length ≤ 2 ^ 40) (hn : ps.length ≤ 2 ^ 40) :
    Ret P G n_spec_l10Fair [v, vp, .int .i64 sc] h (.bool (fairL ps sc 0 js)) h := by
  refine enter_run e_spec_l10Fair (by simp) ?_
  obtain ⟨oj, cj, rfl⟩ := hj.shapeT
  obtain ⟨oa, c, rfl⟩ := hv.sees.shapeT
  simp -implicitDefEqProofs
  refine R_loop (fun m s h' => ∃ i : Nat, i + m = js.length ∧ s = [(0, .slice oj js.length cj), (1, .slice oa ps.length c), (2, .int .i64 sc), (7, .int .i64 i)] ∧ h' = h ∧ fairL ps sc 0 js = fairL ps sc i (js.drop i)) (fun m s h' => ?_) ⟨0, Nat.zero_add _, by simp, rfl, rfl⟩
  rintro ⟨i, hi, rfl, rfl, hx⟩
  by_cases hlt : i < js.length
  · obtain ⟨y, hy, hd⟩ := drop_at hlt
    rw [hd, fairL_cons] at hx
    have w0 : IntKind.i64.wrap (i + 1) = ((i : Int) + 1) := by rw [wrap_ok] <;> omega
    simp -implicitDefEqProofs [hlt]
    refine R_loop (fun n s h2 => ∃ (k : Nat) (a : Int), k + n = ps.length ∧ s = [(0, .slice oj js.length cj), (1, .slice oa ps.length c), (2, .int .i64 sc), (7, .int .i64 i), (8, .int .i64 a), (9, .int .i64 k)] ∧ h2 = h' ∧ sumFor i ps 0 = sumFor i (ps.drop k) a) (fun n s h2 => ?_) ⟨0, 0, Nat.zero_add _, by simp, rfl, rfl⟩
    rintro ⟨k, a, hk, rfl, rfl, hy2⟩
    by_cases hlt2 : k < ps.length
    · obtain ⟨x, hx2, hd2⟩ := drop_at hlt2
      rw [hd2, sumFor_cons] at hy2
      obtain ⟨xv, xl, xp⟩ := x
      obtain ⟨xs, xn⟩ : Ints h2 xv xl ∧ xl.length ≤ 2 ^ 40 := hv.set _ (List.mem_of_getElem? hx2)
      have i0 := prices_idx hv (i := k) (by omega) (by omega)
      rw [show (k : Int).toNat = k by omega] at i0
      have ls := prices_set hv hx2
      have lp := prices_price hv hx2
      have w1 : IntKind.i64.wrap (k + 1) = ((k : Int) + 1) := by rw [wrap_ok] <;> omega
      cases h1 : hasL i xl <;>
        (rw [h1] at hy2; simp -implicitDefEqProofs [hlt2, i0, ls, lp, CL_ret (l1Has_run xs xn), h1, w1])
      · exact ⟨n - 1, by omega, k + 1, by omega, _, ⟨rfl, by omega⟩, by simpa using hy2⟩
      · exact ⟨n - 1, by omega, k + 1, by omega, _, ⟨rfl, by omega⟩, by simpa [w64] using hy2⟩
    · rw [List.drop_eq_nil_of_le (by omega), sumFor] at hy2
      subst hy2
      simp -implicitDefEqProofs [hlt2, jobs_idx hj hlt, jobs_field hj hy, encJ]
      refine CB_split (fun h5 => ?_) (fun h5 => ?_)
      · rw [show decide (w64 (sumFor i ps 0 * y.t) > w64 (y.w * sc)) = true from h5] at hx
        simp at hx
        simp -implicitDefEqProofs [hx]
      · rw [show decide (w64 (sumFor i ps 0 * y.t) > w64 (y.w * sc)) = false from h5] at hx
        simp -implicitDefEqProofs [w0]
        exact ⟨m - 1, by omega, i + 1, by omega, by omega, by simpa using hx⟩
  · rw [List.drop_eq_nil_of_le (by omega), fairL] at hx
    simp -implicitDefEqProofs [hlt, hx]
end Go.Pm.PP
