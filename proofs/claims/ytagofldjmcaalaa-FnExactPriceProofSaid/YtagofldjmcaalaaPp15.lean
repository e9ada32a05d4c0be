/- FnExactPriceProof: comparing copies. Only equal ones are compared. -/
import Derived.Test.YtagofldjmcaalaaPp4
set_option linter.unusedVariables false
set_option linter.unusedSimpArgs false
set_option maxRecDepth 4000
set_option maxHeartbeats 4000000
namespace Go.Pm.PP
open Go.Pm Go.Proofs
theorem eqIntS_run {h : Hp} {v u : Value} {xs : List Int} (hv : Ints h v xs) (hu : Ints h u xs) (hn : xs.length ≤ 2 ^ 40) :
    Ret P G n_laws_eqIntS [v, u] h (.bool true) h := by
  refine enter_run e_laws_eqIntS (by simp) ?_
  obtain ⟨oa, c, rfl⟩ := hv.shapeT
  obtain ⟨ob, d, rfl⟩ := hu.shapeT
  simp -implicitDefEqProofs
  refine R_loop (fun m s h' => ∃ i : Nat, i + m = xs.length ∧ s = [(0, .slice oa xs.length c), (1, .slice ob xs.length d), (5, .int .i64 i)] ∧ h' = h) (fun m s h' => ?_) ⟨0, Nat.zero_add _, by simp, rfl⟩
  rintro ⟨i, hi, rfl, rfl⟩
  by_cases hlt : i < xs.length
  · obtain ⟨y, hy, hd⟩ := drop_at hlt
    have w0 : IntKind.i64.wrap (i + 1) = ((i : Int) + 1) := by rw [wrap_ok] <;> omega
    simp -implicitDefEqProofs [hlt, ints_idx hv (i := i) (by omega) (by omega), ints_idx hu (i := i) (by omega) (by omega), ints_ld hv hy, ints_ld hu hy, w0]
    exact ⟨m - 1, by omega, i + 1, by omega, by omega⟩
  · simp -implicitDefEqProofs [hlt]
theorem eqJob_run {h : Hp} {j : Job} : Ret P G n_laws_eqJob [jv j, jv j] h (.bool true) h := by
  refine enter_run e_laws_eqJob (by simp) ?_
  simp -implicitDefEqProofs
theorem eqJobS_run {h : Hp} {v u : Value} {js : List Job} (hv : Jobs h v js) (hu : Jobs h u js) (hn : js.length ≤ 2 ^ 40) :
    Ret P G n_laws_eqJobS [v, u] h (.bool true) h := by
  refine enter_run e_laws_eqJobS (by simp) ?_
  obtain ⟨oa, c, rfl⟩ := hv.shapeT
  obtain ⟨ob, d, rfl⟩ := hu.shapeT
  simp -implicitDefEqProofs
  refine R_loop (fun m s h' => ∃ i : Nat, i + m = js.length ∧ s = [(0, .slice oa js.length c), (1, .slice ob js.length d), (5, .int .i64 i)] ∧ h' = h) (fun m s h' => ?_) ⟨0, Nat.zero_add _, by simp, rfl⟩
  rintro ⟨i, hi, rfl, rfl⟩
  by_cases hlt : i < js.length
  · obtain ⟨y, hy, hd⟩ := drop_at hlt
    have w0 : IntKind.i64.wrap (i + 1) = ((i : Int) + 1) := by rw [wrap_ok] <;> omega
    simp -implicitDefEqProofs [hlt, jobs_idx hv hlt, jobs_idx hu hlt, jobs_agg hv hy, jobs_agg hu hy, CL_ret eqJob_run, CH_ret eqJob_run, w0]
    exact ⟨m - 1, by omega, i + 1, by omega, by omega⟩
  · simp -implicitDefEqProofs [hlt]
theorem eqSetPrice_run {h : Hp} {v u : Value} {xs : List Int} {p : Int} (hv : Ints h v xs) (hu : Ints h u xs) (hn : xs.length ≤ 2 ^ 40) :
    Ret P G n_laws_eqSetPrice [.agg #[v, .int .i64 p], .agg #[u, .int .i64 p]] h (.bool true) h := by
  refine enter_run e_laws_eqSetPrice (by simp) ?_
  obtain ⟨oa, c, rfl⟩ := hv.shapeT
  obtain ⟨ob, d, rfl⟩ := hu.shapeT
  have f := eqIntS_run (hv.ext [some ⟨[.slice oa xs.length c, .int .i64 p], 0, false⟩, some ⟨[.slice ob xs.length d, .int .i64 p], 0, false⟩]) (hu.ext _) hn
  simp -implicitDefEqProofs [CL_ret f]
theorem eqSetPriceS_run {h : Hp} {v u : Value} {ps qs : List SP} (hv : Prices h v ps) (hu : Prices h u qs) (hn : ps.length ≤ 2 ^ 40) (he : ps.map (fun x => (x.s, x.p)) = qs.map fun x => (x.s, x.p)) :
    Ret P G n_laws_eqSetPriceS [v, u] h (.bool true) h := by
  refine enter_run e_laws_eqSetPriceS (by simp) ?_
  have hl : qs.length = ps.length := by simpa using (congrArg List.length he).symm
  obtain ⟨oa, c, rfl⟩ := hv.sees.shapeT
  obtain ⟨ob, d, rfl⟩ := hu.sees.shapeT
  simp -implicitDefEqProofs [hl]
  refine R_loop (fun m s h' => ∃ i : Nat, i + m = ps.length ∧ s = [(0, .slice oa ps.length c), (1, .slice ob ps.length d), (5, .int .i64 i)] ∧ h' = h) (fun m s h' => ?_) ⟨0, Nat.zero_add _, by simp, rfl⟩
  rintro ⟨i, hi, rfl, rfl⟩
  rw [hl] at hu
  by_cases hlt : i < ps.length
  · obtain ⟨⟨yv, yl, yp⟩, hy, _⟩ := drop_at hlt
    obtain ⟨⟨zv, zl, zp⟩, hz, _⟩ := drop_at (show i < qs.length by omega)
    have := congrArg (·[i]?) he
    simp [hy, hz] at this
    obtain ⟨rfl, rfl⟩ := this
    obtain ⟨ys, yn⟩ : Ints h' yv yl ∧ yl.length ≤ 2 ^ 40 := hv.set _ (List.mem_of_getElem? hy)
    obtain ⟨zs, zn⟩ : Ints h' zv yl ∧ yl.length ≤ 2 ^ 40 := hu.set _ (List.mem_of_getElem? hz)
    have w0 : IntKind.i64.wrap (i + 1) = ((i : Int) + 1) := by rw [wrap_ok] <;> omega
    have i0 := prices_idx hv (i := i) (by omega) (by omega)
    have i1 := prices_idx hu (i := i) (by omega) (by omega)
    rw [show (i : Int).toNat = i by omega] at i0 i1
    have eqr := eqSetPrice_run (p := yp) ys zs yn
    simp -implicitDefEqProofs [hlt, i0, i1, prices_agg hv hy, prices_agg hu hz, CL_ret eqr, w0]
    exact ⟨m - 1, by omega, i + 1, by omega, by omega⟩
  · simp -implicitDefEqProofs [hlt]
end Go.Pm.PP
