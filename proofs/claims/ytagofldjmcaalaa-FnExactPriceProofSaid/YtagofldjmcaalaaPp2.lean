/- Functions of PriceProof: checks of jobs and lists. -/
import Derived.Test.YtagofldjmcaalaaPp1
set_option linter.unusedVariables false
set_option linter.unusedSimpArgs false
set_option maxRecDepth 4000
namespace Go.Pm.PP
open Go.Pm Go.Proofs
def freeL (js : List Job) : Bool := js.all fun j => !decide (j.r > 0)
theorem freeL_cons {j : Job} {js : List Job} : freeL (j :: js) = (!decide (j.r > 0) && freeL js) := rfl
theorem freeL_nil : freeL [] = true := rfl
theorem l4Free_run {h : Hp} {v : Value} {js : List Job} (hv : Jobs h v js) (hn : js.length ≤ 2 ^ 40) :
    Ret P G n_spec_l4Free [v] h (.bool (freeL js)) h := by
  refine enter_run e_spec_l4Free (by simp) ?_
  obtain ⟨oa, c, rfl⟩ := hv.shapeT
  simp -implicitDefEqProofs
  refine R_loop (fun n s h' => ∃ i : Nat, i + n = js.length ∧ s = [(0, .slice oa js.length c), (3, .int .i64 i)] ∧ h' = h ∧ freeL js = freeL (js.drop i)) (fun n s h' => ?_) ⟨0, Nat.zero_add _, by simp⟩
  rintro ⟨i, hi, rfl, rfl, hx⟩
  by_cases hlt : i < js.length
  · obtain ⟨y, hy, hd⟩ := drop_at hlt
    rw [hd, freeL_cons] at hx
    simp -implicitDefEqProofs [hlt, jobs_idx hv hlt, jobs_field hv hy, encJ]
    refine CB_split (fun h => ?_) (fun h => ?_)
    · simp at h
      simp -implicitDefEqProofs [hx, h]
    · simp at h
      rw [show (!decide (y.r > 0)) = true by simpa using h, Bool.true_and] at hx
      simp -implicitDefEqProofs [winc hlt hn]
      exact ⟨n - 1, by omega, i + 1, by omega, rfl, hx⟩
  · rw [List.drop_eq_nil_of_le (by omega), freeL_nil] at hx
    simp -implicitDefEqProofs [hlt, hx]
def l6GoodL (js : List Job) : Bool := goodL js && decide (js.length ≤ 8) && freeL js
theorem l6Good_run {h : Hp} {v : Value} {js : List Job} (hv : Jobs h v js) (hn : js.length ≤ 2 ^ 40) :
    Ret P G n_spec_l6Good [v] h (.bool (l6GoodL js)) h := by
  refine enter_run e_spec_l6Good (by simp) ?_
  cases h1 : (goodL js && decide (js.length ≤ 8)) <;>
    simp -implicitDefEqProofs [CL_ret (l2Good_run hv hn), CL_ret (l4Free_run hv hn), h1, l6GoodL]
theorem hasL_cons {x y : Int} {xs : List Int} : hasL x (y :: xs) = ((y == x) || hasL x xs) := rfl
theorem hasL_nil {x : Int} : hasL x [] = false := rfl
theorem l1Has_run {h : Hp} {v : Value} {xs : List Int} {x : Int} (hv : Ints h v xs) (hn : xs.length ≤ 2 ^ 40) :
    Ret P G n_spec_l1Has [v, .int .i64 x] h (.bool (hasL x xs)) h := by
  refine enter_run e_spec_l1Has (by simp) ?_
  obtain ⟨oa, c, rfl⟩ := hv.shapeT
  simp -implicitDefEqProofs
  refine R_loop (fun n s h' => ∃ i : Nat, i + n = xs.length ∧ s = [(0, .slice oa xs.length c), (1, .int .i64 x), (5, .int .i64 i)] ∧ h' = h ∧ hasL x xs = hasL x (xs.drop i)) (fun n s h' => ?_) ⟨0, Nat.zero_add _, by simp⟩
  rintro ⟨i, hi, rfl, rfl, hx⟩
  by_cases hlt : i < xs.length
  · obtain ⟨y, hy, hd⟩ := drop_at hlt
    rw [hd, hasL_cons] at hx
    simp -implicitDefEqProofs [hlt, ints_idx hv (i := i) (by omega) (by omega), ints_ld hv hy]
    refine CB_split (fun h => ?_) (fun h => ?_)
    · simp -implicitDefEqProofs [hx, h]
    · rw [h, Bool.false_or] at hx
      simp -implicitDefEqProofs [winc hlt hn]
      exact ⟨n - 1, by omega, i + 1, by omega, rfl, hx⟩
  · rw [List.drop_eq_nil_of_le (by omega), hasL_nil] at hx
    simp -implicitDefEqProofs [hlt, hx]
theorem has_run {h : Hp} {v : Value} {xs : List Int} {x : Int} (hv : Ints h v xs) (hn : xs.length ≤ 2 ^ 40) :
    Ret P G n_impl_has [v, .int .i64 x] h (.bool (hasL x xs)) h := by
  refine enter_run e_impl_has (by simp) ?_
  obtain ⟨oa, c, rfl⟩ := hv.shapeT
  simp -implicitDefEqProofs
  refine R_loop (fun n s h' => ∃ i : Nat, i + n = xs.length ∧ s = [(1, .int .i64 x), (7, .slice oa xs.length c), (8, .int .i64 xs.length), (9, .int .i64 i)] ∧ h' = h ∧ hasL x xs = hasL x (xs.drop i)) (fun n s h' => ?_) ⟨0, Nat.zero_add _, by simp⟩
  rintro ⟨i, hi, rfl, rfl, hx⟩
  by_cases hlt : i < xs.length
  · obtain ⟨y, hy, hd⟩ := drop_at hlt
    rw [hd, hasL_cons] at hx
    simp -implicitDefEqProofs [hlt, ints_idx hv (i := i) (by omega) (by omega), ints_ld hv hy]
    refine CB_split (fun h => ?_) (fun h => ?_)
    · simp -implicitDefEqProofs [hx, h]
    · rw [h, Bool.false_or] at hx
      simp -implicitDefEqProofs [winc hlt hn]
      exact ⟨n - 1, by omega, i + 1, by omega, rfl, hx⟩
  · rw [List.drop_eq_nil_of_le (by omega), hasL_nil] at hx
    simp -implicitDefEqProofs [hlt, hx]
def plainL (js : List Job) : Bool := js.all fun j => j.r == 0
theorem plainL_cons {j : Job} {js : List Job} : plainL (j :: js) = ((j.r == 0) && plainL js) := rfl
theorem plainL_nil : plainL [] = true := rfl
theorem isPlain_run {h : Hp} {v : Value} {js : List Job} (hv : Jobs h v js) (hn : js.length ≤ 2 ^ 40) :
    Ret P G n_impl_isPlain [v] h (.bool (plainL js)) h := by
  refine enter_run e_impl_isPlain (by simp) ?_
  obtain ⟨oa, c, rfl⟩ := hv.shapeT
  simp -implicitDefEqProofs
  refine R_loop (fun n s h' => ∃ i : Nat, i + n = js.length ∧ s = [(5, .slice oa js.length c), (6, .int .i64 js.length), (7, .int .i64 i)] ∧ h <+: h' ∧ plainL js = plainL (js.drop i)) (fun n s h' => ?_) ⟨0, Nat.zero_add _, by simp⟩
  rintro ⟨i, hi, rfl, hp, hx⟩
  have hv' := hv.pre hp
  by_cases hlt : i < js.length
  · obtain ⟨y, hy, hd⟩ := drop_at hlt
    rw [hd, plainL_cons] at hx
    simp -implicitDefEqProofs [hlt, jobs_idx hv' hlt, jobs_agg hv' hy]
    refine CB_split (fun h => ?_) (fun h => ?_)
    · simp at h
      simp -implicitDefEqProofs [hx, h, gcB' hp]
    · rw [show (y.r == 0) = true by simpa using h, Bool.true_and] at hx
      simp -implicitDefEqProofs [winc hlt hn]
      exact ⟨n - 1, by omega, i + 1, by omega, rfl, hp.trans (List.prefix_append ..), hx⟩
  · rw [List.drop_eq_nil_of_le (by omega), plainL_nil] at hx
    simp -implicitDefEqProofs [hlt, hx, gcB hp]
theorem jobOk_eq (j : Job) : jobOk j = (inB j.t 1 50 && inB j.w 0 50 && inB j.r 0 500 && inB j.d 0 500) := rfl
theorem IsJobs_run {h : Hp} {v : Value} {js : List Job} (hv : Jobs h v js) (hn : js.length ≤ 2 ^ 40) :
    Ret P G n_impl_IsJobs [v] h (.bool (decide (js.length ≤ 8) && goodL js)) h := by
  refine enter_run e_impl_IsJobs (by simp) ?_
  obtain ⟨oa, c, rfl⟩ := hv.shapeT
  simp -implicitDefEqProofs
  refine CB_split (fun h => ?_) (fun h => ?_)
  · simp at h
    simp -implicitDefEqProofs [show ¬ js.length ≤ 8 by omega]
  · have h8 : js.length ≤ 8 := by simp at h; omega
    simp -implicitDefEqProofs [h8]
    rename_i h0
    refine R_loop (fun n s h' => ∃ i : Nat, i + n = js.length ∧ s = [(8, .slice oa js.length c), (9, .int .i64 js.length), (10, .int .i64 i)] ∧ h0 <+: h' ∧ goodL js = goodL (js.drop i)) (fun n s h' => ?_) ⟨0, Nat.zero_add _, by simp⟩
    rintro ⟨i, hi, rfl, hp, hx⟩
    have hv' := hv.pre hp
    by_cases hlt : i < js.length
    · obtain ⟨y, hy, hd⟩ := drop_at hlt
      rw [hd, goodL_cons, jobOk_eq] at hx
      cases h1 : inB y.t 1 50 <;> cases h2 : inB y.w 0 50 <;> cases h3 : inB y.r 0 500 <;> cases h4 : inB y.d 0 500 <;>
        (rw [h1, h2, h3, h4] at hx; simp -implicitDefEqProofs [hlt, jobs_idx hv' hlt, jobs_agg hv' hy, CL_ret within_run, CL_ret isDate_run, h1, h2, h3, h4, winc hlt hn])
      all_goals first
        | (simp at hx; simp -implicitDefEqProofs [hx, gcB' hp]; done)
        | exact ⟨n - 1, by omega, i + 1, by omega, rfl, hp.trans (List.prefix_append ..), by simpa using hx⟩
    · rw [List.drop_eq_nil_of_le (by omega), goodL_nil] at hx
      simp -implicitDefEqProofs [hlt, hx, gcB hp]
end Go.Pm.PP
