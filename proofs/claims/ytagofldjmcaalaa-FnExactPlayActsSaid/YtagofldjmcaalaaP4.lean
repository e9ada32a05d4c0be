/- The texts Pp1, Pp2, Pp3, Pp4, Pp8, Pp12, Pp9, Pp10, Pp14, Pp16, PdA, Pd1, Pd2, PdB, Pd3, Pd4, Pd5, PdC, Pd6, Pd7, Pd8 of this work: Functions of PriceProof: the small ones. -/
import Derived.Test.YtagofldjmcaalaaF3
import Derived.Test.YtagofldjmcaalaaM2
/- Functions of PriceProof: the small ones. -/
set_option linter.unusedVariables false
set_option linter.unusedSimpArgs false
set_option maxRecDepth 4000
namespace Go.Pm.PP
open Go.Pm Go.Proofs
theorem u3 : (P.underlying 3).map aggD = some false := by kernel_rfl
theorem u24 : P.underlying 24 = some (.slice 3) := by kernel_rfl
theorem u29 : P.underlying 29 = some (.slice 58) := by kernel_rfl
theorem u31 : P.underlying 31 = some (.slice 108) := by kernel_rfl
theorem i3 : (P.info? 3).map (·.size) = some 1 := by kernel_rfl
theorem i58 : (P.info? 58).map (·.size) = some 4 := by kernel_rfl

structure Job where
  t : Int
  w : Int
  r : Int
  d : Int
def encJ (j : Job) : List Value := [.int .i64 j.t, .int .i64 j.w, .int .i64 j.r, .int .i64 j.d]
abbrev jv (j : Job) : Value := .agg #[.int .i64 j.t, .int .i64 j.w, .int .i64 j.r, .int .i64 j.d]
abbrev Jobs (h : Hp) (v : Value) (js : List Job) : Prop := Sees h v 4 (js.map encJ)

def inB (x a b : Int) : Bool := decide (a ≤ x) && decide (x ≤ b)
def hasL (x : Int) (xs : List Int) : Bool := xs.any (· == x)

theorem l1In_run {h : Hp} {x a b : Int} : Ret P G n_spec_l1In [.int .i64 x, .int .i64 a, .int .i64 b] h (.bool (inB x a b)) h := by
  refine enter_run e_spec_l1In (by simp) ?_
  simp -implicitDefEqProofs
  refine WL_split (fun h => ?_) (fun h => ?_) <;> simp [h, inB]
theorem within_run {h : Hp} {x a b : Int} : Ret P G n_impl_within [.int .i64 x, .int .i64 a, .int .i64 b] h (.bool (inB x a b)) h := by
  refine enter_run e_impl_within (by simp) ?_
  simp -implicitDefEqProofs
  refine WL_split (fun h => ?_) (fun h => ?_) <;> simp [h, inB]
theorem isDate_run {h : Hp} {x : Int} : Ret P G n_impl_isDate [.int .i64 x] h (.bool (inB x 0 500)) h := by
  refine enter_run e_impl_isDate (by simp) ?_
  simp -implicitDefEqProofs [CL_ret within_run]
theorem isScale_run {h : Hp} {x : Int} : Ret P G n_impl_isScale [.int .i64 x] h (.bool (inB x 1 1000000)) h := by
  refine enter_run e_impl_isScale (by simp) ?_
  simp -implicitDefEqProofs [CL_ret within_run]
def w64 (n : Int) : Int := IntKind.i64.wrap n
theorem isNumber_run {h : Hp} {i n : Int} : Ret P G n_impl_isNumber [.int .i64 i, .int .i64 n] h (.bool (inB i 0 (w64 (n - 1)))) h := by
  refine enter_run e_impl_isNumber (by simp) ?_
  simp -implicitDefEqProofs [CL_ret within_run, w64]
theorem l1Most_run {h : Hp} {a b : Int} : Ret P G n_spec_l1Most [.int .i64 a, .int .i64 b] h (.int .i64 (if a > b then a else b)) h := by
  refine enter_run e_spec_l1Most (by simp) ?_
  simp -implicitDefEqProofs
  refine CB_split (fun h => ?_) (fun h => ?_) <;> simp at h <;> simp [h] <;> omega
def jobOk (j : Job) : Bool := inB j.t 1 50 && inB j.w 0 50 && inB j.r 0 500 && inB j.d 0 500
theorem l2Job_run {h : Hp} {j : Job} : Ret P G n_spec_l2Job [jv j] h (.bool (jobOk j)) h := by
  refine enter_run e_spec_l2Job (by simp) ?_
  cases h1 : inB j.t 1 50 <;> cases h2 : inB j.w 0 50 <;> cases h3 : inB j.r 0 500 <;> cases h4 : inB j.d 0 500 <;>
    simp -implicitDefEqProofs [CL_ret l1In_run, h1, h2, h3, h4, jobOk]

def goodL (js : List Job) : Bool := js.all jobOk
theorem goodL_cons {j : Job} {js : List Job} : goodL (j :: js) = (jobOk j && goodL js) := rfl
theorem goodL_nil : goodL [] = true := rfl
theorem u58 : (P.underlying 58).map aggD = some true := by kernel_rfl
theorem jobs_agg {h : Hp} {v : Value} {js : List Job} (hv : Jobs h v js) {i : Nat} {j : Job} (hj : js[i]? = some j) :
    loadP P h 58 (.pointer (some (addP (base v) (i * 4)))) = some (jv j) := by
  exact hv.aggT u58 i58 hj
theorem jobs_idx {h : Hp} {v : Value} {js : List Job} (hv : Jobs h v js) {i : Nat} (hi : i < js.length) :
    indexAddrP P h 29 v (.int .i64 i) = some (.pointer (some (addP (base v) (i * 4)))) := by
  have := hv.indexT (P := P) u29 i58 (k := .i64) (j := i) (by omega) (by omega)
  simpa using this
theorem jobs_field {h : Hp} {v : Value} {js : List Job} (hv : Jobs h v js) {i k : Nat} {j : Job} (hj : js[i]? = some j) (hk : k < 4) :
    loadP P h 3 (.pointer (some (addP (addP (base v) (i * 4)) k))) = (encJ j)[k]? := by
  have := hv.cellT (P := P) u3 i3 hj hk
  rw [← this]
  simp only [addP, Nat.add_assoc]
theorem ints_idx {h : Hp} {v : Value} {xs : List Int} (hv : Ints h v xs) {i : Int} (h0 : 0 ≤ i) (hi : i < xs.length) :
    indexAddrP P h 24 v (.int .i64 i) = some (.pointer (some (addP (base v) i.toNat))) := by
  have := hv.indexT (P := P) u24 i3 (k := .i64) h0 hi
  simpa using this
theorem ints_ld {h : Hp} {v : Value} {xs : List Int} (hv : Ints h v xs) {i : Nat} {x : Int} (hx : xs[i]? = some x) :
    loadP P h 3 (.pointer (some (addP (base v) i))) = some (.int .i64 x) := by
  have := hv.cellT (P := P) u3 i3 hx (k := 0) (by omega)
  simpa [encI] using this
theorem winc {i n : Nat} (h : i < n) (hn : n ≤ 2 ^ 40) : IntKind.i64.wrap ((i : Int) + 1) = ((i + 1 : Nat) : Int) := by rw [wrap_ok] <;> omega

theorem l2Good_run {h : Hp} {v : Value} {js : List Job} (hv : Jobs h v js) (hn : js.length ≤ 2 ^ 40) :
    Ret P G n_spec_l2Good [v] h (.bool (goodL js && decide (js.length ≤ 8))) h := by
  refine enter_run e_spec_l2Good (by simp) ?_
  obtain ⟨oa, c, rfl⟩ := hv.shapeT
  simp -implicitDefEqProofs
  refine R_loop (fun n s h' => ∃ i : Nat, i + n = js.length ∧ s = [(0, .slice oa js.length c), (3, .int .i64 i)] ∧ h' = h ∧ goodL js = goodL (js.drop i)) (fun n s h' => ?_) ⟨0, Nat.zero_add _, by simp⟩
  rintro ⟨i, hi, rfl, rfl, hx⟩
  by_cases hlt : i < js.length
  · obtain ⟨y, hy, hd⟩ := drop_at hlt
    rw [hd, goodL_cons] at hx
    simp -implicitDefEqProofs [hlt, jobs_idx hv hlt, jobs_agg hv hy, CL_ret l2Job_run]
    refine CB_split (fun h => ?_) (fun h => ?_)
    · simp at h
      simp -implicitDefEqProofs [hx, h]
    · simp at h
      rw [h, Bool.true_and] at hx
      simp -implicitDefEqProofs [winc hlt hn]
      exact ⟨n - 1, by omega, i + 1, by omega, rfl, hx⟩
  · rw [List.drop_eq_nil_of_le (by omega), goodL_nil] at hx
    simp -implicitDefEqProofs [hlt, hx]
    omega
end Go.Pm.PP

/- Functions of PriceProof: checks of jobs and lists. -/
set_option linter.unusedVariables false
set_option linter.unusedSimpArgs false
set_option maxRecDepth 4000
namespace Go.Pm.PP
open Go.Pm Go.Proofs
def freeL (js : List Job) : Bool := js.all fun j => !decide (j.r > 0)
theorem freeL_cons {j : Job} {js : List Job} : freeL (j :: js) = (!decide (j.r > 0) && freeL js) := rfl
theorem freeL_nil : freeL [] = true := rfl
theorem l4Free_run {h : Hp} {v : Value} {js : List Job} (hv : Jobs h v js) (hn : js.length ≤ 2 ^ 40) :
    Ret P G n_spec_l4Free [v] h (.bool (freeL js)) h := by
  refine enter_run e_spec_l4Free (by simp) ?_
  obtain ⟨oa, c, rfl⟩ := hv.shapeT
  simp -implicitDefEqProofs
  refine R_loop (fun n s h' => ∃ i : Nat, i + n = js.length ∧ s = [(0, .slice oa js.length c), (3, .int .i64 i)] ∧ h' = h ∧ freeL js = freeL (js.drop i)) (fun n s h' => ?_) ⟨0, Nat.zero_add _, by simp⟩
  rintro ⟨i, hi, rfl, rfl, hx⟩
  by_cases hlt : i < js.length
  · obtain ⟨y, hy, hd⟩ := drop_at hlt
    rw [hd, freeL_cons] at hx
    simp -implicitDefEqProofs [hlt, jobs_idx hv hlt, jobs_field hv hy, encJ]
    refine CB_split (fun h => ?_) (fun h => ?_)
    · simp at h
      simp -implicitDefEqProofs [hx, h]
    · simp at h
      rw [show (!decide (y.r > 0)) = true by simpa using h, Bool.true_and] at hx
      simp -implicitDefEqProofs [winc hlt hn]
      exact ⟨n - 1, by omega, i + 1, by omega, rfl, hx⟩
  · rw [List.drop_eq_nil_of_le (by omega), freeL_nil] at hx
    simp -implicitDefEqProofs [hlt, hx]
def l6GoodL (js : List Job) : Bool := goodL js && decide (js.length ≤ 8) && freeL js
theorem l6Good_run {h : Hp} {v : Value} {js : List Job} (hv : Jobs h v js) (hn : js.length ≤ 2 ^ 40) :
    Ret P G n_spec_l6Good [v] h (.bool (l6GoodL js)) h := by
  refine enter_run e_spec_l6Good (by simp) ?_
  cases h1 : (goodL js && decide (js.length ≤ 8)) <;>
    simp -implicitDefEqProofs [CL_ret (l2Good_run hv hn), CL_ret (l4Free_run hv hn), h1, l6GoodL]
theorem hasL_cons {x y : Int} {xs : List Int} : hasL x (y :: xs) = ((y == x) || hasL x xs) := rfl
theorem hasL_nil {x : Int} : hasL x [] = false := rfl
theorem l1Has_run {h : Hp} {v : Value} {xs : List Int} {x : Int} (hv : Ints h v xs) (hn : xs.length ≤ 2 ^ 40) :
    Ret P G n_spec_l1Has [v, .int .i64 x] h (.bool (hasL x xs)) h := by
  refine enter_run e_spec_l1Has (by simp) ?_
  obtain ⟨oa, c, rfl⟩ := hv.shapeT
  simp -implicitDefEqProofs
  refine R_loop (fun n s h' => ∃ i : Nat, i + n = xs.length ∧ s = [(0, .slice oa xs.length c), (1, .int .i64 x), (5, .int .i64 i)] ∧ h' = h ∧ hasL x xs = hasL x (xs.drop i)) (fun n s h' => ?_) ⟨0, Nat.zero_add _, by simp⟩
  rintro ⟨i, hi, rfl, rfl, hx⟩
  by_cases hlt : i < xs.length
  · obtain ⟨y, hy, hd⟩ := drop_at hlt
    rw [hd, hasL_cons] at hx
    simp -implicitDefEqProofs [hlt, ints_idx hv (i := i) (by omega) (by omega), ints_ld hv hy]
    refine CB_split (fun h => ?_) (fun h => ?_)
    · simp -implicitDefEqProofs [hx, h]
    · rw [h, Bool.false_or] at hx
      simp -implicitDefEqProofs [winc hlt hn]
      exact ⟨n - 1, by omega, i + 1, by omega, rfl, hx⟩
  · rw [List.drop_eq_nil_of_le (by omega), hasL_nil] at hx
    simp -implicitDefEqProofs [hlt, hx]
theorem has_run {h : Hp} {v : Value} {xs : List Int} {x : Int} (hv : Ints h v xs) (hn : xs.length ≤ 2 ^ 40) :
    Ret P G n_impl_has [v, .int .i64 x] h (.bool (hasL x xs)) h := by
  refine enter_run e_impl_has (by simp) ?_
  obtain ⟨oa, c, rfl⟩ := hv.shapeT
  simp -implicitDefEqProofs
  refine R_loop (fun n s h' => ∃ i : Nat, i + n = xs.length ∧ s = [(1, .int .i64 x), (7, .slice oa xs.length c), (8, .int .i64 xs.length), (9, .int .i64 i)] ∧ h' = h ∧ hasL x xs = hasL x (xs.drop i)) (fun n s h' => ?_) ⟨0, Nat.zero_add _, by simp⟩
  rintro ⟨i, hi, rfl, rfl, hx⟩
  by_cases hlt : i < xs.length
  · obtain ⟨y, hy, hd⟩ := drop_at hlt
    rw [hd, hasL_cons] at hx
    simp -implicitDefEqProofs [hlt, ints_idx hv (i := i) (by omega) (by omega), ints_ld hv hy]
    refine CB_split (fun h => ?_) (fun h => ?_)
    · simp -implicitDefEqProofs [hx, h]
    · rw [h, Bool.false_or] at hx
      simp -implicitDefEqProofs [winc hlt hn]
      exact ⟨n - 1, by omega, i + 1, by omega, rfl, hx⟩
  · rw [List.drop_eq_nil_of_le (by omega), hasL_nil] at hx
    simp -implicitDefEqProofs [hlt, hx]
def plainL (js : List Job) : Bool := js.all fun j => j.r == 0
theorem plainL_cons {j : Job} {js : List Job} : plainL (j :: js) = ((j.r == 0) && plainL js) := rfl
theorem plainL_nil : plainL [] = true := rfl
theorem isPlain_run {h : Hp} {v : Value} {js : List Job} (hv : Jobs h v js) (hn : js.length ≤ 2 ^ 40) :
    Ret P G n_impl_isPlain [v] h (.bool (plainL js)) h := by
  refine enter_run e_impl_isPlain (by simp) ?_
  obtain ⟨oa, c, rfl⟩ := hv.shapeT
  simp -implicitDefEqProofs
  refine R_loop (fun n s h' => ∃ i : Nat, i + n = js.length ∧ s = [(5, .slice oa js.length c), (6, .int .i64 js.length), (7, .int .i64 i)] ∧ h <+: h' ∧ plainL js = plainL (js.drop i)) (fun n s h' => ?_) ⟨0, Nat.zero_add _, by simp⟩
  rintro ⟨i, hi, rfl, hp, hx⟩
  have hv' := hv.pre hp
  by_cases hlt : i < js.length
  · obtain ⟨y, hy, hd⟩ := drop_at hlt
    rw [hd, plainL_cons] at hx
    simp -implicitDefEqProofs [hlt, jobs_idx hv' hlt, jobs_agg hv' hy]
    refine CB_split (fun h => ?_) (fun h => ?_)
    · simp at h
      simp -implicitDefEqProofs [hx, h, gcB' hp]
    · rw [show (y.r == 0) = true by simpa using h, Bool.true_and] at hx
      simp -implicitDefEqProofs [winc hlt hn]
      exact ⟨n - 1, by omega, i + 1, by omega, rfl, hp.trans (List.prefix_append ..), hx⟩
  · rw [List.drop_eq_nil_of_le (by omega), plainL_nil] at hx
    simp -implicitDefEqProofs [hlt, hx, gcB hp]
theorem jobOk_eq (j : Job) : jobOk j = (inB j.t 1 50 && inB j.w 0 50 && inB j.r 0 500 && inB j.d 0 500) := rfl
theorem IsJobs_run {h : Hp} {v : Value} {js : List Job} (hv : Jobs h v js) (hn : js.length ≤ 2 ^ 40) :
    Ret P G n_impl_IsJobs [v] h (.bool (decide (js.length ≤ 8) && goodL js)) h := by
  refine enter_run e_impl_IsJobs (by simp) ?_
  obtain ⟨oa, c, rfl⟩ := hv.shapeT
  simp -implicitDefEqProofs
  refine CB_split (fun h => ?_) (fun h => ?_)
  · simp at h
    simp -implicitDefEqProofs [show ¬ js.length ≤ 8 by omega]
  · have h8 : js.length ≤ 8 := by simp at h; omega
    simp -implicitDefEqProofs [h8]
    rename_i h0
    refine R_loop (fun n s h' => ∃ i : Nat, i + n = js.length ∧ s = [(8, .slice oa js.length c), (9, .int .i64 js.length), (10, .int .i64 i)] ∧ h0 <+: h' ∧ goodL js = goodL (js.drop i)) (fun n s h' => ?_) ⟨0, Nat.zero_add _, by simp⟩
    rintro ⟨i, hi, rfl, hp, hx⟩
    have hv' := hv.pre hp
    by_cases hlt : i < js.length
    · obtain ⟨y, hy, hd⟩ := drop_at hlt
      rw [hd, goodL_cons, jobOk_eq] at hx
      cases h1 : inB y.t 1 50 <;> cases h2 : inB y.w 0 50 <;> cases h3 : inB y.r 0 500 <;> cases h4 : inB y.d 0 500 <;>
        (rw [h1, h2, h3, h4] at hx; simp -implicitDefEqProofs [hlt, jobs_idx hv' hlt, jobs_agg hv' hy, CL_ret within_run, CL_ret isDate_run, h1, h2, h3, h4, winc hlt hn])
      all_goals first
        | (simp at hx; simp -implicitDefEqProofs [hx, gcB' hp]; done)
        | exact ⟨n - 1, by omega, i + 1, by omega, rfl, hp.trans (List.prefix_append ..), by simpa using hx⟩
    · rw [List.drop_eq_nil_of_le (by omega), goodL_nil] at hx
      simp -implicitDefEqProofs [hlt, hx, gcB hp]
end Go.Pm.PP

/- Functions of PriceProof: sets and orders. -/
set_option linter.unusedVariables false
set_option linter.unusedSimpArgs false
set_option maxRecDepth 4000
namespace Go.Pm.PP
open Go.Pm Go.Proofs
theorem IsPlain_run {h : Hp} {v : Value} {js : List Job} (hv : Jobs h v js) (hn : js.length ≤ 2 ^ 40) :
    Ret P G n_impl_IsPlain [v] h (.bool (decide (js.length ≤ 8) && goodL js && plainL js)) h := by
  refine enter_run e_impl_IsPlain (by simp) ?_
  cases h1 : (decide (js.length ≤ 8) && goodL js) <;>
    simp -implicitDefEqProofs [CL_ret (IsJobs_run hv hn), CL_ret (isPlain_run hv hn), h1]
theorem ints_pre {h : Hp} {v : Value} {xs : List Int} (hv : Ints h v xs) {i : Nat} (hi : i ≤ xs.length) :
    ∃ v', sliceP P h 24 v none (some (.int .i64 i)) = some v' ∧ Ints h v' (xs.take i) := by
  obtain ⟨v', h1, h2⟩ := hv.front (P := P) u24 i3 (k := .i64) (j := i) (by omega) (by simp; omega)
  exact ⟨v', h1, by simpa [Ints, List.map_take] using h2⟩
def diffL (n : Int) : List Int → List Int → Bool
  | _, [] => true
  | pre, x :: r => inB x 0 (w64 (n - 1)) && !hasL x pre && diffL n (pre ++ [x]) r
theorem take_succ' {α : Type} {xs : List α} {i : Nat} {x : α} (h : xs[i]? = some x) : xs.take (i + 1) = xs.take i ++ [x] := by
  rw [List.take_add_one, h]; rfl
theorem areDifferent_run {h : Hp} {v : Value} {xs : List Int} {n : Int} (hv : Ints h v xs) (hn : xs.length ≤ 2 ^ 40) :
    Ret P G n_impl_areDifferent [.int .i64 n, v] h (.bool (diffL n [] xs)) h := by
  refine enter_run e_impl_areDifferent (by simp) ?_
  obtain ⟨oa, c, rfl⟩ := hv.shapeT
  simp -implicitDefEqProofs
  refine R_loop (fun m s h' => ∃ i : Nat, i + m = xs.length ∧ s = [(0, .int .i64 n), (1, .slice oa xs.length c), (7, .slice oa xs.length c), (8, .int .i64 xs.length), (9, .int .i64 i)] ∧ h' = h ∧ diffL n [] xs = diffL n (xs.take i) (xs.drop i)) (fun m s h' => ?_) ⟨0, Nat.zero_add _, by simp⟩
  rintro ⟨i, hi, rfl, rfl, hx⟩
  by_cases hlt : i < xs.length
  · obtain ⟨y, hy, hd⟩ := drop_at hlt
    rw [hd, diffL, ← take_succ' hy] at hx
    obtain ⟨v', hs, hv'⟩ := ints_pre hv (i := i) (by omega)
    have hn' : (xs.take i).length ≤ 2 ^ 40 := by simp; omega
    cases h1 : inB y 0 (w64 (n - 1)) <;> cases h2 : hasL y (xs.take i) <;>
      (rw [h1, h2] at hx; simp -implicitDefEqProofs [hlt, ints_idx hv (i := i) (by omega) (by omega), ints_ld hv hy, hs, CL_ret isNumber_run, CL_ret (has_run hv' hn'), h1, h2, winc hlt hn])
    all_goals first
      | (simp at hx; simp -implicitDefEqProofs [hx]; done)
      | exact ⟨m - 1, by omega, i + 1, by omega, rfl, by simpa using hx⟩
  · rw [List.drop_eq_nil_of_le (by omega), diffL] at hx
    simp -implicitDefEqProofs [hlt, hx]
theorem isOrder_run {h : Hp} {v : Value} {xs : List Int} {n : Int} (hv : Ints h v xs) (hn : xs.length ≤ 2 ^ 40) :
    Ret P G n_impl_isOrder [.int .i64 n, v] h (.bool (((xs.length : Int) == n) && diffL n [] xs)) h := by
  refine enter_run e_impl_isOrder (by simp) ?_
  obtain ⟨oa, c, rfl⟩ := hv.shapeT
  cases h1 : ((xs.length : Int) == n) <;>
    simp -implicitDefEqProofs [CL_ret (areDifferent_run hv hn), h1]
def risingL : List Int → Bool
  | a :: b :: r => !decide (a ≥ b) && risingL (b :: r)
  | _ => true
theorem isRising_run {h : Hp} {v : Value} {xs : List Int} (hv : Ints h v xs) (hn : xs.length ≤ 2 ^ 40) :
    Ret P G n_impl_isRising [v] h (.bool (risingL xs)) h := by
  refine enter_run e_impl_isRising (by simp) ?_
  obtain ⟨oa, c, rfl⟩ := hv.shapeT
  simp -implicitDefEqProofs
  refine R_loop (fun m s h' => ∃ i : Nat, i + m = xs.length ∧ s = [(0, .slice oa xs.length c), (3, .int .i64 ((i : Int) + 1))] ∧ h' = h ∧ risingL xs = risingL (xs.drop i)) (fun m s h' => ?_) ⟨0, Nat.zero_add _, by simp⟩
  rintro ⟨i, hi, rfl, rfl, hx⟩
  by_cases hlt : i + 1 < xs.length
  · obtain ⟨y, hy, hd⟩ := drop_at (show i < xs.length by omega)
    obtain ⟨z, hz, hd2⟩ := drop_at hlt
    rw [hd, hd2, risingL, ← hd2] at hx
    have tn : ((i : Int) + 1).toNat = i + 1 := by omega
    have i2 := ints_idx hv (i := (i : Int) + 1) (by omega) (by omega)
    rw [tn] at i2
    have w0 : IntKind.i64.wrap (i : Int) = i := by rw [wrap_ok] <;> omega
    have w1 : IntKind.i64.wrap ((i : Int) + 1 - 1) = i := by rw [wrap_ok] <;> omega
    have w2 : IntKind.i64.wrap ((i : Int) + 1 + 1) = (i : Int) + 1 + 1 := by rw [wrap_ok] <;> omega
    cases h1 : decide (y ≥ z) <;>
      (rw [h1] at hx; simp -implicitDefEqProofs [show (i : Int) + 1 < xs.length by omega, w0, w1, w2, ints_idx hv (i := i) (by omega) (by omega), i2, ints_ld hv hy, ints_ld hv hz, h1])
    · exact ⟨m - 1, by omega, i + 1, by omega, by omega, by simpa using hx⟩
    · simpa using hx
  · have hr : risingL (xs.drop i) = true := by
      have : (xs.drop i).length ≤ 1 := by simp; omega
      match xs.drop i, this with
      | [], _ => rfl
      | [_], _ => rfl
    simp -implicitDefEqProofs [show ¬ (i : Int) + 1 < xs.length by omega, hx, hr]
theorem isSet_run {h : Hp} {v : Value} {xs : List Int} {n : Int} (hv : Ints h v xs) (hn : xs.length ≤ 2 ^ 40) :
    Ret P G n_impl_isSet [.int .i64 n, v] h (.bool (risingL xs && diffL n [] xs)) h := by
  refine enter_run e_impl_isSet (by simp) ?_
  cases h1 : risingL xs <;>
    simp -implicitDefEqProofs [CL_ret (areDifferent_run hv hn), CL_ret (isRising_run hv hn), h1]
/-- spec.l1Rising -/
def upL (lo hi : Int) : List Int → Option Int → Bool
  | [], _ => true
  | x :: r, p => inB x lo hi && (match p with | some a => !decide (a ≥ x) | none => true) && upL lo hi r (some x)
theorem upL_nil {lo hi : Int} {p : Option Int} : upL lo hi [] p = true := rfl
theorem upL_cons0 {lo hi x : Int} {r : List Int} : upL lo hi (x :: r) none = (inB x lo hi && true && upL lo hi r (some x)) := rfl
theorem upL_cons1 {lo hi x a : Int} {r : List Int} : upL lo hi (x :: r) (some a) = (inB x lo hi && (!decide (a ≥ x)) && upL lo hi r (some x)) := rfl
theorem l1Rising_run {h : Hp} {v : Value} {xs : List Int} {lo hi : Int} (hv : Ints h v xs) (hn : xs.length ≤ 2 ^ 40) :
    Ret P G n_spec_l1Rising [v, .int .i64 lo, .int .i64 hi] h (.bool (upL lo hi xs none)) h := by
  refine enter_run e_spec_l1Rising (by simp) ?_
  obtain ⟨oa, c, rfl⟩ := hv.shapeT
  simp -implicitDefEqProofs
  refine R_loop (fun m s h' => ∃ i : Nat, i + m = xs.length ∧ s = [(0, .slice oa xs.length c), (1, .int .i64 lo), (2, .int .i64 hi), (7, .int .i64 i)] ∧ h' = h ∧ upL lo hi xs none = upL lo hi (xs.drop i) (if i = 0 then none else xs[i - 1]?)) (fun m s h' => ?_) ⟨0, Nat.zero_add _, by simp⟩
  rintro ⟨i, hi', rfl, rfl, hx⟩
  by_cases hlt : i < xs.length
  · obtain ⟨y, hy, hd⟩ := drop_at hlt
    rw [hd] at hx
    have next : upL lo hi (xs.drop (i + 1)) (some y) = upL lo hi (xs.drop (i + 1)) (if i + 1 = 0 then none else xs[i + 1 - 1]?) := by simp [hy]
    by_cases h0 : i = 0
    · subst h0
      rw [if_pos rfl, upL_cons0, next] at hx
      have i0 := ints_idx hv (i := 0) (by omega) (by omega)
      have w0 : IntKind.i64.wrap 1 = 1 := by rw [wrap_ok] <;> omega
      cases h1 : inB y lo hi <;>
        (rw [h1] at hx; simp -implicitDefEqProofs [show 0 < xs.length from hlt, i0, ints_ld hv hy, CH_ret l1In_run, CL_ret l1In_run, h1, w0])
      all_goals first
        | (simp at hx; simp -implicitDefEqProofs [hx]; done)
        | exact ⟨m - 1, by omega, 1, by omega, by omega, by simpa using hx⟩
    · obtain ⟨k, rfl⟩ : ∃ k, i = k + 1 := ⟨i - 1, by omega⟩
      obtain ⟨z, hz, _⟩ := drop_at (show k < xs.length by omega)
      rw [if_neg h0, Nat.add_sub_cancel, hz, upL_cons1, next] at hx
      have i0 := ints_idx hv (i := k) (by omega) (by omega)
      have i1 := ints_idx hv (i := (k : Int) + 1) (by omega) (by omega)
      rw [show ((k : Int) + 1).toNat = k + 1 by omega] at i1
      have w0 : IntKind.i64.wrap (k : Int) = k := by rw [wrap_ok] <;> omega
      have w1 : IntKind.i64.wrap ((k : Int) + 1 - 1) = k := by rw [wrap_ok] <;> omega
      have w2 : IntKind.i64.wrap ((k : Int) + 1 + 1) = (k : Int) + 1 + 1 := by rw [wrap_ok] <;> omega
      cases h1 : inB y lo hi <;> cases h2 : decide (z ≥ y) <;>
        (rw [h1, h2] at hx; simp -implicitDefEqProofs [show (k : Int) + 1 < xs.length by omega, show (0 : Int) < (k : Int) + 1 by omega, i0, i1, w0, w1, w2, ints_ld hv hy, ints_ld hv hz, CH_ret l1In_run, CL_ret l1In_run, h1, h2])
      all_goals first
        | (simp at hx; simp -implicitDefEqProofs [hx]; done)
        | exact ⟨m - 1, by omega, k + 1 + 1, by omega, by omega, by simpa using hx⟩
  · rw [List.drop_eq_nil_of_le (by omega), upL_nil] at hx
    simp -implicitDefEqProofs [hlt, hx]
theorem l6Set_run {h : Hp} {v vs : Value} {js : List Job} {xs : List Int} (hj : Jobs h v js) (hv : Ints h vs xs) (hn : xs.length ≤ 2 ^ 40) (hjn : js.length ≤ 2 ^ 40) :
    Ret P G n_spec_l6Set [v, vs] h (.bool (upL 0 ((js.length : Int) - 1) xs none)) h := by
  refine enter_run e_spec_l6Set (by simp) ?_
  obtain ⟨oa, c, rfl⟩ := hj.shapeT
  have w : IntKind.i64.wrap ((js.length : Int) - 1) = (js.length : Int) - 1 := by rw [wrap_ok] <;> omega
  simp -implicitDefEqProofs [w, CL_ret (l1Rising_run hv hn)]
end Go.Pm.PP

/- Functions of PriceProof: comparing lists; orders. -/
set_option linter.unusedVariables false
set_option linter.unusedSimpArgs false
set_option maxRecDepth 4000
namespace Go.Pm.PP
open Go.Pm Go.Proofs
def cmpL : List Int → List Int → Int
  | x :: xs, y :: ys => if x != y then w64 (x - y) else cmpL xs ys
  | xs, ys => (xs.length : Int) - ys.length
theorem cmpL_cons {x y : Int} {xs ys : List Int} : cmpL (x :: xs) (y :: ys) = if x != y then w64 (x - y) else cmpL xs ys := rfl
theorem cmpL_end {xs ys : List Int} (h : xs = [] ∨ ys = []) : cmpL xs ys = (xs.length : Int) - ys.length := by
  cases xs with
  | nil => rfl
  | cons x xs => cases ys with
    | nil => rfl
    | cons y ys => simp at h
theorem compareLists_run {h : Hp} {v u : Value} {xs ys : List Int} (hv : Ints h v xs) (hu : Ints h u ys) (hn : xs.length ≤ 2 ^ 40) (hm : ys.length ≤ 2 ^ 40) :
    Ret P G n_impl_compareLists [v, u] h (.int .i64 (cmpL xs ys)) h := by
  refine enter_run e_impl_compareLists (by simp) ?_
  obtain ⟨oa, c, rfl⟩ := hv.shapeT
  obtain ⟨ob, d, rfl⟩ := hu.shapeT
  simp -implicitDefEqProofs
  refine R_loop (fun m s h' => ∃ i : Nat, i ≤ xs.length ∧ i ≤ ys.length ∧ i + m = xs.length ∧ s = [(0, .slice oa xs.length c), (1, .slice ob ys.length d), (5, .int .i64 i)] ∧ h' = h ∧ cmpL xs ys = cmpL (xs.drop i) (ys.drop i)) (fun m s h' => ?_) ⟨0, Nat.zero_le _, Nat.zero_le _, Nat.zero_add _, by simp⟩
  rintro ⟨i, hi1, hi2, hi, rfl, rfl, hx⟩
  have fin : (i = xs.length ∨ i = ys.length) → cmpL xs ys = (xs.length : Int) - ys.length := by
    intro he
    rw [hx, cmpL_end (he.imp (fun e => List.drop_eq_nil_of_le (by omega)) (fun e => List.drop_eq_nil_of_le (by omega)))]
    simp
    omega
  have w : IntKind.i64.wrap ((xs.length : Int) - ys.length) = (xs.length : Int) - ys.length := by rw [wrap_ok] <;> omega
  by_cases hlt : i < xs.length
  · obtain ⟨y, hy, hd⟩ := drop_at hlt
    by_cases hlt2 : i < ys.length
    · obtain ⟨z, hz, hd2⟩ := drop_at hlt2
      rw [hd, hd2, cmpL_cons] at hx
      have w0 : IntKind.i64.wrap (i + 1) = ((i : Int) + 1) := by rw [wrap_ok] <;> omega
      cases h1 : y != z <;>
        (rw [h1] at hx; simp -implicitDefEqProofs [hlt, hlt2, ints_idx hv (i := i) (by omega) (by omega), ints_idx hu (i := i) (by omega) (by omega), ints_ld hv hy, ints_ld hu hz, h1, w0])
      all_goals first
        | (simp at hx; simp -implicitDefEqProofs [hx, w64]; done)
        | exact ⟨m - 1, by omega, i + 1, by omega, by omega, by omega, by omega, by simpa using hx⟩
    · simp -implicitDefEqProofs [hlt, hlt2, fin (by omega), w]
  · simp -implicitDefEqProofs [hlt, fin (by omega), w]
def lessL : List Int → List Int → Bool
  | x :: xs, y :: ys => if x != y then decide (x < y) else lessL xs ys
  | _, _ => false
theorem lessL_cons {x y : Int} {xs ys : List Int} : lessL (x :: xs) (y :: ys) = if x != y then decide (x < y) else lessL xs ys := rfl
theorem lessL_nil {ys : List Int} : lessL [] ys = false := by cases ys <;> rfl
def l4LessL (xs ys : List Int) : Bool := if (xs.length : Int) != ys.length then decide ((xs.length : Int) < ys.length) else lessL xs ys
theorem l4Less_run {h : Hp} {v u : Value} {xs ys : List Int} (hv : Ints h v xs) (hu : Ints h u ys) (hn : xs.length ≤ 2 ^ 40) (hm : ys.length ≤ 2 ^ 40) :
    Ret P G n_spec_l4Less [v, u] h (.bool (l4LessL xs ys)) h := by
  refine enter_run e_spec_l4Less (by simp) ?_
  obtain ⟨oa, c, rfl⟩ := hv.shapeT
  obtain ⟨ob, d, rfl⟩ := hu.shapeT
  cases h0 : (xs.length : Int) != ys.length
  · simp -implicitDefEqProofs [h0, l4LessL]
    simp at h0
    refine R_loop (fun m s h' => ∃ i : Nat, i + m = xs.length ∧ s = [(0, .slice oa xs.length c), (1, .slice ob ys.length d), (5, .int .i64 i)] ∧ h' = h ∧ lessL xs ys = lessL (xs.drop i) (ys.drop i)) (fun m s h' => ?_) ⟨0, Nat.zero_add _, by simp⟩
    rintro ⟨i, hi, rfl, rfl, hx⟩
    by_cases hlt : i < xs.length
    · obtain ⟨y, hy, hd⟩ := drop_at hlt
      obtain ⟨z, hz, hd2⟩ := drop_at (show i < ys.length by omega)
      rw [hd, hd2, lessL_cons] at hx
      have w0 : IntKind.i64.wrap (i + 1) = ((i : Int) + 1) := by rw [wrap_ok] <;> omega
      cases h1 : y != z <;>
        (rw [h1] at hx; simp -implicitDefEqProofs [hlt, ints_idx hv (i := i) (by omega) (by omega), ints_idx hu (i := i) (by omega) (by omega), ints_ld hv hy, ints_ld hu hz, h1, w0])
      all_goals first
        | (simp at hx; simp -implicitDefEqProofs [hx]; done)
        | exact ⟨m - 1, by omega, i + 1, by omega, by omega, by simpa using hx⟩
    · rw [List.drop_eq_nil_of_le (by omega), lessL_nil] at hx
      simp -implicitDefEqProofs [hlt, hx]
  · simp -implicitDefEqProofs [h0, l4LessL]
def allIn (xs : List Int) (n : Nat) : Bool := (List.range n).all fun i => hasL i xs
theorem allIn_false {xs : List Int} {n i : Nat} (hi : i < n) (h : hasL i xs = false) : allIn xs n = false := by
  cases hc : allIn xs n with
  | false => rfl
  | true => have := List.all_eq_true.1 hc i (List.mem_range.2 hi); rw [h] at this; cases this
def l2OrderL (n : Int) (xs : List Int) : Bool := inB n 0 8 && ((xs.length : Int) == n) && allIn xs xs.length
theorem l2Order_run {h : Hp} {v : Value} {xs : List Int} {n : Int} (hv : Ints h v xs) (hn : xs.length ≤ 2 ^ 40) :
    Ret P G n_spec_l2Order [.int .i64 n, v] h (.bool (l2OrderL n xs)) h := by
  refine enter_run e_spec_l2Order (by simp) ?_
  obtain ⟨oa, c, rfl⟩ := hv.shapeT
  cases h1 : inB n 0 8
  · simp -implicitDefEqProofs [CL_ret l1In_run, h1, l2OrderL]
  · by_cases h2 : (xs.length : Int) = n
    · subst h2
      simp -implicitDefEqProofs [CL_ret l1In_run, h1, l2OrderL]
      refine R_loop (fun m s h' => ∃ i : Nat, i + m = xs.length ∧ s = [(0, .int .i64 xs.length), (1, .slice oa xs.length c), (5, .int .i64 i)] ∧ h' = h ∧ ∀ j : Nat, j < i → hasL j xs = true) (fun m s h' => ?_) ⟨0, Nat.zero_add _, by simp⟩
      rintro ⟨i, hi, rfl, rfl, hx⟩
      by_cases hlt : i < xs.length
      · have w0 : IntKind.i64.wrap (i + 1) = ((i : Int) + 1) := by rw [wrap_ok] <;> omega
        cases h3 : hasL i xs
        · simp -implicitDefEqProofs [hlt, CL_ret (l1Has_run hv hn), h3, allIn_false hlt h3]
        · simp -implicitDefEqProofs [hlt, CL_ret (l1Has_run hv hn), h3, w0]
          refine ⟨m - 1, by omega, i + 1, by omega, by omega, fun j hj => ?_⟩
          by_cases hji : j = i
          · subst hji; exact h3
          · exact hx j (by omega)
      · have : allIn xs xs.length = true := List.all_eq_true.2 fun j hj => hx j (by have := List.mem_range.1 hj; omega)
        simp -implicitDefEqProofs [hlt, this]
    · have h3 : ((xs.length : Int) == n) = false := by simpa using h2
      have h4 : ((xs.length : Int) != n) = true := by simpa using h2
      simp -implicitDefEqProofs [CL_ret l1In_run, h1, l2OrderL, h3, h4]
structure SP where
  v : Value
  s : List Int
  p : Int
def encS (x : SP) : List Value := [x.v, .int .i64 x.p]
structure Prices (h : Hp) (v : Value) (ps : List SP) : Prop where
  sees : Sees h v 2 (ps.map encS)
  set : ∀ x ∈ ps, Ints h x.v x.s ∧ x.s.length ≤ 2 ^ 40
theorem Prices.pre {h h' : Hp} {v : Value} {ps : List SP} (hv : Prices h v ps) (hp : h <+: h') : Prices h' v ps := ⟨hv.sees.pre hp, fun x hx => ⟨(hv.set x hx).1.pre hp, (hv.set x hx).2⟩⟩
theorem u108 : (P.underlying 108).map aggD = some true := by kernel_rfl
theorem u24a : (P.underlying 24).map aggD = some false := by kernel_rfl
theorem i108 : (P.info? 108).map (·.size) = some 2 := by kernel_rfl
theorem i24 : (P.info? 24).map (·.size) = some 1 := by kernel_rfl
theorem one_of {h : Hp} {v : Value} {xs : List Int} (hv : Ints h v xs) : one v = true := by obtain ⟨oa, c, rfl⟩ := hv.shapeT; rfl
theorem prices_idx {h : Hp} {v : Value} {ps : List SP} (hv : Prices h v ps) {i : Int} (h0 : 0 ≤ i) (hi : i < ps.length) :
    indexAddrP P h 31 v (.int .i64 i) = some (.pointer (some (addP (base v) (i.toNat * 2)))) := hv.sees.indexT (P := P) u31 i108 (k := .i64) h0 hi
theorem prices_agg {h : Hp} {v : Value} {ps : List SP} (hv : Prices h v ps) {i : Nat} {x : SP} (hx : ps[i]? = some x) :
    loadP P h 108 (.pointer (some (addP (base v) (i * 2)))) = some (.agg #[x.v, .int .i64 x.p]) := hv.sees.aggT u108 i108 hx
theorem prices_set {h : Hp} {v : Value} {ps : List SP} (hv : Prices h v ps) {i : Nat} {x : SP} (hx : ps[i]? = some x) :
    loadP P h 24 (.pointer (some (addP (addP (base v) (i * 2)) 0))) = some x.v := by
  have := hv.sees.cellT (P := P) u24a i24 hx (k := 0) (by omega)
  simpa [addP, encS] using this
theorem prices_price {h : Hp} {v : Value} {ps : List SP} (hv : Prices h v ps) {i : Nat} {x : SP} (hx : ps[i]? = some x) :
    loadP P h 3 (.pointer (some (addP (addP (base v) (i * 2)) 1))) = some (.int .i64 x.p) := by
  have := hv.sees.cellT (P := P) u3 i3 hx (k := 1) (by omega)
  simpa [addP, encS, Nat.add_assoc] using this
end Go.Pm.PP

/- Functions of PriceProof: demand and yield. -/
set_option linter.unusedVariables false
set_option linter.unusedSimpArgs false
set_option maxRecDepth 4000
set_option maxHeartbeats 4000000
namespace Go.Pm.PP
open Go.Pm Go.Proofs
theorem CHr {N : Nat} {K : GI} {Q : Ex → St → Prop} {k : Kont} {ops : Array Oper} {l tl : List Oper} {d : Option Tmp} {s : Slots} {h h1 : Hp} {g : FuncId} {args : List Value} {v : Value} (r : Ret P G g args h v h1) :
    CH P G N K Q g args d ops l tl ⟨s, h⟩ k = (newOk h h1 ∧ RH P G N K Q ops l tl ⟨put s d v, h1⟩ k) := CH_ret (st := ⟨s, h⟩) r
def inside (n : Nat) (xs : List Int) : Prop := ∀ x ∈ xs, 0 ≤ x ∧ x < n
def jobAt (js : List Job) (i : Int) : Job := js.getD i.toNat ⟨0, 0, 0, 0⟩
theorem jobAt_some {js : List Job} {i : Int} (h0 : 0 ≤ i) (h1 : i < js.length) : js[i.toNat]? = some (jobAt js i) := by
  unfold jobAt
  rw [List.getD_eq_getElem?_getD, List.getElem?_eq_getElem (by omega)]
  rfl
theorem jobs_idxI {h : Hp} {v : Value} {js : List Job} (hv : Jobs h v js) {i : Int} (h0 : 0 ≤ i) (hi : i < js.length) :
    indexAddrP P h 29 v (.int .i64 i) = some (.pointer (some (addP (base v) (i.toNat * 4)))) := hv.indexT (P := P) u29 i58 (k := .i64) h0 hi
def demGo (js : List Job) : List Int → Int → Int → Int × Int
  | [], a, b => (a, b)
  | i :: r, a, b => demGo js r (w64 (a + (jobAt js i).t)) (w64 (b + w64 ((jobAt js i).t * (jobAt js i).t)))
theorem demGo_cons {js : List Job} {i a b : Int} {r : List Int} : demGo js (i :: r) a b = demGo js r (w64 (a + (jobAt js i).t)) (w64 (b + w64 ((jobAt js i).t * (jobAt js i).t))) := rfl
def demL (js : List Job) (xs : List Int) : Int := w64 ((w64 (w64 ((demGo js xs 0 0).1 * (demGo js xs 0 0).1) + (demGo js xs 0 0).2)).tdiv 2)
theorem l10Demand_run {h : Hp} {v u : Value} {js : List Job} {xs : List Int} (hj : Jobs h v js) (hv : Ints h u xs) (hn : xs.length ≤ 2 ^ 40) (hin : inside js.length xs) :
    Ret P G n_spec_l10Demand [v, u] h (.int .i64 (demL js xs)) h := by
  refine enter_run e_spec_l10Demand (by simp) ?_
  obtain ⟨oj, cj, rfl⟩ := hj.shapeT
  obtain ⟨oa, c, rfl⟩ := hv.shapeT
  simp -implicitDefEqProofs
  refine R_loop (fun m s h' => ∃ (i : Nat) (a b : Int), i + m = xs.length ∧ s = [(0, .slice oj js.length cj), (1, .slice oa xs.length c), (5, .int .i64 a), (6, .int .i64 b), (7, .int .i64 i)] ∧ h' = h ∧ demGo js xs 0 0 = demGo js (xs.drop i) a b) (fun m s h' => ?_) ⟨0, 0, 0, Nat.zero_add _, by simp, rfl, rfl⟩
  rintro ⟨i, a, b, hi, rfl, rfl, hx⟩
  by_cases hlt : i < xs.length
  · obtain ⟨y, hy, hd⟩ := drop_at hlt
    rw [hd, demGo_cons] at hx
    obtain ⟨y0, y1⟩ := hin y (List.mem_of_getElem? hy)
    have hjy := jobAt_some y0 y1
    have w0 : IntKind.i64.wrap (i + 1) = ((i : Int) + 1) := by rw [wrap_ok] <;> omega
    simp -implicitDefEqProofs [hlt, ints_idx hv (i := i) (by omega) (by omega), ints_ld hv hy, jobs_idxI hj y0 y1, jobs_field hj hjy, encJ, w0]
    exact ⟨m - 1, by omega, i + 1, by omega, _, _, ⟨rfl, rfl, by omega⟩, by simpa [w64] using hx⟩
  · rw [List.drop_eq_nil_of_le (by omega), demGo] at hx
    simp -implicitDefEqProofs [hlt, demL, hx, w64]
theorem demandOf_run {h : Hp} {v u : Value} {js : List Job} {xs : List Int} (hj : Jobs h v js) (hv : Ints h u xs) (hn : xs.length ≤ 2 ^ 40) (hin : inside js.length xs) :
    Ret P G n_impl_demandOf [v, u] h (.int .i64 (demL js xs)) h := by
  refine enter_run e_impl_demandOf (by simp) ?_
  obtain ⟨oj, cj, rfl⟩ := hj.shapeT
  obtain ⟨oa, c, rfl⟩ := hv.shapeT
  simp -implicitDefEqProofs
  refine R_loop (fun m s h' => ∃ (i : Nat) (a b : Int), i + m = xs.length ∧ s = [(0, .slice oj js.length cj), (5, .int .i64 a), (6, .int .i64 b), (9, .slice oa xs.length c), (10, .int .i64 xs.length), (11, .int .i64 i)] ∧ h' = h ∧ demGo js xs 0 0 = demGo js (xs.drop i) a b) (fun m s h' => ?_) ⟨0, 0, 0, Nat.zero_add _, by simp, rfl, rfl⟩
  rintro ⟨i, a, b, hi, rfl, rfl, hx⟩
  by_cases hlt : i < xs.length
  · obtain ⟨y, hy, hd⟩ := drop_at hlt
    rw [hd, demGo_cons] at hx
    obtain ⟨y0, y1⟩ := hin y (List.mem_of_getElem? hy)
    have hjy := jobAt_some y0 y1
    have w0 : IntKind.i64.wrap (i + 1) = ((i : Int) + 1) := by rw [wrap_ok] <;> omega
    simp -implicitDefEqProofs [hlt, ints_idx hv (i := i) (by omega) (by omega), ints_ld hv hy, jobs_idxI hj y0 y1, jobs_field hj hjy, encJ, w0]
    exact ⟨m - 1, by omega, i + 1, by omega, _, _, ⟨rfl, rfl, by omega⟩, by simpa [w64] using hx⟩
  · rw [List.drop_eq_nil_of_le (by omega), demGo] at hx
    simp -implicitDefEqProofs [hlt, demL, hx, w64]
def yieldGo (js : List Job) : List SP → Int → Int
  | [], a => a
  | x :: r, a => yieldGo js r (w64 (a + w64 (x.p * demL js x.s)))
theorem yieldGo_cons {js : List Job} {x : SP} {r : List SP} {a : Int} : yieldGo js (x :: r) a = yieldGo js r (w64 (a + w64 (x.p * demL js x.s))) := rfl
theorem l10Yield_run {h : Hp} {v vp : Value} {js : List Job} {ps : List SP} (hj : Jobs h v js) (hv : Prices h vp ps) (hn : ps.length ≤ 2 ^ 40) (hin : ∀ x ∈ ps, inside js.length x.s) :
    Ret P G n_spec_l10Yield [v, vp] h (.int .i64 (yieldGo js ps 0)) h := by
  refine enter_run e_spec_l10Yield (by simp) ?_
  obtain ⟨oj, cj, rfl⟩ := hj.shapeT
  obtain ⟨oa, c, rfl⟩ := hv.sees.shapeT
  simp -implicitDefEqProofs
  refine R_loop (fun m s h' => ∃ (i : Nat) (a : Int), i + m = ps.length ∧ s = [(0, .slice oj js.length cj), (1, .slice oa ps.length c), (5, .int .i64 a), (6, .int .i64 i)] ∧ h' = h ∧ yieldGo js ps 0 = yieldGo js (ps.drop i) a) (fun m s h' => ?_) ⟨0, 0, Nat.zero_add _, by simp, rfl, rfl⟩
  rintro ⟨i, a, hi, rfl, rfl, hx⟩
  by_cases hlt : i < ps.length
  · obtain ⟨x, hy, hd⟩ := drop_at hlt
    rw [hd, yieldGo_cons] at hx
    have hx2 := hin x (List.mem_of_getElem? hy)
    obtain ⟨xv, xl, xp⟩ := x
    obtain ⟨xs, xn⟩ : Ints h' xv xl ∧ xl.length ≤ 2 ^ 40 := hv.set _ (List.mem_of_getElem? hy)
    have i0 := prices_idx hv (i := i) (by omega) (by omega)
    rw [show (i : Int).toNat = i by omega] at i0
    have w0 : IntKind.i64.wrap (i + 1) = ((i : Int) + 1) := by rw [wrap_ok] <;> omega
    simp -implicitDefEqProofs [hlt, i0, prices_set hv hy, prices_price hv hy, CHr (l10Demand_run hj xs xn hx2), CL_ret (l10Demand_run hj xs xn hx2), w0]
    exact ⟨m - 1, by omega, i + 1, by omega, _, ⟨rfl, by omega⟩, by simpa [w64] using hx⟩
  · rw [List.drop_eq_nil_of_le (by omega), yieldGo] at hx
    simp -implicitDefEqProofs [hlt, hx]
theorem yieldOf_run {h : Hp} {v vp : Value} {js : List Job} {ps : List SP} (hj : Jobs h v js) (hv : Prices h vp ps) (hn : ps.length ≤ 2 ^ 40) (hin : ∀ x ∈ ps, inside js.length x.s) :
    Ret P G n_impl_yieldOf [v, vp] h (.int .i64 (yieldGo js ps 0)) h := by
  refine enter_run e_impl_yieldOf (by simp) ?_
  obtain ⟨oj, cj, rfl⟩ := hj.shapeT
  obtain ⟨oa, c, rfl⟩ := hv.sees.shapeT
  simp -implicitDefEqProofs
  refine R_loop (fun m s h' => ∃ (i : Nat) (a : Int), i + m = ps.length ∧ s = [(0, .slice oj js.length cj), (5, .int .i64 a), (8, .slice oa ps.length c), (9, .int .i64 ps.length), (10, .int .i64 i)] ∧ h <+: h' ∧ yieldGo js ps 0 = yieldGo js (ps.drop i) a) (fun m s h' => ?_) ⟨0, 0, Nat.zero_add _, by simp, List.prefix_rfl, rfl⟩
  rintro ⟨i, a, hi, rfl, hp, hx⟩
  have hj' := hj.pre hp
  have hv' := hv.pre hp
  by_cases hlt : i < ps.length
  · obtain ⟨x, hy, hd⟩ := drop_at hlt
    rw [hd, yieldGo_cons] at hx
    have hx2 := hin x (List.mem_of_getElem? hy)
    obtain ⟨xv, xl, xp⟩ := x
    obtain ⟨xs, xn⟩ : Ints h' xv xl ∧ xl.length ≤ 2 ^ 40 := hv'.set _ (List.mem_of_getElem? hy)
    have i0 := prices_idx hv' (i := i) (by omega) (by omega)
    rw [show (i : Int).toNat = i by omega] at i0
    have la := prices_agg hv' hy
    obtain ⟨ob, d, rfl⟩ := xs.shapeT
    have xs2 := xs.ext [some ⟨[.slice ob xl.length d, .int .i64 xp], 0, false⟩]
    have hj2 := Sees.ext hj' [some ⟨[.slice ob xl.length d, .int .i64 xp], 0, false⟩]
    have w0 : IntKind.i64.wrap (i + 1) = ((i : Int) + 1) := by rw [wrap_ok] <;> omega
    simp -implicitDefEqProofs [hlt, i0, la, CHr (demandOf_run hj2 xs2 xn hx2), CL_ret (demandOf_run hj2 xs2 xn hx2), w0]
    exact ⟨m - 1, by omega, i + 1, by omega, _, ⟨rfl, by omega⟩, hp.trans (List.prefix_append ..), by simpa [w64] using hx⟩
  · rw [List.drop_eq_nil_of_le (by omega), yieldGo] at hx
    simp -implicitDefEqProofs [hlt, hx, gcI hp]
end Go.Pm.PP

/- FnExactPriceProof: sizes of the arguments. -/
set_option linter.unusedVariables false
set_option linter.unusedSimpArgs false
set_option maxRecDepth 4000
set_option maxHeartbeats 4000000
namespace Go.Pm.PP
open Go.Pm Go.Proofs
theorem u22 : P.underlying 22 = some (.slice 89) := by kernel_rfl
theorem u23 : P.underlying 23 = some (.slice 102) := by kernel_rfl
theorem u89 : (P.underlying 89).map aggD = some true := by kernel_rfl
theorem u102 : (P.underlying 102).map aggD = some true := by kernel_rfl
theorem i89 : (P.info? 89).map (·.size) = some 4 := by kernel_rfl
theorem i102 : (P.info? 102).map (·.size) = some 2 := by kernel_rfl
/-- What szX leaves of its allowance. -/
def szL (left : Int) (n : Nat) : Int := if left - n < 0 then -1 else left - n
theorem szJobS_run {h : Hp} {v : Value} {js : List Job} {left : Int} (hj : Jobs h v js) (hn : js.length < 2 ^ 63) (h0 : 0 ≤ left) (h1 : left ≤ 2 ^ 20) :
    Ret P G n_laws_szJobS [v, .int .i64 left] h (.int .i64 (szL left js.length)) h := by
  refine enter_run e_laws_szJobS (by simp) ?_
  obtain ⟨oj, cj, rfl⟩ := hj.shapeT
  have w : IntKind.i64.wrap (left - js.length) = left - js.length := by rw [wrap_ok] <;> omega
  cases h2 : decide (left - (js.length : Int) < 0) <;> simp -implicitDefEqProofs [w, h2, szL] <;> simp at h2 <;> omega
theorem szIntS_run {h : Hp} {v : Value} {xs : List Int} {left : Int} (hv : Ints h v xs) (hn : xs.length < 2 ^ 63) (h0 : 0 ≤ left) (h1 : left ≤ 2 ^ 20) :
    Ret P G n_laws_szIntS [v, .int .i64 left] h (.int .i64 (szL left xs.length)) h := by
  refine enter_run e_laws_szIntS (by simp) ?_
  obtain ⟨oj, cj, rfl⟩ := hv.shapeT
  have w : IntKind.i64.wrap (left - xs.length) = left - xs.length := by rw [wrap_ok] <;> omega
  cases h2 : decide (left - (xs.length : Int) < 0) <;> simp -implicitDefEqProofs [w, h2, szL] <;> simp at h2 <;> omega
theorem szSetPrice_run {h : Hp} {v : Value} {xs : List Int} {p left : Int} (hv : Ints h v xs) (hn : xs.length < 2 ^ 63) (h0 : 0 ≤ left) (h1 : left ≤ 2 ^ 20) :
    Ret P G n_laws_szSetPrice [.agg #[v, .int .i64 p], .int .i64 left] h (.int .i64 (szL left xs.length)) h := by
  refine enter_run e_laws_szSetPrice (by simp) ?_
  have c := szIntS_run (h := h) (left := left) hv hn h0 h1
  obtain ⟨oj, cj, rfl⟩ := hv.shapeT
  have c2 := szIntS_run (h := h ++ [some ⟨[.slice oj xs.length cj, .int .i64 p], 0, false⟩]) (left := left) (hv.ext _) hn h0 h1
  by_cases h2 : left - (xs.length : Int) < 0
  · simp -implicitDefEqProofs [CL_ret c, CL_ret c2, h2, szL]
  · simp -implicitDefEqProofs [CL_ret c, CL_ret c2, h2, szL]
structure Prices0 (h : Hp) (v : Value) (ps : List SP) : Prop where
  sees : Sees h v 2 (ps.map encS)
  set : ∀ x ∈ ps, Ints h x.v x.s ∧ x.s.length < 2 ^ 63
theorem Prices0.pre {h h' : Hp} {v : Value} {ps : List SP} (hv : Prices0 h v ps) (hp : h <+: h') : Prices0 h' v ps := ⟨hv.sees.pre hp, fun x hx => ⟨(hv.set x hx).1.pre hp, (hv.set x hx).2⟩⟩
theorem prices0_idx {h : Hp} {v : Value} {ps : List SP} (hv : Prices0 h v ps) {i : Int} (h0 : 0 ≤ i) (hi : i < ps.length) :
    indexAddrP P h 23 v (.int .i64 i) = some (.pointer (some (addP (base v) (i.toNat * 2)))) := hv.sees.indexT (P := P) u23 i102 (k := .i64) h0 hi
theorem prices0_agg {h : Hp} {v : Value} {ps : List SP} (hv : Prices0 h v ps) {i : Nat} {x : SP} (hx : ps[i]? = some x) :
    loadP P h 102 (.pointer (some (addP (base v) (i * 2)))) = some (.agg #[x.v, .int .i64 x.p]) := hv.sees.aggT u102 i102 hx
def szGo : List SP → Int → Int
  | [], l => l
  | x :: r, l => if szL l x.s.length < 0 then -1 else szGo r (szL l x.s.length)
theorem szGo_cons {x : SP} {r : List SP} {l : Int} : szGo (x :: r) l = if szL l x.s.length < 0 then -1 else szGo r (szL l x.s.length) := rfl
def szPL (l : Int) (ps : List SP) : Int := if l - ps.length < 0 then -1 else szGo ps (l - ps.length)
theorem szL_le {l : Int} {n : Nat} (h : 0 ≤ l) : szL l n ≤ l := by unfold szL; split <;> omega
theorem szSetPriceS_run {h : Hp} {v : Value} {ps : List SP} {left : Int} (hv : Prices0 h v ps) (hn : ps.length < 2 ^ 63) (h0 : 0 ≤ left) (h1 : left ≤ 2 ^ 20) :
    Ret P G n_laws_szSetPriceS [v, .int .i64 left] h (.int .i64 (szPL left ps)) h := by
  refine enter_run e_laws_szSetPriceS (by simp) ?_
  obtain ⟨oa, c, rfl⟩ := hv.sees.shapeT
  have w : IntKind.i64.wrap (left - ps.length) = left - ps.length := by rw [wrap_ok] <;> omega
  by_cases h2 : left - (ps.length : Int) < 0
  · simp -implicitDefEqProofs [w, h2, szPL]
  · simp -implicitDefEqProofs [w, h2, szPL]
    refine R_loop (fun m s h' => ∃ (i : Nat) (l : Int), i + m = ps.length ∧ s = [(0, .slice oa ps.length c), (1, .int .i64 l), (5, .int .i64 i)] ∧ h' = h ∧ 0 ≤ l ∧ l ≤ 2 ^ 20 ∧ szGo ps (left - ps.length) = szGo (ps.drop i) l) (fun m s h' => ?_) ⟨0, _, Nat.zero_add _, by simp, rfl, by omega, by omega, rfl⟩
    rintro ⟨i, l, hi, rfl, rfl, l0, l1, hx⟩
    by_cases hlt : i < ps.length
    · obtain ⟨x, hy, hd⟩ := drop_at hlt
      rw [hd, szGo_cons] at hx
      obtain ⟨xv, xl, xp⟩ := x
      obtain ⟨xs, xn⟩ : Ints h' xv xl ∧ xl.length < 2 ^ 63 := hv.set _ (List.mem_of_getElem? hy)
      have i0 := prices0_idx hv (i := i) (by omega) (by omega)
      rw [show (i : Int).toNat = i by omega] at i0
      have w0 : IntKind.i64.wrap (i + 1) = ((i : Int) + 1) := by rw [wrap_ok] <;> omega
      by_cases h3 : szL l xl.length < 0
      · rw [if_pos h3] at hx
        simp -implicitDefEqProofs [hlt, i0, prices0_agg hv hy, CL_ret (szSetPrice_run xs xn l0 l1), h3, hx]
      · rw [if_neg h3] at hx
        simp -implicitDefEqProofs [hlt, i0, prices0_agg hv hy, CL_ret (szSetPrice_run xs xn l0 l1), h3, w0]
        exact ⟨m - 1, by omega, i + 1, by omega, _, ⟨rfl, by omega⟩, by omega, by have := szL_le (n := xl.length) l0; omega, hx⟩
    · rw [List.drop_eq_nil_of_le (by omega), szGo] at hx
      simp -implicitDefEqProofs [hlt, hx]
end Go.Pm.PP

/- Functions of PriceProof: starts and ends. -/
set_option linter.unusedVariables false
set_option linter.unusedSimpArgs false
set_option maxRecDepth 4000
set_option maxHeartbeats 4000000
namespace Go.Pm.PP
open Go.Pm Go.Proofs
def iv (x : Int) : Value := .int .i64 x
def irow (ys : List Int) : Option Row := some ⟨ys.map iv, 1, false⟩
theorem gc_slice {h h' : Hp} {a : Addr} {n c : Nat} : gc h h' (.slice (some a) n c) = h' := by
  unfold gc; rw [if_neg]; simp [plain, plainC]
theorem reps_one (n : Nat) (x : Value) : reps n [x] = List.replicate n x := by
  induction n with
  | zero => rfl
  | succ n ih => rw [reps, ih, List.replicate_succ]; rfl
theorem make_ints {h : Hp} {n : Nat} (hn : n ≤ 2 ^ 40) : makeP P h 24 (.int .i64 n) (.int .i64 n) = some (.slice (some ⟨h.length, 0, some n⟩) n n, h ++ [irow (List.replicate n 0)]) := by
  have h1 : ((n : Int) * 8 ≤ 2 ^ 47) := by omega
  have h2 : ((n : Int) < 2 ^ 62) := by omega
  simp [makeP, u24, irow, iv, reps_one]
  omega
/-- Storing into and loading from a row of numbers at a known place. -/
theorem row_idx {h l : Hp} {ys : List Int} {n c : Nat} (hy : ys.length = n) {j : Int} (h0 : 0 ≤ j) (h1 : j < n) :
    indexAddrP P (h ++ irow ys :: l) 24 (.slice (some ⟨h.length, 0, some n⟩) n c) (.int .i64 j) = some (.pointer (some ⟨h.length, j.toNat, some n⟩)) := by
  simp [u24, irow, hy, h0, h1]
theorem row_ld {h l : Hp} {ys : List Int} {n j : Nat} (hy : ys.length = n) {y : Int} (h1 : ys[j]? = some y) :
    loadP P (h ++ irow ys :: l) 3 (.pointer (some ⟨h.length, j, some n⟩)) = some (.int .i64 y) := by
  obtain ⟨d, hd, ha⟩ := Option.map_eq_some_iff.1 u3
  simp only [loadP_app0, irow, rowAt_zero, List.length_map, hy, if_true, Option.bind_some, rowLoad, hd, ti_3_eq, ha, Bool.false_eq_true, if_false, List.getElem?_map, h1, Option.map_some, iv]
theorem row_st {h l : Hp} {ys : List Int} {n j : Nat} {y : Int} (hy : ys.length = n) (h1 : j < n) :
    storeP P (h ++ irow ys :: l) 3 (.int .i64 y) (.pointer (some ⟨h.length, j, some n⟩)) = some (h ++ irow (ys.set j y) :: l) := by
  simp [irow, hy, iv, List.map_set]
  omega
theorem rowAt_irow {l : Hp} {ys : List Int} {o : Nat} {sp : Option Nat} : rowAt (irow ys :: l) ⟨0, o, sp⟩ = if sp = some ys.length then some ⟨ys.map iv, 1, false⟩ else none := by simp [irow]
theorem irow_set {ys : List Int} {k : Nat} {x : Int} : [some (Row.mk ((ys.map iv).set k (.int .i64 x)) 1 false)] = [irow (ys.set k x)] := by simp [irow, iv, List.map_set]
def most (a b : Int) : Int := if b < a then a else b
def startsGo (js : List Job) : List Int → List Int → Int → List Int
  | [], ys, _ => ys
  | o :: r, ys, now => startsGo js r (ys.set o.toNat (most now (jobAt js o).r)) (w64 (most now (jobAt js o).r + (jobAt js o).t))
theorem startsGo_cons {js : List Job} {o now : Int} {r ys : List Int} : startsGo js (o :: r) ys now = startsGo js r (ys.set o.toNat (most now (jobAt js o).r)) (w64 (most now (jobAt js o).r + (jobAt js o).t)) := rfl
theorem startsGo_len {js : List Job} : ∀ {xs ys : List Int} {now : Int}, (startsGo js xs ys now).length = ys.length
  | [], ys, now => rfl
  | o :: r, ys, now => by rw [startsGo_cons, startsGo_len, List.length_set]
def startsL (js : List Job) (xs : List Int) : List Int := startsGo js xs (List.replicate js.length 0) 0
theorem l2Starts_run {h : Hp} {v u : Value} {js : List Job} {xs : List Int} (hj : Jobs h v js) (hv : Ints h u xs) (hn : xs.length ≤ 2 ^ 40) (hjn : js.length ≤ 2 ^ 40) (hin : inside js.length xs) :
    Ret P G n_spec_l2Starts [v, u] h (.slice (some ⟨h.length, 0, some js.length⟩) js.length js.length) (h ++ [irow (startsL js xs)]) := by
  refine enter_run e_spec_l2Starts (by simp) ?_
  obtain ⟨oj, cj, rfl⟩ := hj.shapeT
  obtain ⟨oa, c, rfl⟩ := hv.shapeT
  simp -implicitDefEqProofs [make_ints hjn]
  refine R_loop (fun m s h' => ∃ (i : Nat) (now : Int) (ys : List Int), i + m = xs.length ∧ s = [(0, .slice oj js.length cj), (1, .slice oa xs.length c), (5, .slice (some ⟨h.length, 0, some js.length⟩) js.length js.length), (6, .int .i64 now), (7, .int .i64 i)] ∧ h' = h ++ [irow ys] ∧ ys.length = js.length ∧ startsL js xs = startsGo js (xs.drop i) ys now) (fun m s h' => ?_) ⟨0, 0, _, Nat.zero_add _, by simp, rfl, by simp, rfl⟩
  rintro ⟨i, now, ys, hi, rfl, rfl, hl, hx⟩
  have hv' := hv.ext [irow ys]
  have hj' := Sees.ext hj [irow ys]
  by_cases hlt : i < xs.length
  · obtain ⟨y, hy, hd⟩ := drop_at hlt
    rw [hd, startsGo_cons] at hx
    obtain ⟨y0, y1⟩ := hin y (List.mem_of_getElem? hy)
    have hjy := jobAt_some y0 y1
    have w0 : IntKind.i64.wrap (i + 1) = ((i : Int) + 1) := by rw [wrap_ok] <;> omega
    have f1 := fun zs => ints_idx (hv.ext [irow zs]) (i := i) (by omega) (by omega)
    have f2 := fun zs => ints_ld (hv.ext [irow zs]) hy
    have f3 := fun zs => jobs_idxI (Sees.ext hj [irow zs]) y0 y1
    have f4 := fun zs k hk => jobs_field (Sees.ext hj [irow zs]) (k := k) hjy hk
    simp -implicitDefEqProofs [hlt, f1, f2, f3, f4, encJ, w0, rowAt_irow, irow_set, hl, y0, y1, show y.toNat < ys.length by omega, show y.toNat < js.length by omega, show y.toNat + 1 ≤ js.length by omega, CL_ret l1Most_run, CHr l1Most_run, iv]
    exact ⟨m - 1, by omega, i + 1, by omega, _, ⟨rfl, by omega⟩, _, rfl, by simp [hl], by simpa [w64, most] using hx⟩
  · rw [List.drop_eq_nil_of_le (by omega), startsGo] at hx
    simp -implicitDefEqProofs [hlt, hx, gc_slice]
def endsGo : List Job → Nat → List Int → List Int
  | [], _, ys => ys
  | j :: r, i, ys => endsGo r (i + 1) (ys.set i (w64 (ys.getD i 0 + j.t)))
theorem endsGo_cons {j : Job} {r : List Job} {i : Nat} {ys : List Int} : endsGo (j :: r) i ys = endsGo r (i + 1) (ys.set i (w64 (ys.getD i 0 + j.t))) := rfl
def endsS (js : List Job) (xs : List Int) : List Int := endsGo js 0 (startsL js xs)
theorem startsL_len {js : List Job} {xs : List Int} : (startsL js xs).length = js.length := by rw [startsL, startsGo_len, List.length_replicate]
theorem l2Ends_run {h : Hp} {v u : Value} {js : List Job} {xs : List Int} (hj : Jobs h v js) (hv : Ints h u xs) (hn : xs.length ≤ 2 ^ 40) (hjn : js.length ≤ 2 ^ 40) (hin : inside js.length xs) :
    Ret P G n_spec_l2Ends [v, u] h (.slice (some ⟨h.length, 0, some js.length⟩) js.length js.length) (h ++ [irow (endsS js xs)]) := by
  refine enter_run e_spec_l2Ends (by simp) ?_
  have hst := l2Starts_run hj hv hn hjn hin
  obtain ⟨oj, cj, rfl⟩ := hj.shapeT
  obtain ⟨oa, c, rfl⟩ := hv.shapeT
  simp -implicitDefEqProofs [CL_ret hst]
  refine R_loop (fun m s h' => ∃ (i : Nat) (ys : List Int), i + m = js.length ∧ s = [(0, .slice oj js.length cj), (5, .slice (some ⟨h.length, 0, some js.length⟩) js.length js.length), (6, .int .i64 i)] ∧ h' = h ++ [irow ys] ∧ ys.length = js.length ∧ endsS js xs = endsGo (js.drop i) i ys) (fun m s h' => ?_) ⟨0, _, Nat.zero_add _, by simp, rfl, startsL_len, rfl⟩
  rintro ⟨i, ys, hi, rfl, rfl, hl, hx⟩
  by_cases hlt : i < js.length
  · obtain ⟨y, hy, hd⟩ := drop_at hlt
    rw [hd, endsGo_cons] at hx
    have w0 : IntKind.i64.wrap (i + 1) = ((i : Int) + 1) := by rw [wrap_ok] <;> omega
    have f1 := fun zs => jobs_idx (Sees.ext hj [irow zs]) hlt
    have f2 := fun zs k hk => jobs_field (Sees.ext hj [irow zs]) (k := k) hy hk
    have hyi : ys[i]? = some (ys.getD i 0) := by rw [List.getD_eq_getElem?_getD, List.getElem?_eq_getElem (by omega)]; rfl
    simp -implicitDefEqProofs [hlt, f1, f2, encJ, w0, rowAt_irow, irow_set, hl, hyi, show i < ys.length by omega, show i + 1 ≤ js.length by omega, iv]
    exact ⟨m - 1, by omega, i + 1, by omega, by omega, _, rfl, by simp [hl], by simpa [w64, show i < ys.length by omega] using hx⟩
  · rw [List.drop_eq_nil_of_le (by omega), endsGo] at hx
    simp -implicitDefEqProofs [hlt, hx, gc_slice]
def implGo (js : List Job) : List Int → List Int → Int → List Int
  | [], ys, _ => ys
  | o :: r, ys, e => implGo js r (ys.set o.toNat (w64 ((if e < (jobAt js o).r then (jobAt js o).r else e) + (jobAt js o).t))) (w64 ((if e < (jobAt js o).r then (jobAt js o).r else e) + (jobAt js o).t))
theorem implGo_cons {js : List Job} {o e : Int} {r ys : List Int} : implGo js (o :: r) ys e = implGo js r (ys.set o.toNat (w64 ((if e < (jobAt js o).r then (jobAt js o).r else e) + (jobAt js o).t))) (w64 ((if e < (jobAt js o).r then (jobAt js o).r else e) + (jobAt js o).t)) := rfl
def endsI (js : List Job) (xs : List Int) : List Int := implGo js xs (List.replicate js.length 0) 0
theorem endsOf_run {h : Hp} {v u : Value} {js : List Job} {xs : List Int} (hj : Jobs h v js) (hv : Ints h u xs) (hn : xs.length ≤ 2 ^ 40) (hjn : js.length ≤ 2 ^ 40) (hin : inside js.length xs) :
    Ret P G n_impl_endsOf [v, u] h (.slice (some ⟨h.length, 0, some js.length⟩) js.length js.length) (h ++ [irow (endsI js xs)]) := by
  refine enter_run e_impl_endsOf (by simp) ?_
  obtain ⟨oj, cj, rfl⟩ := hj.shapeT
  obtain ⟨oa, c, rfl⟩ := hv.shapeT
  simp -implicitDefEqProofs [make_ints hjn]
  refine R_loop (fun m s h' => ∃ (i : Nat) (e : Int) (ys : List Int), i + m = xs.length ∧ s = [(0, .slice oj js.length cj), (5, .slice (some ⟨h.length, 0, some js.length⟩) js.length js.length), (6, .int .i64 e), (12, .slice oa xs.length c), (13, .int .i64 xs.length), (14, .int .i64 i)] ∧ h' = h ++ [irow ys] ∧ ys.length = js.length ∧ endsI js xs = implGo js (xs.drop i) ys e) (fun m s h' => ?_) ⟨0, 0, _, Nat.zero_add _, by simp, rfl, by simp, rfl⟩
  rintro ⟨i, e, ys, hi, rfl, rfl, hl, hx⟩
  by_cases hlt : i < xs.length
  · obtain ⟨y, hy, hd⟩ := drop_at hlt
    rw [hd, implGo_cons] at hx
    obtain ⟨y0, y1⟩ := hin y (List.mem_of_getElem? hy)
    have hjy := jobAt_some y0 y1
    have w0 : IntKind.i64.wrap (i + 1) = ((i : Int) + 1) := by rw [wrap_ok] <;> omega
    have f1 := fun zs => ints_idx (hv.ext [irow zs]) (i := i) (by omega) (by omega)
    have f2 := fun zs => ints_ld (hv.ext [irow zs]) hy
    have f3 := fun zs => jobs_idxI (Sees.ext hj [irow zs]) y0 y1
    have f4 := fun zs k hk => jobs_field (Sees.ext hj [irow zs]) (k := k) hjy hk
    simp -implicitDefEqProofs [hlt, f1, f2, f3, f4, encJ, w0, foldI, rowAt_irow, irow_set, hl, y0, y1, show y.toNat < ys.length by omega, show y.toNat < js.length by omega, show y.toNat + 1 ≤ js.length by omega, iv]
    exact ⟨m - 1, by omega, i + 1, by omega, _, ⟨rfl, by omega⟩, _, rfl, by simp [hl], by simpa [w64] using hx⟩
  · rw [List.drop_eq_nil_of_le (by omega), implGo] at hx
    simp -implicitDefEqProofs [hlt, hx, gc_slice]
end Go.Pm.PP

/- Functions of PriceProof: values. -/
set_option linter.unusedVariables false
set_option linter.unusedSimpArgs false
set_option maxRecDepth 4000
set_option maxHeartbeats 4000000
namespace Go.Pm.PP
open Go.Pm Go.Proofs
theorem irow_sees {h l : Hp} {ys : List Int} {n : Nat} (hn : ys.length = n) : Ints (h ++ irow ys :: l) (.slice (some ⟨h.length, 0, some n⟩) n n) ys := by
  subst hn
  have hf : ∀ zs : List Int, (zs.map encI).flatten = zs.map iv := by
    intro zs
    induction zs with
    | nil => rfl
    | cons z zs ih => rw [List.map_cons, List.flatten_cons, ih]; rfl
  refine ⟨fun e he => ?_, some ⟨h.length, 0, some ys.length⟩, ys.length, by simp, .inr ⟨h.length, 0, ⟨ys.map iv, 1, false⟩, by simp, ?_, rfl, by simp, ?_, by simp⟩⟩
  · obtain ⟨z, _, rfl⟩ := List.mem_map.1 he; rfl
  · rw [List.getElem?_append_right (Nat.le_refl _), Nat.sub_self]; rfl
  · rw [hf, List.drop_zero, List.take_of_length_le (by simp)]
theorem l2Greatest_run {h : Hp} : Ret P G n_spec_l2Greatest [.int .i64 3] h (.bool false) h := by
  refine enter_run e_spec_l2Greatest (by simp) ?_
  simp -implicitDefEqProofs
theorem l2Cost_run {h : Hp} {j : Job} {e : Int} : Ret P G n_spec_l2Cost [jv j, .int .i64 e, .int .i64 3] h (.int .i64 (w64 (j.w * e))) h := by
  refine enter_run e_spec_l2Cost (by simp) ?_
  simp -implicitDefEqProofs [CL_ret l1Most_run, CHr l1Most_run, w64]
theorem add_run {h : Hp} {j : Job} {a e : Int} {b : Bool} : Ret P G n_impl_add [.int .i64 a, jv j, .int .i64 e, .int .i64 3, .bool b] h (.int .i64 (w64 (a + w64 (j.w * e)))) h := by
  refine enter_run e_impl_add (by simp) ?_
  simp -implicitDefEqProofs [w64]
def sumW : List Job → List Int → Int → Int
  | j :: r, y :: s, a => sumW r s (w64 (a + w64 (j.w * y)))
  | _, _, a => a
theorem sumW_cons {j : Job} {r : List Job} {y : Int} {s : List Int} {a : Int} : sumW (j :: r) (y :: s) a = sumW r s (w64 (a + w64 (j.w * y))) := rfl
theorem sumW_nil {s : List Int} {a : Int} : sumW [] s a = a := by cases s <;> rfl
theorem l2Of_run {h : Hp} {v u : Value} {js : List Job} {ys : List Int} (hj : Jobs h v js) (hv : Ints h u ys) (hjn : js.length ≤ 2 ^ 40) (hl : ys.length = js.length) :
    Ret P G n_spec_l2Of [v, u, .int .i64 3] h (.int .i64 (sumW js ys 0)) h := by
  refine enter_run e_spec_l2Of (by simp) ?_
  obtain ⟨oj, cj, rfl⟩ := hj.shapeT
  obtain ⟨oa, c, rfl⟩ := hv.shapeT
  simp -implicitDefEqProofs
  refine R_loop (fun m s h' => ∃ (i : Nat) (a : Int), i + m = js.length ∧ s = [(0, .slice oj js.length cj), (1, .slice oa ys.length c), (2, .int .i64 3), (7, .int .i64 a), (8, .int .i64 i)] ∧ h' = h ∧ sumW js ys 0 = sumW (js.drop i) (ys.drop i) a) (fun m s h' => ?_) ⟨0, 0, Nat.zero_add _, by simp, rfl, rfl⟩
  rintro ⟨i, a, hi, rfl, rfl, hx⟩
  by_cases hlt : i < js.length
  · obtain ⟨j, hy, hd⟩ := drop_at hlt
    obtain ⟨y, hy2, hd2⟩ := drop_at (show i < ys.length by omega)
    rw [hd, hd2, sumW_cons] at hx
    have w0 : IntKind.i64.wrap (i + 1) = ((i : Int) + 1) := by rw [wrap_ok] <;> omega
    simp -implicitDefEqProofs [hlt, CL_ret l2Greatest_run, CL_ret l2Cost_run, CHr l2Cost_run, jobs_idx hj hlt, jobs_agg hj hy, ints_idx hv (i := i) (by omega) (by omega), ints_ld hv hy2, w0]
    exact ⟨m - 1, by omega, i + 1, by omega, _, ⟨rfl, by omega⟩, by simpa [w64] using hx⟩
  · rw [List.drop_eq_nil_of_le (by omega), sumW_nil] at hx
    simp -implicitDefEqProofs [hlt, hx]
theorem endsGo_len : ∀ {r : List Job} {i : Nat} {ys : List Int}, (endsGo r i ys).length = ys.length
  | [], i, ys => rfl
  | j :: r, i, ys => by rw [endsGo_cons, endsGo_len, List.length_set]
theorem endsS_len {js : List Job} {xs : List Int} : (endsS js xs).length = js.length := by rw [endsS, endsGo_len, startsL_len]
theorem implGo_len {js : List Job} : ∀ {r ys : List Int} {e : Int}, (implGo js r ys e).length = ys.length
  | [], ys, e => rfl
  | o :: r, ys, e => by rw [implGo_cons, implGo_len, List.length_set]
theorem endsI_len {js : List Job} {xs : List Int} : (endsI js xs).length = js.length := by rw [endsI, implGo_len, List.length_replicate]
theorem l2Value_run {h : Hp} {v u : Value} {js : List Job} {xs : List Int} (hj : Jobs h v js) (hv : Ints h u xs) (hn : xs.length ≤ 2 ^ 40) (hjn : js.length ≤ 2 ^ 40) (hin : inside js.length xs) :
    Ret P G n_spec_l2Value [v, u, .int .i64 3] h (.int .i64 (sumW js (endsS js xs) 0)) h := by
  refine enter_run e_spec_l2Value (by simp) ?_
  simp -implicitDefEqProofs [CL_ret (l2Ends_run hj hv hn hjn hin), CL_ret (l2Of_run (Sees.ext hj [irow (endsS js xs)]) (irow_sees endsS_len) hjn endsS_len)]
theorem valueOfEnds_run {h : Hp} {v u : Value} {js : List Job} {ys : List Int} (hj : Jobs h v js) (hv : Ints h u ys) (hjn : js.length ≤ 2 ^ 40) (hl : ys.length = js.length) :
    Ret P G n_impl_valueOfEnds [v, u, .int .i64 3] h (.int .i64 (sumW js ys 0)) h := by
  refine enter_run e_impl_valueOfEnds (by simp) ?_
  obtain ⟨oj, cj, rfl⟩ := hj.shapeT
  obtain ⟨oa, c, rfl⟩ := hv.shapeT
  simp -implicitDefEqProofs
  refine R_loop (fun m s h' => ∃ (i : Nat) (a : Int), i + m = js.length ∧ s = [(1, .slice oa ys.length c), (2, .int .i64 3), (7, .int .i64 a), (10, .slice oj js.length cj), (11, .int .i64 js.length), (12, .int .i64 i)] ∧ h <+: h' ∧ sumW js ys 0 = sumW (js.drop i) (ys.drop i) a) (fun m s h' => ?_) ⟨0, 0, Nat.zero_add _, by simp, List.prefix_rfl, rfl⟩
  rintro ⟨i, a, hi, rfl, hp, hx⟩
  have hj' := hj.pre hp
  have hv' := hv.pre hp
  by_cases hlt : i < js.length
  · obtain ⟨j, hy, hd⟩ := drop_at hlt
    obtain ⟨y, hy2, hd2⟩ := drop_at (show i < ys.length by omega)
    rw [hd, hd2, sumW_cons] at hx
    have w0 : IntKind.i64.wrap (i + 1) = ((i : Int) + 1) := by rw [wrap_ok] <;> omega
    have hv2 := Sees.ext hv' [some ⟨[.int .i64 j.t, .int .i64 j.w, .int .i64 j.r, .int .i64 j.d], 0, false⟩]
    simp -implicitDefEqProofs [hlt, CL_ret add_run, CHr add_run, jobs_idx hj' hlt, jobs_agg hj' hy, ints_idx hv2 (i := i) (by omega) (by omega), ints_ld hv2 hy2, w0]
    exact ⟨m - 1, by omega, i + 1, by omega, _, ⟨rfl, by omega⟩, hp.trans (List.prefix_append ..), by simpa [w64] using hx⟩
  · rw [List.drop_eq_nil_of_le (by omega), sumW_nil] at hx
    simp -implicitDefEqProofs [hlt, hx, gcI hp]
theorem valueOf_run {h : Hp} {v u : Value} {js : List Job} {xs : List Int} (hj : Jobs h v js) (hv : Ints h u xs) (hn : xs.length ≤ 2 ^ 40) (hjn : js.length ≤ 2 ^ 40) (hin : inside js.length xs) :
    Ret P G n_impl_valueOf [v, u, .int .i64 3] h (.int .i64 (sumW js (endsI js xs) 0)) h := by
  refine enter_run e_impl_valueOf (by simp) ?_
  simp -implicitDefEqProofs [CL_ret (endsOf_run hj hv hn hjn hin), CL_ret (valueOfEnds_run (Sees.ext hj [irow (endsI js xs)]) (irow_sees endsI_len) hjn endsI_len)]
end Go.Pm.PP

/- FnExactPriceProof: copies of the arguments. -/
set_option linter.unusedVariables false
set_option linter.unusedSimpArgs false
set_option maxRecDepth 4000
set_option maxHeartbeats 4000000
namespace Go.Pm.PP
open Go.Pm Go.Proofs
theorem jobs0_idx {h : Hp} {v : Value} {js : List Job} (hv : Jobs h v js) {i : Nat} (hi : i < js.length) :
    indexAddrP P h 22 v (.int .i64 i) = some (.pointer (some (addP (base v) (i * 4)))) := by
  have := hv.indexT (P := P) u22 i89 (k := .i64) (j := i) (by omega) (by omega)
  simpa using this
theorem jobs0_agg {h : Hp} {v : Value} {js : List Job} (hv : Jobs h v js) {i : Nat} {j : Job} (hj : js[i]? = some j) :
    loadP P h 89 (.pointer (some (addP (base v) (i * 4)))) = some (jv j) := hv.aggT u89 i89 hj
theorem toJob_run {h : Hp} {j : Job} : Ret P G n_laws_toJob [jv j] h (jv j) h := by
  refine enter_run e_laws_toJob (by simp) ?_
  simp -implicitDefEqProofs
  refine gc_app _ _ _ (by simp)
/-- A row of elements. -/
def rowOf (sz : Nat) (els : List (List Value)) : Option Row := some ⟨els.flatten, sz, false⟩
theorem set_app' (a b : List Value) (k : Nat) (v : Value) : (a ++ b).set (a.length + k) v = a ++ b.set k v := by
  have := List.set_append_right (s := a) (t := b) (i := a.length + k) (x := v) (by omega)
  rwa [Nat.add_sub_cancel_left] at this
theorem splice_shift : ∀ (vs a b : List Value) (k : Nat), splice (a ++ b) (a.length + k) vs = a ++ splice b k vs
  | [], a, b, k => rfl
  | v :: vs, a, b, k => by rw [splice, splice, set_app', Nat.add_assoc, splice_shift]
theorem splice_here : ∀ (vs a b : List Value), a.length = vs.length → splice (a ++ b) 0 vs = vs ++ b
  | [], a, b, h => by rw [List.eq_nil_of_length_eq_zero h]; rfl
  | v :: vs, a0 :: a, b, h => by
    have h2 := splice_shift vs [v] (a ++ b) 0
    rw [splice_here vs a b (by simpa using h)] at h2
    exact h2
theorem splice_flat {sz : Nat} : ∀ {els : List (List Value)}, (∀ e ∈ els, e.length = sz) → ∀ {i : Nat} {e : List Value}, i < els.length → e.length = sz → splice els.flatten (i * sz) e = (els.set i e).flatten
  | [], _, i, e, hi, _ => by simp at hi
  | a :: els, hl, 0, e, _, he => by
    rw [Nat.zero_mul, List.flatten_cons, splice_here _ _ _ (by rw [hl a (List.mem_cons_self ..), he])]
    rfl
  | a :: els, hl, i + 1, e, hi, he => by
    have h1 := hl a (List.mem_cons_self ..)
    have h2 := splice_flat (fun e he => hl e (List.mem_cons_of_mem _ he)) (i := i) (e := e) (by simpa using hi) he
    rw [List.set_cons_succ, List.flatten_cons, List.flatten_cons, ← h2, Nat.succ_mul, Nat.add_comm, ← h1, splice_shift]
theorem rowOf_sees {h l : Hp} {sz n : Nat} {els : List (List Value)} (hl : ∀ e ∈ els, e.length = sz) (hn : els.length = n) : Sees (h ++ rowOf sz els :: l) (.slice (some ⟨h.length, 0, some (n * sz)⟩) n n) sz els := by
  subst hn
  have := flat_len hl
  refine ⟨hl, some ⟨h.length, 0, some (els.length * sz)⟩, els.length, rfl, .inr ⟨h.length, 0, ⟨els.flatten, sz, false⟩, by rw [this], ?_, rfl, by simp [this], ?_, Nat.le_refl _⟩⟩
  · rw [List.getElem?_append_right (Nat.le_refl _), Nat.sub_self]; rfl
  · rw [List.drop_zero, List.take_of_length_le (by rw [this]; exact Nat.le_refl _)]
theorem reps_flat (n : Nat) (z : List Value) : reps n z = (List.replicate n z).flatten := by
  induction n with
  | zero => rfl
  | succ n ih => rw [reps, ih, List.replicate_succ, List.flatten_cons]
theorem rowAt_rowOf {l : Hp} {sz o : Nat} {els : List (List Value)} {sp : Option Nat} (hl : ∀ e ∈ els, e.length = sz) : rowAt (rowOf sz els :: l) ⟨0, o, sp⟩ = if sp = some (els.length * sz) then some ⟨els.flatten, sz, false⟩ else none := by
  simp [rowOf, ← flat_len hl]
theorem encJ_len (js : List Job) : ∀ e ∈ js.map encJ, e.length = 4 := by
  intro e he
  obtain ⟨j, _, rfl⟩ := List.mem_map.1 he
  rfl
def zJ : Job := ⟨0, 0, 0, 0⟩
theorem set_next {α : Type} {xs : List α} {i : Nat} {x z : α} (h : xs[i]? = some x) : (xs.take i ++ List.replicate (xs.length - i) z).set i x = xs.take (i + 1) ++ List.replicate (xs.length - (i + 1)) z := by
  have hi := (List.getElem?_eq_some_iff.1 h).1
  have h1 : (xs.take i).length = i := by simp; omega
  rw [take_succ' h, show xs.length - i = (xs.length - (i + 1)) + 1 by omega, List.replicate_succ]
  have := List.set_append_right (s := xs.take i) (t := z :: List.replicate (xs.length - (i + 1)) z) (i := i) (x := x) (by omega)
  rw [this, h1, Nat.sub_self]
  simp
/-- Storing an element into a row that is one's own. -/
theorem rowOf_st {h l : Hp} {sz n i : Nat} {els : List (List Value)} {t : TypeId} {w : Value} (hl : ∀ e ∈ els, e.length = sz) (hn : els.length = n) (hi : i < n) (hq : (P.info? t).map (·.size) = some sz) (hw : w.cells.size = sz) (ho : w.cells.toList.all one = true) :
    storeP P (h ++ rowOf sz els :: l) t w (.pointer (some ⟨h.length, i * sz, some (n * sz)⟩)) = some (h ++ rowOf sz (els.set i w.cells.toList) :: l) := by
  obtain ⟨q, hq, hz⟩ := Option.map_eq_some_iff.1 hq
  have hle : (i + 1) * sz ≤ n * sz := Nat.mul_le_mul_right _ hi
  rw [Nat.succ_mul] at hle
  have hf := flat_len hl
  rw [hn] at hf
  rw [storeP_app0, rowAt_rowOf hl, hn, if_pos rfl, Option.bind_some]
  simp only [rowStore, hq]
  rw [if_pos ⟨trivial, by rw [hw, hz], by rw [hz, hf]; omega, ho⟩]
  simp only [Option.map_some, splice_flat hl (show i < els.length by omega) (show w.cells.toList.length = sz by simpa using hw)]
  rfl
theorem rowOf_idx {h l : Hp} {sz n c : Nat} {els : List (List Value)} {ty e : TypeId} (hl : ∀ e ∈ els, e.length = sz) (hn : els.length = n) (hu : P.underlying ty = some (.slice e)) (hq : (P.info? e).map (·.size) = some sz) {j : Int} (h0 : 0 ≤ j) (h1 : j < n) :
    indexAddrP P (h ++ rowOf sz els :: l) ty (.slice (some ⟨h.length, 0, some (n * sz)⟩) n c) (.int .i64 j) = some (.pointer (some ⟨h.length, j.toNat * sz, some (n * sz)⟩)) := by
  obtain ⟨q, hq, hz⟩ := Option.map_eq_some_iff.1 hq
  rw [indexAddrP_some, hu]
  simp only [hq, rowAt_app0, rowAt_rowOf hl, hn, if_true, h0, h1, and_self, hz, addP_mk, Nat.zero_add]
theorem toJobS_run {h : Hp} {v : Value} {js : List Job} (hj : Jobs h v js) (hn : js.length ≤ 2 ^ 40) :
    Ret P G n_laws_toJobS [v] h (.slice (some ⟨h.length, 0, some (js.length * 4)⟩) js.length js.length) (h ++ [rowOf 4 (js.map encJ)]) := by
  refine enter_run e_laws_toJobS (by simp) ?_
  obtain ⟨oj, cj, rfl⟩ := hj.shapeT
  have hlen : (List.replicate js.length (encJ zJ)).flatten.length = js.length * 4 := by
    rw [flat_len (sz := 4) (fun e he => by rw [List.eq_of_mem_replicate he]; rfl), List.length_replicate]
  have mk : makeP P h 29 (.int .i64 js.length) (.int .i64 js.length) = some (.slice (some ⟨h.length, 0, some (js.length * 4)⟩) js.length js.length, h ++ [rowOf 4 (List.replicate js.length (encJ zJ))]) := by
    have hr : reps js.length [.int .i64 0, .int .i64 0, .int .i64 0, .int .i64 0] = (List.replicate js.length (encJ zJ)).flatten := reps_flat ..
    simp only [makeP, u29, asI, ti_58_eq, zeroP, ti_58_zero, ti_58_size, ti_58_bytes, newP, rowOf]
    rw [if_pos (by simp [plain, plainC, Value.cells])]
    simp only [Int.toNat_natCast, Value.cells, hr, hlen, ti_58_size, ti_58_bytes]
    rw [if_pos ⟨by omega, Int.le_refl _, by omega, by omega, by omega, by omega⟩]
  simp -implicitDefEqProofs [mk]
  refine R_loop (fun m s h' => ∃ (i : Nat), i + m = js.length ∧ s = [(0, .slice oj js.length cj), (3, .slice (some ⟨h.length, 0, some (js.length * 4)⟩) js.length js.length), (4, .int .i64 i)] ∧ h' = h ++ [rowOf 4 ((js.map encJ).take i ++ List.replicate ((js.map encJ).length - i) (encJ zJ))]) (fun m s h' => ?_) ⟨0, Nat.zero_add _, by simp, by simp⟩
  rintro ⟨i, hi, rfl, rfl⟩
  have hE : ∀ e ∈ ((js.map encJ).take i ++ List.replicate ((js.map encJ).length - i) (encJ zJ)), e.length = 4 := by
    intro e he
    rcases List.mem_append.1 he with he | he
    · exact encJ_len js e (List.mem_of_mem_take he)
    · rw [List.eq_of_mem_replicate he]; rfl
  have hEl : ((js.map encJ).take i ++ List.replicate ((js.map encJ).length - i) (encJ zJ)).length = js.length := by simp; omega
  by_cases hlt : i < js.length
  · obtain ⟨y, hy, hd⟩ := drop_at hlt
    have w0 : IntKind.i64.wrap (i + 1) = ((i : Int) + 1) := by rw [wrap_ok] <;> omega
    have nx := set_next (z := encJ zJ) (show (js.map encJ)[i]? = some (encJ y) by simp [hy])
    generalize hG : ((js.map encJ).take i ++ List.replicate ((js.map encJ).length - i) (encJ zJ)) = E at hE hEl nx ⊢
    have hj2 := Sees.ext hj [rowOf 4 E]
    have f1 := rowOf_idx (h := h) (l := []) (c := js.length) hE hEl u29 i58 (j := i) (by omega) (by omega)
    rw [show (i : Int).toNat = i by omega] at f1
    have f2 := rowOf_st (h := h) (l := []) (i := i) (w := jv y) hE hEl hlt i58 rfl rfl
    rw [show (jv y).cells.toList = encJ y from rfl, nx] at f2
    simp -implicitDefEqProofs [-storeP_app0, -indexAddrP_some, -rowAt_app0, hlt, jobs0_idx hj2 hlt, jobs0_agg hj2 hy, CL_ret toJob_run, f1, f2, w0]
    exact ⟨m - 1, by omega, i + 1, by omega, by omega, rfl⟩
  · have hi2 : i = js.length := by omega
    simp -implicitDefEqProofs [hlt, gc_slice]
    have : (js.map encJ).take js.length = js.map encJ := List.take_of_length_le (by simp)
    simp [hi2, this]
end Go.Pm.PP

/- FnExactPriceProof: copies of numbers and prices. -/
set_option linter.unusedVariables false
set_option linter.unusedSimpArgs false
set_option maxRecDepth 4000
set_option maxHeartbeats 4000000
namespace Go.Pm.PP
open Go.Pm Go.Proofs
theorem gc_np {h h' : Hp} {v : Value} (hp : plain v = false) : gc h h' v = h' := by
  unfold gc; rw [if_neg (fun h => by rw [hp] at h; cases h.1)]
theorem encI_len (xs : List Int) : ∀ e ∈ xs.map encI, e.length = 1 := by
  intro e he
  obtain ⟨j, _, rfl⟩ := List.mem_map.1 he
  rfl
theorem i24' : (P.info? 3).map (·.size) = some 1 := i3
theorem toIntS_run {h : Hp} {v : Value} {xs : List Int} (hv : Ints h v xs) (hn : xs.length ≤ 2 ^ 40) :
    Ret P G n_laws_toIntS [v] h (.slice (some ⟨h.length, 0, some xs.length⟩) xs.length xs.length) (h ++ [irow xs]) := by
  refine enter_run e_laws_toIntS (by simp) ?_
  obtain ⟨oa, c, rfl⟩ := hv.shapeT
  simp -implicitDefEqProofs [make_ints hn]
  refine R_loop (fun m s h' => ∃ (i : Nat), i + m = xs.length ∧ s = [(0, .slice oa xs.length c), (3, .slice (some ⟨h.length, 0, some xs.length⟩) xs.length xs.length), (4, .int .i64 i)] ∧ h' = h ++ [irow (xs.take i ++ List.replicate (xs.length - i) 0)]) (fun m s h' => ?_) ⟨0, Nat.zero_add _, by simp, by simp⟩
  rintro ⟨i, hi, rfl, rfl⟩
  have hEl : (xs.take i ++ List.replicate (xs.length - i) 0).length = xs.length := by simp; omega
  by_cases hlt : i < xs.length
  · obtain ⟨y, hy, hd⟩ := drop_at hlt
    have w0 : IntKind.i64.wrap (i + 1) = ((i : Int) + 1) := by rw [wrap_ok] <;> omega
    have nx := set_next (z := (0 : Int)) hy
    generalize hG : (xs.take i ++ List.replicate (xs.length - i) 0) = E at hEl nx ⊢
    have hv2 := hv.ext [irow E]
    have f1 := row_idx (h := h) (l := []) (c := xs.length) hEl (j := i) (by omega) (by omega)
    rw [show (i : Int).toNat = i by omega] at f1
    have f2 := row_st (h := h) (l := []) (j := i) (y := y) hEl hlt
    rw [nx] at f2
    simp -implicitDefEqProofs [-storeP_app0, -indexAddrP_some, -rowAt_app0, hlt, ints_idx hv2 (i := i) (by omega) (by omega), ints_ld hv2 hy, f1, f2, w0]
    exact ⟨m - 1, by omega, i + 1, by omega, by omega, rfl⟩
  · have hi2 : i = xs.length := by omega
    simp -implicitDefEqProofs [hlt, gc_slice]
    simp [hi2]
theorem toSetPrice_run {h : Hp} {v : Value} {xs : List Int} {p : Int} (hv : Ints h v xs) (hn : xs.length ≤ 2 ^ 40) :
    RunsC P G n_laws_toSetPrice [.agg #[v, .int .i64 p]] h fun v' h' => ∃ t u, h' = h ++ t ∧ v' = .agg #[u, .int .i64 p] ∧ ∀ h0 : Hp, h0.length = h.length → Ints (h0 ++ t) u xs := by
  refine enter_run e_laws_toSetPrice (by simp) ?_
  obtain ⟨oa, c, rfl⟩ := hv.shapeT
  have f := toIntS_run (hv.ext [some ⟨[.slice oa xs.length c, .int .i64 p], 0, false⟩, some ⟨[.slice none 0 0, .int .i64 0], 0, false⟩, some ⟨[.slice none 0 0, .int .i64 0], 0, false⟩]) hn
  simp only [List.length_append, List.length_cons, List.length_nil, Nat.zero_add, Nat.reduceAdd, List.append_assoc, List.cons_append, List.nil_append] at f
  simp -implicitDefEqProofs [CL_ret f]
  rw [gc_np (by simp [plain, plainC])]
  refine ⟨_, rfl, fun h0 hh => ?_⟩
  have := irow_sees (h := h0 ++ [some ⟨[.slice oa xs.length c, .int .i64 p], 0, false⟩, some ⟨[.slice (some ⟨h.length + 3, 0, some xs.length⟩) xs.length xs.length, .int .i64 p], 0, false⟩, some ⟨[.slice (some ⟨h.length + 3, 0, some xs.length⟩) xs.length xs.length, .int .i64 p], 0, false⟩]) (l := []) (ys := xs) rfl
  simpa [hh] using this
theorem Sees.fill {h t : Hp} {r : Option Row} {v : Value} {sz : Nat} {els : List (List Value)} (s : Sees (h ++ none :: t) v sz els) : Sees (h ++ r :: t) v sz els := by
  obtain ⟨h1, oa, c, h2, h3⟩ := s
  refine ⟨h1, oa, c, h2, ?_⟩
  rcases h3 with h3 | ⟨k, o, x, h4, h5, h6⟩
  · exact .inl h3
  · refine .inr ⟨k, o, x, h4, ?_, h6⟩
    rcases Nat.lt_or_ge k h.length with hk | hk
    · rw [List.getElem?_append_left hk] at h5 ⊢; exact h5
    · rw [List.getElem?_append_right hk] at h5 ⊢
      cases hkk : k - h.length with
      | zero => rw [hkk] at h5; simp at h5
      | succ n => rw [hkk] at h5; simpa using h5
theorem encS_len (ps : List SP) : ∀ e ∈ ps.map encS, e.length = 2 := by
  intro e he
  obtain ⟨j, _, rfl⟩ := List.mem_map.1 he
  rfl
def zS : SP := ⟨.slice none 0 0, [], 0⟩
/-- A copy of prices. -/
def Copy (ps qs : List SP) : Prop := ps.map (fun x => (x.s, x.p)) = qs.map fun x => (x.s, x.p)
theorem toSetPriceS_run {h : Hp} {v : Value} {ps : List SP} (hv : Prices0 h v ps) (hsn : ∀ x ∈ ps, x.s.length ≤ 2 ^ 40) (hn : ps.length ≤ 2 ^ 40) :
    RunsC P G n_laws_toSetPriceS [v] h fun v' h' => ∃ t qs, h' = h ++ t ∧ Prices h' v' qs ∧ Copy ps qs := by
  refine enter_run e_laws_toSetPriceS (by simp) ?_
  obtain ⟨oa, c, rfl⟩ := hv.sees.shapeT
  have hlen : (List.replicate ps.length (encS zS)).flatten.length = ps.length * 2 := by
    rw [flat_len (sz := 2) (fun e he => by rw [List.eq_of_mem_replicate he]; rfl), List.length_replicate]
  have mk : makeP P h 31 (.int .i64 ps.length) (.int .i64 ps.length) = some (.slice (some ⟨h.length, 0, some (ps.length * 2)⟩) ps.length ps.length, h ++ [rowOf 2 (List.replicate ps.length (encS zS))]) := by
    have hr : reps ps.length [.slice none 0 0, .int .i64 0] = (List.replicate ps.length (encS zS)).flatten := reps_flat ..
    simp only [makeP, u31, asI, ti_108_eq, zeroP, ti_108_zero, ti_108_size, ti_108_bytes, newP, rowOf]
    rw [if_pos (by simp [plain, plainC, Value.cells])]
    simp only [Int.toNat_natCast, Value.cells, hr, hlen, ti_108_size, ti_108_bytes]
    rw [if_pos ⟨by omega, Int.le_refl _, by omega, by omega, by omega, by omega⟩]
  simp -implicitDefEqProofs [mk]
  refine R_loop (fun m s h' => ∃ (i : Nat) (qs : List SP) (t : Hp), i + m = ps.length ∧ s = [(0, .slice oa ps.length c), (3, .slice (some ⟨h.length, 0, some (ps.length * 2)⟩) ps.length ps.length), (4, .int .i64 i)] ∧ h' = h ++ rowOf 2 (qs.map encS) :: t ∧ qs.length = ps.length ∧ (∀ x ∈ qs, Ints (h ++ none :: t) x.v x.s ∧ x.s.length ≤ 2 ^ 40) ∧ (qs.take i).map (fun x => (x.s, x.p)) = (ps.take i).map fun x => (x.s, x.p)) (fun m s h' => ?_) ⟨0, List.replicate ps.length zS, [], Nat.zero_add _, by simp, by simp, by simp, fun x hx => ?_, by simp⟩
  · rintro ⟨i, qs, t, hi, rfl, rfl, hq, hqs, hpre⟩
    have hE := encS_len qs
    have hEl : (qs.map encS).length = ps.length := by simpa using hq
    by_cases hlt : i < ps.length
    · obtain ⟨⟨xv, xl, xp⟩, hy, hd⟩ := drop_at hlt
      obtain ⟨xs, _⟩ : Ints h xv xl ∧ xl.length < 2 ^ 63 := hv.set _ (List.mem_of_getElem? hy)
      have xn : xl.length ≤ 2 ^ 40 := hsn _ (List.mem_of_getElem? hy)
      have hv2 : Prices0 (h ++ rowOf 2 (qs.map encS) :: t) (.slice oa ps.length c) ps := hv.pre (List.prefix_append ..)
      have w0 : IntKind.i64.wrap (i + 1) = ((i : Int) + 1) := by rw [wrap_ok] <;> omega
      have i0 := prices0_idx hv2 (i := i) (by omega) (by omega)
      rw [show (i : Int).toNat = i by omega] at i0
      simp -implicitDefEqProofs [-indexAddrP_some, hlt, i0, prices0_agg hv2 hy]
      refine CL_post (toSetPrice_run (p := xp) (xs.ext (rowOf 2 (qs.map encS) :: t)) xn) fun v' h2 hk => ?_
      obtain ⟨t2, u, rfl, rfl, hu⟩ := hk
      have hu2 := hu (h ++ none :: t) (by simp)
      have f1 := rowOf_idx (h := h) (l := t ++ t2) (c := ps.length) hE hEl u31 i108 (j := i) (by omega) (by omega)
      rw [show (i : Int).toNat = i by omega] at f1
      obtain ⟨ou, cu, rfl⟩ := hu2.shapeT
      have f2 := rowOf_st (h := h) (l := t ++ t2) (i := i) (t := 108) (w := .agg #[.slice ou xl.length cu, .int .i64 xp]) hE hEl hlt i108 rfl rfl
      rw [show (Value.agg #[.slice ou xl.length cu, .int .i64 xp]).cells.toList = encS ⟨.slice ou xl.length cu, xl, xp⟩ from rfl, ← List.map_set] at f2
      simp -implicitDefEqProofs [-storeP_app0, -indexAddrP_some, -rowAt_app0, f1, f2, w0]
      refine ⟨m - 1, by omega, i + 1, by omega, by omega, qs.set i ⟨.slice ou xl.length cu, xl, xp⟩, t ++ t2, ⟨by rw [List.map_set], rfl⟩, by simpa using hq, fun x hx => ?_, ?_⟩
      · rcases List.mem_or_eq_of_mem_set hx with h3 | rfl
        · exact ⟨by have := (hqs x h3).1.ext t2; simpa using this, (hqs x h3).2⟩
        · exact ⟨by simpa using hu2, xn⟩
      · rw [List.map_set]
        have a1 : ((qs.map fun x => (x.s, x.p)).set i (xl, xp))[i]? = some (xl, xp) := by simp [hq, hlt]
        have a2 : (ps.map fun x => (x.s, x.p))[i]? = some (xl, xp) := by simp [hy]
        rw [take_succ' a1, take_succ' a2, List.take_set, List.set_eq_of_length_le (by simp; omega)]
        rw [List.map_take, List.map_take] at hpre
        rw [hpre]
    · have hi2 : i = ps.length := by omega
      subst hi2
      have hc : Copy ps qs := by
        have h1 : qs.take ps.length = qs := List.take_of_length_le (by omega)
        rw [h1, List.take_length] at hpre
        exact hpre.symm
      simp -implicitDefEqProofs [gc_slice]
      exact ⟨qs, ⟨rowOf_sees hE hEl, fun x hx => ⟨Sees.fill (hqs x hx).1, (hqs x hx).2⟩⟩, hc⟩
  · rw [List.eq_of_mem_replicate hx]
    exact ⟨⟨by simp [zS], none, 0, rfl, .inl ⟨rfl, rfl, rfl⟩⟩, by simp [zS]⟩
end Go.Pm.PP

/- Dispatchers: data, boxes, what loads find. -/
set_option linter.unusedVariables false
set_option linter.unusedSimpArgs false
set_option maxRecDepth 4000
namespace Go.Pm.PP
open Go.Pm Go.Proofs
structure Task where
  j : Int
  m : Int
  s : Int
def encT (t : Task) : List Value := [.int .i64 t.j, .int .i64 t.m, .int .i64 t.s]
abbrev tv (t : Task) : Value := .agg #[.int .i64 t.j, .int .i64 t.m, .int .i64 t.s]
abbrev Tasks (h : Hp) (v : Value) (ts : List Task) : Prop := Sees h v 3 (ts.map encT)
structure Disp where
  m : Int
  p : Int
  now : Int
  js : List Job
  ts : List Task
abbrev dv (d : Disp) (vj vt : Value) : Value := .agg #[.int .i64 d.m, .int .i64 d.p, .int .i64 d.now, vj, vt]
structure DOk (h : Hp) (vj vt : Value) (d : Disp) : Prop where
  j : Jobs h vj d.js
  t : Tasks h vt d.ts
  jn : d.js.length ≤ 2 ^ 40
  tn : d.ts.length ≤ 2 ^ 40
theorem DOk.pre {h h' : Hp} {vj vt : Value} {d : Disp} (o : DOk h vj vt d) (hp : h <+: h') : DOk h' vj vt d := ⟨o.j.pre hp, o.t.pre hp, o.jn, o.tn⟩
theorem DOk.ext {h : Hp} {vj vt : Value} {d : Disp} (o : DOk h vj vt d) (l : Hp) : DOk (h ++ l) vj vt d := o.pre (List.prefix_append ..)
theorem DOk.shapes {h : Hp} {vj vt : Value} {d : Disp} (o : DOk h vj vt d) : (∃ oa c, vj = .slice oa d.js.length c) ∧ ∃ oa c, vt = .slice oa d.ts.length c := ⟨o.j.shapeT, o.t.shapeT⟩

/-- A box: a row of one's own that holds a value. -/
def BoxAt (h : Hp) (r : Nat) (cs : List Value) : Prop := h[r]? = some (some ⟨cs, 0, false⟩)
section
variable {h h' t : Hp} {r : Nat} {cs : List Value}
theorem BoxAt.lt (b : BoxAt h r cs) : r < h.length := (List.getElem?_eq_some_iff.1 b).1
theorem BoxAt.keeps {q : Option Nat} (b : BoxAt h r cs) (k : Keeps q h h') (hr : q ≠ some r) : BoxAt h' r cs := by
  show h'[r]? = _
  rw [k.2 r b.lt hr]; exact b
theorem BoxAt.pre (b : BoxAt h r cs) (hp : h <+: h') : BoxAt h' r cs := b.keeps (q := none) (.ofPre hp) (by simp)
theorem BoxAt.ext (b : BoxAt h r cs) (l : Hp) : BoxAt (h ++ l) r cs := b.pre (List.prefix_append ..)
theorem boxP (hp : h ++ some ⟨cs, 0, false⟩ :: t <+: h') : BoxAt h' h.length cs := by
  have : BoxAt (h ++ some ⟨cs, 0, false⟩ :: t) h.length cs := by
    show (h ++ some _ :: t)[h.length]? = _
    rw [List.getElem?_append_right (Nat.le_refl _), Nat.sub_self]; rfl
  exact this.pre hp
theorem boxP1 {x : Option Row} (hp : h ++ x :: some ⟨cs, 0, false⟩ :: t <+: h') : BoxAt h' (h.length + 1) cs := by
  have := boxP (h := h ++ [x]) (t := t) (cs := cs) (h' := h') (by simpa using hp)
  simpa using this
theorem boxP2 {x y : Option Row} (hp : h ++ x :: y :: some ⟨cs, 0, false⟩ :: t <+: h') : BoxAt h' (h.length + 2) cs := by
  have := boxP (h := h ++ [x, y]) (t := t) (cs := cs) (h' := h') (by simpa using hp)
  simpa using this
theorem boxP3 {x y z : Option Row} (hp : h ++ x :: y :: z :: some ⟨cs, 0, false⟩ :: t <+: h') : BoxAt h' (h.length + 3) cs := by
  have := boxP (h := h ++ [x, y, z]) (t := t) (cs := cs) (h' := h') (by simpa using hp)
  simpa using this
theorem BoxAt.row (b : BoxAt h r cs) {o n : Nat} (hn : n = cs.length) : rowAt h ⟨r, o, some n⟩ = some ⟨cs, 0, false⟩ := by
  have b' : h[r]? = some (some ⟨cs, 0, false⟩) := b
  simp only [rowAt, b', hn, if_true]
/-- Storing into a box. -/
theorem BoxAt.store {P : Program} (b : BoxAt h r cs) {ty : TypeId} {q : TypeInfo} {w : Value} {o n : Nat} (hn : n = cs.length) (hq : P.info? ty = some q) (hw : w.cells.size = q.size) (ho : o + q.size ≤ cs.length) (hone : w.cells.toList.all one = true) :
    ∃ h', storeP P h ty w (.pointer (some ⟨r, o, some n⟩)) = some h' ∧ BoxAt h' r (splice cs o w.cells.toList) ∧ Keeps (some r) h h' := by
  refine ⟨h.set r (some ⟨splice cs o w.cells.toList, 0, false⟩), ?_, ?_, .set⟩
  · simp only [storeP, b.row hn, hq]
    rw [if_pos ⟨trivial, hw, ho, hone⟩]
  · show (h.set r _)[r]? = _
    rw [List.getElem?_set_self b.lt]
end
section
variable {h : Hp} {r : Nat} {vj vt : Value} {m p n : Int}
theorem dbox (b : BoxAt h r [.int .i64 m, .int .i64 p, .int .i64 n, vj, vt]) :
    loadP P h t_int (.pointer (some ⟨r, 0, some 5⟩)) = some (.int .i64 m) ∧ loadP P h t_int (.pointer (some ⟨r, 1, some 5⟩)) = some (.int .i64 p) ∧ loadP P h t_int (.pointer (some ⟨r, 2, some 5⟩)) = some (.int .i64 n) ∧
    loadP P h t_S_impl_Job (.pointer (some ⟨r, 3, some 5⟩)) = some vj ∧ loadP P h t_S_impl_Task (.pointer (some ⟨r, 4, some 5⟩)) = some vt ∧
    loadP P h t_impl_Dispatcher (.pointer (some ⟨r, 0, some 5⟩)) = some (.agg #[.int .i64 m, .int .i64 p, .int .i64 n, vj, vt]) := by
  refine ⟨?_, ?_, ?_, ?_, ?_, ?_⟩ <;> rw [loadP_eq, b.row (n := 5) rfl] <;> simp
theorem tbox {t : Task} (b : BoxAt h r [.int .i64 t.j, .int .i64 t.m, .int .i64 t.s]) :
    loadP P h t_int (.pointer (some ⟨r, 0, some 3⟩)) = some (.int .i64 t.j) ∧ loadP P h t_int (.pointer (some ⟨r, 1, some 3⟩)) = some (.int .i64 t.m) ∧ loadP P h t_int (.pointer (some ⟨r, 2, some 3⟩)) = some (.int .i64 t.s) ∧
    loadP P h t_impl_Task (.pointer (some ⟨r, 0, some 3⟩)) = some (tv t) := by
  refine ⟨?_, ?_, ?_, ?_⟩ <;> rw [loadP_eq, b.row (n := 3) rfl] <;> simp
end
section
variable {h : Hp} {v : Value} {i : Nat}
theorem jobsL {js : List Job} (hv : Jobs h v js) {j : Job} (hj : js[i]? = some j) :
    indexAddrP P h t_S_impl_Job v (.int .i64 i) = some (.pointer (some (addP (base v) (i * 4)))) ∧ loadP P h t_impl_Job (.pointer (some (addP (base v) (i * 4)))) = some (jv j) ∧
    loadP P h t_int (.pointer (some (addP (addP (base v) (i * 4)) 0))) = some (.int .i64 j.t) ∧ loadP P h t_int (.pointer (some (addP (addP (base v) (i * 4)) 1))) = some (.int .i64 j.w) ∧
    loadP P h t_int (.pointer (some (addP (addP (base v) (i * 4)) 2))) = some (.int .i64 j.r) ∧ loadP P h t_int (.pointer (some (addP (addP (base v) (i * 4)) 3))) = some (.int .i64 j.d) := by
  have hi := (List.getElem?_eq_some_iff.1 hj).1
  exact ⟨jobs_idx hv hi, jobs_agg hv hj, jobs_field (k := 0) hv hj (by omega), jobs_field (k := 1) hv hj (by omega), jobs_field (k := 2) hv hj (by omega), jobs_field (k := 3) hv hj (by omega)⟩
theorem intsL {xs : List Int} (hv : Ints h v xs) {x : Int} (hx : xs[i]? = some x) :
    indexAddrP P h t_S_int v (.int .i64 i) = some (.pointer (some (addP (base v) i))) ∧ loadP P h t_int (.pointer (some (addP (base v) i))) = some (.int .i64 x) := by
  have hi := (List.getElem?_eq_some_iff.1 hx).1
  have h1 := ints_idx hv (i := i) (by omega) (by omega)
  rw [Int.toNat_natCast] at h1
  exact ⟨h1, ints_ld hv hx⟩
theorem tasksL {ts : List Task} (hv : Tasks h v ts) {t : Task} (ht : ts[i]? = some t) :
    indexAddrP P h t_S_impl_Task v (.int .i64 i) = some (.pointer (some (addP (base v) (i * 3)))) ∧ loadP P h t_impl_Task (.pointer (some (addP (base v) (i * 3)))) = some (tv t) ∧
    loadP P h t_int (.pointer (some (addP (addP (base v) (i * 3)) 0))) = some (.int .i64 t.j) ∧ loadP P h t_int (.pointer (some (addP (addP (base v) (i * 3)) 1))) = some (.int .i64 t.m) ∧
    loadP P h t_int (.pointer (some (addP (addP (base v) (i * 3)) 2))) = some (.int .i64 t.s) := by
  have hi := (List.getElem?_eq_some_iff.1 ht).1
  have fld : ∀ k, k < 3 → loadP P h 3 (.pointer (some (addP (addP (base v) (i * 3)) k))) = (encT t)[k]? := by
    intro k hk
    have := hv.cellT (P := P) u3 i3 ht hk
    rw [← this]
    simp only [addP, Nat.add_assoc]
  have h1 := hv.indexT (P := P) u_S_impl_Task i_impl_Task (k := .i64) (j := i) (by omega) (by omega)
  rw [Int.toNat_natCast] at h1
  exact ⟨h1, hv.aggT a_impl_Task i_impl_Task ht, fld 0 (by omega), fld 1 (by omega), fld 2 (by omega)⟩
end
end Go.Pm.PP

/- Dispatchers: checks by the reference. -/
set_option linter.unusedVariables false
set_option linter.unusedSimpArgs false
set_option maxRecDepth 4000
set_option maxHeartbeats 1000000
namespace Go.Pm.PP
open Go.Pm Go.Proofs
theorem l3Job_run {h : Hp} {v : Value} {js : List Job} {i : Int} (hv : Jobs h v js) (hn : js.length ≤ 2 ^ 40) :
    Ret P G n_spec_l3Job [v, .int .i64 i] h (.bool (inB i 0 ((js.length : Int) - 1))) h := by
  refine enter_run e_spec_l3Job (by simp) ?_
  obtain ⟨oa, c, rfl⟩ := hv.shapeT
  have w : IntKind.i64.wrap ((js.length : Int) - 1) = (js.length : Int) - 1 := by rw [wrap_ok] <;> omega
  simp -implicitDefEqProofs [w, CL_ret l1In_run]
def hasT (i : Int) (ts : List Task) : Bool := ts.any (·.j == i)
theorem hasT_cons {i : Int} {t : Task} {ts : List Task} : hasT i (t :: ts) = ((t.j == i) || hasT i ts) := rfl
theorem hasT_nil {i : Int} : hasT i [] = false := rfl
theorem l12Task_run {h : Hp} {vj vt : Value} {d : Disp} {i : Int} (o : DOk h vj vt d) :
    Ret P G n_spec_l12Task [dv d vj vt, .int .i64 i] h (.bool (hasT i d.ts)) h := by
  refine enter_run e_spec_l12Task (by simp) ?_
  obtain ⟨⟨oj, cj, rfl⟩, ot, ct, rfl⟩ := o.shapes
  simp -implicitDefEqProofs
  refine R_loop (fun n s h' => ∃ k : Nat, k + n = d.ts.length ∧ s = [(1, .int .i64 i), (2, .pointer (some ⟨h.length, 0, some 5⟩)), (5, .int .i64 k)] ∧ h' = h ++ [some ⟨[.int .i64 d.m, .int .i64 d.p, .int .i64 d.now, .slice oj d.js.length cj, .slice ot d.ts.length ct], 0, false⟩] ∧ hasT i d.ts = hasT i (d.ts.drop k)) (fun n s h' => ?_) ⟨0, Nat.zero_add _, by simp, rfl, by simp⟩
  rintro ⟨k, hi, rfl, rfl, hx⟩
  by_cases hlt : k < d.ts.length
  · obtain ⟨y, hy, hd⟩ := drop_at hlt
    rw [hd, hasT_cons] at hx
    simp -implicitDefEqProofs [hlt, tasksL (o.t.ext _) hy]
    refine CB_split (fun h => ?_) (fun h => ?_)
    · simp -implicitDefEqProofs [hx, h]
    · rw [h, Bool.false_or] at hx
      simp -implicitDefEqProofs [winc hlt o.tn]
      exact ⟨n - 1, by omega, k + 1, by omega, rfl, hx⟩
  · rw [List.drop_eq_nil_of_le (by omega), hasT_nil] at hx
    simp -implicitDefEqProofs [hlt, hx]
/-- One task by itself. -/
def okT (d : Disp) (x : Task) : Bool := inB x.j 0 ((d.js.length : Int) - 1) && inB x.m 0 (w64 (d.m - 1)) && !decide (x.s ≥ d.now) && !decide (x.s < (jobAt d.js x.j).r)
def clash (d : Disp) (x y : Task) : Bool := (y.j == x.j) || ((y.m == x.m) && decide (w64 (y.s + (jobAt d.js y.j).t) > x.s))
def badT (p x : Task) : Bool := decide (p.s > x.s) || ((p.s == x.s) && decide (p.m ≥ x.m))
def badO (p : Option Task) (x : Task) : Bool := match p with | some p => badT p x | none => false
def tasksS (d : Disp) : List Task → List Task → Bool
  | _, [] => true
  | pre, x :: r => okT d x && !(pre.any (clash d x)) && !(badO pre.getLast? x) && tasksS d (pre ++ [x]) r
theorem in_nat {x : Int} {n : Nat} (h : inB x 0 ((n : Int) - 1) = true) : ∃ k : Nat, x = k ∧ k < n := by
  simp [inB] at h
  exact ⟨x.toNat, by omega, by omega⟩
theorem get_jobAt {js : List Job} {k : Nat} (hk : k < js.length) : js[k]? = some (jobAt js k) := by
  have := jobAt_some (js := js) (i := (k : Int)) (by omega) (by omega)
  simpa using this
theorem l12Tasks_run {h : Hp} {vj vt : Value} {d : Disp} (o : DOk h vj vt d) :
    Ret P G n_spec_l12Tasks [dv d vj vt] h (.bool (tasksS d [] d.ts)) h := by
  refine enter_run e_spec_l12Tasks (by simp) ?_
  have os := o
  obtain ⟨⟨oj, cj, rfl⟩, ot, ct, rfl⟩ := o.shapes
  simp -implicitDefEqProofs
  refine R_loop (fun n s h' => ∃ k : Nat, k + n = d.ts.length ∧ s = [(1, .pointer (some ⟨h.length, 0, some 5⟩)), (3, .int .i64 k)] ∧ h ++ [some ⟨[.int .i64 d.m, .int .i64 d.p, .int .i64 d.now, .slice oj d.js.length cj, .slice ot d.ts.length ct], 0, false⟩] <+: h' ∧ (∀ y ∈ d.ts.take k, inB y.j 0 ((d.js.length : Int) - 1) = true) ∧ tasksS d [] d.ts = tasksS d (d.ts.take k) (d.ts.drop k)) (fun n s h' => ?_) ⟨0, Nat.zero_add _, by simp, List.prefix_rfl, by simp, by simp⟩
  rintro ⟨k, hi, rfl, hp, hin, hx⟩
  have b1 := boxP hp
  have hp0 : h <+: h' := (List.prefix_append ..).trans hp
  have o1 := os.pre hp0
  by_cases hlt : k < d.ts.length
  · obtain ⟨x, hy, hd⟩ := drop_at hlt
    rw [hd, tasksS, ← take_succ' hy] at hx
    have wj : IntKind.i64.wrap ((d.m : Int) - 1) = w64 (d.m - 1) := rfl
    cases c1 : inB x.j 0 ((d.js.length : Int) - 1)
    · rw [okT, c1] at hx
      simp at hx
      simp -implicitDefEqProofs [hlt, dbox b1, dbox (b1.ext _), tasksL o1.t hy, tasksL (o1.t.ext _) hy, CH_at (l3Job_run (o1.j.ext _) o1.jn), c1, hx, gcB' hp0]
    · obtain ⟨q, hq, hql⟩ := in_nat c1
      have hjq := get_jobAt hql
      obtain ⟨xj, xm, xs⟩ := x
      simp only at hq
      subst hq
      simp only at c1
      cases c2 : inB xm 0 (IntKind.i64.wrap (d.m - 1))
      · rw [okT, c1, w64, c2] at hx
        simp at hx
        simp -implicitDefEqProofs [hlt, dbox b1, dbox (b1.ext _), tasksL o1.t hy, tasksL (o1.t.ext _) hy, CH_at (l3Job_run (o1.j.ext _) o1.jn), CH_ret l1In_run, c1, c2, hx, gcB' hp0]
      · cases c3 : decide (xs ≥ d.now)
        · have c3' : ¬ d.now ≤ xs := by simpa using c3
          cases c4 : decide (xs < (jobAt d.js q).r)
          · have c4' : ¬ xs < (jobAt d.js q).r := by simpa using c4
            rw [okT, c1, w64, c2, c3, c4] at hx
            simp only [Bool.not_false, Bool.and_true, Bool.true_and] at hx
            simp -implicitDefEqProofs [hlt, dbox b1, dbox (b1.ext _), tasksL o1.t hy, tasksL (o1.t.ext _) hy, CH_at (l3Job_run (o1.j.ext _) o1.jn), CH_ret l1In_run, c1, c2, c3', c4', jobsL (o1.j.ext _) hjq]
            refine R_loop (fun n2 s h2 => ∃ e : Nat, e + n2 = k ∧ s = [(1, .pointer (some ⟨h.length, 0, some 5⟩)), (3, .int .i64 k), (4, .pointer (some ⟨h'.length, 0, some 3⟩)), (5, .int .i64 e)] ∧ h' ++ [some ⟨[.int .i64 q, .int .i64 xm, .int .i64 xs], 0, false⟩] <+: h2 ∧ (d.ts.take k).any (clash d ⟨q, xm, xs⟩) = ((d.ts.take k).drop e).any (clash d ⟨q, xm, xs⟩)) (fun n2 s h2 => ?_) ⟨0, Nat.zero_add _, by simp, List.prefix_rfl, by simp⟩
            rintro ⟨e, he, rfl, hp2, hx2⟩
            have hp12 : h' <+: h2 := (List.prefix_append ..).trans hp2
            have b2 := boxP hp2
            have b12 := b1.pre hp12
            have o2 := o1.pre hp12
            have hp02 := hp0.trans hp12
            by_cases hlt2 : e < k
            · obtain ⟨y, hy2, hd2⟩ := drop_at (show e < (d.ts.take k).length by simp; omega)
              rw [hd2, List.any_cons] at hx2
              have hym : y ∈ d.ts.take k := List.mem_of_getElem? hy2
              rw [List.getElem?_take, if_pos hlt2] at hy2
              obtain ⟨q2, hq2, hql2⟩ := in_nat (hin y hym)
              have hjq2 := get_jobAt hql2
              obtain ⟨yj, ym, ys⟩ := y
              simp only at hq2
              subst hq2
              cases d1 : ((q2 : Int) == (q : Int))
              · cases d2 : (ym == xm)
                · rw [clash] at hx2
                  simp only [d1, d2, Bool.false_and, Bool.or_false, Bool.false_or] at hx2
                  simp -implicitDefEqProofs [hlt2, dbox b12, dbox (b12.ext _), tbox (t := ⟨q, xm, xs⟩) (b2.ext _), tasksL o2.t hy2, tasksL (o2.t.ext _) hy2, d1, d2, winc hlt2 (show k ≤ 2 ^ 40 by have := o.tn; omega)]
                  exact ⟨n2 - 1, by omega, e + 1, by omega, by omega, hp2.trans (List.prefix_append ..), hx2⟩
                · cases d3 : decide (w64 (ys + (jobAt d.js q2).t) > xs)
                  · have d3' : ¬ xs < IntKind.i64.wrap (ys + (jobAt d.js q2).t) := by simpa [w64] using d3
                    rw [clash] at hx2
                    simp only [d1, d2, d3, Bool.and_false, Bool.or_false, Bool.false_or] at hx2
                    simp -implicitDefEqProofs [hlt2, dbox b12, dbox (b12.ext _), tbox (t := ⟨q, xm, xs⟩) (b2.ext _), tasksL o2.t hy2, tasksL (o2.t.ext _) hy2, d1, d2, d3', jobsL (o2.j.ext _) hjq2, winc hlt2 (show k ≤ 2 ^ 40 by have := o.tn; omega)]
                    exact ⟨n2 - 1, by omega, e + 1, by omega, by omega, hp2.trans (List.prefix_append ..), hx2⟩
                  · have d3' : xs < IntKind.i64.wrap (ys + (jobAt d.js q2).t) := by simpa [w64] using d3
                    rw [clash] at hx2
                    simp only [d1, d2, d3, Bool.and_true, Bool.or_true, Bool.true_or] at hx2
                    rw [hx2] at hx
                    simp at hx
                    simp -implicitDefEqProofs [hlt2, dbox b12, dbox (b12.ext _), tbox (t := ⟨q, xm, xs⟩) (b2.ext _), tasksL o2.t hy2, tasksL (o2.t.ext _) hy2, d1, d2, d3', jobsL (o2.j.ext _) hjq2, hx, gcB' hp02]
              · rw [clash] at hx2
                simp only [d1, Bool.true_or] at hx2
                rw [hx2] at hx
                simp at hx
                simp -implicitDefEqProofs [hlt2, dbox b12, dbox (b12.ext _), tbox (t := ⟨q, xm, xs⟩) (b2.ext _), tasksL o2.t hy2, tasksL (o2.t.ext _) hy2, d1, hx, gcB' hp02]
            · rw [List.drop_eq_nil_of_le (by simp; omega), List.any_nil] at hx2
              rw [hx2] at hx
              simp only [Bool.not_false, Bool.true_and] at hx
              have hin' : ∀ y ∈ d.ts.take (k + 1), inB y.j 0 ((d.js.length : Int) - 1) = true := by
                intro y hm
                rw [take_succ' hy] at hm
                rcases List.mem_append.1 hm with hm | hm
                · exact hin y hm
                · rw [List.mem_singleton.1 hm]; exact c1
              have htk := take_succ' hy
              cases k with
              | zero =>
                simp only [List.take_zero, List.getLast?_nil, badO, Bool.not_false, Bool.true_and] at hx
                have w1 : IntKind.i64.wrap 1 = 1 := by rw [wrap_ok] <;> omega
                simp -implicitDefEqProofs [show ¬ e < 0 by omega, show ¬ (e : Int) < 0 by omega, w1]
                exact ⟨n - 1, by omega, 1, by omega, by omega, hp.trans hp12, hin', hx⟩
              | succ k =>
                obtain ⟨p, hy3, _⟩ := drop_at (show k < d.ts.length by omega)
                have hgl : (d.ts.take (k + 1)).getLast? = some p := by rw [take_succ' hy3]; simp
                rw [hgl] at hx
                have w0 : IntKind.i64.wrap ((k : Int) + 1 - 1) = k := by rw [wrap_ok] <;> have := o.tn <;> omega
                have w0' : IntKind.i64.wrap (k : Int) = k := by rw [wrap_ok] <;> have := o.tn <;> omega
                have w2 : IntKind.i64.wrap ((k : Int) + 1 + 1) = (k : Int) + 1 + 1 := by rw [wrap_ok] <;> have := o.tn <;> omega
                have hk0 : (0 : Int) < (k : Int) + 1 := by omega
                have hek : ¬ e < k + 1 := by omega
                have hek' : ¬ (e : Int) < (k : Int) + 1 := by omega
                have next : tasksS d [] d.ts = tasksS d (d.ts.take (k + 1 + 1)) (d.ts.drop (k + 1 + 1)) → ∃ m, m < n ∧ ∃ k_1 : Nat, k_1 + m = d.ts.length ∧ (k : Int) + 1 + 1 = k_1 ∧ h ++ [some ⟨[.int .i64 d.m, .int .i64 d.p, .int .i64 d.now, .slice oj d.js.length cj, .slice ot d.ts.length ct], 0, false⟩] <+: h2 ∧ (∀ y ∈ d.ts.take k_1, inB y.j 0 ((d.js.length : Int) - 1) = true) ∧ tasksS d [] d.ts = tasksS d (d.ts.take k_1) (d.ts.drop k_1) := fun hx => ⟨n - 1, by omega, k + 1 + 1, by omega, by omega, hp.trans hp12, hin', hx⟩
                cases e1 : decide (p.s > xs)
                · have e1' : ¬ xs < p.s := by simpa using e1
                  cases e2 : (p.s == xs)
                  · simp only [badO, badT, e1, e2, Bool.false_and, Bool.or_false, Bool.not_false, Bool.true_and] at hx
                    simp -implicitDefEqProofs [hek, hek', hk0, w0, w0', w2, dbox b12, tbox (t := ⟨q, xm, xs⟩) b2, tasksL o2.t hy3, e1', e2]
                    simpa using next hx
                  · cases e3 : decide (p.m ≥ xm)
                    · have e3' : ¬ xm ≤ p.m := by simpa using e3
                      simp only [badO, badT, e1, e2, e3, Bool.and_false, Bool.or_false, Bool.not_false, Bool.true_and] at hx
                      simp -implicitDefEqProofs [hek, hek', hk0, w0, w0', w2, dbox b12, tbox (t := ⟨q, xm, xs⟩) b2, tasksL o2.t hy3, e1', e2, e3']
                      simpa using next hx
                    · have e3' : xm ≤ p.m := by simpa using e3
                      simp [badO, badT, e1, e2, e3] at hx
                      simp -implicitDefEqProofs [hek, hek', hk0, w0, w0', w2, dbox b12, tbox (t := ⟨q, xm, xs⟩) b2, tasksL o2.t hy3, e1', e2, e3', hx, gcB hp02]
                · have e1' : xs < p.s := by simpa using e1
                  simp [badO, badT, e1] at hx
                  simp -implicitDefEqProofs [hek, hek', hk0, w0, w0', w2, dbox b12, tbox (t := ⟨q, xm, xs⟩) b2, tasksL o2.t hy3, e1', hx, gcB hp02]
          · have c4' : xs < (jobAt d.js q).r := by simpa using c4
            rw [okT, c1, w64, c2, c3, c4] at hx
            simp at hx
            simp -implicitDefEqProofs [hlt, dbox b1, dbox (b1.ext _), tasksL o1.t hy, tasksL (o1.t.ext _) hy, CH_at (l3Job_run (o1.j.ext _) o1.jn), CH_ret l1In_run, c1, c2, c3', c4', jobsL (o1.j.ext _) hjq, hx, gcB' hp0]
        · have c3' : d.now ≤ xs := by simpa using c3
          rw [okT, c1, w64, c2, c3] at hx
          simp at hx
          simp -implicitDefEqProofs [hlt, dbox b1, dbox (b1.ext _), tasksL o1.t hy, tasksL (o1.t.ext _) hy, CH_at (l3Job_run (o1.j.ext _) o1.jn), CH_ret l1In_run, c1, c2, c3', hx, gcB' hp0]
  · rw [List.drop_eq_nil_of_le (by omega), tasksS] at hx
    simp -implicitDefEqProofs [hlt, hx, dbox b1, gcB hp0]
def goodD (d : Disp) : Bool := inB d.m 1 4 && inB d.p 1 4 && inB d.now 0 1000 && (goodL d.js && decide (d.js.length ≤ 8)) && tasksS d [] d.ts
theorem l12Good_run {h : Hp} {vj vt : Value} {d : Disp} (o : DOk h vj vt d) :
    Ret P G n_spec_l12Good [dv d vj vt] h (.bool (goodD d)) h := by
  refine enter_run e_spec_l12Good (by simp) ?_
  have os := o
  obtain ⟨⟨oj, cj, rfl⟩, ot, ct, rfl⟩ := o.shapes
  have r1 := l2Good_run (os.j.ext [some ⟨[.int .i64 d.m, .int .i64 d.p, .int .i64 d.now, .slice oj d.js.length cj, .slice ot d.ts.length ct], 0, false⟩]) os.jn
  have r2 := l12Tasks_run (os.ext [some ⟨[.int .i64 d.m, .int .i64 d.p, .int .i64 d.now, .slice oj d.js.length cj, .slice ot d.ts.length ct], 0, false⟩])
  cases c1 : inB d.m 1 4 <;> cases c2 : inB d.p 1 4 <;> cases c3 : inB d.now 0 1000 <;> cases c4 : (goodL d.js && decide (d.js.length ≤ 8)) <;>
    simp -implicitDefEqProofs [CL_ret l1In_run, CL_ret r1, CL_ret r2, c1, c2, c3, c4, goodD]
end Go.Pm.PP

/- Dispatchers: checks by the program. -/
set_option linter.unusedVariables false
set_option linter.unusedSimpArgs false
set_option maxRecDepth 4000
set_option maxHeartbeats 1000000
namespace Go.Pm.PP
open Go.Pm Go.Proofs
theorem endOf_run {h : Hp} {vj vt : Value} {d : Disp} {q : Nat} {m s : Int} (o : DOk h vj vt d) (hq : q < d.js.length) :
    Ret P G n_impl_Dispatcher_endOf [dv d vj vt, tv ⟨q, m, s⟩] h (.int .i64 (w64 (s + (jobAt d.js q).t))) h := by
  refine enter_run e_impl_Dispatcher_endOf (by simp) ?_
  have os := o
  obtain ⟨⟨oj, cj, rfl⟩, ot, ct, rfl⟩ := o.shapes
  have hjq := get_jobAt hq
  simp -implicitDefEqProofs [jobsL (os.j.ext _) hjq, w64]
def okI (d : Disp) (x : Task) : Bool := inB x.j 0 ((d.js.length : Int) - 1) && inB x.m 0 (w64 (d.m - 1)) && inB x.s (jobAt d.js x.j).r (w64 (d.now - 1))
def tasksI (d : Disp) : List Task → List Task → Bool
  | _, [] => true
  | pre, x :: r => okI d x && !(badO pre.getLast? x) && !(pre.any (clash d x)) && tasksI d (pre ++ [x]) r
def goodI (d : Disp) : Bool := inB d.m 1 4 && inB d.p 1 4 && inB d.now 0 1000 && (decide (d.js.length ≤ 8) && goodL d.js) && tasksI d [] d.ts
set_option maxHeartbeats 4000000 in
theorem IsDispatcher_run {h : Hp} {vj vt : Value} {d : Disp} (o : DOk h vj vt d) :
    Ret P G n_impl_IsDispatcher [dv d vj vt] h (.bool (goodI d)) h := by
  refine enter_run e_impl_IsDispatcher (by simp) ?_
  have os := o
  obtain ⟨⟨oj, cj, rfl⟩, ot, ct, rfl⟩ := o.shapes
  have r1 := IsJobs_run (os.j.ext [some ⟨[.int .i64 d.m, .int .i64 d.p, .int .i64 d.now, .slice oj d.js.length cj, .slice ot d.ts.length ct], 0, false⟩]) os.jn
  cases c1 : inB d.m 1 4
  · simp -implicitDefEqProofs [CL_ret within_run, c1, goodI]
  cases c2 : inB d.p 1 4
  · simp -implicitDefEqProofs [CL_ret within_run, c1, c2, goodI]
  cases c3 : inB d.now 0 1000
  · simp -implicitDefEqProofs [CL_ret within_run, c1, c2, c3, goodI]
  cases c4 : (decide (d.js.length ≤ 8) && goodL d.js)
  · simp -implicitDefEqProofs [CL_ret within_run, CL_ret r1, c1, c2, c3, c4, goodI]
  rw [goodI, c1, c2, c3, c4]
  simp only [Bool.true_and]
  simp -implicitDefEqProofs [CL_ret within_run, CL_ret r1, c1, c2, c3, c4]
  have wl : w64 ((d.js.length : Int) - 1) = (d.js.length : Int) - 1 := by have := os.jn; rw [w64, wrap_ok] <;> omega
  refine R_loop (fun n s h' => ∃ k : Nat, k + n = d.ts.length ∧ s = [(1, .pointer (some ⟨h.length, 0, some 5⟩)), (30, .slice ot d.ts.length ct), (31, .int .i64 d.ts.length), (32, .int .i64 k)] ∧ h ++ [some ⟨[.int .i64 d.m, .int .i64 d.p, .int .i64 d.now, .slice oj d.js.length cj, .slice ot d.ts.length ct], 0, false⟩] <+: h' ∧ (∀ y ∈ d.ts.take k, inB y.j 0 ((d.js.length : Int) - 1) = true) ∧ tasksI d [] d.ts = tasksI d (d.ts.take k) (d.ts.drop k)) (fun n s h' => ?_) ⟨0, Nat.zero_add _, by simp, List.prefix_rfl, by simp, by simp⟩
  rintro ⟨k, hi, rfl, hp, hin, hx⟩
  have b1 := boxP hp
  have hp0 : h <+: h' := (List.prefix_append ..).trans hp
  have o1 := os.pre hp0
  by_cases hlt : k < d.ts.length
  · obtain ⟨x, hy, hd⟩ := drop_at hlt
    rw [hd, tasksI, ← take_succ' hy] at hx
    cases c1 : inB x.j 0 ((d.js.length : Int) - 1)
    · rw [okI, c1] at hx
      simp at hx
      simp -implicitDefEqProofs [hlt, dbox b1, dbox (b1.ext _), tasksL o1.t hy, tasksL (o1.t.ext _) hy, CH_ret isNumber_run, CL_ret isNumber_run, wl, c1, hx, gcB' hp0]
    · obtain ⟨q, hq, hql⟩ := in_nat c1
      have hjq := get_jobAt hql
      obtain ⟨xj, xm, xs⟩ := x
      simp only at hq
      subst hq
      simp only at c1
      cases c2 : inB xm 0 (w64 (d.m - 1))
      · rw [okI, c1, c2] at hx
        simp at hx
        simp -implicitDefEqProofs [hlt, dbox b1, dbox (b1.ext _), tasksL o1.t hy, tasksL (o1.t.ext _) hy, CH_ret isNumber_run, CL_ret isNumber_run, wl, c1, c2, hx, gcB' hp0]
      · cases c3 : inB xs (jobAt d.js q).r (w64 (d.now - 1))
        · rw [okI, c1, c2, c3] at hx
          simp at hx
          rw [w64] at c3
          simp -implicitDefEqProofs [hlt, dbox b1, dbox (b1.ext _), tasksL o1.t hy, tasksL (o1.t.ext _) hy, CH_ret isNumber_run, CL_ret isNumber_run, CH_ret within_run, CL_ret within_run, wl, c1, c2, c3, jobsL (o1.j.ext _) hjq, hx, gcB' hp0]
        · rw [okI, c1, c2, c3] at hx
          simp only [Bool.and_true, Bool.true_and] at hx
          rw [w64] at c3
          have hin' : ∀ y ∈ d.ts.take (k + 1), inB y.j 0 ((d.js.length : Int) - 1) = true := by
            intro y hm
            rw [take_succ' hy] at hm
            rcases List.mem_append.1 hm with hm | hm
            · exact hin y hm
            · rw [List.mem_singleton.1 hm]; exact c1
          have hkc : k = 0 ∨ (0 < k ∧ ∃ p, d.ts[k - 1]? = some p ∧ (d.ts.take k).getLast? = some p) := by
            rcases Nat.eq_zero_or_pos k with h0 | h0
            · exact .inl h0
            · obtain ⟨p, hy3, _⟩ := drop_at (show k - 1 < d.ts.length by omega)
              have e := take_succ' hy3
              rw [show k - 1 + 1 = k by omega] at e
              exact .inr ⟨h0, p, hy3, by rw [e]; simp⟩
          have wk : 0 < k → IntKind.i64.wrap ((k : Int) - 1) = ((k - 1 : Nat) : Int) := fun h0 => by rw [wrap_ok] <;> have := o1.tn <;> omega
          cases e0 : badO (d.ts.take k).getLast? ⟨q, xm, xs⟩
          · rw [e0] at hx
            simp only [Bool.not_false, Bool.true_and] at hx
            obtain ⟨vs, hs, hvs⟩ := Sees.front (P := P) (o1.t.ext [some ⟨[.int .i64 q, .int .i64 xm, .int .i64 xs], 0, false⟩]) u_S_impl_Task i_impl_Task (k := .i64) (j := k) (by omega) (by simp; omega)
            rw [Int.toNat_natCast, ← List.map_take] at hvs
            have hlk : (d.ts.take k).length = k := by simp; omega
            obtain ⟨oa, cs, hvv⟩ := hvs.shapeT
            rw [hlk] at hvv
            subst hvv
            rcases hkc with h0 | ⟨h0, p, hy3, hgl⟩
            case' inl => simp -implicitDefEqProofs [hlt, dbox b1, dbox (b1.ext _), tasksL o1.t hy, tasksL (o1.t.ext _) hy, CH_ret isNumber_run, CL_ret isNumber_run, CH_ret within_run, CL_ret within_run, wl, c1, c2, c3, jobsL (o1.j.ext _) hjq, hs, show ¬ 0 < k by omega]
            case' inr =>
              rw [hgl] at e0
              cases e1 : decide (p.s > xs)
              case' true => simp [badO, badT, e1] at e0
              cases e2 : (p.s == xs)
              case' false => simp -implicitDefEqProofs [hlt, dbox b1, dbox (b1.ext _), tasksL o1.t hy, tasksL (o1.t.ext _) hy, CH_ret isNumber_run, CL_ret isNumber_run, CH_ret within_run, CL_ret within_run, wl, c1, c2, c3, jobsL (o1.j.ext _) hjq, hs, h0, wk h0, tasksL (o1.t.ext _) hy3, show ¬ xs < p.s by simpa using e1, e2]
              case' true =>
                cases e3 : decide (p.m ≥ xm)
                case' true => simp [badO, badT, e1, e2, e3] at e0
                simp -implicitDefEqProofs [hlt, dbox b1, dbox (b1.ext _), tasksL o1.t hy, tasksL (o1.t.ext _) hy, CH_ret isNumber_run, CL_ret isNumber_run, CH_ret within_run, CL_ret within_run, wl, c1, c2, c3, jobsL (o1.j.ext _) hjq, hs, h0, wk h0, tasksL (o1.t.ext _) hy3, show ¬ xs < p.s by simpa using e1, e2, show ¬ xm ≤ p.m by simpa using e3]
            all_goals
              refine R_loop (fun n2 s h2 => ∃ e : Nat, e + n2 = k ∧ s = [(1, .pointer (some ⟨h.length, 0, some 5⟩)), (4, .pointer (some ⟨h'.length, 0, some 3⟩)), (30, .slice ot d.ts.length ct), (31, .int .i64 d.ts.length), (32, .int .i64 k), (109, .slice oa k cs), (110, .int .i64 k), (111, .int .i64 e)] ∧ h' ++ [some ⟨[.int .i64 q, .int .i64 xm, .int .i64 xs], 0, false⟩] <+: h2 ∧ (d.ts.take k).any (clash d ⟨q, xm, xs⟩) = ((d.ts.take k).drop e).any (clash d ⟨q, xm, xs⟩)) (fun n2 s h2 => ?_) ⟨0, Nat.zero_add _, by simp, List.prefix_rfl, by simp⟩
              rintro ⟨e, he, rfl, hp2, hx2⟩
              have hp12 : h' <+: h2 := (List.prefix_append ..).trans hp2
              have b2 := boxP hp2
              have b12 := b1.pre hp12
              have o2 := o1.pre hp12
              have hp02 := hp0.trans hp12
              have hv2 := hvs.pre hp2
              by_cases hlt2 : e < k
              · obtain ⟨y, hy2, hd2⟩ := drop_at (show e < (d.ts.take k).length by simp; omega)
                rw [hd2, List.any_cons] at hx2
                have hym : y ∈ d.ts.take k := List.mem_of_getElem? hy2
                obtain ⟨q2, hq2, hql2⟩ := in_nat (hin y hym)
                obtain ⟨yj, ym, ys⟩ := y
                simp only at hq2
                subst hq2
                have re : ∀ l, Ret P G n_impl_Dispatcher_endOf [dv d (.slice oj d.js.length cj) (.slice ot d.ts.length ct), tv ⟨q2, ym, ys⟩] (h2 ++ l) (.int .i64 (w64 (ys + (jobAt d.js q2).t))) (h2 ++ l) := fun l => endOf_run (o2.ext l) hql2
                cases d1 : ((q2 : Int) == (q : Int))
                · cases d2 : (ym == xm)
                  · rw [clash] at hx2
                    simp only [d1, d2, Bool.false_and, Bool.or_false, Bool.false_or] at hx2
                    simp -implicitDefEqProofs [hlt2, dbox b12, dbox (b12.ext _), tbox (t := ⟨q, xm, xs⟩) (b2.ext _), tasksL hv2 hy2, tasksL (hv2.ext _) hy2, d1, d2, winc hlt2 (show k ≤ 2 ^ 40 by have := o.tn; omega)]
                    exact ⟨n2 - 1, by omega, e + 1, by omega, by omega, hp2.trans (List.prefix_append ..), hx2⟩
                  · cases d3 : decide (w64 (ys + (jobAt d.js q2).t) > xs)
                    · have d3' : ¬ xs < w64 (ys + (jobAt d.js q2).t) := by simpa using d3
                      rw [clash] at hx2
                      simp only [d1, d2, d3, Bool.and_false, Bool.or_false, Bool.false_or] at hx2
                      simp -implicitDefEqProofs [hlt2, dbox b12, dbox (b12.ext _), tbox (t := ⟨q, xm, xs⟩) (b2.ext _), tasksL hv2 hy2, tasksL (hv2.ext _) hy2, d1, d2, d3', CH_at (re _), CL_ret (re _), winc hlt2 (show k ≤ 2 ^ 40 by have := o.tn; omega)]
                      exact ⟨n2 - 1, by omega, e + 1, by omega, by omega, hp2.trans (List.prefix_append ..), hx2⟩
                    · have d3' : xs < w64 (ys + (jobAt d.js q2).t) := by simpa using d3
                      rw [clash] at hx2
                      simp only [d1, d2, d3, Bool.and_true, Bool.or_true, Bool.true_or] at hx2
                      rw [hx2] at hx
                      simp at hx
                      simp -implicitDefEqProofs [hlt2, dbox b12, dbox (b12.ext _), tbox (t := ⟨q, xm, xs⟩) (b2.ext _), tasksL hv2 hy2, tasksL (hv2.ext _) hy2, d1, d2, d3', CH_at (re _), CL_ret (re _), hx, gcB' hp02]
                · rw [clash] at hx2
                  simp only [d1, Bool.true_or] at hx2
                  rw [hx2] at hx
                  simp at hx
                  simp -implicitDefEqProofs [hlt2, dbox b12, dbox (b12.ext _), tbox (t := ⟨q, xm, xs⟩) (b2.ext _), tasksL hv2 hy2, tasksL (hv2.ext _) hy2, d1, hx, gcB' hp02]
              · rw [List.drop_eq_nil_of_le (by simp; omega), List.any_nil] at hx2
                rw [hx2] at hx
                simp only [Bool.not_false, Bool.true_and] at hx
                simp -implicitDefEqProofs [hlt2, winc hlt o1.tn]
                exact ⟨n - 1, by omega, k + 1, by omega, by omega, hp.trans hp12, hin', hx⟩
          · rw [e0] at hx
            simp only [Bool.not_true, Bool.false_and] at hx
            rcases hkc with h0 | ⟨h0, p, hy3, hgl⟩
            · subst h0; simp [badO] at e0
            · rw [hgl] at e0
              cases e1 : decide (p.s > xs)
              · cases e2 : (p.s == xs)
                · simp [badO, badT, e1, e2] at e0
                · cases e3 : decide (p.m ≥ xm)
                  · simp [badO, badT, e1, e2, e3] at e0
                  · simp -implicitDefEqProofs [hlt, dbox b1, dbox (b1.ext _), tasksL o1.t hy, tasksL (o1.t.ext _) hy, CH_ret isNumber_run, CL_ret isNumber_run, CH_ret within_run, CL_ret within_run, wl, c1, c2, c3, jobsL (o1.j.ext _) hjq, h0, wk h0, tasksL (o1.t.ext _) hy3, show ¬ xs < p.s by simpa using e1, e2, show xm ≤ p.m by simpa using e3, hx, gcB' hp0]
              · simp -implicitDefEqProofs [hlt, dbox b1, dbox (b1.ext _), tasksL o1.t hy, tasksL (o1.t.ext _) hy, CH_ret isNumber_run, CL_ret isNumber_run, CH_ret within_run, CL_ret within_run, wl, c1, c2, c3, jobsL (o1.j.ext _) hjq, h0, wk h0, tasksL (o1.t.ext _) hy3, show xs < p.s by simpa using e1, hx, gcB' hp0]
  · rw [List.drop_eq_nil_of_le (by omega), tasksI] at hx
    simp -implicitDefEqProofs [hlt, hx, dbox b1, gcB hp0]
end Go.Pm.PP

/- Appending to slices of one's own. -/
set_option linter.unusedVariables false
set_option linter.unusedSimpArgs false
set_option maxRecDepth 4000
namespace Go.Pm.PP
open Go.Pm Go.Proofs
attribute [simp] evParts buildSliceP fillP buildP places reps
theorem nb {a b : Int} (h : ¬ a = b) : (a == b) = false := by simpa using h
/-- A row that was made just now. -/
theorem sees_new {h l : Hp} {k n m sz : Nat} {cs : List Value} (hl : l[k]? = some (some ⟨cs, sz, false⟩)) (els : List (List Value)) (he : els.flatten = cs) (hsz : ∀ e ∈ els, e.length = sz) (hn : n = cs.length) (hm : m = els.length) : Sees (h ++ l) (.slice (some ⟨h.length + k, 0, some n⟩) m m) sz els := by
  subst hm; subst hn; subst he
  refine ⟨hsz, _, _, rfl, .inr ⟨h.length + k, 0, ⟨els.flatten, sz, false⟩, rfl, ?_, rfl, ?_, ?_, Nat.le_refl _⟩⟩
  · rw [hget_app]; exact hl
  · show 0 + _ ≤ els.flatten.length
    rw [flat_len hsz]; omega
  · show (els.flatten.drop 0).take _ = _
    rw [List.drop_zero, List.take_of_length_le (by rw [flat_len hsz]; exact Nat.le_refl _)]
theorem ones_I (xs : List Int) : (xs.map encI).flatten.all one = true := by
  induction xs with
  | nil => rfl
  | cons x xs ih => rw [List.map_cons, List.flatten_cons, List.all_append, ih]; rfl
theorem ones_J (xs : List Job) : (xs.map encJ).flatten.all one = true := by
  induction xs with
  | nil => rfl
  | cons x xs ih => rw [List.map_cons, List.flatten_cons, List.all_append, ih]; rfl
theorem ones_T (xs : List Task) : (xs.map encT).flatten.all one = true := by
  induction xs with
  | nil => rfl
  | cons x xs ih => rw [List.map_cons, List.flatten_cons, List.all_append, ih]; rfl
/-- What append leaves. -/
def Appd (b : Nat) (h : Hp) (v : Value) (sz : Nat) (els : List (List Value)) (v' : Value) (h' : Hp) : Prop :=
  Own b h' v' sz els ∧ Keeps (rowV v) h h' ∧ (rowV v' = rowV v ∨ ∃ r, rowV v' = some r ∧ h.length ≤ r)
section
variable {b : Nat} {h : Hp} {v x : Value}
theorem ints_app {xs ys : List Int} (o : Own b h v 1 (xs.map encI)) (hb : b ≤ h.length) (s : Ints h x ys) (hn : xs.length + ys.length ≤ 2 ^ 41) :
    ∃ v' h', appendP P h t_S_int v x = some (v', h') ∧ Appd b h v 1 ((xs ++ ys).map encI) v' h' := by
  have := o.append (P := P) u_S_int e_t_int z_t_int ti_3_size (by omega) (by rw [ti_3_bytes]; omega) s (ones_I ys) hb (by rw [ti_3_bytes]; simp; omega)
  rw [← List.map_append] at this
  exact this
theorem jobs_app {xs ys : List Job} (o : Own b h v 4 (xs.map encJ)) (hb : b ≤ h.length) (s : Jobs h x ys) (hn : xs.length + ys.length ≤ 2 ^ 41) :
    ∃ v' h', appendP P h t_S_impl_Job v x = some (v', h') ∧ Appd b h v 4 ((xs ++ ys).map encJ) v' h' := by
  have := o.append (P := P) u_S_impl_Job e_t_impl_Job z_t_impl_Job ti_58_size (by omega) (by rw [ti_58_bytes]; omega) s (ones_J ys) hb (by rw [ti_58_bytes]; simp; omega)
  rw [← List.map_append] at this
  exact this
theorem tasks_app {xs ys : List Task} (o : Own b h v 3 (xs.map encT)) (hb : b ≤ h.length) (s : Tasks h x ys) (hn : xs.length + ys.length ≤ 2 ^ 41) :
    ∃ v' h', appendP P h t_S_impl_Task v x = some (v', h') ∧ Appd b h v 3 ((xs ++ ys).map encT) v' h' := by
  have := o.append (P := P) u_S_impl_Task e_t_impl_Task z_t_impl_Task ti_134_size (by omega) (by rw [ti_134_bytes]; omega) s (ones_T ys) hb (by rw [ti_134_bytes]; simp; omega)
  rw [← List.map_append] at this
  exact this
end
end Go.Pm.PP

/- Dispatchers: rules, and the jobs that wait. -/
set_option linter.unusedVariables false
set_option linter.unusedSimpArgs false
set_option maxRecDepth 4000
set_option maxHeartbeats 1000000
namespace Go.Pm.PP
open Go.Pm Go.Proofs
def diffJ (a b : Job) (o : Int) : Int :=
  if o = 1 then w64 (a.r - b.r) else if o = 2 then w64 (a.t - b.t) else if o = 3 then w64 (w64 (a.t * b.w) - w64 (b.t * a.w)) else w64 (a.d - b.d)
theorem difference_run {h : Hp} {a b : Job} {o : Int} : Ret P G n_impl_difference [jv a, jv b, .int .i64 o] h (.int .i64 (diffJ a b o)) h := by
  refine enter_run e_impl_difference (by simp) ?_
  by_cases h1 : o = 1
  · subst h1; simp -implicitDefEqProofs [diffJ, w64]
  · by_cases h2 : o = 2
    · subst h2; simp -implicitDefEqProofs [diffJ, w64]
    · by_cases h3 : o = 3
      · subst h3; simp -implicitDefEqProofs [diffJ, w64]
      · simp -implicitDefEqProofs [diffJ, w64, h1, h2, h3, nb h1, nb h2, nb h3]
theorem l3Gap_run {h : Hp} {v : Value} {js : List Job} {o : Int} {i j : Nat} (hv : Jobs h v js) (hi : i < js.length) (hj : j < js.length) :
    Ret P G n_spec_l3Gap [v, .int .i64 o, .int .i64 i, .int .i64 j] h (.int .i64 (diffJ (jobAt js i) (jobAt js j) o)) h := by
  refine enter_run e_spec_l3Gap (by simp) ?_
  have hgi := get_jobAt hi
  have hgj := get_jobAt hj
  have hvs := hv
  obtain ⟨oa, c, rfl⟩ := hv.shapeT
  by_cases h1 : o = 1
  · subst h1; simp -implicitDefEqProofs [diffJ, w64, jobsL hvs hgi, jobsL hvs hgj]
  · by_cases h2 : o = 2
    · subst h2; simp -implicitDefEqProofs [diffJ, w64, jobsL hvs hgi, jobsL hvs hgj]
    · by_cases h3 : o = 3
      · subst h3; simp -implicitDefEqProofs [diffJ, w64, jobsL hvs hgi, jobsL hvs hgj]
      · simp -implicitDefEqProofs [diffJ, w64, h1, h2, h3, nb h1, nb h2, nb h3, jobsL hvs hgi, jobsL hvs hgj]
def ruleOf (p : Int) : Int := if p = 2 then 2 else if p = 3 then 3 else 4
theorem rule_run {h : Hp} {vj vt : Value} {d : Disp} (o : DOk h vj vt d) : Ret P G n_impl_Dispatcher_rule [dv d vj vt] h (.int .i64 (ruleOf d.p)) h := by
  refine enter_run e_impl_Dispatcher_rule (by simp) ?_
  obtain ⟨⟨oj, cj, rfl⟩, ot, ct, rfl⟩ := o.shapes
  by_cases h1 : d.p = 2
  · simp -implicitDefEqProofs [ruleOf, h1]
  · by_cases h2 : d.p = 3
    · simp -implicitDefEqProofs [ruleOf, h2]
    · simp -implicitDefEqProofs [ruleOf, h1, h2, nb h1, nb h2]
def aheadS (d : Disp) (i j : Int) : Int := if d.p = 2 ∨ d.p = 3 ∨ d.p = 4 then diffJ (jobAt d.js i) (jobAt d.js j) d.p else w64 (i - j)
theorem l12Ahead_run {h : Hp} {vj vt : Value} {d : Disp} {i j : Nat} (o : DOk h vj vt d) (hi : i < d.js.length) (hj : j < d.js.length) :
    Ret P G n_spec_l12Ahead [dv d vj vt, .int .i64 i, .int .i64 j] h (.int .i64 (aheadS d i j)) h := by
  refine enter_run e_spec_l12Ahead (by simp) ?_
  have os := o
  obtain ⟨⟨oj, cj, rfl⟩, ot, ct, rfl⟩ := o.shapes
  have g : ∀ o, Ret P G n_spec_l3Gap [.slice oj d.js.length cj, .int .i64 o, .int .i64 i, .int .i64 j] (h ++ [some ⟨[.int .i64 d.m, .int .i64 d.p, .int .i64 d.now, .slice oj d.js.length cj, .slice ot d.ts.length ct], 0, false⟩]) (.int .i64 (diffJ (jobAt d.js i) (jobAt d.js j) o)) _ := fun o => l3Gap_run (os.j.ext _) hi hj
  by_cases h1 : d.p = 2
  · simp -implicitDefEqProofs [aheadS, h1] at g ⊢
    simp -implicitDefEqProofs [CL_ret (g _)]
  · by_cases h2 : d.p = 3
    · simp -implicitDefEqProofs [aheadS, h2] at g ⊢
      simp -implicitDefEqProofs [CL_ret (g _)]
    · by_cases h3 : d.p = 4
      · simp -implicitDefEqProofs [aheadS, h3] at g ⊢
        simp -implicitDefEqProofs [CL_ret (g _)]
      · simp -implicitDefEqProofs [aheadS, h1, h2, h3, nb h1, nb h2, nb h3, w64]
theorem Dhas_run {h : Hp} {vj vt : Value} {d : Disp} {i : Int} (o : DOk h vj vt d) :
    Ret P G n_impl_Dispatcher_has [dv d vj vt, .int .i64 i] h (.bool (hasT i d.ts)) h := by
  refine enter_run e_impl_Dispatcher_has (by simp) ?_
  have os := o
  obtain ⟨⟨oj, cj, rfl⟩, ot, ct, rfl⟩ := o.shapes
  simp -implicitDefEqProofs
  refine R_loop (fun n s h' => ∃ k : Nat, k + n = d.ts.length ∧ s = [(1, .int .i64 i), (8, .slice ot d.ts.length ct), (9, .int .i64 d.ts.length), (10, .int .i64 k)] ∧ h <+: h' ∧ hasT i d.ts = hasT i (d.ts.drop k)) (fun n s h' => ?_) ⟨0, Nat.zero_add _, by simp, List.prefix_append .., by simp⟩
  rintro ⟨k, hi, rfl, hp, hx⟩
  have o1 := os.pre hp
  by_cases hlt : k < d.ts.length
  · obtain ⟨y, hy, hd⟩ := drop_at hlt
    rw [hd, hasT_cons] at hx
    simp -implicitDefEqProofs [hlt, tasksL o1.t hy]
    refine CB_split (fun h => ?_) (fun h => ?_)
    · simp -implicitDefEqProofs [hx, h, gcB' hp]
    · rw [h, Bool.false_or] at hx
      simp -implicitDefEqProofs [winc hlt o.tn]
      exact ⟨n - 1, by omega, k + 1, by omega, rfl, hp.trans (List.prefix_append ..), hx⟩
  · rw [List.drop_eq_nil_of_le (by omega), hasT_nil] at hx
    simp -implicitDefEqProofs [hlt, hx, gcB hp]
def waitGo (ts : List Task) (now : Int) : List Job → Nat → List Int
  | [], _ => []
  | j :: r, i => if !hasT i ts && decide (j.r ≤ now) then (i : Int) :: waitGo ts now r (i + 1) else waitGo ts now r (i + 1)
def waitL (d : Disp) : List Int := waitGo d.ts d.now d.js 0
theorem waitGo_len {ts : List Task} {now : Int} : ∀ {js : List Job} {i : Nat}, (waitGo ts now js i).length ≤ js.length
  | [], _ => Nat.le_refl _
  | j :: r, i => by
    unfold waitGo
    split
    · have := @waitGo_len ts now r (i + 1); simp; omega
    · have := @waitGo_len ts now r (i + 1); simp; omega
theorem waiting_run {h : Hp} {vj vt : Value} {d : Disp} (o : DOk h vj vt d) :
    RunsC P G n_impl_Dispatcher_waiting [dv d vj vt] h fun v h' => h <+: h' ∧ Own h.length h' v 1 ((waitL d).map encI) := by
  refine enter_run e_impl_Dispatcher_waiting (by simp) ?_
  have os := o
  obtain ⟨⟨oj, cj, rfl⟩, ot, ct, rfl⟩ := o.shapes
  simp -implicitDefEqProofs
  refine R_loop (fun n s h' => ∃ (k : Nat) (out : List Int) (vo : Value), k + n = d.js.length ∧ s = [(1, .pointer (some ⟨h.length, 0, some 5⟩)), (3, vo), (7, .slice oj d.js.length cj), (8, .int .i64 d.js.length), (9, .int .i64 k)] ∧ h ++ [some ⟨[.int .i64 d.m, .int .i64 d.p, .int .i64 d.now, .slice oj d.js.length cj, .slice ot d.ts.length ct], 0, false⟩] <+: h' ∧ Own (h.length + 1) h' vo 1 (out.map encI) ∧ out.length ≤ k ∧ waitL d = out ++ waitGo d.ts d.now (d.js.drop k) k) (fun n s h' => ?_) ⟨0, [], .slice none 0 0, Nat.zero_add _, by simp, List.prefix_rfl, .nil, by simp, by simp [waitL]⟩
  rintro ⟨k, out, vo, hi, rfl, hp, ho, hol, hx⟩
  have b1 := boxP hp
  have hp0 : h <+: h' := (List.prefix_append ..).trans hp
  have o1 := os.pre hp0
  by_cases hlt : k < d.js.length
  · obtain ⟨y, hy, hd⟩ := drop_at hlt
    rw [hd, waitGo] at hx
    have rh := fun l => Dhas_run (i := k) (o1.ext l)
    cases c1 : hasT k d.ts
    · cases c2 : decide (y.r ≤ d.now)
      · have c2' : ¬ y.r ≤ d.now := by simpa using c2
        simp only [c1, c2, Bool.and_false, Bool.false_eq_true, if_false] at hx
        simp -implicitDefEqProofs [hlt, dbox (b1.ext _), jobsL o1.j hy, CL_ret (rh _), c1, c2', winc hlt os.jn]
        exact ⟨n - 1, by omega, k + 1, by omega, out, vo, ⟨rfl, rfl⟩, hp.trans (List.prefix_append ..), ho.app, by omega, hx⟩
      · have c2' : y.r ≤ d.now := by simpa using c2
        simp only [c1, c2, Bool.not_false, Bool.and_self, if_true] at hx
        have sn := sees_new (h := h') (l := [some ⟨encJ y, 0, false⟩, some ⟨[.int .i64 k], 1, false⟩]) (k := 1) (n := 1) (m := 1) (sz := 1) rfl [[.int .i64 k]] rfl (by simp) rfl rfl
        have hlen := (List.IsPrefix.length_le hp)
        simp at hlen
        obtain ⟨v2, h2, ha, hw, hk, hr⟩ := ints_app (ys := [(k : Int)]) (ho.app (t := [some ⟨encJ y, 0, false⟩, some ⟨[.int .i64 k], 1, false⟩])) (by simp; omega) sn (by have := os.jn; simp; omega)
        have hp2 := (Keeps.pre hk (hp.trans (List.prefix_append ..)) (fun j hj => by have := ho.row_ge hj; simp; omega))
        simp -implicitDefEqProofs [hlt, dbox (b1.ext _), jobsL o1.j hy, CL_ret (rh _), c1, c2', winc hlt os.jn, show appendP P (h' ++ [some ⟨[.int .i64 y.t, .int .i64 y.w, .int .i64 y.r, .int .i64 y.d], 0, false⟩, some ⟨[.int .i64 k], 1, false⟩]) 24 vo (.slice (some ⟨h'.length + 1, 0, some 1⟩) 1 1) = some (v2, h2) from ha]
        exact ⟨n - 1, by omega, k + 1, by omega, out ++ [(k : Int)], v2, ⟨rfl, rfl⟩, hp2, hw, by simp; omega, by rw [hx]; simp⟩
    · simp only [c1, Bool.not_true, Bool.false_and, Bool.false_eq_true, if_false] at hx
      simp -implicitDefEqProofs [hlt, dbox (b1.ext _), jobsL o1.j hy, CL_ret (rh _), c1, winc hlt os.jn]
      exact ⟨n - 1, by omega, k + 1, by omega, out, vo, ⟨rfl, rfl⟩, hp.trans (List.prefix_append ..), ho.app, by omega, hx⟩
  · rw [List.drop_eq_nil_of_le (by omega), waitGo, List.append_nil] at hx
    simp -implicitDefEqProofs [hlt]
    rw [hx]
    exact (ho.low (by omega)).ret (Nat.le_refl _) hp0
end Go.Pm.PP

/- Dispatchers: the jobs that wait, by the reference; the jobs that run. -/
set_option linter.unusedVariables false
set_option linter.unusedSimpArgs false
set_option maxRecDepth 4000
set_option maxHeartbeats 1000000
namespace Go.Pm.PP
open Go.Pm Go.Proofs
/-- A row that was made just now, as one's own. -/
theorem own_new {h l : Hp} {k n m sz b : Nat} {cs : List Value} (hb : b ≤ h.length + k) (hl : l[k]? = some (some ⟨cs, sz, false⟩)) (els : List (List Value)) (he : els.flatten = cs) (hsz : ∀ e ∈ els, e.length = sz) (hn : n = cs.length) (hm : m = els.length) : Own b (h ++ l) (.slice (some ⟨h.length + k, 0, some n⟩) m m) sz els := by
  subst hm; subst hn; subst he
  refine ⟨hsz, .inr ⟨h.length + k, [], 0, hb, by simp, ?_, ?_⟩⟩
  · rw [flat_len hsz, Nat.add_zero]
  · rw [hget_app, List.append_nil]; exact hl
theorem l12Waiting_run {h : Hp} {vj vt : Value} {d : Disp} (o : DOk h vj vt d) :
    RunsC P G n_spec_l12Waiting [dv d vj vt] h fun v h' => h <+: h' ∧ Own h.length h' v 1 ((waitL d).map encI) := by
  refine enter_run e_spec_l12Waiting (by simp) ?_
  have os := o
  obtain ⟨⟨oj, cj, rfl⟩, ot, ct, rfl⟩ := o.shapes
  simp -implicitDefEqProofs
  refine R_loop (fun n s h' => ∃ (k : Nat) (out : List Int) (vo : Value), k + n = d.js.length ∧ s = [(1, .pointer (some ⟨h.length, 0, some 5⟩)), (3, vo), (4, .int .i64 k)] ∧ h ++ [some ⟨[.int .i64 d.m, .int .i64 d.p, .int .i64 d.now, .slice oj d.js.length cj, .slice ot d.ts.length ct], 0, false⟩] <+: h' ∧ Own (h.length + 1) h' vo 1 (out.map encI) ∧ out.length ≤ k ∧ waitL d = out ++ waitGo d.ts d.now (d.js.drop k) k) (fun n s h' => ?_) ⟨0, [], .slice none 0 0, Nat.zero_add _, by simp, List.prefix_rfl, .nil, by simp, by simp [waitL]⟩
  rintro ⟨k, out, vo, hi, rfl, hp, ho, hol, hx⟩
  have b1 := boxP hp
  have hp0 : h <+: h' := (List.prefix_append ..).trans hp
  have o1 := os.pre hp0
  have rh := l12Task_run (i := k) o1
  by_cases hlt : k < d.js.length
  · obtain ⟨y, hy, hd⟩ := drop_at hlt
    rw [hd, waitGo] at hx
    cases c2 : decide (y.r ≤ d.now)
    · have c2' : ¬ y.r ≤ d.now := by simpa using c2
      simp only [c2, Bool.and_false, Bool.false_eq_true, if_false] at hx
      simp -implicitDefEqProofs [hlt, dbox b1, jobsL o1.j hy, CL_ret rh, c2', winc hlt os.jn]
      exact ⟨n - 1, by omega, k + 1, by omega, out, vo, ⟨rfl, rfl⟩, hp, ho, by omega, hx⟩
    · have c2' : y.r ≤ d.now := by simpa using c2
      cases c1 : hasT k d.ts
      · simp only [c1, c2, Bool.not_false, Bool.and_self, if_true] at hx
        have sn := sees_new (h := h') (l := [some ⟨[.int .i64 k], 1, false⟩]) (k := 0) (n := 1) (m := 1) (sz := 1) rfl [[.int .i64 k]] rfl (by simp) rfl rfl
        have hlen := (List.IsPrefix.length_le hp)
        simp at hlen
        obtain ⟨v2, h2, ha, hw, hk, hr⟩ := ints_app (ys := [(k : Int)]) (ho.app (t := [some ⟨[.int .i64 k], 1, false⟩])) (by simp; omega) sn (by have := os.jn; simp; omega)
        have hp2 := (Keeps.pre hk (hp.trans (List.prefix_append ..)) (fun j hj => by have := ho.row_ge hj; simp; omega))
        simp -implicitDefEqProofs [hlt, dbox b1, jobsL o1.j hy, CL_ret rh, c1, c2', winc hlt os.jn, show appendP P (h' ++ [some ⟨[.int .i64 k], 1, false⟩]) 24 vo (.slice (some ⟨h'.length, 0, some 1⟩) 1 1) = some (v2, h2) from ha]
        exact ⟨n - 1, by omega, k + 1, by omega, out ++ [(k : Int)], v2, ⟨rfl, rfl⟩, hp2, hw, by simp; omega, by rw [hx]; simp⟩
      · simp only [c1, Bool.not_true, Bool.false_and, Bool.false_eq_true, if_false] at hx
        simp -implicitDefEqProofs [hlt, dbox b1, jobsL o1.j hy, CL_ret rh, c1, c2', winc hlt os.jn]
        exact ⟨n - 1, by omega, k + 1, by omega, out, vo, ⟨rfl, rfl⟩, hp, ho, by omega, hx⟩
  · rw [List.drop_eq_nil_of_le (by omega), waitGo, List.append_nil] at hx
    simp -implicitDefEqProofs [hlt, dbox b1]
    rw [hx]
    exact (ho.low (by omega)).ret (Nat.le_refl _) hp0
def onM (d : Disp) (m : Int) (t : Task) : Bool := (t.m == m) && decide (t.s ≤ d.now) && decide (w64 (t.s + (jobAt d.js t.j).t) > d.now)
def runLast (d : Disp) (m : Int) : List Task → Int → Int
  | [], a => a
  | t :: r, a => runLast d m r (if onM d m t then t.j else a)
def runFirst (d : Disp) (m : Int) : List Task → Int
  | [] => -1
  | t :: r => if onM d m t then t.j else runFirst d m r
def Ins (d : Disp) : Prop := ∀ t ∈ d.ts, inB t.j 0 ((d.js.length : Int) - 1) = true
theorem l12Running_run {h : Hp} {vj vt : Value} {d : Disp} {m : Int} (o : DOk h vj vt d) (hin : Ins d) :
    Ret P G n_spec_l12Running [dv d vj vt, .int .i64 m] h (.int .i64 (runFirst d m d.ts)) h := by
  refine enter_run e_spec_l12Running (by simp) ?_
  have os := o
  obtain ⟨⟨oj, cj, rfl⟩, ot, ct, rfl⟩ := o.shapes
  simp -implicitDefEqProofs
  refine R_loop (fun n s h' => ∃ k : Nat, k + n = d.ts.length ∧ s = [(1, .int .i64 m), (2, .pointer (some ⟨h.length, 0, some 5⟩)), (5, .int .i64 k)] ∧ h ++ [some ⟨[.int .i64 d.m, .int .i64 d.p, .int .i64 d.now, .slice oj d.js.length cj, .slice ot d.ts.length ct], 0, false⟩] <+: h' ∧ runFirst d m d.ts = runFirst d m (d.ts.drop k)) (fun n s h' => ?_) ⟨0, Nat.zero_add _, by simp, List.prefix_rfl, by simp⟩
  rintro ⟨k, hi, rfl, hp, hx⟩
  have b1 := boxP hp
  have hp0 : h <+: h' := (List.prefix_append ..).trans hp
  have o1 := os.pre hp0
  by_cases hlt : k < d.ts.length
  · obtain ⟨y, hy, hd⟩ := drop_at hlt
    rw [hd, runFirst] at hx
    obtain ⟨q, hq, hql⟩ := in_nat (hin y (List.mem_of_getElem? hy))
    have hjq := get_jobAt hql
    obtain ⟨yj, ym, ys⟩ := y
    simp only at hq
    subst hq
    cases c1 : (ym == m)
    · simp only [onM, c1, Bool.false_and, Bool.false_eq_true, if_false] at hx
      simp -implicitDefEqProofs [hlt, dbox b1, dbox (b1.ext _), tasksL o1.t hy, tasksL (o1.t.ext _) hy, jobsL (o1.j.ext _) hjq, c1, winc hlt os.tn]
      exact ⟨n - 1, by omega, k + 1, by omega, rfl, hp.trans (List.prefix_append ..), hx⟩
    · cases c2 : decide (ys ≤ d.now)
      · have c2' : ¬ ys ≤ d.now := by simpa using c2
        simp only [onM, c1, c2, Bool.and_false, Bool.false_and, Bool.false_eq_true, if_false] at hx
        simp -implicitDefEqProofs [hlt, dbox b1, dbox (b1.ext _), tasksL o1.t hy, tasksL (o1.t.ext _) hy, jobsL (o1.j.ext _) hjq, c1, c2', winc hlt os.tn]
        exact ⟨n - 1, by omega, k + 1, by omega, rfl, hp.trans (List.prefix_append ..), hx⟩
      · have c2' : ys ≤ d.now := by simpa using c2
        cases c3 : decide (w64 (ys + (jobAt d.js q).t) > d.now)
        · have c3' : ¬ d.now < IntKind.i64.wrap (ys + (jobAt d.js q).t) := by simpa [w64] using c3
          simp only [onM, c1, c2, c3, Bool.and_false, Bool.false_eq_true, if_false] at hx
          simp -implicitDefEqProofs [hlt, dbox b1, dbox (b1.ext _), tasksL o1.t hy, tasksL (o1.t.ext _) hy, jobsL (o1.j.ext _) hjq, c1, c2', c3', winc hlt os.tn]
          exact ⟨n - 1, by omega, k + 1, by omega, rfl, hp.trans (List.prefix_append ..), hx⟩
        · have c3' : d.now < IntKind.i64.wrap (ys + (jobAt d.js q).t) := by simpa [w64] using c3
          simp only [onM, c1, c2, c3, Bool.and_self, if_true] at hx
          simp -implicitDefEqProofs [hlt, dbox b1, dbox (b1.ext _), tasksL o1.t hy, tasksL (o1.t.ext _) hy, jobsL (o1.j.ext _) hjq, c1, c2', c3', hx, gcI' hp0]
  · rw [List.drop_eq_nil_of_le (by omega), runFirst] at hx
    simp -implicitDefEqProofs [hlt, dbox b1, hx, gcI hp0]
def runL (d : Disp) (M : Nat) : List Int := (List.range M).map fun (k : Nat) => runLast d k d.ts (-1)
theorem running_run {h : Hp} {vj vt : Value} {d : Disp} {M : Nat} (o : DOk h vj vt d) (hin : Ins d) (hM : d.m = M) (hMn : M ≤ 2 ^ 40) :
    RunsC P G n_impl_Dispatcher_running [dv d vj vt] h fun v h' => h <+: h' ∧ Own h.length h' v 1 ((runL d M).map encI) := by
  refine enter_run e_impl_Dispatcher_running (by simp) ?_
  have os := o
  obtain ⟨⟨oj, cj, rfl⟩, ot, ct, rfl⟩ := o.shapes
  simp -implicitDefEqProofs
  refine R_loop (fun n s h' => ∃ (k : Nat) (vo : Value), k + n = M ∧ s = [(1, .pointer (some ⟨h.length, 0, some 5⟩)), (3, vo), (4, .int .i64 k)] ∧ h ++ [some ⟨[.int .i64 d.m, .int .i64 d.p, .int .i64 d.now, .slice oj d.js.length cj, .slice ot d.ts.length ct], 0, false⟩] <+: h' ∧ Own (h.length + 1) h' vo 1 (((List.range k).map fun (k : Nat) => runLast d k d.ts (-1)).map encI)) (fun n s h' => ?_) ⟨0, .slice none 0 0, Nat.zero_add _, by simp, List.prefix_rfl, .nil⟩
  rintro ⟨k, vo, hi, rfl, hp, ho⟩
  have b1 := boxP hp
  have hp0 : h <+: h' := (List.prefix_append ..).trans hp
  have o1 := os.pre hp0
  by_cases hlt : k < M
  · have hMk : (k : Int) < d.m := by rw [hM]; omega
    simp -implicitDefEqProofs [hlt, hMk, dbox b1]
    refine R_loop (fun n2 s h2 => ∃ (e : Nat) (a : Int), e + n2 = d.ts.length ∧ s = [(1, .pointer (some ⟨h.length, 0, some 5⟩)), (3, vo), (4, .int .i64 k), (5, .int .i64 a), (15, .slice ot d.ts.length ct), (16, .int .i64 d.ts.length), (17, .int .i64 e)] ∧ h' <+: h2 ∧ runLast d k d.ts (-1) = runLast d k (d.ts.drop e) a) (fun n2 s h2 => ?_) ⟨0, -1, Nat.zero_add _, by simp, List.prefix_rfl, by simp⟩
    rintro ⟨e, a, hi2, rfl, hp2, hx⟩
    have b2 := b1.pre hp2
    have o2 := o1.pre hp2
    have hp02 := hp0.trans hp2
    by_cases hlt2 : e < d.ts.length
    · obtain ⟨y, hy, hd⟩ := drop_at hlt2
      rw [hd, runLast] at hx
      obtain ⟨q, hq, hql⟩ := in_nat (hin y (List.mem_of_getElem? hy))
      have hjq := get_jobAt hql
      obtain ⟨yj, ym, ys⟩ := y
      simp only at hq
      subst hq
      have re : ∀ l, Ret P G n_impl_Dispatcher_endOf [dv d (.slice oj d.js.length cj) (.slice ot d.ts.length ct), tv ⟨q, ym, ys⟩] (h2 ++ l) (.int .i64 (w64 (ys + (jobAt d.js q).t))) (h2 ++ l) := fun l => endOf_run (o2.ext l) hql
      cases c1 : (ym == (k : Int))
      · simp only [onM, c1, Bool.false_and, Bool.false_eq_true, if_false] at hx
        simp -implicitDefEqProofs [hlt2, dbox b2, dbox (b2.ext _), tasksL o2.t hy, c1, winc hlt2 os.tn]
        exact ⟨n2 - 1, by omega, e + 1, by omega, a, ⟨rfl, rfl⟩, hp2.trans (List.prefix_append ..), hx⟩
      · cases c2 : decide (ys ≤ d.now)
        · have c2' : ¬ ys ≤ d.now := by simpa using c2
          simp only [onM, c1, c2, Bool.and_false, Bool.false_and, Bool.false_eq_true, if_false] at hx
          simp -implicitDefEqProofs [hlt2, dbox b2, dbox (b2.ext _), tasksL o2.t hy, c1, c2', winc hlt2 os.tn]
          exact ⟨n2 - 1, by omega, e + 1, by omega, a, ⟨rfl, rfl⟩, hp2.trans (List.prefix_append ..), hx⟩
        · have c2' : ys ≤ d.now := by simpa using c2
          cases c3 : decide (w64 (ys + (jobAt d.js q).t) > d.now)
          · have c3' : ¬ d.now < w64 (ys + (jobAt d.js q).t) := by simpa using c3
            simp only [onM, c1, c2, c3, Bool.and_false, Bool.false_eq_true, if_false] at hx
            simp -implicitDefEqProofs [hlt2, dbox b2, dbox (b2.ext _), tasksL o2.t hy, CH_at (re _), CL_ret (re _), c1, c2', c3', winc hlt2 os.tn]
            exact ⟨n2 - 1, by omega, e + 1, by omega, a, ⟨rfl, rfl⟩, hp2.trans (List.prefix_append ..), hx⟩
          · have c3' : d.now < w64 (ys + (jobAt d.js q).t) := by simpa using c3
            simp only [onM, c1, c2, c3, Bool.and_self, if_true] at hx
            simp -implicitDefEqProofs [hlt2, dbox b2, dbox (b2.ext _), tasksL o2.t hy, CH_at (re _), CL_ret (re _), c1, c2', c3', winc hlt2 os.tn]
            exact ⟨n2 - 1, by omega, e + 1, by omega, q, ⟨rfl, rfl⟩, hp2.trans (List.prefix_append ..), hx⟩
    · rw [List.drop_eq_nil_of_le (by omega), runLast] at hx
      have ho2 := ho.pre hp2
      have hph := hp.trans hp2
      have sn := sees_new (h := h2) (l := [some ⟨[.int .i64 a], 1, false⟩]) (k := 0) (n := 1) (m := 1) (sz := 1) rfl [[.int .i64 a]] rfl (by simp) rfl rfl
      have hlen := (List.IsPrefix.length_le hph)
      simp at hlen
      obtain ⟨v3, h3, ha, hw, hk, hr⟩ := ints_app (ys := [a]) (ho2.app (t := [some ⟨[.int .i64 a], 1, false⟩])) (by simp; omega) sn (by simp; omega)
      have hp3 := (Keeps.pre hk (hph.trans (List.prefix_append ..)) (fun j hj => by have := ho2.row_ge hj; simp; omega))
      simp -implicitDefEqProofs [hlt2, winc hlt hMn, show appendP P (h2 ++ [some ⟨[.int .i64 a], 1, false⟩]) 24 vo (.slice (some ⟨h2.length, 0, some 1⟩) 1 1) = some (v3, h3) from ha]
      refine ⟨n - 1, by omega, k + 1, by omega, v3, ⟨rfl, rfl⟩, hp3, ?_⟩
      rw [List.range_succ, List.map_append]
      rw [← hx] at hw
      simpa using hw
  · have hk : k = M := by omega
    have hMk : ¬ (k : Int) < d.m := by rw [hM]; omega
    simp -implicitDefEqProofs [hlt, hMk, dbox b1]
    rw [hk] at ho
    exact (ho.low (by omega)).ret (Nat.le_refl _) hp0
end Go.Pm.PP

/- Dispatchers: the job that is next. -/
set_option linter.unusedVariables false
set_option linter.unusedSimpArgs false
set_option maxRecDepth 4000
set_option maxHeartbeats 1000000
namespace Go.Pm.PP
open Go.Pm Go.Proofs
theorem waitGo_in {ts : List Task} {now : Int} : ∀ {js : List Job} {i n : Nat}, i + js.length = n → ∀ x ∈ waitGo ts now js i, ∃ q : Nat, x = q ∧ i ≤ q ∧ q < n
  | [], _, _, _, x, hx => by cases hx
  | j :: r, i, n, hn, x, hx => by
    have ih := @waitGo_in ts now r (i + 1) n (by simp at hn; omega) x
    unfold waitGo at hx
    split at hx
    · rcases List.mem_cons.1 hx with h1 | h1
      · exact ⟨i, h1, Nat.le_refl _, by simp at hn; omega⟩
      · obtain ⟨q, h2, h3, h4⟩ := ih h1; exact ⟨q, h2, by omega, h4⟩
    · obtain ⟨q, h2, h3, h4⟩ := ih hx; exact ⟨q, h2, by omega, h4⟩
theorem waitL_in {d : Disp} : ∀ x ∈ waitL d, ∃ q : Nat, x = q ∧ q < d.js.length := fun x hx => by
  obtain ⟨q, h1, _, h2⟩ := waitGo_in (Nat.zero_add _) x hx
  exact ⟨q, h1, h2⟩
theorem waitL_len {d : Disp} : (waitL d).length ≤ d.js.length := waitGo_len
theorem nt {a b : Int} (h : ¬ a = b) : (a != b) = true := by simpa using h
def pickGo (d : Disp) : List Int → Int → Int
  | [], b => b
  | i :: r, b => pickGo d r (if decide (b < 0) || (!(d.p == 1) && decide (diffJ (jobAt d.js i) (jobAt d.js b) (ruleOf d.p) < 0)) then i else b)
def pickI (d : Disp) : Int := pickGo d (waitL d) (-1)
def fGo (d : Disp) : List Int → Int → Int
  | [], b => b
  | i :: r, b => fGo d r (if decide (aheadS d i b < 0) then i else b)
def firstS (d : Disp) : Int := match waitL d with | [] => -1 | x :: r => fGo d r x
theorem picked_run {h : Hp} {vj vt : Value} {d : Disp} (o : DOk h vj vt d) : Ret P G n_impl_Dispatcher_picked [dv d vj vt] h (.int .i64 (pickI d)) h := by
  refine enter_run e_impl_Dispatcher_picked (by simp) ?_
  have os := o
  obtain ⟨⟨oj, cj, rfl⟩, ot, ct, rfl⟩ := o.shapes
  have rw0 := waiting_run (os.ext [some ⟨[.int .i64 d.m, .int .i64 d.p, .int .i64 d.now, .slice oj d.js.length cj, .slice ot d.ts.length ct], 0, false⟩])
  simp -implicitDefEqProofs
  refine CL_post rw0 fun v h1 hv => ?_
  obtain ⟨hp, ho⟩ := hv
  have hs := ho.sees
  have b1 := boxP hp
  have hp0 : h <+: h1 := (List.prefix_append ..).trans hp
  have o1 := os.pre hp0
  have hln := waitL_len (d := d)
  have hsv := hs
  obtain ⟨ov, cv, rfl⟩ := hs.shapeT
  simp -implicitDefEqProofs
  refine R_loop (fun n s h' => ∃ (k : Nat) (b : Int), k + n = (waitL d).length ∧ s = [(1, .pointer (some ⟨h.length, 0, some 5⟩)), (3, .int .i64 b), (7, .slice ov (waitL d).length cv), (8, .int .i64 (waitL d).length), (9, .int .i64 k)] ∧ h' = h1 ∧ (b < 0 ∨ ∃ q : Nat, b = q ∧ q < d.js.length) ∧ pickI d = pickGo d ((waitL d).drop k) b) (fun n s h' => ?_) ⟨0, -1, Nat.zero_add _, by simp, rfl, .inl (by omega), by simp [pickI]⟩
  rintro ⟨k, b, hi, rfl, rfl, hb, hx⟩
  by_cases hlt : k < (waitL d).length
  · obtain ⟨y, hy, hd⟩ := drop_at hlt
    rw [hd, pickGo] at hx
    obtain ⟨q, rfl, hql⟩ := waitL_in y (List.mem_of_getElem? hy)
    have hjq := get_jobAt hql
    have wk := winc hlt (show (waitL d).length ≤ 2 ^ 40 by have := os.jn; omega)
    cases c1 : decide (b < 0)
    · have c1' : ¬ b < 0 := by simpa using c1
      rcases hb with hb | ⟨q2, rfl, hql2⟩
      · omega
      have hjq2 := get_jobAt hql2
      cases c2 : (d.p == 1)
      · cases c3 : decide (diffJ (jobAt d.js q) (jobAt d.js q2) (ruleOf d.p) < 0)
        · have c3' : ¬ diffJ (jobAt d.js q) (jobAt d.js q2) (ruleOf d.p) < 0 := by simpa using c3
          have c2' : ¬ d.p = 1 := by simpa using c2
          simp only [c1, c2, c3, Bool.and_false, Bool.or_false, Bool.false_eq_true, if_false] at hx
          simp -implicitDefEqProofs [hlt, dbox b1, intsL hsv hy, c1', c2', nt c2', c3', jobsL o1.j hjq, jobsL o1.j hjq2, CH_at (rule_run o1), CL_ret difference_run, wk]
          exact ⟨n - 1, by omega, k + 1, by omega, q2, by simp, .inr ⟨q2, rfl, hql2⟩, hx⟩
        · have c3' : diffJ (jobAt d.js q) (jobAt d.js q2) (ruleOf d.p) < 0 := by simpa using c3
          have c2' : ¬ d.p = 1 := by simpa using c2
          simp only [c1, c2, c3, Bool.not_false, Bool.and_self, Bool.or_true, if_true] at hx
          simp -implicitDefEqProofs [hlt, dbox b1, intsL hsv hy, c1', c2', nt c2', c3', jobsL o1.j hjq, jobsL o1.j hjq2, CH_at (rule_run o1), CL_ret difference_run, wk]
          exact ⟨n - 1, by omega, k + 1, by omega, q, by simp, .inr ⟨q, rfl, hql⟩, hx⟩
      · have c2' : d.p = 1 := by simpa using c2
        simp only [c1, c2, Bool.not_true, Bool.false_and, Bool.or_false, Bool.false_eq_true, if_false] at hx
        simp -implicitDefEqProofs [hlt, dbox b1, intsL hsv hy, c1', c2', wk]
        exact ⟨n - 1, by omega, k + 1, by omega, q2, by simp, .inr ⟨q2, rfl, hql2⟩, hx⟩
    · have c1' : b < 0 := by simpa using c1
      simp only [c1, Bool.true_or, if_true] at hx
      simp -implicitDefEqProofs [hlt, dbox b1, intsL hsv hy, c1', wk]
      exact ⟨n - 1, by omega, k + 1, by omega, q, by simp, .inr ⟨q, rfl, hql⟩, hx⟩
  · rw [List.drop_eq_nil_of_le (by omega), pickGo] at hx
    simp -implicitDefEqProofs [hlt, hx, gcI hp0]
theorem l12First_run {h : Hp} {vj vt : Value} {d : Disp} (o : DOk h vj vt d) : Ret P G n_spec_l12First [dv d vj vt] h (.int .i64 (firstS d)) h := by
  refine enter_run e_spec_l12First (by simp) ?_
  have os := o
  obtain ⟨⟨oj, cj, rfl⟩, ot, ct, rfl⟩ := o.shapes
  have rw0 := l12Waiting_run (os.ext [some ⟨[.int .i64 d.m, .int .i64 d.p, .int .i64 d.now, .slice oj d.js.length cj, .slice ot d.ts.length ct], 0, false⟩])
  simp -implicitDefEqProofs
  refine CL_post rw0 fun v h1 hv => ?_
  obtain ⟨hp, ho⟩ := hv
  have hs := ho.sees
  have b1 := boxP hp
  have hp0 : h <+: h1 := (List.prefix_append ..).trans hp
  have o1 := os.pre hp0
  have hln := waitL_len (d := d)
  have hsv := hs
  obtain ⟨ov, cv, rfl⟩ := hs.shapeT
  cases hw : waitL d with
  | nil => simp -implicitDefEqProofs [hw, firstS, gcI hp0]
  | cons x r =>
    have hw0 : (waitL d)[0]? = some x := by rw [hw]; rfl
    have hlw : (waitL d).length = r.length + 1 := by rw [hw]; rfl
    obtain ⟨q0, rfl, hq0⟩ := waitL_in x (List.mem_of_getElem? hw0)
    have i0 := intsL hsv hw0
    rw [← hw]
    have hne : ¬ ((waitL d).length : Int) = 0 := by omega
    have hne2 : ¬ (waitL d) = [] := by rw [hw]; simp
    simp at i0
    simp -implicitDefEqProofs [hne, hne2, nb hne, i0]
    refine R_loop (fun n s h' => ∃ (k q : Nat), k + 1 + n = (waitL d).length ∧ s = [(1, .pointer (some ⟨h.length, 0, some 5⟩)), (3, .slice ov (waitL d).length cv), (4, .int .i64 q), (5, .int .i64 ((k : Int) + 1))] ∧ h' = h1 ∧ q < d.js.length ∧ firstS d = fGo d ((waitL d).drop (k + 1)) q) (fun n s h' => ?_) (n := (waitL d).length - 1) ⟨0, q0, by omega, by simp, rfl, hq0, by simp [firstS, hw]⟩
    rintro ⟨k, q, hi, rfl, rfl, hq, hx⟩
    by_cases hlt : k + 1 < (waitL d).length
    · obtain ⟨y, hy, hd⟩ := drop_at hlt
      rw [hd, fGo] at hx
      obtain ⟨q2, rfl, hql2⟩ := waitL_in y (List.mem_of_getElem? hy)
      have i1 := intsL hsv hy
      rw [show ((k + 1 : Nat) : Int) = (k : Int) + 1 from rfl] at i1
      have wk : IntKind.i64.wrap ((k : Int) + 1 + 1) = (k : Int) + 1 + 1 := by rw [wrap_ok] <;> have := os.jn <;> omega
      have hlt' : (k : Int) + 1 < (waitL d).length := by omega
      cases c : decide (aheadS d q2 q < 0)
      · have c' : ¬ aheadS d q2 q < 0 := by simpa using c
        simp only [c, Bool.false_eq_true, if_false] at hx
        simp -implicitDefEqProofs [hlt, hlt', dbox b1, i1, CL_ret (l12Ahead_run o1 hql2 hq), c', wk]
        exact ⟨n - 1, by omega, k + 1, by omega, q, by simp, hq, hx⟩
      · have c' : aheadS d q2 q < 0 := by simpa using c
        simp only [c, if_true] at hx
        simp -implicitDefEqProofs [hlt, hlt', dbox b1, i1, CL_ret (l12Ahead_run o1 hql2 hq), c', wk]
        exact ⟨n - 1, by omega, k + 1, by omega, q2, by simp, hql2, hx⟩
    · rw [List.drop_eq_nil_of_le (by omega), fGo] at hx
      have hlt' : ¬ (k : Int) + 1 < (waitL d).length := by omega
      simp -implicitDefEqProofs [hlt, hlt', hx, gcI hp0]
end Go.Pm.PP

/- Dispatchers of one's own: state. -/
set_option linter.unusedVariables false
set_option linter.unusedSimpArgs false
set_option maxRecDepth 4000
set_option maxHeartbeats 1000000
namespace Go.Pm.PP
open Go.Pm Go.Proofs
section
variable {b b' sz sz' : Nat} {h h' : Hp} {v u vj vt : Value} {els ys : List (List Value)} {r : Nat} {cs : List Value}
theorem _root_.Go.Pm.Own.row_sz (o : Own b h v sz els) {j : Nat} (hj : rowV v = some j) : ∃ c, h[j]? = some (some ⟨c, sz, false⟩) := by
  rcases o.2 with ⟨rfl, _⟩ | ⟨q, rest, k, _, _, rfl, hh⟩
  · cases hj
  · cases hj; exact ⟨_, hh⟩
theorem _root_.Go.Pm.Own.ne_box (o : Own b h v sz els) (bx : BoxAt h r cs) (hsz : sz ≠ 0) : rowV v ≠ some r := by
  intro e
  obtain ⟨c, hc⟩ := o.row_sz e
  have : h[r]? = some (some ⟨cs, 0, false⟩) := bx
  rw [this] at hc
  cases hc
  exact hsz rfl
theorem _root_.Go.Pm.Own.ne_own (o : Own b h v sz els) (o' : Own b' h u sz' ys) (hsz : sz ≠ sz') : ∀ j, rowV v = some j → rowV u ≠ some j := by
  intro j e e'
  obtain ⟨c, hc⟩ := o.row_sz e
  obtain ⟨c', hc'⟩ := o'.row_sz e'
  rw [hc] at hc'
  cases hc'
  exact hsz rfl
theorem _root_.Go.Pm.Sees.row_sz (s : Sees h v sz els) {j : Nat} (hj : rowV v = some j) : ∃ x, h[j]? = some (some x) ∧ x.sz = sz := by
  obtain ⟨_, oa, c, h2, h3⟩ := s
  rcases h3 with ⟨rfl, _, _⟩ | ⟨q, o, x, rfl, h5, h6, _⟩
  · rw [h2] at hj; cases hj
  · rw [h2] at hj; cases hj
    exact ⟨x, h5, h6⟩
theorem _root_.Go.Pm.Own.ne_sees (o : Own b h v sz els) (s : Sees h u sz' ys) (hsz : sz ≠ sz') : ∀ j, rowV v = some j → rowV u ≠ some j := by
  intro j e e'
  obtain ⟨c, hc⟩ := o.row_sz e
  obtain ⟨x, hx, hxs⟩ := s.row_sz e'
  rw [hc] at hx
  cases hx
  exact hsz hxs
theorem _root_.Go.Pm.Sees.ne_box (s : Sees h u sz ys) (bx : BoxAt h r cs) (hsz : sz ≠ 0) : rowV u ≠ some r := by
  intro e
  obtain ⟨x, hx, hxs⟩ := s.row_sz e
  have : h[r]? = some (some ⟨cs, 0, false⟩) := bx
  rw [this] at hx
  cases hx
  exact hsz hxs.symm
theorem someNe {a : Option Nat} {r : Nat} (h : a ≠ some r) : ∀ j, some r = some j → a ≠ some j := fun j e => by cases e; exact h
theorem BoxAt.keepsO (bx : BoxAt h r cs) (o : Own b h v sz els) (k : Keeps (rowV v) h h') (hsz : sz ≠ 0) : BoxAt h' r cs := bx.keeps k (o.ne_box bx hsz)
theorem BoxAt.keepsB {r' : Nat} (bx : BoxAt h r cs) (k : Keeps (some r') h h') (hne : r' ≠ r) : BoxAt h' r cs := bx.keeps k (fun e => hne (by cases e; rfl))
theorem _root_.Go.Pm.Own.keepsO (o : Own b h u sz ys) (o' : Own b' h v sz' els) (k : Keeps (rowV v) h h') (hsz : sz' ≠ sz) : Own b h' u sz ys := o.keeps k (o'.ne_own o hsz)
theorem _root_.Go.Pm.Own.keepsB (o : Own b h u sz ys) (bx : BoxAt h r cs) (k : Keeps (some r) h h') (hsz : sz ≠ 0) : Own b h' u sz ys := o.keeps k (someNe (o.ne_box bx hsz))
theorem _root_.Go.Pm.Sees.keepsO (s : Sees h u sz ys) (o' : Own b' h v sz' els) (k : Keeps (rowV v) h h') (hsz : sz' ≠ sz) : Sees h' u sz ys := s.keeps k (o'.ne_sees s hsz)
theorem _root_.Go.Pm.Sees.keepsB (s : Sees h u sz ys) (bx : BoxAt h r cs) (k : Keeps (some r) h h') (hsz : sz ≠ 0) : Sees h' u sz ys := s.keeps k (someNe (s.ne_box bx hsz))
end
section
variable {h : Hp} {r n c : Nat} {vj vt : Value} {m p w : Int} {oa : Option Addr}
theorem dset_j (b : BoxAt h r [.int .i64 m, .int .i64 p, .int .i64 w, vj, vt]) : ∃ h', storeP P h t_S_impl_Job (.slice oa n c) (.pointer (some ⟨r, 3, some 5⟩)) = some h' ∧ BoxAt h' r [.int .i64 m, .int .i64 p, .int .i64 w, .slice oa n c, vt] ∧ Keeps (some r) h h' :=
  b.store (ty := t_S_impl_Job) (w := .slice oa n c) (o := 3) (n := 5) rfl e_t_S_impl_Job (by simp) (by simp) rfl
theorem dset_t (b : BoxAt h r [.int .i64 m, .int .i64 p, .int .i64 w, vj, vt]) : ∃ h', storeP P h t_S_impl_Task (.slice oa n c) (.pointer (some ⟨r, 4, some 5⟩)) = some h' ∧ BoxAt h' r [.int .i64 m, .int .i64 p, .int .i64 w, vj, .slice oa n c] ∧ Keeps (some r) h h' :=
  b.store (ty := t_S_impl_Task) (w := .slice oa n c) (o := 4) (n := 5) rfl e_t_S_impl_Task (by simp) (by simp) rfl
theorem dset_0 (b : BoxAt h r [.int .i64 m, .int .i64 p, .int .i64 w, vj, vt]) {x : Int} : ∃ h', storeP P h t_int (.int .i64 x) (.pointer (some ⟨r, 0, some 5⟩)) = some h' ∧ BoxAt h' r [.int .i64 x, .int .i64 p, .int .i64 w, vj, vt] ∧ Keeps (some r) h h' :=
  b.store (ty := t_int) (w := .int .i64 x) (o := 0) (n := 5) rfl e_t_int (by simp) (by simp) rfl
theorem dset_1 (b : BoxAt h r [.int .i64 m, .int .i64 p, .int .i64 w, vj, vt]) {x : Int} : ∃ h', storeP P h t_int (.int .i64 x) (.pointer (some ⟨r, 1, some 5⟩)) = some h' ∧ BoxAt h' r [.int .i64 m, .int .i64 x, .int .i64 w, vj, vt] ∧ Keeps (some r) h h' :=
  b.store (ty := t_int) (w := .int .i64 x) (o := 1) (n := 5) rfl e_t_int (by simp) (by simp) rfl
theorem dset_2 (b : BoxAt h r [.int .i64 m, .int .i64 p, .int .i64 w, vj, vt]) {x : Int} : ∃ h', storeP P h t_int (.int .i64 x) (.pointer (some ⟨r, 2, some 5⟩)) = some h' ∧ BoxAt h' r [.int .i64 m, .int .i64 p, .int .i64 x, vj, vt] ∧ Keeps (some r) h h' :=
  b.store (ty := t_int) (w := .int .i64 x) (o := 2) (n := 5) rfl e_t_int (by simp) (by simp) rfl
theorem dset_all (b : BoxAt h r [.int .i64 m, .int .i64 p, .int .i64 w, vj, vt]) {m' p' w' : Int} {oj ot : Option Addr} {nj cj nt ct : Nat} :
    ∃ h', storeP P h t_impl_Dispatcher (.agg #[.int .i64 m', .int .i64 p', .int .i64 w', .slice oj nj cj, .slice ot nt ct]) (.pointer (some ⟨r, 0, some 5⟩)) = some h' ∧ BoxAt h' r [.int .i64 m', .int .i64 p', .int .i64 w', .slice oj nj cj, .slice ot nt ct] ∧ Keeps (some r) h h' :=
  b.store (ty := t_impl_Dispatcher) (w := .agg #[.int .i64 m', .int .i64 p', .int .i64 w', .slice oj nj cj, .slice ot nt ct]) (o := 0) (n := 5) rfl e_t_impl_Dispatcher (by simp) (by simp) rfl
end
/-- A dispatcher with lists of one's own. -/
structure DSt (b : Nat) (h : Hp) (vj vt : Value) (d : Disp) : Prop where
  j : Own b h vj 4 (d.js.map encJ)
  t : Own b h vt 3 (d.ts.map encT)
  jn : d.js.length ≤ 2 ^ 40
  tn : d.ts.length ≤ 2 ^ 40
theorem DSt.ok {b : Nat} {h : Hp} {vj vt : Value} {d : Disp} (o : DSt b h vj vt d) : DOk h vj vt d := ⟨o.j.sees, o.t.sees, o.jn, o.tn⟩
theorem DSt.low {b b' : Nat} {h : Hp} {vj vt : Value} {d : Disp} (o : DSt b h vj vt d) (hb : b' ≤ b) : DSt b' h vj vt d := ⟨o.j.low hb, o.t.low hb, o.jn, o.tn⟩
theorem DSt.pre {b : Nat} {h h' : Hp} {vj vt : Value} {d : Disp} (o : DSt b h vj vt d) (hp : h <+: h') : DSt b h' vj vt d := ⟨o.j.pre hp, o.t.pre hp, o.jn, o.tn⟩
/-- Values that lead nowhere need no memory. -/
theorem _root_.Go.Pm.Own.bare {b b' sz : Nat} {h h' : Hp} {v : Value} {els : List (List Value)} (o : Own b h v sz els) (hp : plainC v = true) : Own b' h' v sz els := by
  refine ⟨o.1, .inl ?_⟩
  rcases o.2 with h2 | ⟨r', rest, k', _, _, rfl, _⟩
  · exact h2
  · cases hp
theorem plain_dv {d : Disp} {vj vt : Value} (hp : plain (dv d vj vt) = true) : plainC vj = true ∧ plainC vt = true := by
  simp [plain] at hp
  exact hp
/-- What is left of a dispatcher when what leads nowhere is dropped. -/
theorem DSt.gc {b : Nat} {h h' : Hp} {vj vt : Value} {d : Disp} (o : DSt b h' vj vt d) : DSt b (Pm.gc h h' (dv d vj vt)) vj vt d := by
  rcases gc_cases h h' (dv d vj vt) with hg | ⟨hpl, hg⟩
  · rw [hg]; exact o
  · rw [hg]
    obtain ⟨h1, h2⟩ := plain_dv hpl
    exact ⟨o.j.bare h1, o.t.bare h2, o.jn, o.tn⟩
theorem keeps_gc {r : Option Nat} {h h' : Hp} {v : Value} (k : Keeps r h h') : Keeps r h (gc h h' v) := by
  rcases gc_cases h h' v with hg | ⟨_, hg⟩ <;> rw [hg]
  · exact k
  · exact .refl
theorem pre_gc {h h' : Hp} {v : Value} (k : h <+: h') : h <+: gc h h' v := by
  rcases gc_cases h h' v with hg | ⟨_, hg⟩ <;> rw [hg]
  · exact k
  · exact List.prefix_rfl
section
variable {P : Program} {b sz : Nat} {h h' : Hp} {v x : Value} {els ys : List (List Value)}
/-- append to nothing. -/
theorem app_nil {ty e : TypeId} {q : TypeInfo} {z : Value} (hu : P.underlying ty = some (.slice e)) (hq : P.info? e = some q) (hz : zeroP P e = some z) (hsz : q.size = sz) (hpos : 0 < sz) (hby : 0 < q.bytes)
    (s : Sees h x sz ys) (h1 : ys.flatten.all one = true) (hb : b ≤ h.length) (hlim : ys.length * q.bytes ≤ 2 ^ 47) :
    ∃ v' h', appendP P h ty (.slice none 0 0) x = some (v', h') ∧ newOk h h' ∧ Own b h' v' sz ys := by
  have hyl := s.1
  have hlen : lenP x = some ys.length := by obtain ⟨oa, c, rfl⟩ := s.shape; rfl
  have hse : seenP h q.size x = some ys.flatten := by rw [hsz]; exact seen_of s
  rcases Nat.eq_zero_or_pos ys.length with h0 | h0
  · have : ys = [] := List.eq_nil_of_length_eq_zero h0
    subst this
    refine ⟨.slice none 0 0, h, ?_, newOk_self, .nil⟩
    simp only [appendP, hu, hq, hz, hlen, hse]
    rw [if_pos ⟨by omega, hby, h1⟩, if_pos (by simp)]
  · refine ⟨.slice (some ⟨h.length, 0, some ys.flatten.length⟩) ys.length ys.length, h ++ [some ⟨ys.flatten, q.size, false⟩], ?_, newOk_own, ?_⟩
    · simp only [appendP, hu, hq, hz, hlen, hse]
      rw [if_pos ⟨by omega, hby, h1⟩, if_neg (by omega), if_pos hlim]
      rfl
    · rw [hsz]
      exact Own.fresh hb hyl (flat_len hyl)
theorem _root_.Go.Pm.newOk.pre (k : newOk h h') : h <+: h' := k.1
theorem gc_cases2 (h h' : Hp) (v : Value) : gc h h' v = h' ∨ (plain v = true ∧ h <+: h' ∧ gc h h' v = h) := by
  unfold gc
  split
  · rename_i hp; exact .inr ⟨hp.1, hp.2, rfl⟩
  · exact .inl rfl
/-- What was written stays, also where what is new is dropped. -/
theorem _root_.Go.Pm.Own.gc {els0 : List (List Value)} (o : Own b h v sz els0) (o' : Own b h' v sz els) (w : Value) : Own b (Pm.gc h h' w) v sz els := by
  rcases gc_cases2 h h' w with hg | ⟨_, hp, hg⟩
  · rw [hg]; exact o'
  · rw [hg]
    refine ⟨o'.1, ?_⟩
    rcases o'.2 with h2 | ⟨r, rest, k, hb, hr, rfl, hh⟩
    · exact .inl h2
    · refine .inr ⟨r, rest, k, hb, hr, rfl, ?_⟩
      have hl := o.row_lt (j := r) rfl
      rw [pre_iff] at hp
      rw [← hp.2 r hl (by simp)]; exact hh
end
theorem ints_app0 {b : Nat} {h : Hp} {x : Value} {ys : List Int} (hb : b ≤ h.length) (s : Ints h x ys) (hn : ys.length ≤ 2 ^ 41) :
    ∃ v' h', appendP P h t_S_int (.slice none 0 0) x = some (v', h') ∧ newOk h h' ∧ Own b h' v' 1 (ys.map encI) :=
  app_nil (P := P) u_S_int e_t_int z_t_int ti_3_size (by omega) (by rw [ti_3_bytes]; omega) s (ones_I ys) hb (by rw [ti_3_bytes]; simp; omega)
theorem jobs_app0 {b : Nat} {h : Hp} {x : Value} {ys : List Job} (hb : b ≤ h.length) (s : Jobs h x ys) (hn : ys.length ≤ 2 ^ 41) :
    ∃ v' h', appendP P h t_S_impl_Job (.slice none 0 0) x = some (v', h') ∧ newOk h h' ∧ Own b h' v' 4 (ys.map encJ) :=
  app_nil (P := P) u_S_impl_Job e_t_impl_Job z_t_impl_Job ti_58_size (by omega) (by rw [ti_58_bytes]; omega) s (ones_J ys) hb (by rw [ti_58_bytes]; simp; omega)
theorem tasks_app0 {b : Nat} {h : Hp} {x : Value} {ys : List Task} (hb : b ≤ h.length) (s : Tasks h x ys) (hn : ys.length ≤ 2 ^ 41) :
    ∃ v' h', appendP P h t_S_impl_Task (.slice none 0 0) x = some (v', h') ∧ newOk h h' ∧ Own b h' v' 3 (ys.map encT) :=
  app_nil (P := P) u_S_impl_Task e_t_impl_Task z_t_impl_Task ti_134_size (by omega) (by rw [ti_134_bytes]; omega) s (ones_T ys) hb (by rw [ti_134_bytes]; simp; omega)
end Go.Pm.PP

/- Dispatchers: lists of their own. -/
set_option linter.unusedVariables false
set_option linter.unusedSimpArgs false
set_option maxRecDepth 4000
set_option maxHeartbeats 1000000
namespace Go.Pm.PP
open Go.Pm Go.Proofs
theorem Down_run {h : Hp} {vj vt : Value} {d : Disp} (o : DOk h vj vt d) :
    RunsC P G n_impl_Dispatcher_own [dv d vj vt] h fun v h' => h <+: h' ∧ ∃ vj' vt', v = dv d vj' vt' ∧ DSt h.length h' vj' vt' d := by
  refine enter_run e_impl_Dispatcher_own (by simp) ?_
  have os := o
  obtain ⟨⟨oj, cj, rfl⟩, ot, ct, rfl⟩ := o.shapes
  -- the jobs
  have s0 : (h ++ [some ⟨[.int .i64 d.m, .int .i64 d.p, .int .i64 d.now, .slice oj d.js.length cj, .slice ot d.ts.length ct], 0, false⟩, some ⟨[.int .i64 0, .int .i64 0, .int .i64 0, .slice none 0 0, .slice none 0 0], 0, false⟩]) <+: (h ++ [some ⟨[.int .i64 d.m, .int .i64 d.p, .int .i64 d.now, .slice oj d.js.length cj, .slice ot d.ts.length ct], 0, false⟩, some ⟨[.int .i64 0, .int .i64 0, .int .i64 0, .slice none 0 0, .slice none 0 0], 0, false⟩]) := List.prefix_rfl
  have own0 : Own h.length (h ++ [some ⟨[.int .i64 d.m, .int .i64 d.p, .int .i64 d.now, .slice oj d.js.length cj, .slice ot d.ts.length ct], 0, false⟩, some ⟨[.int .i64 0, .int .i64 0, .int .i64 0, .slice none 0 0, .slice none 0 0], 0, false⟩]) (.slice none 0 0) 4 (([] : List Job).map encJ) := .nil
  obtain ⟨v1, h1, ha1, hw1, hk1, hr1⟩ := jobs_app (xs := []) (ys := d.js) own0 (by simp) (os.j.ext _) (by have := os.jn; simp; omega)
  rw [List.nil_append] at hw1
  have b1 := (boxP s0).keepsO own0 hk1 (by omega)
  have b1' := (boxP1 s0).keepsO own0 hk1 (by omega)
  have p1 : h <+: h1 := hk1.pre (List.prefix_append ..) (fun j hj => own0.row_ge hj)
  obtain ⟨oa1, c1, rfl⟩ := hw1.sees.shapeT
  obtain ⟨h2, hs2, b2, k2⟩ := dset_j (oa := oa1) (n := d.js.length) (c := c1) b1
  have b2' := b1'.keepsB k2 (by omega)
  have w2 := hw1.keepsB b1 k2 (by omega)
  have p2 : h <+: h2 := k2.pre p1 (fun j hj => by cases hj; exact Nat.le_refl _)
  -- the tasks
  have own2 : Own h.length h2 (.slice none 0 0) 3 (([] : List Task).map encT) := .nil
  obtain ⟨v3, h3, ha3, hw3, hk3, hr3⟩ := tasks_app (xs := []) (ys := d.ts) own2 p2.length_le (os.t.pre p2) (by have := os.tn; simp; omega)
  rw [List.nil_append] at hw3
  have b3 := b2.keepsO own2 hk3 (by omega)
  have b3' := b2'.keepsO own2 hk3 (by omega)
  have w3 := w2.keepsO own2 hk3 (by omega)
  have p3 : h <+: h3 := hk3.pre p2 (fun j hj => own2.row_ge hj)
  obtain ⟨oa3, c3, rfl⟩ := hw3.sees.shapeT
  obtain ⟨h4, hs4, b4, k4⟩ := dset_t (oa := oa3) (n := d.ts.length) (c := c3) b3
  have b4' := b3'.keepsB k4 (by omega)
  have w4 := w3.keepsB b3 k4 (by omega)
  have w4' := hw3.keepsB b3 k4 (by omega)
  have p4 : h <+: h4 := k4.pre p3 (fun j hj => by cases hj; exact Nat.le_refl _)
  obtain ⟨h5, hs5, b5, k5⟩ := dset_all (m' := d.m) (p' := d.p) (w' := d.now) (oj := oa1) (nj := d.js.length) (cj := c1) (ot := oa3) (nt := d.ts.length) (ct := c3) b4'
  have w5 := w4.keepsB b4' k5 (by omega)
  have w5' := w4'.keepsB b4' k5 (by omega)
  have p5 : h <+: h5 := k5.pre p4 (fun j hj => by cases hj; omega)
  simp -implicitDefEqProofs [ha1, hs2, dbox b1, dbox b2, ha3, hs4, dbox b3, dbox b4, hs5, dbox b5]
  exact ⟨pre_gc p5, _, _, ⟨rfl, rfl⟩, (DSt.gc ⟨w5, w5', os.jn, os.tn⟩)⟩
end Go.Pm.PP

/- Dispatchers: a time step. -/
set_option linter.unusedVariables false
set_option linter.unusedSimpArgs false
set_option maxRecDepth 4000
set_option maxHeartbeats 1000000
namespace Go.Pm.PP
open Go.Pm Go.Proofs
theorem l12Own_run {h : Hp} {vj vt : Value} {d : Disp} (o : DOk h vj vt d) :
    RunsC P G n_spec_l12Own [dv d vj vt] h fun v h' => h <+: h' ∧ ∃ vj' vt', v = dv d vj' vt' ∧ DSt h.length h' vj' vt' d := by
  refine enter_run e_spec_l12Own (by simp) ?_
  have os := o
  obtain ⟨⟨oj, cj, rfl⟩, ot, ct, rfl⟩ := o.shapes
  have s0 : (h ++ [some ⟨[.int .i64 d.m, .int .i64 d.p, .int .i64 d.now, .slice oj d.js.length cj, .slice ot d.ts.length ct], 0, false⟩, some ⟨[.int .i64 0, .int .i64 0, .int .i64 0, .slice none 0 0, .slice none 0 0], 0, false⟩]) <+: (h ++ [some ⟨[.int .i64 d.m, .int .i64 d.p, .int .i64 d.now, .slice oj d.js.length cj, .slice ot d.ts.length ct], 0, false⟩, some ⟨[.int .i64 0, .int .i64 0, .int .i64 0, .slice none 0 0, .slice none 0 0], 0, false⟩]) := List.prefix_rfl
  have b0 := boxP s0
  have b0' := boxP1 s0
  obtain ⟨v1, h1, ha1, hn1, hw1⟩ := jobs_app0 (b := h.length) (by simp) (os.j.ext [some ⟨[.int .i64 d.m, .int .i64 d.p, .int .i64 d.now, .slice oj d.js.length cj, .slice ot d.ts.length ct], 0, false⟩, some ⟨[.int .i64 0, .int .i64 0, .int .i64 0, .slice none 0 0, .slice none 0 0], 0, false⟩]) (by have := os.jn; omega)
  have p1 : h <+: h1 := (List.prefix_append ..).trans hn1.pre
  have b1 := b0.pre hn1.pre
  have b1' := b0'.pre hn1.pre
  obtain ⟨v2, h2, ha2, hn2, hw2⟩ := tasks_app0 (b := h.length) p1.length_le (os.t.pre p1) (by have := os.tn; omega)
  have b2' := b1'.pre hn2.pre
  have w2 := hw1.pre hn2.pre
  have p2 := p1.trans hn2.pre
  obtain ⟨oa1, c1, rfl⟩ := hw1.sees.shapeT
  obtain ⟨oa2, c2, rfl⟩ := hw2.sees.shapeT
  obtain ⟨h3, hs3, b3, k3⟩ := dset_all (m' := d.m) (p' := d.p) (w' := d.now) (oj := oa1) (nj := d.js.length) (cj := c1) (ot := oa2) (nt := d.ts.length) (ct := c2) b2'
  have w3 := w2.keepsB b2' k3 (by omega)
  have w3' := hw2.keepsB b2' k3 (by omega)
  have p3 : h <+: h3 := k3.pre p2 (fun j hj => by cases hj; omega)
  simp -implicitDefEqProofs [ha1, hn1, dbox b1, ha2, hn2, hs3, dbox b3]
  exact ⟨pre_gc p3, _, _, ⟨rfl, rfl⟩, (DSt.gc ⟨w3, w3', os.jn, os.tn⟩)⟩
def putT (d : Disp) (k : Nat) (i : Int) (ts : List Task) : List Task := if i ≥ 0 then ts ++ [⟨i, k, d.now⟩] else ts
def stepGo (d : Disp) : List Int → Nat → List Task → List Task
  | [], _, ts => ts
  | r :: rs, k, ts => stepGo d rs (k + 1) (if r ≥ 0 then ts else putT d k (pickI { d with ts := ts }) ts)
def stepI (d : Disp) (M : Nat) : Disp := { d with ts := stepGo d (runL d M) 0 d.ts, now := w64 (d.now + 1) }
theorem runL_len {d : Disp} {M : Nat} : (runL d M).length = M := by simp [runL]
theorem step_run {b : Nat} {h : Hp} {vj vt : Value} {d : Disp} {M : Nat} (D : DSt b h vj vt d) (hb : b ≤ h.length) (hin : Ins d) (hM : d.m = M) (hMn : M ≤ 2 ^ 20) (hts : d.ts.length ≤ 2 ^ 30) :
    RunsC P G n_impl_Dispatcher_step [dv d vj vt] h fun v h' => ∃ vt', v = dv (stepI d M) vj vt' ∧ DSt b h' vj vt' (stepI d M) ∧ Keeps (rowV vt) h h' ∧ (∀ j, rowV vt' = some j → rowV vt = some j ∨ h.length ≤ j) ∧ (stepI d M).ts.length ≤ d.ts.length + M := by
  refine enter_run e_impl_Dispatcher_step (by simp) ?_
  have os := D.ok
  obtain ⟨⟨oj, cj, ej⟩, ot, ct, et⟩ := os.shapes
  subst ej; subst et
  have r0 := running_run (os.ext [some ⟨[.int .i64 d.m, .int .i64 d.p, .int .i64 d.now, .slice oj d.js.length cj, .slice ot d.ts.length ct], 0, false⟩, some ⟨[.int .i64 0, .int .i64 0, .int .i64 0, .slice none 0 0, .slice none 0 0], 0, false⟩]) hin hM (by omega)
  simp -implicitDefEqProofs
  refine CL_post r0 fun vr h1 hv => ?_
  obtain ⟨hp1, ho1⟩ := hv
  have b1 := boxP hp1
  have b1' := boxP1 hp1
  have p1 : h <+: h1 := (List.prefix_append ..).trans hp1
  have hs1 := ho1.sees
  obtain ⟨ov, cv, evr⟩ := hs1.shapeT
  subst evr
  rw [runL_len] at *
  simp -implicitDefEqProofs
  refine R_loop (fun n s h' => ∃ (k : Nat) (ts : List Task) (vt' : Value), k + n = M ∧ s = [(1, .pointer (some ⟨h.length, 0, some 5⟩)), (2, .pointer (some ⟨h.length + 1, 0, some 5⟩)), (7, .slice ov M cv), (8, .int .i64 M), (9, .int .i64 k)] ∧
      BoxAt h' h.length [.int .i64 d.m, .int .i64 d.p, .int .i64 d.now, .slice oj d.js.length cj, vt'] ∧ BoxAt h' (h.length + 1) [.int .i64 0, .int .i64 0, .int .i64 0, .slice none 0 0, .slice none 0 0] ∧
      DSt b h' (.slice oj d.js.length cj) vt' { d with ts := ts } ∧ Ints h' (.slice ov M cv) (runL d M) ∧ Keeps (rowV (.slice ot d.ts.length ct)) h h' ∧ (∀ j, rowV vt' = some j → rowV (.slice ot d.ts.length ct) = some j ∨ h.length ≤ j) ∧ ts.length ≤ d.ts.length + k ∧
      stepGo d (runL d M) 0 d.ts = stepGo d ((runL d M).drop k) k ts) (fun n s h' => ?_) ⟨0, d.ts, .slice ot d.ts.length ct, Nat.zero_add _, by simp, b1, b1', D.pre p1, hs1, .ofPre p1, fun j hj => .inl hj, by omega, by simp⟩
  rintro ⟨k, ts, vt', hi, rfl, b2, b2', D2, hs2, hk2, hr2, htl, hx⟩
  have hlen2 := hk2.1
  by_cases hlt : k < M
  · obtain ⟨y, hy, hd⟩ := drop_at (show k < (runL d M).length by rw [runL_len]; exact hlt)
    rw [hd, stepGo] at hx
    have i1 := intsL hs2 hy
    have wk := winc hlt (show M ≤ 2 ^ 40 by omega)
    by_cases hy0 : y ≥ 0
    · rw [if_pos hy0] at hx
      simp -implicitDefEqProofs [hlt, i1, hy0, show 0 ≤ y from hy0, wk]
      exact ⟨n - 1, by omega, k + 1, by omega, rfl, ts, vt', b2, b2', D2, hs2, hk2, hr2, by omega, hx⟩
    · rw [if_neg hy0, putT] at hx
      have pk : Ret P G n_impl_Dispatcher_picked [.agg #[.int .i64 d.m, .int .i64 d.p, .int .i64 d.now, .slice oj d.js.length cj, vt']] h' (.int .i64 (pickI { d with ts := ts })) h' := picked_run (d := { d with ts := ts }) D2.ok
      by_cases hp0 : pickI { d with ts := ts } ≥ 0
      · rw [if_pos hp0] at hx
        have sn := sees_new (h := h') (l := [some ⟨[.int .i64 (pickI { d with ts := ts }), .int .i64 k, .int .i64 d.now], 3, false⟩]) (k := 0) (n := 3) (m := 1) (sz := 3) rfl [encT ⟨pickI { d with ts := ts }, k, d.now⟩] rfl (by simp [encT]) rfl rfl
        obtain ⟨v3, h3, ha3, hw3, hk3, hr3⟩ := tasks_app (ys := [⟨pickI { d with ts := ts }, k, d.now⟩]) (D2.t.app (t := [some ⟨[.int .i64 (pickI { d with ts := ts }), .int .i64 k, .int .i64 d.now], 3, false⟩])) (by simp; omega) sn (by have : ts.length ≤ 2 ^ 40 := D2.tn; simp; omega)
        have hk3' : Keeps (rowV vt') h' h3 := Keeps.trans .app hk3
        have b3 := (b2.ext _).keepsO D2.t.app hk3 (by omega)
        have b3' := (b2'.ext _).keepsO D2.t.app hk3 (by omega)
        have j3 := (D2.j.app).keepsO D2.t.app hk3 (by omega)
        have s3 := (hs2.ext _).keepsO D2.t.app hk3 (by omega)
        obtain ⟨oa3, c3, e3⟩ := hw3.sees.shapeT
        subst e3
        obtain ⟨h4, hs4, b4, k4⟩ := dset_t (oa := oa3) (n := (ts ++ [(⟨pickI { d with ts := ts }, k, d.now⟩ : Task)]).length) (c := c3) b3
        have b4' := b3'.keepsB k4 (by omega)
        have j4 := j3.keepsB b3 k4 (by omega)
        have t4 := hw3.keepsB b3 k4 (by omega)
        have s4 := s3.keepsB b3 k4 (by omega)
        have hk4 : Keeps (rowV (.slice ot d.ts.length ct)) h h4 := (hk2.then hk3' hr2).then k4 (fun j hj => by cases hj; exact .inr (Nat.le_refl _))
        simp -implicitDefEqProofs [hlt, i1, hy0, show ¬ 0 ≤ y from hy0, wk, dbox b2, dbox (b2.ext _), CL_ret pk, hp0, show 0 ≤ pickI { d with ts := ts } from hp0, show appendP P (h' ++ [some ⟨[.int .i64 (pickI { d with ts := ts }), .int .i64 k, .int .i64 d.now], 3, false⟩]) 42 vt' (.slice (some ⟨h'.length, 0, some 3⟩) 1 1) = some (.slice oa3 (ts ++ [(⟨pickI { d with ts := ts }, k, d.now⟩ : Task)]).length c3, h3) from ha3, show storeP P h3 42 (.slice oa3 (ts.length + 1) c3) (.pointer (some ⟨h.length, 4, some 5⟩)) = some h4 by simpa using hs4]
        refine ⟨n - 1, by omega, k + 1, by omega, rfl, ts ++ [⟨pickI { d with ts := ts }, k, d.now⟩], .slice oa3 (ts ++ [(⟨pickI { d with ts := ts }, k, d.now⟩ : Task)]).length c3, b4, b4', ⟨j4, t4, D2.jn, by have h9 : ts.length ≤ 2 ^ 30 + 2 ^ 20 := (by omega); show (ts ++ [_]).length ≤ 2 ^ 40; simp; omega⟩, s4, hk4, fun j hj => ?_, by simp; omega, hx⟩
        rcases hr3 with hr3 | ⟨r, hr3, hge⟩
        · rw [hr3] at hj; exact hr2 j hj
        · rw [hr3] at hj; cases hj; exact .inr (by simp at hge; omega)
      · rw [if_neg hp0] at hx
        simp -implicitDefEqProofs [hlt, i1, hy0, show ¬ 0 ≤ y from hy0, wk, dbox b2, CL_ret pk, hp0, show ¬ 0 ≤ pickI { d with ts := ts } from hp0]
        exact ⟨n - 1, by omega, k + 1, by omega, rfl, ts, vt', b2, b2', D2, hs2, hk2, hr2, by omega, hx⟩
  · rw [List.drop_eq_nil_of_le (by rw [runL_len]; omega), stepGo] at hx
    obtain ⟨h5, hs5, b5, k5⟩ := dset_2 (x := IntKind.i64.wrap (d.now + 1)) b2
    have b5' := b2'.keepsB k5 (by omega)
    have j5 := D2.j.keepsB b2 k5 (by omega)
    have t5 := D2.t.keepsB b2 k5 (by omega)
    obtain ⟨ot2, ct2, e2⟩ := t5.sees.shapeT
    subst e2
    obtain ⟨h6, hs6, b6, k6⟩ := dset_all (m' := d.m) (p' := d.p) (w' := IntKind.i64.wrap (d.now + 1)) (oj := oj) (nj := d.js.length) (cj := cj) (ot := ot2) (nt := ts.length) (ct := ct2) b5'
    have j6 := j5.keepsB b5' k6 (by omega)
    have t6 := t5.keepsB b5' k6 (by omega)
    have hk6 : Keeps (rowV (.slice ot d.ts.length ct)) h h6 := (hk2.then k5 (fun j hj => by cases hj; exact .inr (Nat.le_refl _))).then k6 (fun j hj => by cases hj; exact .inr (by omega))
    simp -implicitDefEqProofs [hlt, dbox b2, hs5, dbox b5, hs6, dbox b6]
    have hst : stepI d M = { d with ts := ts, now := IntKind.i64.wrap (d.now + 1) } := by rw [stepI, hx]; rfl
    rw [hst]
    exact ⟨_, ⟨rfl, rfl, rfl, rfl⟩, DSt.gc (d := { d with ts := ts, now := IntKind.i64.wrap (d.now + 1) }) ⟨j6, t6, D2.jn, D2.tn⟩, keeps_gc hk6, hr2, by show ts.length ≤ _; omega⟩
end Go.Pm.PP

/- Dispatchers: a time step by the reference. -/
set_option linter.unusedVariables false
set_option linter.unusedSimpArgs false
set_option maxRecDepth 4000
set_option maxHeartbeats 1000000
namespace Go.Pm.PP
open Go.Pm Go.Proofs
theorem fGo_in {d : Disp} {P : Int → Prop} : ∀ {l : List Int} {b : Int}, (∀ x ∈ l, P x) → P b → P (fGo d l b)
  | [], b, _, hb => hb
  | i :: r, b, hl, hb => by
    unfold fGo
    refine fGo_in (fun x hx => hl x (List.mem_cons_of_mem _ hx)) ?_
    split
    · exact hl i (List.mem_cons_self ..)
    · exact hb
theorem firstS_in {d : Disp} : firstS d = -1 ∨ ∃ q : Nat, firstS d = q ∧ q < d.js.length := by
  unfold firstS
  cases hw : waitL d with
  | nil => exact .inl rfl
  | cons x r =>
    refine .inr (fGo_in (P := fun y => ∃ q : Nat, y = q ∧ q < d.js.length) (fun y hy => waitL_in y (by rw [hw]; exact List.mem_cons_of_mem _ hy)) (waitL_in x (by rw [hw]; exact List.mem_cons_self ..)))
theorem pickGo_in {d : Disp} {P : Int → Prop} : ∀ {l : List Int} {b : Int}, (∀ x ∈ l, P x) → P b → P (pickGo d l b)
  | [], b, _, hb => hb
  | i :: r, b, hl, hb => by
    unfold pickGo
    refine pickGo_in (fun x hx => hl x (List.mem_cons_of_mem _ hx)) ?_
    split
    · exact hl i (List.mem_cons_self ..)
    · exact hb
theorem pickI_in {d : Disp} : pickI d = -1 ∨ ∃ q : Nat, pickI d = q ∧ q < d.js.length :=
  pickGo_in (P := fun y => y = -1 ∨ ∃ q : Nat, y = q ∧ q < d.js.length) (fun y hy => .inr (waitL_in y hy)) (.inl rfl)
theorem nat_in {q n : Nat} (h : q < n) : inB (q : Int) 0 ((n : Int) - 1) = true := by simp [inB]; omega
theorem Ins.add {d : Disp} (h : Ins d) {q : Nat} (hq : q < d.js.length) (m s : Int) : Ins { d with ts := d.ts ++ [⟨q, m, s⟩] } := by
  intro t ht
  rcases List.mem_append.1 ht with h1 | h1
  · exact h t h1
  · rw [List.mem_singleton.1 h1]; exact nat_in hq
def stepSGo (d : Disp) : Nat → Nat → List Task → List Task
  | 0, _, ts => ts
  | n + 1, k, ts => stepSGo d n (k + 1) (if decide (runFirst { d with ts := ts } k ts < 0) && decide (firstS { d with ts := ts } ≥ 0) then ts ++ [⟨firstS { d with ts := ts }, k, d.now⟩] else ts)
def stepS (d : Disp) (M : Nat) : Disp := { d with ts := stepSGo d M 0 d.ts, now := w64 (d.now + 1) }
theorem l12Step_run {h : Hp} {vj vt : Value} {d : Disp} {M : Nat} (o : DOk h vj vt d) (hin : Ins d) (hM : d.m = M) (hMn : M ≤ 2 ^ 20) (hts : d.ts.length ≤ 2 ^ 30) :
    RunsC P G n_spec_l12Step [dv d vj vt] h fun v h' => h <+: h' ∧ ∃ vj' vt', v = dv (stepS d M) vj' vt' ∧ DSt h.length h' vj' vt' (stepS d M) ∧ Ins (stepS d M) ∧ (stepS d M).ts.length ≤ d.ts.length + M := by
  refine enter_run e_spec_l12Step (by simp) ?_
  have os := o
  obtain ⟨⟨oj, cj, ej⟩, ot, ct, et⟩ := o.shapes
  subst ej; subst et
  have r0 := l12Own_run (os.ext [some ⟨[.int .i64 d.m, .int .i64 d.p, .int .i64 d.now, .slice oj d.js.length cj, .slice ot d.ts.length ct], 0, false⟩, some ⟨[.int .i64 0, .int .i64 0, .int .i64 0, .slice none 0 0, .slice none 0 0], 0, false⟩])
  simp -implicitDefEqProofs
  refine CL_post r0 fun v h1 hv => ?_
  obtain ⟨hp1, vj1, vt1, rfl, D1⟩ := hv
  have b1 := boxP hp1
  have b1' := boxP1 hp1
  have p1 : h <+: h1 := (List.prefix_append ..).trans hp1
  have hl1 := hp1.length_le
  simp at hl1
  obtain ⟨⟨oj1, cj1, ej⟩, ot1, ct1, et⟩ := D1.ok.shapes
  subst ej; subst et
  simp -implicitDefEqProofs
  have b3 : BoxAt (h1 ++ [some ⟨[.int .i64 d.m, .int .i64 d.p, .int .i64 d.now, .slice oj1 d.js.length cj1, .slice ot1 d.ts.length ct1], 0, false⟩]) h1.length [.int .i64 d.m, .int .i64 d.p, .int .i64 d.now, .slice oj1 d.js.length cj1, .slice ot1 d.ts.length ct1] := boxP List.prefix_rfl
  refine R_loop (fun n s h' => ∃ (k : Nat) (ts : List Task) (vt' : Value), k + n = M ∧ s = [(1, .pointer (some ⟨h.length, 0, some 5⟩)), (2, .pointer (some ⟨h.length + 1, 0, some 5⟩)), (3, .pointer (some ⟨h1.length, 0, some 5⟩)), (4, .int .i64 k)] ∧
      BoxAt h' h.length [.int .i64 d.m, .int .i64 d.p, .int .i64 d.now, .slice oj d.js.length cj, .slice ot d.ts.length ct] ∧ BoxAt h' (h.length + 1) [.int .i64 0, .int .i64 0, .int .i64 0, .slice none 0 0, .slice none 0 0] ∧
      BoxAt h' h1.length [.int .i64 d.m, .int .i64 d.p, .int .i64 d.now, .slice oj1 d.js.length cj1, vt'] ∧ DSt h.length h' (.slice oj1 d.js.length cj1) vt' { d with ts := ts } ∧ Ins { d with ts := ts } ∧ h <+: h' ∧ ts.length ≤ d.ts.length + k ∧
      stepSGo d M 0 d.ts = stepSGo d n k ts) (fun n s h' => ?_) ⟨0, d.ts, .slice ot1 d.ts.length ct1, Nat.zero_add _, by simp, b1.ext _, b1'.ext _, b3, (D1.low (by simp)).pre (List.prefix_append ..), hin, p1.trans (List.prefix_append ..), by omega, rfl⟩
  rintro ⟨k, ts, vt', hi, rfl, b2, b2', b4, D2, hin2, hp2, htl, hx⟩
  have hlen2 := hp2.length_le
  by_cases hlt : k < M
  · obtain ⟨n, rfl⟩ : ∃ n', n = n' + 1 := ⟨n - 1, by omega⟩
    rw [stepSGo] at hx
    have wk := winc hlt (show M ≤ 2 ^ 40 by omega)
    have hMk : (k : Int) < d.m := by rw [hM]; omega
    have pf : Ret P G n_spec_l12First [.agg #[.int .i64 d.m, .int .i64 d.p, .int .i64 d.now, .slice oj1 d.js.length cj1, vt']] h' (.int .i64 (firstS { d with ts := ts })) h' := l12First_run (d := { d with ts := ts }) D2.ok
    have pr : Ret P G n_spec_l12Running [.agg #[.int .i64 d.m, .int .i64 d.p, .int .i64 d.now, .slice oj1 d.js.length cj1, vt'], .int .i64 k] h' (.int .i64 (runFirst { d with ts := ts } k ts)) h' := l12Running_run (d := { d with ts := ts }) D2.ok hin2
    cases c1 : decide (runFirst { d with ts := ts } k ts < 0)
    · have c1' : ¬ runFirst { d with ts := ts } k ts < 0 := by simpa using c1
      simp only [c1, Bool.false_and, Bool.false_eq_true, if_false] at hx
      simp -implicitDefEqProofs [hlt, hMk, dbox b2, dbox b4, CL_ret pf, CL_ret pr, c1', wk]
      exact ⟨n, by omega, k + 1, by omega, rfl, b2, b2', ts, vt', b4, D2, hin2, hp2, by omega, hx⟩
    · have c1' : runFirst { d with ts := ts } k ts < 0 := by simpa using c1
      cases c2 : decide (firstS { d with ts := ts } ≥ 0)
      · have c2' : ¬ 0 ≤ firstS { d with ts := ts } := by simpa using c2
        simp only [c1, c2, Bool.and_false, Bool.false_eq_true, if_false] at hx
        simp -implicitDefEqProofs [hlt, hMk, dbox b2, dbox b4, CL_ret pf, CL_ret pr, c1', c2', wk]
        exact ⟨n, by omega, k + 1, by omega, rfl, b2, b2', ts, vt', b4, D2, hin2, hp2, by omega, hx⟩
      · have c2' : 0 ≤ firstS { d with ts := ts } := by simpa using c2
        simp only [c1, c2, Bool.and_self, if_true] at hx
        rcases firstS_in (d := { d with ts := ts }) with h0 | ⟨q, hq, hql⟩
        · omega
        rw [hq] at hx
        have sn := sees_new (h := h') (l := [some ⟨[.int .i64 q, .int .i64 k, .int .i64 d.now], 3, false⟩]) (k := 0) (n := 3) (m := 1) (sz := 3) rfl [encT ⟨q, k, d.now⟩] rfl (by simp [encT]) rfl rfl
        obtain ⟨v3, h3, ha3, hw3, hk3, hr3⟩ := tasks_app (ys := [⟨q, k, d.now⟩]) (D2.t.app (t := [some ⟨[.int .i64 q, .int .i64 k, .int .i64 d.now], 3, false⟩])) (by simp; omega) sn (by have : ts.length ≤ 2 ^ 40 := D2.tn; simp; omega)
        have hp3 : h <+: h3 := hk3.pre (hp2.trans (List.prefix_append ..)) (fun j hj => D2.t.row_ge hj)
        have b3 := (b2.ext _).keepsO D2.t.app hk3 (by omega)
        have b3' := (b2'.ext _).keepsO D2.t.app hk3 (by omega)
        have b5 := (b4.ext _).keepsO D2.t.app hk3 (by omega)
        have j3 := (D2.j.app).keepsO D2.t.app hk3 (by omega)
        obtain ⟨oa3, c3, e3⟩ := hw3.sees.shapeT
        subst e3
        obtain ⟨h4, hs4, b6, k4⟩ := dset_t (oa := oa3) (n := (ts ++ [(⟨q, k, d.now⟩ : Task)]).length) (c := c3) b5
        have b7 := b3.keepsB k4 (by omega)
        have b7' := b3'.keepsB k4 (by omega)
        have j4 := j3.keepsB b5 k4 (by omega)
        have t4 := hw3.keepsB b5 k4 (by omega)
        have hp4 : h <+: h4 := k4.pre hp3 (fun j hj => by cases hj; omega)
        simp -implicitDefEqProofs [hlt, hMk, dbox b2, dbox b4, dbox (b4.ext _), CL_ret pf, CL_ret pr, c1', hq, wk, show appendP P (h' ++ [some ⟨[.int .i64 q, .int .i64 k, .int .i64 d.now], 3, false⟩]) 42 vt' (.slice (some ⟨h'.length, 0, some 3⟩) 1 1) = some (.slice oa3 (ts ++ [(⟨q, k, d.now⟩ : Task)]).length c3, h3) from ha3, show storeP P h3 42 (.slice oa3 (ts.length + 1) c3) (.pointer (some ⟨h1.length, 4, some 5⟩)) = some h4 by simpa using hs4]
        exact ⟨n, by omega, k + 1, by omega, rfl, b7, b7', ts ++ [⟨q, k, d.now⟩], .slice oa3 (ts ++ [(⟨q, k, d.now⟩ : Task)]).length c3, b6, ⟨j4, t4, D2.jn, by have h9 : ts.length ≤ 2 ^ 30 + 2 ^ 20 := (by omega); show (ts ++ [_]).length ≤ 2 ^ 40; simp; omega⟩, hin2.add hql _ _, hp4, by simp; omega, hx⟩
  · have hn : n = 0 := by omega
    subst hn
    rw [stepSGo] at hx
    obtain ⟨h5, hs5, b5, k5⟩ := dset_2 (x := IntKind.i64.wrap (d.now + 1)) b4
    have b5' := b2'.keepsB k5 (by omega)
    have j5 := D2.j.keepsB b4 k5 (by omega)
    have t5 := D2.t.keepsB b4 k5 (by omega)
    obtain ⟨ot2, ct2, e2⟩ := t5.sees.shapeT
    subst e2
    obtain ⟨h6, hs6, b6, k6⟩ := dset_all (m' := d.m) (p' := d.p) (w' := IntKind.i64.wrap (d.now + 1)) (oj := oj1) (nj := d.js.length) (cj := cj1) (ot := ot2) (nt := ts.length) (ct := ct2) b5'
    have j6 := j5.keepsB b5' k6 (by omega)
    have t6 := t5.keepsB b5' k6 (by omega)
    have hp6 : h <+: h6 := k6.pre (k5.pre hp2 (fun j hj => by cases hj; omega)) (fun j hj => by cases hj; omega)
    have hMM : ¬ (k : Int) < d.m := by rw [hM]; omega
    simp -implicitDefEqProofs [hMM, dbox b2, dbox b4, hs5, dbox b5, hs6, dbox b6]
    have hst : stepS d M = { d with ts := ts, now := IntKind.i64.wrap (d.now + 1) } := by rw [stepS, hx]; rfl
    rw [hst]
    exact ⟨pre_gc hp6, _, _, ⟨rfl, rfl, rfl, rfl, rfl⟩, DSt.gc (d := { d with ts := ts, now := IntKind.i64.wrap (d.now + 1) }) ⟨j6, t6, D2.jn, D2.tn⟩, hin2, by show ts.length ≤ _; omega⟩
end Go.Pm.PP
