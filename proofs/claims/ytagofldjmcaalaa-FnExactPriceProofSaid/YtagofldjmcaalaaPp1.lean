/- Functions of PriceProof: the small ones. -/
import Derived.Test.YtagofldjmcaalaaPpA
set_option linter.unusedVariables false
set_option linter.unusedSimpArgs false
set_option maxRecDepth 4000
namespace Go.Pm.PP
open Go.Pm Go.Proofs
theorem u3 : (P.underlying 3).map aggD = some false := by kernel_rfl
theorem u24 : P.underlying 24 = some (.slice 3) := by kernel_rfl
theorem u29 : P.underlying 29 = some (.slice 58) := by kernel_rfl
theorem u31 : P.underlying 31 = some (.slice 108) := by kernel_rfl
theorem i3 : (P.info? 3).map (·.size) = some 1 := by kernel_rfl
theorem i58 : (P.info? 58).map (·.size) = some 4 := by kernel_rfl

structure Job where
  t : Int
  w : Int
  r : Int
  d : Int
def encJ (j : Job) : List Value := [.int .i64 j.t, .int .i64 j.w, .int .i64 j.r, .int .i64 j.d]
abbrev jv (j : Job) : Value := .agg #[.int .i64 j.t, .int .i64 j.w, .int .i64 j.r, .int .i64 j.d]
abbrev Jobs (h : Hp) (v : Value) (js : List Job) : Prop := Sees h v 4 (js.map encJ)

def inB (x a b : Int) : Bool := decide (a ≤ x) && decide (x ≤ b)
def hasL (x : Int) (xs : List Int) : Bool := xs.any (· == x)

theorem l1In_run {h : Hp} {x a b : Int} : Ret P G n_spec_l1In [.int .i64 x, .int .i64 a, .int .i64 b] h (.bool (inB x a b)) h := by
  refine enter_run e_spec_l1In (by simp) ?_
  simp -implicitDefEqProofs
  refine WL_split (fun h => ?_) (fun h => ?_) <;> simp [h, inB]
theorem within_run {h : Hp} {x a b : Int} : Ret P G n_impl_within [.int .i64 x, .int .i64 a, .int .i64 b] h (.bool (inB x a b)) h := by
  refine enter_run e_impl_within (by simp) ?_
  simp -implicitDefEqProofs
  refine WL_split (fun h => ?_) (fun h => ?_) <;> simp [h, inB]
theorem isDate_run {h : Hp} {x : Int} : Ret P G n_impl_isDate [.int .i64 x] h (.bool (inB x 0 500)) h := by
  refine enter_run e_impl_isDate (by simp) ?_
  simp -implicitDefEqProofs [CL_ret within_run]
theorem isScale_run {h : Hp} {x : Int} : Ret P G n_impl_isScale [.int .i64 x] h (.bool (inB x 1 1000000)) h := by
  refine enter_run e_impl_isScale (by simp) ?_
  simp -implicitDefEqProofs [CL_ret within_run]
def w64 (n : Int) : Int := IntKind.i64.wrap n
theorem isNumber_run {h : Hp} {i n : Int} : Ret P G n_impl_isNumber [.int .i64 i, .int .i64 n] h (.bool (inB i 0 (w64 (n - 1)))) h := by
  refine enter_run e_impl_isNumber (by simp) ?_
  simp -implicitDefEqProofs [CL_ret within_run, w64]
theorem l1Most_run {h : Hp} {a b : Int} : Ret P G n_spec_l1Most [.int .i64 a, .int .i64 b] h (.int .i64 (if a > b then a else b)) h := by
  refine enter_run e_spec_l1Most (by simp) ?_
  simp -implicitDefEqProofs
  refine CB_split (fun h => ?_) (fun h => ?_) <;> simp at h <;> simp [h] <;> omega
def jobOk (j : Job) : Bool := inB j.t 1 50 && inB j.w 0 50 && inB j.r 0 500 && inB j.d 0 500
theorem l2Job_run {h : Hp} {j : Job} : Ret P G n_spec_l2Job [jv j] h (.bool (jobOk j)) h := by
  refine enter_run e_spec_l2Job (by simp) ?_
  cases h1 : inB j.t 1 50 <;> cases h2 : inB j.w 0 50 <;> cases h3 : inB j.r 0 500 <;> cases h4 : inB j.d 0 500 <;>
    simp -implicitDefEqProofs [CL_ret l1In_run, h1, h2, h3, h4, jobOk]

def goodL (js : List Job) : Bool := js.all jobOk
theorem goodL_cons {j : Job} {js : List Job} : goodL (j :: js) = (jobOk j && goodL js) := rfl
theorem goodL_nil : goodL [] = true := rfl
theorem u58 : (P.underlying 58).map aggD = some true := by kernel_rfl
theorem jobs_agg {h : Hp} {v : Value} {js : List Job} (hv : Jobs h v js) {i : Nat} {j : Job} (hj : js[i]? = some j) :
    loadP P h 58 (.pointer (some (addP (base v) (i * 4)))) = some (jv j) := by
  exact hv.aggT u58 i58 hj
theorem jobs_idx {h : Hp} {v : Value} {js : List Job} (hv : Jobs h v js) {i : Nat} (hi : i < js.length) :
    indexAddrP P h 29 v (.int .i64 i) = some (.pointer (some (addP (base v) (i * 4)))) := by
  have := hv.indexT (P := P) u29 i58 (k := .i64) (j := i) (by omega) (by omega)
  simpa using this
theorem jobs_field {h : Hp} {v : Value} {js : List Job} (hv : Jobs h v js) {i k : Nat} {j : Job} (hj : js[i]? = some j) (hk : k < 4) :
    loadP P h 3 (.pointer (some (addP (addP (base v) (i * 4)) k))) = (encJ j)[k]? := by
  have := hv.cellT (P := P) u3 i3 hj hk
  rw [← this]
  simp only [addP, Nat.add_assoc]
theorem ints_idx {h : Hp} {v : Value} {xs : List Int} (hv : Ints h v xs) {i : Int} (h0 : 0 ≤ i) (hi : i < xs.length) :
    indexAddrP P h 24 v (.int .i64 i) = some (.pointer (some (addP (base v) i.toNat))) := by
  have := hv.indexT (P := P) u24 i3 (k := .i64) h0 hi
  simpa using this
theorem ints_ld {h : Hp} {v : Value} {xs : List Int} (hv : Ints h v xs) {i : Nat} {x : Int} (hx : xs[i]? = some x) :
    loadP P h 3 (.pointer (some (addP (base v) i))) = some (.int .i64 x) := by
  have := hv.cellT (P := P) u3 i3 hx (k := 0) (by omega)
  simpa [encI] using this
theorem winc {i n : Nat} (h : i < n) (hn : n ≤ 2 ^ 40) : IntKind.i64.wrap ((i : Int) + 1) = ((i + 1 : Nat) : Int) := by rw [wrap_ok] <;> omega

theorem l2Good_run {h : Hp} {v : Value} {js : List Job} (hv : Jobs h v js) (hn : js.length ≤ 2 ^ 40) :
    Ret P G n_spec_l2Good [v] h (.bool (goodL js && decide (js.length ≤ 8))) h := by
  refine enter_run e_spec_l2Good (by simp) ?_
  obtain ⟨oa, c, rfl⟩ := hv.shapeT
  simp -implicitDefEqProofs
  refine R_loop (fun n s h' => ∃ i : Nat, i + n = js.length ∧ s = [(0, .slice oa js.length c), (3, .int .i64 i)] ∧ h' = h ∧ goodL js = goodL (js.drop i)) (fun n s h' => ?_) ⟨0, Nat.zero_add _, by simp⟩
  rintro ⟨i, hi, rfl, rfl, hx⟩
  by_cases hlt : i < js.length
  · obtain ⟨y, hy, hd⟩ := drop_at hlt
    rw [hd, goodL_cons] at hx
    simp -implicitDefEqProofs [hlt, jobs_idx hv hlt, jobs_agg hv hy, CL_ret l2Job_run]
    refine CB_split (fun h => ?_) (fun h => ?_)
    · simp at h
      simp -implicitDefEqProofs [hx, h]
    · simp at h
      rw [h, Bool.true_and] at hx
      simp -implicitDefEqProofs [winc hlt hn]
      exact ⟨n - 1, by omega, i + 1, by omega, rfl, hx⟩
  · rw [List.drop_eq_nil_of_le (by omega), goodL_nil] at hx
    simp -implicitDefEqProofs [hlt, hx]
    omega
end Go.Pm.PP
