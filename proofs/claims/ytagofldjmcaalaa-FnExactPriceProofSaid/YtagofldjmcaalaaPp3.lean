/- Functions of PriceProof: sets and orders. -/
import Derived.Test.YtagofldjmcaalaaPp2
set_option linter.unusedVariables false
set_option linter.unusedSimpArgs false
set_option maxRecDepth 4000
namespace Go.Pm.PP
open Go.Pm Go.Proofs
theorem IsPlain_run {h : Hp} {v : Value} {js : List Job} (hv : Jobs h v js) (hn : js.length ≤ 2 ^ 40) :
    Ret P G n_impl_IsPlain [v] h (.bool (decide (js.length ≤ 8) && goodL js && plainL js)) h := by
  refine enter_run e_impl_IsPlain (by simp) ?_
  cases h1 : (decide (js.length ≤ 8) && goodL js) <;>
    simp -implicitDefEqProofs [CL_ret (IsJobs_run hv hn), CL_ret (isPlain_run hv hn), h1]
theorem ints_pre {h : Hp} {v : Value} {xs : List Int} (hv : Ints h v xs) {i : Nat} (hi : i ≤ xs.length) :
    ∃ v', sliceP P h 24 v none (some (.int .i64 i)) = some v' ∧ Ints h v' (xs.take i) := by
  obtain ⟨v', h1, h2⟩ := hv.front (P := P) u24 i3 (k := .i64) (j := i) (by omega) (by simp; omega)
  exact ⟨v', h1, by simpa [Ints, List.map_take] using h2⟩
def diffL (n : Int) : List Int → List Int → Bool
  | _, [] => true
  | pre, x :: r => inB x 0 (w64 (n - 1)) && !hasL x pre && diffL n (pre ++ [x]) r
theorem take_succ' {α : Type} {xs : List α} {i : Nat} {x : α} (h : xs[i]? = some x) : xs.take (i + 1) = xs.take i ++ [x] := by
  rw [List.take_add_one, h]; rfl
theorem areDifferent_run {h : Hp} {v : Value} {xs : List Int} {n : Int} (hv : Ints h v xs) (hn : xs.length ≤ 2 ^ 40) :
    Ret P G n_impl_areDifferent [.int .i64 n, v] h (.bool (diffL n [] xs)) h := by
  refine enter_run e_impl_areDifferent (by simp) ?_
  obtain ⟨oa, c, rfl⟩ := hv.shapeT
  simp -implicitDefEqProofs
  refine R_loop (fun m s h' => ∃ i : Nat, i + m = xs.length ∧ s = [(0, .int .i64 n), (1, .slice oa xs.length c), (7, .slice oa xs.length c), (8, .int .i64 xs.length), (9, .int .i64 i)] ∧ h' = h ∧ diffL n [] xs = diffL n (xs.take i) (xs.drop i)) (fun m s h' => ?_) ⟨0, Nat.zero_add _, by simp⟩
  rintro ⟨i, hi, rfl, rfl, hx⟩
  by_cases hlt : i < xs.length
  · obtain ⟨y, hy, hd⟩ := drop_at hlt
    rw [hd, diffL, ← take_succ' hy] at hx
    obtain ⟨v', hs, hv'⟩ := ints_pre hv (i := i) (by omega)
    have hn' : (xs.take i).length ≤ 2 ^ 40 := by simp; omega
    cases h1 : inB y 0 (w64 (n - 1)) <;> cases h2 : hasL y (xs.take i) <;>
      (rw [h1, h2] at hx; simp -implicitDefEqProofs [hlt, ints_idx hv (i := i) (by omega) (by omega), ints_ld hv hy, hs, CL_ret isNumber_run, CL_ret (has_run hv' hn'), h1, h2, winc hlt hn])
    all_goals first
      | (simp at hx; simp -implicitDefEqProofs [hx]; done)
      | exact ⟨m - 1, by omega, i + 1, by omega, rfl, by simpa using hx⟩
  · rw [List.drop_eq_nil_of_le (by omega), diffL] at hx
    simp -implicitDefEqProofs [hlt, hx]
theorem isOrder_run {h : Hp} {v : Value} {xs : List Int} {n : Int} (hv : Ints h v xs) (hn : xs.length ≤ 2 ^ 40) :
    Ret P G n_impl_isOrder [.int .i64 n, v] h (.bool (((xs.length : Int) == n) && diffL n [] xs)) h := by
  refine enter_run e_impl_isOrder (by simp) ?_
  obtain ⟨oa, c, rfl⟩ := hv.shapeT
  cases h1 : ((xs.length : Int) == n) <;>
    simp -implicitDefEqProofs [CL_ret (areDifferent_run hv hn), h1]
def risingL : List Int → Bool
  | a :: b :: r => !decide (a ≥ b) && risingL (b :: r)
  | _ => true
theorem isRising_run {h : Hp} {v : Value} {xs : List Int} (hv : Ints h v xs) (hn : xs.length ≤ 2 ^ 40) :
    Ret P G n_impl_isRising [v] h (.bool (risingL xs)) h := by
  refine enter_run e_impl_isRising (by simp) ?_
  obtain ⟨oa, c, rfl⟩ := hv.shapeT
  simp -implicitDefEqProofs
  refine R_loop (fun m s h' => ∃ i : Nat, i + m = xs.length ∧ s = [(0, .slice oa xs.length c), (3, .int .i64 ((i : Int) + 1))] ∧ h' = h ∧ risingL xs = risingL (xs.drop i)) (fun m s h' => ?_) ⟨0, Nat.zero_add _, by simp⟩
  rintro ⟨i, hi, rfl, rfl, hx⟩
  by_cases hlt : i + 1 < xs.length
  · obtain ⟨y, hy, hd⟩ := drop_at (show i < xs.length by omega)
    obtain ⟨z, hz, hd2⟩ := drop_at hlt
    rw [hd, hd2, risingL, ← hd2] at hx
    have tn : ((i : Int) + 1).toNat = i + 1 := by omega
    have i2 := ints_idx hv (i := (i : Int) + 1) (by omega) (by omega)
    rw [tn] at i2
    have w0 : IntKind.i64.wrap (i : Int) = i := by rw [wrap_ok] <;> omega
    have w1 : IntKind.i64.wrap ((i : Int) + 1 - 1) = i := by rw [wrap_ok] <;> omega
    have w2 : IntKind.i64.wrap ((i : Int) + 1 + 1) = (i : Int) + 1 + 1 := by rw [wrap_ok] <;> omega
    cases h1 : decide (y ≥ z) <;>
      (rw [h1] at hx; simp -implicitDefEqProofs [show (i : Int) + 1 < xs.length by omega, w0, w1, w2, ints_idx hv (i := i) (by omega) (by omega), i2, ints_ld hv hy, ints_ld hv hz, h1])
    · exact ⟨m - 1, by omega, i + 1, by omega, by omega, by simpa using hx⟩
    · simpa using hx
  · have hr : risingL (xs.drop i) = true := by
      have : (xs.drop i).length ≤ 1 := by simp; omega
      match xs.drop i, this with
      | [], _ => rfl
      | [_], _ => rfl
    simp -implicitDefEqProofs [show ¬ (i : Int) + 1 < xs.length by omega, hx, hr]
theorem isSet_run {h : Hp} {v : Value} {xs : List Int} {n : Int} (hv : Ints h v xs) (hn : xs.length ≤ 2 ^ 40) :
    Ret P G n_impl_isSet [.int .i64 n, v] h (.bool (risingL xs && diffL n [] xs)) h := by
  refine enter_run e_impl_isSet (by simp) ?_
  cases h1 : risingL xs <;>
    simp -implicitDefEqProofs [CL_ret (areDifferent_run hv hn), CL_ret (isRising_run hv hn), h1]
/-- spec.l1Rising -/
def upL (lo hi : Int) : List Int → Option Int → Bool
  | [], _ => true
  | x :: r, p => inB x lo hi && (match p with | some a => !decide (a ≥ x) | none => true) && upL lo hi r (some x)
theorem upL_nil {lo hi : Int} {p : Option Int} : upL lo hi [] p = true := rfl
theorem upL_cons0 {lo hi x : Int} {r : List Int} : upL lo hi (x :: r) none = (inB x lo hi && true && upL lo hi r (some x)) := rfl
theorem upL_cons1 {lo hi x a : Int} {r : List Int} : upL lo hi (x :: r) (some a) = (inB x lo hi && (!decide (a ≥ x)) && upL lo hi r (some x)) := rfl
theorem l1Rising_run {h : Hp} {v : Value} {xs : List Int} {lo hi : Int} (hv : Ints h v xs) (hn : xs.length ≤ 2 ^ 40) :
    Ret P G n_spec_l1Rising [v, .int .i64 lo, .int .i64 hi] h (.bool (upL lo hi xs none)) h := by
  refine enter_run e_spec_l1Rising (by simp) ?_
  obtain ⟨oa, c, rfl⟩ := hv.shapeT
  simp -implicitDefEqProofs
  refine R_loop (fun m s h' => ∃ i : Nat, i + m = xs.length ∧ s = [(0, .slice oa xs.length c), (1, .int .i64 lo), (2, .int .i64 hi), (7, .int .i64 i)] ∧ h' = h ∧ upL lo hi xs none = upL lo hi (xs.drop i) (if i = 0 then none else xs[i - 1]?)) (fun m s h' => ?_) ⟨0, Nat.zero_add _, by simp⟩
  rintro ⟨i, hi', rfl, rfl, hx⟩
  by_cases hlt : i < xs.length
  · obtain ⟨y, hy, hd⟩ := drop_at hlt
    rw [hd] at hx
    have next : upL lo hi (xs.drop (i + 1)) (some y) = upL lo hi (xs.drop (i + 1)) (if i + 1 = 0 then none else xs[i + 1 - 1]?) := by simp [hy]
    by_cases h0 : i = 0
    · subst h0
      rw [if_pos rfl, upL_cons0, next] at hx
      have i0 := ints_idx hv (i := 0) (by omega) (by omega)
      have w0 : IntKind.i64.wrap 1 = 1 := by rw [wrap_ok] <;> omega
      cases h1 : inB y lo hi <;>
        (rw [h1] at hx; simp -implicitDefEqProofs [show 0 < xs.length from hlt, i0, ints_ld hv hy, CH_ret l1In_run, CL_ret l1In_run, h1, w0])
      all_goals first
        | (simp at hx; simp -implicitDefEqProofs [hx]; done)
        | exact ⟨m - 1, by omega, 1, by omega, by omega, by simpa using hx⟩
    · obtain ⟨k, rfl⟩ : ∃ k, i = k + 1 := ⟨i - 1, by omega⟩
      obtain ⟨z, hz, _⟩ := drop_at (show k < xs.length by omega)
      rw [if_neg h0, Nat.add_sub_cancel, hz, upL_cons1, next] at hx
      have i0 := ints_idx hv (i := k) (by omega) (by omega)
      have i1 := ints_idx hv (i := (k : Int) + 1) (by omega) (by omega)
      rw [show ((k : Int) + 1).toNat = k + 1 by omega] at i1
      have w0 : IntKind.i64.wrap (k : Int) = k := by rw [wrap_ok] <;> omega
      have w1 : IntKind.i64.wrap ((k : Int) + 1 - 1) = k := by rw [wrap_ok] <;> omega
      have w2 : IntKind.i64.wrap ((k : Int) + 1 + 1) = (k : Int) + 1 + 1 := by rw [wrap_ok] <;> omega
      cases h1 : inB y lo hi <;> cases h2 : decide (z ≥ y) <;>
        (rw [h1, h2] at hx; simp -implicitDefEqProofs [show (k : Int) + 1 < xs.length by omega, show (0 : Int) < (k : Int) + 1 by omega, i0, i1, w0, w1, w2, ints_ld hv hy, ints_ld hv hz, CH_ret l1In_run, CL_ret l1In_run, h1, h2])
      all_goals first
        | (simp at hx; simp -implicitDefEqProofs [hx]; done)
        | exact ⟨m - 1, by omega, k + 1 + 1, by omega, by omega, by simpa using hx⟩
  · rw [List.drop_eq_nil_of_le (by omega), upL_nil] at hx
    simp -implicitDefEqProofs [hlt, hx]
theorem l6Set_run {h : Hp} {v vs : Value} {js : List Job} {xs : List Int} (hj : Jobs h v js) (hv : Ints h vs xs) (hn : xs.length ≤ 2 ^ 40) (hjn : js.length ≤ 2 ^ 40) :
    Ret P G n_spec_l6Set [v, vs] h (.bool (upL 0 ((js.length : Int) - 1) xs none)) h := by
  refine enter_run e_spec_l6Set (by simp) ?_
  obtain ⟨oa, c, rfl⟩ := hj.shapeT
  have w : IntKind.i64.wrap ((js.length : Int) - 1) = (js.length : Int) - 1 := by rw [wrap_ok] <;> omega
  simp -implicitDefEqProofs [w, CL_ret (l1Rising_run hv hn)]
end Go.Pm.PP
