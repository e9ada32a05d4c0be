/- Functions of PriceProof: comparing lists; orders. -/
import Derived.Test.YtagofldjmcaalaaPp3
set_option linter.unusedVariables false
set_option linter.unusedSimpArgs false
set_option maxRecDepth 4000
namespace Go.Pm.PP
open Go.Pm Go.Proofs
def cmpL : List Int → List Int → Int
  | x :: xs, y :: ys => if x != y then w64 (x - y) else cmpL xs ys
  | xs, ys => (xs.length : Int) - ys.length
theorem cmpL_cons {x y : Int} {xs ys : List Int} : cmpL (x :: xs) (y :: ys) = if x != y then w64 (x - y) else cmpL xs ys := rfl
theorem cmpL_end {xs ys : List Int} (h : xs = [] ∨ ys = []) : cmpL xs ys = (xs.length : Int) - ys.length := by
  cases xs with
  | nil => rfl
  | cons x xs => cases ys with
    | nil => rfl
    | cons y ys => simp at h
theorem compareLists_run {h : Hp} {v u : Value} {xs ys : List Int} (hv : Ints h v xs) (hu : Ints h u ys) (hn : xs.length ≤ 2 ^ 40) (hm : ys.length ≤ 2 ^ 40) :
    Ret P G n_impl_compareLists [v, u] h (.int .i64 (cmpL xs ys)) h := by
  refine enter_run e_impl_compareLists (by simp) ?_
  obtain ⟨oa, c, rfl⟩ := hv.shapeT
  obtain ⟨ob, d, rfl⟩ := hu.shapeT
  simp -implicitDefEqProofs
  refine R_loop (fun m s h' => ∃ i : Nat, i ≤ xs.length ∧ i ≤ ys.length ∧ i + m = xs.length ∧ s = [(0, .slice oa xs.length c), (1, .slice ob ys.length d), (5, .int .i64 i)] ∧ h' = h ∧ cmpL xs ys = cmpL (xs.drop i) (ys.drop i)) (fun m s h' => ?_) ⟨0, Nat.zero_le _, Nat.zero_le _, Nat.zero_add _, by simp⟩
  rintro ⟨i, hi1, hi2, hi, rfl, rfl, hx⟩
  have fin : (i = xs.length ∨ i = ys.length) → cmpL xs ys = (xs.length : Int) - ys.length := by
    intro he
    rw [hx, cmpL_end (he.imp (fun e => List.drop_eq_nil_of_le (by omega)) (fun e => List.drop_eq_nil_of_le (by omega)))]
    simp
    omega
  have w : IntKind.i64.wrap ((xs.length : Int) - ys.length) = (xs.length : Int) - ys.length := by rw [wrap_ok] <;> omega
  by_cases hlt : i < xs.length
  · obtain ⟨y, hy, hd⟩ := drop_at hlt
    by_cases hlt2 : i < ys.length
    · obtain ⟨z, hz, hd2⟩ := drop_at hlt2
      rw [hd, hd2, cmpL_cons] at hx
      have w0 : IntKind.i64.wrap (i + 1) = ((i : Int) + 1) := by rw [wrap_ok] <;> omega
      cases h1 : y != z <;>
        (rw [h1] at hx; simp -implicitDefEqProofs [hlt, hlt2, ints_idx hv (i := i) (by omega) (by omega), ints_idx hu (i := i) (by omega) (by omega), ints_ld hv hy, ints_ld hu hz, h1, w0])
      all_goals first
        | (simp at hx; simp -implicitDefEqProofs [hx, w64]; done)
        | exact ⟨m - 1, by omega, i + 1, by omega, by omega, by omega, by omega, by simpa using hx⟩
    · simp -implicitDefEqProofs [hlt, hlt2, fin (by omega), w]
  · simp -implicitDefEqProofs [hlt, fin (by omega), w]
def lessL : List Int → List Int → Bool
  | x :: xs, y :: ys => if x != y then decide (x < y) else lessL xs ys
  | _, _ => false
theorem lessL_cons {x y : Int} {xs ys : List Int} : lessL (x :: xs) (y :: ys) = if x != y then decide (x < y) else lessL xs ys := rfl
theorem lessL_nil {ys : List Int} : lessL [] ys = false := by cases ys <;> rfl
def l4LessL (xs ys : List Int) : Bool := if (xs.length : Int) != ys.length then decide ((xs.length : Int) < ys.length) else lessL xs ys
theorem l4Less_run {h : Hp} {v u : Value} {xs ys : List Int} (hv : Ints h v xs) (hu : Ints h u ys) (hn : xs.length ≤ 2 ^ 40) (hm : ys.length ≤ 2 ^ 40) :
    Ret P G n_spec_l4Less [v, u] h (.bool (l4LessL xs ys)) h := by
  refine enter_run e_spec_l4Less (by simp) ?_
  obtain ⟨oa, c, rfl⟩ := hv.shapeT
  obtain ⟨ob, d, rfl⟩ := hu.shapeT
  cases h0 : (xs.length : Int) != ys.length
  · simp -implicitDefEqProofs [h0, l4LessL]
    simp at h0
    refine R_loop (fun m s h' => ∃ i : Nat, i + m = xs.length ∧ s = [(0, .slice oa xs.length c), (1, .slice ob ys.length d), (5, .int .i64 i)] ∧ h' = h ∧ lessL xs ys = lessL (xs.drop i) (ys.drop i)) (fun m s h' => ?_) ⟨0, Nat.zero_add _, by simp⟩
    rintro ⟨i, hi, rfl, rfl, hx⟩
    by_cases hlt : i < xs.length
    · obtain ⟨y, hy, hd⟩ := drop_at hlt
      obtain ⟨z, hz, hd2⟩ := drop_at (show i < ys.length by omega)
      rw [hd, hd2, lessL_cons] at hx
      have w0 : IntKind.i64.wrap (i + 1) = ((i : Int) + 1) := by rw [wrap_ok] <;> omega
      cases h1 : y != z <;>
        (rw [h1] at hx; simp -implicitDefEqProofs [hlt, ints_idx hv (i := i) (by omega) (by omega), ints_idx hu (i := i) (by omega) (by omega), ints_ld hv hy, ints_ld hu hz, h1, w0])
      all_goals first
        | (simp at hx; simp -implicitDefEqProofs [hx]; done)
        | exact ⟨m - 1, by omega, i + 1, by omega, by omega, by simpa using hx⟩
    · rw [List.drop_eq_nil_of_le (by omega), lessL_nil] at hx
      simp -implicitDefEqProofs [hlt, hx]
  · simp -implicitDefEqProofs [h0, l4LessL]
def allIn (xs : List Int) (n : Nat) : Bool := (List.range n).all fun i => hasL i xs
theorem allIn_false {xs : List Int} {n i : Nat} (hi : i < n) (h : hasL i xs = false) : allIn xs n = false := by
  cases hc : allIn xs n with
  | false => rfl
  | true => have := List.all_eq_true.1 hc i (List.mem_range.2 hi); rw [h] at this; cases this
def l2OrderL (n : Int) (xs : List Int) : Bool := inB n 0 8 && ((xs.length : Int) == n) && allIn xs xs.length
theorem l2Order_run {h : Hp} {v : Value} {xs : List Int} {n : Int} (hv : Ints h v xs) (hn : xs.length ≤ 2 ^ 40) :
    Ret P G n_spec_l2Order [.int .i64 n, v] h (.bool (l2OrderL n xs)) h := by
  refine enter_run e_spec_l2Order (by simp) ?_
  obtain ⟨oa, c, rfl⟩ := hv.shapeT
  cases h1 : inB n 0 8
  · simp -implicitDefEqProofs [CL_ret l1In_run, h1, l2OrderL]
  · by_cases h2 : (xs.length : Int) = n
    · subst h2
      simp -implicitDefEqProofs [CL_ret l1In_run, h1, l2OrderL]
      refine R_loop (fun m s h' => ∃ i : Nat, i + m = xs.length ∧ s = [(0, .int .i64 xs.length), (1, .slice oa xs.length c), (5, .int .i64 i)] ∧ h' = h ∧ ∀ j : Nat, j < i → hasL j xs = true) (fun m s h' => ?_) ⟨0, Nat.zero_add _, by simp⟩
      rintro ⟨i, hi, rfl, rfl, hx⟩
      by_cases hlt : i < xs.length
      · have w0 : IntKind.i64.wrap (i + 1) = ((i : Int) + 1) := by rw [wrap_ok] <;> omega
        cases h3 : hasL i xs
        · simp -implicitDefEqProofs [hlt, CL_ret (l1Has_run hv hn), h3, allIn_false hlt h3]
        · simp -implicitDefEqProofs [hlt, CL_ret (l1Has_run hv hn), h3, w0]
          refine ⟨m - 1, by omega, i + 1, by omega, by omega, fun j hj => ?_⟩
          by_cases hji : j = i
          · subst hji; exact h3
          · exact hx j (by omega)
      · have : allIn xs xs.length = true := List.all_eq_true.2 fun j hj => hx j (by have := List.mem_range.1 hj; omega)
        simp -implicitDefEqProofs [hlt, this]
    · have h3 : ((xs.length : Int) == n) = false := by simpa using h2
      have h4 : ((xs.length : Int) != n) = true := by simpa using h2
      simp -implicitDefEqProofs [CL_ret l1In_run, h1, l2OrderL, h3, h4]
structure SP where
  v : Value
  s : List Int
  p : Int
def encS (x : SP) : List Value := [x.v, .int .i64 x.p]
structure Prices (h : Hp) (v : Value) (ps : List SP) : Prop where
  sees : Sees h v 2 (ps.map encS)
  set : ∀ x ∈ ps, Ints h x.v x.s ∧ x.s.length ≤ 2 ^ 40
theorem Prices.pre {h h' : Hp} {v : Value} {ps : List SP} (hv : Prices h v ps) (hp : h <+: h') : Prices h' v ps := ⟨hv.sees.pre hp, fun x hx => ⟨(hv.set x hx).1.pre hp, (hv.set x hx).2⟩⟩
theorem u108 : (P.underlying 108).map aggD = some true := by kernel_rfl
theorem u24a : (P.underlying 24).map aggD = some false := by kernel_rfl
theorem i108 : (P.info? 108).map (·.size) = some 2 := by kernel_rfl
theorem i24 : (P.info? 24).map (·.size) = some 1 := by kernel_rfl
theorem one_of {h : Hp} {v : Value} {xs : List Int} (hv : Ints h v xs) : one v = true := by obtain ⟨oa, c, rfl⟩ := hv.shapeT; rfl
theorem prices_idx {h : Hp} {v : Value} {ps : List SP} (hv : Prices h v ps) {i : Int} (h0 : 0 ≤ i) (hi : i < ps.length) :
    indexAddrP P h 31 v (.int .i64 i) = some (.pointer (some (addP (base v) (i.toNat * 2)))) := hv.sees.indexT (P := P) u31 i108 (k := .i64) h0 hi
theorem prices_agg {h : Hp} {v : Value} {ps : List SP} (hv : Prices h v ps) {i : Nat} {x : SP} (hx : ps[i]? = some x) :
    loadP P h 108 (.pointer (some (addP (base v) (i * 2)))) = some (.agg #[x.v, .int .i64 x.p]) := hv.sees.aggT u108 i108 hx
theorem prices_set {h : Hp} {v : Value} {ps : List SP} (hv : Prices h v ps) {i : Nat} {x : SP} (hx : ps[i]? = some x) :
    loadP P h 24 (.pointer (some (addP (addP (base v) (i * 2)) 0))) = some x.v := by
  have := hv.sees.cellT (P := P) u24a i24 hx (k := 0) (by omega)
  simpa [addP, encS] using this
theorem prices_price {h : Hp} {v : Value} {ps : List SP} (hv : Prices h v ps) {i : Nat} {x : SP} (hx : ps[i]? = some x) :
    loadP P h 3 (.pointer (some (addP (addP (base v) (i * 2)) 1))) = some (.int .i64 x.p) := by
  have := hv.sees.cellT (P := P) u3 i3 hx (k := 1) (by omega)
  simpa [addP, encS, Nat.add_assoc] using this
end Go.Pm.PP
