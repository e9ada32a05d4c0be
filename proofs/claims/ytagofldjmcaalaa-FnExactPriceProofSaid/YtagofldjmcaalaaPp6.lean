/- Functions of PriceProof: prices, as the reference has them. -/
import Derived.Test.YtagofldjmcaalaaPp4
set_option linter.unusedVariables false
set_option linter.unusedSimpArgs false
set_option maxRecDepth 4000
set_option maxHeartbeats 4000000
namespace Go.Pm.PP
open Go.Pm Go.Proofs
def okS (n : Int) (x : SP) : Bool := !((x.s.length : Int) == 0) && upL 0 (n - 1) x.s none && inB x.p 1 50000000
def pricesS (n : Int) : List SP → Option SP → Bool
  | [], _ => true
  | x :: r, p => okS n x && (match p with | some a => l4LessL a.s x.s | none => true) && pricesS n r (some x)
theorem pricesS_nil {n : Int} {p : Option SP} : pricesS n [] p = true := rfl
theorem pricesS_cons0 {n : Int} {x : SP} {r : List SP} : pricesS n (x :: r) none = (okS n x && true && pricesS n r (some x)) := rfl
theorem pricesS_cons1 {n : Int} {x a : SP} {r : List SP} : pricesS n (x :: r) (some a) = (okS n x && l4LessL a.s x.s && pricesS n r (some x)) := rfl
theorem l10Prices_run {h : Hp} {v vp : Value} {js : List Job} {ps : List SP} (hj : Jobs h v js) (hv : Prices h vp ps) (hjn : js.length ≤ 2 ^ 40) (hn : ps.length ≤ 2 ^ 40) :
    Ret P G n_spec_l10Prices [v, vp] h (.bool (pricesS js.length ps none)) h := by
  refine enter_run e_spec_l10Prices (by simp) ?_
  obtain ⟨oj, cj, rfl⟩ := hj.shapeT
  obtain ⟨oa, c, rfl⟩ := hv.sees.shapeT
  simp -implicitDefEqProofs
  refine R_loop (fun m s h' => ∃ i : Nat, i + m = ps.length ∧ s = [(0, .slice oj js.length cj), (1, .slice oa ps.length c), (5, .int .i64 i)] ∧ h' = h ∧ pricesS js.length ps none = pricesS js.length (ps.drop i) (if i = 0 then none else ps[i - 1]?)) (fun m s h' => ?_) ⟨0, Nat.zero_add _, by simp⟩
  rintro ⟨i, hi', rfl, rfl, hx⟩
  by_cases hlt : i < ps.length
  · obtain ⟨y, hy, hd⟩ := drop_at hlt
    rw [hd] at hx
    have next : pricesS js.length (ps.drop (i + 1)) (some y) = pricesS js.length (ps.drop (i + 1)) (if i + 1 = 0 then none else ps[i + 1 - 1]?) := by simp [hy]
    obtain ⟨yv, yl, yp⟩ := y
    obtain ⟨ys, yn⟩ : Ints h' yv yl ∧ yl.length ≤ 2 ^ 40 := hv.set _ (List.mem_of_getElem? hy)
    have i0 := prices_idx hv (i := i) (by omega) (by omega)
    rw [show (i : Int).toNat = i by omega] at i0
    have ok : okS js.length ⟨yv, yl, yp⟩ = (!((yl.length : Int) == 0) && upL 0 ((js.length : Int) - 1) yl none && inB yp 1 50000000) := rfl
    have ls := prices_set hv hy
    have lp := prices_price hv hy
    obtain ⟨ob, d, rfl⟩ := ys.shapeT
    by_cases h0 : i = 0
    · subst h0
      rw [if_pos rfl, pricesS_cons0, next, ok] at hx
      have w1 : IntKind.i64.wrap 1 = 1 := by rw [wrap_ok] <;> omega
      simp only [Nat.zero_mul, Int.natCast_zero] at i0 ls lp
      cases h2 : (yl.length : Int) == 0 <;> cases h1 : upL 0 ((js.length : Int) - 1) yl none <;> cases h3 : inB yp 1 50000000 <;>
        (rw [h1, h2, h3] at hx; simp -implicitDefEqProofs [show 0 < ps.length from hlt, i0, ls, lp, CL_ret (l6Set_run hj ys yn hjn), CL_ret l1In_run, h1, h2, h3, w1])
      all_goals first
        | (simp at hx; simp -implicitDefEqProofs [hx]; done)
        | exact ⟨m - 1, by omega, 1, by omega, by omega, by simpa using hx⟩
    · obtain ⟨k, rfl⟩ : ∃ k, i = k + 1 := ⟨i - 1, by omega⟩
      obtain ⟨z, hz, _⟩ := drop_at (show k < ps.length by omega)
      obtain ⟨zv, zl, zp⟩ := z
      obtain ⟨zs, zn⟩ : Ints h' zv zl ∧ zl.length ≤ 2 ^ 40 := hv.set _ (List.mem_of_getElem? hz)
      rw [if_neg h0, Nat.add_sub_cancel, hz, pricesS_cons1, next, ok] at hx
      have w1 : IntKind.i64.wrap ((k : Int) + 1 - 1) = k := by rw [wrap_ok] <;> omega
      have w2 : IntKind.i64.wrap (k : Int) = k := by rw [wrap_ok] <;> omega
      have w3 : IntKind.i64.wrap ((k : Int) + 1 + 1) = (k : Int) + 1 + 1 := by rw [wrap_ok] <;> omega
      have i1 := prices_idx hv (i := k) (by omega) (by omega)
      rw [show (k : Int).toNat = k by omega] at i1
      have lz := prices_set hv hz
      obtain ⟨oz, dz, rfl⟩ := zs.shapeT
      rw [show (((k + 1 : Nat) : Int)) = (k : Int) + 1 by omega] at i0
      cases h2 : (yl.length : Int) == 0 <;> cases h1 : upL 0 ((js.length : Int) - 1) yl none <;> cases h3 : inB yp 1 50000000
      case false.true.true =>
        cases h4 : l4LessL zl yl
        · rw [h1, h2, h3] at hx; simp [h4] at hx
          simp -implicitDefEqProofs [show (k : Int) + 1 < ps.length by omega, show (0 : Int) < (k : Int) + 1 by omega, i0, i1, ls, lp, lz, CL_ret (l6Set_run hj ys yn hjn), CL_ret l1In_run, CL_ret (l4Less_run zs ys zn yn), h1, h2, h3, w1, w2, w3, h4, hx]
        · rw [h1, h2, h3] at hx; simp [h4] at hx
          simp -implicitDefEqProofs [show (k : Int) + 1 < ps.length by omega, show (0 : Int) < (k : Int) + 1 by omega, i0, i1, ls, lp, lz, CL_ret (l6Set_run hj ys yn hjn), CL_ret l1In_run, CL_ret (l4Less_run zs ys zn yn), h1, h2, h3, w1, w2, w3, h4]
          exact ⟨m - 1, by omega, k + 1 + 1, by omega, by omega, by simpa using hx⟩
      all_goals (rw [h1, h2, h3] at hx; simp at hx; simp -implicitDefEqProofs [show (k : Int) + 1 < ps.length by omega, i0, ls, lp, CL_ret (l6Set_run hj ys yn hjn), CL_ret l1In_run, h1, h2, h3, hx])
  · rw [List.drop_eq_nil_of_le (by omega), pricesS_nil] at hx
    simp -implicitDefEqProofs [hlt, hx]
theorem l10Scaled_run {h : Hp} {v vp : Value} {js : List Job} {ps : List SP} {sc : Int} (hj : Jobs h v js) (hv : Prices h vp ps) (hjn : js.length ≤ 2 ^ 40) (hn : ps.length ≤ 2 ^ 40) :
    Ret P G n_spec_l10Scaled [v, vp, .int .i64 sc] h (.bool (l6GoodL js && pricesS js.length ps none && inB sc 1 1000000)) h := by
  refine enter_run e_spec_l10Scaled (by simp) ?_
  cases h1 : l6GoodL js <;> cases h2 : pricesS js.length ps none <;>
    simp -implicitDefEqProofs [CL_ret (l6Good_run hj hjn), CL_ret (l10Prices_run hj hv hjn hn), CL_ret l1In_run, h1, h2]
end Go.Pm.PP
