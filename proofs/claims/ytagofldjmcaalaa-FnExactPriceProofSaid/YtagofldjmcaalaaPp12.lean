/- FnExactPriceProof: sizes of the arguments. -/
import Derived.Test.YtagofldjmcaalaaPp8
set_option linter.unusedVariables false
set_option linter.unusedSimpArgs false
set_option maxRecDepth 4000
set_option maxHeartbeats 4000000
namespace Go.Pm.PP
open Go.Pm Go.Proofs
theorem u22 : P.underlying 22 = some (.slice 89) := by kernel_rfl
theorem u23 : P.underlying 23 = some (.slice 102) := by kernel_rfl
theorem u89 : (P.underlying 89).map aggD = some true := by kernel_rfl
theorem u102 : (P.underlying 102).map aggD = some true := by kernel_rfl
theorem i89 : (P.info? 89).map (·.size) = some 4 := by kernel_rfl
theorem i102 : (P.info? 102).map (·.size) = some 2 := by kernel_rfl
/-- What szX leaves of its allowance. -/
def szL (left : Int) (n : Nat) : Int := if left - n < 0 then -1 else left - n
theorem szJobS_run {h : Hp} {v : Value} {js : List Job} {left : Int} (hj : Jobs h v js) (hn : js.length < 2 ^ 63) (h0 : 0 ≤ left) (h1 : left ≤ 2 ^ 20) :
    Ret P G n_laws_szJobS [v, .int .i64 left] h (.int .i64 (szL left js.length)) h := by
  refine enter_run e_laws_szJobS (by simp) ?_
  obtain ⟨oj, cj, rfl⟩ := hj.shapeT
  have w : IntKind.i64.wrap (left - js.length) = left - js.length := by rw [wrap_ok] <;> omega
  cases h2 : decide (left - (js.length : Int) < 0) <;> simp -implicitDefEqProofs [w, h2, szL] <;> simp at h2 <;> omega
theorem szIntS_run {h : Hp} {v : Value} {xs : List Int} {left : Int} (hv : Ints h v xs) (hn : xs.length < 2 ^ 63) (h0 : 0 ≤ left) (h1 : left ≤ 2 ^ 20) :
    Ret P G n_laws_szIntS [v, .int .i64 left] h (.int .i64 (szL left xs.length)) h := by
  refine enter_run e_laws_szIntS (by simp) ?_
  obtain ⟨oj, cj, rfl⟩ := hv.shapeT
  have w : IntKind.i64.wrap (left - xs.length) = left - xs.length := by rw [wrap_ok] <;> omega
  cases h2 : decide (left - (xs.length : Int) < 0) <;> simp -implicitDefEqProofs [w, h2, szL] <;> simp at h2 <;> omega
theorem szSetPrice_run {h : Hp} {v : Value} {xs : List Int} {p left : Int} (hv : Ints h v xs) (hn : xs.length < 2 ^ 63) (h0 : 0 ≤ left) (h1 : left ≤ 2 ^ 20) :
    Ret P G n_laws_szSetPrice [.agg #[v, .int .i64 p], .int .i64 left] h (.int .i64 (szL left xs.length)) h := by
  refine enter_run e_laws_szSetPrice (by simp) ?_
  have c := szIntS_run (h := h) (left := left) hv hn h0 h1
  obtain ⟨oj, cj, rfl⟩ := hv.shapeT
  have c2 := szIntS_run (h := h ++ [some ⟨[.slice oj xs.length cj, .int .i64 p], 0, false⟩]) (left := left) (hv.ext _) hn h0 h1
  by_cases h2 : left - (xs.length : Int) < 0
  · simp -implicitDefEqProofs [CL_ret c, CL_ret c2, h2, szL]
  · simp -implicitDefEqProofs [CL_ret c, CL_ret c2, h2, szL]
structure Prices0 (h : Hp) (v : Value) (ps : List SP) : Prop where
  sees : Sees h v 2 (ps.map encS)
  set : ∀ x ∈ ps, Ints h x.v x.s ∧ x.s.length < 2 ^ 63
theorem Prices0.pre {h h' : Hp} {v : Value} {ps : List SP} (hv : Prices0 h v ps) (hp : h <+: h') : Prices0 h' v ps := ⟨hv.sees.pre hp, fun x hx => ⟨(hv.set x hx).1.pre hp, (hv.set x hx).2⟩⟩
theorem prices0_idx {h : Hp} {v : Value} {ps : List SP} (hv : Prices0 h v ps) {i : Int} (h0 : 0 ≤ i) (hi : i < ps.length) :
    indexAddrP P h 23 v (.int .i64 i) = some (.pointer (some (addP (base v) (i.toNat * 2)))) := hv.sees.indexT (P := P) u23 i102 (k := .i64) h0 hi
theorem prices0_agg {h : Hp} {v : Value} {ps : List SP} (hv : Prices0 h v ps) {i : Nat} {x : SP} (hx : ps[i]? = some x) :
    loadP P h 102 (.pointer (some (addP (base v) (i * 2)))) = some (.agg #[x.v, .int .i64 x.p]) := hv.sees.aggT u102 i102 hx
def szGo : List SP → Int → Int
  | [], l => l
  | x :: r, l => if szL l x.s.length < 0 then -1 else szGo r (szL l x.s.length)
theorem szGo_cons {x : SP} {r : List SP} {l : Int} : szGo (x :: r) l = if szL l x.s.length < 0 then -1 else szGo r (szL l x.s.length) := rfl
def szPL (l : Int) (ps : List SP) : Int := if l - ps.length < 0 then -1 else szGo ps (l - ps.length)
theorem szL_le {l : Int} {n : Nat} (h : 0 ≤ l) : szL l n ≤ l := by unfold szL; split <;> omega
theorem szSetPriceS_run {h : Hp} {v : Value} {ps : List SP} {left : Int} (hv : Prices0 h v ps) (hn : ps.length < 2 ^ 63) (h0 : 0 ≤ left) (h1 : left ≤ 2 ^ 20) :
    Ret P G n_laws_szSetPriceS [v, .int .i64 left] h (.int .i64 (szPL left ps)) h := by
  refine enter_run e_laws_szSetPriceS (by simp) ?_
  obtain ⟨oa, c, rfl⟩ := hv.sees.shapeT
  have w : IntKind.i64.wrap (left - ps.length) = left - ps.length := by rw [wrap_ok] <;> omega
  by_cases h2 : left - (ps.length : Int) < 0
  · simp -implicitDefEqProofs [w, h2, szPL]
  · simp -implicitDefEqProofs [w, h2, szPL]
    refine R_loop (fun m s h' => ∃ (i : Nat) (l : Int), i + m = ps.length ∧ s = [(0, .slice oa ps.length c), (1, .int .i64 l), (5, .int .i64 i)] ∧ h' = h ∧ 0 ≤ l ∧ l ≤ 2 ^ 20 ∧ szGo ps (left - ps.length) = szGo (ps.drop i) l) (fun m s h' => ?_) ⟨0, _, Nat.zero_add _, by simp, rfl, by omega, by omega, rfl⟩
    rintro ⟨i, l, hi, rfl, rfl, l0, l1, hx⟩
    by_cases hlt : i < ps.length
    · obtain ⟨x, hy, hd⟩ := drop_at hlt
      rw [hd, szGo_cons] at hx
      obtain ⟨xv, xl, xp⟩ := x
      obtain ⟨xs, xn⟩ : Ints h' xv xl ∧ xl.length < 2 ^ 63 := hv.set _ (List.mem_of_getElem? hy)
      have i0 := prices0_idx hv (i := i) (by omega) (by omega)
      rw [show (i : Int).toNat = i by omega] at i0
      have w0 : IntKind.i64.wrap (i + 1) = ((i : Int) + 1) := by rw [wrap_ok] <;> omega
      by_cases h3 : szL l xl.length < 0
      · rw [if_pos h3] at hx
        simp -implicitDefEqProofs [hlt, i0, prices0_agg hv hy, CL_ret (szSetPrice_run xs xn l0 l1), h3, hx]
      · rw [if_neg h3] at hx
        simp -implicitDefEqProofs [hlt, i0, prices0_agg hv hy, CL_ret (szSetPrice_run xs xn l0 l1), h3, w0]
        exact ⟨m - 1, by omega, i + 1, by omega, _, ⟨rfl, by omega⟩, by omega, by have := szL_le (n := xl.length) l0; omega, hx⟩
    · rw [List.drop_eq_nil_of_le (by omega), szGo] at hx
      simp -implicitDefEqProofs [hlt, hx]
end Go.Pm.PP
