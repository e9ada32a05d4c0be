/- Functions of PriceProof: demand and yield. -/
import Derived.Test.YtagofldjmcaalaaPp4
set_option linter.unusedVariables false
set_option linter.unusedSimpArgs false
set_option maxRecDepth 4000
set_option maxHeartbeats 4000000
namespace Go.Pm.PP
open Go.Pm Go.Proofs
theorem CHr {N : Nat} {K : GI} {Q : Ex → St → Prop} {k : Kont} {ops : Array Oper} {l tl : List Oper} {d : Option Tmp} {s : Slots} {h h1 : Hp} {g : FuncId} {args : List Value} {v : Value} (r : Ret P G g args h v h1) :
    CH P G N K Q g args d ops l tl ⟨s, h⟩ k = (newOk h h1 ∧ RH P G N K Q ops l tl ⟨put s d v, h1⟩ k) := CH_ret (st := ⟨s, h⟩) r
def inside (n : Nat) (xs : List Int) : Prop := ∀ x ∈ xs, 0 ≤ x ∧ x < n
def jobAt (js : List Job) (i : Int) : Job := js.getD i.toNat ⟨0, 0, 0, 0⟩
theorem jobAt_some {js : List Job} {i : Int} (h0 : 0 ≤ i) (h1 : i < js.length) : js[i.toNat]? = some (jobAt js i) := by
  unfold jobAt
  rw [List.getD_eq_getElem?_getD, List.getElem?_eq_getElem (by omega)]
  rfl
theorem jobs_idxI {h : Hp} {v : Value} {js : List Job} (hv : Jobs h v js) {i : Int} (h0 : 0 ≤ i) (hi : i < js.length) :
    indexAddrP P h 29 v (.int .i64 i) = some (.pointer (some (addP (base v) (i.toNat * 4)))) := hv.indexT (P := P) u29 i58 (k := .i64) h0 hi
def demGo (js : List Job) : List Int → Int → Int → Int × Int
  | [], a, b => (a, b)
  | i :: r, a, b => demGo js r (w64 (a + (jobAt js i).t)) (w64 (b + w64 ((jobAt js i).t * (jobAt js i).t)))
theorem demGo_cons {js : List Job} {i a b : Int} {r : List Int} : demGo js (i :: r) a b = demGo js r (w64 (a + (jobAt js i).t)) (w64 (b + w64 ((jobAt js i).t * (jobAt js i).t))) := rfl
def demL (js : List Job) (xs : List Int) : Int := w64 ((w64 (w64 ((demGo js xs 0 0).1 * (demGo js xs 0 0).1) + (demGo js xs 0 0).2)).tdiv 2)
theorem l10Demand_run {h : Hp} {v u : Value} {js : List Job} {xs : List Int} (hj : Jobs h v js) (hv : Ints h u xs) (hn : xs.length ≤ 2 ^ 40) (hin : inside js.length xs) :
    Ret P G n_spec_l10Demand [v, u] h (.int .i64 (demL js xs)) h := by
  refine enter_run e_spec_l10Demand (by simp) ?_
  obtain ⟨oj, cj, rfl⟩ := hj.shapeT
  obtain ⟨oa, c, rfl⟩ := hv.shapeT
  simp -implicitDefEqProofs
  refine R_loop (fun m s h' => ∃ (i : Nat) (a b : Int), i + m = xs.length ∧ s = [(0, .slice oj js.length cj), (1, .slice oa xs.length c), (5, .int .i64 a), (6, .int .i64 b), (7, .int .i64 i)] ∧ h' = h ∧ demGo js xs 0 0 = demGo js (xs.drop i) a b) (fun m s h' => ?_) ⟨0, 0, 0, Nat.zero_add _, by simp, rfl, rfl⟩
  rintro ⟨i, a, b, hi, rfl, rfl, hx⟩
  by_cases hlt : i < xs.length
  · obtain ⟨y, hy, hd⟩ := drop_at hlt
    rw [hd, demGo_cons] at hx
    obtain ⟨y0, y1⟩ := hin y (List.mem_of_getElem? hy)
    have hjy := jobAt_some y0 y1
    have w0 : IntKind.i64.wrap (i + 1) = ((i : Int) + 1) := by rw [wrap_ok] <;> omega
    simp -implicitDefEqProofs [hlt, ints_idx hv (i := i) (by omega) (by omega), ints_ld hv hy, jobs_idxI hj y0 y1, jobs_field hj hjy, encJ, w0]
    exact ⟨m - 1, by omega, i + 1, by omega, _, _, ⟨rfl, rfl, by omega⟩, by simpa [w64] using hx⟩
  · rw [List.drop_eq_nil_of_le (by omega), demGo] at hx
    simp -implicitDefEqProofs [hlt, demL, hx, w64]
theorem demandOf_run {h : Hp} {v u : Value} {js : List Job} {xs : List Int} (hj : Jobs h v js) (hv : Ints h u xs) (hn : xs.length ≤ 2 ^ 40) (hin : inside js.length xs) :
    Ret P G n_impl_demandOf [v, u] h (.int .i64 (demL js xs)) h := by
  refine enter_run e_impl_demandOf (by simp) ?_
  obtain ⟨oj, cj, rfl⟩ := hj.shapeT
  obtain ⟨oa, c, rfl⟩ := hv.shapeT
  simp -implicitDefEqProofs
  refine R_loop (fun m s h' => ∃ (i : Nat) (a b : Int), i + m = xs.length ∧ s = [(0, .slice oj js.length cj), (5, .int .i64 a), (6, .int .i64 b), (9, .slice oa xs.length c), (10, .int .i64 xs.length), (11, .int .i64 i)] ∧ h' = h ∧ demGo js xs 0 0 = demGo js (xs.drop i) a b) (fun m s h' => ?_) ⟨0, 0, 0, Nat.zero_add _, by simp, rfl, rfl⟩
  rintro ⟨i, a, b, hi, rfl, rfl, hx⟩
  by_cases hlt : i < xs.length
  · obtain ⟨y, hy, hd⟩ := drop_at hlt
    rw [hd, demGo_cons] at hx
    obtain ⟨y0, y1⟩ := hin y (List.mem_of_getElem? hy)
    have hjy := jobAt_some y0 y1
    have w0 : IntKind.i64.wrap (i + 1) = ((i : Int) + 1) := by rw [wrap_ok] <;> omega
    simp -implicitDefEqProofs [hlt, ints_idx hv (i := i) (by omega) (by omega), ints_ld hv hy, jobs_idxI hj y0 y1, jobs_field hj hjy, encJ, w0]
    exact ⟨m - 1, by omega, i + 1, by omega, _, _, ⟨rfl, rfl, by omega⟩, by simpa [w64] using hx⟩
  · rw [List.drop_eq_nil_of_le (by omega), demGo] at hx
    simp -implicitDefEqProofs [hlt, demL, hx, w64]
def yieldGo (js : List Job) : List SP → Int → Int
  | [], a => a
  | x :: r, a => yieldGo js r (w64 (a + w64 (x.p * demL js x.s)))
theorem yieldGo_cons {js : List Job} {x : SP} {r : List SP} {a : Int} : yieldGo js (x :: r) a = yieldGo js r (w64 (a + w64 (x.p * demL js x.s))) := rfl
theorem l10Yield_run {h : Hp} {v vp : Value} {js : List Job} {ps : List SP} (hj : Jobs h v js) (hv : Prices h vp ps) (hn : ps.length ≤ 2 ^ 40) (hin : ∀ x ∈ ps, inside js.length x.s) :
    Ret P G n_spec_l10Yield [v, vp] h (.int .i64 (yieldGo js ps 0)) h := by
  refine enter_run e_spec_l10Yield (by simp) ?_
  obtain ⟨oj, cj, rfl⟩ := hj.shapeT
  obtain ⟨oa, c, rfl⟩ := hv.sees.shapeT
  simp -implicitDefEqProofs
  refine R_loop (fun m s h' => ∃ (i : Nat) (a : Int), i + m = ps.length ∧ s = [(0, .slice oj js.length cj), (1, .slice oa ps.length c), (5, .int .i64 a), (6, .int .i64 i)] ∧ h' = h ∧ yieldGo js ps 0 = yieldGo js (ps.drop i) a) (fun m s h' => ?_) ⟨0, 0, Nat.zero_add _, by simp, rfl, rfl⟩
  rintro ⟨i, a, hi, rfl, rfl, hx⟩
  by_cases hlt : i < ps.length
  · obtain ⟨x, hy, hd⟩ := drop_at hlt
    rw [hd, yieldGo_cons] at hx
    have hx2 := hin x (List.mem_of_getElem? hy)
    obtain ⟨xv, xl, xp⟩ := x
    obtain ⟨xs, xn⟩ : Ints h' xv xl ∧ xl.length ≤ 2 ^ 40 := hv.set _ (List.mem_of_getElem? hy)
    have i0 := prices_idx hv (i := i) (by omega) (by omega)
    rw [show (i : Int).toNat = i by omega] at i0
    have w0 : IntKind.i64.wrap (i + 1) = ((i : Int) + 1) := by rw [wrap_ok] <;> omega
    simp -implicitDefEqProofs [hlt, i0, prices_set hv hy, prices_price hv hy, CHr (l10Demand_run hj xs xn hx2), CL_ret (l10Demand_run hj xs xn hx2), w0]
    exact ⟨m - 1, by omega, i + 1, by omega, _, ⟨rfl, by omega⟩, by simpa [w64] using hx⟩
  · rw [List.drop_eq_nil_of_le (by omega), yieldGo] at hx
    simp -implicitDefEqProofs [hlt, hx]
theorem yieldOf_run {h : Hp} {v vp : Value} {js : List Job} {ps : List SP} (hj : Jobs h v js) (hv : Prices h vp ps) (hn : ps.length ≤ 2 ^ 40) (hin : ∀ x ∈ ps, inside js.length x.s) :
    Ret P G n_impl_yieldOf [v, vp] h (.int .i64 (yieldGo js ps 0)) h := by
  refine enter_run e_impl_yieldOf (by simp) ?_
  obtain ⟨oj, cj, rfl⟩ := hj.shapeT
  obtain ⟨oa, c, rfl⟩ := hv.sees.shapeT
  simp -implicitDefEqProofs
  refine R_loop (fun m s h' => ∃ (i : Nat) (a : Int), i + m = ps.length ∧ s = [(0, .slice oj js.length cj), (5, .int .i64 a), (8, .slice oa ps.length c), (9, .int .i64 ps.length), (10, .int .i64 i)] ∧ h <+: h' ∧ yieldGo js ps 0 = yieldGo js (ps.drop i) a) (fun m s h' => ?_) ⟨0, 0, Nat.zero_add _, by simp, List.prefix_rfl, rfl⟩
  rintro ⟨i, a, hi, rfl, hp, hx⟩
  have hj' := hj.pre hp
  have hv' := hv.pre hp
  by_cases hlt : i < ps.length
  · obtain ⟨x, hy, hd⟩ := drop_at hlt
    rw [hd, yieldGo_cons] at hx
    have hx2 := hin x (List.mem_of_getElem? hy)
    obtain ⟨xv, xl, xp⟩ := x
    obtain ⟨xs, xn⟩ : Ints h' xv xl ∧ xl.length ≤ 2 ^ 40 := hv'.set _ (List.mem_of_getElem? hy)
    have i0 := prices_idx hv' (i := i) (by omega) (by omega)
    rw [show (i : Int).toNat = i by omega] at i0
    have la := prices_agg hv' hy
    obtain ⟨ob, d, rfl⟩ := xs.shapeT
    have xs2 := xs.ext [some ⟨[.slice ob xl.length d, .int .i64 xp], 0, false⟩]
    have hj2 := Sees.ext hj' [some ⟨[.slice ob xl.length d, .int .i64 xp], 0, false⟩]
    have w0 : IntKind.i64.wrap (i + 1) = ((i : Int) + 1) := by rw [wrap_ok] <;> omega
    simp -implicitDefEqProofs [hlt, i0, la, CHr (demandOf_run hj2 xs2 xn hx2), CL_ret (demandOf_run hj2 xs2 xn hx2), w0]
    exact ⟨m - 1, by omega, i + 1, by omega, _, ⟨rfl, by omega⟩, hp.trans (List.prefix_append ..), by simpa [w64] using hx⟩
  · rw [List.drop_eq_nil_of_le (by omega), yieldGo] at hx
    simp -implicitDefEqProofs [hlt, hx, gcI hp]
end Go.Pm.PP
