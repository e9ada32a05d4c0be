/- Functions of PriceProof: values. -/
import Derived.Test.YtagofldjmcaalaaPp9
set_option linter.unusedVariables false
set_option linter.unusedSimpArgs false
set_option maxRecDepth 4000
set_option maxHeartbeats 4000000
namespace Go.Pm.PP
open Go.Pm Go.Proofs
theorem irow_sees {h l : Hp} {ys : List Int} {n : Nat} (hn : ys.length = n) : Ints (h ++ irow ys :: l) (.slice (some ⟨h.length, 0, some n⟩) n n) ys := by
  subst hn
  have hf : ∀ zs : List Int, (zs.map encI).flatten = zs.map iv := by
    intro zs
    induction zs with
    | nil => rfl
    | cons z zs ih => rw [List.map_cons, List.flatten_cons, ih]; rfl
  refine ⟨fun e he => ?_, some ⟨h.length, 0, some ys.length⟩, ys.length, by simp, .inr ⟨h.length, 0, ⟨ys.map iv, 1, false⟩, by simp, ?_, rfl, by simp, ?_, by simp⟩⟩
  · obtain ⟨z, _, rfl⟩ := List.mem_map.1 he; rfl
  · rw [List.getElem?_append_right (Nat.le_refl _), Nat.sub_self]; rfl
  · rw [hf, List.drop_zero, List.take_of_length_le (by simp)]
theorem l2Greatest_run {h : Hp} : Ret P G n_spec_l2Greatest [.int .i64 3] h (.bool false) h := by
  refine enter_run e_spec_l2Greatest (by simp) ?_
  simp -implicitDefEqProofs
theorem l2Cost_run {h : Hp} {j : Job} {e : Int} : Ret P G n_spec_l2Cost [jv j, .int .i64 e, .int .i64 3] h (.int .i64 (w64 (j.w * e))) h := by
  refine enter_run e_spec_l2Cost (by simp) ?_
  simp -implicitDefEqProofs [CL_ret l1Most_run, CHr l1Most_run, w64]
theorem add_run {h : Hp} {j : Job} {a e : Int} {b : Bool} : Ret P G n_impl_add [.int .i64 a, jv j, .int .i64 e, .int .i64 3, .bool b] h (.int .i64 (w64 (a + w64 (j.w * e)))) h := by
  refine enter_run e_impl_add (by simp) ?_
  simp -implicitDefEqProofs [w64]
def sumW : List Job → List Int → Int → Int
  | j :: r, y :: s, a => sumW r s (w64 (a + w64 (j.w * y)))
  | _, _, a => a
theorem sumW_cons {j : Job} {r : List Job} {y : Int} {s : List Int} {a : Int} : sumW (j :: r) (y :: s) a = sumW r s (w64 (a + w64 (j.w * y))) := rfl
theorem sumW_nil {s : List Int} {a : Int} : sumW [] s a = a := by cases s <;> rfl
theorem l2Of_run {h : Hp} {v u : Value} {js : List Job} {ys : List Int} (hj : Jobs h v js) (hv : Ints h u ys) (hjn : js.length ≤ 2 ^ 40) (hl : ys.length = js.length) :
    Ret P G n_spec_l2Of [v, u, .int .i64 3] h (.int .i64 (sumW js ys 0)) h := by
  refine enter_run e_spec_l2Of (by simp) ?_
  obtain ⟨oj, cj, rfl⟩ := hj.shapeT
  obtain ⟨oa, c, rfl⟩ := hv.shapeT
  simp -implicitDefEqProofs
  refine R_loop (fun m s h' => ∃ (i : Nat) (a : Int), i + m = js.length ∧ s = [(0, .slice oj js.length cj), (1, .slice oa ys.length c), (2, .int .i64 3), (7, .int .i64 a), (8, .int .i64 i)] ∧ h' = h ∧ sumW js ys 0 = sumW (js.drop i) (ys.drop i) a) (fun m s h' => ?_) ⟨0, 0, Nat.zero_add _, by simp, rfl, rfl⟩
  rintro ⟨i, a, hi, rfl, rfl, hx⟩
  by_cases hlt : i < js.length
  · obtain ⟨j, hy, hd⟩ := drop_at hlt
    obtain ⟨y, hy2, hd2⟩ := drop_at (show i < ys.length by omega)
    rw [hd, hd2, sumW_cons] at hx
    have w0 : IntKind.i64.wrap (i + 1) = ((i : Int) + 1) := by rw [wrap_ok] <;> omega
    simp -implicitDefEqProofs [hlt, CL_ret l2Greatest_run, CL_ret l2Cost_run, CHr l2Cost_run, jobs_idx hj hlt, jobs_agg hj hy, ints_idx hv (i := i) (by omega) (by omega), ints_ld hv hy2, w0]
    exact ⟨m - 1, by omega, i + 1, by omega, _, ⟨rfl, by omega⟩, by simpa [w64] using hx⟩
  · rw [List.drop_eq_nil_of_le (by omega), sumW_nil] at hx
    simp -implicitDefEqProofs [hlt, hx]
theorem endsGo_len : ∀ {r : List Job} {i : Nat} {ys : List Int}, (endsGo r i ys).length = ys.length
  | [], i, ys => rfl
  | j :: r, i, ys => by rw [endsGo_cons, endsGo_len, List.length_set]
theorem endsS_len {js : List Job} {xs : List Int} : (endsS js xs).length = js.length := by rw [endsS, endsGo_len, startsL_len]
theorem implGo_len {js : List Job} : ∀ {r ys : List Int} {e : Int}, (implGo js r ys e).length = ys.length
  | [], ys, e => rfl
  | o :: r, ys, e => by rw [implGo_cons, implGo_len, List.length_set]
theorem endsI_len {js : List Job} {xs : List Int} : (endsI js xs).length = js.length := by rw [endsI, implGo_len, List.length_replicate]
theorem l2Value_run {h : Hp} {v u : Value} {js : List Job} {xs : List Int} (hj : Jobs h v js) (hv : Ints h u xs) (hn : xs.length ≤ 2 ^ 40) (hjn : js.length ≤ 2 ^ 40) (hin : inside js.length xs) :
    Ret P G n_spec_l2Value [v, u, .int .i64 3] h (.int .i64 (sumW js (endsS js xs) 0)) h := by
  refine enter_run e_spec_l2Value (by simp) ?_
  simp -implicitDefEqProofs [CL_ret (l2Ends_run hj hv hn hjn hin), CL_ret (l2Of_run (Sees.ext hj [irow (endsS js xs)]) (irow_sees endsS_len) hjn endsS_len)]
theorem valueOfEnds_run {h : Hp} {v u : Value} {js : List Job} {ys : List Int} (hj : Jobs h v js) (hv : Ints h u ys) (hjn : js.length ≤ 2 ^ 40) (hl : ys.length = js.length) :
    Ret P G n_impl_valueOfEnds [v, u, .int .i64 3] h (.int .i64 (sumW js ys 0)) h := by
  refine enter_run e_impl_valueOfEnds (by simp) ?_
  obtain ⟨oj, cj, rfl⟩ := hj.shapeT
  obtain ⟨oa, c, rfl⟩ := hv.shapeT
  simp -implicitDefEqProofs
  refine R_loop (fun m s h' => ∃ (i : Nat) (a : Int), i + m = js.length ∧ s = [(1, .slice oa ys.length c), (2, .int .i64 3), (7, .int .i64 a), (10, .slice oj js.length cj), (11, .int .i64 js.length), (12, .int .i64 i)] ∧ h <+: h' ∧ sumW js ys 0 = sumW (js.drop i) (ys.drop i) a) (fun m s h' => ?_) ⟨0, 0, Nat.zero_add _, by simp, List.prefix_rfl, rfl⟩
  rintro ⟨i, a, hi, rfl, hp, hx⟩
  have hj' := hj.pre hp
  have hv' := hv.pre hp
  by_cases hlt : i < js.length
  · obtain ⟨j, hy, hd⟩ := drop_at hlt
    obtain ⟨y, hy2, hd2⟩ := drop_at (show i < ys.length by omega)
    rw [hd, hd2, sumW_cons] at hx
    have w0 : IntKind.i64.wrap (i + 1) = ((i : Int) + 1) := by rw [wrap_ok] <;> omega
    have hv2 := Sees.ext hv' [some ⟨[.int .i64 j.t, .int .i64 j.w, .int .i64 j.r, .int .i64 j.d], 0, false⟩]
    simp -implicitDefEqProofs [hlt, CL_ret add_run, CHr add_run, jobs_idx hj' hlt, jobs_agg hj' hy, ints_idx hv2 (i := i) (by omega) (by omega), ints_ld hv2 hy2, w0]
    exact ⟨m - 1, by omega, i + 1, by omega, _, ⟨rfl, by omega⟩, hp.trans (List.prefix_append ..), by simpa [w64] using hx⟩
  · rw [List.drop_eq_nil_of_le (by omega), sumW_nil] at hx
    simp -implicitDefEqProofs [hlt, hx, gcI hp]
theorem valueOf_run {h : Hp} {v u : Value} {js : List Job} {xs : List Int} (hj : Jobs h v js) (hv : Ints h u xs) (hn : xs.length ≤ 2 ^ 40) (hjn : js.length ≤ 2 ^ 40) (hin : inside js.length xs) :
    Ret P G n_impl_valueOf [v, u, .int .i64 3] h (.int .i64 (sumW js (endsI js xs) 0)) h := by
  refine enter_run e_impl_valueOf (by simp) ?_
  simp -implicitDefEqProofs [CL_ret (endsOf_run hj hv hn hjn hin), CL_ret (valueOfEnds_run (Sees.ext hj [irow (endsI js xs)]) (irow_sees endsI_len) hjn endsI_len)]
end Go.Pm.PP
