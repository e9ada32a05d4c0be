/- Functions of PriceProof: starts and ends. -/
import Derived.Test.YtagofldjmcaalaaPp8
set_option linter.unusedVariables false
set_option linter.unusedSimpArgs false
set_option maxRecDepth 4000
set_option maxHeartbeats 4000000
namespace Go.Pm.PP
open Go.Pm Go.Proofs
def iv (x : Int) : Value := .int .i64 x
def irow (ys : List Int) : Option Row := some ⟨ys.map iv, 1, false⟩
theorem gc_slice {h h' : Hp} {a : Addr} {n c : Nat} : gc h h' (.slice (some a) n c) = h' := by
  unfold gc; rw [if_neg]; simp [plain, plainC]
theorem reps_one (n : Nat) (x : Value) : reps n [x] = List.replicate n x := by
  induction n with
  | zero => rfl
  | succ n ih => rw [reps, ih, List.replicate_succ]; rfl
theorem make_ints {h : Hp} {n : Nat} (hn : n ≤ 2 ^ 40) : makeP P h 24 (.int .i64 n) (.int .i64 n) = some (.slice (some ⟨h.length, 0, some n⟩) n n, h ++ [irow (List.replicate n 0)]) := by
  have h1 : ((n : Int) * 8 ≤ 2 ^ 47) := by omega
  have h2 : ((n : Int) < 2 ^ 62) := by omega
  simp [makeP, u24, irow, iv, reps_one]
  omega
/-- Storing into and loading from a row of numbers at a known place. -/
theorem row_idx {h l : Hp} {ys : List Int} {n c : Nat} (hy : ys.length = n) {j : Int} (h0 : 0 ≤ j) (h1 : j < n) :
    indexAddrP P (h ++ irow ys :: l) 24 (.slice (some ⟨h.length, 0, some n⟩) n c) (.int .i64 j) = some (.pointer (some ⟨h.length, j.toNat, some n⟩)) := by
  simp [u24, irow, hy, h0, h1]
theorem row_ld {h l : Hp} {ys : List Int} {n j : Nat} (hy : ys.length = n) {y : Int} (h1 : ys[j]? = some y) :
    loadP P (h ++ irow ys :: l) 3 (.pointer (some ⟨h.length, j, some n⟩)) = some (.int .i64 y) := by
  obtain ⟨d, hd, ha⟩ := Option.map_eq_some_iff.1 u3
  simp only [loadP_app0, irow, rowAt_zero, List.length_map, hy, if_true, Option.bind_some, rowLoad, hd, ti_3_eq, ha, Bool.false_eq_true, if_false, List.getElem?_map, h1, Option.map_some, iv]
theorem row_st {h l : Hp} {ys : List Int} {n j : Nat} {y : Int} (hy : ys.length = n) (h1 : j < n) :
    storeP P (h ++ irow ys :: l) 3 (.int .i64 y) (.pointer (some ⟨h.length, j, some n⟩)) = some (h ++ irow (ys.set j y) :: l) := by
  simp [irow, hy, iv, List.map_set]
  omega
theorem rowAt_irow {l : Hp} {ys : List Int} {o : Nat} {sp : Option Nat} : rowAt (irow ys :: l) ⟨0, o, sp⟩ = if sp = some ys.length then some ⟨ys.map iv, 1, false⟩ else none := by simp [irow]
theorem irow_set {ys : List Int} {k : Nat} {x : Int} : [some (Row.mk ((ys.map iv).set k (.int .i64 x)) 1 false)] = [irow (ys.set k x)] := by simp [irow, iv, List.map_set]
def most (a b : Int) : Int := if b < a then a else b
def startsGo (js : List Job) : List Int → List Int → Int → List Int
  | [], ys, _ => ys
  | o :: r, ys, now => startsGo js r (ys.set o.toNat (most now (jobAt js o).r)) (w64 (most now (jobAt js o).r + (jobAt js o).t))
theorem startsGo_cons {js : List Job} {o now : Int} {r ys : List Int} : startsGo js (o :: r) ys now = startsGo js r (ys.set o.toNat (most now (jobAt js o).r)) (w64 (most now (jobAt js o).r + (jobAt js o).t)) := rfl
theorem startsGo_len {js : List Job} : ∀ {xs ys : List Int} {now : Int}, (startsGo js xs ys now).length = ys.length
  | [], ys, now => rfl
  | o :: r, ys, now => by rw [startsGo_cons, startsGo_len, List.length_set]
def startsL (js : List Job) (xs : List Int) : List Int := startsGo js xs (List.replicate js.length 0) 0
theorem l2Starts_run {h : Hp} {v u : Value} {js : List Job} {xs : List Int} (hj : Jobs h v js) (hv : Ints h u xs) (hn : xs.length ≤ 2 ^ 40) (hjn : js.length ≤ 2 ^ 40) (hin : inside js.length xs) :
    Ret P G n_spec_l2Starts [v, u] h (.slice (some ⟨h.length, 0, some js.length⟩) js.length js.length) (h ++ [irow (startsL js xs)]) := by
  refine enter_run e_spec_l2Starts (by simp) ?_
  obtain ⟨oj, cj, rfl⟩ := hj.shapeT
  obtain ⟨oa, c, rfl⟩ := hv.shapeT
  simp -implicitDefEqProofs [make_ints hjn]
  refine R_loop (fun m s h' => ∃ (i : Nat) (now : Int) (ys : List Int), i + m = xs.length ∧ s = [(0, .slice oj js.length cj), (1, .slice oa xs.length c), (5, .slice (some ⟨h.length, 0, some js.length⟩) js.length js.length), (6, .int .i64 now), (7, .int .i64 i)] ∧ h' = h ++ [irow ys] ∧ ys.length = js.length ∧ startsL js xs = startsGo js (xs.drop i) ys now) (fun m s h' => ?_) ⟨0, 0, _, Nat.zero_add _, by simp, rfl, by simp, rfl⟩
  rintro ⟨i, now, ys, hi, rfl, rfl, hl, hx⟩
  have hv' := hv.ext [irow ys]
  have hj' := Sees.ext hj [irow ys]
  by_cases hlt : i < xs.length
  · obtain ⟨y, hy, hd⟩ := drop_at hlt
    rw [hd, startsGo_cons] at hx
    obtain ⟨y0, y1⟩ := hin y (List.mem_of_getElem? hy)
    have hjy := jobAt_some y0 y1
    have w0 : IntKind.i64.wrap (i + 1) = ((i : Int) + 1) := by rw [wrap_ok] <;> omega
    have f1 := fun zs => ints_idx (hv.ext [irow zs]) (i := i) (by omega) (by omega)
    have f2 := fun zs => ints_ld (hv.ext [irow zs]) hy
    have f3 := fun zs => jobs_idxI (Sees.ext hj [irow zs]) y0 y1
    have f4 := fun zs k hk => jobs_field (Sees.ext hj [irow zs]) (k := k) hjy hk
    simp -implicitDefEqProofs [hlt, f1, f2, f3, f4, encJ, w0, rowAt_irow, irow_set, hl, y0, y1, show y.toNat < ys.length by omega, show y.toNat < js.length by omega, show y.toNat + 1 ≤ js.length by omega, CL_ret l1Most_run, CHr l1Most_run, iv]
    exact ⟨m - 1, by omega, i + 1, by omega, _, ⟨rfl, by omega⟩, _, rfl, by simp [hl], by simpa [w64, most] using hx⟩
  · rw [List.drop_eq_nil_of_le (by omega), startsGo] at hx
    simp -implicitDefEqProofs [hlt, hx, gc_slice]
def endsGo : List Job → Nat → List Int → List Int
  | [], _, ys => ys
  | j :: r, i, ys => endsGo r (i + 1) (ys.set i (w64 (ys.getD i 0 + j.t)))
theorem endsGo_cons {j : Job} {r : List Job} {i : Nat} {ys : List Int} : endsGo (j :: r) i ys = endsGo r (i + 1) (ys.set i (w64 (ys.getD i 0 + j.t))) := rfl
def endsS (js : List Job) (xs : List Int) : List Int := endsGo js 0 (startsL js xs)
theorem startsL_len {js : List Job} {xs : List Int} : (startsL js xs).length = js.length := by rw [startsL, startsGo_len, List.length_replicate]
theorem l2Ends_run {h : Hp} {v u : Value} {js : List Job} {xs : List Int} (hj : Jobs h v js) (hv : Ints h u xs) (hn : xs.length ≤ 2 ^ 40) (hjn : js.length ≤ 2 ^ 40) (hin : inside js.length xs) :
    Ret P G n_spec_l2Ends [v, u] h (.slice (some ⟨h.length, 0, some js.length⟩) js.length js.length) (h ++ [irow (endsS js xs)]) := by
  refine enter_run e_spec_l2Ends (by simp) ?_
  have hst := l2Starts_run hj hv hn hjn hin
  obtain ⟨oj, cj, rfl⟩ := hj.shapeT
  obtain ⟨oa, c, rfl⟩ := hv.shapeT
  simp -implicitDefEqProofs [CL_ret hst]
  refine R_loop (fun m s h' => ∃ (i : Nat) (ys : List Int), i + m = js.length ∧ s = [(0, .slice oj js.length cj), (5, .slice (some ⟨h.length, 0, some js.length⟩) js.length js.length), (6, .int .i64 i)] ∧ h' = h ++ [irow ys] ∧ ys.length = js.length ∧ endsS js xs = endsGo (js.drop i) i ys) (fun m s h' => ?_) ⟨0, _, Nat.zero_add _, by simp, rfl, startsL_len, rfl⟩
  rintro ⟨i, ys, hi, rfl, rfl, hl, hx⟩
  by_cases hlt : i < js.length
  · obtain ⟨y, hy, hd⟩ := drop_at hlt
    rw [hd, endsGo_cons] at hx
    have w0 : IntKind.i64.wrap (i + 1) = ((i : Int) + 1) := by rw [wrap_ok] <;> omega
    have f1 := fun zs => jobs_idx (Sees.ext hj [irow zs]) hlt
    have f2 := fun zs k hk => jobs_field (Sees.ext hj [irow zs]) (k := k) hy hk
    have hyi : ys[i]? = some (ys.getD i 0) := by rw [List.getD_eq_getElem?_getD, List.getElem?_eq_getElem (by omega)]; rfl
    simp -implicitDefEqProofs [hlt, f1, f2, encJ, w0, rowAt_irow, irow_set, hl, hyi, show i < ys.length by omega, show i + 1 ≤ js.length by omega, iv]
    exact ⟨m - 1, by omega, i + 1, by omega, by omega, _, rfl, by simp [hl], by simpa [w64, show i < ys.length by omega] using hx⟩
  · rw [List.drop_eq_nil_of_le (by omega), endsGo] at hx
    simp -implicitDefEqProofs [hlt, hx, gc_slice]
def implGo (js : List Job) : List Int → List Int → Int → List Int
  | [], ys, _ => ys
  | o :: r, ys, e => implGo js r (ys.set o.toNat (w64 ((if e < (jobAt js o).r then (jobAt js o).r else e) + (jobAt js o).t))) (w64 ((if e < (jobAt js o).r then (jobAt js o).r else e) + (jobAt js o).t))
theorem implGo_cons {js : List Job} {o e : Int} {r ys : List Int} : implGo js (o :: r) ys e = implGo js r (ys.set o.toNat (w64 ((if e < (jobAt js o).r then (jobAt js o).r else e) + (jobAt js o).t))) (w64 ((if e < (jobAt js o).r then (jobAt js o).r else e) + (jobAt js o).t)) := rfl
def endsI (js : List Job) (xs : List Int) : List Int := implGo js xs (List.replicate js.length 0) 0
theorem endsOf_run {h : Hp} {v u : Value} {js : List Job} {xs : List Int} (hj : Jobs h v js) (hv : Ints h u xs) (hn : xs.length ≤ 2 ^ 40) (hjn : js.length ≤ 2 ^ 40) (hin : inside js.length xs) :
    Ret P G n_impl_endsOf [v, u] h (.slice (some ⟨h.length, 0, some js.length⟩) js.length js.length) (h ++ [irow (endsI js xs)]) := by
  refine enter_run e_impl_endsOf (by simp) ?_
  obtain ⟨oj, cj, rfl⟩ := hj.shapeT
  obtain ⟨oa, c, rfl⟩ := hv.shapeT
  simp -implicitDefEqProofs [make_ints hjn]
  refine R_loop (fun m s h' => ∃ (i : Nat) (e : Int) (ys : List Int), i + m = xs.length ∧ s = [(0, .slice oj js.length cj), (5, .slice (some ⟨h.length, 0, some js.length⟩) js.length js.length), (6, .int .i64 e), (12, .slice oa xs.length c), (13, .int .i64 xs.length), (14, .int .i64 i)] ∧ h' = h ++ [irow ys] ∧ ys.length = js.length ∧ endsI js xs = implGo js (xs.drop i) ys e) (fun m s h' => ?_) ⟨0, 0, _, Nat.zero_add _, by simp, rfl, by simp, rfl⟩
  rintro ⟨i, e, ys, hi, rfl, rfl, hl, hx⟩
  by_cases hlt : i < xs.length
  · obtain ⟨y, hy, hd⟩ := drop_at hlt
    rw [hd, implGo_cons] at hx
    obtain ⟨y0, y1⟩ := hin y (List.mem_of_getElem? hy)
    have hjy := jobAt_some y0 y1
    have w0 : IntKind.i64.wrap (i + 1) = ((i : Int) + 1) := by rw [wrap_ok] <;> omega
    have f1 := fun zs => ints_idx (hv.ext [irow zs]) (i := i) (by omega) (by omega)
    have f2 := fun zs => ints_ld (hv.ext [irow zs]) hy
    have f3 := fun zs => jobs_idxI (Sees.ext hj [irow zs]) y0 y1
    have f4 := fun zs k hk => jobs_field (Sees.ext hj [irow zs]) (k := k) hjy hk
    simp -implicitDefEqProofs [hlt, f1, f2, f3, f4, encJ, w0, foldI, rowAt_irow, irow_set, hl, y0, y1, show y.toNat < ys.length by omega, show y.toNat < js.length by omega, show y.toNat + 1 ≤ js.length by omega, iv]
    exact ⟨m - 1, by omega, i + 1, by omega, _, ⟨rfl, by omega⟩, _, rfl, by simp [hl], by simpa [w64] using hx⟩
  · rw [List.drop_eq_nil_of_le (by omega), implGo] at hx
    simp -implicitDefEqProofs [hlt, hx, gc_slice]
end Go.Pm.PP
