/- The texts PoSd, PoSe, PoL, PoM, PoK, PoSf, PoSg, PoSh, PoSi of this work: The greatest lateness and delays, by both; the draw. -/
import Derived.ProofKit
import Derived.OpenShut
import Derived.Carry
import Derived.Test.YtdhlemilmklbpaaP8
import Derived.Test.YtdhlemilmklbpaaM4
/- The greatest lateness and delays, by both; the draw. -/
set_option linter.unusedVariables false
set_option linter.unusedSimpArgs false
set_option maxRecDepth 4000
set_option maxHeartbeats 8000000
namespace Go.Pm.PP
open Go.Pm Go.Proofs Go.Pm.PE
theorem upTo_in {n : Nat} : inN n (upTo n) := fun x hx => mem_upTo.1 hx
theorem up_asc' {n : Nat} : (upTo n).Pairwise (· < ·) := up_asc
theorem bits_up {n : Nat} : bitsL n (2 ^ n - 1) = upTo n := by rw [bits_full, upTo, List.range_eq_range']
/-- All jobs in due order. -/
def dueAll (js : List Job) : List Int := dueL js (upTo js.length)
theorem dueAll_ord {js : List Job} : Ord js.length (dueAll js) := by
  have p : (dueAll js).Perm (upTo js.length) := sortB_perm
  exact ⟨by rw [p.length_eq, upTo_len], fun x hx => mem_upTo.1 (p.mem_iff.1 hx), p.nodup_iff.2 (upTo_nodup _)⟩
theorem ord_perm {n : Nat} {xs : List Int} (o : Ord n xs) : xs.Perm (upTo n) := (List.perm_ext_iff_of_nodup o.nd (upTo_nodup n)).2 fun x => by
  rw [mem_upTo]
  refine ⟨fun hx => o.inn x hx, fun hx => ?_⟩
  have := o.all (i := x.toNat) (by omega)
  rwa [show ((x.toNat : Nat) : Int) = x by omega] at this
theorem ord_prm {n : Nat} {xs : List Int} (o : Ord n xs) : Prm n xs := by
  have := ord_perm o
  rwa [upTo, List.range_eq_range'] at this
section
variable {h : Hp} {vj v : Value} {js : List Job} {xs : List Int}
theorem shl_eq {i : Nat} (hi : i ≤ 60) : shiftI .shl .i64 1 i = some (.int .i64 ((2 ^ i : Nat) : Int)) := by
  have h0 : ¬ (i : Int) < 0 := by omega
  have hb : IntKind.i64.bits = 64 := rfl
  simp only [shiftI, if_neg h0, Int.toNat_natCast]
  rw [hb, Nat.min_eq_left (by omega), Int.one_mul]
  have e1 : ((2 : Int) ^ i) = ((2 ^ i : Nat) : Int) := by simp
  have e2 : 2 ^ i ≤ 2 ^ 60 := Nat.pow_le_pow_right (by omega) hi
  rw [e1]
  generalize 2 ^ i = d at e2 ⊢
  rw [wrap_ok (by omega) (by omega)]
theorem l6All_run (J : Jobs h vj js) (hn : js.length ≤ 58) : RunsC P G n_spec_l6All [vj] h fun w h' => h <+: h' ∧ Own h.length h' w 1 ((upTo js.length).map encI) := by
  refine hideC fun K hK => enter_run e_spec_l6All (by simp) ?_
  obtain ⟨oj, cj, rfl⟩ := J.shapeT
  have e2 : 2 ^ js.length ≤ 2 ^ 58 := Nat.pow_le_pow_right (by omega) hn
  have e3 := Nat.two_pow_pos js.length
  have w1 : IntKind.i64.wrap (((2 ^ js.length : Nat) : Int) - 1) = ((2 ^ js.length - 1 : Nat) : Int) := by rw [wrap_ok] <;> omega
  have rs := l4Set_run (h := h) (n := js.length) (c := 2 ^ js.length - 1) (by omega) (by omega)
  rw [bits_up] at rs
  generalize hc : 2 ^ js.length - 1 = c at *
  generalize hd : 2 ^ js.length = d at *
  have e1 : ((2 : Int) ^ js.length) = (d : Int) := by rw [← hd]; simp
  have sh := shl_eq (i := js.length) (by omega)
  rw [hd] at sh
  simp -implicitDefEqProofs [sh, w1]
  refine CL_post rs fun v1 h1 ⟨hp1, ho1⟩ => ?_
  simp -implicitDefEqProofs
  exact onK hK (((Holds.start (h := h)).call hp1 ho1).ret 0 rfl)
theorem l6Timely_run (J : Jobs h vj js) (X : Ints h v xs) (hin : inN js.length xs) (hn : xs.length ≤ 2 ^ 10) (bd : Bd js) : Ret P G n_spec_l6Timely [vj, v] h (.bool (timGo js 0 (dueF js xs))) h := by
  refine enter_run e_spec_l6Timely (by simp) ?_
  have Js := J
  have Xs := X
  obtain ⟨oj, cj, rfl⟩ := J.shapeT
  obtain ⟨ox, cx, rfl⟩ := X.shapeT
  simp -implicitDefEqProofs
  refine CL_post (l6Due_run Js Xs hin hn) fun v2 h2 ⟨hp, ho2⟩ => ?_
  have S2 : Ints h2 v2 (dueF js xs) := ho2.sees
  have hgo : ∀ {l acc : List Int}, inN js.length l → inN js.length acc → inN js.length (l.foldl (fun l x => insF (fun y => sooner js y x) x l) acc) ∧ (l.foldl (fun l x => insF (fun y => sooner js y x) x l) acc).length = acc.length + l.length := by
    intro l
    induction l with
    | nil => intro acc _ h; exact ⟨h, by simp⟩
    | cons x l ih =>
      intro acc h1 h2
      rw [List.foldl_cons]
      have p : (insF (fun y => sooner js y x) x acc).Perm (x :: acc) := insF_perm
      obtain ⟨g1, g2⟩ := ih (acc := insF (fun y => sooner js y x) x acc) (fun y hy => h1 y (List.mem_cons_of_mem _ hy)) fun y hy => by
        rcases List.mem_cons.1 (p.mem_iff.1 hy) with rfl | g
        · exact h1 y (List.mem_cons_self ..)
        · exact h2 y g
      exact ⟨g1, by rw [g2, p.length_eq]; simp; omega⟩
  obtain ⟨hins, hl⟩ := hgo (l := xs) (acc := []) hin fun y hy => by cases hy
  have hl : (dueF js xs).length = xs.length := by rw [dueF, hl]; simp
  have hins : inN js.length (dueF js xs) := hins
  generalize dueF js xs = ys at *
  have S2s := S2
  obtain ⟨oy, cy, rfl⟩ := S2.shapeT
  simp -implicitDefEqProofs
  refine R_loopO (fun m s h' => ∃ (i : Nat) (now : Int), i + m = ys.length ∧ s = [(0, .slice oj js.length cj), (5, .slice oy ys.length cy), (6, .int .i64 now), (7, .int .i64 i)] ∧ h' = h2 ∧ 0 ≤ now ∧ now ≤ i * 2 ^ 20 ∧ timGo js 0 ys = timGo js now (ys.drop i)) (fun I hI m s h' => ?_) (n := ys.length)
    ⟨0, 0, Nat.zero_add _, by simp, rfl, by omega, by omega, by simp⟩
  rintro ⟨i, now, hi, rfl, rfl, n0, n1, hx⟩
  by_cases hlt : i < ys.length
  · obtain ⟨y, hy, hd⟩ := drop_at hlt
    rw [hd, timGo] at hx
    have ly := load_I S2s hy
    have bt := bd.t y
    have lj := load_JX (Js.pre hp) (hins y (List.mem_of_getElem? hy))
    have w1 : IntKind.i64.wrap (now + (jA js y).t) = now + (jA js y).t := by rw [wrap_ok] <;> omega
    by_cases c1 : now + (jA js y).t ≤ (jA js y).d
    · have c2 : ¬ (jA js y).d < now + (jA js y).t := by omega
      rw [decide_eq_true c1, Bool.true_and] at hx
      simp -implicitDefEqProofs [-indexAddrP_some, hlt, ly, lj, w1, c1, c2, winc hlt (by omega)]
      exact ⟨m - 1, by omega, on hI ⟨i + 1, _, by omega, rfl, rfl, by omega, by omega, hx⟩⟩
    · have c2 : (jA js y).d < now + (jA js y).t := by omega
      rw [decide_eq_false c1, Bool.false_and] at hx
      simp -implicitDefEqProofs [-indexAddrP_some, hlt, ly, lj, w1, c1, c2, hx]
      exact gcP hp rfl
  · rw [List.drop_eq_nil_of_le (by omega), timGo] at hx
    simp -implicitDefEqProofs [hlt, hx]
    exact gcP hp rfl
theorem l6Latest_run (J : Jobs h vj js) (hok : plOk js = true) : Ret P G n_spec_l6Latest [vj] h (.int .i64 (valX 4 js (dueAll js))) h := by
  refine enter_run e_spec_l6Latest (by simp) ?_
  have Js := J
  obtain ⟨hn, hg, _⟩ := plOk_of hok
  obtain ⟨oj, cj, rfl⟩ := J.shapeT
  simp -implicitDefEqProofs
  refine CL_post (l6All_run Js (by omega)) fun v1 h1 ⟨hp1, ho1⟩ => ?_
  simp -implicitDefEqProofs
  refine CL_post (l6Due_run (Js.pre hp1) ho1.sees upTo_in (by rw [upTo_len]; omega)) fun v2 h2 ⟨hp2, ho2⟩ => ?_
  rw [due_eq up_asc'] at ho2
  have rv := l2Value_run (o := 4) (Js.pre (hp1.trans hp2)) ho2.sees hg hn (by omega) dueAll_ord
  simp -implicitDefEqProofs [CL_ret rv]
  exact ⟨rfl, gcP (hp1.trans hp2) rfl⟩
def elV (js : List Job) : Int := if plOk js = true then valX 4 js (dueAll js) else 0
theorem specEarliestLatest_run (J : Jobs h vj js) (hl : js.length ≤ 2 ^ 40) : Ret P G n_spec_EarliestLatest [vj] h (.tuple #[.int .i64 (elV js), .bool (plOk js)]) h := by
  refine enter_run e_spec_EarliestLatest (by simp) ?_
  have r1 := l6Good_run J hl
  have Js := J
  obtain ⟨oj, cj, rfl⟩ := J.shapeT
  cases c1 : plOk js
  · simp -implicitDefEqProofs [CL_ret r1, c1, elV]
  · have r2 := l6Latest_run Js c1
    simp -implicitDefEqProofs [CL_ret r1, c1, elV, CL_ret r2]
theorem dueOrd_run (J : Jobs h vj js) (hn : js.length ≤ 8) : RunsC P G n_impl_numbersTo [.int .i64 js.length] h fun w h' => h <+: h' ∧ Own h.length h' w 1 ((upTo js.length).map encI) := numbersTo_run (by omega)
theorem implEarliestLatest_run (J : Jobs h vj js) (hl : js.length ≤ 2 ^ 40) : Ret P G n_impl_EarliestLatest [vj] h (.tuple #[.int .i64 (elV js), .bool (plOk js)]) h := by
  refine enter_run e_impl_EarliestLatest (by simp) ?_
  have r1 := IsPlain_run J hl
  have Js := J
  obtain ⟨oj, cj, rfl⟩ := J.shapeT
  cases c1 : plOk js
  · simp -implicitDefEqProofs [CL_ret r1, c1, elV]
  · obtain ⟨hn, hg, _⟩ := plOk_of c1
    simp -implicitDefEqProofs [CL_ret r1, c1, elV]
    refine CL_post (dueOrd_run Js hn) fun v1 h1 ⟨hp1, ho1⟩ => ?_
    simp -implicitDefEqProofs
    refine CL_post (inDueOrder_run (Js.pre hp1) ho1.sees upTo_in (by rw [upTo_len]; omega)) fun v2 h2 ⟨hp2, ho2⟩ => ?_
    rw [ascL_id up_asc'] at ho2
    have rv := valueOf_run (o := 4) (Js.pre (hp1.trans hp2)) ho2.sees hg hn (by omega) dueAll_ord
    simp -implicitDefEqProofs [CL_ret rv]
    exact ⟨rfl, gcP (hp1.trans hp2) rfl⟩
theorem implDueOrder_run (J : Jobs h vj js) (hl : js.length ≤ 2 ^ 40) : RunsC P G n_impl_DueOrder [vj] h fun w h' => h <+: h' ∧ ∃ d, w = .tuple #[d, .bool (plOk js)] ∧ (plOk js = true → Ints h' d (dueAll js)) := by
  refine hideC fun K hK => enter_run e_impl_DueOrder (by simp) ?_
  have r1 := IsPlain_run J hl
  have Js := J
  obtain ⟨oj, cj, rfl⟩ := J.shapeT
  cases c1 : plOk js
  · simp -implicitDefEqProofs [CL_ret r1, c1]
    exact onK hK ⟨List.prefix_rfl, _, by rw [c1], fun g => by rw [c1] at g; cases g⟩
  · obtain ⟨hn, hg, _⟩ := plOk_of c1
    simp -implicitDefEqProofs [CL_ret r1, c1]
    refine CL_post (dueOrd_run Js hn) fun v1 h1 ⟨hp1, ho1⟩ => ?_
    simp -implicitDefEqProofs
    refine CL_post (inDueOrder_run (Js.pre hp1) ho1.sees upTo_in (by rw [upTo_len]; omega)) fun v2 h2 ⟨hp2, ho2⟩ => ?_
    rw [ascL_id up_asc'] at ho2
    simp -implicitDefEqProofs
    exact onK hK ⟨pre_gcU (hp1.trans hp2), _, by rw [c1], fun _ => Sees.gcU ho2.sees fun g => plainT (r := [_]) g⟩
/-! ### with a delay -/
def tmOk (js : List Job) (dl : Int) : Bool := plOk js && inB dl 0 400
def laterI (js : List Job) (dl : Int) : List Job := js.map fun j => ⟨j.t, j.w, j.r, j.d + dl⟩
def laterS (js : List Job) (dl : Int) : List Job := js.map fun j => ⟨j.t, 0, 0, j.d + dl⟩
theorem implTimelyAfter_run {dl : Int} (J : Jobs h vj js) (hl : js.length ≤ 2 ^ 40) : Ret P G n_impl_TimelyAfter [vj, .int .i64 dl] h (.tuple #[.bool (if tmOk js dl = true then timGo (laterI js dl) 0 (sortB (dAh (laterI js dl)) (upTo js.length)) else false), .bool (tmOk js dl)]) h := by
  refine enter_run e_impl_TimelyAfter (by simp) ?_
  have r1 := IsPlain_run J hl
  have Js := J
  obtain ⟨oj, cj, rfl⟩ := J.shapeT
  cases c1 : plOk js
  · simp -implicitDefEqProofs [CL_ret r1, c1, tmOk]
  cases c2 : inB dl 0 400
  · simp -implicitDefEqProofs [CL_ret r1, c1, tmOk, CL_ret within_run, c2]
  obtain ⟨hn, hg, _⟩ := plOk_of c1
  have hd : 0 ≤ dl ∧ dl ≤ 400 := by simpa [inB] using c2
  have H0 := own_nil (Holds.start (h := h)) Job encJ 4
  obtain ⟨v1, h1, ha, H1, _⟩ := app_J H0 0 rfl Js (by simp; omega)
  have H1 : Holds h h1 [.own v1 4 (js.map encJ)] := H1
  obtain ⟨o1, n1, d1, rfl⟩ : ∃ a n c, v1 = .slice a n c := by obtain ⟨a, c, e⟩ := (H1.sees 0 rfl).shape; exact ⟨_, _, _, e⟩
  have hn1 : n1 = js.length := by obtain ⟨a, c, e⟩ := (H1.sees 0 rfl).shape; cases e; simp
  subst hn1
  simp -implicitDefEqProofs [CL_ret r1, c1, tmOk, CL_ret within_run, c2, ha]
  refine R_loopO (fun m s h' => ∃ (i : Nat), i + m = js.length ∧ s = [(0, .slice oj js.length cj), (1, .int .i64 dl), (6, .slice o1 js.length d1), (20, .int .i64 js.length), (21, .int .i64 i)] ∧ Holds h h' [.own (.slice o1 js.length d1) 4 ((laterI (js.take i) dl ++ js.drop i).map encJ)]) (fun I hI m s h' => ?_) (n := js.length)
    ⟨0, Nat.zero_add _, by simp, by simpa [laterI] using H1⟩
  rintro ⟨i, hi, rfl, H⟩
  have hlen : (laterI (js.take i) dl ++ js.drop i).length = js.length := by unfold laterI; rw [List.length_append, List.length_map, ← List.length_append, List.take_append_drop]
  by_cases hlt : i < js.length
  · obtain ⟨y, hy, hd'⟩ := drop_at hlt
    have lt : (laterI (js.take i) dl).length = i := by simp [laterI]; omega
    have hg2 : (laterI (js.take i) dl ++ js.drop i)[i]? = some y := by rw [List.getElem?_append_right (by omega), lt, Nat.sub_self, hd']; rfl
    have ly := load_J (H.sees 0 rfl) hg2
    have jb := job_of (job_at hg hy)
    have w1 : IntKind.i64.wrap (y.d + dl) = y.d + dl := by rw [wrap_ok] <;> omega
    obtain ⟨h2, s2, H2, _⟩ := fput_J3 H 0 rfl hg2 (y.d + dl)
    have e3 : (laterI (js.take i) dl ++ js.drop i).set i ⟨y.t, y.w, y.r, y.d + dl⟩ = laterI (js.take (i + 1)) dl ++ js.drop (i + 1) := by
      rw [List.set_append_right (h := by omega), lt, Nat.sub_self, hd', List.set_cons_zero, take_succ' hy]
      simp [laterI]
    simp -implicitDefEqProofs [-indexAddrP_some, hlt, ly, w1, s2, winc hlt hl]
    refine ⟨m - 1, by omega, on hI ⟨i + 1, by omega, rfl, ?_⟩⟩
    rw [← e3]
    exact H2
  · have : i = js.length := by omega
    subst this
    rw [List.drop_length, List.take_length, List.append_nil] at H
    have ej : (laterI js dl).length = js.length := by simp [laterI]
    have JL : Jobs h' (.slice o1 js.length d1) (laterI js dl) := H.sees 0 rfl
    have bd : Bd (laterI js dl) := by
      have key : ∀ x, (0 ≤ (jA (laterI js dl) x).t ∧ (jA (laterI js dl) x).t ≤ 2 ^ 20) ∧ (-(2 ^ 20) ≤ (jA (laterI js dl) x).d ∧ (jA (laterI js dl) x).d ≤ 2 ^ 20) := by
        intro x
        rcases @jA_in (laterI js dl) x with g | g
        · unfold laterI at g
          obtain ⟨y, hy, e⟩ := List.mem_map.1 g
          have := job_of (List.all_eq_true.1 hg _ hy)
          unfold laterI
          rw [← e]; simp only; omega
        · rw [g]; simp
      exact ⟨fun x => (key x).1, fun x => (key x).2⟩
    simp -implicitDefEqProofs [hlt]
    refine CL_post (numbersTo_run (by omega)) fun v2 h2 ⟨hp2, ho2⟩ => ?_
    have r3 := onTime_run (JL.pre hp2) ho2.sees (by rw [ej]; exact upTo_in) (by rw [upTo_len]; omega) bd
    simp -implicitDefEqProofs [CL_ret r3]
    exact gcP (H.pre.trans hp2) rfl
theorem specTimelyAfter_run {dl : Int} (J : Jobs h vj js) (hl : js.length ≤ 2 ^ 40) : Ret P G n_spec_TimelyAfter [vj, .int .i64 dl] h (.tuple #[.bool (if tmOk js dl = true then timGo (laterS js dl) 0 (dueF (laterS js dl) (upTo js.length)) else false), .bool (tmOk js dl)]) h := by
  refine enter_run e_spec_TimelyAfter (by simp) ?_
  have r1 := l6Good_run J hl
  have Js := J
  obtain ⟨oj, cj, rfl⟩ := J.shapeT
  cases c1 : plOk js
  · simp -implicitDefEqProofs [CL_ret r1, c1, tmOk]
  cases c2 : inB dl 0 400
  · simp -implicitDefEqProofs [CL_ret r1, c1, tmOk, CL_ret l1In_run, c2]
  obtain ⟨hn, hg, _⟩ := plOk_of c1
  have hd : 0 ≤ dl ∧ dl ≤ 400 := by simpa [inB] using c2
  have H0 := own_nil (Holds.start (h := h)) Job encJ 4
  simp -implicitDefEqProofs [CL_ret r1, c1, tmOk, CL_ret l1In_run, c2]
  refine R_loopO (fun m s h' => ∃ (i : Nat) (u : Value), i + m = js.length ∧ s = [(0, .slice oj js.length cj), (1, .int .i64 dl), (6, u), (7, .int .i64 i)] ∧ Holds h h' [.own u 4 ((laterS (js.take i) dl).map encJ)]) (fun I hI m s h' => ?_) (n := js.length)
    ⟨0, _, Nat.zero_add _, by simp, H0⟩
  rintro ⟨i, u, hi, rfl, H⟩
  by_cases hlt : i < js.length
  · obtain ⟨y, hy, hd'⟩ := drop_at hlt
    have ly := load_J (Js.pre H.pre) hy
    have jb := job_of (job_at hg hy)
    have w1 : IntKind.i64.wrap (y.d + dl) = y.d + dl := by rw [wrap_ok] <;> omega
    obtain ⟨v2, h2, a2, H2, _⟩ := push_J0 H 0 rfl ⟨y.t, 0, 0, y.d + dl⟩ (by simp [laterS]; omega)
    simp -implicitDefEqProofs [-indexAddrP_some, hlt, ly, w1, a2, winc hlt hl]
    refine ⟨m - 1, by omega, on hI ⟨i + 1, v2, by omega, rfl, ?_⟩⟩
    have e3 : laterS (js.take i) dl ++ [⟨y.t, 0, 0, y.d + dl⟩] = laterS (js.take (i + 1)) dl := by
      rw [take_succ' hy]
      simp [laterS]
    rw [← e3]
    exact H2
  · have : i = js.length := by omega
    subst this
    rw [List.take_length] at H
    have ej : (laterS js dl).length = js.length := by simp [laterS]
    have JL : Jobs h' u (laterS js dl) := H.sees 0 rfl
    obtain ⟨o1, n1, d1, rfl⟩ : ∃ a n c, u = .slice a n c := by obtain ⟨a, c, e⟩ := JL.shape; exact ⟨_, _, _, e⟩
    have hn1 : n1 = js.length := by obtain ⟨a, c, e⟩ := JL.shapeT; cases e; rw [ej]
    subst hn1
    have bd : Bd (laterS js dl) := by
      have key : ∀ x, (0 ≤ (jA (laterS js dl) x).t ∧ (jA (laterS js dl) x).t ≤ 2 ^ 20) ∧ (-(2 ^ 20) ≤ (jA (laterS js dl) x).d ∧ (jA (laterS js dl) x).d ≤ 2 ^ 20) := by
        intro x
        rcases @jA_in (laterS js dl) x with g | g
        · unfold laterS at g
          obtain ⟨y, hy, e⟩ := List.mem_map.1 g
          have := job_of (List.all_eq_true.1 hg _ hy)
          unfold laterS
          rw [← e]; simp only; omega
        · rw [g]; simp
      exact ⟨fun x => (key x).1, fun x => (key x).2⟩
    simp -implicitDefEqProofs [hlt]
    refine CL_post (l6All_run JL (by omega)) fun v2 h2 ⟨hp2, ho2⟩ => ?_
    rw [ej] at ho2
    have r3 := l6Timely_run (JL.pre hp2) ho2.sees (by rw [ej]; exact upTo_in) (by rw [upTo_len]; omega) bd
    simp -implicitDefEqProofs [CL_ret r3]
    exact gcP (H.pre.trans hp2) rfl
end
/-! ### in plain terms -/
theorem later_at {js : List Job} {dl x : Int} (hx : 0 ≤ x ∧ x < js.length) : jA (laterS js dl) x = ⟨(jA js x).t, 0, 0, (jA js x).d + dl⟩ ∧ jA (laterI js dl) x = ⟨(jA js x).t, (jA js x).w, (jA js x).r, (jA js x).d + dl⟩ := by
  obtain ⟨k, hk, hkl, hy⟩ := jA_get (js := js) rfl hx
  subst hk
  constructor
  · unfold laterS
    conv => lhs; unfold jA
    rw [Int.toNat_natCast, List.getElem?_map, hy]; rfl
  · unfold laterI
    conv => lhs; unfold jA
    rw [Int.toNat_natCast, List.getElem?_map, hy]; rfl
/-- Timely after a delay along an order of jobs. -/
def timD (js : List Job) (dl : Int) : Int → List Int → Bool
  | _, [] => true
  | now, x :: r => decide (now + (jA js x).t ≤ (jA js x).d + dl) && timD js dl (now + (jA js x).t) r
theorem timS_eq {js : List Job} {dl : Int} : ∀ {xs : List Int} {now : Int}, inN js.length xs → timGo (laterS js dl) now xs = timD js dl now xs
  | [], _, _ => rfl
  | x :: r, now, h => by
    have e := (later_at (dl := dl) (h x (List.mem_cons_self ..))).1
    rw [timGo, timD, e]
    simp only
    rw [timS_eq fun y hy => h y (List.mem_cons_of_mem _ hy)]
theorem timI_eq {js : List Job} {dl : Int} : ∀ {xs : List Int} {now : Int}, inN js.length xs → timGo (laterI js dl) now xs = timD js dl now xs
  | [], _, _ => rfl
  | x :: r, now, h => by
    have e := (later_at (dl := dl) (h x (List.mem_cons_self ..))).2
    rw [timGo, timD, e]
    simp only
    rw [timI_eq fun y hy => h y (List.mem_cons_of_mem _ hy)]
theorem timD_lat {js : List Job} (p : Pl js) {dl : Int} : ∀ {xs : List Int} {now m : Int}, 0 ≤ now → m ≤ dl → (timD js dl now xs = true ↔ latGo js now m xs ≤ dl)
  | [], now, m, _, hm => by simp [timD, latGo, hm]
  | x :: r, now, m, h, hm => by
    have := p.t x
    rw [timD, latGo, p.endAt h, Bool.and_eq_true, decide_eq_true_eq]
    have mono : ∀ {xs : List Int} {now m : Int}, m ≤ latGo js now m xs := by
      intro xs
      induction xs with
      | nil => intro now m; exact Int.le_refl _
      | cons x xs ih =>
        intro now m
        rw [latGo]
        exact Int.le_trans (by omega) ih
    constructor
    · rintro ⟨h1, h2⟩
      exact (timD_lat p (by omega) (by omega)).1 h2
    · intro hl
      have h1 := @mono r (now + (jA js x).t) (max m (now + (jA js x).t - (jA js x).d))
      have h2 : now + (jA js x).t ≤ (jA js x).d + dl := by omega
      exact ⟨h2, (timD_lat p (by omega) (by omega)).2 hl⟩
/-- The value of an order for the greatest lateness. -/
theorem valX_lat {js : List Job} (hok : plOk js = true) {xs : List Int} (o : Ord js.length xs) (hne : 0 < js.length) : valX 4 js xs = latGo js 0 (-(2 ^ 20)) xs := by
  obtain ⟨hn, hg, _⟩ := plOk_of hok
  refine val_lat (ord_prm o) ⟨(0 : Nat), o.all hne, ?_⟩
  have e0 : gE (endsL js xs) ((0 : Nat) : Int).toNat ∈ endsL js xs := by
    have : (0 : Nat) < (endsL js xs).length := by rw [endsL_len]; exact hne
    have := gE_get this
    exact List.mem_of_getElem? this
  have := endGo_bd hg (k := 0) o.inn (Int.le_refl 0) (by omega) (fun e he => by rw [List.eq_of_mem_replicate he]; omega) _ e0
  have := (good_bd hg).d ((0 : Nat) : Int)
  omega
theorem due_best {js : List Job} (hok : plOk js = true) {xs : List Int} (o : Ord js.length xs) : valX 4 js (dueAll js) ≤ valX 4 js xs := by
  rcases Nat.eq_zero_or_pos js.length with h0 | h0
  · have e1 : dueAll js = [] := List.eq_nil_of_length_eq_zero (by rw [dueAll_ord.len, h0])
    have e2 : xs = [] := List.eq_nil_of_length_eq_zero (by rw [o.len, h0])
    rw [e1, e2]; exact Int.le_refl _
  · rw [valX_lat hok o h0, valX_lat hok dueAll_ord h0]
    exact lat_best (plOk_pl hok) dueL_d ((ord_perm o).trans (ord_perm dueAll_ord).symm)
theorem el_best {js : List Job} (hok : plOk js = true) : bestV 4 js = valX 4 js (dueAll js) := by
  obtain ⟨hn, hg, _⟩ := plOk_of hok
  obtain ⟨h1, h2, h3, h4⟩ := best_facts (f := valX 4 js) (n := js.length) hn
  have g1 := due_best hok h3
  have g2 := h4 _ (dueAll_ord (js := js))
  have e : bestV 4 js = (bestR (valX 4 js) js.length).v := rfl
  rw [e]
  omega
/-- Both tell the same of a delay, and what the greatest lateness tells. -/
theorem timely_eq {js : List Job} {dl : Int} (hok : tmOk js dl = true) : timGo (laterI js dl) 0 (sortB (dAh (laterI js dl)) (upTo js.length)) = decide (valX 4 js (dueAll js) ≤ dl) ∧ timGo (laterS js dl) 0 (dueF (laterS js dl) (upTo js.length)) = decide (valX 4 js (dueAll js) ≤ dl) := by
  rw [tmOk, Bool.and_eq_true] at hok
  have hp := plOk_pl hok.1
  have hd : 0 ≤ dl ∧ dl ≤ 400 := by simpa [inB] using hok.2
  have key : ∀ ys : List Int, ys.Perm (upTo js.length) → (ys.Pairwise fun a b => (jA js a).d ≤ (jA js b).d) → timD js dl 0 ys = decide (valX 4 js (dueAll js) ≤ dl) := fun ys hy hs => by
    have o : Ord js.length ys := ⟨by rw [hy.length_eq, upTo_len], fun x hx => mem_upTo.1 (hy.mem_iff.1 hx), hy.nodup_iff.2 (upTo_nodup _)⟩
    rcases Nat.eq_zero_or_pos js.length with h0 | h0
    · have e1 : dueAll js = [] := List.eq_nil_of_length_eq_zero (by rw [dueAll_ord.len, h0])
      have e2 : ys = [] := List.eq_nil_of_length_eq_zero (by rw [o.len, h0])
      have e3 : js = [] := List.eq_nil_of_length_eq_zero h0
      subst e3
      rw [e1, e2]
      simp [timD, valX, valE, valGo, endsL, endGo, hd.1]
    · have e := valX_lat hok.1 (dueAll_ord (js := js)) h0
      have l1 := lat_best hp (m := -(2 ^ 20)) hs (hy.trans (ord_perm dueAll_ord).symm).symm
      have l2 := lat_best hp (m := -(2 ^ 20)) (dueL_d (js := js) (xs := upTo js.length)) (hy.trans (ord_perm (dueAll_ord (js := js))).symm)
      have l2 : latGo js 0 (-(2 ^ 20)) (dueAll js) ≤ latGo js 0 (-(2 ^ 20)) ys := l2
      have t := timD_lat hp (dl := dl) (xs := ys) (m := -(2 ^ 20)) (Int.le_refl 0) (by omega)
      rw [Bool.eq_iff_iff, t, decide_eq_true_eq]
      omega
  constructor
  · have p : (sortB (dAh (laterI js dl)) (upTo js.length)).Perm (upTo js.length) := sortB_perm
    have hin : inN js.length (sortB (dAh (laterI js dl)) (upTo js.length)) := fun x hx => upTo_in x (p.mem_iff.1 hx)
    rw [timI_eq hin]
    refine key _ p ?_
    refine List.Pairwise.imp_of_mem (fun {a b} ha hb h => ?_) (dAhL_d (js := laterI js dl) (xs := upTo js.length))
    rw [(later_at (dl := dl) (hin a ha)).2, (later_at (dl := dl) (hin b hb)).2] at h
    simp only at h
    omega
  · rw [due_eq up_asc']
    have p : (dueL (laterS js dl) (upTo js.length)).Perm (upTo js.length) := sortB_perm
    have hin : inN js.length (dueL (laterS js dl) (upTo js.length)) := fun x hx => upTo_in x (p.mem_iff.1 hx)
    rw [timS_eq hin]
    refine key _ p ?_
    refine List.Pairwise.imp_of_mem (fun {a b} ha hb h => ?_) (dueL_d (js := laterS js dl) (xs := upTo js.length))
    rw [(later_at (dl := dl) (hin a ha)).1, (later_at (dl := dl) (hin b hb)).1] at h
    simp only at h
    omega
end Go.Pm.PP

/- FnLateness in the small machine. -/
set_option linter.unusedVariables false
set_option linter.unusedSimpArgs false
set_option maxRecDepth 4000
set_option maxHeartbeats 8000000
namespace Go.Pm.PP
open Go.Pm Go.Proofs Go.Pm.PE
section
variable {h0 h : Hp} {r n : Nat} {vc : Value} {L : List Asn}
theorem plainJobs_run (B : By h0 vc) (C : Cur h0 h r vc n L) (hn : n ≤ 2 ^ 19) {most : Nat} (hm : most ≤ 8) : RunsC P G n_spec_l1Cur_plainJobs [.pointer (some ⟨r, 0, some 3⟩), .int .i64 most] h fun v h' => ∃ js : List Job, js.length ≤ 9 ∧ Cur h0 h' r vc (n + 202) (L ++ [.own v 4 (js.map encJ)]) := by
  refine hideC fun K hK => enter_run e_spec_l1Cur_plainJobs (by simp) ?_
  simp -implicitDefEqProofs
  refine CL_post (one_run B C (by omega) (k := 16) (by omega)) fun v h1 ⟨b, ev, C1⟩ => ?_
  subst ev
  simp -implicitDefEqProofs
  refine CL_post (someJobs_run B C1 (by omega) (b := b) (most := most) hm) fun v h2 ⟨js, hl, C2⟩ => ?_
  obtain ⟨ua, uc, rfl⟩ : ∃ a c, v = .slice a js.length c := C2.seesJ.shapeT
  simp -implicitDefEqProofs
  exact onK hK ⟨js, hl, C.gcO (C2.mono (by omega)) (fun h => h)⟩
/-- A draw of jobs and a number ends. -/
theorem draw_JI {h h1 : Hp} {u v : Value} {x : Int} {js : List Job} (H : Holds h h1 [.own u 4 (js.map encJ)]) : h <+: gc h h1 (.tuple #[u, .int .i64 x]) ∧ Jobs (gc h h1 (.tuple #[u, .int .i64 x])) u js :=
  ⟨pre_gcU H.pre, Sees.gcU (H.sees 0 rfl) fun g => plainT (r := [_]) g⟩
theorem DrawTimelyAfter_run {h : Hp} {vc : Value} (B : By h vc) : RunsC P G n_spec_DrawTimelyAfter [vc] h fun v h' => h <+: h' ∧ ∃ (js : List Job) (x : Int) (u : Value), v = .tuple #[u, .int .i64 x] ∧ js.length ≤ 9 ∧ Jobs h' u js := by
  refine hideC fun K hK => enter_run e_spec_DrawTimelyAfter (by simp) ?_
  have C0 : Cur h (h ++ [some ⟨[vc, .int .i64 0, .int .u64 0], 0, false⟩]) h.length vc 0 [] := ⟨0, 0, by omega, by omega, (Holds.start (h := h)).alloc _⟩
  obtain ⟨bs, Sb, hb, hbl⟩ := B
  have Bs : By h vc := ⟨bs, Sb, hb, hbl⟩
  obtain ⟨ob, cb, rfl⟩ := Sb.shapeT
  simp -implicitDefEqProofs
  refine CL_post (plainJobs_run Bs C0 (by omega) (most := 6) (by omega)) fun u h1 ⟨js, hl, C1⟩ => ?_
  have fin : ∀ {h2 : Hp} {n : Nat} {x : Int}, Cur h h2 h.length (.slice ob bs.length cb) n ([] ++ [.own u 4 (js.map encJ)]) → K (.tuple #[u, .int .i64 x]) (gc h h2 (.tuple #[u, .int .i64 x])) := fun {h2 n x} C2 => by
    obtain ⟨a, s, _, _, H⟩ := C2
    have H2 : Holds h h2 [.own u 4 (js.map encJ)] := H.tail
    have := draw_JI (v := u) (x := x) H2
    exact onK hK ⟨this.1, js, x, u, rfl, hl, this.2⟩
  obtain ⟨ua, uc, rfl⟩ : ∃ a c, u = .slice a js.length c := C1.seesJ.shapeT
  simp -implicitDefEqProofs
  refine CL_post (among_run Bs (C1.lit [0, 1, 3, 9, 400, 401, -1]) (by omega) snoc_get (by simp) (by simp)) fun v h2 ⟨q, ev, _, C2'⟩ => ?_
  subst ev
  have C2 := C2'.weak
  have rg := l6Good_run (C2.seesJ) (by omega)
  cases c1 : plOk js
  · rw [c1] at rg
    simp -implicitDefEqProofs [CL_ret rg]
    exact fin C2
  · rw [c1] at rg
    simp -implicitDefEqProofs [CL_ret rg]
    refine CL_post (one_run Bs C2 (by omega) (k := 2) (by omega)) fun v h3 ⟨b, ev, C3⟩ => ?_
    subst ev
    cases b
    · simp -implicitDefEqProofs
      exact fin C3
    · have rl := l6Latest_run C3.seesJ c1
      simp -implicitDefEqProofs [CL_ret rl]
      refine CL_post (pick_run Bs C3 (by omega) (k := 2) (by omega)) fun v h4 ⟨x, ev, _, _, _, C4⟩ => ?_
      subst ev
      simp -implicitDefEqProofs
      refine CL_post (pick_run Bs C4 (by omega) (k := 2) (by omega)) fun v h5 ⟨y, ev, _, _, _, C5⟩ => ?_
      subst ev
      simp -implicitDefEqProofs
      exact fin C5
end
theorem law_Lateness {h : Hp} {vc : Value} {bs : List Int} (Sb : Sees h vc 1 (bs.map encU)) (hb : ∀ b, b ∈ bs → 0 ≤ b ∧ b ≤ 255) : Ret P G n_laws_FnLateness [vc] h (.bool true) h := by
  refine enter_run e_laws_FnLateness (by simp) ?_
  have r0 := rBig_run Sb
  by_cases c0 : (65536 : Int) < bs.length
  · simp -implicitDefEqProofs [CL_ret r0, c0]
  have B : By h vc := ⟨bs, Sb, hb, by omega⟩
  obtain ⟨ob, cb, rfl⟩ := Sb.shapeT
  simp -implicitDefEqProofs [CL_ret r0, c0]
  refine CL_post (DrawTimelyAfter_run B) fun v h1 ⟨hp1, js, dl, u, ev, hjl, J⟩ => ?_
  subst ev
  have l1 : js.length ≤ 2 ^ 40 := by omega
  have r1 := implTimelyAfter_run (dl := dl) J l1
  have r2 := specTimelyAfter_run (dl := dl) J l1
  have r3 := implEarliestLatest_run J l1
  have r4 := specEarliestLatest_run J l1
  have Js := J
  obtain ⟨ja, jc, rfl⟩ := J.shapeT
  cases c1 : plOk js
  · have c2 : tmOk js dl = false := by rw [tmOk, c1]; rfl
    rw [c2] at r1 r2
    rw [c1] at r3 r4
    simp only [Bool.false_eq_true, if_false] at r1 r2
    simp -implicitDefEqProofs [CL_ret r1, CL_ret r2, CL_ret r3, CL_ret r4]
    exact gcP hp1 rfl
  obtain ⟨hn, hg, _⟩ := plOk_of c1
  have eb := el_best c1
  have okb : okB js 4 = true := by
    have h1 : jOk js = true := by rw [plOk, Bool.and_eq_true] at c1; exact c1.1
    rw [okB, h1]; rfl
  have okv : okV js (dueAll js) 4 = true := by
    have h1 : jOk js = true := by rw [plOk, Bool.and_eq_true] at c1; exact c1.1
    rw [okV, h1, ord_ok hn dueAll_ord]; rfl
  have ee : elV js = valX 4 js (dueAll js) := by rw [elV, if_pos c1]
  have ev : vOf js (dueAll js) 4 = valX 4 js (dueAll js) := by rw [vOf, if_pos okv]
  rw [c1, ee] at r3 r4
  have rb := rBest_run (o := 4) Js l1
  rw [bR_v okb, eb] at rb
  cases c2 : tmOk js dl
  · rw [c2] at r1 r2
    simp only [Bool.false_eq_true, if_false] at r1 r2
    simp -implicitDefEqProofs [CL_ret r1, CL_ret r2, CL_ret r3, CL_ret r4, CL_ret rb]
    refine CL_post (implDueOrder_run Js l1) fun v h2 ⟨p2, d, ed, D⟩ => ?_
    subst ed
    have rv := implValueOf_run (o := 4) (Js.pre p2) (D c1) l1 (by rw [dueAll_ord.len]; exact l1)
    rw [ev, okv] at rv
    simp -implicitDefEqProofs [CL_ret rv, c1]
    exact gcP (hp1.trans p2) rfl
  · have te := timely_eq c2
    rw [c2, if_pos rfl, te.1] at r1
    rw [c2, if_pos rfl, te.2] at r2
    simp -implicitDefEqProofs [CL_ret r1, CL_ret r2, CL_ret r3, CL_ret r4, CL_ret rb]
    refine CL_post (implDueOrder_run Js l1) fun v h2 ⟨p2, d, ed, D⟩ => ?_
    subst ed
    have rv := implValueOf_run (o := 4) (Js.pre p2) (D c1) l1 (by rw [dueAll_ord.len]; exact l1)
    rw [ev, okv] at rv
    simp -implicitDefEqProofs [CL_ret rv, c1]
    exact gcP (hp1.trans p2) rfl
end Go.Pm.PP

/- Best orders: exchanging downwards. -/
set_option linter.unusedVariables false
set_option linter.unusedSimpArgs false
set_option maxRecDepth 4000
set_option maxHeartbeats 8000000
namespace Go.Pm.PP
open Go.Pm Go.Proofs Go.Pm.PE
/-- As many exchanges as there can be. -/
def FD : Nat := 2147483649
def dnR (js : List Job) (xs : List Int) (o : Int) : List Int × Nat := if okV js xs o = true then down (valX o js) FD xs else ([], 0)
section
variable {h : Hp} {v u : Value} {js : List Job} {xs : List Int} {o : Int}
theorem implNextExchange_run (hj : Jobs h v js) (hu : Ints h u xs) (hl : js.length ≤ 2 ^ 40) (hx : xs.length ≤ 2 ^ 40) (hok : okV js xs o = true) : Ret P G n_impl_NextExchange [v, u, .int .i64 o] h (.tuple #[.int .i64 ((nxt (valX o js) xs).getD 0 : Nat), .bool (nxt (valX o js) xs).isSome]) h := by
  refine enter_run e_impl_NextExchange (by simp) ?_
  have r1 := isValued_run (o := o) hj hu hl hx
  have hjs := hj
  have hus := hu
  obtain ⟨oj, cj, rfl⟩ := hj.shapeT
  obtain ⟨oa, ca, rfl⟩ := hu.shapeT
  obtain ⟨hn, hg, ox, ho⟩ := okV_of hok
  have r2 := nextExchange_run (o := o) hjs hus hg hn ho ox
  cases e : nxt (valX o js) xs with
  | none =>
    rw [e] at r2
    simp -implicitDefEqProofs [CL_ret r1, hok, CL_ret r2, nxV]
  | some i =>
    rw [e] at r2
    have hi : ¬ (i : Int) < 0 := by omega
    simp -implicitDefEqProofs [CL_ret r1, hok, CL_ret r2, nxV, hi]
theorem down_none {f : List Int → Int} {m : Nat} {xs : List Int} (e : nxt f xs = none) : down f m xs = (xs, 0) := by
  cases m with
  | zero => rfl
  | succ m => rw [down, e]
theorem down_some {f : List Int → Int} {m i : Nat} {xs : List Int} (e : nxt f xs = some i) : down f (m + 1) xs = ((down f m (swp xs i)).1, (down f m (swp xs i)).2 + 1) := by
  rw [down, e]
theorem implExchangeDown_run (hj : Jobs h v js) (hu : Ints h u xs) (hl : js.length ≤ 2 ^ 40) (hx : xs.length ≤ 2 ^ 40) : RunsC P G n_impl_ExchangeDown [v, u, .int .i64 o] h fun w h' => h <+: h' ∧ ∃ d, w = .tuple #[d, .int .i64 (dnR js xs o).2, .bool (okV js xs o)] ∧ Ints h' d (dnR js xs o).1 := by
  refine hideC fun K hK => enter_run e_impl_ExchangeDown (by simp) ?_
  have r1 := isValued_run (o := o) hj hu hl hx
  have hjs := hj
  have hus := hu
  obtain ⟨oj, cj, rfl⟩ := hj.shapeT
  obtain ⟨oa, ca, rfl⟩ := hu.shapeT
  cases c1 : okV js xs o
  · rw [dnR, c1, if_neg (by simp)] at hK
    simp -implicitDefEqProofs [CL_ret r1, c1]
    exact onK hK ⟨List.prefix_rfl, _, rfl, ⟨by simp, none, 0, rfl, .inl ⟨rfl, rfl, rfl⟩⟩⟩
  · rw [dnR, c1, if_pos rfl] at hK
    obtain ⟨hn, hg, ox, ho⟩ := okV_of c1
    have b1 := valX_bd (o := o) hg hn ox
    have hFD : FD = 2147483649 := rfl
    generalize hD : down (valX o js) FD xs = D at hK
    simp -implicitDefEqProofs [CL_ret r1, c1]
    refine CL_post (copyInts_run hus (by omega)) fun w h1 ⟨hp1, ho1⟩ => ?_
    have H1 := (Holds.start (h := h)).call hp1 ho1
    have r2 := nextExchange_run (o := o) (hjs.pre H1.pre) ho1.sees hg hn ho ox
    simp -implicitDefEqProofs [CL_ret r2]
    refine R_loopO (fun m s h' => ∃ (ys : List Int) (k : Nat) (d : Value), s = [(0, .slice oj js.length cj), (2, .int .i64 o), (9, d), (10, .int .i64 k), (11, .int .i64 (nxV (nxt (valX o js) ys)))] ∧ Ord js.length ys ∧ valX o js ys + 2 ^ 30 < m ∧ k + m ≤ FD ∧ D.1 = (down (valX o js) m ys).1 ∧ D.2 = k + (down (valX o js) m ys).2 ∧ Holds h h' [.own d 1 (ys.map encI)]) (fun I hI m s h' => ?_) (n := FD)
      ⟨xs, 0, w, by simp, ox, by omega, by omega, by rw [← hD], by rw [← hD]; omega, H1⟩
    rintro ⟨ys, k, d, rfl, oy, hm, hk, e1, e2, H⟩
    have by1 := valX_bd (o := o) hg hn oy
    have ly := oy.len
    cases e : nxt (valX o js) ys with
    | none =>
      rw [down_none e] at e1 e2
      simp only [Nat.add_zero] at e1 e2
      rw [e1, e2] at hK
      have sy : Ints h' d ys := H.sees 0 rfl
      obtain ⟨od, cd, rfl⟩ := sy.shapeT
      simp -implicitDefEqProofs [nxV]
      exact onK hK ⟨pre_gcU H.pre, _, rfl, Sees.gcU sy fun g => plainT (r := [_, _]) g⟩
    | some i =>
      obtain ⟨m', rfl⟩ : ∃ m', m = m' + 1 := ⟨m - 1, by omega⟩
      rw [down_some e] at e1 e2
      obtain ⟨g1, g2⟩ := nxt_some e
      unfold gn at g2
      have hi : (0 : Int) ≤ i := by omega
      have os := swp_ord oy g1
      have wk : IntKind.i64.wrap ((k : Int) + 1) = ((k + 1 : Nat) : Int) := by rw [wrap_ok] <;> omega
      simp -implicitDefEqProofs [nxV, hi]
      refine CL_post (exchanged_run (H.sees 0 rfl) (by omega) g1) fun w2 h2 ⟨hp2, ho2⟩ => ?_
      have H2 := (H.call hp2 ho2).tail
      have r3 := nextExchange_run (o := o) (hjs.pre H2.pre) ho2.sees hg hn ho os
      simp -implicitDefEqProofs [wk, CL_ret r3]
      exact ⟨m', by omega, on hI ⟨swp ys i, k + 1, w2, by simp, os, by omega, by omega, e1, by simp only at e2; omega, H2⟩⟩
theorem specExchangeDown_run (hj : Jobs h v js) (hu : Ints h u xs) (hl : js.length ≤ 2 ^ 40) (hx : xs.length ≤ 2 ^ 40) : RunsC P G n_spec_ExchangeDown [v, u, .int .i64 o] h fun w h' => h <+: h' ∧ ∃ d, w = .tuple #[d, .int .i64 (dnR js xs o).2, .bool (okV js xs o)] ∧ Ints h' d (dnR js xs o).1 := by
  refine hideC fun K hK => enter_run e_spec_ExchangeDown (by simp) ?_
  have r1 := l2Two_run hj hu hl hx
  have hjs := hj
  have hus := hu
  obtain ⟨oj, cj, rfl⟩ := hj.shapeT
  obtain ⟨oa, ca, rfl⟩ := hu.shapeT
  have bad : okV js xs o = false → K (.tuple #[.slice none 0 0, .int .i64 0, .bool false]) h := fun e => by
    rw [dnR, e, if_neg (by simp)] at hK
    exact onK hK ⟨List.prefix_rfl, _, rfl, ⟨by simp, none, 0, rfl, .inl ⟨rfl, rfl, rfl⟩⟩⟩
  cases c0 : (jOk js && l2OrderL js.length xs)
  · rw [c0] at r1
    simp -implicitDefEqProofs [CL_ret r1, CH_at r1]
    exact bad (by rw [okV, c0]; rfl)
  rw [c0] at r1
  cases c9 : inB o 1 8
  · simp -implicitDefEqProofs [CL_ret r1, CH_at r1, CL_ret l2Objective_run, CH_at l2Objective_run, c9]
    exact bad (by rw [okV, c9, Bool.and_false])
  · have c1 : okV js xs o = true := by rw [okV, c0, c9]; rfl
    rw [dnR, c1, if_pos rfl] at hK
    obtain ⟨hn, hg, ox, ho⟩ := okV_of c1
    have b1 := valX_bd (o := o) hg hn ox
    have hFD : FD = 2147483649 := rfl
    generalize hD : down (valX o js) FD xs = D at hK
    simp -implicitDefEqProofs [CL_ret r1, CH_at r1, CL_ret l2Objective_run, CH_at l2Objective_run, c9]
    refine CL_post (l1Own_run hus (by omega)) fun w h1 ⟨hp1, ho1⟩ => ?_
    have H1 := (Holds.start (h := h)).call hp1 ho1
    have r2 := l2Next_run (o := o) (hjs.pre H1.pre) ho1.sees hg hn ho ox
    simp -implicitDefEqProofs [CL_ret r2]
    refine R_loopO (fun m s h' => ∃ (ys : List Int) (k : Nat) (d : Value), s = [(0, .slice oj js.length cj), (2, .int .i64 o), (9, d), (10, .int .i64 k), (11, .int .i64 (nxV (nxt (valX o js) ys)))] ∧ Ord js.length ys ∧ valX o js ys + 2 ^ 30 < m ∧ k + m ≤ FD ∧ D.1 = (down (valX o js) m ys).1 ∧ D.2 = k + (down (valX o js) m ys).2 ∧ Holds h h' [.own d 1 (ys.map encI)]) (fun I hI m s h' => ?_) (n := FD)
      ⟨xs, 0, w, by simp, ox, by omega, by omega, by rw [← hD], by rw [← hD]; omega, H1⟩
    rintro ⟨ys, k, d, rfl, oy, hm, hk, e1, e2, H⟩
    have by1 := valX_bd (o := o) hg hn oy
    have ly := oy.len
    cases e : nxt (valX o js) ys with
    | none =>
      rw [down_none e] at e1 e2
      simp only [Nat.add_zero] at e1 e2
      rw [e1, e2] at hK
      have sy : Ints h' d ys := H.sees 0 rfl
      obtain ⟨od, cd, rfl⟩ := sy.shapeT
      simp -implicitDefEqProofs [nxV]
      exact onK hK ⟨pre_gcU H.pre, _, rfl, Sees.gcU sy fun g => plainT (r := [_, _]) g⟩
    | some i =>
      obtain ⟨m', rfl⟩ : ∃ m', m = m' + 1 := ⟨m - 1, by omega⟩
      rw [down_some e] at e1 e2
      obtain ⟨g1, g2⟩ := nxt_some e
      unfold gn at g2
      have hi : (0 : Int) ≤ i := by omega
      have os := swp_ord oy g1
      have wk : IntKind.i64.wrap ((k : Int) + 1) = ((k + 1 : Nat) : Int) := by rw [wrap_ok] <;> omega
      simp -implicitDefEqProofs [nxV, hi]
      refine CL_post (l2Swap_run (H.sees 0 rfl) (by omega) g1) fun w2 h2 ⟨hp2, ho2⟩ => ?_
      have H2 := (H.call hp2 ho2).tail
      have r3 := l2Next_run (o := o) (hjs.pre H2.pre) ho2.sees hg hn ho os
      simp -implicitDefEqProofs [wk, CL_ret r3]
      exact ⟨m', by omega, on hI ⟨swp ys i, k + 1, w2, by simp, os, by omega, by omega, e1, by simp only at e2; omega, H2⟩⟩
end
end Go.Pm.PP

/- FnBestOrders in the small machine. -/
set_option linter.unusedVariables false
set_option linter.unusedSimpArgs false
set_option maxRecDepth 4000
set_option maxHeartbeats 8000000
namespace Go.Pm.PP
open Go.Pm Go.Proofs Go.Pm.PE
theorem law_BestOrders {h : Hp} {vc : Value} {bs : List Int} (Sb : Sees h vc 1 (bs.map encU)) (hb : ∀ b, b ∈ bs → 0 ≤ b ∧ b ≤ 255) : Ret P G n_laws_FnBestOrders [vc] h (.bool true) h := by
  refine enter_run e_laws_FnBestOrders (by simp) ?_
  have r0 := rBig_run Sb
  by_cases c0 : (65536 : Int) < bs.length
  · simp -implicitDefEqProofs [CL_ret r0, c0]
  have B : By h vc := ⟨bs, Sb, hb, by omega⟩
  obtain ⟨ob, cb, rfl⟩ := Sb.shapeT
  simp -implicitDefEqProofs [CL_ret r0, c0]
  refine CL_post (DrawExchangeDown_run B) fun v h1 ⟨js, xs, o, u, w, ev, hjl, hxl, H⟩ => ?_
  subst ev
  have J : Jobs h1 u js := H.sees 0 rfl
  have X : Ints h1 w xs := H.sees 1 rfl
  have l1 : js.length ≤ 2 ^ 40 := by omega
  have l2 : xs.length ≤ 2 ^ 40 := by omega
  have Js := J
  have Xs := X
  obtain ⟨ja, jc, rfl⟩ := J.shapeT
  obtain ⟨xa, xc, rfl⟩ := X.shapeT
  have rv1 := fun {h2 : Hp} (hp : h1 <+: h2) => implValueOf_run (o := o) (Js.pre hp) (Xs.pre hp) l1 l2
  have rv2 := fun {h2 : Hp} (hp : h1 <+: h2) => specValueOf_run (o := o) (Js.pre hp) (Xs.pre hp) l1 l2
  have pp : h1 <+: h1 := List.prefix_rfl
  simp -implicitDefEqProofs [CL_ret (rv1 pp), CL_ret (rv2 pp)]
  refine CL_post (implBestOrder_run (o := o) Js l1) fun v h2 ⟨p2, b1, ev, B1⟩ => ?_
  subst ev
  simp -implicitDefEqProofs
  refine CL_post (specBestOrder_run (o := o) (Js.pre p2) l1) fun v h3 ⟨p3, b2, ev, B2⟩ => ?_
  subst ev
  have p13 := p2.trans p3
  have hbo : (bR js o).o.length ≤ 2 ^ 40 := by
    unfold bR
    split
    · rename_i g
      have := (best_facts (f := valX o js) (okB_of g).1).2.2.1.len
      have := (okB_of g).1
      omega
    · simp [sr0]
  have q1 := rInts_run (B1.pre p3) B2 hbo
  have r4 := rBest_run (o := o) (Js.pre p13) l1
  have r5 := implCountBest_run (o := o) (Js.pre p13) l1
  have r6 := specCountBest_run (o := o) (Js.pre p13) l1
  simp -implicitDefEqProofs [CL_ret q1, CL_ret r4, CL_ret r5, CL_ret r6]
  refine CL_post (implExchangeDown_run (o := o) (Js.pre p13) (Xs.pre p13) l1 l2) fun v h4 ⟨p4, d1, ev, D1⟩ => ?_
  subst ev
  have p14 := p13.trans p4
  simp -implicitDefEqProofs
  refine CL_post (specExchangeDown_run (o := o) (Js.pre p14) (Xs.pre p14) l1 l2) fun v h5 ⟨p5, d2, ev, D2⟩ => ?_
  subst ev
  have p15 := p14.trans p5
  have hp5 : h <+: h5 := H.pre.trans p15
  cases c1 : okV js xs o
  · have hd : (dnR js xs o).1.length ≤ 2 ^ 40 := by rw [dnR, c1]; simp
    have q2 := rInts_run (D1.pre p5) D2 hd
    cases c2 : okB js o
    · simp -implicitDefEqProofs [CL_ret q2, c1, c2]
      exact gcP hp5 rfl
    · simp -implicitDefEqProofs [CL_ret q2, c1, c2]
      exact gcP hp5 rfl
  · obtain ⟨hn, hg, ox, ho⟩ := okV_of c1
    have c2 := okV_B c1
    obtain ⟨f1, f2, f3, f4⟩ := best_facts (f := valX o js) hn
    have hFD : FD = 2147483649 := rfl
    have b1' := valX_bd (o := o) hg hn ox
    obtain ⟨d1', d2', d3', d4', d5'⟩ := down_facts (f := valX o js) (n := js.length) (B := 2 ^ 30) (fun ys hy => (valX_bd hg hn hy).1) (m := FD) ox (by omega)
    have eD : dnR js xs o = down (valX o js) FD xs := by rw [dnR, if_pos c1]
    have eB : bR js o = bestR (valX o js) js.length := by rw [bR, if_pos c2]
    rw [eD] at D1 D2 ⊢
    rw [eB] at B1 B2 ⊢
    have e1 : vOf js xs o = valX o js xs := by rw [vOf, if_pos c1]
    have k1 := okV_ord c1 f3
    have k2 := okV_ord c1 d1'
    have e2 : vOf js (bestR (valX o js) js.length).o o = (bestR (valX o js) js.length).v := by rw [vOf, if_pos k1, f2]
    have e3 : vOf js (down (valX o js) FD xs).1 o = valX o js (down (valX o js) FD xs).1 := by rw [vOf, if_pos k2]
    have g4 := f4 xs ox
    have hl1 : (bestR (valX o js) js.length).o.length ≤ 2 ^ 40 := by rw [f3.len]; omega
    have hl2 : (down (valX o js) FD xs).1.length ≤ 2 ^ 40 := by rw [d1'.len]; omega
    have q2 := rInts_run (D1.pre p5) D2 hl2
    have s1 := implValueOf_run (o := o) (Js.pre p15) (B1.pre (p3.trans (p4.trans p5))) l1 hl1
    have s2 := IsBestOrder_run (o := o) (Js.pre p15) (Xs.pre p15) l1 l2 c1
    have s3 := implValueOf_run (o := o) (Js.pre p15) (D1.pre p5) l1 hl2
    have s4 := implNextExchange_run (o := o) (Js.pre p15) (D1.pre p5) l1 hl2 k2
    have s5 := implNextExchange_run (o := o) (Js.pre p15) (Xs.pre p15) l1 l2 c1
    rw [k1, e2] at s1
    rw [k2, e3] at s3
    rw [d3'] at s4
    have eb : bestV o js = (bestR (valX o js) js.length).v := rfl
    rw [eb] at s2
    generalize (bestR (valX o js) js.length).v = bv at *
    generalize (bestR (valX o js) js.length).c = bc at *
    generalize (down (valX o js) FD xs).2 = steps at *
    generalize (down (valX o js) FD xs).1 = dn at *
    generalize (bestR (valX o js) js.length).o = bo at *
    rw [e1]
    generalize valX o js xs = V at *
    generalize valX o js dn = W at *
    have k3 : ¬ V < bv := by omega
    have k4 : ¬ V < W := by omega
    have k5 : ¬ bc < 1 := by omega
    cases e : nxt (valX o js) xs with
    | none =>
      rw [e] at s5
      have hs : steps = 0 := d4'.2 e
      subst hs
      simp -implicitDefEqProofs [CL_ret q2, c1, c2, CL_ret s1, CL_ret s2, CL_ret s3, CL_ret s4, CL_ret s5, k3, k4, k5]
      exact gcP hp5 rfl
    | some i =>
      rw [e] at s5
      have hs : 0 < steps := by
        rcases Nat.eq_zero_or_pos steps with g | g
        · have := d4'.1 g; rw [e] at this; cases this
        · exact g
      have hs' : (0 : Int) < steps := by omega
      simp -implicitDefEqProofs [CL_ret q2, c1, c2, CL_ret s1, CL_ret s2, CL_ret s3, CL_ret s4, CL_ret s5, k3, k4, k5, hs, hs']
      exact gcP hp5 rfl
end Go.Pm.PP

/- A code of bytes as an argument, opened as a row. -/
set_option linter.unusedVariables false
set_option linter.unusedSimpArgs false
set_option maxRecDepth 4000
namespace Go.Pm
open Go.ChangeShapes Go.WideShapes
section
variable {P : Program} {H : Type} {enc : TypeId × Value → H} {w : World} {base : Nat} {held : Bool}
theorem flat_encU (xs : List Int) : (xs.map PP.encU).flatten = xs.map fun x => .int .u8 x := by
  induction xs with
  | nil => rfl
  | cons x xs ih => rw [List.map_cons, List.flatten_cons, ih]; rfl
/-- A slice of bytes. -/
theorem shows_bytes {t e : TypeId} {fuel : Nat} {v : Value} {x : DataW H × List MemPlace} (ht : P.underlying t = some (.slice e)) (he : P.underlying e = some (.int .u8)) (hc : P.cellsOf e = 1)
    (hd : DataW.trod enc P w base (fun _ => true) held fuel t [v] = some x) : ∃ xs : List Int, xs.length ≤ maxLen ∧ (∀ b, b ∈ xs → (Lit.int .u8 b).wf = true) ∧ ∀ (ρ : Mp) (h : Hp), Shows ρ h w 1 (xs.map PP.encU) v := by
  rcases open_ints ht he hc hd with ⟨h1, _⟩ | ⟨a, len, cap, zs, h1, _, hl, hm, hz, _, hcell, hwf⟩
  · cases h1
    exact ⟨[], by simp, by simp, fun ρ h => .inl ⟨rfl, rfl⟩⟩
  · cases h1
    simp only [if_true] at hz
    have hlen : (zs.take len).length = len := by rw [List.length_take]; omega
    refine ⟨zs.take len, by omega, fun b hb => hwf b (List.mem_of_mem_take hb), fun ρ h => .inr ⟨a, cap, by rw [List.length_map, hlen], by rw [List.length_map, hlen]; exact hl, ?_, fun k c hk => ?_⟩⟩
    · rcases Nat.eq_zero_or_pos cap with h0 | h0
      · exact .inl h0
      · right
        have := hcell 0 (by omega)
        unfold World.cell? at this
        simp only [Addr.add, if_true] at this
        cases hs : a.spot with
        | none => rfl
        | some s =>
          rw [hs] at this
          split at this <;> simp at this
    · rw [flat_encU, List.getElem?_map] at hk
      obtain ⟨z, hz2, rfl⟩ := Option.map_eq_some_iff.1 hk
      have hk1 := (List.getElem?_eq_some_iff.1 hz2).1
      rw [List.getElem?_take, if_pos (by omega)] at hz2
      refine ⟨_, hcell k (by omega), ?_⟩
      rw [List.getD_eq_getElem?_getD, hz2]
      exact .int _ _
end
end Go.Pm
namespace Go.Pm.PP
open Go.Pm Go.Proofs
theorem follows : P.follows .mixedOrders = true := by kernel_rfl
theorem cells_u8 : P.cellsOf t_u8 = 1 := by kernel_rfl
theorem byte_of {b : Int} (h : (Lit.int .u8 b).wf = true) : 0 ≤ b ∧ b ≤ 255 := by
  simp [Lit.wf, IntKind.min, IntKind.max, IntKind.signed, IntKind.bits] at h
  omega
section
variable {H : Type} {enc : TypeId × Value → H} {W : World} {ρ : Mp} {h : Hp} {v : Value} {n0 : Nat} {x0 : DataW H × List MemPlace}
theorem open_bytes (R : Rel ρ h W) (ha : AllRo h) (d0 : DataW.trod enc P W 0 (fun _ => true) true n0 t_S_u8 [v] = some x0) :
    ∃ (h2 : Hp) (ρ2 : Mp) (p : Value) (xs : List Int), h <+: h2 ∧ Rel ρ2 h2 W ∧ AllRo h2 ∧ Step ρ h ρ2 h2 ∧ VR ρ2 h2 p v ∧ Sees h2 p 1 (xs.map encU) ∧ ∀ b, b ∈ xs → 0 ≤ b ∧ b ≤ 255 := by
  obtain ⟨xs, l0, hw, s0⟩ := shows_bytes (P := P) (v := v) u_S_u8 u_u8 cells_u8 d0
  obtain ⟨h2, ρ2, p, q, R2, a2, t, r, N⟩ := add_slice (w := W) (len_U xs) R ha (s0 ρ h)
  exact ⟨h2, ρ2, p, xs, q, R2, a2, t, r, N, fun b hb => byte_of (hw b hb)⟩
end
end Go.Pm.PP

/- Tables of the least values of sets, by both. -/
set_option linter.unusedVariables false
set_option linter.unusedSimpArgs false
set_option maxRecDepth 4000
set_option maxHeartbeats 8000000
namespace Go.Pm.PP
open Go.Pm Go.Proofs Go.Pm.PE
/-! ### digits in the machine -/
theorem pow_le60 {i : Nat} (h : i ≤ 60) : 0 < 2 ^ i ∧ 2 ^ i ≤ 2 ^ 60 := ⟨Nat.two_pow_pos i, Nat.pow_le_pow_right (by omega) h⟩
/-- A digit is taken away, as the machine has it. -/
theorem clr_val {k i b z : Nat} (hk : k < 2 ^ 60) (hb : b = 2 ^ i) (ht : k.testBit i = true) (hz : z = k - 2 ^ i) : IntKind.i64.wrap ↑(((k : Int) % 2 ^ IntKind.i64.bits).toNat &&& 2 ^ IntKind.i64.bits - 1 - ((b : Int) % 2 ^ IntKind.i64.bits).toNat) = (z : Int) := by
  have hbits : IntKind.i64.bits = 64 := rfl
  have hle := bit_le ht
  have e1 : ∀ n : Nat, n < 2 ^ 60 → ((n : Int) % 2 ^ IntKind.i64.bits).toNat = n := fun n hn => by
    have h5 : (n : Int) < 2 ^ 64 := by omega
    rw [hbits, Int.emod_eq_of_lt (Int.natCast_nonneg _) h5, Int.toNat_natCast]
  rw [e1 k hk, e1 b (by omega), hbits]
  have e2 : k &&& 2 ^ 64 - 1 - b = z := by
    refine Nat.eq_of_testBit_eq fun j => ?_
    rw [hz, bit_sub ht, Nat.testBit_and, show 2 ^ 64 - 1 - b = 2 ^ 64 - (b + 1) by omega, Nat.testBit_two_pow_sub_succ (by omega), hb, Nat.testBit_two_pow]
    cases hj : k.testBit j with
    | false => rfl
    | true =>
      have := bit_lt hk hj
      rw [Bool.true_and, Bool.true_and, show decide (j < 64) = true by simp; omega, Bool.true_and]
      congr 1
      simp only [decide_eq_decide]
      exact eq_comm
  rw [e2, wrap_ok (by omega) (by omega)]
theorem listOf_run {h : Hp} {n c : Nat} (hn : n ≤ 50) (hc : c < 2 ^ n) : RunsC P G n_impl_listOf [.int .i64 c] h fun v h' => h <+: h' ∧ Own h.length h' v 1 ((bitsL n c).map encI) := by
  refine hideC fun K hK => enter_run e_impl_listOf (by simp) ?_
  have H0 := own_nil (Holds.start (h := h)) Int encI 1
  have hc60 : c < 2 ^ 60 := by have : 2 ^ n ≤ 2 ^ 50 := Nat.pow_le_pow_right (by omega) hn; omega
  simp -implicitDefEqProofs
  refine R_loopO (fun m s h' => ∃ (i : Nat) (u : Value), i + m = n ∧ s = [(0, .int .i64 c), (3, u), (4, .int .i64 i)] ∧ Holds h h' [.own u 1 ((bitsL i c).map encI)]) (fun I hI m s h' => ?_) (n := n) ⟨0, _, Nat.zero_add _, by simp; rfl, by simpa [bitsL] using H0⟩
  rintro ⟨i, u, hi, rfl, H⟩
  by_cases hlt : 0 < c / 2 ^ i
  · have hin : i < n := by
      have h1 : 2 ^ i ≤ c := (Nat.div_pos_iff.1 hlt).2
      exact (Nat.pow_lt_pow_iff_right (by omega : 1 < 2)).1 (Nat.lt_of_le_of_lt h1 hc)
    have hlt' : (0 : Int) < (c : Int) / 2 ^ i := by
      have : ((c : Int) / 2 ^ i) = ((c / 2 ^ i : Nat) : Int) := by simp
      omega
    have bl := @bits_len i c
    have bs := @bits_snoc i c
    have bv := bit_val (i := i) hc60
    cases ct : c.testBit i
    · rw [ct, if_neg (by simp)] at bs bv
      rw [List.append_nil] at bs
      simp -implicitDefEqProofs [hlt', shr_eq hc60, bv, winc hin (by omega)]
      exact ⟨m - 1, by omega, on hI ⟨i + 1, _, by omega, rfl, by rw [bs]; exact H⟩⟩
    · rw [ct, if_pos rfl] at bs bv
      obtain ⟨v', h2, ha, H2, _⟩ := push_I0 H 0 rfl (i : Int) (by omega)
      simp -implicitDefEqProofs [hlt', shr_eq hc60, bv, ha, winc hin (by omega)]
      exact ⟨m - 1, by omega, on hI ⟨i + 1, _, by omega, rfl, by rw [bs]; exact H2⟩⟩
  · have h1 : c < 2 ^ i := by
      rcases Nat.lt_or_ge c (2 ^ i) with g | g
      · exact g
      · exact absurd (Nat.div_pos g (Nat.two_pow_pos i)) hlt
    rw [bits_any h1 hc] at H
    have hlt' : ¬ (0 : Int) < (c : Int) / 2 ^ i := by
      have : ((c : Int) / 2 ^ i) = ((c / 2 ^ i : Nat) : Int) := by simp
      omega
    simp -implicitDefEqProofs [hlt', shr_eq hc60]
    exact onK hK (H.ret 0 rfl)
section
variable {h : Hp} {vj v : Value} {js : List Job} {xs : List Int}
/-- A sum of times, bit by bit. -/
def timeGo (js : List Job) (xs : List Int) : Int := (xs.map fun x => (jA js x).t).sum
theorem time_take {js : List Job} {xs : List Int} {i : Nat} {y : Int} (hy : xs[i]? = some y) : timeGo js (xs.take (i + 1)) = timeGo js (xs.take i) + (jA js y).t := by
  unfold timeGo; rw [take_succ' hy, List.map_append, List.sum_append]; simp
theorem time_bd {js : List Job} (bd : Bd js) : ∀ {xs : List Int}, 0 ≤ timeGo js xs ∧ timeGo js xs ≤ xs.length * 2 ^ 20
  | [] => by simp [timeGo]
  | x :: xs => by
    have ih := time_bd bd (xs := xs)
    have := bd.t x
    have e : timeGo js (x :: xs) = (jA js x).t + timeGo js xs := rfl
    rw [e, List.length_cons]; omega
theorem timeOf_run {c : Nat} (J : Jobs h vj js) (hn : js.length ≤ 8) (hg : goodL js = true) (hc : c < 2 ^ js.length) : Ret P G n_impl_timeOf [vj, .int .i64 c] h (.int .i64 (timeC js c)) h := by
  refine enter_run e_impl_timeOf (by simp) ?_
  have Js := J
  obtain ⟨oj, cj, rfl⟩ := J.shapeT
  have bd := good_bd hg
  simp -implicitDefEqProofs
  refine CL_post (listOf_run (n := js.length) (by omega) hc) fun v1 h1 ⟨hp1, ho1⟩ => ?_
  have S1 : Ints h1 v1 (bitsL js.length c) := ho1.sees
  have e : timeC js c = timeGo js (bitsL js.length c) := rfl
  have hin : inN js.length (bitsL js.length c) := fun x hx => by have := mem_bits.1 hx; omega
  have hl := @bits_len js.length c
  rw [e]
  generalize bitsL js.length c = ys at *
  have S1s := S1
  obtain ⟨oy, cy, rfl⟩ := S1.shapeT
  simp -implicitDefEqProofs
  refine R_loopO (fun m s h' => ∃ (i : Nat), i + m = ys.length ∧ s = [(0, .slice oj js.length cj), (5, .int .i64 (timeGo js (ys.take i))), (9, .slice oy ys.length cy), (10, .int .i64 ys.length), (11, .int .i64 i)] ∧ h' = h1) (fun I hI m s h' => ?_) (n := ys.length)
    ⟨0, Nat.zero_add _, by simp [timeGo], rfl⟩
  rintro ⟨i, hi, rfl, rfl⟩
  by_cases hlt : i < ys.length
  · obtain ⟨y, hy, _⟩ := drop_at hlt
    have ly := load_I S1s hy
    have lj := load_JX (Js.pre hp1) (hin y (List.mem_of_getElem? hy))
    have tb := time_bd bd (xs := ys.take i)
    have bt := bd.t y
    have tl : (ys.take i).length ≤ 8 := by rw [List.length_take]; omega
    have w1 : IntKind.i64.wrap (timeGo js (ys.take i) + (jA js y).t) = timeGo js (ys.take (i + 1)) := by rw [time_take hy, wrap_ok] <;> omega
    simp -implicitDefEqProofs [-indexAddrP_some, hlt, ly, lj, w1, winc hlt (by omega)]
    exact ⟨m - 1, by omega, on hI ⟨i + 1, by omega, rfl, rfl⟩⟩
  · rw [List.take_of_length_le (by omega)]
    simp -implicitDefEqProofs [hlt]
    exact gcP hp1 rfl
theorem good_time {js : List Job} (hg : goodL js = true) (hn : js.length ≤ 8) {c : Nat} : 0 ≤ timeC js c ∧ timeC js c ≤ 2 ^ 23 := by
  have := time_bd (good_bd hg) (xs := bitsL js.length c)
  have := @bits_len js.length c
  have e : timeC js c = timeGo js (bitsL js.length c) := rfl
  rw [e]; omega
theorem time_bits {i c : Nat} {js : List Job} : timeGo js (bitsL (i + 1) c) = timeGo js (bitsL i c) + if c.testBit i = true then (jA js i).t else 0 := by
  rw [bits_snoc]
  unfold timeGo
  rw [List.map_append, List.sum_append]
  split <;> simp
theorem l6Times_run {c : Nat} (J : Jobs h vj js) (hn : js.length ≤ 8) (hg : goodL js = true) (hc : c < 2 ^ 60) : Ret P G n_spec_l6Times [vj, .int .i64 c] h (.int .i64 (timeC js c)) h := by
  refine enter_run e_spec_l6Times (by simp) ?_
  have Js := J
  obtain ⟨oj, cj, rfl⟩ := J.shapeT
  have bd := good_bd hg
  simp -implicitDefEqProofs
  refine R_loopO (fun m s h' => ∃ (i : Nat), i + m = js.length ∧ s = [(0, .slice oj js.length cj), (1, .int .i64 c), (5, .int .i64 (timeGo js (bitsL i c))), (6, .int .i64 i)] ∧ h' = h) (fun I hI m s h' => ?_) (n := js.length)
    ⟨0, Nat.zero_add _, by simp [timeGo, bitsL], rfl⟩
  rintro ⟨i, hi, rfl, rfl⟩
  by_cases hlt : i < js.length
  · have lj := load_JX Js (x := (i : Int)) (by omega)
    have tb := time_bd bd (xs := bitsL i c)
    have tl := @bits_len i c
    have bt := bd.t i
    have bv := bit_val (i := i) hc
    have tt := @time_bits i c js
    cases ct : c.testBit i
    · rw [ct, if_neg (by simp)] at bv tt
      rw [Int.add_zero] at tt
      simp -implicitDefEqProofs [-indexAddrP_some, hlt, shr_eq hc, bv, winc hlt (by omega)]
      exact ⟨m - 1, by omega, on hI ⟨i + 1, by omega, by rw [tt]; rfl, rfl⟩⟩
    · rw [ct, if_pos rfl] at bv tt
      have w1 : IntKind.i64.wrap (timeGo js (bitsL i c) + (jA js i).t) = timeGo js (bitsL (i + 1) c) := by rw [tt, wrap_ok] <;> omega
      rw [Int.toNat_natCast] at lj
      simp -implicitDefEqProofs [-indexAddrP_some, hlt, shr_eq hc, bv, lj, w1, winc hlt (by omega)]
      exact ⟨m - 1, by omega, on hI ⟨i + 1, by omega, rfl, rfl⟩⟩
  · have : i = js.length := by omega
    subst this
    simp -implicitDefEqProofs [hlt]
    rfl
/-! ### objectives that are sums -/
def sumB (o : Int) : Bool := inB o 1 8 && !(o == 1) && !(o == 4)
theorem sumB_of {o : Int} (h : sumB o = true) : (1 ≤ o ∧ o ≤ 8) ∧ ¬ o = 1 ∧ ¬ o = 4 := by
  simp only [sumB, Bool.and_eq_true, Bool.not_eq_true', beq_eq_false_iff_ne] at h
  exact ⟨inB_of h.1.1, h.1.2, h.2⟩
theorem isSumObjective_run {o : Int} : Ret P G n_impl_isSumObjective [.int .i64 o] h (.bool (sumB o)) h := by
  refine enter_run e_impl_isSumObjective (by simp) ?_
  cases c1 : inB o 1 8
  · simp -implicitDefEqProofs [CL_ret isObjective_run, c1, sumB]
  · by_cases c2 : o = 1
    · subst c2
      simp -implicitDefEqProofs [CL_ret isObjective_run, c1, sumB]
    · by_cases c3 : o = 4
      · subst c3
        simp -implicitDefEqProofs [CL_ret isObjective_run, c1, sumB]
      · simp -implicitDefEqProofs [CL_ret isObjective_run, c1, sumB, nt c2, nt c3, nb c2, nb c3]
theorem l6Sum_run {o : Int} : Ret P G n_spec_l6Sum [.int .i64 o] h (.bool (sumB o)) h := by
  refine enter_run e_spec_l6Sum (by simp) ?_
  cases c1 : inB o 1 8
  · simp -implicitDefEqProofs [CL_ret l2Objective_run, c1, sumB]
  · by_cases c2 : o = 1
    · subst c2
      simp -implicitDefEqProofs [CL_ret l2Objective_run, CL_ret l2Greatest_run, c1, sumB]
    · by_cases c3 : o = 4
      · subst c3
        simp -implicitDefEqProofs [CL_ret l2Objective_run, CL_ret l2Greatest_run, c1, sumB]
      · simp -implicitDefEqProofs [CL_ret l2Objective_run, CL_ret l2Greatest_run, c1, sumB, nb c2, nb c3]
theorem costV_mono {o : Int} {j : Job} {e e' : Int} (hw : 0 ≤ j.w) (h : e ≤ e') : costV o j e ≤ costV o j e' := by
  unfold costV
  split
  · exact h
  split
  · exact Int.mul_le_mul_of_nonneg_left h hw
  split
  · omega
  split
  · exact Int.mul_le_mul_of_nonneg_left (by omega) hw
  split
  · split
    · exact Int.le_refl _
    · split <;> omega
  · split
    · omega
    · split <;> omega
theorem good_cb {o : Int} {js : List Job} (hg : goodL js = true) (ho : sumB o = true) : Cb o js := by
  obtain ⟨h1, h2, h3⟩ := sumB_of ho
  have z1 : ∀ e, 0 ≤ e → 0 ≤ costV o ⟨0, 0, 0, 0⟩ e ∧ costV o ⟨0, 0, 0, 0⟩ e ≤ e + 1 := by
    intro e he
    unfold costV
    split
    · omega
    split
    · simp; omega
    split
    · simp only; omega
    split
    · simp; omega
    split
    · omega
    split <;> simp <;> omega
  have hw : ∀ x, 0 ≤ (jA js x).w := by
    intro x
    rcases @jA_in js x with g | g
    · exact (job_of (List.all_eq_true.1 hg _ g)).2.1.1
    · rw [g]; exact Int.le_refl _
  refine ⟨fun x e he => ?_, fun x e he he2 => ?_, fun x e e' _ h => costV_mono (hw x) h⟩
  · rcases @jA_in js x with g | g
    · have hj := job_of (List.all_eq_true.1 hg _ g)
      unfold costV
      have m1 := Int.mul_nonneg hj.2.1.1 he
      have m2 := Int.mul_nonneg hj.2.1.1 (show 0 ≤ max (e - (jA js x).d) 0 by omega)
      split
      · exact he
      split
      · exact m1
      split
      · omega
      split
      · exact m2
      split
      · omega
      split <;> omega
    · rw [g]; exact (z1 e he).1
  · rcases @jA_in js x with g | g
    · exact (cost_bd (List.all_eq_true.1 hg _ g) he he2).2
    · rw [g]; have := (z1 e he).2; omega
end
end Go.Pm.PP

/- Tables of the least values of sets, by both: the tables. -/
set_option linter.unusedVariables false
set_option linter.unusedSimpArgs false
set_option maxRecDepth 4000
set_option maxHeartbeats 8000000
namespace Go.Pm.PP
open Go.Pm Go.Proofs Go.Pm.PE
theorem sum_bd {o : Int} {js : List Job} (p : Pl js) (cb : Cb o js) (bd : ∀ x, (jA js x).t ≤ 50) : ∀ {xs : List Int} {now : Int}, 0 ≤ now → now + xs.length * 50 ≤ 2 ^ 20 → sumGo o js now xs ≤ xs.length * 2 ^ 27
  | [], now, _, _ => by simp [sumGo]
  | x :: xs, now, h, hb => by
    have t0 := p.t x
    have t1 := bd x
    rw [List.length_cons] at hb ⊢
    have ih := sum_bd p cb bd (xs := xs) (now := now + (jA js x).t) (by omega) (by omega)
    have := cb.hi x (now + (jA js x).t) (by omega) (by omega)
    rw [sumGo, p.endAt h]; omega
theorem good_t50 {js : List Job} (hg : goodL js = true) (x : Int) : (jA js x).t ≤ 50 := by
  rcases @jA_in js x with g | g
  · exact (job_of (List.all_eq_true.1 hg _ g)).1.2
  · rw [g]; simp
theorem tab_bd {o s : Int} {js : List Job} (hok : plOk js = true) (ho : sumB o = true) (hs : 0 ≤ s ∧ s ≤ 2 ^ 19) {m c : Nat} (h : c ≤ m) (hc : c < 2 ^ js.length) : 0 ≤ gE (tabV o js s m) c ∧ gE (tabV o js s m) c ≤ 2 ^ 30 := by
  obtain ⟨hn, hg, _⟩ := plOk_of hok
  have p := plOk_pl hok
  have cb := good_cb hg ho
  obtain ⟨⟨xs, hx, e⟩, _⟩ := tab_spec p cb hs.1 h hc
  have hl : xs.length ≤ 8 := by rw [hx.length_eq]; have := @bits_len js.length c; omega
  have h1 := sum_nonneg p cb (xs := xs) hs.1
  have h2 := sum_bd p cb (good_t50 hg) (xs := xs) hs.1 (by omega)
  rw [e]; omega
theorem last_bd {o s : Int} {js : List Job} (hok : plOk js = true) (ho : sumB o = true) (hs : 0 ≤ s ∧ s ≤ 2 ^ 19) {m c i : Nat} (h : c ≤ m + 1) (hc : c < 2 ^ js.length) (hi : c.testBit i = true) : 0 ≤ lastC o js s (tabV o js s m) c i ∧ lastC o js s (tabV o js s m) c i ≤ 2 ^ 31 := by
  obtain ⟨hn, hg, _⟩ := plOk_of hok
  have hle := bit_le hi
  have hpos := Nat.two_pow_pos i
  have g1 : c - 2 ^ i ≤ m := by omega
  have g2 : c - 2 ^ i < 2 ^ js.length := by omega
  have tb := tab_bd hok ho hs g1 g2
  have cb := good_cb hg ho
  have tt := good_time hg hn (c := c)
  have tl : timeC js c ≤ 8 * 50 := by
    have key : ∀ l : List Int, timeGo js l ≤ l.length * 50 := by
      intro l
      induction l with
      | nil => simp [timeGo]
      | cons x l ih =>
        have := good_t50 hg x
        have e : timeGo js (x :: l) = (jA js x).t + timeGo js l := rfl
        rw [e, List.length_cons]; omega
    have := key (bitsL js.length c)
    have := @bits_len js.length c
    have e : timeC js c = timeGo js (bitsL js.length c) := rfl
    rw [e]; omega
  have c1 := cb.lo i (s + timeC js c) (by omega)
  have c2 := cb.hi i (s + timeC js c) (by omega) (by omega)
  unfold lastC
  omega
/-- The best one, along the list of a set. -/
def stepL (o : Int) (js : List Job) (s : Int) (T : List Int) (c : Nat) (b : Int) (x : Int) : Int := if b < 0 ∨ lastC o js s T c x.toNat < b then lastC o js s T c x.toNat else b
theorem best_bits {o s : Int} {js : List Job} {T : List Int} {c : Nat} : bestC o js s T c = (bitsL js.length c).foldl (stepL o js s T c) (-1) := by
  unfold bestC bitsL
  rw [List.foldl_map, List.foldl_filter]
  exact fold_congr fun i _ b => by simp only [stepC, stepL, Int.toNat_natCast]
section
variable {h : Hp} {vj v : Value} {js : List Job} {xs : List Int} {o : Int}
theorem setValues_run {s : Int} (J : Jobs h vj js) (hok : plOk js = true) (ho : sumB o = true) (hs : 0 ≤ s ∧ s ≤ 2 ^ 19) : RunsC P G n_impl_setValues [vj, .int .i64 o, .int .i64 s] h fun w h' => h <+: h' ∧ Own h.length h' w 1 ((tabV o js s (2 ^ js.length - 1)).map encI) := by
  refine hideC fun K hK => enter_run e_impl_setValues (by simp) ?_
  have Js := J
  obtain ⟨oj, cj, rfl⟩ := J.shapeT
  obtain ⟨hn, hg, _⟩ := plOk_of hok
  obtain ⟨ho8, ho1, ho4⟩ := sumB_of ho
  obtain ⟨d, hd⟩ : ∃ d, d = 2 ^ js.length := ⟨_, rfl⟩
  have d1 : 1 ≤ d ∧ d ≤ 256 := by
    have := Nat.two_pow_pos js.length
    have : 2 ^ js.length ≤ 2 ^ 8 := Nat.pow_le_pow_right (by omega) hn
    omega
  have sh := shl_eq (i := js.length) (by omega)
  rw [← hd] at sh hK
  obtain ⟨v1, h1, mk, H1, hp1, oa, rfl⟩ := make_I (Holds.start (h := h)) (n := d) (by omega)
  have H1 : Holds h h1 [.own (.slice oa d d) 1 ((List.replicate d (0 : Int)).map encI)] := H1
  simp -implicitDefEqProofs [sh, mk]
  refine R_loopO (fun m st h' => ∃ (c k : Nat), k = c + 1 ∧ k + m = d ∧ st = [(0, .slice oj js.length cj), (1, .int .i64 o), (2, .int .i64 s), (7, .slice oa d d), (8, .int .i64 k)] ∧ Holds h h' [.own (.slice oa d d) 1 ((tabV o js s c ++ List.replicate m 0).map encI)]) (fun I hI m st h' => ?_) (n := d - 1)
    ⟨0, 1, rfl, by omega, by simp, by
      have e : tabV o js s 0 ++ List.replicate (d - 1) 0 = List.replicate d 0 := by
        obtain ⟨k, rfl⟩ : ∃ k, d = k + 1 := ⟨d - 1, by omega⟩
        rw [List.replicate_succ]; rfl
      rw [e]; exact H1⟩
  rintro ⟨c, k, hkc, hkm, rfl, H⟩
  by_cases hlt : k < d
  · obtain ⟨m', rfl⟩ : ∃ m', m = m' + 1 := ⟨m - 1, by omega⟩
    have hlt' : (k : Int) < d := by omega
    have hcd : k < 2 ^ js.length := by omega
    have rt := timeOf_run (c := k) (Js.pre H.pre) hn hg hcd
    have tt := good_time hg hn (c := k)
    have w1 : IntKind.i64.wrap (s + timeC js k) = s + timeC js k := by rw [wrap_ok] <;> omega
    have tl := @tabV_len o s js c
    obtain ⟨h2, s2, H2, k2⟩ := put_I H 0 rfl (j := k) (by simp; omega) (-1)
    have e2 : ∀ z, (tabV o js s c ++ List.replicate (m' + 1) 0).set k z = tabV o js s c ++ z :: List.replicate m' 0 := fun z => by
      rw [List.set_append_right (h := by omega), show k - (tabV o js s c).length = 0 by omega, List.replicate_succ]; rfl
    rw [e2] at H2
    have hg2 : (tabV o js s c ++ List.replicate (m' + 1) 0)[k]? = some 0 := by rw [List.getElem?_append_right (by omega), show k - (tabV o js s c).length = 0 by omega]; rfl
    have ix := (load_I (H.sees 0 rfl) hg2).1
    simp -implicitDefEqProofs [-indexAddrP_some, hlt, hlt', CL_ret rt, w1, ix, s2]
    refine CL_post (listOf_run (n := js.length) (by omega) hcd) fun v3 h3 ⟨hp3, ho3⟩ => ?_
    have H3 := H2.call hp3 ho3
    have S3 : Ints h3 v3 (bitsL js.length k) := ho3.sees
    have bb := best_bits (o := o) (s := s) (js := js) (T := tabV o js s c) (c := k)
    have hbit : ∀ x, x ∈ bitsL js.length k → 0 ≤ x ∧ x < js.length ∧ k.testBit x.toNat = true := fun x hx => mem_bits.1 hx
    have hbl := @bits_len js.length k
    generalize bitsL js.length k = ys at *
    obtain ⟨oy, cy, rfl⟩ : ∃ a c, v3 = .slice a ys.length c := S3.shapeT
    simp -implicitDefEqProofs
    refine R_loopO (fun m2 st h4 => ∃ (i : Nat), i + m2 = ys.length ∧ st = [(0, .slice oj js.length cj), (1, .int .i64 o), (2, .int .i64 s), (7, .slice oa d d), (8, .int .i64 k), (9, .int .i64 (s + timeC js k)), (32, .slice oy ys.length cy), (33, .int .i64 ys.length), (34, .int .i64 i)] ∧
      Holds h h4 [.own (.slice oa d d) 1 ((tabV o js s c ++ ((ys.take i).foldl (stepL o js s (tabV o js s c) k) (-1)) :: List.replicate m' 0).map encI), .own (.slice oy ys.length cy) 1 (ys.map encI)]) (fun I2 hI2 m2 st h4 => ?_) (n := ys.length)
      ⟨0, Nat.zero_add _, by simp, H3⟩
    rintro ⟨i, him, rfl, H4⟩
    have S4 : Ints h4 (.slice oy ys.length cy) ys := H4.sees 1 rfl
    by_cases hli : i < ys.length
    · obtain ⟨y, hy, _⟩ := drop_at hli
      have hyb := hbit y (List.mem_of_getElem? hy)
      have ly := load_I S4 hy
      have lj := load_JX (Js.pre H4.pre) ⟨hyb.1, hyb.2.1⟩
      have hle := bit_le hyb.2.2
      have hpos := Nat.two_pow_pos y.toNat
      have g1 : k - 2 ^ y.toNat ≤ c := by omega
      have g2 : k - 2 ^ y.toNat < 2 ^ js.length := by omega
      have tb := tab_bd hok ho hs g1 g2
      obtain ⟨z, hz⟩ : ∃ z : Nat, z = k - 2 ^ y.toNat := ⟨_, rfl⟩
      have lz := load_I (H4.sees 0 rfl) (i := z) (x := gE (tabV o js s c) z) (by rw [List.getElem?_append_left (by omega)]; exact gE_get (by omega))
      obtain ⟨b, hb⟩ : ∃ b : Nat, b = 2 ^ y.toNat := ⟨_, rfl⟩
      have shy := shl_eq (i := y.toNat) (by omega)
      rw [show ((y.toNat : Nat) : Int) = y by omega, ← hb] at shy
      have cv := clr_val (k := k) (by omega) hb hyb.2.2 hz
      have jo : jobOk (jA js y) = true := by
        obtain ⟨q, hq, hql, hqy⟩ := jA_get (js := js) rfl ⟨hyb.1, hyb.2.1⟩
        exact job_at hg hqy
      have tl50 : timeC js k ≤ 2 ^ 19 := by
        have key : ∀ l : List Int, timeGo js l ≤ l.length * 50 := by
          intro l
          induction l with
          | nil => simp [timeGo]
          | cons x l ih =>
            have := good_t50 hg x
            have e : timeGo js (x :: l) = (jA js x).t + timeGo js l := rfl
            rw [e, List.length_cons]; omega
        have := key (bitsL js.length k)
        have := @bits_len js.length k
        have e : timeC js k = timeGo js (bitsL js.length k) := rfl
        rw [e]; omega
      rw [← hz] at tb
      have ra := fun {hh : Hp} => add_run (h := hh) (j := jA js y) (a := gE (tabV o js s c) z) (e := s + timeC js k) (o := o) (f := false) jo (by omega) (by omega) ho8 (by omega)
      have es : stepV o false (gE (tabV o js s c) z) (jA js y) (s + timeC js k) = lastC o js s (tabV o js s c) k y.toNat := by
        unfold stepV lastC
        rw [if_neg ho1, if_neg ho4, hz, show ((y.toNat : Nat) : Int) = y by omega]
      rw [es] at ra
      have lb := last_bd hok ho hs (m := c) (c := k) (i := y.toNat) (by omega) hcd hyb.2.2
      obtain ⟨V, hV⟩ : ∃ V, V = lastC o js s (tabV o js s c) k y.toNat := ⟨_, rfl⟩
      obtain ⟨b0, hb0⟩ : ∃ b0, b0 = (ys.take i).foldl (stepL o js s (tabV o js s c) k) (-1) := ⟨_, rfl⟩
      have eb : (ys.take (i + 1)).foldl (stepL o js s (tabV o js s c) k) (-1) = if b0 < 0 ∨ V < b0 then V else b0 := by
        rw [take_succ' hy, List.foldl_append, ← hb0, hV]; rfl
      rw [← hb0] at H4
      rw [← hV] at ra lb
      have hg4 : (tabV o js s c ++ b0 :: List.replicate m' 0)[k]? = some b0 := by rw [List.getElem?_append_right (by omega), show k - (tabV o js s c).length = 0 by omega]; rfl
      have lk := load_I (H4.sees 0 rfl) hg4
      by_cases c1 : b0 < 0 ∨ V < b0
      · rw [if_pos c1] at eb
        obtain ⟨h5, s5, H5, k5⟩ := put_I H4 0 rfl (j := k) (by simp; omega) V
        have e5 : (tabV o js s c ++ b0 :: List.replicate m' 0).set k V = tabV o js s c ++ V :: List.replicate m' 0 := by
          rw [List.set_append_right (h := by omega), show k - (tabV o js s c).length = 0 by omega]; rfl
        rw [e5] at H5
        rcases Classical.em (b0 < 0) with c2 | c2
        · simp -implicitDefEqProofs [-indexAddrP_some, hli, ly, shy, cv, lz, lj, CL_ret ra, CH_at ra, lk, c2, s5, winc hli (by omega)]
          exact ⟨m2 - 1, by omega, on hI2 ⟨i + 1, by omega, rfl, by rw [eb]; exact H5⟩⟩
        · have c3 : V < b0 := by rcases c1 with g | g; exact absurd g c2; exact g
          simp -implicitDefEqProofs [-indexAddrP_some, hli, ly, shy, cv, lz, lj, CL_ret ra, CH_at ra, lk, c2, c3, s5, winc hli (by omega)]
          exact ⟨m2 - 1, by omega, on hI2 ⟨i + 1, by omega, rfl, by rw [eb]; exact H5⟩⟩
      · rw [if_neg c1] at eb
        have c2 : ¬ b0 < 0 := fun g => c1 (.inl g)
        have c3 : ¬ V < b0 := fun g => c1 (.inr g)
        simp -implicitDefEqProofs [-indexAddrP_some, hli, ly, shy, cv, lz, lj, CL_ret ra, CH_at ra, lk, c2, c3, winc hli (by omega)]
        exact ⟨m2 - 1, by omega, on hI2 ⟨i + 1, by omega, rfl, by rw [eb]; exact H4⟩⟩
    · rw [List.take_of_length_le (by omega), ← bb] at H4
      simp -implicitDefEqProofs [hli, winc hlt (by omega)]
      refine ⟨m', by omega, on hI ⟨c + 1, k + 1, by omega, by omega, by simp, ?_⟩⟩
      have e6 : tabV o js s (c + 1) ++ List.replicate m' 0 = tabV o js s c ++ bestC o js s (tabV o js s c) k :: List.replicate m' 0 := by
        rw [tabV, ← hkc, List.append_assoc]; rfl
      rw [e6]
      exact H4.one 0 rfl
  · have hm : m = 0 := by omega
    subst hm
    rw [List.replicate_zero, List.append_nil, show c = d - 1 by omega] at H
    simp -implicitDefEqProofs [hlt]
    exact onK hK (H.ret 0 rfl)
theorem implSetValues_run (J : Jobs h vj js) (hl : js.length ≤ 2 ^ 40) : RunsC P G n_impl_SetValues [vj, .int .i64 o] h fun w h' => h <+: h' ∧ ∃ d, w = .tuple #[d, .bool (plOk js && sumB o)] ∧ Ints h' d (if (plOk js && sumB o) = true then tabV o js 0 (2 ^ js.length - 1) else []) := by
  refine hideC fun K hK => enter_run e_impl_SetValues (by simp) ?_
  have r1 := IsPlain_run J hl
  have Js := J
  obtain ⟨oj, cj, rfl⟩ := J.shapeT
  have bad : (plOk js && sumB o) = false → K (.tuple #[.slice none 0 0, .bool false]) h := fun e => by
    rw [e] at hK
    exact onK hK ⟨List.prefix_rfl, _, rfl, ⟨by simp, none, 0, rfl, .inl ⟨rfl, rfl, rfl⟩⟩⟩
  cases c1 : plOk js
  · simp -implicitDefEqProofs [CL_ret r1, c1]
    exact bad (by rw [c1]; rfl)
  cases c2 : sumB o
  · simp -implicitDefEqProofs [CL_ret r1, c1, CL_ret isSumObjective_run, c2]
    exact bad (by rw [c2, Bool.and_false])
  simp -implicitDefEqProofs [CL_ret r1, c1, CL_ret isSumObjective_run, c2]
  refine CL_post (setValues_run (s := 0) Js c1 c2 (by omega)) fun v1 h1 ⟨hp1, ho1⟩ => ?_
  simp -implicitDefEqProofs
  rw [c1, c2] at hK
  exact onK hK ⟨pre_gcU hp1, _, rfl, Sees.gcU ho1.sees fun g => plainT (r := [_]) g⟩
/-! ### by the reference -/
theorem l6Last_run {s0 c i : Nat} {vt : Value} {T : List Int} (J : Jobs h vj js) (X : Ints h vt T) (hn : js.length ≤ 8) (hg : goodL js = true) (ho : sumB o = true) (hc : c < 2 ^ js.length) (hi : c.testBit i = true) (hT : c - 2 ^ i < T.length) (ht : 0 ≤ gE T (c - 2 ^ i) ∧ gE T (c - 2 ^ i) ≤ 2 ^ 31) :
    Ret P G n_spec_l6Last [vj, .int .i64 o, vt, .int .i64 c, .int .i64 i] h (.int .i64 (lastC o js 0 T c i)) h := by
  refine enter_run e_spec_l6Last (by simp) ?_
  have Js := J
  have Xs := X
  obtain ⟨oj, cj, rfl⟩ := J.shapeT
  obtain ⟨ot, ct, rfl⟩ := X.shapeT
  have hil := bit_lt hc hi
  have hle := bit_le hi
  have hpos := Nat.two_pow_pos i
  have h8 : 2 ^ js.length ≤ 2 ^ 8 := Nat.pow_le_pow_right (by omega) hn
  obtain ⟨ho8, ho1, ho4⟩ := sumB_of ho
  have rt := fun {hh : Hp} (hp : h <+: hh) => l6Times_run (c := c) (Js.pre hp) hn hg (by omega)
  have tt := good_time hg hn (c := c)
  have cb := good_cb hg ho
  have tl50 : timeC js c ≤ 2 ^ 19 := by
    have key : ∀ l : List Int, timeGo js l ≤ l.length * 50 := by
      intro l
      induction l with
      | nil => simp [timeGo]
      | cons x l ih =>
        have := good_t50 hg x
        have e : timeGo js (x :: l) = (jA js x).t + timeGo js l := rfl
        rw [e, List.length_cons]; omega
    have := key (bitsL js.length c)
    have := @bits_len js.length c
    have e : timeC js c = timeGo js (bitsL js.length c) := rfl
    rw [e]; omega
  have jo : jobOk (jA js i) = true := by
    obtain ⟨q, hq, hql, hqy⟩ := jA_get (js := js) (x := (i : Int)) rfl (by omega)
    exact job_at hg hqy
  have rc := fun {hh : Hp} => l2Cost_run (h := hh) (j := jA js i) (e := timeC js c) (o := o) jo (by omega) (by omega) ho8 ho1 ho4
  have c1 := cb.lo i (timeC js c) (by omega)
  have c2 := cb.hi i (timeC js c) (by omega) (by omega)
  obtain ⟨z, hz⟩ : ∃ z : Nat, z = c - 2 ^ i := ⟨_, rfl⟩
  obtain ⟨b, hb⟩ : ∃ b : Nat, b = 2 ^ i := ⟨_, rfl⟩
  have shy := shl_eq (i := i) (by omega)
  rw [← hb] at shy
  rw [← hz] at hT ht
  have wz : IntKind.i64.wrap ((c : Int) - (b : Int)) = (z : Int) := by rw [wrap_ok] <;> omega
  have lz := load_I Xs (gE_get hT)
  have lj := load_JX Js (x := (i : Int)) (by omega)
  rw [Int.toNat_natCast] at lj
  have w2 : IntKind.i64.wrap (gE T z + costV o (jA js i) (timeC js c)) = gE T z + costV o (jA js i) (timeC js c) := by rw [wrap_ok] <;> omega
  have e : lastC o js 0 T c i = gE T z + costV o (jA js i) (timeC js c) := by unfold lastC; rw [Int.zero_add, hz]
  rw [e]
  simp -implicitDefEqProofs [-indexAddrP_some, shy, wz, lz, lj, CL_ret (rt List.prefix_rfl), CH_at (rt List.prefix_rfl), CL_ret rc, CH_at rc, w2]
theorem l6Values_run (J : Jobs h vj js) (hok : plOk js = true) (ho : sumB o = true) : RunsC P G n_spec_l6Values [vj, .int .i64 o] h fun w h' => h <+: h' ∧ Own h.length h' w 1 ((tabV o js 0 (2 ^ js.length - 1)).map encI) := by
  refine hideC fun K hK => enter_run e_spec_l6Values (by simp) ?_
  have Js := J
  obtain ⟨oj, cj, rfl⟩ := J.shapeT
  obtain ⟨hn, hg, _⟩ := plOk_of hok
  obtain ⟨d, hd⟩ : ∃ d, d = 2 ^ js.length := ⟨_, rfl⟩
  have d1 : 1 ≤ d ∧ d ≤ 256 := by
    have := Nat.two_pow_pos js.length
    have : 2 ^ js.length ≤ 2 ^ 8 := Nat.pow_le_pow_right (by omega) hn
    omega
  have sh := shl_eq (i := js.length) (by omega)
  rw [← hd] at sh hK
  have H0 : Holds h (h ++ [some ⟨[.int .i64 0], 1, false⟩]) [.own (.slice (some ⟨h.length, 0, some 1⟩) 1 1) 1 ((tabV o js 0 0).map encI)] := by
    have := (Holds.start (h := h)).lit (sz := 1) (n := 1) (els := ([0] : List Int).map encI) (len_I [0]) (by simp)
    have e0 : tabV o js 0 0 = [0] := rfl
    rw [e0]
    simpa [encI] using this
  simp -implicitDefEqProofs
  refine R_loopO (fun m st h' => ∃ (c k : Nat) (u : Value), k = c + 1 ∧ k + m = d ∧ st = [(0, .slice oj js.length cj), (1, .int .i64 o), (5, u), (6, .int .i64 k)] ∧ Holds h h' [.own u 1 ((tabV o js 0 c).map encI)]) (fun I hI m st h' => ?_) (n := d - 1)
    ⟨0, 1, _, rfl, by omega, by simp, H0⟩
  rintro ⟨c, k, u, hkc, hkm, rfl, H⟩
  have tl := @tabV_len o 0 js c
  have S : Ints h' u (tabV o js 0 c) := H.sees 0 rfl
  by_cases hlt : k < d
  · have hlt' : (k : Int) < d := by omega
    have hcd : k < 2 ^ js.length := by omega
    simp -implicitDefEqProofs [sh, hlt, hlt']
    refine R_loopO (fun m2 st h4 => ∃ (i : Nat), i + m2 = js.length ∧ st = [(0, .slice oj js.length cj), (1, .int .i64 o), (5, u), (6, .int .i64 k), (7, .int .i64 ((List.range' 0 i).foldl (stepC o js 0 (tabV o js 0 c) k) (-1))), (8, .int .i64 i)] ∧ h4 = h') (fun I2 hI2 m2 st h4 => ?_) (n := js.length)
      ⟨0, Nat.zero_add _, by simp, rfl⟩
    rintro ⟨i, him, rfl, rfl⟩
    obtain ⟨b0, hb0⟩ : ∃ b0, b0 = (List.range' 0 i).foldl (stepC o js 0 (tabV o js 0 c) k) (-1) := ⟨_, rfl⟩
    have eb : (List.range' 0 (i + 1)).foldl (stepC o js 0 (tabV o js 0 c) k) (-1) = stepC o js 0 (tabV o js 0 c) k b0 i := by
      rw [List.range'_concat, List.foldl_append, ← hb0]; simp
    rw [← hb0]
    by_cases hli : i < js.length
    · have bv := bit_val (c := k) (i := i) (by omega)
      cases ct : k.testBit i
      · have es : stepC o js 0 (tabV o js 0 c) k b0 i = b0 := by unfold stepC; rw [ct, if_neg (by simp)]
        rw [ct, if_neg (by simp)] at bv
        rw [es] at eb
        simp -implicitDefEqProofs [hli, shr_eq (c := k) (i := i) (by omega), bv, winc hli (by omega)]
        exact ⟨m2 - 1, by omega, on hI2 ⟨i + 1, by omega, by rw [eb]; rfl, rfl⟩⟩
      · rw [ct, if_pos rfl] at bv
        have hle := bit_le ct
        have hpos := Nat.two_pow_pos i
        have g1 : k - 2 ^ i ≤ c := by omega
        have g2 : k - 2 ^ i < 2 ^ js.length := by omega
        have tb := tab_bd hok ho (s := 0) (by omega) g1 g2
        have rl := l6Last_run (s0 := 0) (Js.pre H.pre) S hn hg ho hcd ct (by omega) (by omega)
        have es : stepC o js 0 (tabV o js 0 c) k b0 i = if b0 < 0 ∨ lastC o js 0 (tabV o js 0 c) k i < b0 then lastC o js 0 (tabV o js 0 c) k i else b0 := by unfold stepC; rw [ct, if_pos rfl]
        rw [es] at eb
        generalize lastC o js 0 (tabV o js 0 c) k i = V at *
        obtain ⟨uo, un, uc, rfl⟩ : ∃ a n c, u = .slice a n c := by obtain ⟨a, c, e⟩ := S.shape; exact ⟨_, _, _, e⟩
        by_cases c1 : b0 < 0
        · rw [if_pos (.inl c1)] at eb
          simp -implicitDefEqProofs [hli, shr_eq (c := k) (i := i) (by omega), bv, CL_ret rl, c1, winc hli (by omega)]
          exact ⟨m2 - 1, by omega, on hI2 ⟨i + 1, by omega, by rw [eb]; rfl, rfl⟩⟩
        · by_cases c2 : V < b0
          · rw [if_pos (.inr c2)] at eb
            simp -implicitDefEqProofs [hli, shr_eq (c := k) (i := i) (by omega), bv, CL_ret rl, c1, c2, winc hli (by omega)]
            exact ⟨m2 - 1, by omega, on hI2 ⟨i + 1, by omega, by rw [eb]; rfl, rfl⟩⟩
          · rw [if_neg (by rintro (g | g); exact c1 g; exact c2 g)] at eb
            simp -implicitDefEqProofs [hli, shr_eq (c := k) (i := i) (by omega), bv, CL_ret rl, c1, c2, winc hli (by omega)]
            exact ⟨m2 - 1, by omega, on hI2 ⟨i + 1, by omega, by rw [eb]; rfl, rfl⟩⟩
    · have : i = js.length := by omega
      have eB : b0 = bestC o js 0 (tabV o js 0 c) k := by rw [hb0, this]; rfl
      obtain ⟨v2, h2, ha, H2, _⟩ := push_I0 H 0 rfl b0 (by omega)
      simp -implicitDefEqProofs [hli, ha, winc hlt (by omega)]
      refine ⟨m - 1, by omega, on hI ⟨c + 1, k + 1, v2, by omega, by omega, by simp, ?_⟩⟩
      have e6 : tabV o js 0 (c + 1) = tabV o js 0 c ++ [b0] := by rw [tabV, ← hkc, eB]
      rw [e6]
      exact H2
  · have hm : m = 0 := by omega
    subst hm
    rw [show c = d - 1 by omega] at H
    have hlt' : ¬ (k : Int) < d := by omega
    simp -implicitDefEqProofs [sh, hlt, hlt']
    exact onK hK (H.ret 0 rfl)
theorem specSetValues_run (J : Jobs h vj js) (hl : js.length ≤ 2 ^ 40) : RunsC P G n_spec_SetValues [vj, .int .i64 o] h fun w h' => h <+: h' ∧ ∃ d, w = .tuple #[d, .bool (plOk js && sumB o)] ∧ Ints h' d (if (plOk js && sumB o) = true then tabV o js 0 (2 ^ js.length - 1) else []) := by
  refine hideC fun K hK => enter_run e_spec_SetValues (by simp) ?_
  have r1 := l6Good_run J hl
  have Js := J
  obtain ⟨oj, cj, rfl⟩ := J.shapeT
  have bad : (plOk js && sumB o) = false → K (.tuple #[.slice none 0 0, .bool false]) h := fun e => by
    rw [e] at hK
    exact onK hK ⟨List.prefix_rfl, _, rfl, ⟨by simp, none, 0, rfl, .inl ⟨rfl, rfl, rfl⟩⟩⟩
  cases c1 : plOk js
  · simp -implicitDefEqProofs [CL_ret r1, c1]
    exact bad (by rw [c1]; rfl)
  cases c2 : sumB o
  · simp -implicitDefEqProofs [CL_ret r1, c1, CL_ret l6Sum_run, c2]
    exact bad (by rw [c2, Bool.and_false])
  simp -implicitDefEqProofs [CL_ret r1, c1, CL_ret l6Sum_run, c2]
  refine CL_post (l6Values_run Js c1 c2) fun v1 h1 ⟨hp1, ho1⟩ => ?_
  simp -implicitDefEqProofs
  rw [c1, c2] at hK
  exact onK hK ⟨pre_gcU hp1, _, rfl, Sees.gcU ho1.sees fun g => plainT (r := [_]) g⟩
end
end Go.Pm.PP

/- The order that is found from its end, by both; total times. -/
set_option linter.unusedVariables false
set_option linter.unusedSimpArgs false
set_option maxRecDepth 4000
set_option maxHeartbeats 8000000
namespace Go.Pm.PP
open Go.Pm Go.Proofs Go.Pm.PE
def setOk (js : List Job) (o : Int) : Bool := plOk js && sumB o
def fullC (js : List Job) : Nat := 2 ^ js.length - 1
def tabF (o : Int) (js : List Job) : List Int := tabV o js 0 (fullC js)
def backF (o : Int) (js : List Job) : List Int := backC o js 0 (tabF o js) (fullC js) (fullC js)
theorem back_more {o s : Int} {js : List Job} {T : List Int} : ∀ {n m c : Nat}, c ≤ n → c ≤ m → backC o js s T n c = backC o js s T m c
  | 0, m, c, h1, _ => by
    have : c = 0 := by omega
    subst this
    cases m with
    | zero => rfl
    | succ m => rw [backC, backC, if_pos rfl]
  | n + 1, 0, c, _, h2 => by
    have : c = 0 := by omega
    subst this
    have e1 : backC o js s T (n + 1) 0 = [] := by rw [backC, if_pos rfl]
    rw [e1]; rfl
  | n + 1, m + 1, c, h1, h2 => by
    rw [backC, backC]
    split
    · rfl
    · split
      · rfl
      · rename_i hc i hi
        have hp := List.find?_some hi
        unfold pickC at hp
        rw [Bool.and_eq_true] at hp
        have := bit_le hp.1
        have := Nat.two_pow_pos i
        rw [back_more (n := n) (m := m) (by omega) (by omega)]
theorem fullC_lt {js : List Job} : fullC js < 2 ^ js.length := by have := Nat.two_pow_pos js.length; unfold fullC; omega
section
variable {h : Hp} {vj v : Value} {js : List Job} {xs : List Int} {o : Int}
theorem specSetOrder_run (J : Jobs h vj js) (hl : js.length ≤ 2 ^ 40) : RunsC P G n_spec_SetOrder [vj, .int .i64 o] h fun w h' => h <+: h' ∧ ∃ d, w = .tuple #[d, .bool (setOk js o)] ∧ Ints h' d (if setOk js o = true then backF o js else []) := by
  refine hideC fun K hK => enter_run e_spec_SetOrder (by simp) ?_
  have r1 := l6Good_run J hl
  have Js := J
  obtain ⟨oj, cj, rfl⟩ := J.shapeT
  have bad : setOk js o = false → K (.tuple #[.slice none 0 0, .bool false]) h := fun e => by
    rw [e] at hK
    exact onK hK ⟨List.prefix_rfl, _, rfl, ⟨by simp, none, 0, rfl, .inl ⟨rfl, rfl, rfl⟩⟩⟩
  cases c1 : plOk js
  · simp -implicitDefEqProofs [CL_ret r1, c1]
    exact bad (by rw [setOk, c1]; rfl)
  cases c2 : sumB o
  · simp -implicitDefEqProofs [CL_ret r1, c1, CL_ret l6Sum_run, c2]
    exact bad (by rw [setOk, c2, Bool.and_false])
  have c3 : setOk js o = true := by rw [setOk, c1, c2]; rfl
  rw [c3, if_pos rfl] at hK
  obtain ⟨hn, hg, _⟩ := plOk_of c1
  have p := plOk_pl c1
  have cb := good_cb hg c2
  have hfl := fullC_lt (js := js)
  have h8 : 2 ^ js.length ≤ 2 ^ 8 := Nat.pow_le_pow_right (by omega) hn
  have hT : tabV o js 0 (2 ^ js.length - 1) = tabF o js := rfl
  have hTl : (tabF o js).length = fullC js + 1 := tabV_len
  have tb := fun (c : Nat) (hc : c ≤ fullC js) => tab_bd (o := o) (s := 0) c1 c2 (by omega) hc (by omega : c < 2 ^ js.length)
  have bs := fun (c : Nat) (hc : c ≤ fullC js) => back_spec p cb (Int.le_refl 0) hfl (n := fullC js) hc hc
  have hF : tabV o js 0 (fullC js) = tabF o js := rfl
  rw [hF] at bs
  simp only [hF] at tb
  have hB : backF o js = backC o js 0 (tabF o js) (fullC js) (fullC js) := rfl
  rw [hB] at hK
  have hfull : ((2 ^ js.length : Nat) : Int) - 1 = (fullC js : Int) := by have := Nat.two_pow_pos js.length; unfold fullC; omega
  obtain ⟨d, hd⟩ : ∃ d, d = 2 ^ js.length := ⟨_, rfl⟩
  have sh := shl_eq (i := js.length) (by omega)
  rw [← hd] at sh hfull
  have wf : IntKind.i64.wrap ((d : Int) - 1) = (fullC js : Int) := by rw [hfull, wrap_ok] <;> omega
  simp -implicitDefEqProofs [CL_ret r1, c1, CL_ret l6Sum_run, c2]
  refine CL_post (l6Values_run Js c1 c2) fun v1 h1 ⟨hp1, ho1⟩ => ?_
  rw [hT] at ho1
  have H1 := (Holds.start (h := h)).call hp1 ho1
  obtain ⟨va, vn, vd, rfl⟩ : ∃ a n c, v1 = .slice a n c := by obtain ⟨a, c, e⟩ := ho1.sees.shape; exact ⟨_, _, _, e⟩
  simp -implicitDefEqProofs [sh, wf]
  generalize tabF o js = T at *
  generalize hFu : fullC js = F at *
  refine R_loopO (fun m st h' => ∃ (c : Nat) (u : Value) (us : List Int), c ≤ m ∧ c ≤ F ∧ st = [(0, .slice oj js.length cj), (1, .int .i64 o), (6, u), (7, .slice va vn vd), (8, .int .i64 c)] ∧ backC o js 0 T F F = backC o js 0 T F c ++ us ∧ us.length ≤ 8 ∧ Holds h h' [.own (.slice va vn vd) 1 (T.map encI), .own u 1 (us.map encI)]) (fun I hI m st h' => ?_) (n := F)
    ⟨F, .slice none 0 0, [], Nat.le_refl _, Nat.le_refl _, by simp, by simp, by simp, own_nil H1 Int encI 1⟩
  rintro ⟨c, u, us, hcm, hcF, rfl, hx, hus, H⟩
  by_cases h0 : 0 < c
  · have h0' : (0 : Int) < c := by omega
    obtain ⟨b1, b2, b3⟩ := bs c hcF
    obtain ⟨i0, hf, hti, hil⟩ := b3 h0
    have hcd : c < 2 ^ js.length := by omega
    have hle := bit_le hti
    have hpos := Nat.two_pow_pos i0
    have S : Ints h' (.slice va vn vd) T := H.sees 0 rfl
    simp -implicitDefEqProofs [h0, h0']
    refine R_loopO (fun m2 st h4 => ∃ (i : Nat), i + m2 = i0 ∧ st = [(0, .slice oj js.length cj), (1, .int .i64 o), (6, u), (7, .slice va vn vd), (8, .int .i64 c), (9, .int .i64 i)] ∧ h4 = h') (fun I2 hI2 m2 st h4 => ?_) (n := i0)
      ⟨0, Nat.zero_add _, by simp, rfl⟩
    rintro ⟨i, him, rfl, rfl⟩
    have bv := bit_val (c := c) (i := i) (by omega)
    have lc := load_I S (gE_get (show c < T.length by omega))
    have pick_lt : ∀ i, i < i0 → pickC o js 0 T c i = false := fun i hi => by
      have hfe := List.find?_eq_some_iff_getElem.1 hf
      obtain ⟨_, k, hk, hki, hall⟩ := hfe
      have hki' : k = i0 := by simpa using hki
      have := hall i (by omega)
      simpa using this
    have hpi := List.find?_some hf
    by_cases hlt : i < i0
    · have hpf := pick_lt i hlt
      unfold pickC at hpf
      cases ct : c.testBit i
      · rw [ct, if_neg (by simp)] at bv
        simp -implicitDefEqProofs [shr_eq (c := c) (i := i) (by omega), bv, winc (show i < js.length by omega) (by omega)]
        exact ⟨m2 - 1, by omega, on hI2 ⟨i + 1, by omega, rfl, rfl⟩⟩
      · rw [ct, if_pos rfl] at bv
        rw [ct, Bool.true_and] at hpf
        have hne : ¬ lastC o js 0 T c i = gE T c := by simpa using hpf
        have hle2 := bit_le ct
        have hpos2 := Nat.two_pow_pos i
        have tbi := tb (c - 2 ^ i) (by omega)
        have rl := l6Last_run (s0 := 0) (Js.pre H.pre) S hn hg c2 hcd ct (by omega) (by omega)
        simp -implicitDefEqProofs [-indexAddrP_some, shr_eq (c := c) (i := i) (by omega), bv, CL_ret rl, CH_at rl, lc, nt hne, hne, winc (show i < js.length by omega) (by omega)]
        exact ⟨m2 - 1, by omega, on hI2 ⟨i + 1, by omega, rfl, rfl⟩⟩
    · have : i = i0 := by omega
      subst this
      unfold pickC at hpi
      rw [hti, Bool.true_and, beq_iff_eq] at hpi
      rw [hti, if_pos rfl] at bv
      have tbi := tb (c - 2 ^ i) (by omega)
      have rl := l6Last_run (s0 := 0) (Js.pre H.pre) S hn hg c2 hcd hti (by omega) (by omega)
      rw [hpi] at rl
      obtain ⟨b, hb⟩ : ∃ b : Nat, b = 2 ^ i := ⟨_, rfl⟩
      have shy := shl_eq (i := i) (by omega)
      rw [← hb] at shy
      obtain ⟨z, hz⟩ : ∃ z : Nat, z = c - 2 ^ i := ⟨_, rfl⟩
      have wz : IntKind.i64.wrap ((c : Int) - (b : Int)) = (z : Int) := by rw [wrap_ok] <;> omega
      have ex : backC o js 0 T F c = backC o js 0 T F z ++ [(i : Int)] := by
        have e1 : backC o js 0 T F c = backC o js 0 T (F + 1) c := back_more hcF (by omega)
        rw [e1, backC, if_neg (by omega), hf]
        rw [hz]
      have Ho : Holds h h4 [.own (.slice va vn vd) 1 (T.map encI), .own u 1 (us.map encI), .own (.slice none 0 0) 1 (([] : List Int).map encI)] := own_nil H Int encI 1
      have HL := H.lit (sz := 1) (n := 1) (els := ([(i : Int)]).map encI) (len_I _) (by simp)
      have HL : Holds h (h4 ++ [some ⟨[.int .i64 (i : Int)], 1, false⟩]) [.own (.slice va vn vd) 1 (T.map encI), .own u 1 (us.map encI), .own (.slice (some ⟨h4.length, 0, some 1⟩) 1 1) 1 (([(i : Int)]).map encI)] := by simpa [encI] using HL
      obtain ⟨v9, h9, a9, H9, _⟩ := app_I HL 2 rfl (HL.sees 1 rfl) (by simp; omega)
      obtain ⟨uo, un, uc, rfl⟩ : ∃ a n c, u = .slice a n c := by obtain ⟨a, c, e⟩ := (H.sees 1 (v := u) (sz := 1) (els := us.map encI) rfl).shape; exact ⟨_, _, _, e⟩
      have H9 : Holds h h9 [.own (.slice va vn vd) 1 (T.map encI), .own (.slice uo un uc) 1 (us.map encI), .own v9 1 (([(i : Int)] ++ us).map encI)] := H9
      have lu : us.length + 1 ≤ 8 := by
        have e1 := (bs F (Nat.le_refl _)).1.length_eq
        rw [hx, ex] at e1
        have := @bits_len js.length F
        simp at e1
        omega
      simp -implicitDefEqProofs [-indexAddrP_some, shr_eq (c := c) (i := i) (by omega), bv, CL_ret rl, CH_at rl, lc, shy, wz, a9]
      refine ⟨z, by omega, on hI ⟨z, v9, (i : Int) :: us, Nat.le_refl _, by omega, rfl, by rw [hx, ex, List.append_assoc]; rfl, by simp; omega, ?_⟩⟩
      exact H9.drop 1
  · have h0' : ¬ (0 : Int) < c := by omega
    have : c = 0 := by omega
    subst this
    have e0 : backC o js 0 T F 0 = [] := by cases F with | zero => rfl | succ F => rw [backC, if_pos rfl]
    rw [e0, List.nil_append] at hx
    rw [hx] at hK
    have su : Ints h' u us := H.sees 1 rfl
    obtain ⟨uo, un, uc, rfl⟩ : ∃ a n c, u = .slice a n c := by obtain ⟨a, c, e⟩ := su.shape; exact ⟨_, _, _, e⟩
    simp -implicitDefEqProofs [h0, h0']
    exact onK hK ⟨pre_gcU H.pre, _, rfl, Sees.gcU su fun g => plainT (r := [_]) g⟩
/-- The first one of a set that fits. -/
theorem find_bits {q : Nat → Bool} {n c i0 : Nat} (h : (List.range' 0 n).find? (fun i => c.testBit i && q i) = some i0) : ∃ A B : List Int, bitsL n c = A ++ (i0 : Int) :: B ∧ (∀ x, x ∈ A → q x.toNat = false) ∧ q i0 = true := by
  have hp := List.find?_some h
  have hfe := List.find?_eq_some_iff_getElem.1 h
  obtain ⟨_, k, hk, hki, hall⟩ := hfe
  have hki' : k = i0 := by simpa using hki
  subst hki'
  have hkn : k < n := by simpa using hk
  rw [Bool.and_eq_true] at hp
  have hm : (k : Int) ∈ bitsL n c := mem_bits.2 ⟨by omega, by omega, by simpa using hp.1⟩
  obtain ⟨A, B, e⟩ := List.append_of_mem hm
  refine ⟨A, B, e, fun x hx => ?_, hp.2⟩
  have hasc : (bitsL n c).Pairwise (· < ·) := bits_asc
  rw [e, List.pairwise_append] at hasc
  have hlt := hasc.2.2 x hx (k : Int) (List.mem_cons_self ..)
  have hxb := mem_bits.1 (show x ∈ bitsL n c by rw [e]; exact List.mem_append_left _ hx)
  have := hall x.toNat (by omega)
  have e2 : (List.range' 0 n)[x.toNat]'(by simp; omega) = x.toNat := by simp
  rw [e2, hxb.2.2, Bool.true_and] at this
  simpa using this
theorem implSetOrder_run (J : Jobs h vj js) (hl : js.length ≤ 2 ^ 40) : RunsC P G n_impl_SetOrder [vj, .int .i64 o] h fun w h' => h <+: h' ∧ ∃ d, w = .tuple #[d, .bool (setOk js o)] ∧ Ints h' d (if setOk js o = true then backF o js else []) := by
  refine hideC fun K hK => enter_run e_impl_SetOrder (by simp) ?_
  have r1 := IsPlain_run J hl
  have Js := J
  obtain ⟨oj, cj, rfl⟩ := J.shapeT
  have bad : setOk js o = false → K (.tuple #[.slice none 0 0, .bool false]) h := fun e => by
    rw [e] at hK
    exact onK hK ⟨List.prefix_rfl, _, rfl, ⟨by simp, none, 0, rfl, .inl ⟨rfl, rfl, rfl⟩⟩⟩
  cases c1 : plOk js
  · simp -implicitDefEqProofs [CL_ret r1, c1]
    exact bad (by rw [setOk, c1]; rfl)
  cases c2 : sumB o
  · simp -implicitDefEqProofs [CL_ret r1, c1, CL_ret isSumObjective_run, c2]
    exact bad (by rw [setOk, c2, Bool.and_false])
  have c3 : setOk js o = true := by rw [setOk, c1, c2]; rfl
  rw [c3, if_pos rfl] at hK
  obtain ⟨hn, hg, _⟩ := plOk_of c1
  obtain ⟨ho8, ho1, ho4⟩ := sumB_of c2
  have p := plOk_pl c1
  have cb := good_cb hg c2
  have hfl := fullC_lt (js := js)
  have h8 : 2 ^ js.length ≤ 2 ^ 8 := Nat.pow_le_pow_right (by omega) hn
  have hT : tabV o js 0 (2 ^ js.length - 1) = tabF o js := rfl
  have hTl : (tabF o js).length = fullC js + 1 := tabV_len
  have tb := fun (c : Nat) (hc : c ≤ fullC js) => tab_bd (o := o) (s := 0) c1 c2 (by omega) hc (by omega : c < 2 ^ js.length)
  have bs := fun (c : Nat) (hc : c ≤ fullC js) => back_spec p cb (Int.le_refl 0) hfl (n := fullC js) hc hc
  have hF : tabV o js 0 (fullC js) = tabF o js := rfl
  rw [hF] at bs
  simp only [hF] at tb
  have hB : backF o js = backC o js 0 (tabF o js) (fullC js) (fullC js) := rfl
  rw [hB] at hK
  have hfull : ((2 ^ js.length : Nat) : Int) - 1 = (fullC js : Int) := by have := Nat.two_pow_pos js.length; unfold fullC; omega
  have hbf : bitsL js.length (fullC js) = upTo js.length := bits_up
  obtain ⟨d, hd⟩ : ∃ d, d = 2 ^ js.length := ⟨_, rfl⟩
  have sh := shl_eq (i := js.length) (by omega)
  rw [← hd] at sh hfull
  have wf : IntKind.i64.wrap ((d : Int) - 1) = (fullC js : Int) := by rw [hfull, wrap_ok] <;> omega
  have wn : IntKind.i64.wrap ((js.length : Int) - 1) = (js.length : Int) - 1 := by rw [wrap_ok] <;> omega
  simp -implicitDefEqProofs [CL_ret r1, c1, CL_ret isSumObjective_run, c2]
  refine CL_post (setValues_run (s := 0) Js c1 c2 (by omega)) fun v1 h1 ⟨hp1, ho1'⟩ => ?_
  rw [hT] at ho1'
  have H1 := (Holds.start (h := h)).call hp1 ho1'
  obtain ⟨va, vn, vd, rfl⟩ : ∃ a n c, v1 = .slice a n c := by obtain ⟨a, c, e⟩ := ho1'.sees.shape; exact ⟨_, _, _, e⟩
  obtain ⟨v2, h2, mk, H2, hp2, ub, rfl⟩ := make_I H1 (n := js.length) (by omega)
  simp -implicitDefEqProofs [sh, wf, mk, wn]
  generalize tabF o js = T at *
  generalize hFu : fullC js = F at *
  refine R_loopO (fun m st h' => ∃ (c : Nat) (us : List Int), c ≤ F ∧ st = [(0, .slice oj js.length cj), (1, .int .i64 o), (6, .slice va vn vd), (7, .slice ub js.length js.length), (8, .int .i64 c), (9, .int .i64 ((m : Int) - 1))] ∧ backC o js 0 T F F = backC o js 0 T F c ++ us ∧ us.length + m = js.length ∧ (bitsL js.length c).length = m ∧
    Holds h h' [.own (.slice va vn vd) 1 (T.map encI), .own (.slice ub js.length js.length) 1 ((List.replicate m 0 ++ us).map encI)]) (fun I hI m st h' => ?_) (n := js.length)
    ⟨F, [], Nat.le_refl _, by simp, by simp, by simp, by rw [hbf, upTo_len], by simpa using H2⟩
  rintro ⟨c, us, hcF, rfl, hx, hus, hbl, H⟩
  have hcd : c < 2 ^ js.length := by omega
  by_cases h0 : 0 < m
  · obtain ⟨m', rfl⟩ : ∃ m', m = m' + 1 := ⟨m - 1, by omega⟩
    have h0' : (0 : Int) ≤ ((m' + 1 : Nat) : Int) - 1 := by omega
    have hc0 : 0 < c := by
      rcases Nat.eq_zero_or_pos c with g | g
      · subst g; rw [bits_zero] at hbl; simp at hbl
      · exact g
    obtain ⟨b1, b2, b3⟩ := bs c hcF
    obtain ⟨i0, hf, hti, hil⟩ := b3 hc0
    obtain ⟨A, B, eAB, hA, hq⟩ := find_bits (q := fun i => lastC o js 0 T c i == gE T c) hf
    have hle := bit_le hti
    have hpos := Nat.two_pow_pos i0
    have em : (((m' + 1 : Nat) : Int) - 1) = (m' : Int) := by omega
    have h0m : (0 : Int) ≤ (m' : Int) := by omega
    rw [em]
    simp -implicitDefEqProofs [h0m]
    refine CL_post (listOf_run (n := js.length) (by omega) hcd) fun v3 h3 ⟨hp3, ho3⟩ => ?_
    have H3 := H.call hp3 ho3
    have hbit : ∀ x, x ∈ bitsL js.length c → 0 ≤ x ∧ x < js.length ∧ c.testBit x.toNat = true := fun x hx => mem_bits.1 hx
    generalize hys : bitsL js.length c = ys at *
    obtain ⟨oy, cy, rfl⟩ : ∃ a c, v3 = .slice a ys.length c := (show Ints h3 v3 ys from ho3.sees).shapeT
    simp -implicitDefEqProofs
    refine R_loopO (fun m2 st h4 => ∃ (i : Nat), i + m2 = A.length ∧ st = [(0, .slice oj js.length cj), (1, .int .i64 o), (6, .slice va vn vd), (7, .slice ub js.length js.length), (8, .int .i64 c), (9, .int .i64 m'), (38, .slice oy ys.length cy), (39, .int .i64 ys.length), (40, .int .i64 i)] ∧ h4 = h3) (fun I2 hI2 m2 st h4 => ?_) (n := A.length)
      ⟨0, Nat.zero_add _, by simp, rfl⟩
    rintro ⟨i, him, rfl, rfl⟩
    have hyl : ys.length = A.length + (B.length + 1) := by rw [eAB]; simp
    have hli : i < ys.length := by omega
    obtain ⟨y, hy, _⟩ := drop_at hli
    have hyb := hbit y (List.mem_of_getElem? hy)
    have S4 : Ints h4 (.slice oy ys.length cy) ys := H3.sees 2 rfl
    have ST : Ints h4 (.slice va vn vd) T := H3.sees 0 rfl
    have ly := load_I S4 hy
    have lj := load_JX (Js.pre H3.pre) ⟨hyb.1, hyb.2.1⟩
    have lc := load_I ST (gE_get (show c < T.length by omega))
    have hle2 := bit_le hyb.2.2
    have hpos2 := Nat.two_pow_pos y.toNat
    obtain ⟨z, hz⟩ : ∃ z : Nat, z = c - 2 ^ y.toNat := ⟨_, rfl⟩
    have tbz := tb z (by omega)
    have lz := load_I ST (gE_get (show z < T.length by omega))
    obtain ⟨b, hb⟩ : ∃ b : Nat, b = 2 ^ y.toNat := ⟨_, rfl⟩
    have shy := shl_eq (i := y.toNat) (by omega)
    rw [show ((y.toNat : Nat) : Int) = y by omega, ← hb] at shy
    have cv := clr_val (k := c) (by omega) hb hyb.2.2 hz
    have jo : jobOk (jA js y) = true := by
      obtain ⟨q, hq, hql, hqy⟩ := jA_get (js := js) rfl ⟨hyb.1, hyb.2.1⟩
      exact job_at hg hqy
    have rt := fun {hh : Hp} (hp : h <+: hh) => timeOf_run (c := c) (Js.pre hp) hn hg hcd
    have tl50 : 0 ≤ timeC js c ∧ timeC js c ≤ 2 ^ 19 := by
      refine ⟨(good_time hg hn (c := c)).1, ?_⟩
      have key : ∀ l : List Int, timeGo js l ≤ l.length * 50 := by
        intro l
        induction l with
        | nil => simp [timeGo]
        | cons x l ih =>
          have := good_t50 hg x
          have e : timeGo js (x :: l) = (jA js x).t + timeGo js l := rfl
          rw [e, List.length_cons]; omega
      have := key (bitsL js.length c)
      have := @bits_len js.length c
      have e : timeC js c = timeGo js (bitsL js.length c) := rfl
      rw [e]; omega
    have ra := fun {hh : Hp} => add_run (h := hh) (j := jA js y) (a := gE T z) (e := timeC js c) (o := o) (f := false) jo tl50.1 (by omega) ho8 (by omega)
    have es : stepV o false (gE T z) (jA js y) (timeC js c) = lastC o js 0 T c y.toNat := by
      unfold stepV lastC
      rw [if_neg ho1, if_neg ho4, hz, show ((y.toNat : Nat) : Int) = y by omega, Int.zero_add]
    rw [es] at ra
    by_cases hlt : i < A.length
    · have hyA : y ∈ A := by rw [eAB, List.getElem?_append_left hlt] at hy; exact List.mem_of_getElem? hy
      have hne : ¬ lastC o js 0 T c y.toNat = gE T c := by simpa using hA y hyA
      simp -implicitDefEqProofs [-indexAddrP_some, hli, ly, shy, cv, lz, lj, CL_ret (rt H3.pre), CH_at (rt H3.pre), CL_ret ra, CH_at ra, lc, nb hne, hne, winc hli (by omega)]
      exact ⟨m2 - 1, by omega, on hI2 ⟨i + 1, by omega, rfl, rfl⟩⟩
    · have hiA : i = A.length := by omega
      have hyi : y = (i0 : Int) := by
        rw [eAB, hiA, List.getElem?_append_right (Nat.le_refl _), Nat.sub_self] at hy
        simpa using hy.symm
      subst hyi
      rw [Int.toNat_natCast] at *
      rw [beq_iff_eq] at hq
      rw [hq] at ra
      obtain ⟨h5, s5, H5, k5⟩ := put_I H3 1 rfl (j := m') (by simp; omega) (i0 : Int)
      have e5 : (List.replicate (m' + 1) 0 ++ us).set m' (i0 : Int) = List.replicate m' 0 ++ (i0 : Int) :: us := by
        rw [List.set_append_left _ _ (by simp)]
        have : (List.replicate (m' + 1) (0 : Int)).set m' (i0 : Int) = List.replicate m' 0 ++ [(i0 : Int)] := by
          rw [show List.replicate (m' + 1) (0 : Int) = List.replicate m' 0 ++ [0] by rw [List.replicate_succ']]
          rw [List.set_append_right (h := by simp)]; simp
        rw [this, List.append_assoc]; rfl
      rw [e5] at H5
      have ix : indexAddrP P h4 t_S_int (.slice ub js.length js.length) (.int .i64 m') = some (.pointer (some (addP (base (.slice ub js.length js.length)) m'))) := by
        have hg2 : (List.replicate (m' + 1) (0 : Int) ++ us)[m']? = some 0 := by rw [List.getElem?_append_left (by simp), List.getElem?_replicate, if_pos (by omega)]
        exact (load_I (H3.sees 1 rfl) hg2).1
      have ex : backC o js 0 T F c = backC o js 0 T F z ++ [(i0 : Int)] := by
        have e1 : backC o js 0 T F c = backC o js 0 T (F + 1) c := back_more hcF (by omega)
        rw [e1, backC, if_neg (by omega), hf]
        rw [hz]
      have hdel := (bits_del hil hti).length_eq
      rw [hys, ← hz] at hdel
      simp only [List.length_cons] at hdel
      have wm : IntKind.i64.wrap ((m' : Int) - 1) = (m' : Int) - 1 := by rw [wrap_ok] <;> omega
      simp -implicitDefEqProofs [-indexAddrP_some, hli, ly, shy, cv, lz, lj, CL_ret (rt H3.pre), CH_at (rt H3.pre), CL_ret ra, CH_at ra, lc, ix, s5, wm]
      exact ⟨m', by omega, on hI ⟨z, (i0 : Int) :: us, by omega, rfl, by rw [hx, ex, List.append_assoc]; rfl, by simp; omega, by omega, H5.take 2⟩⟩
  · have h0' : ¬ (0 : Int) ≤ (m : Int) - 1 := by omega
    have hm : m = 0 := by omega
    subst hm
    have hc0 : c = 0 := by
      rcases Nat.eq_zero_or_pos c with g | g
      · exact g
      · obtain ⟨i, hi, ht⟩ := bits_ne g hcd
        have hmem : (i : Int) ∈ bitsL js.length c := mem_bits.2 ⟨by omega, by omega, by simpa using ht⟩
        rw [List.eq_nil_of_length_eq_zero hbl] at hmem
        cases hmem
    subst hc0
    have e0 : backC o js 0 T F 0 = [] := by cases F with | zero => rfl | succ F => rw [backC, if_pos rfl]
    rw [e0, List.nil_append] at hx
    rw [hx] at hK
    have su : Ints h' (.slice ub js.length js.length) us := by simpa using H.sees 1 rfl
    simp -implicitDefEqProofs [h0']
    exact onK hK ⟨pre_gcU H.pre, _, rfl, Sees.gcU su fun g => plainT (r := [_]) g⟩
/-! ### total times -/
def totT (js : List Job) : Int := (js.map (·.t)).sum
theorem tot_bd {js : List Job} (hg : goodL js = true) : 0 ≤ totT js ∧ totT js ≤ js.length * 50 := by
  induction js with
  | nil => simp [totT]
  | cons j js ih =>
    rw [goodL_cons, Bool.and_eq_true] at hg
    have := job_of hg.1
    have ih := ih hg.2
    have e : totT (j :: js) = j.t + totT js := rfl
    rw [e, List.length_cons]; omega
theorem tot_take {js : List Job} {i : Nat} {y : Job} (hy : js[i]? = some y) : totT (js.take (i + 1)) = totT (js.take i) + y.t := by
  unfold totT; rw [take_succ' hy, List.map_append, List.sum_append]; simp
theorem good_take {js : List Job} (hg : goodL js = true) {i : Nat} : goodL (js.take i) = true := by
  rw [goodL, List.all_eq_true] at hg ⊢
  exact fun x hx => hg x (List.mem_of_mem_take hx)
theorem l2Times_run (J : Jobs h vj js) (hn : js.length ≤ 8) (hg : goodL js = true) : Ret P G n_spec_l2Times [vj] h (.int .i64 (totT js)) h := by
  refine enter_run e_spec_l2Times (by simp) ?_
  have Js := J
  obtain ⟨oj, cj, rfl⟩ := J.shapeT
  simp -implicitDefEqProofs
  refine R_loopO (fun m s h' => ∃ (i : Nat), i + m = js.length ∧ s = [(0, .slice oj js.length cj), (3, .int .i64 (totT (js.take i))), (4, .int .i64 i)] ∧ h' = h) (fun I hI m s h' => ?_) (n := js.length)
    ⟨0, Nat.zero_add _, by simp [totT], rfl⟩
  rintro ⟨i, hi, rfl, rfl⟩
  by_cases hlt : i < js.length
  · obtain ⟨y, hy, _⟩ := drop_at hlt
    have lj := load_J Js hy
    have tb := tot_bd (good_take hg (i := i))
    have jb := job_of (job_at hg hy)
    have tl : (js.take i).length ≤ 8 := by rw [List.length_take]; omega
    have w1 : IntKind.i64.wrap (totT (js.take i) + y.t) = totT (js.take (i + 1)) := by rw [tot_take hy, wrap_ok] <;> omega
    simp -implicitDefEqProofs [-indexAddrP_some, hlt, lj, w1, winc hlt (by omega)]
    exact ⟨m - 1, by omega, on hI ⟨i + 1, by omega, rfl, rfl⟩⟩
  · rw [List.take_of_length_le (by omega)]
    simp -implicitDefEqProofs [hlt]
theorem totalOf_run (J : Jobs h vj js) (hn : js.length ≤ 8) (hg : goodL js = true) : Ret P G n_impl_totalOf [vj] h (.int .i64 (totT js)) h := by
  refine enter_run e_impl_totalOf (by simp) ?_
  have Js := J
  obtain ⟨oj, cj, rfl⟩ := J.shapeT
  simp -implicitDefEqProofs
  refine R_loopO (fun m s h' => ∃ (i : Nat), i + m = js.length ∧ s = [(3, .int .i64 (totT (js.take i))), (6, .slice oj js.length cj), (7, .int .i64 js.length), (8, .int .i64 i)] ∧ h <+: h') (fun I hI m s h' => ?_) (n := js.length)
    ⟨0, Nat.zero_add _, by simp [totT], List.prefix_rfl⟩
  rintro ⟨i, hi, rfl, hp⟩
  by_cases hlt : i < js.length
  · obtain ⟨y, hy, _⟩ := drop_at hlt
    have lj := load_J (Js.pre hp) hy
    have tb := tot_bd (good_take hg (i := i))
    have jb := job_of (job_at hg hy)
    have tl : (js.take i).length ≤ 8 := by rw [List.length_take]; omega
    have w1 : IntKind.i64.wrap (totT (js.take i) + y.t) = totT (js.take (i + 1)) := by rw [tot_take hy, wrap_ok] <;> omega
    simp -implicitDefEqProofs [-indexAddrP_some, hlt, lj, w1, winc hlt (by omega)]
    exact ⟨m - 1, by omega, on hI ⟨i + 1, by omega, rfl, hp.trans (List.prefix_append ..)⟩⟩
  · rw [List.take_of_length_le (by omega)]
    simp -implicitDefEqProofs [hlt]
    exact gcP hp rfl
def ttV (js : List Job) : Int := if plOk js = true then totT js else 0
theorem implTotalTime_run (J : Jobs h vj js) (hl : js.length ≤ 2 ^ 40) : Ret P G n_impl_TotalTime [vj] h (.tuple #[.int .i64 (ttV js), .bool (plOk js)]) h := by
  refine enter_run e_impl_TotalTime (by simp) ?_
  have r1 := IsPlain_run J hl
  have Js := J
  obtain ⟨oj, cj, rfl⟩ := J.shapeT
  cases c1 : plOk js
  · simp -implicitDefEqProofs [CL_ret r1, c1, ttV]
  · have r2 := totalOf_run Js (plOk_of c1).1 (plOk_of c1).2.1
    simp -implicitDefEqProofs [CL_ret r1, c1, ttV, CL_ret r2]
theorem specTotalTime_run (J : Jobs h vj js) (hl : js.length ≤ 2 ^ 40) : Ret P G n_spec_TotalTime [vj] h (.tuple #[.int .i64 (ttV js), .bool (plOk js)]) h := by
  refine enter_run e_spec_TotalTime (by simp) ?_
  have r1 := l6Good_run J hl
  have Js := J
  obtain ⟨oj, cj, rfl⟩ := J.shapeT
  cases c1 : plOk js
  · simp -implicitDefEqProofs [CL_ret r1, c1, ttV]
  · have r2 := l2Times_run Js (plOk_of c1).1 (plOk_of c1).2.1
    simp -implicitDefEqProofs [CL_ret r1, c1, ttV, CL_ret r2]
end
end Go.Pm.PP

/- FnSetValues in the small machine. -/
set_option linter.unusedVariables false
set_option linter.unusedSimpArgs false
set_option maxRecDepth 4000
set_option maxHeartbeats 16000000
namespace Go.Pm.PP
open Go.Pm Go.Proofs Go.Pm.PE
section
variable {h0 h : Hp} {r n : Nat} {vc : Value} {L : List Asn}
theorem sums_run (B : By h0 vc) (C : Cur h0 h r vc n L) (hn : n ≤ 2 ^ 29) : RunsC P G n_spec_l1Cur_sums [.pointer (some ⟨r, 0, some 3⟩)] h fun v h' => ∃ x : Int, v = .int .i64 x ∧ Cur h0 h' r vc (n + 6) L := by
  refine hideC fun K hK => enter_run e_spec_l1Cur_sums (by simp) ?_
  simp -implicitDefEqProofs
  refine CL_post (one_run B C (by omega) (by omega)) fun v h1 ⟨b, ev, C1⟩ => ?_
  subst ev
  cases b
  · have C2 := C1.lit [2, 3, 5, 6, 7, 8]
    simp -implicitDefEqProofs
    refine CL_post (among_run B C2 (by omega) snoc_get (by simp) (by simp)) fun v h2 ⟨x, ev, _, C3⟩ => ?_
    subst ev
    simp -implicitDefEqProofs
    exact onK hK ⟨_, rfl, C.gc (C3.weak.mono (by omega))⟩
  · simp -implicitDefEqProofs
    refine CL_post (objective_run B C1 (by omega)) fun v h2 ⟨x, ev, C2⟩ => ?_
    subst ev
    simp -implicitDefEqProofs
    exact onK hK ⟨_, rfl, C.gc (C2.mono (by omega))⟩
theorem DrawSetValues_run {h : Hp} {vc : Value} (B : By h vc) : RunsC P G n_spec_DrawSetValues [vc] h fun v h' => h <+: h' ∧ ∃ (js : List Job) (x : Int) (u : Value), v = .tuple #[u, .int .i64 x] ∧ js.length ≤ 9 ∧ Jobs h' u js := by
  refine hideC fun K hK => enter_run e_spec_DrawSetValues (by simp) ?_
  have C0 : Cur h (h ++ [some ⟨[vc, .int .i64 0, .int .u64 0], 0, false⟩]) h.length vc 0 [] := ⟨0, 0, by omega, by omega, (Holds.start (h := h)).alloc _⟩
  obtain ⟨bs, Sb, hb, hbl⟩ := B
  have Bs : By h vc := ⟨bs, Sb, hb, hbl⟩
  obtain ⟨ob, cb, rfl⟩ := Sb.shapeT
  simp -implicitDefEqProofs
  refine CL_post (plainJobs_run Bs C0 (by omega) (most := 6) (by omega)) fun u h1 ⟨js, hl, C1⟩ => ?_
  obtain ⟨ua, uc, rfl⟩ : ∃ a c, u = .slice a js.length c := C1.seesJ.shapeT
  simp -implicitDefEqProofs
  refine CL_post (sums_run Bs C1 (by omega)) fun v h2 ⟨x, ev, C2⟩ => ?_
  subst ev
  simp -implicitDefEqProofs
  obtain ⟨a, s, _, _, H⟩ := C2
  have H2 : Holds h h2 [.own (.slice ua js.length uc) 4 (js.map encJ)] := H.tail
  have := draw_JI (v := .slice ua js.length uc) (x := x) H2
  exact onK hK ⟨this.1, js, x, _, rfl, hl, this.2⟩
end
/-! ### in plain terms -/
theorem ord_of_perm {n : Nat} {xs : List Int} (h : xs.Perm (upTo n)) : Ord n xs := ⟨by rw [h.length_eq, upTo_len], fun x hx => mem_upTo.1 (h.mem_iff.1 hx), h.nodup_iff.2 (upTo_nodup _)⟩
theorem back_best {js : List Job} {o : Int} (hok : setOk js o = true) : Ord js.length (backF o js) ∧ valX o js (backF o js) = gE (tabF o js) (fullC js) ∧ bestV o js = gE (tabF o js) (fullC js) := by
  rw [setOk, Bool.and_eq_true] at hok
  obtain ⟨hn, hg, _⟩ := plOk_of hok.1
  obtain ⟨ho8, ho1, ho4⟩ := sumB_of hok.2
  have p := plOk_pl hok.1
  have cb := good_cb hg hok.2
  obtain ⟨b1, b2, _⟩ := back_spec p cb (Int.le_refl 0) fullC_lt (n := fullC js) (Nat.le_refl (fullC js)) (Nat.le_refl _)
  have hbf : bitsL js.length (fullC js) = upTo js.length := bits_up
  rw [hbf] at b1
  have o1 : Ord js.length (backF o js) := ord_of_perm b1
  have v1 : valX o js (backF o js) = gE (tabF o js) (fullC js) := by
    unfold valX
    rw [val_sum ho1 ho4 (ord_prm o1)]
    exact b2
  refine ⟨o1, v1, ?_⟩
  obtain ⟨h1, h2, h3, h4⟩ := best_facts (f := valX o js) (n := js.length) hn
  have e : bestV o js = (bestR (valX o js) js.length).v := rfl
  have g1 := h4 _ o1
  have g2 := (tab_spec (o := o) (s := 0) p cb (Int.le_refl 0) (Nat.le_refl (fullC js)) fullC_lt).2 (bestR (valX o js) js.length).o (by rw [hbf]; exact ord_perm h3)
  have g3 : valX o js (bestR (valX o js) js.length).o = sumGo o js 0 (bestR (valX o js) js.length).o := val_sum ho1 ho4 (ord_prm h3)
  have g2 : gE (tabF o js) (fullC js) ≤ sumGo o js 0 (bestR (valX o js) js.length).o := g2
  rw [e]; omega
theorem tot_sum {js : List Job} : totT js = ((upTo js.length).map fun x => (jA js x).t).sum := by
  unfold totT upTo
  rw [List.map_map]
  have : js = (List.range js.length).map fun i => (js[i]?).getD ⟨0, 0, 0, 0⟩ := by
    apply List.ext_getElem?
    intro i
    rw [List.getElem?_map]
    rcases Nat.lt_or_ge i js.length with g | g
    · rw [List.getElem?_range g]; simp [List.getElem?_eq_getElem g]
    · rw [List.getElem?_eq_none g, List.getElem?_eq_none (by simpa using g)]; rfl
  conv => lhs; rw [this]
  rw [List.map_map]
  rfl
theorem end_tot {js : List Job} (hok : plOk js = true) {xs : List Int} (o : Ord js.length xs) : valX 1 js xs = totT js := by
  have p := plOk_pl hok
  unfold valX
  rw [val_end p.t (ord_prm o), nowGo_plain p (Int.le_refl 0), tot_sum, Int.zero_add, perm_time (ord_perm o)]
theorem law_SetValues {h : Hp} {vc : Value} {bs : List Int} (Sb : Sees h vc 1 (bs.map encU)) (hb : ∀ b, b ∈ bs → 0 ≤ b ∧ b ≤ 255) : Ret P G n_laws_FnSetValues [vc] h (.bool true) h := by
  refine enter_run e_laws_FnSetValues (by simp) ?_
  have r0 := rBig_run Sb
  by_cases c0 : (65536 : Int) < bs.length
  · simp -implicitDefEqProofs [CL_ret r0, c0]
  have B : By h vc := ⟨bs, Sb, hb, by omega⟩
  obtain ⟨ob, cb, rfl⟩ := Sb.shapeT
  simp -implicitDefEqProofs [CL_ret r0, c0]
  refine CL_post (DrawSetValues_run B) fun v h1 ⟨hp1, js, o, u, ev, hjl, J⟩ => ?_
  subst ev
  have l1 : js.length ≤ 2 ^ 40 := by omega
  have Js := J
  obtain ⟨ja, jc, rfl⟩ := J.shapeT
  simp -implicitDefEqProofs
  refine CL_post (implSetValues_run (o := o) Js l1) fun v h2 ⟨p2, d1, ev, D1⟩ => ?_
  subst ev
  simp -implicitDefEqProofs
  refine CL_post (specSetValues_run (o := o) (Js.pre p2) l1) fun v h3 ⟨p3, d2, ev, D2⟩ => ?_
  subst ev
  have hT : tabV o js 0 (2 ^ js.length - 1) = tabF o js := rfl
  have hso : (plOk js && sumB o) = setOk js o := rfl
  rw [hT, hso] at D1 D2
  simp only [hso]
  have hTl : (tabF o js).length = fullC js + 1 := tabV_len
  have hl0 : (if setOk js o = true then tabF o js else []).length ≤ 2 ^ 40 := by
    split
    · rename_i g
      rw [setOk, Bool.and_eq_true] at g
      have hn := (plOk_of g.1).1
      have : 2 ^ js.length ≤ 2 ^ 8 := Nat.pow_le_pow_right (by omega) hn
      rw [hTl]; have := fullC_lt (js := js); omega
    · simp
  have q1 := rInts_run (D1.pre p3) D2 hl0
  have p13 := p2.trans p3
  simp -implicitDefEqProofs [CL_ret q1]
  refine CL_post (implSetOrder_run (o := o) (Js.pre p13) l1) fun v h4 ⟨p4, e1, ev, E1⟩ => ?_
  subst ev
  simp -implicitDefEqProofs
  refine CL_post (specSetOrder_run (o := o) (Js.pre (p13.trans p4)) l1) fun v h5 ⟨p5, e2, ev, E2⟩ => ?_
  subst ev
  have p15 := p13.trans (p4.trans p5)
  have hp5 : h <+: h5 := hp1.trans p15
  have hl1 : (if setOk js o = true then backF o js else []).length ≤ 2 ^ 40 := by
    split
    · rename_i g
      rw [(back_best g).1.len]; exact l1
    · simp
  have q2 := rInts_run (E1.pre p5) E2 hl1
  have t1 := implTotalTime_run (Js.pre p15) l1
  have t2 := specTotalTime_run (Js.pre p15) l1
  cases c1 : setOk js o
  · simp -implicitDefEqProofs [CL_ret q2, CL_ret t1, CL_ret t2, c1]
    exact gcP hp5 rfl
  have c2 := c1
  rw [setOk, Bool.and_eq_true] at c2
  obtain ⟨hn, hg, _⟩ := plOk_of c2.1
  obtain ⟨ho8, ho1, ho4⟩ := sumB_of c2.2
  have hp := plOk_pl c2.1
  have hcb := good_cb hg c2.2
  rw [c1, if_pos rfl] at D1 E1
  obtain ⟨o1, v1, b1⟩ := back_best c1
  have jok : jOk js = true := by have := c2.1; rw [plOk, Bool.and_eq_true] at this; exact this.1
  have okb : okB js o = true := by rw [okB, jok, Bool.true_and]; simp [inB]; omega
  have okv : okV js (backF o js) o = true := by rw [okV, jok, ord_ok hn o1]; simp [inB]; omega
  have okv1 : okV js (backF o js) 1 = true := by rw [okV, jok, ord_ok hn o1]; rfl
  have rb := rBest_run (o := o) (Js.pre p15) l1
  rw [bR_v okb, b1] at rb
  have lE : (backF o js).length ≤ 2 ^ 40 := by rw [o1.len]; exact l1
  have rv := implValueOf_run (o := o) (Js.pre p15) (E1.pre p5) l1 lE
  rw [show vOf js (backF o js) o = gE (tabF o js) (fullC js) by rw [vOf, if_pos okv, v1], okv] at rv
  have rv1 := implValueOf_run (o := 1) (Js.pre p15) (E1.pre p5) l1 lE
  rw [show vOf js (backF o js) 1 = totT js by rw [vOf, if_pos okv1, end_tot c2.1 o1], okv1] at rv1
  rw [show ttV js = totT js by rw [ttV, if_pos c2.1]] at t1 t2
  have D5 : Ints h5 d1 (tabF o js) := D1.pre (p3.trans (p4.trans p5))
  obtain ⟨d, hd⟩ : ∃ d, d = 2 ^ js.length := ⟨_, rfl⟩
  have d1' : 1 ≤ d ∧ d ≤ 256 := by
    have := Nat.two_pow_pos js.length
    have : 2 ^ js.length ≤ 2 ^ 8 := Nat.pow_le_pow_right (by omega) hn
    omega
  have hF : fullC js = d - 1 := by rw [hd]; rfl
  have hTl2 : (tabF o js).length = d := by rw [hTl, hF]; omega
  have sh := shl_eq (i := js.length) (by omega)
  rw [← hd] at sh
  have wd : IntKind.i64.wrap ((d : Int) - 1) = ((d - 1 : Nat) : Int) := by rw [wrap_ok] <;> omega
  obtain ⟨da, dc, rfl⟩ : ∃ a c, d1 = .slice a d c := by obtain ⟨a, c, e⟩ := D5.shapeT; exact ⟨a, c, by rw [e, hTl2]⟩
  have lF := load_I D5 (gE_get (show d - 1 < (tabF o js).length by omega))
  have mono : ∀ c i, c < d → c.testBit i = true → gE (tabF o js) (c - 2 ^ i) ≤ gE (tabF o js) c := fun c i hc hi => tab_mono hp hcb (Int.le_refl 0) (by rw [hF]; omega) (by omega) hi
  rw [hF] at rb rv
  obtain ⟨ea, en, ec, rfl⟩ : ∃ a n c, e1 = .slice a n c := by obtain ⟨a, c, e⟩ := E1.shape; exact ⟨_, _, _, e⟩
  generalize tabF o js = T at *
  simp -implicitDefEqProofs [-indexAddrP_some, CL_ret q2, CL_ret t1, CL_ret t2, c1, c2.1, CL_ret rb, CL_ret rv, CL_ret rv1, sh, wd, lF]
  refine R_loopO (fun m s h' => ∃ (c : Nat), c + m = d ∧ s = [(3, .slice ja js.length jc), (5, .slice da d dc), (23, .int .i64 c)] ∧ h' = h5) (fun I hI m s h' => ?_) (n := d)
    ⟨0, Nat.zero_add _, by simp, rfl⟩
  rintro ⟨c, hcm, rfl, rfl⟩
  by_cases hlt : c < d
  · simp -implicitDefEqProofs [hlt]
    refine R_loopO (fun m2 s h2 => ∃ (i : Nat), i + m2 = js.length ∧ s = [(3, .slice ja js.length jc), (5, .slice da d dc), (23, .int .i64 c), (24, .int .i64 i)] ∧ h2 = h') (fun I2 hI2 m2 s h2 => ?_) (n := js.length)
      ⟨0, Nat.zero_add _, by simp, rfl⟩
    rintro ⟨i, him, rfl, rfl⟩
    by_cases hli : i < js.length
    · have bv := bit_val (c := c) (i := i) (by omega)
      cases ct : c.testBit i
      · rw [ct, if_neg (by simp)] at bv
        simp -implicitDefEqProofs [hli, shr_eq (c := c) (i := i) (by omega), bv, winc hli (by omega)]
        exact ⟨m2 - 1, by omega, on hI2 ⟨i + 1, by omega, rfl, rfl⟩⟩
      · rw [ct, if_pos rfl] at bv
        have hle := bit_le ct
        have hm := mono c i hlt ct
        obtain ⟨b, hb2⟩ : ∃ b : Nat, b = 2 ^ i := ⟨_, rfl⟩
        have shy := shl_eq (i := i) (by omega)
        rw [← hb2] at shy
        obtain ⟨z, hz⟩ : ∃ z : Nat, z = c - 2 ^ i := ⟨_, rfl⟩
        have wz : IntKind.i64.wrap ((c : Int) - (b : Int)) = (z : Int) := by rw [wrap_ok] <;> omega
        rw [← hz] at hm
        have lz := load_I D5 (gE_get (show z < T.length by omega))
        have lc := load_I D5 (gE_get (show c < T.length by omega))
        have hm' : ¬ gE T c < gE T z := by omega
        simp -implicitDefEqProofs [-indexAddrP_some, hli, shr_eq (c := c) (i := i) (by omega), bv, shy, wz, lz, lc, hm', winc hli (by omega)]
        exact ⟨m2 - 1, by omega, on hI2 ⟨i + 1, by omega, rfl, rfl⟩⟩
    · simp -implicitDefEqProofs [hli, winc hlt (by omega)]
      exact ⟨m - 1, by omega, on hI ⟨c + 1, by omega, rfl, rfl⟩⟩
  · simp -implicitDefEqProofs [hlt]
    exact gcP hp5 rfl
end Go.Pm.PP
