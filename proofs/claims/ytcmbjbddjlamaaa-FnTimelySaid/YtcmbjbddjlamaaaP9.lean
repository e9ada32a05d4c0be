/- The texts PvMh, PvHi, PvMi, PvMj, PvL, PvM, PvK of this work: Timely orders, the least weight of late jobs, late jobs; comparisons of the laws. -/
import Derived.ProofKit
import Derived.OpenShut
import Derived.Carry
import Derived.Test.YtcmbjbddjlamaaaP8
import Derived.Test.YtcmbjbddjlamaaaP7
import Derived.Test.YtcmbjbddjlamaaaM4
/- Timely orders, the least weight of late jobs, late jobs; comparisons of the laws. -/
set_option linter.unusedVariables false
set_option linter.unusedSimpArgs false
set_option maxRecDepth 4000
set_option maxHeartbeats 16000000
namespace Go.Pm.PP
open Go.Pm Go.Proofs Go.Pm.PE
section
variable {h : Hp} {vj v u : Value} {js : List Job} {xs ys : List Int}
theorem specWeightTable_run (J : Jobs h vj js) (hl : js.length ≤ 2 ^ 40) : RunsC P G n_spec_WeightTable [vj] h fun w h' => h <+: h' ∧ ∃ d, w = .tuple #[d, .bool (plOk js)] ∧ Ints h' d (if plOk js = true then wtab js else []) := by
  refine hideC fun K hK => enter_run e_spec_WeightTable (by simp) ?_
  have Js := J
  obtain ⟨oj, cj, rfl⟩ := J.shapeT
  have r1 := l6Good_run Js hl
  cases c1 : plOk js
  · rw [c1] at r1
    rw [c1] at hK
    simp -implicitDefEqProofs [CL_ret r1]
    exact onK hK ⟨List.prefix_rfl, _, rfl, nil_L⟩
  · rw [c1] at r1
    rw [c1, if_pos rfl] at hK
    simp -implicitDefEqProofs [CL_ret r1]
    refine CL_post (l6Table_run Js c1) fun w h1 ⟨hp1, o1⟩ => ?_
    obtain ⟨wa, wn, wc, rfl⟩ : ∃ a n c, w = .slice a n c := by obtain ⟨a, c, e⟩ := o1.sees.shape; exact ⟨_, _, _, e⟩
    have H := (Holds.start (h := h)).call hp1 o1
    simp -implicitDefEqProofs
    exact onK hK ⟨(H.ret2 0 rfl).1, _, rfl, (H.ret2 0 rfl).2.sees⟩
theorem wbd (hok : plOk js = true) : 0 ≤ tsm (wJ js) (upTo js.length) ∧ tsm (wJ js) (upTo js.length) ≤ 400 ∧ 0 ≤ mxT (wtab js) ∧ mxT (wtab js) ≤ tsm (wJ js) (upTo js.length) := by
  obtain ⟨hn, hg, _⟩ := plOk_of hok
  have h1 := tsm_nonneg (w := wJ js) (wJ_nn hg) (S := upTo js.length)
  have key : ∀ l : List Int, tsm (wJ js) l ≤ l.length * 50 := by
    intro l
    induction l with
    | nil => simp [tsm]
    | cons x l ih =>
      have := jw_bd hg x
      rw [tsm_cons, List.length_cons]
      have e : wJ js x = (jA js x).w := rfl
      push_cast
      omega
  have h2 := key (upTo js.length)
  rw [upTo_len] at h2
  obtain ⟨c, _, _, h3⟩ := wtab_att hok
  have h4 := tsm_sub (wJ_nn hg) (S := bitsL js.length c) (D := upTo js.length) bits_sub
  have h5 := tsm_nonneg (w := wJ js) (wJ_nn hg) (S := bitsL js.length c)
  omega
theorem implLeastLateWeight_run (J : Jobs h vj js) (hl : js.length ≤ 2 ^ 40) : Ret P G n_impl_LeastLateWeight [vj] h (.tuple #[.int .i64 (llW js), .bool (plOk js)]) h := by
  refine enter_run e_impl_LeastLateWeight (by simp) ?_
  have Js := J
  obtain ⟨oj, cj, rfl⟩ := J.shapeT
  have r1 := IsPlain_run Js hl
  cases c1 : plOk js
  · rw [c1] at r1
    simp -implicitDefEqProofs [CL_ret r1, llW, c1]
  rw [c1] at r1
  obtain ⟨hn, hg, _⟩ := plOk_of c1
  obtain ⟨b0, b1, b2, b3⟩ := wbd c1
  have e : llW js = tsm (wJ js) (upTo js.length) - mxT (wtab js) := by rw [llW, c1, if_pos rfl]
  rw [e]
  have hlen := wtab_len c1
  obtain ⟨_, t1, t2⟩ := tot400 c1
  simp -implicitDefEqProofs [CL_ret r1]
  refine CL_post (weightTable_run Js c1) fun w h1 ⟨hp1, o1⟩ => ?_
  have S1 : Ints h1 w (wtab js) := o1.sees
  generalize wtab js = T at *
  obtain ⟨wa, wc, rfl⟩ : ∃ a c, w = .slice a T.length c := S1.shapeT
  simp -implicitDefEqProofs
  refine R_loopO (fun m s h' => ∃ (i : Nat), i + m = T.length ∧ s = [(0, .slice oj js.length cj), (4, .int .i64 (mxT (T.take i))), (11, .slice wa T.length wc), (12, .int .i64 T.length), (13, .int .i64 i)] ∧ h' = h1) (fun I hI m s h' => ?_) (n := T.length) ⟨0, Nat.zero_add _, by simp [mxT], rfl⟩
  rintro ⟨i, hi, rfl, rfl⟩
  by_cases hlt : i < T.length
  · have hlt' : (i : Int) < T.length := by omega
    obtain ⟨y, hy, _⟩ := drop_at hlt
    have e : mxT (T.take (i + 1)) = max (mxT (T.take i)) y := by unfold mxT; rw [take_succ' hy, List.foldl_append]; rfl
    have mx : foldI (fun x y => if x < y then y else x) (mxT (T.take i)) [.int .i64 y] = some (max (mxT (T.take i)) y) := by simp [foldI, mx_if]
    simp -implicitDefEqProofs [-indexAddrP_some, hlt, hlt', load_I S1 hy, mx, winc hlt (by omega)]
    exact ⟨m - 1, by omega, on hI ⟨i + 1, by omega, by rw [e]; rfl, rfl⟩⟩
  · have hlt' : ¬ (i : Int) < T.length := by omega
    rw [List.take_of_length_le (by omega)]
    simp -implicitDefEqProofs [hlt, hlt']
    refine CL_post (numbersTo_run (n := js.length) (by omega)) fun vn h2 ⟨hp2, o2⟩ => ?_
    have rr := ratioOf_run (Js.pre (hp1.trans hp2)) o2.sees (fun x hx => mem_upTo.1 hx) hg (by rw [upTo_len]; omega)
    have k2 : (rat1 js (upTo js.length)).1 = tsm (wJ js) (upTo js.length) := rfl
    have iag : indexP P t_A2_int (ptv (rat1 js (upTo js.length))) (.int .i64 0) = some (.int .i64 (tsm (wJ js) (upTo js.length))) := by rw [← k2]; simp [indexP]
    have ws : IntKind.i64.wrap (tsm (wJ js) (upTo js.length) - mxT T) = tsm (wJ js) (upTo js.length) - mxT T := by rw [wrap_ok] <;> omega
    simp -implicitDefEqProofs [CL_ret rr, iag, ws]
    exact gcP (hp1.trans hp2) rfl
theorem specLeastLateWeight_run (J : Jobs h vj js) (hl : js.length ≤ 2 ^ 40) : Ret P G n_spec_LeastLateWeight [vj] h (.tuple #[.int .i64 (llW js), .bool (plOk js)]) h := by
  refine enter_run e_spec_LeastLateWeight (by simp) ?_
  have Js := J
  obtain ⟨oj, cj, rfl⟩ := J.shapeT
  have r1 := l6Good_run Js hl
  cases c1 : plOk js
  · rw [c1] at r1
    simp -implicitDefEqProofs [CL_ret r1, llW, c1]
  rw [c1] at r1
  obtain ⟨hn, hg, _⟩ := plOk_of c1
  obtain ⟨b0, b1, b2, b3⟩ := wbd c1
  have e : llW js = tsm (wJ js) (upTo js.length) - mxT (wtab js) := by rw [llW, c1, if_pos rfl]
  rw [e]
  have hlen := wtab_len c1
  obtain ⟨_, t1, t2⟩ := tot400 c1
  simp -implicitDefEqProofs [CL_ret r1]
  have upt : ∀ {i : Nat}, i < js.length → (upTo js.length)[i]? = some (i : Int) := fun {i} hi => by unfold upTo; rw [List.getElem?_map, List.getElem?_range hi]; rfl
  refine R_loopO (fun m s h' => ∃ (i : Nat), i + m = js.length ∧ s = [(0, .slice oj js.length cj), (4, .int .i64 (tsm (wJ js) ((upTo js.length).take i))), (5, .int .i64 i)] ∧ h' = h) (fun I hI m s h' => ?_) (n := js.length) ⟨0, Nat.zero_add _, by simp [tsm], rfl⟩
  rintro ⟨i, hi, rfl, rfl⟩
  by_cases hlt : i < js.length
  · have hlt' : (i : Int) < js.length := by omega
    have lj := load_JX Js (x := (i : Int)) ⟨by omega, by omega⟩
    simp only [Int.toNat_natCast] at lj
    have e : tsm (wJ js) ((upTo js.length).take (i + 1)) = tsm (wJ js) ((upTo js.length).take i) + (jA js i).w := by rw [take_succ' (upt hlt), tsm_app, tsm_cons]; simp [tsm, wJ]
    have h4 := tsm_sub (wJ_nn hg) (List.take_sublist (i + 1) (upTo js.length))
    have h5 := tsm_nonneg (w := wJ js) (wJ_nn hg) (S := (upTo js.length).take (i + 1))
    have ws : IntKind.i64.wrap (tsm (wJ js) ((upTo js.length).take i) + (jA js i).w) = tsm (wJ js) ((upTo js.length).take (i + 1)) := by rw [← e, wrap_ok] <;> omega
    simp -implicitDefEqProofs [-indexAddrP_some, hlt, hlt', lj, ws, winc hlt (by omega)]
    exact ⟨m - 1, by omega, on hI ⟨i + 1, by omega, rfl, rfl⟩⟩
  · have hlt' : ¬ (i : Int) < js.length := by omega
    rw [List.take_of_length_le (by rw [upTo_len]; omega)]
    simp -implicitDefEqProofs [hlt, hlt']
    refine CL_post (l6Table_run Js c1) fun w h1 ⟨hp1, o1⟩ => ?_
    have S1 : Ints h1 w (wtab js) := o1.sees
    have rl := l2Last_run S1 (by omega)
    generalize wtab js = T at *
    obtain ⟨wa, wc, rfl⟩ : ∃ a c, w = .slice a T.length c := S1.shapeT
    have ws : IntKind.i64.wrap (tsm (wJ js) (upTo js.length) - mxT T) = tsm (wJ js) (upTo js.length) - mxT T := by rw [wrap_ok] <;> omega
    simp -implicitDefEqProofs [CL_ret rl, ws]
    exact gcP hp1 rfl
/-! ### orders -/
theorem up_snoc {n : Nat} : upTo (n + 1) = upTo n ++ [(n : Int)] := by unfold upTo; rw [List.range_succ, List.map_append]; rfl
theorem others_run {n : Nat} (X : Ints h v xs) (hn : n ≤ 2 ^ 10) (hx : xs.length ≤ 2 ^ 40) : RunsC P G n_impl_others [.int .i64 n, v] h fun w h' => h <+: h' ∧ Own h.length h' w 1 ((delF (upTo n) xs).map encI) := by
  refine hideC fun K hK => enter_run e_impl_others (by simp) ?_
  have Xs := X
  obtain ⟨oa, c, rfl⟩ := X.shapeT
  have H0 := own_nil (Holds.start (h := h)) Int encI 1
  simp -implicitDefEqProofs
  refine R_loopO (fun m s h' => ∃ (i : Nat) (w : Value), i + m = n ∧ s = [(0, .int .i64 n), (1, .slice oa xs.length c), (5, w), (6, .int .i64 i)] ∧ Holds h h' [.own w 1 ((delF (upTo i) xs).map encI)]) (fun I hI m s h' => ?_) (n := n) ⟨0, .slice none 0 0, Nat.zero_add _, by simp, by simpa [delF, upTo] using H0⟩
  rintro ⟨i, w, hi, rfl, H⟩
  by_cases hlt : i < n
  · have hlt' : (i : Int) < n := by omega
    have rh := has_run (x := (i : Int)) (Xs.pre H.pre) hx
    have e : delF (upTo (i + 1)) xs = delF (upTo i) xs ++ if hasL (i : Int) xs = true then [] else [(i : Int)] := by
      unfold delF
      rw [up_snoc, List.filter_append]
      congr 1
      cases g : hasL (i : Int) xs <;> simp [List.filter_cons, g]
    have hle : (delF (upTo i) xs).length ≤ i := Nat.le_trans (List.length_filter_le ..) (by rw [upTo_len]; omega)
    cases c1 : hasL (i : Int) xs
    · rw [c1, if_neg (by simp)] at e
      rw [c1] at rh
      obtain ⟨v', h2, ha, H2, _⟩ := push_I0 H 0 rfl (i : Int) (by omega)
      rw [← e] at H2
      simp -implicitDefEqProofs [hlt, hlt', CL_ret rh, ha, winc hlt (by omega)]
      exact ⟨m - 1, by omega, on hI ⟨i + 1, v', by omega, rfl, H2⟩⟩
    · rw [c1, if_pos rfl, List.append_nil] at e
      rw [c1] at rh
      rw [← e] at H
      simp -implicitDefEqProofs [hlt, hlt', CL_ret rh, winc hlt (by omega)]
      exact ⟨m - 1, by omega, on hI ⟨i + 1, w, by omega, rfl, H⟩⟩
  · have hlt' : ¬ (i : Int) < n := by omega
    have : i = n := by omega
    subst this
    simp -implicitDefEqProofs [hlt, hlt']
    exact onK hK (H.ret 0 rfl)
def tyB (js : List Job) (xs : List Int) : Bool := tmlOk js xs && timB js xs
def tyR (js : List Job) (xs : List Int) : List Int := if tyB js xs = true then toR js xs else []
theorem asc_same (hs : xs.Pairwise (· < ·)) : ascL xs = xs := by
  have h1 : (ascL xs).Perm xs := sortB_perm
  have h2 := sortB_weak (ah := fun a b => decide (a < b)) ⟨fun h => by simp at h ⊢; omega, fun h1 h2 => by simp at h1 h2 ⊢; omega⟩ (l := xs)
  have h3 : (ascL xs).Nodup := h1.nodup_iff.2 (hs.imp fun h => by omega)
  have h2 : (ascL xs).Pairwise fun a b => a ≤ b := h2.imp fun h => by simpa using h
  exact sorted_eq (R := fun a b => a < b) (fun a b h1 h2 => by omega) (List.Pairwise.imp (fun h => by omega) (h2.and h3)) hs h1
theorem implTimelyOrder_run (J : Jobs h vj js) (X : Ints h v xs) (hl : js.length ≤ 2 ^ 40) (hx : xs.length ≤ 2 ^ 10) : RunsC P G n_impl_TimelyOrder [vj, v] h fun w h' => h <+: h' ∧ ∃ d, w = .tuple #[d, .bool (tyB js xs)] ∧ Ints h' d (tyR js xs) := by
  refine hideC fun K hK => enter_run e_impl_TimelyOrder (by simp) ?_
  have r1 := IsPlain_run J hl
  have r2 := isSetG_run (n := js.length) X (by omega) hl
  have Js := J
  have Xs := X
  obtain ⟨oj, cj, rfl⟩ := J.shapeT
  obtain ⟨ox, cx, rfl⟩ := X.shapeT
  have none' : tyB js xs = false → K (.tuple #[.slice none 0 0, .bool false]) h := fun g => by
    rw [tyR, g] at hK
    exact onK hK ⟨List.prefix_rfl, _, rfl, nil_L⟩
  cases c1 : plOk js
  · rw [c1] at r1
    simp -implicitDefEqProofs [CL_ret r1]
    exact none' (by rw [tyB, tmlOk, c1]; rfl)
  rw [c1] at r1
  cases c2 : setB js.length xs
  · rw [c2] at r2
    simp -implicitDefEqProofs [CL_ret r1, CL_ret r2]
    exact none' (by rw [tyB, tmlOk, c1, c2]; rfl)
  rw [c2] at r2
  obtain ⟨hin, hs⟩ := setB_iff.1 c2
  obtain ⟨hn, hg, _⟩ := plOk_of c1
  have r3 := onTime_run Js Xs hin hx (good_bd hg)
  rw [tim_imp (plOk_pl c1)] at r3
  cases c3 : timB js xs
  · rw [c3] at r3
    simp -implicitDefEqProofs [CL_ret r1, CL_ret r2, CL_ret r3]
    exact none' (by rw [tyB, c3, Bool.and_false])
  rw [c3] at r3
  have ok : tyB js xs = true := by rw [tyB, tmlOk, c1, c2, c3]; rfl
  rw [tyR, ok, if_pos rfl] at hK
  simp -implicitDefEqProofs [CL_ret r1, CL_ret r2, CL_ret r3]
  refine CL_post (inDueOrder_run Js Xs hin (by omega)) fun w h1 ⟨hp1, o1⟩ => ?_
  rw [asc_same hs] at o1
  have H1 := (Holds.start (h := h)).call hp1 o1
  obtain ⟨wa, wc, rfl⟩ : ∃ a c, w = .slice a (dueL js xs).length c := (o1.sees : Ints h1 w (dueL js xs)).shapeT
  simp -implicitDefEqProofs
  refine CL_post (others_run (n := js.length) (Xs.pre hp1) (by omega) (by omega)) fun z h2 ⟨hp2, o2⟩ => ?_
  have H2 := H1.ext hp2
  have hd1 : (dueL js xs).length = xs.length := dueL_perm.length_eq
  have hd2 : (delF (upTo js.length) xs).length ≤ js.length := Nat.le_trans (List.length_filter_le ..) (by rw [upTo_len]; omega)
  obtain ⟨v3, h3, a3, H3, _⟩ := app_I H2 0 rfl o2.sees (by omega)
  have H3 : Holds h h3 [.own v3 1 ((toR js xs).map encI)] := H3
  obtain ⟨za, zc, rfl⟩ : ∃ a c, z = .slice a (delF (upTo js.length) xs).length c := (o2.sees : Ints h2 z _).shapeT
  obtain ⟨va, vn, vc, rfl⟩ : ∃ a n c, v3 = .slice a n c := by obtain ⟨a, c, e⟩ := (H3.sees 0 rfl).shape; exact ⟨_, _, _, e⟩
  simp -implicitDefEqProofs [a3]
  exact onK hK ⟨(H3.ret2 0 rfl).1, _, rfl, (H3.ret2 0 rfl).2.sees⟩
theorem specTimelyOrder_run (J : Jobs h vj js) (X : Ints h v xs) (hl : js.length ≤ 2 ^ 40) (hx : xs.length ≤ 2 ^ 10) : RunsC P G n_spec_TimelyOrder [vj, v] h fun w h' => h <+: h' ∧ ∃ d, w = .tuple #[d, .bool (tyB js xs)] ∧ Ints h' d (tyR js xs) := by
  refine hideC fun K hK => enter_run e_spec_TimelyOrder (by simp) ?_
  have r1 := l6Good_run J hl
  have r2 := l6SetG_run J X (by omega) hl
  have Js := J
  have Xs := X
  obtain ⟨oj, cj, rfl⟩ := J.shapeT
  obtain ⟨ox, cx, rfl⟩ := X.shapeT
  have none' : tyB js xs = false → K (.tuple #[.slice none 0 0, .bool false]) h := fun g => by
    rw [tyR, g] at hK
    exact onK hK ⟨List.prefix_rfl, _, rfl, nil_L⟩
  cases c1 : plOk js
  · rw [c1] at r1
    simp -implicitDefEqProofs [CL_ret r1]
    exact none' (by rw [tyB, tmlOk, c1]; rfl)
  rw [c1] at r1
  cases c2 : setB js.length xs
  · rw [c2] at r2
    simp -implicitDefEqProofs [CL_ret r1, CL_ret r2]
    exact none' (by rw [tyB, tmlOk, c1, c2]; rfl)
  rw [c2] at r2
  obtain ⟨hin, hs⟩ := setB_iff.1 c2
  obtain ⟨hn, hg, _⟩ := plOk_of c1
  have r3 := l6Timely_run Js Xs hin hx (good_bd hg)
  rw [tim_spec hs] at r3
  cases c3 : timB js xs
  · rw [c3] at r3
    simp -implicitDefEqProofs [CL_ret r1, CL_ret r2, CL_ret r3]
    exact none' (by rw [tyB, c3, Bool.and_false])
  rw [c3] at r3
  have ok : tyB js xs = true := by rw [tyB, tmlOk, c1, c2, c3]; rfl
  rw [tyR, ok, if_pos rfl] at hK
  simp -implicitDefEqProofs [CL_ret r1, CL_ret r2, CL_ret r3]
  refine CL_post (l6Due_run Js Xs hin hx) fun w h1 ⟨hp1, o1⟩ => ?_
  rw [due_eq hs] at o1
  have H1 := (Holds.start (h := h)).call hp1 o1
  obtain ⟨wa, wc, rfl⟩ : ∃ a c, w = .slice a (dueL js xs).length c := (o1.sees : Ints h1 w (dueL js xs)).shapeT
  simp -implicitDefEqProofs
  refine CL_post (l6All_run (Js.pre hp1) (by omega)) fun y h4 ⟨hp4, o4⟩ => ?_
  have S4 : Ints h4 y (upTo js.length) := o4.sees
  obtain ⟨ya, yc, rfl⟩ : ∃ a c, y = .slice a (upTo js.length).length c := S4.shapeT
  simp -implicitDefEqProofs
  refine CL_post (l4Rest_run S4 (Xs.pre (hp1.trans hp4)) (by rw [upTo_len]; omega) (by omega)) fun z h2 ⟨hp2, o2⟩ => ?_
  have H2 := H1.ext (hp4.trans hp2)
  have hd1 : (dueL js xs).length = xs.length := dueL_perm.length_eq
  have hd2 : (delF (upTo js.length) xs).length ≤ js.length := Nat.le_trans (List.length_filter_le ..) (by rw [upTo_len]; omega)
  obtain ⟨v3, h3, a3, H3, _⟩ := app_I H2 0 rfl o2.sees (by omega)
  have H3 : Holds h h3 [.own v3 1 ((toR js xs).map encI)] := H3
  obtain ⟨za, zc, rfl⟩ : ∃ a c, z = .slice a (delF (upTo js.length) xs).length c := (o2.sees : Ints h2 z _).shapeT
  obtain ⟨va, vn, vc, rfl⟩ : ∃ a n c, v3 = .slice a n c := by obtain ⟨a, c, e⟩ := (H3.sees 0 rfl).shape; exact ⟨_, _, _, e⟩
  simp -implicitDefEqProofs [a3]
  exact onK hK ⟨(H3.ret2 0 rfl).1, _, rfl, (H3.ret2 0 rfl).2.sees⟩
/-! ### late jobs -/
def lateF (js : List Job) (es : List Int) (n : Nat) : List Int := (upTo n).filter fun x => decide ((jA js x).d < gE es x.toNat)
theorem late_snoc {es : List Int} {n : Nat} : lateF js es (n + 1) = lateF js es n ++ if (jA js n).d < gE es n then [(n : Int)] else [] := by
  unfold lateF
  rw [up_snoc, List.filter_append]
  congr 1
  by_cases g : (jA js n).d < gE es n <;> simp [List.filter_cons, g]
theorem implLateJobs_run (J : Jobs h vj js) (X : Ints h v xs) (hok : jOk js = true) (ox : Ord js.length xs) : RunsC P G n_impl_LateJobs [vj, v] h fun w h' => h <+: h' ∧ ∃ d, w = .tuple #[d, .bool true] ∧ Ints h' d (lateF js (endsL js xs) js.length) := by
  refine hideC fun K hK => enter_run e_impl_LateJobs (by simp) ?_
  obtain ⟨hn, hg⟩ := jOk_of hok
  have r1 := isScheduled_run J X (by omega) (by have := ox.len; omega)
  rw [hok, ord_ok hn ox] at r1
  have Js := J
  have Xs := X
  obtain ⟨oj, cj, rfl⟩ := J.shapeT
  obtain ⟨oa, ca, rfl⟩ := X.shapeT
  simp -implicitDefEqProofs [CL_ret r1]
  refine CL_post (endsOf_run Js Xs hg hn (by have := ox.len; omega) ox.inn) fun w h1 ⟨hp1, o1, bd1⟩ => ?_
  have S1 : Ints h1 w (endsL js xs) := o1.sees
  have hel : (endsL js xs).length = js.length := endsL_len
  generalize endsL js xs = es at *
  obtain ⟨ea, ec, rfl⟩ : ∃ a c, w = .slice a es.length c := S1.shapeT
  have H0 := own_nil (Holds.start (h := h1)) Int encI 1
  simp -implicitDefEqProofs
  refine R_loopO (fun m s h' => ∃ (i : Nat) (z : Value), i + m = es.length ∧ s = [(0, .slice oj js.length cj), (6, z), (15, .slice ea es.length ec), (16, .int .i64 es.length), (17, .int .i64 i)] ∧ Holds h1 h' [.own z 1 ((lateF js es i).map encI)]) (fun I hI m s h' => ?_) (n := es.length) ⟨0, .slice none 0 0, Nat.zero_add _, by simp, by simpa [lateF, upTo] using H0⟩
  rintro ⟨i, z, hi, rfl, H⟩
  by_cases hlt : i < es.length
  · have hlt' : (i : Int) < es.length := by omega
    have hp := H.pre
    have le := load_I (S1.pre hp) (gE_get hlt)
    have lj := load_JX (Js.pre (hp1.trans hp)) (x := (i : Int)) ⟨by omega, by omega⟩
    simp only [Int.toNat_natCast] at lj
    have e := @late_snoc js es i
    have hle : (lateF js es i).length ≤ i := Nat.le_trans (List.length_filter_le ..) (by rw [upTo_len]; omega)
    by_cases c : (jA js i).d < gE es i
    · rw [if_pos c] at e
      obtain ⟨v', h2, ha, H2, _⟩ := push_I0 H 0 rfl (i : Int) (by omega)
      rw [← e] at H2
      simp -implicitDefEqProofs [-indexAddrP_some, hlt, hlt', le, lj, c, ha, winc hlt (by omega)]
      exact ⟨m - 1, by omega, on hI ⟨i + 1, v', by omega, by simp, H2⟩⟩
    · rw [if_neg c, List.append_nil] at e
      rw [← e] at H
      simp -implicitDefEqProofs [-indexAddrP_some, hlt, hlt', le, lj, c, winc hlt (by omega)]
      exact ⟨m - 1, by omega, on hI ⟨i + 1, z, by omega, by simp, H⟩⟩
  · have hlt' : ¬ (i : Int) < es.length := by omega
    have : i = js.length := by omega
    subst this
    obtain ⟨za, zn, zc, rfl⟩ : ∃ a n c, z = .slice a n c := by obtain ⟨a, c, e⟩ := (H.sees 0 rfl).shape; exact ⟨_, _, _, e⟩
    have H9 := (Holds.start (h := h)).call (hp1.trans H.pre) ((H.own 0 rfl).low hp1.length_le)
    simp -implicitDefEqProofs [hlt, hlt']
    exact onK hK ⟨(H9.ret2 0 rfl).1, _, rfl, (H9.ret2 0 rfl).2.sees⟩
theorem rHas_run {x : Int} (X : Ints h v xs) (hx : xs.length ≤ 2 ^ 40) : Ret P G n_laws_rHas [v, .int .i64 x] h (.bool (hasL x xs)) h := by
  refine enter_run e_laws_rHas (by simp) ?_
  have Xs := X
  obtain ⟨oa, c, rfl⟩ := X.shapeT
  simp -implicitDefEqProofs
  refine R_loop (fun n s h' => ∃ i : Nat, i + n = xs.length ∧ s = [(0, .slice oa xs.length c), (1, .int .i64 x), (5, .int .i64 i)] ∧ h' = h ∧ hasL x xs = hasL x (xs.drop i)) (fun n s h' => ?_) ⟨0, Nat.zero_add _, by simp⟩
  rintro ⟨i, hi, rfl, rfl, hxx⟩
  by_cases hlt : i < xs.length
  · obtain ⟨y, hy, hd⟩ := drop_at hlt
    rw [hd, hasL_cons] at hxx
    simp -implicitDefEqProofs [hlt, load_I Xs hy]
    refine CB_split (fun h => ?_) (fun h => ?_)
    · simp -implicitDefEqProofs [hxx, h]
    · rw [h, Bool.false_or] at hxx
      simp -implicitDefEqProofs [winc hlt hx]
      exact ⟨n - 1, by omega, i + 1, by omega, rfl, hxx⟩
  · rw [List.drop_eq_nil_of_le (by omega), hasL_nil] at hxx
    simp -implicitDefEqProofs [hlt, hxx]
theorem rTable_run {xss : List (List Int)} {us ws : List Value} (N : Nest h v encI 1 xss us) (M : Nest h u encI 1 xss ws) (hn : xss.length ≤ 2 ^ 40) (hb : ∀ x, x ∈ xss → x.length ≤ 2 ^ 40) : Ret P G n_laws_rTable [v, u] h (.bool true) h := by
  refine enter_run e_laws_rTable (by simp) ?_
  have Ns := N
  have Ms := M
  obtain ⟨oa, ca, rfl⟩ := N.shape
  obtain ⟨ob, cb, rfl⟩ := M.shape
  simp -implicitDefEqProofs
  refine R_loopO (fun m s h' => ∃ (i : Nat), i + m = xss.length ∧ s = [(0, .slice oa xss.length ca), (1, .slice ob xss.length cb), (5, .int .i64 i)] ∧ h' = h) (fun I hI m s h' => ?_) (n := xss.length) ⟨0, Nat.zero_add _, by simp, rfl⟩
  rintro ⟨i, hi, rfl, rfl⟩
  by_cases hlt : i < xss.length
  · have hlt' : (i : Int) < xss.length := by omega
    obtain ⟨x, hx, _⟩ := drop_at hlt
    obtain ⟨ux, hux, Sx⟩ := Ns.at hx
    obtain ⟨wx, hwx, Tx⟩ := Ms.at hx
    have l1 := load_N (Ns.out : Sees h' _ 1 (us.map encV)) hux
    have l2 := load_N (Ms.out : Sees h' _ 1 (ws.map encV)) hwx
    have rr := rInts_run Sx Tx (hb x (List.mem_of_getElem? hx))
    obtain ⟨xa, xn, xc, rfl⟩ : ∃ a n c, ux = .slice a n c := by obtain ⟨a, c, e⟩ := Sx.shape; exact ⟨_, _, _, e⟩
    obtain ⟨ya, yn, yc, rfl⟩ : ∃ a n c, wx = .slice a n c := by obtain ⟨a, c, e⟩ := Tx.shape; exact ⟨_, _, _, e⟩
    simp -implicitDefEqProofs [-indexAddrP_some, hlt, hlt', l1, l2, CL_ret rr, CH_at rr, winc hlt (by omega)]
    exact ⟨m - 1, by omega, on hI ⟨i + 1, by omega, rfl, rfl⟩⟩
  · have hlt' : ¬ (i : Int) < xss.length := by omega
    simp -implicitDefEqProofs [hlt, hlt']
end
end Go.Pm.PP

/- FnVectors: its draws. -/
set_option linter.unusedVariables false
set_option linter.unusedSimpArgs false
set_option maxRecDepth 4000
set_option maxHeartbeats 16000000
namespace Go.Pm.PP
open Go.Pm Go.Proofs Go.Pm.PE
section
variable {h0 h : Hp} {r n : Nat} {vc : Value} {L T : List Asn}
theorem Cur.pushI {u : Value} {xs : List Int} (C : Cur h0 h r vc n (L ++ [.own u 1 (xs.map encI)])) (x : Int) (hl : xs.length ≤ 2 ^ 30) : ∃ u' h', appendP P (h ++ [some ⟨[.int .i64 x], 1, false⟩]) t_S_int u (.slice (some ⟨h.length, 0, some 1⟩) 1 1) = some (u', h') ∧ Cur h0 h' r vc n (L ++ [.own u' 1 ((xs ++ [x]).map encI)]) := by
  obtain ⟨a, s, g1, g2, H⟩ := C
  obtain ⟨u', h5, g3, g4, _⟩ := push_I0 H (L.length + 1) (by rw [List.getElem?_cons_succ]; exact snoc_get) x (by omega)
  rw [List.set_cons_succ, List.set_append_right (h := Nat.le_refl _), Nat.sub_self] at g4
  exact ⟨u', h5, g3, a, s, g1, g2, g4⟩
theorem Cur.seesAt {i : Nat} {u : Value} {sz : Nat} {els : List (List Value)} (C : Cur h0 h r vc n (L ++ T)) (hi : L[i]? = some (.own u sz els)) : Sees h u sz els := by
  obtain ⟨a, s, h1, h2, H⟩ := C
  exact H.sees (i + 1) (by rw [List.getElem?_cons_succ, List.getElem?_append_left (List.getElem?_eq_some_iff.1 hi).1]; exact hi)
end
end Go.Pm.PP

/- FnTimely: its draw; sets in plain terms. -/
set_option linter.unusedVariables false
set_option linter.unusedSimpArgs false
set_option maxRecDepth 4000
set_option maxHeartbeats 16000000
namespace Go.Pm.PP
open Go.Pm Go.Proofs Go.Pm.PE
theorem and_val {x y : Int} (hx : 0 ≤ x ∧ x ≤ 2 ^ 20) : ∃ c : Nat, c < 2 ^ 60 ∧ IntKind.i64.wrap ↑((x % 2 ^ IntKind.i64.bits).toNat &&& (y % 2 ^ IntKind.i64.bits).toNat) = (c : Int) := by
  have hb : (2 : Int) ^ IntKind.i64.bits = 18446744073709551616 := rfl
  have h1 : (x % 2 ^ IntKind.i64.bits).toNat ≤ 2 ^ 20 := by rw [hb]; omega
  have h2 := Nat.and_le_left (n := (x % 2 ^ IntKind.i64.bits).toNat) (m := (y % 2 ^ IntKind.i64.bits).toNat)
  refine ⟨_, Nat.lt_of_le_of_lt (Nat.le_trans h2 h1) (by decide), ?_⟩
  rw [wrap_ok] <;> omega
theorem DrawIsTimely_run {h : Hp} {vc : Value} (B : By h vc) : RunsC P G n_spec_DrawIsTimely [vc] h fun v h' => h <+: h' ∧ ∃ (js : List Job) (xs : List Int) (u w : Value), v = .tuple #[u, w] ∧ js.length ≤ 9 ∧ xs.length ≤ 10 ∧ Jobs h' u js ∧ Ints h' w xs := by
  refine hideC fun K hK => enter_run e_spec_DrawIsTimely (by simp) ?_
  have C0 : Cur h (h ++ [some ⟨[vc, .int .i64 0, .int .u64 0], 0, false⟩]) h.length vc 0 [] := ⟨0, 0, by omega, by omega, (Holds.start (h := h)).alloc _⟩
  obtain ⟨bs, Sb, hb, hbl⟩ := B
  have Bs : By h vc := ⟨bs, Sb, hb, hbl⟩
  obtain ⟨ob, cb, rfl⟩ := Sb.shapeT
  simp -implicitDefEqProofs
  refine CL_post (plainJobs_run Bs C0 (by omega) (most := 8) (by omega)) fun u h2 ⟨js, hl, C2⟩ => ?_
  obtain ⟨ua, uc, rfl⟩ : ∃ a c, u = .slice a js.length c := C2.seesJ.shapeT
  have mn : min (js.length : Int) 8 = ((min js.length 8 : Nat) : Int) := by omega
  simp -implicitDefEqProofs [CL_ret l1Least_run]
  refine CL_post (pick_run Bs C2 (by omega) (k := 256) (by omega)) fun v h3 ⟨x, ev, x0, x1, _, C3⟩ => ?_
  subst ev
  simp -implicitDefEqProofs
  refine CL_post (pick_run Bs C3 (by omega) (k := 256) (by omega)) fun v h4 ⟨y, ev, y0, y1, _, C4⟩ => ?_
  subst ev
  obtain ⟨c, hc, ec⟩ := and_val (x := x) (y := y) ⟨x0, x1⟩
  obtain ⟨n8, hn8⟩ : ∃ n8, n8 = min js.length 8 := ⟨_, rfl⟩
  rw [← hn8] at mn
  simp -implicitDefEqProofs [ec, mn]
  refine CL_post (l4Set_run (h := h4) (n := n8) (c := c) (by omega) hc) fun w h5 ⟨hp5, o5⟩ => ?_
  have C5 := C4.join ((Holds.start (h := h4)).call hp5 o5)
  have hbl5 : (bitsL n8 c).length ≤ 8 := Nat.le_trans bits_len (by omega)
  generalize bitsL n8 c = xs at *
  obtain ⟨wa, wc, rfl⟩ : ∃ a c, w = .slice a xs.length c := C5.seesI.shapeT
  simp -implicitDefEqProofs
  refine CL_post (one_run Bs C5 (by omega) (k := 16) (by omega)) fun v h6 ⟨b, ev, C6⟩ => ?_
  subst ev
  cases b
  · have J6 : Jobs h6 (.slice ua js.length uc) js := C6.seesAt (i := 0) rfl
    have fin := gc_JX (r := []) C6.pre J6 C6.seesI
    simp -implicitDefEqProofs
    exact onK hK ⟨fin.1, js, xs, _, _, rfl, hl, by omega, fin.2⟩
  · simp -implicitDefEqProofs
    refine CL_post (among_run Bs (C6.lit [-1, 0, (js.length : Int)]) (by omega) snoc_get (by simp) (by simp)) fun v h7 ⟨z, ev, _, C7⟩ => ?_
    subst ev
    obtain ⟨u', h8, a8, C8⟩ := C7.weak.pushI z (by omega)
    obtain ⟨ub, ud, rfl⟩ : ∃ a c, u' = .slice a (xs ++ [z]).length c := C8.seesI.shapeT
    have J8 : Jobs h8 (.slice ua js.length uc) js := C8.seesAt (i := 0) rfl
    have fin := gc_JX (r := []) C8.pre J8 C8.seesI
    simp only [List.length_append, List.length_cons, List.length_nil, Nat.zero_add] at a8 C8 fin
    simp -implicitDefEqProofs [a8]
    exact onK hK ⟨fin.1, js, xs ++ [z], _, _, rfl, hl, by simp; omega, fin.2⟩
theorem DrawTimelyOrder_run {h : Hp} {vc : Value} (B : By h vc) : RunsC P G n_spec_DrawTimelyOrder [vc] h fun v h' => h <+: h' ∧ ∃ (js : List Job) (xs : List Int) (u w : Value), v = .tuple #[u, w] ∧ js.length ≤ 9 ∧ xs.length ≤ 10 ∧ Jobs h' u js ∧ Ints h' w xs := by
  refine hideC fun K hK => enter_run e_spec_DrawTimelyOrder (by simp) ?_
  have B' := B
  obtain ⟨bs, Sb, hb, hbl⟩ := B
  obtain ⟨ob, cb, rfl⟩ := Sb.shapeT
  simp -implicitDefEqProofs
  refine CL_post (DrawIsTimely_run B') fun v h1 ⟨hp1, js, xs, u, w, ev, hl, hx, J, X⟩ => ?_
  subst ev
  have fin := gc_JX (r := []) hp1 J X
  obtain ⟨ua, uc, rfl⟩ := J.shapeT
  obtain ⟨wa, wc, rfl⟩ := X.shapeT
  simp -implicitDefEqProofs
  exact onK hK ⟨fin.1, js, xs, _, _, rfl, hl, hx, fin.2⟩
/-! ### sets -/
theorem sets_mem {js : List Job} {x : List Int} : x ∈ setsS js ↔ ∃ c, c < 2 ^ js.length ∧ okC js c = true ∧ bitsL js.length c = x := by
  unfold setsS
  have := (@foldS_perm (setsU js (2 ^ js.length)) []).mem_iff (a := x)
  rw [this, List.nil_append, setsU_mem]
theorem sets_len {js : List Job} : (setsS js).length ≤ 2 ^ js.length := by
  unfold setsS
  rw [(@foldS_perm (setsU js (2 ^ js.length)) []).length_eq, List.nil_append]
  exact setsU_len
theorem sets_most {js : List Job} (hok : plOk js = true) : mxT ((setsS js).map (tsm (wJ js))) = mxT (wtab js) := by
  obtain ⟨h1, h2, h3⟩ := mx_go (l := (setsS js).map (tsm (wJ js))) (m := 0)
  obtain ⟨g1, g2, g3⟩ := mx_go (l := wtab js) (m := 0)
  have h1 : 0 ≤ mxT ((setsS js).map (tsm (wJ js))) := h1
  have g1 : 0 ≤ mxT (wtab js) := g1
  refine Int.le_antisymm ?_ ?_
  · rcases h3 with g | g
    · have g : mxT ((setsS js).map (tsm (wJ js))) = 0 := g
      omega
    · obtain ⟨x, hx, e⟩ := List.mem_map.1 g
      obtain ⟨c, _, ho, rfl⟩ := sets_mem.1 hx
      have := wtab_up hok ho
      have e : tsm (wJ js) (bitsL js.length c) = mxT ((setsS js).map (tsm (wJ js))) := e
      omega
  · obtain ⟨c, hc, ho, e⟩ := wtab_att hok
    rw [← e]
    exact h2 _ (List.mem_map.2 ⟨_, sets_mem.2 ⟨c, hc, ho, rfl⟩, rfl⟩)
theorem sets_has {js : List Job} {xs : List Int} (hs : setB js.length xs = true) : (setsS js).any (· == xs) = timB js xs := by
  obtain ⟨hin, ha⟩ := setB_iff.1 hs
  obtain ⟨c, hc, e⟩ := bits_of (n := js.length) (m := js.length) (Nat.le_refl _) ha hin
  rw [Bool.eq_iff_iff, List.any_eq_true]
  constructor
  · rintro ⟨x, hx, e2⟩
    rw [beq_iff_eq] at e2
    subst e2
    obtain ⟨d, _, ho, rfl⟩ := sets_mem.1 hx
    exact ho
  · intro h
    exact ⟨xs, sets_mem.2 ⟨c, hc, by unfold okC; rw [e]; exact h, e⟩, by simp⟩
end Go.Pm.PP

/- FnTimely in the small machine. -/
set_option linter.unusedVariables false
set_option linter.unusedSimpArgs false
set_option maxRecDepth 4000
set_option maxHeartbeats 16000000
namespace Go.Pm.PP
open Go.Pm Go.Proofs Go.Pm.PE
theorem tyR_len {js : List Job} {xs : List Int} (hl : js.length ≤ 9) : (tyR js xs).length ≤ 2 ^ 10 := by
  unfold tyR
  split
  · rename_i h
    rw [tyB, Bool.and_eq_true] at h
    obtain ⟨hok, hin, hs⟩ := tmlOk_of h.1
    have := (toR_ord hin hs).len
    omega
  · simp
theorem okV_pl2 {js : List Job} {xs : List Int} {o : Int} (hok : plOk js = true) (ox : Ord js.length xs) (ho : 1 ≤ o ∧ o ≤ 8) : okV js xs o = true := by
  have h1 : jOk js = true := by rw [plOk, Bool.and_eq_true] at hok; exact hok.1
  rw [okV, h1, ord_ok (jOk_of h1).1 ox]
  simp [inB, ho.1, ho.2]
theorem law_Timely {h : Hp} {vc : Value} {bs : List Int} (Sb : Sees h vc 1 (bs.map encU)) (hb : ∀ b, b ∈ bs → 0 ≤ b ∧ b ≤ 255) : Ret P G n_laws_FnTimely [vc] h (.bool true) h := by
  refine enter_run e_laws_FnTimely (by simp) ?_
  have r0 := rBig_run Sb
  by_cases c0 : (65536 : Int) < bs.length
  · simp -implicitDefEqProofs [CL_ret r0, c0]
  have B : By h vc := ⟨bs, Sb, hb, by omega⟩
  have Sbs := Sb
  obtain ⟨ob, cb, rfl⟩ := Sb.shapeT
  simp -implicitDefEqProofs [CL_ret r0, c0]
  refine CL_post (DrawTimelyOrder_run B) fun v h1 ⟨hp1, js, xs, u, w, ev, hjl, hxl, J, X⟩ => ?_
  subst ev
  have l1 : js.length ≤ 2 ^ 40 := by omega
  have x1 : xs.length ≤ 2 ^ 10 := by omega
  have Js := J
  have Xs := X
  have ra := implIsTimely_run Js Xs l1 x1
  have rb := specIsTimely_run Js Xs l1 x1
  have ety : (tmlOk js xs && timB js xs) = tyB js xs := rfl
  rw [ety] at ra rb
  obtain ⟨ja, jc, rfl⟩ := J.shapeT
  obtain ⟨xa, xc, rfl⟩ := X.shapeT
  simp -implicitDefEqProofs [CL_ret ra, CL_ret rb]
  refine CL_post (implTimelyOrder_run Js Xs l1 x1) fun v h2 ⟨hp2, d2, ev, D2⟩ => ?_
  subst ev
  obtain ⟨da, dc, e2⟩ : ∃ a c, d2 = .slice a (tyR js xs).length c := D2.shapeT
  subst e2
  simp -implicitDefEqProofs
  refine CL_post (specTimelyOrder_run (Js.pre hp2) (Xs.pre hp2) l1 x1) fun v h3 ⟨hp3, d3, ev, D3⟩ => ?_
  subst ev
  obtain ⟨ea, en, ec, rfl⟩ : ∃ a n c, d3 = .slice a n c := by obtain ⟨a, c, e⟩ := D3.shape; exact ⟨_, _, _, e⟩
  have q1 := rInts_run (D2.pre hp3) D3 (by have := @tyR_len js xs hjl; omega)
  have p13 := hp2.trans hp3
  simp -implicitDefEqProofs [CL_ret q1]
  refine CL_post (implTimelySets_run (Js.pre p13) l1) fun v h4 ⟨hp4, d4, us, ev, N4⟩ => ?_
  subst ev
  obtain ⟨sa, sc, e4⟩ : ∃ a c, d4 = .slice a (tsR js).length c := N4.shape
  subst e4
  simp -implicitDefEqProofs
  refine CL_post (specTimelySets_run (Js.pre (p13.trans hp4)) l1) fun v h5 ⟨hp5, d5, ws, ev, N5⟩ => ?_
  subst ev
  obtain ⟨ta, tc, e5⟩ : ∃ a c, d5 = .slice a (tsR js).length c := N5.shape
  subst e5
  have p15 := p13.trans (hp4.trans hp5)
  have N4' := N4.pre hp5
  have hsb : ∀ x, x ∈ tsR js → x.length ≤ 8 ∧ inN js.length x ∧ plOk js = true ∧ ∃ c, c < 2 ^ js.length ∧ okC js c = true ∧ bitsL js.length c = x := fun x hx => by
    unfold tsR at hx
    split at hx
    · rename_i hok
      obtain ⟨hn, _, _⟩ := plOk_of hok
      obtain ⟨c, hc, ho, rfl⟩ := sets_mem.1 hx
      exact ⟨Nat.le_trans bits_len hn, fun y hy => (by have := mem_bits.1 hy; omega), hok, c, hc, ho, rfl⟩
    · cases hx
  have htl : (tsR js).length ≤ 2 ^ 10 := by
    unfold tsR
    split
    · rename_i hok
      obtain ⟨hn, _, _⟩ := plOk_of hok
      have p8 : 2 ^ js.length ≤ 2 ^ 8 := Nat.pow_le_pow_right (by omega) hn
      have := @sets_len js
      omega
    · simp
  have q2 := rTable_run N4' N5 (by omega) fun x hx => by have := (hsb x hx).1; omega
  simp -implicitDefEqProofs [CL_ret q2]
  refine CL_post (implWeightTable_run (Js.pre p15) l1) fun v h6 ⟨hp6, d6, ev, D6⟩ => ?_
  subst ev
  obtain ⟨W, hW⟩ : ∃ W, W = if plOk js = true then wtab js else [] := ⟨_, rfl⟩
  rw [← hW] at D6
  obtain ⟨wa, wc, e6⟩ : ∃ a c, d6 = .slice a W.length c := D6.shapeT
  subst e6
  simp -implicitDefEqProofs
  refine CL_post (specWeightTable_run (Js.pre (p15.trans hp6)) l1) fun v h7 ⟨hp7, d7, ev, D7⟩ => ?_
  subst ev
  rw [← hW] at D7
  obtain ⟨ya, yn, yc, rfl⟩ : ∃ a n c, d7 = .slice a n c := by obtain ⟨a, c, e⟩ := D7.shape; exact ⟨_, _, _, e⟩
  have p17 := p15.trans (hp6.trans hp7)
  have hWl : W.length ≤ 2 ^ 20 := by
    rw [hW]
    split
    · rename_i hok
      have := wtab_len hok
      obtain ⟨_, t1, t2⟩ := tot400 hok
      omega
    · simp
  have D6' := D6.pre hp7
  have q3 := rInts_run D6' D7 (by omega)
  have rc := implLeastLateWeight_run (Js.pre p17) l1
  have rd := specLeastLateWeight_run (Js.pre p17) l1
  have hp07 := hp1.trans p17
  have J7 := Js.pre p17
  have X7 := Xs.pre p17
  have N7 := N4'.pre (hp6.trans hp7)
  have D27 := D2.pre (hp3.trans (hp4.trans (hp5.trans (hp6.trans hp7))))
  cases hok : plOk js
  · have ty : tyB js xs = false := by rw [tyB, tmlOk, hok]; rfl
    rw [hok] at rc rd
    simp -implicitDefEqProofs [CL_ret q3, CL_ret rc, CL_ret rd, ty]
    exact gcP hp07 rfl
  rw [hok] at rc rd
  obtain ⟨hn, hg, _⟩ := plOk_of hok
  have eW : W = wtab js := by rw [hW, if_pos hok]
  have eT : tsR js = setsS js := by rw [tsR, if_pos hok]
  subst eW
  have hll : llW js = tsm (wJ js) (upTo js.length) - mxT (wtab js) := by rw [llW, if_pos hok]
  obtain ⟨wb0, wb1, wb2, wb3⟩ := wbd hok
  have hlen := wtab_len hok
  obtain ⟨_, tt1, tt2⟩ := tot400 hok
  have hmost := sets_most hok
  cases hty : tyB js xs
  case' false =>
    obtain ⟨h9, e', hp'⟩ : ∃ h9, h7 = h9 ∧ h7 <+: h9 := ⟨h7, rfl, List.prefix_rfl⟩
    simp -implicitDefEqProofs [CL_ret q3, CL_ret rc, CL_ret rd, hty]
    rw [e']
  case' true =>
    have hty2 := hty
    rw [tyB, Bool.and_eq_true] at hty2
    obtain ⟨_, hin, hs⟩ := tmlOk_of hty2.1
    have oo := toR_ord hin hs
    have er : tyR js xs = toR js xs := by rw [tyR, if_pos hty]
    rw [er] at D27
    have hjo : jOk js = true := by rw [plOk, Bool.and_eq_true] at hok; exact hok.1
    simp -implicitDefEqProofs [CL_ret q3, CL_ret rc, CL_ret rd, hty, er]
    refine CL_post (implLateJobs_run J7 D27 hjo oo) fun v h8 ⟨hp8, d8, ev, D8⟩ => ?_
    subst ev
    have hlate : ∀ x, x ∈ xs → hasL x (lateF js (endsL js (toR js xs)) js.length) = false := fun x hx => by
      have ht := toR_time hok hin hs hty2.2 hx
      refine Bool.eq_false_iff.2 fun g => ?_
      obtain ⟨y, hy, e⟩ := List.any_eq_true.1 g
      rw [beq_iff_eq] at e
      subst e
      have := (List.mem_filter.1 hy).2
      rw [decide_eq_true_eq] at this
      omega
    have hLl : (lateF js (endsL js (toR js xs)) js.length).length ≤ 2 ^ 40 := Nat.le_trans (List.length_filter_le ..) (by rw [upTo_len]; omega)
    generalize lateF js (endsL js (toR js xs)) js.length = L at *
    obtain ⟨la, lc, rfl⟩ : ∃ a c, d8 = .slice a L.length c := D8.shapeT
    simp -implicitDefEqProofs
    refine R_loopO (fun m s h' => ∃ (i : Nat), i + m = xs.length ∧ s = [(3, .slice ja js.length jc), (4, .slice xa xs.length xc), (5, .bool true), (6, .bool (tmlOk js xs)), (9, .slice da (toR js xs).length dc), (13, .slice sa (tsR js).length sc), (14, .bool true), (17, .slice wa (wtab js).length wc), (21, .int .i64 (llW js)), (25, .slice la L.length lc), (27, .int .i64 i)] ∧ h' = h8) (fun I hI m s h' => ?_) (n := xs.length) ⟨0, Nat.zero_add _, by simp, rfl⟩
    rintro ⟨i, hi, rfl, rfl⟩
    by_cases hlt : i < xs.length
    case pos =>
      have hlt' : (i : Int) < xs.length := by omega
      obtain ⟨y, hy, _⟩ := drop_at hlt
      have ly := load_I (X7.pre hp8) hy
      have rh := rHas_run (x := y) D8 hLl
      rw [hlate y (List.mem_of_getElem? hy)] at rh
      simp -implicitDefEqProofs [-indexAddrP_some, hlt, hlt', ly, CL_ret rh, winc hlt (by omega)]
      exact ⟨m - 1, by omega, on hI ⟨i + 1, by omega, by simp, rfl⟩⟩
    case' neg =>
      have hlt' : ¬ (i : Int) < xs.length := by omega
      have rv := implValueOf_run (o := 8) (J7.pre hp8) (D27.pre hp8) l1 (by have := oo.len; omega)
      have kv : okV js (toR js xs) 8 = true := okV_pl2 hok oo (by omega)
      rw [vOf, kv, if_pos rfl] at rv
      have lo := late_low hok oo
      have lo' : ¬ valX 8 js (toR js xs) < llW js := by omega
      obtain ⟨h9, e', hp'⟩ : ∃ h9, h' = h9 ∧ h7 <+: h9 := ⟨h', rfl, hp8⟩
      simp -implicitDefEqProofs [hlt, hlt', CL_ret rv, lo']
      rw [e']
  all_goals
    have Jt := J7.pre hp'
    have Nt := N7.pre hp'
    have Wt := D6'.pre hp'
    have Xt := X7.pre hp'
    have upt : ∀ {i : Nat}, i < js.length → (upTo js.length)[i]? = some (i : Int) := fun {i} hi => by unfold upTo; rw [List.getElem?_map, List.getElem?_range hi]; rfl
    refine R_loopO (fun m s g => ∃ (i : Nat), i + m = js.length ∧ s = [(3, .slice ja js.length jc), (4, .slice xa xs.length xc), (5, .bool (tyB js xs)), (6, .bool (tmlOk js xs)), (13, .slice sa (tsR js).length sc), (17, .slice wa (wtab js).length wc), (21, .int .i64 (llW js)), (30, .int .i64 0), (31, .int .i64 (tsm (wJ js) ((upTo js.length).take i))), (32, .int .i64 i)] ∧ g = h9) (fun I hI m s g => ?_) (n := js.length)
      ⟨0, Nat.zero_add _, by simp [hty, tsm], rfl⟩
    rintro ⟨i, hi, rfl, rfl⟩
    by_cases hlt : i < js.length
    · have hlt' : (i : Int) < js.length := by omega
      have lj := load_JX Jt (x := (i : Int)) ⟨by omega, by omega⟩
      simp only [Int.toNat_natCast] at lj
      have e : tsm (wJ js) ((upTo js.length).take (i + 1)) = tsm (wJ js) ((upTo js.length).take i) + (jA js i).w := by rw [take_succ' (upt hlt), tsm_app, tsm_cons]; simp [tsm, wJ]
      have h4 := tsm_sub (wJ_nn hg) (List.take_sublist (i + 1) (upTo js.length))
      have h5 := tsm_nonneg (w := wJ js) (wJ_nn hg) (S := (upTo js.length).take (i + 1))
      have ws : IntKind.i64.wrap (tsm (wJ js) ((upTo js.length).take i) + (jA js i).w) = tsm (wJ js) ((upTo js.length).take (i + 1)) := by rw [← e, wrap_ok] <;> omega
      simp -implicitDefEqProofs [-indexAddrP_some, hlt, hlt', lj, ws, winc hlt (by omega)]
      exact ⟨m - 1, by omega, on hI ⟨i + 1, by omega, by simp, rfl⟩⟩
    have hlt' : ¬ (i : Int) < js.length := by omega
    rw [List.take_of_length_le (by rw [upTo_len]; omega)]
    simp -implicitDefEqProofs [hlt, hlt']
    refine R_loopO (fun m s g2 => ∃ (i : Nat), i + m = (tsR js).length ∧ s = [(3, .slice ja js.length jc), (4, .slice xa xs.length xc), (5, .bool (tyB js xs)), (6, .bool (tmlOk js xs)), (13, .slice sa (tsR js).length sc), (17, .slice wa (wtab js).length wc), (21, .int .i64 (llW js)), (30, .int .i64 (mxT (((tsR js).take i).map (tsm (wJ js))))), (31, .int .i64 (tsm (wJ js) (upTo js.length))), (33, .bool (((tsR js).take i).any (· == xs))), (34, .int .i64 i)] ∧ g2 = g) (fun I2 hI2 m2 s2 g2 => ?_) (n := (tsR js).length)
      ⟨0, Nat.zero_add _, by simp [mxT], rfl⟩
    rintro ⟨k, hk, rfl, rfl⟩
    by_cases hlk : k < (tsR js).length
    · have hlk' : (k : Int) < (tsR js).length := by omega
      obtain ⟨x, hx, _⟩ := drop_at hlk
      obtain ⟨ux, hux, Sx⟩ := Nt.at hx
      obtain ⟨xl8, xin, _, c, hc, ho, ec⟩ := hsb x (List.mem_of_getElem? hx)
      obtain ⟨xsa, xsc, rfl⟩ : ∃ a c, ux = .slice a x.length c := Sx.shapeT
      have lx := load_N (Nt.out : Sees g2 _ 1 (us.map encV)) hux
      have em : mxT (((tsR js).take (k + 1)).map (tsm (wJ js))) = max (mxT (((tsR js).take k).map (tsm (wJ js)))) (tsm (wJ js) x) := by unfold mxT; rw [take_succ' hx, List.map_append, List.foldl_append]; rfl
      have ef : ((tsR js).take (k + 1)).any (· == xs) = (((tsR js).take k).any (· == xs) || (x == xs)) := by rw [take_succ' hx, List.any_append]; simp
      generalize mxT (((tsR js).take k).map (tsm (wJ js))) = M at *
      generalize ((tsR js).take k).any (· == xs) = fd at *
      simp -implicitDefEqProofs [hlk, hlk']
      refine R_loopO (fun m s g3 => ∃ (i : Nat), i + m = x.length ∧ s = [(3, .slice ja js.length jc), (4, .slice xa xs.length xc), (5, .bool (tyB js xs)), (6, .bool (tmlOk js xs)), (13, .slice sa (tsR js).length sc), (17, .slice wa (wtab js).length wc), (21, .int .i64 (llW js)), (30, .int .i64 M), (31, .int .i64 (tsm (wJ js) (upTo js.length))), (33, .bool fd), (34, .int .i64 k), (35, .int .i64 (tsm (wJ js) (x.take i))), (36, .int .i64 (tsm (tJ js) (x.take i))), (37, .int .i64 i)] ∧ g3 = g2) (fun I3 hI3 m3 s3 g3 => ?_) (n := x.length)
        ⟨0, Nat.zero_add _, by simp [tsm], rfl⟩
      rintro ⟨q, hq, rfl, rfl⟩
      by_cases hlq : q < x.length
      · have hlq' : (q : Int) < x.length := by omega
        obtain ⟨y, hy, _⟩ := drop_at hlq
        have ly := load_I Sx hy
        have lj := load_JX Jt (xin y (List.mem_of_getElem? hy))
        have e1 : tsm (wJ js) (x.take (q + 1)) = tsm (wJ js) (x.take q) + (jA js y).w := by rw [take_succ' hy, tsm_app, tsm_cons]; simp [tsm, wJ]
        have e2 : tsm (tJ js) (x.take (q + 1)) = tsm (tJ js) (x.take q) + (jA js y).t := by rw [take_succ' hy, tsm_app, tsm_cons]; simp [tsm, tJ]
        have rb := rat_bd hg (xs := x.take (q + 1))
        have k1 : (rat1 js (x.take (q + 1))).1 = tsm (wJ js) (x.take (q + 1)) := rfl
        have k2 : (rat1 js (x.take (q + 1))).2 = tsm (tJ js) (x.take (q + 1)) := rfl
        have tl : (x.take (q + 1)).length ≤ 8 := by rw [List.length_take]; omega
        rw [k1, k2] at rb
        have w1 : IntKind.i64.wrap (tsm (wJ js) (x.take q) + (jA js y).w) = tsm (wJ js) (x.take (q + 1)) := by rw [← e1, wrap_ok] <;> omega
        have w2 : IntKind.i64.wrap (tsm (tJ js) (x.take q) + (jA js y).t) = tsm (tJ js) (x.take (q + 1)) := by rw [← e2, wrap_ok] <;> omega
        simp -implicitDefEqProofs [-indexAddrP_some, lx, hlq, hlq', ly, lj, w1, w2, winc hlq (by omega)]
        exact ⟨m3 - 1, by omega, on hI3 ⟨q + 1, by omega, by simp, rfl⟩⟩
      · have hlq' : ¬ (q : Int) < x.length := by omega
        rw [List.take_of_length_le (by omega)]
        have bt := bits_tot hok (c := c)
        have wu := wtab_up hok ho
        rw [ec] at bt wu
        obtain ⟨z, hz⟩ : ∃ z : Nat, (z : Int) = tsm (tJ js) x := ⟨(tsm (tJ js) x).toNat, by omega⟩
        rw [← hz] at bt wu ⊢
        rw [Int.toNat_natCast] at wu
        have lw := load_I Wt (gE_get (show z < (wtab js).length by omega))
        have c1 : ¬ ((wtab js).length : Int) ≤ z := by omega
        have c2 : ¬ gE (wtab js) z < tsm (wJ js) x := by omega
        have nxt : ∀ M' fd', max M (tsm (wJ js) x) = M' → (fd || (x == xs)) = fd' → I2 (m2 - 1) [(3, .slice ja js.length jc), (4, .slice xa xs.length xc), (5, .bool (tyB js xs)), (6, .bool (tmlOk js xs)), (13, .slice sa (tsR js).length sc), (17, .slice wa (wtab js).length wc), (21, .int .i64 (llW js)), (30, .int .i64 M'), (31, .int .i64 (tsm (wJ js) (upTo js.length))), (33, .bool fd'), (34, .int .i64 ((k : Int) + 1))] g3 := fun M' fd' h1 h2 =>
          on hI2 ⟨k + 1, by omega, by rw [em, ef, h1, h2]; simp, rfl⟩
        have rr := rIntsG_run (u := .slice xa xs.length xc) Sx Xt (by omega)
        by_cases c3 : M < tsm (wJ js) x
        · cases fd
          · have := nxt _ _ (Int.max_eq_right (Int.le_of_lt c3)) rfl
            simp -implicitDefEqProofs [-indexAddrP_some, lx, hlq, hlq', lw, c1, c2, c3, CL_ret rr, winc hlk (by omega)]
            exact ⟨m2 - 1, by omega, by simpa using this⟩
          · have := nxt _ _ (Int.max_eq_right (Int.le_of_lt c3)) rfl
            simp -implicitDefEqProofs [-indexAddrP_some, lx, hlq, hlq', lw, c1, c2, c3, winc hlk (by omega)]
            exact ⟨m2 - 1, by omega, by simpa using this⟩
        · cases fd
          · have := nxt _ _ (Int.max_eq_left (Int.not_lt.1 c3)) rfl
            simp -implicitDefEqProofs [-indexAddrP_some, lx, hlq, hlq', lw, c1, c2, c3, CL_ret rr, winc hlk (by omega)]
            exact ⟨m2 - 1, by omega, by simpa using this⟩
          · have := nxt _ _ (Int.max_eq_left (Int.not_lt.1 c3)) rfl
            simp -implicitDefEqProofs [-indexAddrP_some, lx, hlq, hlq', lw, c1, c2, c3, winc hlk (by omega)]
            exact ⟨m2 - 1, by omega, by simpa using this⟩
    · have hlk' : ¬ (k : Int) < (tsR js).length := by omega
      rw [List.take_of_length_le (by omega), eT, hmost]
      rw [eT] at hlk hlk'
      have ws : IntKind.i64.wrap (tsm (wJ js) (upTo js.length) - mxT (wtab js)) = llW js := by rw [hll, wrap_ok] <;> omega
      have pall := hp07.trans hp'
      cases hk2 : tmlOk js xs
      · simp -implicitDefEqProofs [hlk, hlk', ws]
        exact gcP pall rfl
      · have hsx : setB js.length xs = true := by rw [tmlOk, Bool.and_eq_true] at hk2; exact hk2.2
        have hh := sets_has hsx
        have ht : tyB js xs = timB js xs := by rw [tyB, hk2, Bool.true_and]
        rw [← ht] at hh
        rw [hh]
        simp -implicitDefEqProofs [hlk, hlk', ws]
        exact gcP pall rfl
end Go.Pm.PP

/- Best orders: exchanging downwards. -/
set_option linter.unusedVariables false
set_option linter.unusedSimpArgs false
set_option maxRecDepth 4000
set_option maxHeartbeats 8000000
namespace Go.Pm.PP
open Go.Pm Go.Proofs Go.Pm.PE
section
variable {h : Hp} {v u : Value} {js : List Job} {xs : List Int} {o : Int}
end
end Go.Pm.PP

/- FnBestOrders in the small machine. -/
set_option linter.unusedVariables false
set_option linter.unusedSimpArgs false
set_option maxRecDepth 4000
set_option maxHeartbeats 8000000
namespace Go.Pm.PP
open Go.Pm Go.Proofs Go.Pm.PE
end Go.Pm.PP

/- A code of bytes as an argument, opened as a row. -/
set_option linter.unusedVariables false
set_option linter.unusedSimpArgs false
set_option maxRecDepth 4000
namespace Go.Pm
open Go.ChangeShapes Go.WideShapes
section
variable {P : Program} {H : Type} {enc : TypeId × Value → H} {w : World} {base : Nat} {held : Bool}
theorem flat_encU (xs : List Int) : (xs.map PP.encU).flatten = xs.map fun x => .int .u8 x := by
  induction xs with
  | nil => rfl
  | cons x xs ih => rw [List.map_cons, List.flatten_cons, ih]; rfl
/-- A slice of bytes. -/
theorem shows_bytes {t e : TypeId} {fuel : Nat} {v : Value} {x : DataW H × List MemPlace} (ht : P.underlying t = some (.slice e)) (he : P.underlying e = some (.int .u8)) (hc : P.cellsOf e = 1)
    (hd : DataW.trod enc P w base (fun _ => true) held fuel t [v] = some x) : ∃ xs : List Int, xs.length ≤ maxLen ∧ (∀ b, b ∈ xs → (Lit.int .u8 b).wf = true) ∧ ∀ (ρ : Mp) (h : Hp), Shows ρ h w 1 (xs.map PP.encU) v := by
  rcases open_ints ht he hc hd with ⟨h1, _⟩ | ⟨a, len, cap, zs, h1, _, hl, hm, hz, _, hcell, hwf⟩
  · cases h1
    exact ⟨[], by simp, by simp, fun ρ h => .inl ⟨rfl, rfl⟩⟩
  · cases h1
    simp only [if_true] at hz
    have hlen : (zs.take len).length = len := by rw [List.length_take]; omega
    refine ⟨zs.take len, by omega, fun b hb => hwf b (List.mem_of_mem_take hb), fun ρ h => .inr ⟨a, cap, by rw [List.length_map, hlen], by rw [List.length_map, hlen]; exact hl, ?_, fun k c hk => ?_⟩⟩
    · rcases Nat.eq_zero_or_pos cap with h0 | h0
      · exact .inl h0
      · right
        have := hcell 0 (by omega)
        unfold World.cell? at this
        simp only [Addr.add, if_true] at this
        cases hs : a.spot with
        | none => rfl
        | some s =>
          rw [hs] at this
          split at this <;> simp at this
    · rw [flat_encU, List.getElem?_map] at hk
      obtain ⟨z, hz2, rfl⟩ := Option.map_eq_some_iff.1 hk
      have hk1 := (List.getElem?_eq_some_iff.1 hz2).1
      rw [List.getElem?_take, if_pos (by omega)] at hz2
      refine ⟨_, hcell k (by omega), ?_⟩
      rw [List.getD_eq_getElem?_getD, hz2]
      exact .int _ _
end
end Go.Pm
namespace Go.Pm.PP
open Go.Pm Go.Proofs
theorem follows : P.follows .mixedOrders = true := by kernel_rfl
theorem cells_u8 : P.cellsOf t_u8 = 1 := by kernel_rfl
theorem byte_of {b : Int} (h : (Lit.int .u8 b).wf = true) : 0 ≤ b ∧ b ≤ 255 := by
  simp [Lit.wf, IntKind.min, IntKind.max, IntKind.signed, IntKind.bits] at h
  omega
section
variable {H : Type} {enc : TypeId × Value → H} {W : World} {ρ : Mp} {h : Hp} {v : Value} {n0 : Nat} {x0 : DataW H × List MemPlace}
theorem open_bytes (R : Rel ρ h W) (ha : AllRo h) (d0 : DataW.trod enc P W 0 (fun _ => true) true n0 t_S_u8 [v] = some x0) :
    ∃ (h2 : Hp) (ρ2 : Mp) (p : Value) (xs : List Int), h <+: h2 ∧ Rel ρ2 h2 W ∧ AllRo h2 ∧ Step ρ h ρ2 h2 ∧ VR ρ2 h2 p v ∧ Sees h2 p 1 (xs.map encU) ∧ ∀ b, b ∈ xs → 0 ≤ b ∧ b ≤ 255 := by
  obtain ⟨xs, l0, hw, s0⟩ := shows_bytes (P := P) (v := v) u_S_u8 u_u8 cells_u8 d0
  obtain ⟨h2, ρ2, p, q, R2, a2, t, r, N⟩ := add_slice (w := W) (len_U xs) R ha (s0 ρ h)
  exact ⟨h2, ρ2, p, xs, q, R2, a2, t, r, N, fun b hb => byte_of (hw b hb)⟩
end
end Go.Pm.PP
