/- The texts PvPb, PvPc, PvHi, PvPd, PvPe, PvL, PvM, PvK of this work: The late rule by the reference. -/
import Derived.ProofKit
import Derived.OpenShut
import Derived.Carry
import Derived.Test.YtcmbjbddjlamaaaP8
import Derived.Test.YtcmbjbddjlamaaaP7
import Derived.Test.YtcmbjbddjlamaaaM4
/- The late rule by the reference. -/
set_option linter.unusedVariables false
set_option linter.unusedSimpArgs false
set_option maxRecDepth 4000
set_option maxHeartbeats 16000000
namespace Go.Pm.PP
open Go.Pm Go.Proofs Go.Pm.PE
section
variable {h : Hp} {vj v u : Value} {js : List Job} {xs ys : List Int}
theorem sum_take {t : Int → Int} {i : Nat} {y : Int} (hy : xs[i]? = some y) : tsm t (xs.take (i + 1)) = tsm t (xs.take i) + t y := by
  rw [take_succ' hy, tsm_app, tsm_cons]; simp [tsm]
theorem tj_bd (hg : goodL js = true) : 0 ≤ tsm (tJ js) xs ∧ tsm (tJ js) xs ≤ xs.length * 2 ^ 20 := time_bd (good_bd hg)
theorem l3Total_run (J : Jobs h vj js) (X : Ints h v xs) (hin : inN js.length xs) (hg : goodL js = true) (hx : xs.length ≤ 2 ^ 10) : Ret P G n_spec_l3Total [vj, v] h (.int .i64 (tsm (tJ js) xs)) h := by
  refine enter_run e_spec_l3Total (by simp) ?_
  have Js := J
  have Xs := X
  obtain ⟨oj, cj, rfl⟩ := J.shapeT
  obtain ⟨oa, ca, rfl⟩ := X.shapeT
  simp -implicitDefEqProofs
  refine R_loopO (fun m s h' => ∃ (i : Nat), i + m = xs.length ∧ s = [(0, .slice oj js.length cj), (1, .slice oa xs.length ca), (5, .int .i64 (tsm (tJ js) (xs.take i))), (6, .int .i64 i)] ∧ h' = h) (fun I hI m s h' => ?_) (n := xs.length) ⟨0, Nat.zero_add _, by simp [tsm], rfl⟩
  rintro ⟨i, hi, rfl, rfl⟩
  by_cases hlt : i < xs.length
  · have hlt' : (i : Int) < xs.length := by omega
    obtain ⟨y, hy, _⟩ := drop_at hlt
    have ly := load_I Xs hy
    have lj := load_JX Js (hin y (List.mem_of_getElem? hy))
    have e := sum_take (t := tJ js) hy
    have tb := tj_bd hg (xs := xs.take (i + 1))
    have tl : (xs.take (i + 1)).length ≤ 2 ^ 10 := by rw [List.length_take]; omega
    have et : tJ js y = (jA js y).t := rfl
    have w1 : IntKind.i64.wrap (tsm (tJ js) (xs.take i) + (jA js y).t) = tsm (tJ js) (xs.take (i + 1)) := by rw [← et, ← e, wrap_ok] <;> omega
    simp -implicitDefEqProofs [-indexAddrP_some, hlt, hlt', ly, lj, w1, winc hlt (by omega)]
    exact ⟨m - 1, by omega, on hI ⟨i + 1, by omega, by simp, rfl⟩⟩
  · have hlt' : ¬ (i : Int) < xs.length := by omega
    rw [List.take_of_length_le (by omega)]
    simp -implicitDefEqProofs [hlt, hlt']
theorem l3Longest_run (J : Jobs h vj js) (X : Ints h v xs) (hin : inN js.length xs) (hne : 0 < xs.length) (hx : xs.length ≤ 2 ^ 10) : Ret P G n_spec_l3Longest [vj, v] h (.int .i64 ((lgI (tJ js) xs : Nat) : Int)) h := by
  refine enter_run e_spec_l3Longest (by simp) ?_
  have Js := J
  have Xs := X
  obtain ⟨oj, cj, rfl⟩ := J.shapeT
  obtain ⟨oa, ca, rfl⟩ := X.shapeT
  have e1 : (List.range' 0 1).foldl (lgS (tJ js) xs) 0 = 0 := by simp [lgS]
  simp -implicitDefEqProofs
  refine R_loopO (fun m s h' => ∃ (i : Nat), i + m = xs.length ∧ 1 ≤ i ∧ s = [(0, .slice oj js.length cj), (1, .slice oa xs.length ca), (5, .int .i64 (((List.range' 0 i).foldl (lgS (tJ js) xs) 0 : Nat) : Int)), (6, .int .i64 i)] ∧ h' = h) (fun I hI m s h' => ?_) (n := xs.length - 1) ⟨1, by omega, Nat.le_refl _, by rw [e1]; simp, rfl⟩
  rintro ⟨q, hi, hq1, rfl, rfl⟩
  by_cases hlq : q < xs.length
  · have hlq' : (q : Int) < xs.length := by omega
    have ly := load_I Xs (gE_get hlq)
    have ljy := load_JX Js (hin (gE xs q) (List.mem_of_getElem? (gE_get hlq)))
    have hb : (List.range' 0 q).foldl (lgS (tJ js) xs) 0 < xs.length := (lg_go (t := tJ js) (l := xs) (m := q) (i := 0) (b := 0) (by omega) (by omega)).1
    have eb : (List.range' 0 (q + 1)).foldl (lgS (tJ js) xs) 0 = lgS (tJ js) xs ((List.range' 0 q).foldl (lgS (tJ js) xs) 0) q := by
      rw [List.range'_concat, List.foldl_append]; simp
    generalize (List.range' 0 q).foldl (lgS (tJ js) xs) 0 = b at *
    have lb := load_I Xs (gE_get hb)
    have ljb := load_JX Js (hin (gE xs b) (List.mem_of_getElem? (gE_get hb)))
    by_cases c3 : (jA js (gE xs b)).t < (jA js (gE xs q)).t
    · have e3 : lgS (tJ js) xs b q = q := by unfold lgS; exact if_pos c3
      simp -implicitDefEqProofs [-indexAddrP_some, hlq, hlq', ly, ljy, lb, ljb, c3, winc hlq (by omega)]
      exact ⟨m - 1, by omega, on hI ⟨q + 1, by omega, by omega, by rw [eb, e3]; simp, rfl⟩⟩
    · have e3 : lgS (tJ js) xs b q = b := by unfold lgS; exact if_neg c3
      simp -implicitDefEqProofs [-indexAddrP_some, hlq, hlq', ly, ljy, lb, ljb, c3, winc hlq (by omega)]
      exact ⟨m - 1, by omega, on hI ⟨q + 1, by omega, by omega, by rw [eb, e3]; simp, rfl⟩⟩
  · have hlq' : ¬ (q : Int) < xs.length := by omega
    have : q = xs.length := by omega
    subst this
    simp -implicitDefEqProofs [hlq, hlq', lgI]
theorem l3Without_run {k : Nat} (X : Ints h v xs) (hk : k < xs.length) (hx : xs.length ≤ 2 ^ 20) : RunsC P G n_spec_l3Without [v, .int .i64 k] h fun w h' => h <+: h' ∧ Own h.length h' w 1 ((xs.eraseIdx k).map encI) := by
  refine hideC fun K hK => enter_run e_spec_l3Without (by simp) ?_
  have Xs := X
  obtain ⟨v3, s3, f3⟩ := Xs.front (P := P) u_S_int i_int (k := .i64) (j := (k : Int)) (by omega) (by simp; omega)
  rw [Int.toNat_natCast, ← List.map_take] at f3
  have f3 : Ints h v3 (xs.take k) := f3
  have hl3 : (xs.take k).length = k := by rw [List.length_take]; omega
  obtain ⟨oa, ca, rfl⟩ := X.shapeT
  obtain ⟨a3, c3, rfl⟩ : ∃ a c, v3 = .slice a k c := by obtain ⟨a, c, e⟩ := f3.shapeT; exact ⟨a, c, by rw [e, hl3]⟩
  have w1 : IntKind.i64.wrap ((k : Int) + 1) = (k : Int) + 1 := by rw [wrap_ok] <;> omega
  simp -implicitDefEqProofs [s3]
  refine CH_post (l1Own_run f3 (by rw [hl3]; omega)).new fun w h4 ⟨⟨hp4, o4⟩, hn4⟩ => ⟨hn4 hp4, ?_⟩
  obtain ⟨v6, s6, f6⟩ := back_pre Xs hp4 (j := k + 1) (by omega)
  simp only [Int.natCast_add, Int.cast_ofNat_Int] at s6
  have H4 := (Holds.start (h := h)).call hp4 o4
  obtain ⟨v7, h7, a7, H7, _⟩ := app_I H4 0 rfl (f6.pre hp4) (by rw [hl3, List.length_drop]; omega)
  have H9 : Holds h h7 [.own v7 1 ((xs.eraseIdx k).map encI)] := by rw [List.eraseIdx_eq_take_drop_succ]; exact H7
  obtain ⟨wa, wc, rfl⟩ : ∃ a c, w = .slice a k c := by obtain ⟨a, c, e⟩ := (o4.sees : Ints h4 w (xs.take k)).shapeT; exact ⟨a, c, by rw [e, hl3]⟩
  obtain ⟨b6, n6, c6, rfl⟩ : ∃ a n c, v6 = .slice a n c := by obtain ⟨a, c, e⟩ := f6.shape; exact ⟨_, _, _, e⟩
  simp -implicitDefEqProofs [w1, s6, a7]
  exact onK hK (H9.ret 0 rfl)
theorem plainA3 {a b c : Value} (hp : plain (.agg #[a, b, c]) = true) : plainC a = true ∧ plainC b = true ∧ plainC c = true := by
  simpa [plain, plainC] using hp
abbrev lv3 (a b c : Value) : Value := .agg #[a, b, c]
theorem l3Rule_run (J : Jobs h vj js) (hok : plOk js = true) : RunsC P G n_spec_l3Rule [vj] h fun v h' => h <+: h' ∧ ∃ a b c, v = lv3 a b c ∧ Ints h' a (lrX js js.length).1 ∧ Ints h' b (gone (lrX js js.length).2) ∧ Prs h' c (lrX js js.length).2 := by
  refine hideC fun K hK => enter_run e_spec_l3Rule (by simp) ?_
  have Js := J
  obtain ⟨oj, cj, rfl⟩ := J.shapeT
  obtain ⟨hn, hg, _⟩ := plOk_of hok
  have p := plOk_pl hok
  have hl := rulL_ord (o := 4) (js := js) |>.len
  have H0 := ((Holds.start (h := h)).alloc [.slice none 0 0, .slice none 0 0, .slice none 0 0]).alloc [.slice none 0 0, .slice none 0 0, .slice none 0 0]
  simp only [List.append_assoc, List.cons_append, List.nil_append, List.length_append, List.length_cons, List.length_nil, Nat.zero_add] at H0
  simp -implicitDefEqProofs
  refine CL_post (l3Order_run (o := 4) (Js.pre H0.pre) hg hn) fun vr h2 ⟨hp2, o2⟩ => ?_
  rw [ruled_eq (good_tm hg) up_asc (fun x hx => mem_upTo.1 hx)] at o2
  have H2 := H0.call hp2 o2
  have H2 : Holds h h2 [.box h.length [.slice none 0 0, .slice none 0 0, .slice none 0 0], .box (h.length + 1) [.slice none 0 0, .slice none 0 0, .slice none 0 0], .own vr 1 ((rulL 4 js).map encI)] := H2
  have hDl : (rulL 4 js).length = js.length := hl
  obtain ⟨ra, rc, rfl⟩ : ∃ a c, vr = .slice a js.length c := by obtain ⟨a, c, e⟩ := (H2.sees 2 rfl : Ints h2 vr (rulL 4 js)).shapeT; exact ⟨a, c, by rw [e, hl]⟩
  have H3 := own_nil (own_nil (own_nil H2 Int encI 1) (Int × Int) encQ 2) Int encI 1
  simp -implicitDefEqProofs
  refine R_loopO (fun m s h' => ∃ (i : Nat) (vt vd vs : Value), i + m = js.length ∧ s = [(0, .slice oj js.length cj), (2, .pointer (some ⟨h.length, 0, some 3⟩)), (3, .pointer (some ⟨h.length + 1, 0, some 3⟩)), (4, .slice ra js.length rc), (5, .int .i64 i)] ∧
    Holds h h' [.box h.length [.slice none 0 0, .slice none 0 0, .slice none 0 0], .box (h.length + 1) [vt, vd, vs], .own (.slice ra js.length rc) 1 ((rulL 4 js).map encI), .own vd 1 ((gone (lrX js i).2).map encI), .own vs 2 ((lrX js i).2.map encQ), .own vt 1 ((lrX js i).1.map encI)]) (fun I hI m s h' => ?_) (n := js.length)
    ⟨0, .slice none 0 0, .slice none 0 0, .slice none 0 0, Nat.zero_add _, by simp, H3⟩
  rintro ⟨i, vt, vd, vs, hi, rfl, H⟩
  obtain ⟨lm1, lm2⟩ := @lrX_len js i
  have lm3 : (gone (lrX js i).2).length ≤ js.length := Nat.le_trans (List.length_filter_le ..) (by rw [List.length_map]; exact lm2)
  have St : Ints h' vt (lrX js i).1 := H.sees 5 rfl
  have Sd : Ints h' vd (gone (lrX js i).2) := H.sees 3 rfl
  have Ss : Prs h' vs (lrX js i).2 := H.sees 4 rfl
  obtain ⟨ta, tc, rfl⟩ : ∃ a c, vt = .slice a (lrX js i).1.length c := St.shapeT
  obtain ⟨da, dc, rfl⟩ : ∃ a c, vd = .slice a (gone (lrX js i).2).length c := Sd.shapeT
  obtain ⟨sa, sc, rfl⟩ : ∃ a c, vs = .slice a (lrX js i).2.length c := Ss.shapeT
  have l1 := H.bl (P := P) 1 3 rfl rfl
  by_cases hlt : i < js.length
  case neg =>
    have hlt' : ¬ (i : Int) < js.length := by omega
    have : i = js.length := by omega
    rw [this] at H l1 St Sd Ss
    subst this
    obtain ⟨h5, s5, H5, k5⟩ := H.set (P := P) 0 (n := 3) (o := 0) (ty := t_spec_l3Late) (w := lv3 (.slice ta (lrX js js.length).1.length tc) (.slice da (gone (lrX js js.length).2).length dc) (.slice sa (lrX js js.length).2.length sc)) rfl rfl e_t_spec_l3Late (by simp) (by simp) (by simp)
    have l5 := H5.bl (P := P) 0 3 rfl rfl
    simp -implicitDefEqProofs [hlt, hlt', l1, s5, l5]
    exact onK hK ⟨pre_gcU H5.pre, _, _, _, rfl, Sees.gcU (H5.sees 5 rfl) fun g => (plainA3 g).1, Sees.gcU (H5.sees 3 rfl) fun g => (plainA3 g).2.1, Sees.gcU (H5.sees 4 rfl) fun g => (plainA3 g).2.2⟩
  have hlt' : (i : Int) < js.length := by omega
  obtain ⟨x, hx, _⟩ := drop_at (show i < (rulL 4 js).length by omega)
  have ix := rulL_ord.inn x (List.mem_of_getElem? hx)
  have es := lrX_succ hx
  have hin : inN js.length ((lrX js i).1 ++ [x]) := fun y hy => by
    rcases List.mem_append.1 hy with g | g
    · exact lrX_in y g
    · rw [List.mem_singleton.1 g]; exact ix
  have lx : indexAddrP P h' t_S_int (.slice ra js.length rc) (.int .i64 i) = _ ∧ _ := load_I (H.sees 2 rfl) hx
  generalize lrX js i = s0 at *
  obtain ⟨E, st⟩ := s0
  simp only at lm1 lm2 lm3 hin H l1
  obtain ⟨v4, h4, a4, H4, _⟩ := push_I0 H 5 rfl x (by omega)
  obtain ⟨l4, c4, rfl⟩ : ∃ a c, v4 = .slice a (E.length + 1) c := by
    obtain ⟨a, c, e⟩ := (H4.sees 5 rfl : Ints h4 v4 (E ++ [x])).shapeT
    exact ⟨a, c, by rw [e]; simp⟩
  obtain ⟨h5, s5, H5, _⟩ := H4.set (P := P) 1 (n := 3) (o := 0) (ty := t_S_int) (w := .slice l4 (E.length + 1) c4) rfl rfl e_t_S_int (by simp) (by simp) (by simp)
  have H5 : Holds h h5 [.box h.length [.slice none 0 0, .slice none 0 0, .slice none 0 0], .box (h.length + 1) [.slice l4 (E.length + 1) c4, .slice da (gone st).length dc, .slice sa st.length sc], .own (.slice ra js.length rc) 1 ((rulL 4 js).map encI), .own (.slice da (gone st).length dc) 1 ((gone st).map encI), .own (.slice sa st.length sc) 2 (st.map encQ), .own (.slice l4 (E.length + 1) c4) 1 ((E ++ [x]).map encI)] := H5
  have l5 := H5.bl (P := P) 1 3 rfl rfl
  have S5 : Ints h5 (.slice l4 (E.length + 1) c4) (E ++ [x]) := H5.sees 5 rfl
  have lx5 := load_I (H5.sees 2 rfl : Ints h5 (.slice ra js.length rc) (rulL 4 js)) hx
  have lj5 := load_JX (Js.pre H5.pre) ix
  have rt := l3Total_run (Js.pre H5.pre) S5 hin hg (by simp; omega)
  have etx : tsm (tJ js) (E ++ [x]) = tsm (tJ js) E + (jA js x).t := by rw [tsm_app, tsm_cons]; simp [tsm, tJ]
  by_cases c : tsm (tJ js) (E ++ [x]) ≤ dJ js x
  · have c' : ¬ (jA js x).d < tsm (tJ js) (E ++ [x]) := by have e : dJ js x = (jA js x).d := rfl; omega
    have en : lrS (tJ js) (dJ js) (E, st) x = (E ++ [x], st ++ [(x, -1)]) := by unfold lrS; rw [if_pos c]
    rw [en] at es
    have eg : gone (st ++ [(x, -1)]) = gone st := by rw [gone_snoc]; simp
    obtain ⟨v6, h6, a6, H6, _⟩ := push_Q0 H5 4 rfl (x, -1) (by omega)
    obtain ⟨q4, w4, rfl⟩ : ∃ a c, v6 = .slice a (st.length + 1) c := by
      obtain ⟨a, c, e⟩ := (H6.sees 4 rfl : Prs h6 v6 (st ++ [(x, -1)])).shapeT
      exact ⟨a, c, by rw [e]; simp⟩
    obtain ⟨h7, s7, H7, _⟩ := H6.set (P := P) 1 (n := 3) (o := 2) (ty := t_S_A2_int) (w := .slice q4 (st.length + 1) w4) rfl rfl e_t_S_A2_int (by simp) (by simp) (by simp)
    have H7 : Holds h h7 [.box h.length [.slice none 0 0, .slice none 0 0, .slice none 0 0], .box (h.length + 1) [.slice l4 (E.length + 1) c4, .slice da (gone st).length dc, .slice q4 (st.length + 1) w4], .own (.slice ra js.length rc) 1 ((rulL 4 js).map encI), .own (.slice da (gone st).length dc) 1 ((gone st).map encI), .own (.slice q4 (st.length + 1) w4) 2 ((st ++ [(x, -1)]).map encQ), .own (.slice l4 (E.length + 1) c4) 1 ((E ++ [x]).map encI)] := H7
    simp -implicitDefEqProofs [-indexAddrP_some, hlt, hlt', l1, lx, a4, s5, l5, lx5, lj5, CH_at rt, c', a6, s7, winc hlt (by omega)]
    exact ⟨m - 1, by omega, on hI ⟨i + 1, _, _, _, by omega, by simp, by rw [es]; simp only [eg]; exact H7⟩⟩
  · have c' : (jA js x).d < tsm (tJ js) (E ++ [x]) := by have e : dJ js x = (jA js x).d := rfl; omega
    have en : lrS (tJ js) (dJ js) (E, st) x = ((E ++ [x]).eraseIdx (lgI (tJ js) (E ++ [x])), st ++ [(x, gE (E ++ [x]) (lgI (tJ js) (E ++ [x])))]) := by unfold lrS; rw [if_neg c]
    rw [en] at es
    obtain ⟨g1, _⟩ := lg_spec (t := tJ js) (l := E ++ [x]) (by simp)
    have rl := l3Longest_run (Js.pre H5.pre) S5 hin (by simp) (by simp; omega)
    have hFl : (E ++ [x]).length = E.length + 1 := by simp
    generalize E ++ [x] = F at *
    generalize lgI (tJ js) F = b at *
    have lb := load_I S5 (gE_get g1)
    have z0 := hin (gE F b) (List.mem_of_getElem? (gE_get g1))
    obtain ⟨z, hz⟩ : ∃ z, z = gE F b := ⟨_, rfl⟩
    rw [← hz] at lb es z0
    have eg : gone (st ++ [(x, z)]) = gone st ++ [z] := by rw [gone_snoc, if_pos z0.1]
    simp -implicitDefEqProofs [-indexAddrP_some, hlt, hlt', l1, lx, a4, s5, l5, lx5, lj5, CH_at rt, c', CL_ret rl, lb]
    refine CL_post (l3Without_run S5 g1 (by omega)) fun w h6 ⟨hp6, o6⟩ => ?_
    have hel : (F.eraseIdx b).length = E.length := by rw [List.length_eraseIdx, if_pos g1]; omega
    obtain ⟨wa, wc, rfl⟩ : ∃ a c, w = .slice a E.length c := by obtain ⟨a, c, e⟩ := (o6.sees : Ints h6 w (F.eraseIdx b)).shapeT; exact ⟨a, c, by rw [e, hel]⟩
    have H6 := ((H5.call hp6 o6).drop 5)
    have H6 : Holds h h6 [.box h.length [.slice none 0 0, .slice none 0 0, .slice none 0 0], .box (h.length + 1) [.slice l4 (E.length + 1) c4, .slice da (gone st).length dc, .slice sa st.length sc], .own (.slice ra js.length rc) 1 ((rulL 4 js).map encI), .own (.slice da (gone st).length dc) 1 ((gone st).map encI), .own (.slice sa st.length sc) 2 (st.map encQ), .own (.slice wa E.length wc) 1 ((F.eraseIdx b).map encI)] := H6
    obtain ⟨h7, s7, H7, _⟩ := H6.set (P := P) 1 (n := 3) (o := 0) (ty := t_S_int) (w := .slice wa E.length wc) rfl rfl e_t_S_int (by simp) (by simp) (by simp)
    have H7 : Holds h h7 [.box h.length [.slice none 0 0, .slice none 0 0, .slice none 0 0], .box (h.length + 1) [.slice wa E.length wc, .slice da (gone st).length dc, .slice sa st.length sc], .own (.slice ra js.length rc) 1 ((rulL 4 js).map encI), .own (.slice da (gone st).length dc) 1 ((gone st).map encI), .own (.slice sa st.length sc) 2 (st.map encQ), .own (.slice wa E.length wc) 1 ((F.eraseIdx b).map encI)] := H7
    have l7 := H7.bl (P := P) 1 3 rfl rfl
    obtain ⟨v8, h8, a8, H8, _⟩ := push_I0 H7 3 rfl z (by omega)
    obtain ⟨d8, e8, rfl⟩ : ∃ a c, v8 = .slice a ((gone st).length + 1) c := by
      obtain ⟨a, c, e⟩ := (H8.sees 3 rfl : Ints h8 v8 (gone st ++ [z])).shapeT
      exact ⟨a, c, by rw [e]; simp⟩
    obtain ⟨h9, s9, H9, _⟩ := H8.set (P := P) 1 (n := 3) (o := 1) (ty := t_S_int) (w := .slice d8 ((gone st).length + 1) e8) rfl rfl e_t_S_int (by simp) (by simp) (by simp)
    have H9 : Holds h h9 [.box h.length [.slice none 0 0, .slice none 0 0, .slice none 0 0], .box (h.length + 1) [.slice wa E.length wc, .slice d8 ((gone st).length + 1) e8, .slice sa st.length sc], .own (.slice ra js.length rc) 1 ((rulL 4 js).map encI), .own (.slice d8 ((gone st).length + 1) e8) 1 ((gone st ++ [z]).map encI), .own (.slice sa st.length sc) 2 (st.map encQ), .own (.slice wa E.length wc) 1 ((F.eraseIdx b).map encI)] := H9
    have l9 := H9.bl (P := P) 1 3 rfl rfl
    have lx9 := load_I (H9.sees 2 rfl : Ints h9 (.slice ra js.length rc) (rulL 4 js)) hx
    obtain ⟨v6, g6, a6, G6, _⟩ := push_Q0 H9 4 rfl (x, z) (by omega)
    obtain ⟨q4, w4, rfl⟩ : ∃ a c, v6 = .slice a (st.length + 1) c := by
      obtain ⟨a, c, e⟩ := (G6.sees 4 rfl : Prs g6 v6 (st ++ [(x, z)])).shapeT
      exact ⟨a, c, by rw [e]; simp⟩
    obtain ⟨g7, t7, G7, _⟩ := G6.set (P := P) 1 (n := 3) (o := 2) (ty := t_S_A2_int) (w := .slice q4 (st.length + 1) w4) rfl rfl e_t_S_A2_int (by simp) (by simp) (by simp)
    have G7 : Holds h g7 [.box h.length [.slice none 0 0, .slice none 0 0, .slice none 0 0], .box (h.length + 1) [.slice wa E.length wc, .slice d8 ((gone st).length + 1) e8, .slice q4 (st.length + 1) w4], .own (.slice ra js.length rc) 1 ((rulL 4 js).map encI), .own (.slice d8 ((gone st).length + 1) e8) 1 ((gone st ++ [z]).map encI), .own (.slice q4 (st.length + 1) w4) 2 ((st ++ [(x, z)]).map encQ), .own (.slice wa E.length wc) 1 ((F.eraseIdx b).map encI)] := G7
    simp -implicitDefEqProofs [-indexAddrP_some, s7, l7, a8, s9, l9, lx9, a6, t7, winc hlt (by omega)]
    exact ⟨m - 1, by omega, on hI ⟨i + 1, _, _, _, by omega, by simp, by rw [es]; simp only [eg]; exact G7⟩⟩
end
end Go.Pm.PP

/- What the late rule tells, of both. -/
set_option linter.unusedVariables false
set_option linter.unusedSimpArgs false
set_option maxRecDepth 4000
set_option maxHeartbeats 16000000
namespace Go.Pm.PP
open Go.Pm Go.Proofs Go.Pm.PE
theorem hasL_iff {x : Int} {l : List Int} : hasL x l = true ↔ x ∈ l := by
  constructor
  · intro h
    obtain ⟨y, hy, e⟩ := List.any_eq_true.1 h
    rw [beq_iff_eq] at e
    exact e ▸ hy
  · intro h
    exact List.any_eq_true.2 ⟨x, h, by simp⟩
theorem rul_mem {js : List Job} {x : Int} : x ∈ rulL 4 js ↔ 0 ≤ x ∧ x < js.length := by rw [rulL_perm.mem_iff, mem_upTo]
/-- Of the jobs taken each one is left or gone. -/
theorem lr_xor {js : List Job} {k : Nat} {x : Int} (hx : x ∈ (rulL 4 js).take k) : x ∈ (lrX js k).1 ↔ x ∉ gone (lrX js k).2 := by
  obtain ⟨hp, _⟩ := @lrX_parts js k
  have hnd : ((lrX js k).1 ++ gone (lrX js k).2).Nodup := hp.nodup_iff.2 (rulL_ord.nd.sublist (List.take_sublist ..))
  have hm := hp.mem_iff (a := x)
  rw [List.mem_append] at hm
  have hd := (List.nodup_append.1 hnd).2.2
  constructor
  · intro h g
    exact hd x h x g rfl
  · intro h
    rcases hm.2 hx with g | g
    · exact g
    · exact absurd g h
def lrO (js : List Job) : List Int := (lrX js js.length).1 ++ delF (upTo js.length) (lrX js js.length).1
theorem rul_all {js : List Job} : (rulL 4 js).take js.length = rulL 4 js := List.take_of_length_le (by rw [rulL_ord.len]; exact Nat.le_refl _)
theorem lr_rest {js : List Job} : (upTo js.length).filter (fun x => hasL x (gone (lrX js js.length).2)) = delF (upTo js.length) (lrX js js.length).1 := by
  unfold delF
  refine List.filter_congr fun x hx => ?_
  have hx2 : x ∈ (rulL 4 js).take js.length := by rw [rul_all, rul_mem]; exact mem_upTo.1 hx
  have := lr_xor hx2
  cases h1 : hasL x (gone (lrX js js.length).2) <;> cases h2 : hasL x (lrX js js.length).1
  · have a : x ∉ gone (lrX js js.length).2 := fun g => by rw [hasL_iff.2 g] at h1; cases h1
    rw [hasL_iff.2 (this.2 a)] at h2; cases h2
  · rfl
  · rfl
  · exact absurd (hasL_iff.1 h1) (this.1 (hasL_iff.1 h2))
section
variable {h : Hp} {vj v u : Value} {js : List Job} {xs ys : List Int}
def rlO (js : List Job) : List Int := if plOk js = true then lrO js else []
def rlS (js : List Job) : List (Int × Int) := if plOk js = true then (lrX js js.length).2 else []
def rlN (js : List Job) : Int := if plOk js = true then (js.length : Int) - (lrX js js.length).1.length else 0
theorem nil_Q2 {h : Hp} : Prs h (.slice none 0 0) [] := ⟨by simp, none, 0, rfl, .inl ⟨rfl, rfl, rfl⟩⟩
theorem del_len {n : Nat} {s : List Int} : (delF (upTo n) s).length ≤ n := Nat.le_trans (List.length_filter_le ..) (by rw [upTo_len]; exact Nat.le_refl _)
theorem implLateRule_run (J : Jobs h vj js) (hl : js.length ≤ 2 ^ 40) : RunsC P G n_impl_LateRule [vj] h fun w h' => h <+: h' ∧ ∃ d, w = .tuple #[d, .bool (plOk js)] ∧ Ints h' d (rlO js) := by
  refine hideC fun K hK => enter_run e_impl_LateRule (by simp) ?_
  have Js := J
  obtain ⟨oj, cj, rfl⟩ := J.shapeT
  have r1 := IsPlain_run Js hl
  cases c1 : plOk js
  · rw [c1] at r1
    rw [rlO, c1] at hK
    simp -implicitDefEqProofs [CL_ret r1]
    exact onK hK ⟨List.prefix_rfl, _, rfl, nil_L⟩
  rw [c1] at r1
  rw [rlO, c1, if_pos rfl, lrO] at hK
  obtain ⟨hn, hg, _⟩ := plOk_of c1
  simp -implicitDefEqProofs [CL_ret r1]
  refine CL_post (lateRule_run (k := js.length) Js c1 (Nat.le_refl _)) fun w h1 ⟨hp1, a, b, ew, H1⟩ => ?_
  subst ew
  obtain ⟨lm1, lm2⟩ := @lrX_len js js.length
  have Sa : Ints h1 a (lrX js js.length).1 := H1.sees 0 rfl
  generalize (lrX js js.length).1 = E at *
  obtain ⟨aa, ac, rfl⟩ : ∃ p c, a = .slice p E.length c := Sa.shapeT
  obtain ⟨ba, bn, bc, rfl⟩ : ∃ p n c, b = .slice p n c := by obtain ⟨a, c, e⟩ := (H1.sees 1 rfl).shape; exact ⟨_, _, _, e⟩
  simp -implicitDefEqProofs
  refine CL_post (others_run (n := js.length) Sa (by omega) (by omega)) fun z h2 ⟨hp2, o2⟩ => ?_
  have H2 := H1.ext hp2
  have dl := @del_len js.length E
  obtain ⟨v3, h3, a3, H3, _⟩ := app_I H2 0 rfl o2.sees (by omega)
  have H3 : Holds h h3 [.own v3 1 ((E ++ delF (upTo js.length) E).map encI), .own (.slice ba bn bc) 2 _] := H3
  obtain ⟨za, zc, rfl⟩ : ∃ a c, z = .slice a (delF (upTo js.length) E).length c := (o2.sees : Ints h2 z _).shapeT
  obtain ⟨va, vn, vc, rfl⟩ : ∃ a n c, v3 = .slice a n c := by obtain ⟨a, c, e⟩ := (H3.sees 0 rfl).shape; exact ⟨_, _, _, e⟩
  simp -implicitDefEqProofs [a3]
  exact onK hK ⟨(H3.ret2 0 rfl).1, _, rfl, (H3.ret2 0 rfl).2.sees⟩
theorem implLateSteps_run (J : Jobs h vj js) (hl : js.length ≤ 2 ^ 40) : RunsC P G n_impl_LateSteps [vj] h fun w h' => h <+: h' ∧ ∃ d, w = .tuple #[d, .bool (plOk js)] ∧ Prs h' d (rlS js) := by
  refine hideC fun K hK => enter_run e_impl_LateSteps (by simp) ?_
  have Js := J
  obtain ⟨oj, cj, rfl⟩ := J.shapeT
  have r1 := IsPlain_run Js hl
  cases c1 : plOk js
  · rw [c1] at r1
    rw [rlS, c1] at hK
    simp -implicitDefEqProofs [CL_ret r1]
    exact onK hK ⟨List.prefix_rfl, _, rfl, nil_Q2⟩
  rw [c1] at r1
  rw [rlS, c1, if_pos rfl] at hK
  simp -implicitDefEqProofs [CL_ret r1]
  refine CL_post (lateRule_run (k := js.length) Js c1 (Nat.le_refl _)) fun w h1 ⟨hp1, a, b, ew, H1⟩ => ?_
  subst ew
  obtain ⟨aa, an, ac, rfl⟩ : ∃ p n c, a = .slice p n c := by obtain ⟨a, c, e⟩ := (H1.sees 0 rfl).shape; exact ⟨_, _, _, e⟩
  obtain ⟨ba, bn, bc, rfl⟩ : ∃ p n c, b = .slice p n c := by obtain ⟨a, c, e⟩ := (H1.sees 1 rfl).shape; exact ⟨_, _, _, e⟩
  simp -implicitDefEqProofs
  exact onK hK ⟨(H1.ret2 1 rfl).1, _, rfl, (H1.ret2 1 rfl).2.sees⟩
theorem implFewestLate_run (J : Jobs h vj js) (hl : js.length ≤ 2 ^ 40) : Ret P G n_impl_FewestLate [vj] h (.tuple #[.int .i64 (rlN js), .bool (plOk js)]) h := by
  refine enter_run e_impl_FewestLate (by simp) ?_
  have Js := J
  obtain ⟨oj, cj, rfl⟩ := J.shapeT
  have r1 := IsPlain_run Js hl
  cases c1 : plOk js
  · rw [c1] at r1
    simp -implicitDefEqProofs [CL_ret r1, rlN, c1]
  rw [c1] at r1
  obtain ⟨hn, hg, _⟩ := plOk_of c1
  have e : rlN js = (js.length : Int) - (lrX js js.length).1.length := by rw [rlN, c1, if_pos rfl]
  rw [e]
  simp -implicitDefEqProofs [CL_ret r1]
  refine CL_post (lateRule_run (k := js.length) Js c1 (Nat.le_refl _)) fun w h1 ⟨hp1, a, b, ew, H1⟩ => ?_
  subst ew
  obtain ⟨lm1, lm2⟩ := @lrX_len js js.length
  have Sa : Ints h1 a (lrX js js.length).1 := H1.sees 0 rfl
  generalize (lrX js js.length).1 = E at *
  obtain ⟨aa, ac, rfl⟩ : ∃ p c, a = .slice p E.length c := Sa.shapeT
  obtain ⟨ba, bn, bc, rfl⟩ : ∃ p n c, b = .slice p n c := by obtain ⟨a, c, e⟩ := (H1.sees 1 rfl).shape; exact ⟨_, _, _, e⟩
  have w1 : IntKind.i64.wrap ((js.length : Int) - E.length) = (js.length : Int) - E.length := by rw [wrap_ok] <;> omega
  simp -implicitDefEqProofs [w1]
  exact gcP hp1 rfl
def rlK (js : List Job) (k : Int) : Bool := plOk js && inB k 0 js.length
def rlA (js : List Job) (k : Int) : List Int := if rlK js k = true then ascL (lrX js k.toNat).1 else []
theorem rlK_of {k : Int} (h : rlK js k = true) : plOk js = true ∧ 0 ≤ k ∧ k ≤ js.length := by
  rw [rlK, Bool.and_eq_true] at h
  exact ⟨h.1, by simpa [inB] using h.2⟩
theorem implLeftAfter_run {k : Int} (J : Jobs h vj js) (hl : js.length ≤ 2 ^ 40) : RunsC P G n_impl_LeftAfter [vj, .int .i64 k] h fun w h' => h <+: h' ∧ ∃ d, w = .tuple #[d, .bool (rlK js k)] ∧ Ints h' d (rlA js k) := by
  refine hideC fun K hK => enter_run e_impl_LeftAfter (by simp) ?_
  have Js := J
  obtain ⟨oj, cj, rfl⟩ := J.shapeT
  have r1 := IsPlain_run Js hl
  cases c2 : rlK js k
  · rw [rlA, c2] at hK
    cases c1 : plOk js
    · rw [c1] at r1
      simp -implicitDefEqProofs [CL_ret r1]
      exact onK hK ⟨List.prefix_rfl, _, rfl, nil_L⟩
    · rw [c1] at r1
      rw [rlK, c1, Bool.true_and] at c2
      simp -implicitDefEqProofs [CL_ret r1, CL_ret within_run, c2]
      exact onK hK ⟨List.prefix_rfl, _, rfl, nil_L⟩
  rw [rlA, c2, if_pos rfl] at hK
  obtain ⟨c1, k0, k1⟩ := rlK_of c2
  rw [c1] at r1
  rw [rlK, c1, Bool.true_and] at c2
  obtain ⟨q, rfl⟩ : ∃ q : Nat, k = q := ⟨k.toNat, by omega⟩
  rw [Int.toNat_natCast] at hK
  simp -implicitDefEqProofs [CL_ret r1, CL_ret within_run, c2]
  refine CL_post (lateRule_run (k := q) Js c1 (by omega)) fun w h1 ⟨hp1, a, b, ew, H1⟩ => ?_
  subst ew
  obtain ⟨lm1, lm2⟩ := @lrX_len js q
  obtain ⟨hn, hg, _⟩ := plOk_of c1
  have Sa : Ints h1 a (lrX js q).1 := H1.sees 0 rfl
  have ra := ascending_run Sa (by omega)
  obtain ⟨aa, an, ac, rfl⟩ : ∃ p n c, a = .slice p n c := by obtain ⟨a, c, e⟩ := (H1.sees 0 rfl).shape; exact ⟨_, _, _, e⟩
  obtain ⟨ba, bn, bc, rfl⟩ : ∃ p n c, b = .slice p n c := by obtain ⟨a, c, e⟩ := (H1.sees 1 rfl).shape; exact ⟨_, _, _, e⟩
  simp -implicitDefEqProofs
  refine CL_post ra fun w h2 ⟨hp2, o2⟩ => ?_
  have H2 := (Holds.start (h := h)).call (hp1.trans hp2) (o2.low hp1.length_le)
  obtain ⟨wa, wn, wc, rfl⟩ : ∃ p n c, w = .slice p n c := by obtain ⟨a, c, e⟩ := o2.sees.shape; exact ⟨_, _, _, e⟩
  simp -implicitDefEqProofs
  exact onK hK ⟨(H2.ret2 0 rfl).1, _, rfl, (H2.ret2 0 rfl).2.sees⟩
/-! ### by the reference -/
theorem specLateRule_run (J : Jobs h vj js) (hl : js.length ≤ 2 ^ 40) : RunsC P G n_spec_LateRule [vj] h fun w h' => h <+: h' ∧ ∃ d, w = .tuple #[d, .bool (plOk js)] ∧ Ints h' d (rlO js) := by
  refine hideC fun K hK => enter_run e_spec_LateRule (by simp) ?_
  have Js := J
  obtain ⟨oj, cj, rfl⟩ := J.shapeT
  have r1 := specIsPlain_run Js hl
  cases c1 : plOk js
  · rw [c1] at r1
    rw [rlO, c1] at hK
    simp -implicitDefEqProofs [CL_ret r1]
    exact onK hK ⟨List.prefix_rfl, _, rfl, nil_L⟩
  rw [c1] at r1
  rw [rlO, c1, if_pos rfl, lrO, ← lr_rest] at hK
  obtain ⟨hn, hg, _⟩ := plOk_of c1
  simp -implicitDefEqProofs [CL_ret r1]
  refine CL_post (l3Rule_run Js c1) fun w h1 ⟨hp1, a, b, c, ew, Sa, Sb, Sc⟩ => ?_
  subst ew
  obtain ⟨lm1, lm2⟩ := @lrX_len js js.length
  have lm3 : (gone (lrX js js.length).2).length ≤ js.length := Nat.le_trans (List.length_filter_le ..) (by rw [List.length_map]; exact lm2)
  generalize (lrX js js.length).1 = E at *
  generalize gone (lrX js js.length).2 = D at *
  obtain ⟨aa, ac, rfl⟩ : ∃ p c, a = .slice p E.length c := Sa.shapeT
  obtain ⟨ba, bc, rfl⟩ : ∃ p c, b = .slice p D.length c := Sb.shapeT
  obtain ⟨ca, cn, cc, rfl⟩ : ∃ p n c', c = .slice p n c' := by obtain ⟨a, c, e⟩ := Sc.shape; exact ⟨_, _, _, e⟩
  have HB := (Holds.start (h := h1)).alloc [.slice aa E.length ac, .slice ba D.length bc, .slice ca cn cc]
  have lb := HB.bl (P := P) 0 3 rfl rfl
  simp -implicitDefEqProofs [lb]
  refine CL_post (l1Own_run (Sa.pre HB.pre) (by omega)) fun z h2 ⟨hp2, o2⟩ => ?_
  have H2 := HB.call hp2 o2
  have H2 : Holds h1 h2 [.box h1.length [.slice aa E.length ac, .slice ba D.length bc, .slice ca cn cc], .own z 1 (E.map encI)] := H2
  simp -implicitDefEqProofs
  refine R_loopO (fun m s h' => ∃ (i : Nat) (z : Value), i + m = js.length ∧ s = [(0, .slice oj js.length cj), (4, .pointer (some ⟨h1.length, 0, some 3⟩)), (5, z), (6, .int .i64 i)] ∧ Holds h1 h' [.box h1.length [.slice aa E.length ac, .slice ba D.length bc, .slice ca cn cc], .own z 1 ((E ++ (upTo i).filter (fun x => hasL x D)).map encI)]) (fun I hI m s h' => ?_) (n := js.length)
    ⟨0, z, Nat.zero_add _, by simp, by simpa [upTo] using H2⟩
  rintro ⟨i, z, hi, rfl, H⟩
  have hfl : ((upTo i).filter (fun x => hasL x D)).length ≤ i := Nat.le_trans (List.length_filter_le ..) (by rw [upTo_len]; exact Nat.le_refl _)
  have l4 := H.bl (P := P) 0 3 rfl rfl
  by_cases hlt : i < js.length
  · have hlt' : (i : Int) < js.length := by omega
    have rh := l1Has_run (x := (i : Int)) (Sb.pre H.pre) (by omega)
    have e : (upTo (i + 1)).filter (fun x => hasL x D) = (upTo i).filter (fun x => hasL x D) ++ if hasL (i : Int) D = true then [(i : Int)] else [] := by
      rw [up_snoc, List.filter_append]
      congr 1
      cases g : hasL (i : Int) D <;> simp [List.filter_cons, g]
    cases c3 : hasL (i : Int) D
    · rw [c3] at rh
      rw [c3, if_neg (by simp), List.append_nil] at e
      simp -implicitDefEqProofs [hlt, hlt', l4, CL_ret rh, winc hlt (by omega)]
      exact ⟨m - 1, by omega, on hI ⟨i + 1, z, by omega, by simp, by rw [e]; exact H⟩⟩
    · rw [c3] at rh
      rw [c3, if_pos rfl] at e
      obtain ⟨v', h3, a3, H3, _⟩ := push_I0 H 1 rfl (i : Int) (by simp; omega)
      rw [List.append_assoc, ← e] at H3
      simp -implicitDefEqProofs [hlt, hlt', l4, CL_ret rh, a3, winc hlt (by omega)]
      exact ⟨m - 1, by omega, on hI ⟨i + 1, v', by omega, by simp, H3⟩⟩
  · have hlt' : ¬ (i : Int) < js.length := by omega
    have : i = js.length := by omega
    subst this
    obtain ⟨za, zn, zc, rfl⟩ : ∃ p n c, z = .slice p n c := by obtain ⟨a, c, e⟩ := (H.sees 1 rfl).shape; exact ⟨_, _, _, e⟩
    have H9 := H.base hp1
    simp -implicitDefEqProofs [hlt, hlt']
    exact onK hK ⟨(H9.ret2 1 rfl).1, _, rfl, (H9.ret2 1 rfl).2.sees⟩
theorem specLateSteps_run (J : Jobs h vj js) (hl : js.length ≤ 2 ^ 40) : RunsC P G n_spec_LateSteps [vj] h fun w h' => h <+: h' ∧ ∃ d, w = .tuple #[d, .bool (plOk js)] ∧ Prs h' d (rlS js) := by
  refine hideC fun K hK => enter_run e_spec_LateSteps (by simp) ?_
  have Js := J
  obtain ⟨oj, cj, rfl⟩ := J.shapeT
  have r1 := specIsPlain_run Js hl
  cases c1 : plOk js
  · rw [c1] at r1
    rw [rlS, c1] at hK
    simp -implicitDefEqProofs [CL_ret r1]
    exact onK hK ⟨List.prefix_rfl, _, rfl, nil_Q2⟩
  rw [c1] at r1
  rw [rlS, c1, if_pos rfl] at hK
  simp -implicitDefEqProofs [CL_ret r1]
  refine CL_post (l3Rule_run Js c1) fun w h1 ⟨hp1, a, b, c, ew, Sa, Sb, Sc⟩ => ?_
  subst ew
  obtain ⟨ca, cn, cc, rfl⟩ : ∃ p n c', c = .slice p n c' := by obtain ⟨a, c, e⟩ := Sc.shape; exact ⟨_, _, _, e⟩
  simp -implicitDefEqProofs
  exact onK hK ⟨pre_gcU hp1, _, rfl, Sees.gcU Sc fun g => plainT (r := [_]) g⟩
theorem lr_count : (lrX js js.length).1.length + (gone (lrX js js.length).2).length = js.length := by
  have := (@lrX_parts js js.length).1.length_eq
  rw [List.length_append, rul_all, rulL_ord.len] at this
  exact this
theorem specFewestLate_run (J : Jobs h vj js) (hl : js.length ≤ 2 ^ 40) : Ret P G n_spec_FewestLate [vj] h (.tuple #[.int .i64 (rlN js), .bool (plOk js)]) h := by
  refine enter_run e_spec_FewestLate (by simp) ?_
  have Js := J
  obtain ⟨oj, cj, rfl⟩ := J.shapeT
  have r1 := specIsPlain_run Js hl
  cases c1 : plOk js
  · rw [c1] at r1
    simp -implicitDefEqProofs [CL_ret r1, rlN, c1]
  rw [c1] at r1
  have hc := @lr_count js
  have e : rlN js = ((gone (lrX js js.length).2).length : Int) := by rw [rlN, c1, if_pos rfl]; omega
  rw [e]
  simp -implicitDefEqProofs [CL_ret r1]
  refine CL_post (l3Rule_run Js c1) fun w h1 ⟨hp1, a, b, c, ew, Sa, Sb, Sc⟩ => ?_
  subst ew
  generalize gone (lrX js js.length).2 = D at *
  obtain ⟨ba, bc, rfl⟩ : ∃ p c, b = .slice p D.length c := Sb.shapeT
  simp -implicitDefEqProofs
  exact gcP hp1 rfl
/-! ### what is left after some steps -/
def atG (x : Int) : List Int → Nat → Int
  | [], _ => -1
  | y :: r, i => if y = x then (i : Int) else atG x r (i + 1)
theorem atG_spec {x : Int} : ∀ {l : List Int} {i : Nat}, (atG x l i = -1 ∧ x ∉ l) ∨ ∃ q : Nat, atG x l i = ((i + q : Nat) : Int) ∧ q < l.length ∧ gE l q = x
  | [], i => .inl ⟨rfl, fun h => by cases h⟩
  | y :: r, i => by
    rw [atG]
    by_cases c : y = x
    · rw [if_pos c]
      exact .inr ⟨0, by simp, by simp, by rw [← c]; rfl⟩
    · rw [if_neg c]
      rcases atG_spec (x := x) (l := r) (i := i + 1) with ⟨h1, h2⟩ | ⟨q, h1, h2, h3⟩
      · exact .inl ⟨h1, fun g => by
          rcases List.mem_cons.1 g with g | g
          · exact c g.symm
          · exact h2 g⟩
      · exact .inr ⟨q + 1, by rw [h1]; omega, by simp; omega, by simpa [gE] using h3⟩
theorem l3At_run {x : Int} (X : Ints h v xs) (hx : xs.length ≤ 2 ^ 40) : Ret P G n_spec_l3At [v, .int .i64 x] h (.int .i64 (atG x xs 0)) h := by
  refine enter_run e_spec_l3At (by simp) ?_
  have Xs := X
  obtain ⟨oa, c, rfl⟩ := X.shapeT
  simp -implicitDefEqProofs
  refine R_loopO (fun m s h' => ∃ (i : Nat), i + m = xs.length ∧ s = [(0, .slice oa xs.length c), (1, .int .i64 x), (5, .int .i64 i)] ∧ atG x xs 0 = atG x (xs.drop i) i ∧ h' = h) (fun I hI m s h' => ?_) (n := xs.length) ⟨0, Nat.zero_add _, by simp, rfl, rfl⟩
  rintro ⟨i, hi, rfl, he, rfl⟩
  by_cases hlt : i < xs.length
  · have hlt' : (i : Int) < xs.length := by omega
    obtain ⟨y, hy, hd⟩ := drop_at hlt
    rw [hd, atG] at he
    by_cases c1 : y = x
    · rw [if_pos c1] at he
      rw [he]
      subst c1
      simp -implicitDefEqProofs [-indexAddrP_some, hlt, hlt', load_I Xs hy]
    · rw [if_neg c1] at he
      simp -implicitDefEqProofs [-indexAddrP_some, hlt, hlt', load_I Xs hy, nb c1, winc hlt (by omega)]
      exact ⟨m - 1, by omega, on hI ⟨i + 1, by omega, by simp, he, rfl⟩⟩
  · have hlt' : ¬ (i : Int) < xs.length := by omega
    rw [List.drop_eq_nil_of_le (by omega)] at he
    rw [he]
    simp -implicitDefEqProofs [hlt, hlt', atG]
theorem putI_mem {l : List Int} {x y : Int} : y ∈ putI l x ↔ y = x ∨ y ∈ l := by
  unfold putI
  split
  · rename_i g
    obtain ⟨z, hz, e⟩ := List.any_eq_true.1 g
    rw [beq_iff_eq] at e
    constructor
    · exact .inr
    · rintro (g | g)
      · rw [g, ← e]; exact hz
      · exact g
  · rw [insF_perm.mem_iff, List.mem_cons]
theorem putI_srt {l : List Int} {x : Int} (h : l.Pairwise (· < ·)) : (putI l x).Pairwise (· < ·) := by
  unfold putI
  split
  · exact h
  · rename_i g
    refine insF_sorted (R := fun a b => a < b) h (fun y hy hp => by simpa using hp) (fun y hy hp => ?_) fun y z hy hz hr hp => ?_
    · have h1 : ¬ y < x := by simpa using hp
      have h2 : y ≠ x := fun e => g (List.any_eq_true.2 ⟨y, hy, by simpa using e⟩)
      omega
    · have h1 : ¬ y < x := by simpa using hp
      have : ¬ z < x := by omega
      simpa using this
theorem asc_uniq {l s : List Int} (h : l.Pairwise (· < ·)) (hn : s.Nodup) (hm : ∀ y, y ∈ l ↔ y ∈ s) : l = ascL s := by
  have h1 : (ascL s).Perm s := sortB_perm
  have h2 := sortB_weak (ah := fun a b => decide (a < b)) ⟨fun h => by simp at h ⊢; omega, fun h1 h2 => by simp at h1 h2 ⊢; omega⟩ (l := s)
  have h3 : (ascL s).Nodup := h1.nodup_iff.2 hn
  have h2 : (ascL s).Pairwise fun a b => a ≤ b := h2.imp fun h => by simpa using h
  have hn2 : l.Nodup := h.imp fun h => by omega
  refine sorted_eq (R := fun a b => a < b) (fun a b h1 h2 => by omega) h (List.Pairwise.imp (fun h => by omega) (h2.and h3)) ?_
  exact (List.perm_ext_iff_of_nodup hn2 h3).2 fun y => by rw [hm, h1.mem_iff]
theorem steps_take {k : Nat} : ∀ {m : Nat}, k ≤ m → m ≤ js.length → (lrX js m).2.take k = (lrX js k).2 ∧ (lrX js m).2.length = m
  | 0, hk, _ => by
    obtain rfl : k = 0 := by omega
    exact ⟨rfl, rfl⟩
  | m + 1, hk, hm => by
    have hl := rulL_ord (o := 4) (js := js) |>.len
    obtain ⟨x, hx, _⟩ := drop_at (show m < (rulL 4 js).length by omega)
    have e2 : ∀ s : List Int × List (Int × Int), ∃ p, (lrS (tJ js) (dJ js) s x).2 = s.2 ++ [p] := fun s => by
      unfold lrS; split
      · exact ⟨_, rfl⟩
      · exact ⟨_, rfl⟩
    obtain ⟨p, hp⟩ := e2 (lrX js m)
    have es : (lrX js (m + 1)).2 = (lrX js m).2 ++ [p] := by rw [lrX_succ hx, hp]
    have hlen : (lrX js m).2.length = m := by
      have := congrArg List.length (@lrX_parts js m).2
      rw [List.length_map, List.length_take, hl] at this
      omega
    rcases Nat.eq_or_lt_of_le hk with g | g
    · subst g
      refine ⟨List.take_of_length_le (by rw [es]; simp; omega), by rw [es]; simp; omega⟩
    · have ih := steps_take (k := k) (m := m) (by omega) (by omega)
      refine ⟨?_, by rw [es]; simp; omega⟩
      rw [es, List.take_append_of_le_length (by omega)]
      exact ih.1
theorem step_fst {i : Nat} {p : Int × Int} (hp : (lrX js js.length).2[i]? = some p) : (rulL 4 js)[i]? = some p.1 := by
  have h := (@lrX_parts js js.length).2
  rw [rul_all] at h
  rw [← h, List.getElem?_map, hp]; rfl
theorem specLeftAfter_run {k : Int} (J : Jobs h vj js) (hl : js.length ≤ 2 ^ 40) : RunsC P G n_spec_LeftAfter [vj, .int .i64 k] h fun w h' => h <+: h' ∧ ∃ d, w = .tuple #[d, .bool (rlK js k)] ∧ Ints h' d (rlA js k) := by
  refine hideC fun K hK => enter_run e_spec_LeftAfter (by simp) ?_
  have Js := J
  obtain ⟨oj, cj, rfl⟩ := J.shapeT
  have r1 := specIsPlain_run Js hl
  cases c2 : rlK js k
  · rw [rlA, c2] at hK
    cases c1 : plOk js
    · rw [c1] at r1
      simp -implicitDefEqProofs [CL_ret r1]
      exact onK hK ⟨List.prefix_rfl, _, rfl, nil_L⟩
    · rw [c1] at r1
      rw [rlK, c1, Bool.true_and] at c2
      simp -implicitDefEqProofs [CL_ret r1, CL_ret l1In_run, c2]
      exact onK hK ⟨List.prefix_rfl, _, rfl, nil_L⟩
  rw [rlA, c2, if_pos rfl] at hK
  obtain ⟨c1, k0, k1⟩ := rlK_of c2
  rw [c1] at r1
  rw [rlK, c1, Bool.true_and] at c2
  obtain ⟨q, rfl⟩ : ∃ q : Nat, k = q := ⟨k.toNat, by omega⟩
  rw [Int.toNat_natCast] at hK
  obtain ⟨hn, hg, _⟩ := plOk_of c1
  have hDl := rulL_ord (o := 4) (js := js) |>.len
  simp -implicitDefEqProofs [CL_ret r1, CL_ret l1In_run, c2]
  refine CL_post (l3Rule_run Js c1) fun w h1 ⟨hp1, a, b, c, ew, Sa, Sb, Sc⟩ => ?_
  subst ew
  obtain ⟨st1, st2⟩ := steps_take (js := js) (k := q) (m := js.length) (by omega) (Nat.le_refl _)
  have fst := fun {i p} => @step_fst js i p
  obtain ⟨T, hT⟩ : ∃ T, T = (lrX js js.length).2 := ⟨_, rfl⟩
  rw [← hT] at Sc st1 st2
  simp only [← hT] at fst
  obtain ⟨ca, cc, rfl⟩ : ∃ p c', c = .slice p T.length c' := Sc.shapeT
  rw [st2] at Sc
  have fin : ∀ {A : List Int} {vo : Value} {h9 : Hp}, h <+: h9 → Ints h9 vo A → A.Pairwise (· < ·) → (∀ y, y ∈ A ↔ y ∈ (rulL 4 js).take q ∧ y ∉ gone (T.take q)) → K (.tuple #[vo, .bool true]) (gc h h9 (.tuple #[vo, .bool true])) := fun {A vo h9} hp S hs hm => by
    have e : A = ascL (lrX js q).1 := by
      refine asc_uniq hs ?_ fun y => ?_
      · have hp2 := (@lrX_parts js q).1
        exact ((List.nodup_append.1 (hp2.nodup_iff.2 (rulL_ord.nd.sublist (List.take_sublist ..))))).1
      · rw [hm, st1]
        constructor
        · rintro ⟨a, b⟩; exact (lr_xor a).2 b
        · intro g
          have hy := (@lrX_parts js q).1.mem_iff.1 (List.mem_append_left _ g)
          exact ⟨hy, (lr_xor hy).1 g⟩
    subst e
    exact onK hK ⟨pre_gcU hp, _, rfl, Sees.gcU S fun g => plainT (r := [_]) g⟩
  simp -implicitDefEqProofs [st2]
  refine R_loopO (fun m s h' => ∃ (i : Nat) (vo : Value) (A : List Int), i + m = q ∧ s = [(1, .int .i64 q), (6, vo), (7, .slice ca js.length cc), (8, .int .i64 i)] ∧ h1 <+: h' ∧ Ints h' vo A ∧ A.Pairwise (· < ·) ∧ A.length ≤ i ∧ ∀ y, y ∈ A ↔ y ∈ (rulL 4 js).take i) (fun I hI m s h' => ?_) (n := q)
    ⟨0, .slice none 0 0, [], Nat.zero_add _, by simp, List.prefix_rfl, nil_L, List.Pairwise.nil, Nat.le_refl _, fun y => by simp⟩
  rintro ⟨i, vo, A, hi, rfl, hp, SA, hs, hAl, hA⟩
  obtain ⟨va, vc, rfl⟩ : ∃ p c, vo = .slice p A.length c := SA.shapeT
  by_cases hlt : i < q
  · have hlt' : (i : Int) < q := by omega
    obtain ⟨p, hpi, _⟩ := drop_at (show i < T.length by omega)
    have lp := load_Q (Sc.pre hp) hpi
    have hx := fst hpi
    simp -implicitDefEqProofs [-indexAddrP_some, hlt, hlt', lp, ia20]
    refine CL_post (l1Put_run (x := p.1) SA (by omega) hs) fun w h2 ⟨hp2, S2⟩ => ?_
    have hpl : (putI A p.1).length ≤ i + 1 := by
      unfold putI
      split
      · omega
      · rw [insF_perm.length_eq]; simp; omega
    obtain ⟨wa, wc, rfl⟩ : ∃ p' c, w = .slice p' (putI A p.1).length c := S2.shapeT
    simp -implicitDefEqProofs [winc hlt (by omega)]
    exact ⟨m - 1, by omega, on hI ⟨i + 1, _, putI A p.1, by omega, by simp, hp.trans hp2, S2, putI_srt hs, hpl, fun y => by
      rw [putI_mem, hA, take_succ' hx, List.mem_append, List.mem_singleton]
      exact ⟨fun g => g.elim .inr .inl, fun g => g.elim .inr .inl⟩⟩⟩
  have hlt' : ¬ (i : Int) < q := by omega
  have : i = q := by omega
  subst this
  simp -implicitDefEqProofs [hlt, hlt']
  refine R_loopO (fun m s h' => ∃ (j : Nat) (vo : Value) (A : List Int), j + m = i ∧ s = [(1, .int .i64 i), (6, vo), (7, .slice ca js.length cc), (9, .int .i64 j)] ∧ h1 <+: h' ∧ Ints h' vo A ∧ A.Pairwise (· < ·) ∧ A.length ≤ i ∧ ∀ y, y ∈ A ↔ y ∈ (rulL 4 js).take i ∧ y ∉ gone (T.take j)) (fun I2 hI2 m2 s2 h' => ?_) (n := i)
    ⟨0, _, A, Nat.zero_add _, by simp, hp, SA, hs, hAl, fun y => by rw [hA]; simp [gone]⟩
  clear SA hs hAl hA hp
  rintro ⟨j, vo, A, hj, rfl, hp, SA, hs, hAl, hA⟩
  obtain ⟨va, vc, rfl⟩ : ∃ p c, vo = .slice p A.length c := SA.shapeT
  by_cases hlj : j < i
  · have hlj' : (j : Int) < i := by omega
    obtain ⟨p, hpi, _⟩ := drop_at (show j < T.length by omega)
    have lp := load_Q (Sc.pre hp) hpi
    have ra := l3At_run (x := p.2) SA (by omega)
    have eg : gone (T.take (j + 1)) = gone (T.take j) ++ if 0 ≤ p.2 then [p.2] else [] := by rw [take_succ' hpi, gone_snoc]
    rcases atG_spec (x := p.2) (l := A) (i := 0) with ⟨e1, e2⟩ | ⟨t, e1, e2, e3⟩
    · rw [e1] at ra
      simp -implicitDefEqProofs [-indexAddrP_some, hlj, hlj', lp, ia21, CL_ret ra, winc hlj (by omega)]
      exact ⟨m2 - 1, by omega, on hI2 ⟨j + 1, _, A, by omega, by simp, hp, SA, hs, hAl, fun y => by
        rw [hA, eg, List.mem_append, not_or]
        constructor
        · rintro ⟨a, b⟩
          refine ⟨a, b, fun g => ?_⟩
          split at g
          · rw [List.mem_singleton.1 g] at a b
            exact e2 ((hA p.2).2 ⟨a, b⟩)
          · cases g
        · rintro ⟨a, b, _⟩; exact ⟨a, b⟩⟩⟩
    · rw [e1, Nat.zero_add] at ra
      have hpm : p.2 ∈ A := by rw [← e3]; exact List.mem_of_getElem? (gE_get e2)
      have p0 : 0 ≤ p.2 := (rul_mem.1 (List.mem_of_mem_take ((hA p.2).1 hpm).1)).1
      rw [if_pos p0] at eg
      have t0 : (0 : Int) ≤ t := by omega
      simp -implicitDefEqProofs [-indexAddrP_some, hlj, hlj', lp, ia21, CL_ret ra]
      refine CL_post (l3Without_run SA e2 (by omega)) fun w h2 ⟨hp2, o2⟩ => ?_
      have hel : (A.eraseIdx t).length = A.length - 1 := by rw [List.length_eraseIdx, if_pos e2]
      have hpe := erase_perm e2
      rw [e3] at hpe
      have hnd : A.Nodup := hs.imp fun h => by omega
      have hnd2 := List.nodup_cons.1 (hpe.nodup_iff.1 hnd)
      obtain ⟨wa, wn, wc, rfl⟩ : ∃ p' n c, w = .slice p' n c := by obtain ⟨a, c, e⟩ := o2.sees.shape; exact ⟨_, _, _, e⟩
      simp -implicitDefEqProofs [winc hlj (by omega)]
      exact ⟨m2 - 1, by omega, on hI2 ⟨j + 1, .slice wa wn wc, A.eraseIdx t, by omega, by simp, hp.trans hp2, o2.sees, hs.sublist (List.eraseIdx_sublist ..), by omega, fun y => by
        have hm := hpe.mem_iff (a := y)
        rw [List.mem_cons] at hm
        rw [eg, List.mem_append, not_or, List.mem_singleton]
        constructor
        · intro g
          obtain ⟨a, b⟩ := (hA y).1 (hm.2 (.inr g))
          exact ⟨a, b, fun e => hnd2.1 (e ▸ g)⟩
        · rintro ⟨a, b, d⟩
          exact (hm.1 ((hA y).2 ⟨a, b⟩)).resolve_left d⟩⟩
  · have hlj' : ¬ (j : Int) < i := by omega
    have : j = i := by omega
    subst this
    simp -implicitDefEqProofs [hlj, hlj']
    exact fin (hp1.trans hp) SA hs hA
end
end Go.Pm.PP

/- FnVectors: its draws. -/
set_option linter.unusedVariables false
set_option linter.unusedSimpArgs false
set_option maxRecDepth 4000
set_option maxHeartbeats 16000000
namespace Go.Pm.PP
open Go.Pm Go.Proofs Go.Pm.PE
section
variable {h0 h : Hp} {r n : Nat} {vc : Value} {L T : List Asn}
theorem Cur.putI {u : Value} {xs : List Int} (C : Cur h0 h r vc n (L ++ [.own u 1 (xs.map encI)])) {k : Nat} (hk : k < xs.length) (x : Int) : ∃ h', storeP P h t_int (.int .i64 x) (.pointer (some (addP (base u) k))) = some h' ∧ Cur h0 h' r vc n (L ++ [.own u 1 ((xs.set k x).map encI)]) := by
  obtain ⟨a, s, h1, h2, H⟩ := C
  obtain ⟨h', g1, g2, _⟩ := put_I H (L.length + 1) (by rw [List.getElem?_cons_succ]; exact snoc_get) hk x
  refine ⟨h', g1, a, s, h1, h2, ?_⟩
  rw [List.set_cons_succ, List.set_append_right (h := Nat.le_refl _), Nat.sub_self] at g2
  exact g2
theorem Cur.pushI {u : Value} {xs : List Int} (C : Cur h0 h r vc n (L ++ [.own u 1 (xs.map encI)])) (x : Int) (hl : xs.length ≤ 2 ^ 30) : ∃ u' h', appendP P (h ++ [some ⟨[.int .i64 x], 1, false⟩]) t_S_int u (.slice (some ⟨h.length, 0, some 1⟩) 1 1) = some (u', h') ∧ Cur h0 h' r vc n (L ++ [.own u' 1 ((xs ++ [x]).map encI)]) := by
  obtain ⟨a, s, g1, g2, H⟩ := C
  obtain ⟨u', h5, g3, g4, _⟩ := push_I0 H (L.length + 1) (by rw [List.getElem?_cons_succ]; exact snoc_get) x (by omega)
  rw [List.set_cons_succ, List.set_append_right (h := Nat.le_refl _), Nat.sub_self] at g4
  exact ⟨u', h5, g3, a, s, g1, g2, g4⟩
theorem Cur.seesAt {i : Nat} {u : Value} {sz : Nat} {els : List (List Value)} (C : Cur h0 h r vc n (L ++ T)) (hi : L[i]? = some (.own u sz els)) : Sees h u sz els := by
  obtain ⟨a, s, h1, h2, H⟩ := C
  exact H.sees (i + 1) (by rw [List.getElem?_cons_succ, List.getElem?_append_left (List.getElem?_eq_some_iff.1 hi).1]; exact hi)
end
end Go.Pm.PP

/- On time, of both; draws of FnLateRule; what late jobs an order has. -/
set_option linter.unusedVariables false
set_option linter.unusedSimpArgs false
set_option maxRecDepth 4000
set_option maxHeartbeats 16000000
namespace Go.Pm.PP
open Go.Pm Go.Proofs Go.Pm.PE
/-- The jobs of a set in the order of their dates. -/
def inD (js : List Job) (s : List Int) : List Int := (rulL 4 js).filter fun x => hasL x s
theorem inD_perm {js : List Job} {s : List Int} (hin : inN js.length s) (hn : s.Nodup) : (inD js s).Perm s := by
  refine (List.perm_ext_iff_of_nodup (rulL_ord.nd.sublist List.filter_sublist) hn).2 fun x => ?_
  rw [List.mem_filter, hasL_iff, rul_mem]
  exact ⟨fun h => h.2, fun h => ⟨hin x h, h⟩⟩
theorem inD_due {js : List Job} (hg : goodL js = true) {s : List Int} : (inD js s).Pairwise fun a b => (jA js a).d ≤ (jA js b).d := (rul_due hg).sublist List.filter_sublist
theorem inD_tim {js : List Job} (hok : plOk js = true) {s : List Int} (hin : inN js.length s) (hn : s.Nodup) : timGo js 0 (inD js s) = timB js s :=
  tim_sorted (plOk_pl hok) (inD_due (plOk_of hok).2.1) dueL_d ((inD_perm hin hn).trans dueL_perm.symm)
section
variable {h : Hp} {vj v u : Value} {js : List Job} {xs ys : List Int}
theorem implOnTime_run (J : Jobs h vj js) (X : Ints h v xs) (hl : js.length ≤ 2 ^ 40) (hx : xs.length ≤ 2 ^ 10) : Ret P G n_impl_OnTime [vj, v] h (.tuple #[.bool (tmlOk js xs && timB js xs), .bool (tmlOk js xs)]) h := by
  refine enter_run e_impl_OnTime (by simp) ?_
  have r1 := IsPlain_run J hl
  have r2 := isSetG_run (n := js.length) X (by omega) hl
  have Js := J
  have Xs := X
  obtain ⟨oj, cj, rfl⟩ := J.shapeT
  obtain ⟨ox, cx, rfl⟩ := X.shapeT
  cases c1 : plOk js
  · rw [c1] at r1
    simp -implicitDefEqProofs [CL_ret r1, tmlOk, c1]
  · rw [c1] at r1
    cases c2 : setB js.length xs
    · rw [c2] at r2
      simp -implicitDefEqProofs [CL_ret r1, CL_ret r2, tmlOk, c1, c2]
    · rw [c2] at r2
      obtain ⟨hin, hs⟩ := setB_iff.1 c2
      obtain ⟨_, hg, _⟩ := plOk_of c1
      have r3 := onTime_run Js Xs hin hx (good_bd hg)
      rw [tim_imp (plOk_pl c1)] at r3
      simp -implicitDefEqProofs [CL_ret r1, CL_ret r2, CL_ret r3, tmlOk, c1, c2]
theorem l3OnTime_run (J : Jobs h vj js) (X : Ints h v xs) (hok : plOk js = true) (hx : xs.length ≤ 2 ^ 10) : Ret P G n_spec_l3OnTime [vj, v] h (.bool (timGo js 0 (inD js xs))) h := by
  refine enter_run e_spec_l3OnTime (by simp) ?_
  have Js := J
  have Xs := X
  obtain ⟨oj, cj, rfl⟩ := J.shapeT
  obtain ⟨oa, ca, rfl⟩ := X.shapeT
  obtain ⟨hn, hg, _⟩ := plOk_of hok
  simp -implicitDefEqProofs
  refine CL_post (l3Order_run (o := 4) Js hg hn) fun vr h2 ⟨hp2, o2⟩ => ?_
  rw [ruled_eq (good_tm hg) up_asc (fun x hx => mem_upTo.1 hx)] at o2
  have S2 : Ints h2 vr (rulL 4 js) := o2.sees
  have hl := rulL_ord (o := 4) (js := js) |>.len
  have hin := rulL_ord (o := 4) (js := js) |>.inn
  unfold inD
  generalize rulL 4 js = D at *
  obtain ⟨ra, rc, rfl⟩ : ∃ a c, vr = .slice a D.length c := S2.shapeT
  simp -implicitDefEqProofs
  refine R_loopO (fun m s h' => ∃ (i : Nat) (now : Int), i + m = D.length ∧ s = [(0, .slice oj js.length cj), (1, .slice oa xs.length ca), (5, .slice ra D.length rc), (6, .int .i64 now), (7, .int .i64 i)] ∧ (0 ≤ now ∧ now ≤ 50 * i) ∧ timGo js 0 (D.filter fun x => hasL x xs) = timGo js now ((D.drop i).filter fun x => hasL x xs) ∧ h' = h2) (fun I hI m s h' => ?_) (n := D.length) ⟨0, 0, Nat.zero_add _, by simp, by simp, rfl, rfl⟩
  rintro ⟨i, now, hi, rfl, hb, he, rfl⟩
  by_cases hlt : i < D.length
  · have hlt' : (i : Int) < D.length := by omega
    obtain ⟨y, hy, hd⟩ := drop_at hlt
    have iy := hin y (List.mem_of_getElem? hy)
    have ly := load_I S2 hy
    have rh := l1Has_run (x := y) (Xs.pre hp2) (by omega)
    rw [hd, List.filter_cons] at he
    cases c1 : hasL y xs
    · rw [c1] at rh
      rw [c1, if_neg (by simp)] at he
      simp -implicitDefEqProofs [-indexAddrP_some, hlt, hlt', ly, CL_ret rh, winc hlt (by omega)]
      exact ⟨m - 1, by omega, on hI ⟨i + 1, now, by omega, by simp, by omega, he, rfl⟩⟩
    · rw [c1] at rh
      rw [c1, if_pos rfl, timGo] at he
      have lj := load_JX (Js.pre hp2) iy
      have jt := jt_bd hg y
      have w1 : IntKind.i64.wrap (now + (jA js y).t) = now + (jA js y).t := by rw [wrap_ok] <;> omega
      by_cases c2 : (jA js y).d < now + (jA js y).t
      · rw [decide_eq_false (by omega), Bool.false_and] at he
        simp -implicitDefEqProofs [-indexAddrP_some, hlt, hlt', ly, CL_ret rh, lj, w1, c2, he]
        exact gcP hp2 rfl
      · rw [decide_eq_true (by omega), Bool.true_and] at he
        simp -implicitDefEqProofs [-indexAddrP_some, hlt, hlt', ly, CL_ret rh, lj, w1, c2, winc hlt (by omega)]
        exact ⟨m - 1, by omega, on hI ⟨i + 1, _, by omega, by simp, by omega, he, rfl⟩⟩
  · have hlt' : ¬ (i : Int) < D.length := by omega
    rw [List.drop_eq_nil_of_le (by omega)] at he
    have he : timGo js 0 (D.filter fun x => hasL x xs) = true := he
    simp -implicitDefEqProofs [hlt, hlt', he]
    exact gcP hp2 rfl
theorem specOnTime_run (J : Jobs h vj js) (X : Ints h v xs) (hl : js.length ≤ 2 ^ 40) (hx : xs.length ≤ 2 ^ 10) : Ret P G n_spec_OnTime [vj, v] h (.tuple #[.bool (tmlOk js xs && timB js xs), .bool (tmlOk js xs)]) h := by
  refine enter_run e_spec_OnTime (by simp) ?_
  have r1 := specIsPlain_run J hl
  have r2 := l1RisingG_run (lo := 0) (hi := (js.length : Int) - 1) X (by omega)
  rw [upR_none] at r2
  have w : IntKind.i64.wrap ((js.length : Int) - 1) = (js.length : Int) - 1 := by rw [wrap_ok] <;> omega
  have Js := J
  have Xs := X
  obtain ⟨oj, cj, rfl⟩ := J.shapeT
  obtain ⟨ox, cx, rfl⟩ := X.shapeT
  cases c1 : plOk js
  · rw [c1] at r1
    simp -implicitDefEqProofs [CL_ret r1, tmlOk, c1]
  · rw [c1] at r1
    cases c2 : setB js.length xs
    · rw [c2] at r2
      simp -implicitDefEqProofs [CL_ret r1, CL_ret r2, w, tmlOk, c1, c2]
    · rw [c2] at r2
      obtain ⟨hin, hs⟩ := setB_iff.1 c2
      have r3 := l3OnTime_run Js Xs c1 hx
      rw [inD_tim c1 hin (hs.imp fun h => by omega)] at r3
      simp -implicitDefEqProofs [CL_ret r1, CL_ret r2, CL_ret r3, w, tmlOk, c1, c2]
theorem vTimes_run (J : Jobs h vj js) (X : Ints h v xs) (hin : inN js.length xs) (hg : goodL js = true) (hx : xs.length ≤ 2 ^ 10) : Ret P G n_laws_vTimes [vj, v] h (.int .i64 (tsm (tJ js) xs)) h := by
  refine enter_run e_laws_vTimes (by simp) ?_
  have Js := J
  have Xs := X
  obtain ⟨oj, cj, rfl⟩ := J.shapeT
  obtain ⟨oa, ca, rfl⟩ := X.shapeT
  simp -implicitDefEqProofs
  refine R_loopO (fun m s h' => ∃ (i : Nat), i + m = xs.length ∧ s = [(0, .slice oj js.length cj), (1, .slice oa xs.length ca), (5, .int .i64 (tsm (tJ js) (xs.take i))), (6, .int .i64 i)] ∧ h' = h) (fun I hI m s h' => ?_) (n := xs.length) ⟨0, Nat.zero_add _, by simp [tsm], rfl⟩
  rintro ⟨i, hi, rfl, rfl⟩
  by_cases hlt : i < xs.length
  · have hlt' : (i : Int) < xs.length := by omega
    obtain ⟨y, hy, _⟩ := drop_at hlt
    have ly := load_I Xs hy
    have lj := load_JX Js (hin y (List.mem_of_getElem? hy))
    have e := sum_take (t := tJ js) hy
    have tb := tj_bd hg (xs := xs.take (i + 1))
    have tl : (xs.take (i + 1)).length ≤ 2 ^ 10 := by rw [List.length_take]; omega
    have et : tJ js y = (jA js y).t := rfl
    have w1 : IntKind.i64.wrap (tsm (tJ js) (xs.take i) + (jA js y).t) = tsm (tJ js) (xs.take (i + 1)) := by rw [← et, ← e, wrap_ok] <;> omega
    simp -implicitDefEqProofs [-indexAddrP_some, hlt, hlt', ly, lj, w1, winc hlt (by omega)]
    exact ⟨m - 1, by omega, on hI ⟨i + 1, by omega, by simp, rfl⟩⟩
  · have hlt' : ¬ (i : Int) < xs.length := by omega
    rw [List.take_of_length_le (by omega)]
    simp -implicitDefEqProofs [hlt, hlt']
theorem vHas_run {x : Int} (X : Ints h v xs) (hx : xs.length ≤ 2 ^ 40) : Ret P G n_laws_vHas [v, .int .i64 x] h (.bool (hasL x xs)) h := by
  refine enter_run e_laws_vHas (by simp) ?_
  have Xs := X
  obtain ⟨oa, c, rfl⟩ := X.shapeT
  simp -implicitDefEqProofs
  refine R_loop (fun n s h' => ∃ i : Nat, i + n = xs.length ∧ s = [(0, .slice oa xs.length c), (1, .int .i64 x), (5, .int .i64 i)] ∧ h' = h ∧ hasL x xs = hasL x (xs.drop i)) (fun n s h' => ?_) ⟨0, Nat.zero_add _, by simp⟩
  rintro ⟨i, hi, rfl, rfl, hxx⟩
  by_cases hlt : i < xs.length
  · obtain ⟨y, hy, hd⟩ := drop_at hlt
    rw [hd, hasL_cons] at hxx
    simp -implicitDefEqProofs [hlt, load_I Xs hy]
    refine CB_split (fun h => ?_) (fun h => ?_)
    · simp -implicitDefEqProofs [hxx, h]
    · rw [h, Bool.false_or] at hxx
      simp -implicitDefEqProofs [winc hlt hx]
      exact ⟨n - 1, by omega, i + 1, by omega, rfl, hxx⟩
  · rw [List.drop_eq_nil_of_le (by omega), hasL_nil] at hxx
    simp -implicitDefEqProofs [hlt, hxx]
end
/-! ### draws -/
section
variable {h0 h : Hp} {r n : Nat} {vc : Value} {L : List Asn}
theorem Cur.putD {u : Value} {js : List Job} (C : Cur h0 h r vc n (L ++ [.own u 4 (js.map encJ)])) {k : Nat} {y : Job} (hy : js[k]? = some y) (z : Int) : ∃ h', storeP P h t_int (.int .i64 z) (.pointer (some (addP (addP (base u) (k * 4)) 3))) = some h' ∧ Cur h0 h' r vc n (L ++ [.own u 4 ((js.set k { y with d := z }).map encJ)]) := by
  obtain ⟨a, s, h1, h2, H⟩ := C
  obtain ⟨h', g1, g2, _⟩ := fput_J3 H (L.length + 1) (by rw [List.getElem?_cons_succ]; exact snoc_get) hy z
  refine ⟨h', g1, a, s, h1, h2, ?_⟩
  rw [List.set_cons_succ, List.set_append_right (h := Nat.le_refl _), Nat.sub_self] at g2
  exact g2
theorem tight3_run (B : By h0 vc) (C : Cur h0 h r vc n L) (hn : n ≤ 2 ^ 17) : RunsC P G n_spec_l1Cur_tight3 [.pointer (some ⟨r, 0, some 3⟩)] h fun v h' => ∃ js : List Job, js.length ≤ 9 ∧ Cur h0 h' r vc (n + 400) (L ++ [.own v 4 (js.map encJ)]) := by
  refine hideC fun K hK => enter_run e_spec_l1Cur_tight3 (by simp) ?_
  simp -implicitDefEqProofs
  refine CL_post (plain3_run B C (by omega)) fun v h1 ⟨js, hl, C1⟩ => ?_
  obtain ⟨ua, uc, rfl⟩ : ∃ a c, v = .slice a js.length c := C1.seesJ.shapeT
  simp -implicitDefEqProofs
  refine R_loopO (fun m st h' => ∃ (i : Nat) (sum : Int) (ks : List Job), i + m = js.length ∧ st = [(0, .pointer (some ⟨r, 0, some 3⟩)), (3, .slice ua js.length uc), (4, .int .i64 sum), (5, .int .i64 i)] ∧ (0 ≤ sum ∧ sum ≤ 50 * i) ∧ ks.length = js.length ∧ Cur h0 h' r vc (n + 300 + 4 * i) (L ++ [.own (.slice ua js.length uc) 4 (ks.map encJ)])) (fun I hI m st h' => ?_) (n := js.length)
    ⟨0, 0, js, Nat.zero_add _, by simp, by simp, rfl, C1.mono (by omega)⟩
  rintro ⟨i, sum, ks, hi, rfl, hb, hkl, C2⟩
  by_cases hlt : i < js.length
  · have hlt' : (i : Int) < js.length := by omega
    obtain ⟨y, hy, _⟩ := drop_at (show i < ks.length by omega)
    have lj := load_J C2.seesJ hy
    have w1 : IntKind.i64.wrap (sum + max 0 (min y.t 50)) = sum + max 0 (min y.t 50) := by rw [wrap_ok] <;> omega
    have w2 : IntKind.i64.wrap (sum + max 0 (min y.t 50) + 3) = sum + max 0 (min y.t 50) + 3 := by rw [wrap_ok] <;> omega
    simp -implicitDefEqProofs [-indexAddrP_some, hlt, hlt', lj, CL_ret l1Least_run, CL_ret l1Most_run, w1]
    refine CL_post (one_run B C2 (by omega) (k := 6) (by omega)) fun v h2 ⟨b, ev, C3⟩ => ?_
    subst ev
    cases b
    · simp -implicitDefEqProofs [w2]
      refine CL_post (pick_run B C3 (by omega) (k := sum + max 0 (min y.t 50) + 3) (by omega)) fun v h3 ⟨q, ev, _, _, _, C4⟩ => ?_
      subst ev
      have lj4 := load_J C4.seesJ hy
      obtain ⟨h5, s5, C5⟩ := C4.putD hy (min 500 q)
      simp -implicitDefEqProofs [-indexAddrP_some, CL_ret l1Least_run, lj4, s5, winc hlt (by omega)]
      exact ⟨m - 1, by omega, on hI ⟨i + 1, sum + max 0 (min y.t 50), _, by omega, by simp, by omega, by rw [List.length_set]; exact hkl, C5.mono (by omega)⟩⟩
    · simp -implicitDefEqProofs [winc hlt (by omega)]
      exact ⟨m - 1, by omega, on hI ⟨i + 1, sum + max 0 (min y.t 50), ks, by omega, by simp, by omega, hkl, C3.mono (by omega)⟩⟩
  · have hlt' : ¬ (i : Int) < js.length := by omega
    simp -implicitDefEqProofs [hlt, hlt']
    exact onK hK ⟨ks, by omega, C.gcO (C2.mono (by omega)) (fun h => h)⟩
end
theorem DrawLateRule_run {h : Hp} {vc : Value} (B : By h vc) : RunsC P G n_spec_DrawLateRule [vc] h fun v h' => h <+: h' ∧ ∃ js : List Job, js.length ≤ 9 ∧ Jobs h' v js := by
  refine hideC fun K hK => enter_run e_spec_DrawLateRule (by simp) ?_
  have C0 : Cur h (h ++ [some ⟨[vc, .int .i64 0, .int .u64 0], 0, false⟩]) h.length vc 0 [] := ⟨0, 0, by omega, by omega, (Holds.start (h := h)).alloc _⟩
  obtain ⟨bs, Sb, hb, hbl⟩ := B
  have Bs : By h vc := ⟨bs, Sb, hb, hbl⟩
  obtain ⟨ob, cb, rfl⟩ := Sb.shapeT
  simp -implicitDefEqProofs
  refine CL_post (tight3_run Bs C0 (by omega)) fun u h2 ⟨js, hl, C2⟩ => ?_
  obtain ⟨ua, uc, rfl⟩ : ∃ a c, u = .slice a js.length c := C2.seesJ.shapeT
  simp -implicitDefEqProofs
  exact onK hK ⟨pre_gcU C2.pre, js, hl, Sees.gcU C2.seesJ fun g => g⟩
theorem DrawLeftAfter_run {h : Hp} {vc : Value} (B : By h vc) : RunsC P G n_spec_DrawLeftAfter [vc] h fun v h' => h <+: h' ∧ ∃ (js : List Job) (k : Int) (u : Value), v = .tuple #[u, .int .i64 k] ∧ js.length ≤ 9 ∧ Jobs h' u js := by
  refine hideC fun K hK => enter_run e_spec_DrawLeftAfter (by simp) ?_
  have C0 : Cur h (h ++ [some ⟨[vc, .int .i64 0, .int .u64 0], 0, false⟩]) h.length vc 0 [] := ⟨0, 0, by omega, by omega, (Holds.start (h := h)).alloc _⟩
  obtain ⟨bs, Sb, hb, hbl⟩ := B
  have Bs : By h vc := ⟨bs, Sb, hb, hbl⟩
  obtain ⟨ob, cb, rfl⟩ := Sb.shapeT
  simp -implicitDefEqProofs
  refine CL_post (tight3_run Bs C0 (by omega)) fun u h2 ⟨js, hl, C2⟩ => ?_
  obtain ⟨ua, uc, rfl⟩ : ∃ a c, u = .slice a js.length c := C2.seesJ.shapeT
  have w1 : IntKind.i64.wrap ((js.length : Int) + 3) = (js.length : Int) + 3 := by rw [wrap_ok] <;> omega
  simp -implicitDefEqProofs [w1]
  refine CL_post (pick_run Bs C2 (by omega) (k := (js.length : Int) + 3) (by omega)) fun v h3 ⟨q, ev, _, _, _, C3⟩ => ?_
  subst ev
  simp -implicitDefEqProofs
  exact onK hK ⟨pre_gcU C3.pre, js, _, _, rfl, hl, Sees.gcU C3.seesJ fun g => plainT (r := [_]) g⟩
theorem DrawOnTime_run {h : Hp} {vc : Value} (B : By h vc) : RunsC P G n_spec_DrawOnTime [vc] h fun v h' => h <+: h' ∧ ∃ (js : List Job) (xs : List Int) (u w : Value), v = .tuple #[u, w] ∧ js.length ≤ 9 ∧ xs.length ≤ 10 ∧ Jobs h' u js ∧ Ints h' w xs := by
  refine hideC fun K hK => enter_run e_spec_DrawOnTime (by simp) ?_
  have C0 : Cur h (h ++ [some ⟨[vc, .int .i64 0, .int .u64 0], 0, false⟩]) h.length vc 0 [] := ⟨0, 0, by omega, by omega, (Holds.start (h := h)).alloc _⟩
  obtain ⟨bs, Sb, hb, hbl⟩ := B
  have Bs : By h vc := ⟨bs, Sb, hb, hbl⟩
  obtain ⟨ob, cb, rfl⟩ := Sb.shapeT
  simp -implicitDefEqProofs
  refine CL_post (tight3_run Bs C0 (by omega)) fun u h2 ⟨js, hl, C2⟩ => ?_
  obtain ⟨ua, uc, rfl⟩ : ∃ a c, u = .slice a js.length c := C2.seesJ.shapeT
  simp -implicitDefEqProofs
  refine R_loopO (fun m st h' => ∃ (i : Nat) (xs : List Int) (w : Value), i + m = js.length ∧ st = [(4, .pointer (some ⟨h.length, 0, some 3⟩)), (5, .slice ua js.length uc), (6, w), (7, .int .i64 i)] ∧ xs.length ≤ i ∧ Cur h h' h.length (.slice ob bs.length cb) (0 + 400 + 2 * i) ([.own (.slice ua js.length uc) 4 (js.map encJ)] ++ [.own w 1 (xs.map encI)])) (fun I hI m st h' => ?_) (n := js.length)
    ⟨0, [], .slice none 0 0, Nat.zero_add _, by simp, Nat.le_refl _, (C2.nil Int encI 1).mono (by omega)⟩
  rintro ⟨i, xs, w, hi, rfl, hxl, C3⟩
  obtain ⟨wa, wc, rfl⟩ : ∃ a c, w = .slice a xs.length c := C3.seesI.shapeT
  by_cases hlt : i < js.length
  · have hlt' : (i : Int) < js.length := by omega
    simp -implicitDefEqProofs [hlt, hlt']
    refine CL_post (one_run Bs C3 (by omega) (k := 2) (by omega)) fun v h4 ⟨b, ev, C4⟩ => ?_
    subst ev
    cases b
    · simp -implicitDefEqProofs [winc hlt (by omega)]
      exact ⟨m - 1, by omega, on hI ⟨i + 1, xs, _, by omega, by simp, by omega, C4.mono (by omega)⟩⟩
    · obtain ⟨u', h5, a5, C5⟩ := C4.pushI (i : Int) (by omega)
      simp -implicitDefEqProofs [a5, winc hlt (by omega)]
      exact ⟨m - 1, by omega, on hI ⟨i + 1, xs ++ [(i : Int)], u', by omega, by simp, by simp; omega, C5.mono (by omega)⟩⟩
  · have hlt' : ¬ (i : Int) < js.length := by omega
    simp -implicitDefEqProofs [hlt, hlt']
    refine CL_post (one_run Bs C3 (by omega) (k := 24) (by omega)) fun v h4 ⟨b, ev, C4⟩ => ?_
    subst ev
    cases b
    · have J6 : Jobs h4 (.slice ua js.length uc) js := C4.seesAt (i := 0) rfl
      have fin := gc_JX (r := []) C4.pre J6 C4.seesI
      simp -implicitDefEqProofs
      exact onK hK ⟨fin.1, js, xs, _, _, rfl, hl, by omega, fin.2⟩
    · simp -implicitDefEqProofs
      refine CL_post (among_run Bs (C4.lit [0, -1, (js.length : Int)]) (by omega) snoc_get (by simp) (by simp)) fun v h7 ⟨z, ev, _, C7⟩ => ?_
      subst ev
      obtain ⟨u', h8, a8, C8⟩ := C7.weak.pushI z (by omega)
      obtain ⟨ub, ud, rfl⟩ : ∃ a c, u' = .slice a (xs ++ [z]).length c := C8.seesI.shapeT
      have J8 : Jobs h8 (.slice ua js.length uc) js := C8.seesAt (i := 0) rfl
      have fin := gc_JX (r := []) C8.pre J8 C8.seesI
      simp only [List.length_append, List.length_cons, List.length_nil, Nat.zero_add] at a8 C8 fin
      simp -implicitDefEqProofs [a8]
      exact onK hK ⟨fin.1, js, xs ++ [z], _, _, rfl, hl, by simp; omega, fin.2⟩
/-! ### in plain terms -/
theorem fit_most {js : List Job} (hok : plOk js = true) {k : Nat} (hk : k ≤ js.length) {s : List Int} (hn : s.Nodup) (hs : ∀ x, x ∈ s → x ∈ (rulL 4 js).take k) (ht : timB js s = true) : s.length ≤ (lrX js k).1.length ∧ (s.length = (lrX js k).1.length → tsm (tJ js) (lrX js k).1 ≤ tsm (tJ js) s) := by
  have hin : inN js.length s := fun x hx => rul_mem.1 (List.mem_of_mem_take (hs x hx))
  have hnD : ((rulL 4 js).take k).Nodup := rulL_ord.nd.sublist (List.take_sublist ..)
  have hp : (((rulL 4 js).take k).filter fun x => hasL x s).Perm s := by
    refine (List.perm_ext_iff_of_nodup (hnD.sublist List.filter_sublist) hn).2 fun x => ?_
    rw [List.mem_filter, hasL_iff]
    exact ⟨fun h => h.2, fun h => ⟨hs x h, h⟩⟩
  have hdue : (((rulL 4 js).take k).filter fun x => hasL x s).Pairwise fun a b => (jA js a).d ≤ (jA js b).d := (rul_due (plOk_of hok).2.1).sublist (List.filter_sublist.trans (List.take_sublist ..))
  have hto : timGo js 0 (((rulL 4 js).take k).filter fun x => hasL x s) = timB js s := tim_sorted (plOk_pl hok) hdue dueL_d (hp.trans dueL_perm.symm)
  have hE : (lrX js k).1.Nodup := (List.nodup_append.1 ((@lrX_parts js k).1.nodup_iff.2 hnD)).1
  have := (lrX_inv hok hk).most hE (S := ((rulL 4 js).take k).filter fun x => hasL x s) List.filter_sublist (by rw [okG_timGo, hto]; exact ht)
  rw [hp.length_eq, tsm_perm (t := tJ js) hp] at this
  exact this
theorem lr_tim {js : List Job} (hok : plOk js = true) {k : Nat} (hk : k ≤ js.length) : timGo js 0 (lrX js k).1 = true := by
  rw [← okG_timGo]; exact (lrX_inv hok hk).ok
theorem sum7 {js : List Job} (p : Pl js) : ∀ {xs : List Int} {now : Int}, 0 ≤ now → sumGo 7 js now xs + (onT js now xs).length = xs.length
  | [], _, _ => rfl
  | x :: r, now, h => by
    have := p.t x
    have ih := sum7 p (xs := r) (now := now + (jA js x).t) (by omega)
    rw [sumGo, onT, p.endAt h, List.length_cons]
    have ec : costV 7 (jA js x) (now + (jA js x).t) = if now + (jA js x).t ≤ (jA js x).d then 0 else 1 := by
      unfold costV
      simp only [show ¬ ((7 : Int) = 2) by decide, show ¬ ((7 : Int) = 3) by decide, show ¬ ((7 : Int) = 5) by decide, show ¬ ((7 : Int) = 6) by decide, if_false, if_true]
      by_cases c : now + (jA js x).t ≤ (jA js x).d
      · rw [if_pos c, if_pos (by omega)]
      · rw [if_neg c, if_neg (by omega)]
    rw [ec]
    split
    · rw [List.length_cons]; push_cast; omega
    · push_cast; omega
theorem onT_front {js : List Job} : ∀ {A C : List Int} {now : Int}, timGo js now A = true → A.length ≤ (onT js now (A ++ C)).length
  | [], _, _, _ => Nat.zero_le _
  | x :: A, C, now, h => by
    rw [timGo, Bool.and_eq_true, decide_eq_true_eq] at h
    rw [List.cons_append, onT, if_pos h.1]
    have := onT_front (C := C) h.2
    simp only [List.length_cons]
    omega
theorem val7 {js : List Job} (hok : plOk js = true) {xs : List Int} (o : Ord js.length xs) : (js.length : Int) - (lrX js js.length).1.length ≤ valX 7 js xs ∧ valX 7 js xs = (js.length : Int) - (onT js 0 xs).length := by
  have p := plOk_pl hok
  have e : valX 7 js xs = sumGo 7 js 0 xs := by unfold valX; exact val_sum (by omega) (by omega) (ord_prm o)
  have hs := sum7 p (xs := xs) (now := 0) (Int.le_refl 0)
  rw [o.len] at hs
  have hn : (onT js 0 xs).Nodup := o.nd.sublist onT_sub
  have := (fit_most hok (Nat.le_refl _) hn (fun x hx => by rw [rul_all, rul_mem]; exact o.inn x (onT_sub.subset hx)) (tim_any hok (List.Perm.refl _) (onT_tim p (Int.le_refl 0)))).1
  omega
theorem lrO_ord {js : List Job} : Ord js.length (lrO js) := by
  refine ord_of_perm ?_
  obtain ⟨hp, _⟩ := @lrX_parts js js.length
  have hnD : ((rulL 4 js).take js.length).Nodup := rulL_ord.nd.sublist (List.take_sublist ..)
  have hE : (lrX js js.length).1.Nodup := (List.nodup_append.1 (hp.nodup_iff.2 hnD)).1
  unfold lrO
  refine (List.perm_ext_iff_of_nodup ?_ (upTo_nodup _)).2 fun x => ?_
  · refine List.nodup_append.2 ⟨hE, (upTo_nodup _).sublist List.filter_sublist, fun a ha b hb e => ?_⟩
    subst e
    have := (List.mem_filter.1 hb).2
    rw [hasL_iff.2 ha] at this
    simp at this
  · rw [List.mem_append]
    constructor
    · rintro (h | h)
      · exact mem_upTo.2 (lrX_in x h)
      · exact (List.mem_filter.1 h).1
    · intro h
      by_cases g : hasL x (lrX js js.length).1 = true
      · exact .inl (hasL_iff.1 g)
      · exact .inr (List.mem_filter.2 ⟨h, by simpa using g⟩)
theorem lrO_val {js : List Job} (hok : plOk js = true) : valX 7 js (lrO js) = rlN js ∧ bestV 7 js = rlN js := by
  have e : rlN js = (js.length : Int) - (lrX js js.length).1.length := by rw [rlN, if_pos hok]
  obtain ⟨hn, hg, _⟩ := plOk_of hok
  have h1 := val7 hok lrO_ord
  have h2 := onT_front (C := delF (upTo js.length) (lrX js js.length).1) (lr_tim hok (Nat.le_refl _))
  have h2 : (lrX js js.length).1.length ≤ (onT js 0 (lrO js)).length := h2
  have v : valX 7 js (lrO js) = rlN js := by omega
  refine ⟨v, ?_⟩
  obtain ⟨b1, b2, b3, b4⟩ := best_facts (f := valX 7 js) (n := js.length) hn
  have g1 := b4 _ lrO_ord
  have g2 := (val7 hok b3).1
  have e2 : bestV 7 js = (bestR (valX 7 js) js.length).v := rfl
  rw [e2]
  omega
/-- The number of late jobs. -/
theorem late_len {js : List Job} {es : List Int} (hl : es.length = js.length) : ((lateF js es js.length).length : Int) = valE 7 js es := by
  unfold valE
  rw [valGo_sum (by omega) (by omega) hl.symm, Int.zero_add]
  have key : ∀ n, n ≤ js.length → ((lateF js es n).length : Int) = ((List.range' 0 n).map fun i => costV 7 ((js[i]?).getD ⟨0, 0, 0, 0⟩) (gE es i)).sum := by
    intro n
    induction n with
    | zero => intro _; rfl
    | succ n ih =>
      intro hn
      rw [late_snoc, List.length_append, List.range'_concat, List.map_append, List.sum_append, Int.natCast_add, ih (by omega)]
      have ec : costV 7 ((js[n]?).getD ⟨0, 0, 0, 0⟩) (gE es n) = if (jA js n).d < gE es n then 1 else 0 := by
        have ej : jA js (n : Int) = (js[n]?).getD ⟨0, 0, 0, 0⟩ := by unfold jA; rw [Int.toNat_natCast]
        rw [← ej]
        unfold costV
        simp only [show ¬ ((7 : Int) = 2) by decide, show ¬ ((7 : Int) = 3) by decide, show ¬ ((7 : Int) = 5) by decide, show ¬ ((7 : Int) = 6) by decide, if_false, if_true]
        by_cases c : (jA js n).d < gE es n
        · rw [if_pos c, if_neg (by omega)]
        · rw [if_neg c, if_pos (by omega)]
      have en : 0 + 1 * n = n := by omega
      simp only [en, List.map_cons, List.map_nil, List.sum_cons, List.sum_nil, ec]
      split <;> simp
  exact key js.length (Nat.le_refl _)
end Go.Pm.PP

/- FnLateRule in the small machine. -/
set_option linter.unusedVariables false
set_option linter.unusedSimpArgs false
set_option maxRecDepth 4000
set_option maxHeartbeats 16000000
namespace Go.Pm.PP
open Go.Pm Go.Proofs Go.Pm.PE
theorem rlO_len {js : List Job} (hl : js.length ≤ 9) : (rlO js).length ≤ 2 ^ 10 := by
  unfold rlO
  split
  · have := (@lrO_ord js).len; omega
  · simp
theorem rlS_len {js : List Job} (hok : plOk js = true) : (rlS js).length = js.length := by
  rw [rlS, if_pos hok]; exact (steps_take (js := js) (k := 0) (m := js.length) (by omega) (Nat.le_refl _)).2
theorem rlS_le {js : List Job} : (rlS js).length ≤ js.length := by
  unfold rlS
  split
  · exact (@lrX_len js js.length).2
  · simp
theorem rlA_le {js : List Job} {k : Int} : (rlA js k).length ≤ js.length := by
  unfold rlA
  split
  · have hp : (ascL (lrX js k.toNat).1).Perm (lrX js k.toNat).1 := sortB_perm
    rw [hp.length_eq]
    exact (@lrX_len js k.toNat).1
  · simp
theorem law_LateRule {h : Hp} {vc : Value} {bs : List Int} (Sb : Sees h vc 1 (bs.map encU)) (hb : ∀ b, b ∈ bs → 0 ≤ b ∧ b ≤ 255) : Ret P G n_laws_FnLateRule [vc] h (.bool true) h := by
  refine enter_run e_laws_FnLateRule (by simp) ?_
  have r0 := vBig_run Sb
  by_cases c0 : (65536 : Int) < bs.length
  · simp -implicitDefEqProofs [CL_ret r0, c0]
  have B : By h vc := ⟨bs, Sb, hb, by omega⟩
  have Sbs := Sb
  obtain ⟨ob, cb, rfl⟩ := Sb.shapeT
  simp -implicitDefEqProofs [CL_ret r0, c0]
  refine CL_post (DrawLateRule_run B) fun u h1 ⟨hp1, js, hjl, J⟩ => ?_
  have l1 : js.length ≤ 2 ^ 40 := by omega
  have Js := J
  obtain ⟨ja, jc, rfl⟩ := J.shapeT
  simp -implicitDefEqProofs
  refine CL_post (implLateRule_run Js l1) fun v h2 ⟨hp2, d2, ev, D2⟩ => ?_
  subst ev
  obtain ⟨da, dc, e2⟩ : ∃ a c, d2 = .slice a (rlO js).length c := D2.shapeT
  subst e2
  simp -implicitDefEqProofs
  refine CL_post (specLateRule_run (Js.pre hp2) l1) fun v h3 ⟨hp3, d3, ev, D3⟩ => ?_
  subst ev
  obtain ⟨ea, en, ec, rfl⟩ : ∃ a n c, d3 = .slice a n c := by obtain ⟨a, c, e⟩ := D3.shape; exact ⟨_, _, _, e⟩
  have p13 := hp2.trans hp3
  simp -implicitDefEqProofs
  refine CL_post (implLateSteps_run (Js.pre p13) l1) fun v h4 ⟨hp4, d4, ev, D4⟩ => ?_
  subst ev
  obtain ⟨fa, fc, e4⟩ : ∃ a c, d4 = .slice a (rlS js).length c := D4.shapeT
  subst e4
  simp -implicitDefEqProofs
  refine CL_post (specLateSteps_run (Js.pre (p13.trans hp4)) l1) fun v h5 ⟨hp5, d5, ev, D5⟩ => ?_
  subst ev
  obtain ⟨ga, gn, gc', rfl⟩ : ∃ a n c, d5 = .slice a n c := by obtain ⟨a, c, e⟩ := D5.shape; exact ⟨_, _, _, e⟩
  have p15 := p13.trans (hp4.trans hp5)
  have ra := implFewestLate_run (Js.pre p15) l1
  have rb := specFewestLate_run (Js.pre p15) l1
  simp -implicitDefEqProofs [CL_ret ra, CL_ret rb]
  have p05 := hp1.trans p15
  refine CL_post (vCut_run (n := 1) (Sbs.pre p05) hb (by omega) (by omega)) fun w6 h6 ⟨hp6, B6⟩ => ?_
  have B6s := B6
  obtain ⟨bs6, Sb6, _, _⟩ := B6
  obtain ⟨o6, c6, rfl⟩ := Sb6.shapeT
  simp -implicitDefEqProofs
  refine CL_post (DrawLeftAfter_run B6s) fun v h7 ⟨hp7, ks, k, u7, ev, hkl, K7⟩ => ?_
  subst ev
  have l7 : ks.length ≤ 2 ^ 40 := by omega
  have K7s := K7
  obtain ⟨ka, kc, rfl⟩ := K7.shapeT
  simp -implicitDefEqProofs
  refine CL_post (implLeftAfter_run (k := k) K7s l7) fun v h8 ⟨hp8, d8, ev, D8⟩ => ?_
  subst ev
  obtain ⟨ia, ic, e8⟩ : ∃ a c, d8 = .slice a (rlA ks k).length c := D8.shapeT
  subst e8
  simp -implicitDefEqProofs
  refine CL_post (specLeftAfter_run (k := k) (K7s.pre hp8) l7) fun v h9 ⟨hp9, d9, ev, D9⟩ => ?_
  subst ev
  obtain ⟨ma, mn, mc, rfl⟩ : ∃ a n c, d9 = .slice a n c := by obtain ⟨a, c, e⟩ := D9.shape; exact ⟨_, _, _, e⟩
  have p79 := hp8.trans hp9
  have p59 := hp6.trans (hp7.trans p79)
  simp -implicitDefEqProofs
  refine CL_post (vCut_run (n := 2) (Sbs.pre (p05.trans p59)) hb (by omega) (by omega)) fun w10 h10 ⟨hp10, B10⟩ => ?_
  have B10s := B10
  obtain ⟨bs10, Sb10, _, _⟩ := B10
  obtain ⟨o10, c10, rfl⟩ := Sb10.shapeT
  simp -implicitDefEqProofs
  refine CL_post (DrawOnTime_run B10s) fun v h11 ⟨hp11, ys, xs, u11, w11, ev, hyl, hxl, Y11, X11⟩ => ?_
  subst ev
  have rc := implOnTime_run Y11 X11 (by omega) (by omega)
  have rd := specOnTime_run Y11 X11 (by omega) (by omega)
  obtain ⟨ya, yc, rfl⟩ := Y11.shapeT
  obtain ⟨xa, xc, rfl⟩ := X11.shapeT
  have p911 := hp10.trans hp11
  have p511 := p59.trans p911
  have D2' := D2.pre (hp3.trans (hp4.trans (hp5.trans p511)))
  have D3' := D3.pre (hp4.trans (hp5.trans p511))
  have D4' := D4.pre (hp5.trans p511)
  have D5' := D5.pre p511
  have D8' := D8.pre (hp9.trans p911)
  have D9' := D9.pre p911
  have q1 := vInts_run D2' D3' (by have := @rlO_len js hjl; omega)
  have q2 := vPairs_run D4' D5' (by have := @rlS_le js; omega)
  have q3 := vInts_run D8' D9' (by have := @rlA_le ks k; omega)
  have J11 := Js.pre (p15.trans p511)
  have K11 := K7s.pre (p79.trans p911)
  have hp011 := p05.trans p511
  cases hok : plOk js
  case' false =>
    obtain ⟨g, e', hp'⟩ : ∃ g, h11 = g ∧ h11 <+: g := ⟨h11, rfl, List.prefix_rfl⟩
    simp -implicitDefEqProofs [CL_ret rc, CL_ret rd, CL_ret q1, CL_ret q2, CL_ret q3, hok]
    rw [e']
  case' true =>
    have hjo : jOk js = true := by rw [plOk, Bool.and_eq_true] at hok; exact hok.1
    have er : rlO js = lrO js := by rw [rlO, if_pos hok]
    rw [er] at D2' q1
    simp -implicitDefEqProofs [CL_ret rc, CL_ret rd, CL_ret q1, CL_ret q2, CL_ret q3, hok, er]
    refine CL_post (implLateJobs_run J11 D2' hjo lrO_ord) fun v h12 ⟨hp12, d12, ev, D12⟩ => ?_
    subst ev
    have e1 : ((lateF js (endsL js (lrO js)) js.length).length : Int) = rlN js := by rw [late_len endsL_len]; exact (lrO_val hok).1
    obtain ⟨na, nc, e12⟩ : ∃ a c, d12 = .slice a (lateF js (endsL js (lrO js)) js.length).length c := D12.shapeT
    subst e12
    have rv := implBestValue_run (o := 7) (J11.pre hp12) l1
    have kb : okB js 7 = true := by rw [okB, hjo]; rfl
    have eb : (bR js 7).v = rlN js := by rw [bR_v kb]; exact (lrO_val hok).2
    rw [eb] at rv
    have e3 := rlS_len hok
    obtain ⟨g, e', hp'⟩ : ∃ g, h12 = g ∧ h11 <+: g := ⟨h12, rfl, hp12⟩
    simp -implicitDefEqProofs [CL_ret rv, e1, e3]
    rw [e']
  all_goals
    have pall := hp011.trans hp'
    cases hk : rlK ks k
    · simp -implicitDefEqProofs
      exact gcP pall rfl
    obtain ⟨kok, k0, k1⟩ := rlK_of hk
    obtain ⟨hn, hg, _⟩ := plOk_of kok
    obtain ⟨q, rfl⟩ : ∃ q : Nat, k = q := ⟨k.toNat, by omega⟩
    have hqn : q ≤ ks.length := by omega
    have Kg := K11.pre hp'
    have D8g := D8'.pre hp'
    have eA : rlA ks q = ascL (lrX ks q).1 := by rw [rlA, if_pos hk, Int.toNat_natCast]
    simp -implicitDefEqProofs
    refine CL_post (implLateSteps_run Kg l7) fun v g1 ⟨gp1, d13, ev, D13⟩ => ?_
    subst ev
    have eS := rlS_len kok
    obtain ⟨sa, sc, e13⟩ : ∃ a c, d13 = .slice a (rlS ks).length c := D13.shapeT
    subst e13
    have eS2 : rlS ks = (lrX ks ks.length).2 := by rw [rlS, if_pos kok]
    have hDl := rulL_ord (o := 4) (js := ks) |>.len
    have stepf : ∀ {i : Nat} {p : Int × Int}, (rlS ks)[i]? = some p → (rulL 4 ks)[i]? = some p.1 := fun {i p} hp => by rw [eS2] at hp; exact step_fst hp
    simp -implicitDefEqProofs
    refine R_loopO (fun m s g2 => ∃ (i : Nat) (vt : Value), i + m = q ∧ s = [(16, .slice ka ks.length kc), (17, .int .i64 q), (18, .slice ia (rlA ks q).length ic), (32, .slice sa (rlS ks).length sc), (34, vt), (35, .int .i64 i)] ∧ Holds g1 g2 [.own vt 1 (((rulL 4 ks).take i).map encI)]) (fun I hI m s g2 => ?_) (n := q)
      ⟨0, .slice none 0 0, Nat.zero_add _, by simp, own_nil Holds.start _ _ _⟩
    rintro ⟨i, vt, hi, rfl, H⟩
    have hTl : ((rulL 4 ks).take i).length = i := by rw [List.length_take, hDl]; omega
    obtain ⟨ta, tc, rfl⟩ : ∃ a c, vt = .slice a i c := by obtain ⟨a, c, e⟩ := (H.sees 0 rfl : Ints g2 vt ((rulL 4 ks).take i)).shapeT; exact ⟨a, c, by rw [e, hTl]⟩
    by_cases hlt : i < q
    · have hlt' : (i : Int) < q := by omega
      obtain ⟨p, hpi, _⟩ := drop_at (show i < (rlS ks).length by omega)
      have lp := load_Q (D13.pre H.pre) hpi
      obtain ⟨v', g3, a3, H3, _⟩ := push_I0 H 0 rfl p.1 (by omega)
      rw [← take_succ' (stepf hpi)] at H3
      simp -implicitDefEqProofs [-indexAddrP_some, hlt, hlt', lp, ia20, a3, winc hlt (by omega)]
      exact ⟨m - 1, by omega, on hI ⟨i + 1, v', by omega, by simp, H3⟩⟩
    have hlt' : ¬ (i : Int) < q := by omega
    have : i = q := by omega
    subst this
    have S2 : Ints g2 (.slice ta i tc) ((rulL 4 ks).take i) := H.sees 0 rfl
    have hA1 : (ascL (lrX ks i).1).Perm (lrX ks i).1 := sortB_perm
    have hLn : (lrX ks i).1.Nodup := (List.nodup_append.1 ((@lrX_parts ks i).1.nodup_iff.2 (rulL_ord.nd.sublist (List.take_sublist ..)))).1
    obtain ⟨cc, hcc, ecc⟩ := code_of (js := ks) hLn lrX_in
    have eas : ascL (lrX ks i).1 = bitsL ks.length cc := (asc_uniq bits_asc hLn fun y => ecc.mem_iff).symm
    have hset : ∀ c, tmlOk ks (bitsL ks.length c) = true := fun c => by
      rw [tmlOk, kok, Bool.true_and, setB_iff]
      exact ⟨fun x hx => (by have := mem_bits.1 hx; omega), bits_asc⟩
    have htim : timB ks (ascL (lrX ks i).1) = true := tim_any kok hA1.symm (lr_tim kok hqn)
    have gp12 := gp1.trans H.pre
    have K2 := Kg.pre gp12
    have A2 : Ints g2 (.slice ia (rlA ks (i : Int)).length ic) (ascL (lrX ks i).1) := by rw [← eA]; exact D8g.pre gp12
    have hAl : (rlA ks (i : Int)).length = (lrX ks i).1.length := by rw [eA, hA1.length_eq]
    have lm := (@lrX_len ks i).1
    have hAin : inN ks.length (ascL (lrX ks i).1) := fun x hx => lrX_in x (hA1.mem_iff.1 hx)
    have rl := implOnTime_run K2 A2 l7 (by rw [hA1.length_eq]; omega)
    rw [eas, hset, Bool.true_and, ← eas, htim] at rl
    have p2 := Nat.two_pow_pos ks.length
    have p8 : 2 ^ ks.length ≤ 2 ^ 8 := Nat.pow_le_pow_right (by omega) hn
    have sh := shl_eq (i := ks.length) (by omega)
    obtain ⟨d, hd⟩ : ∃ d, d = 2 ^ ks.length := ⟨_, rfl⟩
    rw [← hd] at sh p2 p8
    have plast := pall.trans gp12
    have rA : Ret P G n_impl_OnTime [.slice ka ks.length kc, .slice ia (rlA ks (i : Int)).length ic] g2 (.tuple #[.bool true, .bool true]) g2 := rl
    simp -implicitDefEqProofs [hlt, hlt', CL_ret rA]
    refine R_loopO (fun m s g3 => ∃ (c : Nat), c + m = d ∧ s = [(16, .slice ka ks.length kc), (18, .slice ia (rlA ks (i : Int)).length ic), (34, .slice ta i tc), (38, .int .i64 c)] ∧ g2 <+: g3) (fun I2 hI2 m2 s2 g3 => ?_) (n := d) ⟨0, Nat.zero_add _, by simp, List.prefix_rfl⟩
    rintro ⟨c, hc, rfl, gp3⟩
    by_cases hlc : c < d
    case neg =>
      have hlc' : ¬ (c : Int) < d := by omega
      simp -implicitDefEqProofs [sh, hlc, hlc']
      exact gcP (plast.trans gp3) rfl
    have hlc' : (c : Int) < d := by omega
    have hc60 : c < 2 ^ 60 := by omega
    simp -implicitDefEqProofs [sh, hlc, hlc']
    refine R_loopO (fun m s g4 => ∃ (z : Nat) (vp : Value), z + m = ks.length ∧ s = [(16, .slice ka ks.length kc), (18, .slice ia (rlA ks (i : Int)).length ic), (34, .slice ta i tc), (38, .int .i64 c), (39, vp), (40, .bool ((bitsL z c).all fun x => hasL x ((rulL 4 ks).take i))), (41, .int .i64 z)] ∧ Holds g3 g4 [.own vp 1 ((bitsL z c).map encI)]) (fun I3 hI3 m3 s3 g4 => ?_) (n := ks.length)
      ⟨0, .slice none 0 0, Nat.zero_add _, by simp [bitsL], by simpa [bitsL] using own_nil (Holds.start (h := g3)) Int encI 1⟩
    rintro ⟨z, vp, hz, rfl, H4⟩
    have bl := @bits_len z c
    obtain ⟨pa, pc, rfl⟩ : ∃ a c', vp = .slice a (bitsL z c).length c' := (H4.sees 0 rfl : Ints g4 vp (bitsL z c)).shapeT
    by_cases hlz : z < ks.length
    · have hlz' : (z : Int) < ks.length := by omega
      have bs := @bits_snoc z c
      have bv := bit_val (i := z) hc60
      cases ct : c.testBit z
      · rw [ct, if_neg (by simp)] at bs bv
        rw [List.append_nil] at bs
        simp -implicitDefEqProofs [hlz, hlz', shr_eq hc60, bv, winc hlz (by omega)]
        exact ⟨m3 - 1, by omega, on hI3 ⟨z + 1, .slice pa (bitsL z c).length pc, by omega, by rw [bs]; simp, by rw [bs]; exact H4⟩⟩
      · rw [ct, if_pos rfl] at bs bv
        obtain ⟨v', g5, a5, H5, _⟩ := push_I0 H4 0 rfl (z : Int) (by omega)
        have rh := vHas_run (x := (z : Int)) (S2.pre (gp3.trans H5.pre)) (by rw [hTl]; omega)
        have eall : (bitsL (z + 1) c).all (fun x => hasL x ((rulL 4 ks).take i)) = ((bitsL z c).all (fun x => hasL x ((rulL 4 ks).take i)) && hasL (z : Int) ((rulL 4 ks).take i)) := by rw [bs, List.all_append]; simp
        obtain ⟨va, vn, vcc, rfl⟩ : ∃ a n c, v' = .slice a n c := by obtain ⟨a, c, e⟩ := (H5.sees 0 rfl).shape; exact ⟨_, _, _, e⟩
        generalize (bitsL z c).all (fun x => hasL x ((rulL 4 ks).take i)) = ins at *
        cases ins
        · simp -implicitDefEqProofs [hlz, hlz', shr_eq hc60, bv, a5, winc hlz (by omega)]
          exact ⟨m3 - 1, by omega, on hI3 ⟨z + 1, .slice va vn vcc, by omega, by rw [eall]; simp, by rw [bs]; exact H5⟩⟩
        · simp -implicitDefEqProofs [hlz, hlz', shr_eq hc60, bv, a5, CL_ret rh, winc hlz (by omega)]
          exact ⟨m3 - 1, by omega, on hI3 ⟨z + 1, .slice va vn vcc, by omega, by rw [eall]; simp, by rw [bs]; exact H5⟩⟩
    have hlz' : ¬ (z : Int) < ks.length := by omega
    have : z = ks.length := by omega
    subst this
    have Sp : Ints g4 (.slice pa (bitsL ks.length c).length pc) (bitsL ks.length c) := H4.sees 0 rfl
    have gp4 := gp3.trans H4.pre
    have K4 := K2.pre gp4
    have rp := implOnTime_run K4 Sp l7 (by omega)
    rw [hset, Bool.true_and] at rp
    have hpin : inN ks.length (bitsL ks.length c) := fun x hx => by have := mem_bits.1 hx; omega
    have t1 := vTimes_run K4 Sp hpin hg (by omega)
    have t2 := vTimes_run K4 (A2.pre gp4) hAin hg (by rw [hA1.length_eq]; omega)
    have t2' : Ret P G n_laws_vTimes [.slice ka ks.length kc, .slice ia (rlA ks (i : Int)).length ic] g4 (.int .i64 (tsm (tJ ks) (lrX ks i).1)) g4 := by
      rw [tsm_perm hA1] at t2; exact t2
    have next : I2 (m2 - 1) [(16, .slice ka ks.length kc), (18, .slice ia (rlA ks (i : Int)).length ic), (34, .slice ta i tc), (38, .int .i64 ((c : Int) + 1))] g4 := on hI2 ⟨c + 1, by omega, by simp, gp4⟩
    cases hins : (bitsL ks.length c).all (fun x => hasL x ((rulL 4 ks).take i))
    · simp -implicitDefEqProofs [hlz', CL_ret rp, hins, winc hlc (by omega)]
      exact ⟨m2 - 1, by omega, by simpa using next⟩
    cases hcan : timB ks (bitsL ks.length c)
    · rw [hcan] at rp
      simp -implicitDefEqProofs [hlz', CL_ret rp, hins, winc hlc (by omega)]
      exact ⟨m2 - 1, by omega, by simpa using next⟩
    rw [hcan] at rp
    obtain ⟨f1, f2⟩ := fit_most kok hqn (s := bitsL ks.length c) bits_nodup (fun x hx => hasL_iff.1 (List.all_eq_true.1 hins x hx)) hcan
    have f1' : ¬ ((rlA ks (i : Int)).length : Int) < (bitsL ks.length c).length := by omega
    by_cases hel : (bitsL ks.length c).length = (lrX ks i).1.length
    · have f3 := f2 hel
      have f3' : ¬ tsm (tJ ks) (bitsL ks.length c) < tsm (tJ ks) (lrX ks i).1 := by omega
      have hel' : (((bitsL ks.length c).length : Int) == ((rlA ks (i : Int)).length : Int)) = true := by rw [hAl, hel]; simp
      simp -implicitDefEqProofs [hlz', CL_ret rp, hins, f1', hel', CL_ret t1, CL_ret t2', f3', winc hlc (by omega)]
      exact ⟨m2 - 1, by omega, by simpa using next⟩
    · have hel' : (((bitsL ks.length c).length : Int) == ((rlA ks (i : Int)).length : Int)) = false := by rw [hAl, beq_eq_false_iff_ne]; omega
      simp -implicitDefEqProofs [hlz', CL_ret rp, hins, f1', hel', winc hlc (by omega)]
      exact ⟨m2 - 1, by omega, by simpa using next⟩
end Go.Pm.PP

/- Best orders: exchanging downwards. -/
set_option linter.unusedVariables false
set_option linter.unusedSimpArgs false
set_option maxRecDepth 4000
set_option maxHeartbeats 8000000
namespace Go.Pm.PP
open Go.Pm Go.Proofs Go.Pm.PE
section
variable {h : Hp} {v u : Value} {js : List Job} {xs : List Int} {o : Int}
end
end Go.Pm.PP

/- FnBestOrders in the small machine. -/
set_option linter.unusedVariables false
set_option linter.unusedSimpArgs false
set_option maxRecDepth 4000
set_option maxHeartbeats 8000000
namespace Go.Pm.PP
open Go.Pm Go.Proofs Go.Pm.PE
end Go.Pm.PP

/- A code of bytes as an argument, opened as a row. -/
set_option linter.unusedVariables false
set_option linter.unusedSimpArgs false
set_option maxRecDepth 4000
namespace Go.Pm
open Go.ChangeShapes Go.WideShapes
section
variable {P : Program} {H : Type} {enc : TypeId × Value → H} {w : World} {base : Nat} {held : Bool}
theorem flat_encU (xs : List Int) : (xs.map PP.encU).flatten = xs.map fun x => .int .u8 x := by
  induction xs with
  | nil => rfl
  | cons x xs ih => rw [List.map_cons, List.flatten_cons, ih]; rfl
/-- A slice of bytes. -/
theorem shows_bytes {t e : TypeId} {fuel : Nat} {v : Value} {x : DataW H × List MemPlace} (ht : P.underlying t = some (.slice e)) (he : P.underlying e = some (.int .u8)) (hc : P.cellsOf e = 1)
    (hd : DataW.trod enc P w base (fun _ => true) held fuel t [v] = some x) : ∃ xs : List Int, xs.length ≤ maxLen ∧ (∀ b, b ∈ xs → (Lit.int .u8 b).wf = true) ∧ ∀ (ρ : Mp) (h : Hp), Shows ρ h w 1 (xs.map PP.encU) v := by
  rcases open_ints ht he hc hd with ⟨h1, _⟩ | ⟨a, len, cap, zs, h1, _, hl, hm, hz, _, hcell, hwf⟩
  · cases h1
    exact ⟨[], by simp, by simp, fun ρ h => .inl ⟨rfl, rfl⟩⟩
  · cases h1
    simp only [if_true] at hz
    have hlen : (zs.take len).length = len := by rw [List.length_take]; omega
    refine ⟨zs.take len, by omega, fun b hb => hwf b (List.mem_of_mem_take hb), fun ρ h => .inr ⟨a, cap, by rw [List.length_map, hlen], by rw [List.length_map, hlen]; exact hl, ?_, fun k c hk => ?_⟩⟩
    · rcases Nat.eq_zero_or_pos cap with h0 | h0
      · exact .inl h0
      · right
        have := hcell 0 (by omega)
        unfold World.cell? at this
        simp only [Addr.add, if_true] at this
        cases hs : a.spot with
        | none => rfl
        | some s =>
          rw [hs] at this
          split at this <;> simp at this
    · rw [flat_encU, List.getElem?_map] at hk
      obtain ⟨z, hz2, rfl⟩ := Option.map_eq_some_iff.1 hk
      have hk1 := (List.getElem?_eq_some_iff.1 hz2).1
      rw [List.getElem?_take, if_pos (by omega)] at hz2
      refine ⟨_, hcell k (by omega), ?_⟩
      rw [List.getD_eq_getElem?_getD, hz2]
      exact .int _ _
end
end Go.Pm
namespace Go.Pm.PP
open Go.Pm Go.Proofs
theorem follows : P.follows .mixedOrders = true := by kernel_rfl
theorem cells_u8 : P.cellsOf t_u8 = 1 := by kernel_rfl
theorem byte_of {b : Int} (h : (Lit.int .u8 b).wf = true) : 0 ≤ b ∧ b ≤ 255 := by
  simp [Lit.wf, IntKind.min, IntKind.max, IntKind.signed, IntKind.bits] at h
  omega
section
variable {H : Type} {enc : TypeId × Value → H} {W : World} {ρ : Mp} {h : Hp} {v : Value} {n0 : Nat} {x0 : DataW H × List MemPlace}
theorem open_bytes (R : Rel ρ h W) (ha : AllRo h) (d0 : DataW.trod enc P W 0 (fun _ => true) true n0 t_S_u8 [v] = some x0) :
    ∃ (h2 : Hp) (ρ2 : Mp) (p : Value) (xs : List Int), h <+: h2 ∧ Rel ρ2 h2 W ∧ AllRo h2 ∧ Step ρ h ρ2 h2 ∧ VR ρ2 h2 p v ∧ Sees h2 p 1 (xs.map encU) ∧ ∀ b, b ∈ xs → 0 ≤ b ∧ b ≤ 255 := by
  obtain ⟨xs, l0, hw, s0⟩ := shows_bytes (P := P) (v := v) u_S_u8 u_u8 cells_u8 d0
  obtain ⟨h2, ρ2, p, q, R2, a2, t, r, N⟩ := add_slice (w := W) (len_U xs) R ha (s0 ρ h)
  exact ⟨h2, ρ2, p, xs, q, R2, a2, t, r, N, fun b hb => byte_of (hw b hb)⟩
end
end Go.Pm.PP
