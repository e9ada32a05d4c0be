/- The texts PvLc, PvLd, PvHa, PvHb, PvHc, PvHd, PvHe, PvHf, PvHg of this work: FnLatenessFront: the front of both, and the law. -/
import Derived.Test.YtcmbjbddjlamaaaP9
import Derived.Test.YtcmbjbddjlamaaaP7
/- FnLatenessFront: the front of both, and the law. -/
set_option linter.unusedVariables false
set_option linter.unusedSimpArgs false
set_option maxRecDepth 4000
set_option maxHeartbeats 16000000
namespace Go.Pm.PP
open Go.Pm Go.Proofs Go.Pm.PE
/-- The front. -/
def lfR (js : List Job) : List Pt := if plOk js = true then frontR 2 4 js else []
theorem nil_Q {h : Hp} : Prs h (.slice none 0 0) [] := ⟨by simp, none, 0, rfl, .inl ⟨rfl, rfl, rfl⟩⟩
section
variable {h : Hp} {vj v u : Value} {js : List Job}
theorem implLatenessFront_run (J : Jobs h vj js) (hl : js.length ≤ 2 ^ 40) : RunsC P G n_impl_LatenessFront [vj] h fun w h' => h <+: h' ∧ ∃ d, w = .tuple #[d, .bool (plOk js)] ∧ Prs h' d (lfR js) := by
  refine hideC fun K hK => enter_run e_impl_LatenessFront (by simp) ?_
  have Js := J
  obtain ⟨oj, cj, rfl⟩ := J.shapeT
  have r1 := IsPlain_run Js hl
  cases c1 : plOk js
  · rw [c1] at r1
    rw [lfR, c1] at hK
    simp -implicitDefEqProofs [CL_ret r1]
    exact onK hK ⟨List.prefix_rfl, _, rfl, nil_Q⟩
  · rw [c1] at r1
    rw [lfR, c1, if_pos rfl] at hK
    obtain ⟨hn, hg, _⟩ := plOk_of c1
    simp -implicitDefEqProofs [CL_ret r1]
    refine CL_post (frontOf_run (f := 2) (g := 4) Js hg hn (by omega) (by omega)) fun w h1 ⟨hp1, _, S1⟩ => ?_
    obtain ⟨a, c, rfl⟩ : ∃ a c, w = .slice a (frontR 2 4 js).length c := S1.shapeT
    simp -implicitDefEqProofs
    exact onK hK ⟨pre_gcU hp1, _, rfl, Sees.gcU S1 fun g => plainT (r := [_]) g⟩
theorem specLatenessFront_run (J : Jobs h vj js) (hl : js.length ≤ 2 ^ 40) : RunsC P G n_spec_LatenessFront [vj] h fun w h' => h <+: h' ∧ ∃ d, w = .tuple #[d, .bool (plOk js)] ∧ Prs h' d (lfR js) := by
  refine hideC fun K hK => enter_run e_spec_LatenessFront (by simp) ?_
  have Js := J
  obtain ⟨oj, cj, rfl⟩ := J.shapeT
  have r1 := l6Good_run Js hl
  cases c1 : plOk js
  · rw [c1] at r1
    rw [lfR, c1] at hK
    simp -implicitDefEqProofs [CL_ret r1]
    exact onK hK ⟨List.prefix_rfl, _, rfl, nil_Q⟩
  rw [c1] at r1
  rw [lfR, c1, if_pos rfl] at hK
  obtain ⟨hn, hg, _⟩ := plOk_of c1
  simp -implicitDefEqProofs [CL_ret r1]
  refine CL_post (l11Back_run (lim := 400) Js c1 (by omega)) fun w h1 ⟨hp1, d, ew, S1⟩ => ?_
  subst ew
  obtain ⟨da, dn, dc, rfl⟩ : ∃ a n c, d = .slice a n c := by obtain ⟨a, c, e⟩ := S1.shape; exact ⟨_, _, _, e⟩
  simp -implicitDefEqProofs
  have fin : ∀ {F : List Pt} {vf : Value} {h9 : Hp}, h <+: h9 → Prs h9 vf F → F = frontR 2 4 js → K (.tuple #[vf, .bool true]) (gc h h9 (.tuple #[vf, .bool true])) := fun {F vf h9} hp S e => by
    subst e
    exact onK hK ⟨pre_gcU hp, _, rfl, Sees.gcU S fun g => plainT (r := [_]) g⟩
  refine R_loopO (fun m s h' => ∃ (lim : Int) (F : List Pt) (vf vo : Value), s = [(0, .slice oj js.length cj), (4, vf), (5, vo), (6, .bool (backX js lim).isSome)] ∧ h <+: h' ∧ -501 ≤ lim ∧ lim ≤ 400 ∧ m = (lim + 502).toNat ∧ Prs h' vf F ∧ FOk F ∧ Ints h' vo ((backX js lim).getD []) ∧ (0 < js.length → LInv js lim F) ∧ (js.length = 0 → F = [])) (fun I hI m s h' => ?_) (n := 902)
    ⟨400, [], _, _, by simp, hp1, by omega, by omega, rfl, nil_Q, FOk.nil, S1, fun g => LInv.init c1 g, fun _ => rfl⟩
  rintro ⟨lim, F, vf, vo, rfl, hp, hl1, hl2, hm, SF, hF, SO, hI1, hI2⟩
  have hFl := hF.len
  obtain ⟨fa, fc, rfl⟩ : ∃ a c, vf = .slice a F.length c := SF.shapeT
  cases hb : backX js lim with
  | none =>
    rw [hb] at SO
    have hne : 0 < js.length := by
      rcases Nat.eq_zero_or_pos js.length with g | g
      · rw [backX, g] at hb; simp [bkF] at hb
      · exact g
    obtain ⟨oa, on', oc, rfl⟩ : ∃ a n c, vo = .slice a n c := by obtain ⟨a, c, e⟩ := SO.shape; exact ⟨_, _, _, e⟩
    simp -implicitDefEqProofs
    exact fin hp SF ((hI1 hne).stop c1 hne (by omega) hb)
  | some o =>
    rw [hb] at SO
    have SO : Ints h' vo o := SO
    obtain ⟨oa, oc, rfl⟩ : ∃ a c, vo = .slice a o.length c := SO.shapeT
    have oo : Ord js.length o := by
      rcases Nat.eq_zero_or_pos js.length with g | g
      · rw [backX, g] at hb
        simp only [bkF, Option.some.injEq] at hb
        subst hb
        rw [g]
        exact ⟨rfl, fun x hx => (by cases hx), List.nodup_nil⟩
      · exact ((back_facts c1 g (lim := lim) (by omega)).2 o hb).1
    have rp := l11Point_run (f := 2) (g := 4) (Js.pre hp) SO hg hn (by omega) (by omega) oo
    obtain ⟨p, hpd⟩ : ∃ p, p = ptX 2 4 js o := ⟨_, rfl⟩
    rw [← hpd] at rp
    have H2 := (Holds.start (h := h')).alloc [.int .i64 p.1, .int .i64 p.2]
    have l2 := H2.bl (P := P) 0 2 rfl rfl
    simp -implicitDefEqProofs [CL_ret rp, l2]
    refine CL_post (l11Put_run (p := p) (SF.pre H2.pre) hF) fun w h3 ⟨hp3, S3⟩ => ?_
    have hp' : h <+: h3 := hp.trans (H2.pre.trans hp3)
    have l3 := (H2.ext hp3).bl (P := P) 0 2 rfl rfl
    have pb := valX_bd (o := 2) hg hn oo
    have hF3 : FOk (putF F p) := hF.put (by rw [hpd]; exact pb)
    obtain ⟨wa, wc, rfl⟩ : ∃ a c, w = .slice a (putF F p).length c := S3.shapeT
    rcases Nat.eq_zero_or_pos js.length with g | g
    · have g' : ((js.length : Int) == 0) = true := by rw [g]; rfl
      have ef : putF F p = frontR 2 4 js := by
        have : o = [] := List.eq_nil_of_length_eq_zero (by rw [oo.len, g])
        rw [hI2 g, hpd, this]; exact front_nil g
      simp -implicitDefEqProofs [g, g']
      exact fin hp' S3 ef
    · have g' : ((js.length : Int) == 0) = false := by rw [beq_eq_false_iff_ne]; omega
      obtain ⟨_, q2, _⟩ := (back_facts c1 g (lim := lim) (by omega)).2 o hb
      have lb := lat_bd c1 g oo
      have ep : p.2 = valX 4 js o := by rw [hpd]; rfl
      have w1 : IntKind.i64.wrap (p.2 - 1) = p.2 - 1 := by rw [wrap_ok] <;> omega
      simp -implicitDefEqProofs [g, g', ia21, l3, w1]
      refine CL_post (l11Back_run (lim := p.2 - 1) (Js.pre hp') c1 (by omega)) fun w h4 ⟨hp4, d, ew, S4⟩ => ?_
      subst ew
      obtain ⟨ea, en, ec, rfl⟩ : ∃ a n c, d = .slice a n c := by obtain ⟨a, c, e⟩ := S4.shape; exact ⟨_, _, _, e⟩
      simp -implicitDefEqProofs
      exact ⟨(p.2 - 1 + 502).toNat, by omega, on hI ⟨p.2 - 1, putF F p, _, _, rfl, hp'.trans hp4, by omega, by omega, rfl, S3.pre hp4, hF3, S4, fun _ => by
        have := (hI1 g).step c1 g (by omega) hb
        rw [← hpd, ← ep] at this
        exact this, fun k => by omega⟩⟩
theorem DrawBackwardOrder_run {vc : Value} (B : By h vc) : RunsC P G n_spec_DrawBackwardOrder [vc] h fun v h' => h <+: h' ∧ ∃ (js : List Job) (x : Int) (u : Value), v = .tuple #[u, .int .i64 x] ∧ js.length ≤ 9 ∧ Jobs h' u js := by
  refine hideC fun K hK => enter_run e_spec_DrawBackwardOrder (by simp) ?_
  have C0 : Cur h (h ++ [some ⟨[vc, .int .i64 0, .int .u64 0], 0, false⟩]) h.length vc 0 [] := ⟨0, 0, by omega, by omega, (Holds.start (h := h)).alloc _⟩
  obtain ⟨bs, Sb, hb, hbl⟩ := B
  have Bs : By h vc := ⟨bs, Sb, hb, hbl⟩
  obtain ⟨ob, cb, rfl⟩ := Sb.shapeT
  simp -implicitDefEqProofs
  refine CL_post (plainJobs_run Bs C0 (by omega) (most := 6) (by omega)) fun u h2 ⟨js, hl, C2⟩ => ?_
  obtain ⟨ua, uc, rfl⟩ : ∃ a c, u = .slice a js.length c := C2.seesJ.shapeT
  simp -implicitDefEqProofs
  refine CL_post (among_run Bs (C2.lit [0, 2, 5, 9, 400, 401, -500, -501, 4611686018427387904]) (by omega) snoc_get (by simp) (by simp)) fun v h5 ⟨x, ev, _, C5⟩ => ?_
  subst ev
  have C5 := C5.weak
  have fin : ∀ {m : Nat} {h9 : Hp} {y : Int}, Cur h h9 h.length (.slice ob bs.length cb) m [.own (.slice ua js.length uc) 4 (js.map encJ)] → K (.tuple #[.slice ua js.length uc, .int .i64 y]) (gc h h9 (.tuple #[.slice ua js.length uc, .int .i64 y])) := fun {m h9 y} C9 =>
    onK hK ⟨pre_gcU C9.pre, js, y, _, rfl, hl, Sees.gcU (Cur.seesJ (L := []) C9) fun g => plainT (r := [_]) g⟩
  have J5 : Jobs h5 (.slice ua js.length uc) js := Cur.seesJ (L := []) C5
  have r5 := l6Good_run J5 (by omega)
  cases c1 : plOk js
  · rw [c1] at r5
    simp -implicitDefEqProofs [CL_ret r5]
    exact fin C5
  rw [c1] at r5
  simp -implicitDefEqProofs [CL_ret r5]
  refine CL_post (one_run Bs C5 (by omega) (k := 2) (by omega)) fun v h6 ⟨b, ev, C6⟩ => ?_
  subst ev
  cases b
  · simp -implicitDefEqProofs
    exact fin C6
  · have J6 : Jobs h6 (.slice ua js.length uc) js := Cur.seesJ (L := []) C6
    simp -implicitDefEqProofs [CL_ret (l6Latest_run J6 c1)]
    refine CL_post (pick_run Bs C6 (by omega) (k := 3) (by omega)) fun v h7 ⟨y, ev, _, _, _, C7⟩ => ?_
    subst ev
    simp -implicitDefEqProofs
    refine CL_post (pick_run Bs C7 (by omega) (k := 2) (by omega)) fun v h8 ⟨z, ev, _, _, _, C8⟩ => ?_
    subst ev
    simp -implicitDefEqProofs
    exact fin C8
theorem DrawLatenessFront_run {vc : Value} (B : By h vc) : RunsC P G n_spec_DrawLatenessFront [vc] h fun v h' => h <+: h' ∧ ∃ js : List Job, js.length ≤ 9 ∧ Jobs h' v js := by
  refine hideC fun K hK => enter_run e_spec_DrawLatenessFront (by simp) ?_
  have C0 : Cur h (h ++ [some ⟨[vc, .int .i64 0, .int .u64 0], 0, false⟩]) h.length vc 0 [] := ⟨0, 0, by omega, by omega, (Holds.start (h := h)).alloc _⟩
  obtain ⟨bs, Sb, hb, hbl⟩ := B
  have Bs : By h vc := ⟨bs, Sb, hb, hbl⟩
  obtain ⟨ob, cb, rfl⟩ := Sb.shapeT
  simp -implicitDefEqProofs
  refine CL_post (plainJobs_run Bs C0 (by omega) (most := 6) (by omega)) fun u h2 ⟨js, hl, C2⟩ => ?_
  obtain ⟨ua, uc, rfl⟩ : ∃ a c, u = .slice a js.length c := C2.seesJ.shapeT
  simp -implicitDefEqProofs
  exact onK hK ⟨pre_gcU C2.pre, js, hl, Sees.gcU C2.seesJ fun g => g⟩
end
theorem boR_len {js : List Job} {lim : Int} : ((boR js lim).getD []).length ≤ 2 ^ 10 := by
  unfold boR
  split
  · rename_i c
    obtain ⟨hok, _, _⟩ := boR_of c
    obtain ⟨hn, _, _⟩ := plOk_of hok
    cases hb : backX js lim with
    | none => simp
    | some o =>
      have := ((bkF_spec (t := tJ js) (d := dJ js) (lim := lim) (plOk_pl hok).t (n := js.length) (left := upTo js.length) (upTo_len _) (upTo_nodup _) fun x hx => (mem_upTo.1 hx).1).2 o hb).1.length_eq
      rw [upTo_len] at this
      simp only [Option.getD_some]
      omega
  · simp
end Go.Pm.PP

/- FnLatenessFront in the small machine. -/
set_option linter.unusedVariables false
set_option linter.unusedSimpArgs false
set_option maxRecDepth 4000
set_option maxHeartbeats 16000000
namespace Go.Pm.PP
open Go.Pm Go.Proofs Go.Pm.PE
theorem aTwo24 {js : List Job} (hok : plOk js = true) : aTwo js 2 4 = true := by
  have h1 : jOk js = true := by rw [plOk, Bool.and_eq_true] at hok; exact hok.1
  simp [aTwo, h1, inB]
theorem okV_pl {js : List Job} {xs : List Int} {o : Int} (hok : plOk js = true) (ox : Ord js.length xs) (ho : 1 ≤ o ∧ o ≤ 8) : okV js xs o = true := by
  have h1 : jOk js = true := by rw [plOk, Bool.and_eq_true] at hok; exact hok.1
  rw [okV, h1, ord_ok (jOk_of h1).1 ox]
  simp [inB, ho.1, ho.2]
theorem law_LatenessFront {h : Hp} {vc : Value} {bs : List Int} (Sb : Sees h vc 1 (bs.map encU)) (hb : ∀ b, b ∈ bs → 0 ≤ b ∧ b ≤ 255) : Ret P G n_laws_FnLatenessFront [vc] h (.bool true) h := by
  refine enter_run e_laws_FnLatenessFront (by simp) ?_
  have r0 := rBig_run Sb
  by_cases c0 : (65536 : Int) < bs.length
  · simp -implicitDefEqProofs [CL_ret r0, c0]
  have B : By h vc := ⟨bs, Sb, hb, by omega⟩
  have Sbs := Sb
  obtain ⟨ob, cb, rfl⟩ := Sb.shapeT
  simp -implicitDefEqProofs [CL_ret r0, c0]
  refine CL_post (DrawBackwardOrder_run B) fun v h1 ⟨hp1, js, lim, u, ev, hjl, J⟩ => ?_
  subst ev
  have l1 : js.length ≤ 2 ^ 40 := by omega
  have Js := J
  obtain ⟨ja, jc, rfl⟩ := J.shapeT
  have bl := @boR_len js lim
  simp -implicitDefEqProofs
  refine CL_post (implBackwardOrder_run (lim := lim) Js l1) fun v h2 ⟨hp2, d2, ev, D2⟩ => ?_
  subst ev
  obtain ⟨da, dc, e2⟩ : ∃ a c, d2 = .slice a ((boR js lim).getD []).length c := D2.shapeT
  subst e2
  simp -implicitDefEqProofs
  refine CL_post (specBackwardOrder_run (lim := lim) (Js.pre hp2) l1) fun v h3 ⟨hp3, d3, ev, D3⟩ => ?_
  subst ev
  obtain ⟨ea, en, ec, rfl⟩ : ∃ a n c, d3 = .slice a n c := by obtain ⟨a, c, e⟩ := D3.shape; exact ⟨_, _, _, e⟩
  have p13 := hp2.trans hp3
  have q1 := rInts_run (D2.pre hp3) D3 (by omega)
  have D2' := D2.pre hp3
  have comb : (¬ (0 : Int) < js.length) ∨ ((0 : Int) < js.length ∧ ((¬ -500 ≤ lim) ∨ (-500 ≤ lim ∧ ((¬ lim ≤ 400) ∨ lim ≤ 400)))) := by omega
  rcases comb with g | ⟨g1, g2 | ⟨g2, g3 | g3⟩⟩
  case' inl =>
    obtain ⟨h', e', hp'⟩ : ∃ h', h3 = h' ∧ h <+: h' := ⟨h3, rfl, hp1.trans p13⟩
    have gn : js.length = 0 := by omega
    simp -implicitDefEqProofs [CL_ret q1, g, gn]
    rw [e']
  case' inr.inl =>
    obtain ⟨h', e', hp'⟩ : ∃ h', h3 = h' ∧ h <+: h' := ⟨h3, rfl, hp1.trans p13⟩
    have gn : 0 < js.length := by omega
    simp -implicitDefEqProofs [CL_ret q1, g1, gn, g2]
    rw [e']
  case' inr.inr.inl =>
    obtain ⟨h', e', hp'⟩ : ∃ h', h3 = h' ∧ h <+: h' := ⟨h3, rfl, hp1.trans p13⟩
    have gn : 0 < js.length := by omega
    simp -implicitDefEqProofs [CL_ret q1, g1, gn, g2, g3]
    rw [e']
  case' inr.inr.inr =>
    have gn : 0 < js.length := by omega
    have il : inB lim (-500) 400 = true := by simp [inB, g2, g3]
    simp -implicitDefEqProofs [CL_ret q1, g1, gn, g2, g3]
    refine CL_post (implBestUnder_run (f := 2) (g := 4) (lim := lim) (Js.pre p13) l1) fun v h4 ⟨hp4, w4, ev, W4⟩ => ?_
    subst ev
    have hul : (undF js 2 4 lim).length ≤ 2 ^ 40 := by
      unfold undF
      split
      · rcases @undG_facts js 2 4 lim with ⟨e, _⟩ | ⟨_, _, oo, _⟩
        · rw [e]; simp [sr0]
        · rw [oo.len]; omega
      · simp
    obtain ⟨wa, wc, e4⟩ : ∃ a c, w4 = .slice a (undF js 2 4 lim).length c := W4.shapeT
    subst e4
    simp -implicitDefEqProofs
    refine CL_post (specBestUnder_run (f := 2) (g := 4) (lim := lim) (Js.pre (p13.trans hp4)) l1) fun v h5 ⟨hp5, w5, ev, W5⟩ => ?_
    subst ev
    obtain ⟨xa, xn, xc, rfl⟩ : ∃ a n c, w5 = .slice a n c := by obtain ⟨a, c, e⟩ := W5.shape; exact ⟨_, _, _, e⟩
    have W4' := W4.pre hp5
    have q5 := rInts_run W4' W5 hul
    have p15 := p13.trans (hp4.trans hp5)
    have J5 := Js.pre p15
    obtain ⟨h', e', hp'⟩ : ∃ h', h5 = h' ∧ h <+: h' := ⟨h5, rfl, hp1.trans p15⟩
    cases hbo : boR js lim
    case' none =>
      rw [hbo] at D2'
      have rt := implTotalTime_run J5 l1
      cases hok : plOk js
      case' false =>
        rw [hok] at rt
        simp -implicitDefEqProofs [CL_ret q5, CL_ret rt]
        rw [e']
      case' true =>
        rw [hok] at rt
        have hbx : backX js lim = none := by rw [boR, hok, il] at hbo; exact hbo
        have hu := (back_under hok gn (lim := lim) (by omega)).2 hbx
        simp -implicitDefEqProofs [CL_ret q5, CL_ret rt, hu]
        rw [e']
    case' some o =>
      have hc : (plOk js && inB lim (-500) 400) = true := by
        unfold boR at hbo
        split at hbo
        · assumption
        · cases hbo
      have hok := (boR_of hc).1
      have hbx : backX js lim = some o := by rw [boR, if_pos hc] at hbo; exact hbo
      obtain ⟨oo, v4, hu, ou, ve⟩ := (back_under hok gn (lim := lim) (by omega)).1 o hbx
      rw [hbo] at D2'
      have D5 : Ints h5 (.slice da o.length dc) o := D2'.pre (hp4.trans hp5)
      have k1 : okV js o 2 = true := okV_pl hok oo (by omega)
      have k2 : okV js (undF js 2 4 lim) 2 = true := okV_pl hok ou (by omega)
      have k3 : okV js o 4 = true := okV_pl hok oo (by omega)
      have r1 := implValueOf_run (o := 2) J5 D5 l1 (by have := oo.len; omega)
      have r2 := implValueOf_run (o := 2) J5 W4' l1 hul
      have r3 := implValueOf_run (o := 4) J5 D5 l1 (by have := oo.len; omega)
      rw [vOf, k1, if_pos rfl] at r1
      rw [vOf, k2, if_pos rfl, ← ve] at r2
      rw [vOf, k3, if_pos rfl] at r3
      have v4' : ¬ lim < valX 4 js o := by omega
      simp -implicitDefEqProofs [CL_ret q5, CL_ret r1, CL_ret r2, CL_ret r3, hu, v4']
      rw [e']
  all_goals
    refine CL_post (DrawLatenessFront_run ⟨bs, Sbs.pre hp', hb, by omega⟩) fun ku g1 ⟨gp1, ks, hkl, K1⟩ => ?_
    have k1 : ks.length ≤ 2 ^ 40 := by omega
    have K1s := K1
    obtain ⟨ka, kc, rfl⟩ := K1.shapeT
    have flen : (lfR ks).length ≤ 2 ^ 40 := by
      unfold lfR
      split
      · rename_i hok
        obtain ⟨hn, hg, _⟩ := plOk_of hok
        have hF : FOk (frontR 2 4 ks) := ⟨(front_facts (f := 2) (g := 4) hn).1, fun q hq => (front_bd (f := 2) (g := 4) hg hn q hq).1⟩
        have := hF.len
        omega
      · simp
    simp -implicitDefEqProofs
    refine CL_post (implLatenessFront_run K1s k1) fun v g2 ⟨gp2, w2, ev, W2⟩ => ?_
    subst ev
    obtain ⟨fa, fc, e6⟩ : ∃ a c, w2 = .slice a (lfR ks).length c := W2.shapeT
    subst e6
    simp -implicitDefEqProofs
    refine CL_post (specLatenessFront_run (K1s.pre gp2) k1) fun v g3 ⟨gp3, w3, ev, W3⟩ => ?_
    subst ev
    obtain ⟨ga, gn3, gc3, rfl⟩ : ∃ a n c, w3 = .slice a n c := by obtain ⟨a, c, e⟩ := W3.shape; exact ⟨_, _, _, e⟩
    have q6 := rPairs_run (W2.pre gp3) W3 flen
    have pall := hp'.trans (gp1.trans (gp2.trans gp3))
    cases hkok : plOk ks
    · simp -implicitDefEqProofs [CL_ret q6]
      exact gcP pall rfl
    simp -implicitDefEqProofs [CL_ret q6]
    refine CL_post (implFrontOf_run (f := 2) (g := 4) (K1s.pre (gp2.trans gp3)) k1) fun v g4 ⟨gp4, d8, ev, D8, _⟩ => ?_
    subst ev
    have e8 : frV ks 2 4 = lfR ks := by rw [frV, lfR, aTwo24 hkok, hkok]
    rw [e8] at D8
    obtain ⟨qa, qn, qc, rfl⟩ : ∃ a n c, d8 = .slice a n c := by obtain ⟨a, c, e⟩ := D8.shape; exact ⟨_, _, _, e⟩
    have q7 := rPairs_run (W2.pre (gp3.trans gp4)) D8 flen
    rw [aTwo24 hkok]
    simp -implicitDefEqProofs [CL_ret q7]
    exact gcP (pall.trans gp4) rfl
end Go.Pm.PP

/- Orders by vectors of ends; ascending lists; sums. -/
set_option linter.unusedVariables false
set_option linter.unusedSimpArgs false
set_option maxRecDepth 4000
set_option maxHeartbeats 16000000
namespace Go.Pm.PP
open Go.Pm Go.Proofs Go.Pm.PE
section
variable {h : Hp} {vj v ve vs : Value} {js : List Job} {xs es s : List Int}
theorem load_EX {x : Int} (E : Ints h ve es) (hx : 0 ≤ x ∧ x < es.length) : indexAddrP P h t_S_int ve (.int .i64 x) = some (.pointer (some (addP (base ve) x.toNat))) ∧ loadP P h t_int (.pointer (some (addP (base ve) x.toNat))) = some (.int .i64 (gE es x.toNat)) := by
  have := load_I E (gE_get (l := es) (i := x.toNat) (by omega))
  rw [show ((x.toNat : Nat) : Int) = x by omega] at this
  exact this
theorem byEnds1_run {a b : Int} {r : Nat} (E : Ints h ve es) (hb : h[r]? = some (some ⟨[ve], 0, false⟩)) (ha : 0 ≤ a ∧ a < es.length) (hb' : 0 ≤ b ∧ b < es.length) : Ret P G n_impl_byEnds_1 [.int .i64 a, .int .i64 b, .pointer (some ⟨r, 0, some 1⟩)] h (.bool (eAh es a b)) h := by
  refine enter_run e_impl_byEnds_1 (by simp) ?_
  have Es := E
  obtain ⟨oj, cj, rfl⟩ := E.shapeT
  have lb := load_pre (n := 1) List.prefix_rfl hb rfl
  simp -implicitDefEqProofs [-indexAddrP_some, lb, load_EX Es ha, load_EX Es hb', eAh]
def beL (es : List Int) : List Int := sortB (eAh es) (upTo es.length)
theorem beL_perm : (beL es).Perm (upTo es.length) := sortB_perm
theorem beL_ord : Ord es.length (beL es) := ord_of_perm beL_perm
theorem beL_lex : (beL es).Pairwise (Lex (eAh es)) := sortB_sorted eAh_weak up_asc
theorem byEnds_run (E : Ints h ve es) (hl : es.length ≤ 2 ^ 20) : RunsC P G n_impl_byEnds [ve] h fun w h' => h <+: h' ∧ Own h.length h' w 1 ((beL es).map encI) := by
  refine hideC fun K hK => enter_run e_impl_byEnds (by simp) ?_
  have Es := E
  obtain ⟨oj, cj, rfl⟩ := E.shapeT
  have H0 := (Holds.start (h := h)).alloc [.slice oj es.length cj]
  simp -implicitDefEqProofs
  refine CL_post (numbersTo_run (n := es.length) (by omega)) fun v1 h1 ⟨hp1, ho1⟩ => ?_
  have hp := (List.prefix_append h [some (⟨[.slice oj es.length cj], 0, false⟩ : Row)]).trans hp1
  simp -implicitDefEqProofs
  refine CL_post (sortedBy_run (ah := eAh es) ho1.sees (by rw [upTo_len]; exact hl) fun h2 hp2 a b ha hb => ?_) fun v2 h2 ⟨hp2, ho2⟩ => ?_
  · exact byEnds1_run (Es.pre (hp.trans hp2)) (((H0.ext hp1).ext hp2).box 0 rfl) (mem_upTo.1 ha) (mem_upTo.1 hb)
  · simp -implicitDefEqProofs
    have H := (Holds.start (h := h)).call (hp.trans hp2) (ho2.low hp.length_le)
    exact onK hK (H.ret 0 rfl)
theorem l10Sorted_run (E : Ints h ve es) (hl : es.length ≤ 2 ^ 10) : RunsC P G n_spec_l10Sorted [ve] h fun w h' => h <+: h' ∧ Own h.length h' w 1 ((beL es).map encI) := by
  refine hideC fun K hK => enter_run e_spec_l10Sorted (by simp) ?_
  have Es := E
  obtain ⟨oj, cj, rfl⟩ := E.shapeT
  have H0 := own_nil (Holds.start (h := h)) Int encI 1
  have e0 : beL es = (upTo es.length).foldl (fun l x => insF (eP es x) x l) [] := (eF_eq up_asc).symm
  have hux : ∀ {i : Nat}, i < es.length → (upTo es.length)[i]? = some (i : Int) := fun {i} hi => by simp [upTo, hi]
  simp -implicitDefEqProofs
  refine R_loopO (fun m s h' => ∃ (i : Nat) (u : Value) (us : List Int), i + m = es.length ∧ s = [(0, .slice oj es.length cj), (3, u), (4, .int .i64 i)] ∧ us.length = i ∧ inN es.length us ∧
    beL es = ((upTo es.length).drop i).foldl (fun l x => insF (eP es x) x l) us ∧ Holds h h' [.own u 1 (us.map encI)]) (fun I hI m s h' => ?_) (n := es.length) ⟨0, _, [], Nat.zero_add _, by simp, rfl, fun x hx => by (cases hx), e0, H0⟩
  rintro ⟨i, u, us, hi, rfl, hul, hsub, hx, H⟩
  by_cases hlt : i < es.length
  · have hy := hux hlt
    have hd : (upTo es.length).drop i = (i : Int) :: (upTo es.length).drop (i + 1) := by
      obtain ⟨y, hy', hd⟩ := drop_at (show i < (upTo es.length).length by rw [upTo_len]; exact hlt)
      rw [hy] at hy'; cases hy'; exact hd
    rw [hd, List.foldl_cons] at hx
    have S := H.sees 0 rfl
    obtain ⟨ou, cu, rfl⟩ : ∃ a c, u = .slice a us.length c := by obtain ⟨a, c, e⟩ := S.shapeT; exact ⟨a, c, e⟩
    simp -implicitDefEqProofs [hlt]
    refine R_loopO (fun m2 s h2 => ∃ (k : Nat), k + m2 = us.length ∧ s = [(0, .slice oj es.length cj), (3, .slice ou us.length cu), (4, .int .i64 i), (5, .int .i64 k)] ∧ h2 = h' ∧ ∀ j z, j < k → us[j]? = some z → eP es i z = true) (fun I2 hI2 m2 s h2 => ?_) (n := us.length)
      ⟨0, Nat.zero_add _, by simp, rfl, fun i z h => by omega⟩
    rintro ⟨k, hk, rfl, rfl, hall⟩
    have lyx := load_I (Es.pre H.pre) (gE_get (l := es) (i := i) hlt)
    have fin : (∀ z, us[k]? = some z → eP es i z = false) → us.take k ++ (i : Int) :: us.drop k = insF (eP es i) i us := fun g => (insF_take (by omega) hall g).symm
    have hins : (insF (eP es i) i us).length = i + 1 := by rw [insF_perm.length_eq, List.length_cons, hul]
    have hsub' : inN es.length (insF (eP es i) i us) := fun z hz => by
      rcases List.mem_cons.1 (insF_perm.mem_iff.1 hz) with rfl | g
      · omega
      · exact hsub z g
    obtain ⟨a3, b3, c3, a4, b4, c4, h4, a5, b5, c5, h5, a6, b6, c6, v7, h7, s3, ha4, no4, ha5, md, no5, s6, ha7, hp4, H7, hp7⟩ := ins_mid H 0 rfl (k := k) (by omega) (i : Int) (by omega)
    by_cases hlk : k < us.length
    · obtain ⟨z, hz, _⟩ := drop_at hlk
      have lz := load_I S hz
      have lez := load_EX (Es.pre H.pre) (hsub z (List.mem_of_getElem? hz))
      have hlk' : (k : Int) < us.length := by omega
      by_cases c1 : gE es z.toNat ≤ gE es i
      · have c1' : eP es i z = true := by simp [eP, c1]
        simp -implicitDefEqProofs [-indexAddrP_some, hlk, hlk', lz, lez, lyx, c1, winc hlk (by omega)]
        exact ⟨m2 - 1, by omega, on hI2 ⟨k + 1, by omega, rfl, rfl, fun j z' h1 h2 => by
          rcases Nat.lt_or_ge j k with g | g
          · exact hall j z' g h2
          · have : j = k := by omega
            subst this
            rw [hz] at h2; cases h2; exact c1'⟩⟩
      · have c1' : eP es i z = false := by simp [eP, c1]
        rw [fin (fun z' g => by rw [hz] at g; cases g; exact c1')] at H7
        simp -implicitDefEqProofs [-indexAddrP_some, hlk, hlk', lz, lez, lyx, c1, s3, ha4, no4, ha5, md, no5, s6, ha7, winc hlt (by omega)]
        exact ⟨m - 1, by omega, on hI ⟨i + 1, v7, _, by omega, rfl, hins, hsub', hx, H7⟩⟩
    · rw [fin (fun z' g => by rw [List.getElem?_eq_none (by omega)] at g; cases g)] at H7
      have hlk' : ¬ (k : Int) < us.length := by omega
      simp -implicitDefEqProofs [-indexAddrP_some, hlk, hlk', lyx, s3, ha4, no4, ha5, md, no5, s6, ha7, winc hlt (by omega)]
      exact ⟨m - 1, by omega, on hI ⟨i + 1, v7, _, by omega, rfl, hins, hsub', hx, H7⟩⟩
  · rw [List.drop_eq_nil_of_le (by rw [upTo_len]; omega), List.foldl_nil] at hx
    rw [hx] at hK
    simp -implicitDefEqProofs [hlt]
    exact onK hK (H.ret 0 rfl)
/-! ### put in ascending order -/
theorem ins_see {u : Value} (S2 : Ints h u xs) {k : Nat} (hk : k ≤ xs.length) (x : Int) (hn : xs.length ≤ 2 ^ 20) :
    ∃ (a3 : Option Addr) (b3 c3 : Nat) (a4 : Option Addr) (b4 c4 : Nat) (h4 : Hp) (a5 : Option Addr) (b5 c5 : Nat) (h5 : Hp) (a6 : Option Addr) (b6 c6 : Nat) (a7 : Option Addr) (b7 c7 : Nat) (h7 : Hp),
      sliceP P h t_S_int u none (some (.int .i64 k)) = some (.slice a3 b3 c3) ∧ appendP P h t_S_int (.slice none 0 0) (.slice a3 b3 c3) = some (.slice a4 b4 c4, h4) ∧ newOk h h4 ∧
      appendP P (h4 ++ [some ⟨[.int .i64 x], 1, false⟩]) t_S_int (.slice a4 b4 c4) (.slice (some ⟨h4.length, 0, some 1⟩) 1 1) = some (.slice a5 b5 c5, h5) ∧ modOk h.length (h4 ++ [some ⟨[.int .i64 x], 1, false⟩]) h5 ∧ newOk h h5 ∧
      sliceP P h5 t_S_int u (some (.int .i64 k)) none = some (.slice a6 b6 c6) ∧ appendP P h5 t_S_int (.slice a5 b5 c5) (.slice a6 b6 c6) = some (.slice a7 b7 c7, h7) ∧ h <+: h4 ∧ Holds h h7 [.own (.slice a7 b7 c7) 1 ((xs.take k ++ x :: xs.drop k).map encI)] ∧ h <+: h7 := by
  obtain ⟨v3, s3, f3⟩ := S2.front (P := P) u_S_int i_int (k := .i64) (j := (k : Int)) (by omega) (by simp; omega)
  rw [Int.toNat_natCast, ← List.map_take] at f3
  have H0 := own_nil (Holds.start (h := h)) Int encI 1
  obtain ⟨v4, h4, ha4, H4', _⟩ := app_I H0 0 rfl f3 (by simp; omega)
  have H4 : Holds h h4 [.own v4 1 ((xs.take k).map encI)] := H4'
  have n4 : NR h.length h4 := append_nr nr_self ha4
  have no4 := newOk_of H4.pre n4
  obtain ⟨v5, h5, ha5, H5', k5, _⟩ := push_I0 H4 0 rfl x (by simp; omega)
  have H5 : Holds h h5 [.own v5 1 ((xs.take k ++ [x]).map encI)] := H5'
  have n5 : NR h.length (h4 ++ [some ⟨[.int .i64 x], 1, false⟩]) := n4.new [.int .i64 x] 1
  have md := app_mod (b := h.length) rfl n5 ha5 (H4.pre.trans (List.prefix_append ..)) H5.pre
  have n6 := append_nr n5 ha5
  obtain ⟨v6, s6, f6, _⟩ := (S2.pre H5.pre).back (P := P) u_S_int i_int (k := .i64) (j := (k : Int)) (by omega) (by simp; omega)
  rw [Int.toNat_natCast, ← List.map_drop] at f6
  obtain ⟨v7, h7, ha7, H7', _⟩ := app_I H5 0 rfl f6 (by simp; omega)
  have H7 : Holds h h7 [.own v7 1 ((xs.take k ++ x :: xs.drop k).map encI)] := by
    have : Holds h h7 [.own v7 1 ((xs.take k ++ [x] ++ xs.drop k).map encI)] := H7'
    rw [List.append_assoc] at this
    exact this
  obtain ⟨a3, b3, c3, rfl⟩ : ∃ a n c, v3 = .slice a n c := by obtain ⟨a, c, e⟩ := f3.shape; exact ⟨_, _, _, e⟩
  obtain ⟨a4, b4, c4, rfl⟩ : ∃ a n c, v4 = .slice a n c := by obtain ⟨a, c, e⟩ := (H4.sees 0 rfl).shape; exact ⟨_, _, _, e⟩
  obtain ⟨a5, b5, c5, rfl⟩ : ∃ a n c, v5 = .slice a n c := by obtain ⟨a, c, e⟩ := (H5.sees 0 rfl).shape; exact ⟨_, _, _, e⟩
  obtain ⟨a6, b6, c6, rfl⟩ : ∃ a n c, v6 = .slice a n c := by obtain ⟨a, c, e⟩ := f6.shape; exact ⟨_, _, _, e⟩
  obtain ⟨a7, b7, c7, rfl⟩ : ∃ a n c, v7 = .slice a n c := by obtain ⟨a, c, e⟩ := (H7.sees 0 rfl).shape; exact ⟨_, _, _, e⟩
  exact ⟨a3, b3, c3, a4, b4, c4, h4, a5, b5, c5, h5, a6, b6, c6, a7, b7, c7, h7, s3, ha4, no4, ha5, md, newOk_of H5.pre n6, s6, ha7, H4.pre, H7, H7.pre⟩
theorem l1Put_run {x : Int} (X : Ints h v xs) (hl : xs.length ≤ 2 ^ 10) (hs : xs.Pairwise (· < ·)) : RunsC P G n_spec_l1Put [v, .int .i64 x] h fun w h' => h <+: h' ∧ Ints h' w (putI xs x) := by
  refine hideC fun K hK => enter_run e_spec_l1Put (by simp) ?_
  have Xs := X
  obtain ⟨ox, cx, rfl⟩ := X.shapeT
  simp -implicitDefEqProofs
  refine R_loopO (fun m s h2 => ∃ (k : Nat), k + m = xs.length ∧ s = [(0, .slice ox xs.length cx), (1, .int .i64 x), (5, .int .i64 k)] ∧ h2 = h ∧ ∀ j z, j < k → xs[j]? = some z → z < x) (fun I hI m s h2 => ?_) (n := xs.length)
    ⟨0, Nat.zero_add _, by simp, rfl, fun i z h => by omega⟩
  rintro ⟨k, hk, rfl, rfl, hall⟩
  have fin : (∀ z, xs[k]? = some z → x < z) → ∃ (a3 : Option Addr) (b3 c3 : Nat) (a4 : Option Addr) (b4 c4 : Nat) (h4 : Hp) (a5 : Option Addr) (b5 c5 : Nat) (h5 : Hp) (a6 : Option Addr) (b6 c6 : Nat) (a7 : Option Addr) (b7 c7 : Nat) (h7 : Hp),
      sliceP P h2 t_S_int (.slice ox xs.length cx) none (some (.int .i64 k)) = some (.slice a3 b3 c3) ∧ appendP P h2 t_S_int (.slice none 0 0) (.slice a3 b3 c3) = some (.slice a4 b4 c4, h4) ∧ newOk h2 h4 ∧
      appendP P (h4 ++ [some ⟨[.int .i64 x], 1, false⟩]) t_S_int (.slice a4 b4 c4) (.slice (some ⟨h4.length, 0, some 1⟩) 1 1) = some (.slice a5 b5 c5, h5) ∧ modOk h2.length (h4 ++ [some ⟨[.int .i64 x], 1, false⟩]) h5 ∧ newOk h2 h5 ∧
      sliceP P h5 t_S_int (.slice ox xs.length cx) (some (.int .i64 k)) none = some (.slice a6 b6 c6) ∧ appendP P h5 t_S_int (.slice a5 b5 c5) (.slice a6 b6 c6) = some (.slice a7 b7 c7, h7) ∧ K (.slice a7 b7 c7) (gc h2 h7 (.slice a7 b7 c7)) := fun g => by
    obtain ⟨a3, b3, c3, a4, b4, c4, h4, a5, b5, c5, h5, a6, b6, c6, a7, b7, c7, h7, s3, ha4, no4, ha5, md, no5, s6, ha7, hp4, H7, hp7⟩ := ins_see Xs (k := k) (by omega) x (by omega)
    refine ⟨a3, b3, c3, a4, b4, c4, h4, a5, b5, c5, h5, a6, b6, c6, a7, b7, c7, h7, s3, ha4, no4, ha5, md, no5, s6, ha7, ?_⟩
    have e : putI xs x = xs.take k ++ x :: xs.drop k := by
      have hn : xs.any (· == x) = false := by
        rw [List.any_eq_false]
        intro z hz
        obtain ⟨j, hj⟩ := List.getElem?_of_mem hz
        rcases Nat.lt_or_ge j k with q | q
        · have := hall j z q hj; simp; omega
        · obtain ⟨w, hw, _⟩ := drop_at (show k < xs.length by have := (List.getElem?_eq_some_iff.1 hj).1; omega)
          have h1 := g w hw
          rcases Nat.eq_or_lt_of_le q with q | q
          · subst q; rw [hj] at hw; cases hw; simp; omega
          · have := List.pairwise_iff_getElem.1 hs k j (List.getElem?_eq_some_iff.1 hw).1 (List.getElem?_eq_some_iff.1 hj).1 q
            rw [(List.getElem?_eq_some_iff.1 hw).2, (List.getElem?_eq_some_iff.1 hj).2] at this
            simp; omega
      unfold putI
      rw [hn, if_neg (by simp)]
      exact insF_take (by omega) (fun i z h1 h2 => by simpa using hall i z h1 h2) (fun z hz => by have := g z hz; simp; omega)
    rw [e] at hK
    exact onK hK ⟨pre_gcU H7.pre, Sees.gcU (H7.sees 0 rfl) fun g => g⟩
  by_cases hlt : k < xs.length
  · obtain ⟨z, hz, _⟩ := drop_at hlt
    have hlt' : (k : Int) < xs.length := by omega
    by_cases c1 : z < x
    · simp -implicitDefEqProofs [-indexAddrP_some, hlt, hlt', load_I Xs hz, c1, winc hlt (by omega)]
      exact ⟨m - 1, by omega, on hI ⟨k + 1, by omega, rfl, rfl, fun j z' h1 h2 => by
        rcases Nat.lt_or_ge j k with g | g
        · exact hall j z' g h2
        · have : j = k := by omega
          subst this
          rw [hz] at h2; cases h2; exact c1⟩⟩
    · by_cases c2 : z = x
      · subst c2
        have e : putI xs z = xs := by
          unfold putI
          rw [if_pos (List.any_eq_true.2 ⟨z, List.mem_of_getElem? hz, by simp⟩)]
        rw [e] at hK
        simp -implicitDefEqProofs [-indexAddrP_some, hlt, hlt', load_I Xs hz]
        exact onK hK ⟨List.prefix_rfl, Xs⟩
      · rcases fin (fun z' g => by rw [hz] at g; cases g; omega) with ⟨a3, b3, c3, a4, b4, c4, h4, a5, b5, c5, h5, a6, b6, c6, a7, b7, c7, h7, s3, ha4, no4, ha5, md, no5, s6, ha7, fK⟩
        · simp -implicitDefEqProofs [-indexAddrP_some, hlt, hlt', load_I Xs hz, c1, nb c2, s3, ha4, no4, ha5, md, no5, s6, ha7]
          exact fK
  · rcases fin (fun z' g => by rw [List.getElem?_eq_none (by omega)] at g; cases g) with ⟨a3, b3, c3, a4, b4, c4, h4, a5, b5, c5, h5, a6, b6, c6, a7, b7, c7, h7, s3, ha4, no4, ha5, md, no5, s6, ha7, fK⟩
    · have hlt' : ¬ (k : Int) < xs.length := by omega
      simp -implicitDefEqProofs [-indexAddrP_some, hlt, hlt', s3, ha4, no4, ha5, md, no5, s6, ha7]
      exact fK
end
end Go.Pm.PP

/- Sums over sets; vectors. -/
set_option linter.unusedVariables false
set_option linter.unusedSimpArgs false
set_option maxRecDepth 4000
set_option maxHeartbeats 16000000
namespace Go.Pm.PP
open Go.Pm Go.Proofs Go.Pm.PE
theorem ascF_eq {xs : List Int} (h : xs.Nodup) : ascF xs = ascL xs := by
  obtain ⟨h1, h2⟩ := ascF_go (xs := xs) (acc := []) List.Pairwise.nil h
  refine sorted_eq (R := (· < ·)) (fun a b h1 h2 => by omega) h1 ?_ (h2.trans sortB_perm.symm)
  have p := sortB_perm (ah := fun a b : Int => decide (a < b)) (l := xs)
  have hw := sortB_weak (ah := fun a b : Int => decide (a < b)) ascL_weak (l := xs)
  refine (hw.and (List.nodup_iff_pairwise_ne.1 (p.nodup_iff.2 h))).imp fun {a b} g => ?_
  have g1 := g.1
  have g2 := g.2
  simp only [decide_eq_false_iff_not] at g1
  show a < b
  omega
section
variable {h : Hp} {vj v ve vs : Value} {js : List Job} {xs es s : List Int}
theorem l6Ascending_run (X : Ints h v xs) (hl : xs.length ≤ 2 ^ 9) (hn : xs.Nodup) : RunsC P G n_spec_l6Ascending [v] h fun w h' => h <+: h' ∧ Ints h' w (ascL xs) := by
  refine hideC fun K hK => enter_run e_spec_l6Ascending (by simp) ?_
  have Xs := X
  obtain ⟨ox, cx, rfl⟩ := X.shapeT
  rw [← ascF_eq hn] at hK
  have N0 : Ints h (.slice none 0 0) ([] : List Int) := ⟨by simp, none, 0, rfl, .inl ⟨rfl, rfl, rfl⟩⟩
  simp -implicitDefEqProofs
  refine R_loopO (fun m s h' => ∃ (i : Nat) (u : Value) (us : List Int), i + m = xs.length ∧ s = [(0, .slice ox xs.length cx), (3, u), (4, .int .i64 i)] ∧ us = (xs.take i).foldl putI [] ∧ h <+: h' ∧ Ints h' u us) (fun I hI m s h' => ?_) (n := xs.length) ⟨0, _, [], Nat.zero_add _, by simp, rfl, List.prefix_rfl, N0⟩
  rintro ⟨i, u, us, hi, rfl, hu, hp, S⟩
  have hnt : ([] ++ xs.take i).Nodup := by rw [List.nil_append]; exact hn.sublist (List.take_sublist ..)
  obtain ⟨a1, a2⟩ := ascF_go (xs := xs.take i) (acc := []) List.Pairwise.nil hnt
  rw [← hu] at a1 a2
  have hul : us.length = i := by
    have := a2.length_eq
    simp only [List.nil_append, List.length_take] at this
    omega
  obtain ⟨oa, c, rfl⟩ := S.shapeT
  by_cases hlt : i < xs.length
  · obtain ⟨y, hy, hd⟩ := drop_at hlt
    simp -implicitDefEqProofs [-indexAddrP_some, hlt, load_I (Xs.pre hp) hy]
    refine CL_post (l1Put_run (x := y) S (by omega) a1) fun w h2 ⟨hp2, S2⟩ => ?_
    simp -implicitDefEqProofs [winc hlt (by omega)]
    refine ⟨m - 1, by omega, on hI ⟨i + 1, w, _, by omega, rfl, ?_, hp.trans hp2, S2⟩⟩
    rw [take_succ' hy, List.foldl_append, List.foldl_cons, List.foldl_nil, hu]
  · rw [List.take_of_length_le (by omega)] at hu
    have hu : us = ascF xs := hu
    rw [← hu] at hK
    simp -implicitDefEqProofs [hlt]
    exact onK hK ⟨pre_gcU hp, Sees.gcU S fun g => g⟩
/-! ### sums -/
def supL (js : List Job) (es s : List Int) : Int := (s.map fun i => (jA js i).t * gE es i.toNat).sum
def timS (js : List Job) (s : List Int) : Int := (s.map fun i => (jA js i).t).sum
def sqrS (js : List Job) (s : List Int) : Int := (s.map fun i => (jA js i).t * (jA js i).t).sum
def demL (js : List Job) (s : List Int) : Int := (timS js s * timS js s + sqrS js s) / 2
def EOk (es : List Int) : Prop := ∀ k, 0 ≤ gE es k ∧ gE es k ≤ 2000
theorem jt_bd {js : List Job} (hg : goodL js = true) (x : Int) : 0 ≤ (jA js x).t ∧ (jA js x).t ≤ 50 := by
  rcases @jA_in js x with g | g
  · have := job_of (List.all_eq_true.1 hg _ g); omega
  · rw [g]; simp
theorem mul_bd2 {a b A B : Int} (ha : 0 ≤ a ∧ a ≤ A) (hb : 0 ≤ b ∧ b ≤ B) : 0 ≤ a * b ∧ a * b ≤ A * B := ⟨Int.mul_nonneg ha.1 hb.1, Int.mul_le_mul ha.2 hb.2 hb.1 (by omega)⟩
theorem supplyOf_run (J : Jobs h vj js) (E : Ints h ve es) (S : Ints h vs s) (hg : goodL js = true) (eo : EOk es) (hin : inN js.length s) (hel : es.length = js.length) (hl : s.length ≤ 2 ^ 10) : Ret P G n_impl_supplyOf [vj, ve, vs] h (.int .i64 (supL js es s)) h := by
  refine enter_run e_impl_supplyOf (by simp) ?_
  have Js := J
  have Es := E
  have Ss := S
  obtain ⟨oj, cj, rfl⟩ := J.shapeT
  obtain ⟨oe, ce, rfl⟩ := E.shapeT
  obtain ⟨os, cs, rfl⟩ := S.shapeT
  simp -implicitDefEqProofs
  refine R_loopO (fun m st h' => ∃ (i : Nat) (a : Int), i + m = s.length ∧ st = [(0, .slice oj js.length cj), (1, .slice oe es.length ce), (7, .int .i64 a), (10, .slice os s.length cs), (11, .int .i64 s.length), (12, .int .i64 i)] ∧ supL js es s = a + supL js es (s.drop i) ∧ 0 ≤ a ∧ a ≤ i * (50 * 2000) ∧ h' = h) (fun I hI m st h' => ?_) (n := s.length)
    ⟨0, 0, Nat.zero_add _, by simp, by simp, by omega, by omega, rfl⟩
  rintro ⟨i, a, hi, rfl, hx, a0, a1, rfl⟩
  by_cases hlt : i < s.length
  · obtain ⟨y, hy, hd⟩ := drop_at hlt
    have hy1 := hin y (List.mem_of_getElem? hy)
    have e1 : supL js es (y :: s.drop (i + 1)) = (jA js y).t * gE es y.toNat + supL js es (s.drop (i + 1)) := rfl
    have bd := mul_bd2 (jt_bd hg y) (eo y.toNat)
    rw [hd, e1] at hx
    generalize hp : (jA js y).t * gE es y.toNat = p at *
    have w1 : IntKind.i64.wrap p = p := by rw [wrap_ok] <;> omega
    have w2 : IntKind.i64.wrap (a + p) = a + p := by rw [wrap_ok] <;> omega
    simp -implicitDefEqProofs [-indexAddrP_some, hlt, load_I Ss hy, load_JX Js hy1, load_EX Es (by omega : 0 ≤ y ∧ y < es.length), hp, w1, w2, winc hlt (by omega)]
    exact ⟨m - 1, by omega, on hI ⟨i + 1, a + p, by omega, rfl, by omega, by omega, by omega, rfl⟩⟩
  · rw [List.drop_eq_nil_of_le (by omega)] at hx
    have hx : supL js es s = a := by simpa [supL] using hx
    simp -implicitDefEqProofs [hlt, hx]
theorem l10Supply_run (J : Jobs h vj js) (E : Ints h ve es) (S : Ints h vs s) (hg : goodL js = true) (eo : EOk es) (hin : inN js.length s) (hel : es.length = js.length) (hl : s.length ≤ 2 ^ 10) : Ret P G n_spec_l10Supply [vj, ve, vs] h (.int .i64 (supL js es s)) h := by
  refine enter_run e_spec_l10Supply (by simp) ?_
  have Js := J
  have Es := E
  have Ss := S
  obtain ⟨oj, cj, rfl⟩ := J.shapeT
  obtain ⟨oe, ce, rfl⟩ := E.shapeT
  obtain ⟨os, cs, rfl⟩ := S.shapeT
  simp -implicitDefEqProofs
  refine R_loopO (fun m st h' => ∃ (i : Nat) (a : Int), i + m = s.length ∧ st = [(0, .slice oj js.length cj), (1, .slice oe es.length ce), (2, .slice os s.length cs), (7, .int .i64 a), (8, .int .i64 i)] ∧ supL js es s = a + supL js es (s.drop i) ∧ 0 ≤ a ∧ a ≤ i * (50 * 2000) ∧ h' = h) (fun I hI m st h' => ?_) (n := s.length)
    ⟨0, 0, Nat.zero_add _, by simp, by simp, by omega, by omega, rfl⟩
  rintro ⟨i, a, hi, rfl, hx, a0, a1, rfl⟩
  by_cases hlt : i < s.length
  · obtain ⟨y, hy, hd⟩ := drop_at hlt
    have hy1 := hin y (List.mem_of_getElem? hy)
    have e1 : supL js es (y :: s.drop (i + 1)) = (jA js y).t * gE es y.toNat + supL js es (s.drop (i + 1)) := rfl
    have bd := mul_bd2 (jt_bd hg y) (eo y.toNat)
    rw [hd, e1] at hx
    generalize hp : (jA js y).t * gE es y.toNat = p at *
    have w1 : IntKind.i64.wrap p = p := by rw [wrap_ok] <;> omega
    have w2 : IntKind.i64.wrap (a + p) = a + p := by rw [wrap_ok] <;> omega
    simp -implicitDefEqProofs [-indexAddrP_some, hlt, load_I Ss hy, load_JX Js hy1, load_EX Es (by omega : 0 ≤ y ∧ y < es.length), hp, w1, w2, winc hlt (by omega)]
    exact ⟨m - 1, by omega, on hI ⟨i + 1, a + p, by omega, rfl, by omega, by omega, by omega, rfl⟩⟩
  · rw [List.drop_eq_nil_of_le (by omega)] at hx
    have hx : supL js es s = a := by simpa [supL] using hx
    simp -implicitDefEqProofs [hlt, hx]
theorem dem_fin {T Q : Int} (hT : 0 ≤ T ∧ T ≤ 2 ^ 20) (hQ : 0 ≤ Q ∧ Q ≤ 2 ^ 40) : IntKind.i64.wrap (T * T) = T * T ∧ IntKind.i64.wrap (T * T + Q) = T * T + Q ∧ (T * T + Q).tdiv 2 = (T * T + Q) / 2 ∧ IntKind.i64.wrap ((T * T + Q) / 2) = (T * T + Q) / 2 := by
  have := mul_bd2 hT hT
  refine ⟨by rw [wrap_ok] <;> omega, by rw [wrap_ok] <;> omega, Int.tdiv_eq_ediv_of_nonneg (by omega), by rw [wrap_ok] <;> omega⟩
theorem demandOf_run (J : Jobs h vj js) (S : Ints h vs s) (hg : goodL js = true) (hin : inN js.length s) (hl : s.length ≤ 2 ^ 10) : Ret P G n_impl_demandOf [vj, vs] h (.int .i64 (demL js s)) h := by
  refine enter_run e_impl_demandOf (by simp) ?_
  have Js := J
  have Ss := S
  obtain ⟨oj, cj, rfl⟩ := J.shapeT
  obtain ⟨os, cs, rfl⟩ := S.shapeT
  simp -implicitDefEqProofs
  refine R_loopO (fun m st h' => ∃ (i : Nat) (a q : Int), i + m = s.length ∧ st = [(0, .slice oj js.length cj), (5, .int .i64 a), (6, .int .i64 q), (9, .slice os s.length cs), (10, .int .i64 s.length), (11, .int .i64 i)] ∧ timS js s = a + timS js (s.drop i) ∧ sqrS js s = q + sqrS js (s.drop i) ∧ (0 ≤ a ∧ a ≤ i * 50) ∧ (0 ≤ q ∧ q ≤ i * (50 * 50)) ∧ h' = h) (fun I hI m st h' => ?_) (n := s.length)
    ⟨0, 0, 0, Nat.zero_add _, by simp, by simp, by simp, by omega, by omega, rfl⟩
  rintro ⟨i, a, q, hi, rfl, hx, hq, a0, q0, rfl⟩
  by_cases hlt : i < s.length
  · obtain ⟨y, hy, hd⟩ := drop_at hlt
    have hy1 := hin y (List.mem_of_getElem? hy)
    have e1 : timS js (y :: s.drop (i + 1)) = (jA js y).t + timS js (s.drop (i + 1)) := rfl
    have e2 : sqrS js (y :: s.drop (i + 1)) = (jA js y).t * (jA js y).t + sqrS js (s.drop (i + 1)) := rfl
    have b1 := jt_bd hg y
    have bd := mul_bd2 b1 b1
    rw [hd] at hx hq
    rw [e1] at hx
    rw [e2] at hq
    generalize hp : (jA js y).t * (jA js y).t = p at *
    have w1 : IntKind.i64.wrap p = p := by rw [wrap_ok] <;> omega
    have w2 : IntKind.i64.wrap (q + p) = q + p := by rw [wrap_ok] <;> omega
    have w3 : IntKind.i64.wrap (a + (jA js y).t) = a + (jA js y).t := by rw [wrap_ok] <;> omega
    simp -implicitDefEqProofs [-indexAddrP_some, hlt, load_I Ss hy, load_JX Js hy1, hp, w1, w2, w3, winc hlt (by omega)]
    exact ⟨m - 1, by omega, on hI ⟨i + 1, _, _, by omega, rfl, by rw [hx, Int.add_assoc], by rw [hq, Int.add_assoc], by omega, by omega, rfl⟩⟩
  · rw [List.drop_eq_nil_of_le (by omega)] at hx hq
    have hx : timS js s = a := by simpa [timS] using hx
    have hq : sqrS js s = q := by simpa [sqrS] using hq
    obtain ⟨w1, w2, w3, w4⟩ := dem_fin (T := a) (Q := q) (by omega) (by omega)
    simp -implicitDefEqProofs [hlt, demL, hx, hq, w1, w2, w3, w4]
theorem l10Demand_run (J : Jobs h vj js) (S : Ints h vs s) (hg : goodL js = true) (hin : inN js.length s) (hl : s.length ≤ 2 ^ 10) : Ret P G n_spec_l10Demand [vj, vs] h (.int .i64 (demL js s)) h := by
  refine enter_run e_spec_l10Demand (by simp) ?_
  have Js := J
  have Ss := S
  obtain ⟨oj, cj, rfl⟩ := J.shapeT
  obtain ⟨os, cs, rfl⟩ := S.shapeT
  simp -implicitDefEqProofs
  refine R_loopO (fun m st h' => ∃ (i : Nat) (a q : Int), i + m = s.length ∧ st = [(0, .slice oj js.length cj), (1, .slice os s.length cs), (5, .int .i64 a), (6, .int .i64 q), (7, .int .i64 i)] ∧ timS js s = a + timS js (s.drop i) ∧ sqrS js s = q + sqrS js (s.drop i) ∧ (0 ≤ a ∧ a ≤ i * 50) ∧ (0 ≤ q ∧ q ≤ i * (50 * 50)) ∧ h' = h) (fun I hI m st h' => ?_) (n := s.length)
    ⟨0, 0, 0, Nat.zero_add _, by simp, by simp, by simp, by omega, by omega, rfl⟩
  rintro ⟨i, a, q, hi, rfl, hx, hq, a0, q0, rfl⟩
  by_cases hlt : i < s.length
  · obtain ⟨y, hy, hd⟩ := drop_at hlt
    have hy1 := hin y (List.mem_of_getElem? hy)
    have e1 : timS js (y :: s.drop (i + 1)) = (jA js y).t + timS js (s.drop (i + 1)) := rfl
    have e2 : sqrS js (y :: s.drop (i + 1)) = (jA js y).t * (jA js y).t + sqrS js (s.drop (i + 1)) := rfl
    have b1 := jt_bd hg y
    have bd := mul_bd2 b1 b1
    rw [hd] at hx hq
    rw [e1] at hx
    rw [e2] at hq
    generalize hp : (jA js y).t * (jA js y).t = p at *
    have w1 : IntKind.i64.wrap p = p := by rw [wrap_ok] <;> omega
    have w2 : IntKind.i64.wrap (q + p) = q + p := by rw [wrap_ok] <;> omega
    have w3 : IntKind.i64.wrap (a + (jA js y).t) = a + (jA js y).t := by rw [wrap_ok] <;> omega
    simp -implicitDefEqProofs [-indexAddrP_some, hlt, load_I Ss hy, load_JX Js hy1, hp, w1, w2, w3, winc hlt (by omega)]
    exact ⟨m - 1, by omega, on hI ⟨i + 1, _, _, by omega, rfl, by rw [hx, Int.add_assoc], by rw [hq, Int.add_assoc], by omega, by omega, rfl⟩⟩
  · rw [List.drop_eq_nil_of_le (by omega)] at hx hq
    have hx : timS js s = a := by simpa [timS] using hx
    have hq : sqrS js s = q := by simpa [sqrS] using hq
    obtain ⟨w1, w2, w3, w4⟩ := dem_fin (T := a) (Q := q) (by omega) (by omega)
    simp -implicitDefEqProofs [hlt, demL, hx, hq, w1, w2, w3, w4]
end
end Go.Pm.PP

/- Vectors of ends: guards, short sets. -/
set_option linter.unusedVariables false
set_option linter.unusedSimpArgs false
set_option maxRecDepth 4000
set_option maxHeartbeats 16000000
namespace Go.Pm.PP
open Go.Pm Go.Proofs Go.Pm.PE
def vinB (es : List Int) : Bool := es.all fun e => inB e 0 2000
def vecB (js : List Job) (es : List Int) : Bool := ((es.length : Int) == (js.length : Int)) && vinB es
theorem vecB_of {js : List Job} {es : List Int} (h : vecB js es = true) : es.length = js.length ∧ EOk es := by
  rw [vecB, Bool.and_eq_true, beq_iff_eq] at h
  refine ⟨by omega, fun k => ?_⟩
  by_cases hk : k < es.length
  · have := List.all_eq_true.1 h.2 _ (List.mem_of_getElem? (gE_get hk))
    simpa [inB] using this
  · unfold gE
    rw [List.getElem?_eq_none (by omega)]
    simp
section
variable {h : Hp} {vj v ve vs u : Value} {js : List Job} {xs ys es s : List Int}
theorem allWithin_run (X : Ints h v xs) (hl : xs.length ≤ 2 ^ 40) : Ret P G n_impl_allWithin [v, .int .i64 0, .int .i64 2000] h (.bool (vinB xs)) h := by
  refine enter_run e_impl_allWithin (by simp) ?_
  have Xs := X
  obtain ⟨ox, cx, rfl⟩ := X.shapeT
  simp -implicitDefEqProofs
  refine R_loopO (fun m s h' => ∃ (i : Nat), i + m = xs.length ∧ s = [(1, .int .i64 0), (2, .int .i64 2000), (9, .slice ox xs.length cx), (10, .int .i64 xs.length), (11, .int .i64 i)] ∧ vinB xs = vinB (xs.drop i) ∧ h' = h) (fun I hI m s h' => ?_) (n := xs.length) ⟨0, Nat.zero_add _, by simp, rfl, rfl⟩
  rintro ⟨i, hi, rfl, hx, rfl⟩
  by_cases hlt : i < xs.length
  · obtain ⟨y, hy, hd⟩ := drop_at hlt
    have e1 : vinB (y :: xs.drop (i + 1)) = (inB y 0 2000 && vinB (xs.drop (i + 1))) := rfl
    rw [hd, e1] at hx
    cases c : inB y 0 2000
    · rw [c, Bool.false_and] at hx
      simp -implicitDefEqProofs [-indexAddrP_some, hlt, load_I Xs hy, CL_ret within_run, c, hx]
    · rw [c, Bool.true_and] at hx
      simp -implicitDefEqProofs [-indexAddrP_some, hlt, load_I Xs hy, CL_ret within_run, c, winc hlt (by omega)]
      exact ⟨m - 1, by omega, on hI ⟨i + 1, by omega, rfl, hx, rfl⟩⟩
  · rw [List.drop_eq_nil_of_le (by omega)] at hx
    have hx : vinB xs = true := hx
    simp -implicitDefEqProofs [hlt, hx]
theorem isVector_run (J : Jobs h vj js) (E : Ints h ve es) (hl : es.length ≤ 2 ^ 40) : Ret P G n_impl_isVector [vj, ve] h (.bool (vecB js es)) h := by
  refine enter_run e_impl_isVector (by simp) ?_
  have r := allWithin_run E hl
  obtain ⟨oj, cj, rfl⟩ := J.shapeT
  obtain ⟨oe, ce, rfl⟩ := E.shapeT
  unfold vecB
  cases c : ((es.length : Int) == (js.length : Int))
  · simp -implicitDefEqProofs [c]
  · simp -implicitDefEqProofs [c, CL_ret r]
theorem l10Vector_run (J : Jobs h vj js) (E : Ints h ve es) (hl : es.length ≤ 2 ^ 40) : Ret P G n_spec_l10Vector [vj, ve] h (.bool (vecB js es)) h := by
  refine enter_run e_spec_l10Vector (by simp) ?_
  have Es := E
  obtain ⟨oj, cj, rfl⟩ := J.shapeT
  obtain ⟨oe, ce, rfl⟩ := E.shapeT
  simp -implicitDefEqProofs
  refine R_loopO (fun m s h' => ∃ (i : Nat), i + m = es.length ∧ s = [(0, .slice oj js.length cj), (1, .slice oe es.length ce), (5, .int .i64 i)] ∧ vinB es = vinB (es.drop i) ∧ h' = h) (fun I hI m s h' => ?_) (n := es.length) ⟨0, Nat.zero_add _, by simp, rfl, rfl⟩
  rintro ⟨i, hi, rfl, hx, rfl⟩
  by_cases hlt : i < es.length
  · obtain ⟨y, hy, hd⟩ := drop_at hlt
    have e1 : vinB (y :: es.drop (i + 1)) = (inB y 0 2000 && vinB (es.drop (i + 1))) := rfl
    rw [hd, e1] at hx
    have hlt' : (i : Int) < es.length := by omega
    cases c : inB y 0 2000
    · rw [c, Bool.false_and] at hx
      simp -implicitDefEqProofs [-indexAddrP_some, hlt, hlt', load_I Es hy, CL_ret l1In_run, c, vecB, hx]
    · rw [c, Bool.true_and] at hx
      simp -implicitDefEqProofs [-indexAddrP_some, hlt, hlt', load_I Es hy, CL_ret l1In_run, c, winc hlt (by omega)]
      exact ⟨m - 1, by omega, on hI ⟨i + 1, by omega, rfl, hx, rfl⟩⟩
  · rw [List.drop_eq_nil_of_le (by omega)] at hx
    have hx : vinB es = true := hx
    have hlt' : ¬ (i : Int) < es.length := by omega
    simp -implicitDefEqProofs [hlt, hlt', vecB, hx]
/-! ### short sets -/
def firstS (es : List Int) (k : Nat) : List Int := ascL ((beL es).take k)
def shortB (js : List Job) (es : List Int) (k : Nat) : Bool := decide (supL js es (firstS es k) < demL js (firstS es k))
def shF (js : List Job) (es : List Int) (l : List Nat) : Option (List Int) := l.findSome? fun k => if shortB js es k = true then some (firstS es k) else none
theorem firstS_perm {es : List Int} {k : Nat} : (firstS es k).Perm ((beL es).take k) := sortB_perm
theorem firstS_in {es : List Int} {k : Nat} : inN es.length (firstS es k) := fun x hx => beL_ord.inn x (List.mem_of_mem_take (firstS_perm.mem_iff.1 hx))
theorem firstS_len {es : List Int} {k : Nat} (hk : k ≤ es.length) : (firstS es k).length = k := by
  rw [firstS_perm.length_eq, List.length_take, beL_ord.len]; omega
theorem shortSet_run (J : Jobs h vj js) (E : Ints h ve es) (hg : goodL js = true) (hn : js.length ≤ 8) (eo : EOk es) (hel : es.length = js.length) : RunsC P G n_impl_shortSet [vj, ve] h fun w h' => h <+: h' ∧ ∃ d, w = .tuple #[d, .bool (shF js es (List.range' 1 es.length)).isSome] ∧ Ints h' d ((shF js es (List.range' 1 es.length)).getD []) := by
  refine hideC fun K hK => enter_run e_impl_shortSet (by simp) ?_
  have Js := J
  have Es := E
  obtain ⟨oj, cj, rfl⟩ := J.shapeT
  obtain ⟨oe, ce, rfl⟩ := E.shapeT
  have N0 : ∀ {h : Hp}, Ints h (.slice none 0 0) ([] : List Int) := fun {h} => ⟨by simp, none, 0, rfl, .inl ⟨rfl, rfl, rfl⟩⟩
  generalize hX : shF js es (List.range' 1 es.length) = X at hK
  simp -implicitDefEqProofs
  refine CL_post (byEnds_run Es (by omega)) fun w h1 ⟨hp1, ho1⟩ => ?_
  have S1 := ho1.sees
  have S1s := S1
  obtain ⟨ob, cb, e⟩ := S1.shapeT
  have bl := (beL_ord (es := es)).len
  rw [bl] at e
  subst e
  simp -implicitDefEqProofs
  refine R_loopO (fun m s h' => ∃ (i : Nat), i + m = es.length ∧ s = [(0, .slice oj js.length cj), (1, .slice oe es.length ce), (6, .slice ob es.length cb), (12, .int .i64 es.length), (13, .int .i64 i)] ∧ X = shF js es (List.range' (i + 1) m) ∧ h1 <+: h') (fun I hI m s h' => ?_) (n := es.length) ⟨0, Nat.zero_add _, by simp, hX.symm, List.prefix_rfl⟩
  rintro ⟨i, hi, rfl, hx, hp⟩
  by_cases hlt : i < es.length
  · obtain ⟨m', rfl⟩ : ∃ m', m = m' + 1 := ⟨m - 1, by omega⟩
    obtain ⟨v3, s3, f3⟩ := (S1s.pre hp).front (P := P) u_S_int i_int (k := .i64) (j := ((i + 1 : Nat) : Int)) (by omega) (by simp [bl]; omega)
    rw [Int.toNat_natCast, ← List.map_take] at f3
    have fs := f3
    obtain ⟨fa, fc, rfl⟩ := f3.shapeT
    have wi : IntKind.i64.wrap ((i : Int) + 1) = ((i + 1 : Nat) : Int) := by rw [wrap_ok] <;> omega
    have tl : ((beL es).take (i + 1)).length = i + 1 := by rw [List.length_take, bl]; omega
    rw [tl] at fs s3
    simp -implicitDefEqProofs [hlt, wi, s3]
    simp only [Int.natCast_add, Int.cast_ofNat_Int] at s3
    simp -implicitDefEqProofs [s3]
    refine CL_post (ascending_run fs (by rw [tl]; omega)) fun w2 h2 ⟨hp2, ho2⟩ => ?_
    have S2 : Ints h2 w2 (firstS es (i + 1)) := ho2.sees
    have hp12 := hp.trans hp2
    have J2 := Js.pre (hp1.trans hp12)
    have E2 := Es.pre (hp1.trans hp12)
    have fin : inN js.length (firstS es (i + 1)) := fun x hx => by have := firstS_in x hx; omega
    have fl := firstS_len (es := es) (k := i + 1) (by omega)
    have r1 := supplyOf_run J2 E2 S2 hg eo fin hel (by omega)
    have r2 := demandOf_run J2 S2 hg fin (by omega)
    have S2s := S2
    obtain ⟨oa, ca, rfl⟩ := S2.shapeT
    rw [List.range'_succ, shF, List.findSome?_cons] at hx
    by_cases c : supL js es (firstS es (i + 1)) < demL js (firstS es (i + 1))
    · have cb : shortB js es (i + 1) = true := by simp [shortB, c]
      rw [cb, if_pos rfl] at hx
      have hx : X = some (firstS es (i + 1)) := hx
      rw [hx] at hK
      simp -implicitDefEqProofs [CL_ret r1, CL_ret r2, c]
      exact onK hK ⟨pre_gcU (hp1.trans hp12), _, rfl, Sees.gcU S2s fun g => plainT (r := [_]) g⟩
    · have cb : shortB js es (i + 1) = false := by simp [shortB, c]
      rw [cb, if_neg (show ¬ (false = true) by simp)] at hx
      have hx : X = shF js es (List.range' (i + 1 + 1) m') := hx
      simp -implicitDefEqProofs [CL_ret r1, CL_ret r2, c, winc hlt (by omega)]
      exact ⟨m', by omega, on hI ⟨i + 1, by omega, rfl, hx, hp12⟩⟩
  · have : m = 0 := by omega
    subst this
    have hx : X = none := hx
    rw [hx] at hK
    simp -implicitDefEqProofs [hlt]
    exact onK hK ⟨pre_gcU (hp1.trans hp), _, rfl, N0⟩
theorem l10Short_run (J : Jobs h vj js) (E : Ints h ve es) (hg : goodL js = true) (hn : js.length ≤ 8) (eo : EOk es) (hel : es.length = js.length) : RunsC P G n_spec_l10Short [vj, ve] h fun w h' => h <+: h' ∧ Ints h' w ((shF js es (List.range' 1 es.length)).getD []) := by
  refine hideC fun K hK => enter_run e_spec_l10Short (by simp) ?_
  have Js := J
  have Es := E
  obtain ⟨oj, cj, rfl⟩ := J.shapeT
  obtain ⟨oe, ce, rfl⟩ := E.shapeT
  have N0 : ∀ {h : Hp}, Ints h (.slice none 0 0) ([] : List Int) := fun {h} => ⟨by simp, none, 0, rfl, .inl ⟨rfl, rfl, rfl⟩⟩
  generalize hX : shF js es (List.range' 1 es.length) = X at hK
  simp -implicitDefEqProofs
  refine CL_post (l10Sorted_run Es (by omega)) fun w h1 ⟨hp1, ho1⟩ => ?_
  have S1 := ho1.sees
  have S1s := S1
  obtain ⟨ob, cb, e⟩ := S1.shapeT
  have bl := (beL_ord (es := es)).len
  rw [bl] at e
  subst e
  simp -implicitDefEqProofs
  refine R_loopO (fun m s h' => ∃ (i : Nat), i + m = es.length ∧ s = [(0, .slice oj js.length cj), (1, .slice oe es.length ce), (5, .slice ob es.length cb), (6, .int .i64 ((i + 1 : Nat) : Int))] ∧ X = shF js es (List.range' (i + 1) m) ∧ h1 <+: h') (fun I hI m s h' => ?_) (n := es.length) ⟨0, Nat.zero_add _, by simp, hX.symm, List.prefix_rfl⟩
  rintro ⟨i, hi, rfl, hx, hp⟩
  by_cases hlt : i < es.length
  · obtain ⟨m', rfl⟩ : ∃ m', m = m' + 1 := ⟨m - 1, by omega⟩
    obtain ⟨v3, s3, f3⟩ := (S1s.pre hp).front (P := P) u_S_int i_int (k := .i64) (j := ((i + 1 : Nat) : Int)) (by omega) (by simp [bl]; omega)
    rw [Int.toNat_natCast, ← List.map_take] at f3
    have fs := f3
    obtain ⟨fa, fc, rfl⟩ := f3.shapeT
    have wi : IntKind.i64.wrap ((i : Int) + 1 + 1) = (i : Int) + 1 + 1 := by rw [wrap_ok] <;> omega
    have hlt' : (i : Int) + 1 ≤ es.length := by omega
    have tl : ((beL es).take (i + 1)).length = i + 1 := by rw [List.length_take, bl]; omega
    rw [tl] at fs s3
    simp only [Int.natCast_add, Int.cast_ofNat_Int] at s3
    simp -implicitDefEqProofs [hlt, hlt', s3]
    refine CL_post (l6Ascending_run fs (by rw [tl]; omega) ((beL_ord (es := es)).nd.sublist (List.take_sublist ..))) fun w2 h2 ⟨hp2, S2⟩ => ?_
    have S2 : Ints h2 w2 (firstS es (i + 1)) := S2
    have hp12 := hp.trans hp2
    have J2 := Js.pre (hp1.trans hp12)
    have E2 := Es.pre (hp1.trans hp12)
    have fin : inN js.length (firstS es (i + 1)) := fun x hx => by have := firstS_in x hx; omega
    have fl := firstS_len (es := es) (k := i + 1) (by omega)
    have r1 := l10Supply_run J2 E2 S2 hg eo fin hel (by omega)
    have r2 := l10Demand_run J2 S2 hg fin (by omega)
    have S2s := S2
    obtain ⟨oa, ca, rfl⟩ := S2.shapeT
    rw [List.range'_succ, shF, List.findSome?_cons] at hx
    by_cases c : supL js es (firstS es (i + 1)) < demL js (firstS es (i + 1))
    · have cb : shortB js es (i + 1) = true := by simp [shortB, c]
      rw [cb, if_pos rfl] at hx
      have hx : X = some (firstS es (i + 1)) := hx
      rw [hx] at hK
      simp -implicitDefEqProofs [CL_ret r1, CL_ret r2, c]
      exact onK hK ⟨pre_gcU (hp1.trans hp12), Sees.gcU S2s fun g => g⟩
    · have cb : shortB js es (i + 1) = false := by simp [shortB, c]
      rw [cb, if_neg (show ¬ (false = true) by simp)] at hx
      have hx : X = shF js es (List.range' (i + 1 + 1) m') := hx
      simp -implicitDefEqProofs [CL_ret r1, CL_ret r2, c, wi]
      exact ⟨m', by omega, on hI ⟨i + 1, by omega, by simp, hx, hp12⟩⟩
  · have : m = 0 := by omega
    subst this
    have hx : X = none := hx
    have hlt' : ¬ (i : Int) + 1 ≤ es.length := by omega
    rw [hx] at hK
    simp -implicitDefEqProofs [hlt, hlt']
    exact onK hK ⟨pre_gcU (hp1.trans hp), N0⟩
end
end Go.Pm.PP

/- Vectors of ends: what both export. -/
set_option linter.unusedVariables false
set_option linter.unusedSimpArgs false
set_option maxRecDepth 4000
set_option maxHeartbeats 16000000
namespace Go.Pm.PP
open Go.Pm Go.Proofs Go.Pm.PE
def shV (js : List Job) (es : List Int) : Option (List Int) := shF js es (List.range' 1 es.length)
def veOk (js : List Job) (es : List Int) : Bool := plOk js && vecB js es
def shX (js : List Job) (es : List Int) : Option (List Int) := if veOk js es = true then shV js es else none
def balB (js : List Job) (es : List Int) : Bool := veOk js es && (!(shV js es).isSome && (supL js es (upTo js.length) == demL js (upTo js.length)))
def ordB (js : List Job) (es : List Int) : Bool := veOk js es && (endsL js (beL es) == es)
theorem shF_pos {js : List Job} {es : List Int} : ∀ {l : List Nat}, (∀ k, k ∈ l → 1 ≤ k ∧ k ≤ es.length) → ∀ {s : List Int}, shF js es l = some s → ∃ k, k ∈ l ∧ s = firstS es k ∧ shortB js es k = true
  | [], _, s, h => by cases h
  | k :: l, hl, s, h => by
    rw [shF, List.findSome?_cons] at h
    cases c : shortB js es k
    · rw [c, if_neg (show ¬ (false = true) by simp)] at h
      obtain ⟨k', h1, h2⟩ := shF_pos (l := l) (fun q hq => hl q (List.mem_cons_of_mem _ hq)) h
      exact ⟨k', List.mem_cons_of_mem _ h1, h2⟩
    · rw [c, if_pos rfl] at h
      cases h
      exact ⟨k, List.mem_cons_self .., rfl, c⟩
theorem shF_none {js : List Job} {es : List Int} : ∀ {l : List Nat}, shF js es l = none → ∀ k, k ∈ l → shortB js es k = false
  | [], _, k, hk => by cases hk
  | k :: l, h, q, hq => by
    rw [shF, List.findSome?_cons] at h
    cases c : shortB js es k
    · rw [c, if_neg (show ¬ (false = true) by simp)] at h
      rcases List.mem_cons.1 hq with rfl | hq
      · exact c
      · exact shF_none (l := l) h q hq
    · rw [c, if_pos rfl] at h; cases h
theorem shV_some {js : List Job} {es s : List Int} (h : shV js es = some s) : ∃ k, (1 ≤ k ∧ k ≤ es.length) ∧ s = firstS es k ∧ shortB js es k = true := by
  obtain ⟨k, h1, h2⟩ := shF_pos (fun k hk => by have := List.mem_range'_1.1 hk; omega) h
  exact ⟨k, by have := List.mem_range'_1.1 h1; omega, h2⟩
theorem shV_none {js : List Job} {es : List Int} (h : shV js es = none) {k : Nat} (h1 : 1 ≤ k) (h2 : k ≤ es.length) : shortB js es k = false := shF_none h k (List.mem_range'_1.2 (by omega))
section
variable {h : Hp} {vj v ve vs u : Value} {js : List Job} {xs ys es s : List Int}
theorem veOk_of (h : veOk js es = true) : plOk js = true ∧ (js.length ≤ 8 ∧ goodL js = true) ∧ es.length = js.length ∧ EOk es := by
  rw [veOk, Bool.and_eq_true] at h
  obtain ⟨h1, h2⟩ := vecB_of h.2
  obtain ⟨g1, g2, _⟩ := plOk_of h.1
  exact ⟨h.1, ⟨g1, g2⟩, h1, h2⟩
theorem nil_I : Ints h (.slice none 0 0) ([] : List Int) := ⟨by simp, none, 0, rfl, .inl ⟨rfl, rfl, rfl⟩⟩
theorem implShortSet_run (J : Jobs h vj js) (E : Ints h ve es) (hl : js.length ≤ 2 ^ 40) (hel : es.length ≤ 2 ^ 40) : RunsC P G n_impl_ShortSet [vj, ve] h fun w h' => h <+: h' ∧ ∃ d, w = .tuple #[d, .bool (shX js es).isSome] ∧ Ints h' d ((shX js es).getD []) := by
  refine hideC fun K hK => enter_run e_impl_ShortSet (by simp) ?_
  have Js := J
  have Es := E
  have r1 := IsPlain_run J hl
  have r2 := isVector_run J E hel
  obtain ⟨oj, cj, rfl⟩ := J.shapeT
  obtain ⟨oe, ce, rfl⟩ := E.shapeT
  cases c1 : plOk js
  · have e : shX js es = none := by rw [shX, veOk, c1]; rfl
    rw [e] at hK
    simp -implicitDefEqProofs [CL_ret r1, c1]
    exact onK hK ⟨List.prefix_rfl, _, rfl, nil_I⟩
  cases c2 : vecB js es
  · have e : shX js es = none := by rw [shX, veOk, c1, c2]; rfl
    rw [e] at hK
    simp -implicitDefEqProofs [CL_ret r1, c1, CL_ret r2, c2]
    exact onK hK ⟨List.prefix_rfl, _, rfl, nil_I⟩
  have hok : veOk js es = true := by rw [veOk, c1, c2]; rfl
  obtain ⟨_, ⟨hn, hg⟩, he, eo⟩ := veOk_of hok
  have e : shX js es = shV js es := by rw [shX, hok, if_pos rfl]
  rw [e] at hK
  simp -implicitDefEqProofs [CL_ret r1, c1, CL_ret r2, c2]
  refine CL_post (shortSet_run Js Es hg hn eo he) fun w h1 ⟨hp1, d, ev, D⟩ => ?_
  subst ev
  simp -implicitDefEqProofs
  exact onK hK ⟨pre_gcU hp1, _, rfl, Sees.gcU D fun g => plainT (r := [_]) g⟩
theorem specShortSet_run (J : Jobs h vj js) (E : Ints h ve es) (hl : js.length ≤ 2 ^ 40) (hel : es.length ≤ 2 ^ 40) : RunsC P G n_spec_ShortSet [vj, ve] h fun w h' => h <+: h' ∧ ∃ d, w = .tuple #[d, .bool (shX js es).isSome] ∧ Ints h' d ((shX js es).getD []) := by
  refine hideC fun K hK => enter_run e_spec_ShortSet (by simp) ?_
  have Js := J
  have Es := E
  have r1 := l6Good_run J hl
  have r2 := l10Vector_run J E hel
  obtain ⟨oj, cj, rfl⟩ := J.shapeT
  obtain ⟨oe, ce, rfl⟩ := E.shapeT
  cases c1 : plOk js
  · have e : shX js es = none := by rw [shX, veOk, c1]; rfl
    rw [e] at hK
    simp -implicitDefEqProofs [CL_ret r1, c1]
    exact onK hK ⟨List.prefix_rfl, _, rfl, nil_I⟩
  cases c2 : vecB js es
  · have e : shX js es = none := by rw [shX, veOk, c1, c2]; rfl
    rw [e] at hK
    simp -implicitDefEqProofs [CL_ret r1, c1, CL_ret r2, c2]
    exact onK hK ⟨List.prefix_rfl, _, rfl, nil_I⟩
  have hok : veOk js es = true := by rw [veOk, c1, c2]; rfl
  obtain ⟨_, ⟨hn, hg⟩, he, eo⟩ := veOk_of hok
  have e : shX js es = shV js es := by rw [shX, hok, if_pos rfl]
  rw [e] at hK
  have r3 := l10Short_run Js Es hg hn eo he
  have e3 : shF js es (List.range' 1 es.length) = shV js es := rfl
  rw [e3] at r3
  have hlen : decide ((0 : Int) < (((shV js es).getD []).length : Int)) = (shV js es).isSome := by
    cases hs : shV js es with
    | none => rfl
    | some s =>
      obtain ⟨k, hk, rfl, _⟩ := shV_some hs
      have := firstS_len (es := es) hk.2
      simp [this]; omega
  generalize shV js es = X at *
  simp -implicitDefEqProofs [CL_ret r1, c1, CL_ret r2, c2]
  refine CL_post r3 fun w h1 ⟨hp1, D⟩ => ?_
  have Ds := D
  obtain ⟨a, c, rfl⟩ := D.shapeT
  have hlen' : decide (0 < (X.getD []).length) = X.isSome := by rw [← hlen]; simp
  simp -implicitDefEqProofs [hlen, hlen']
  exact onK hK ⟨pre_gcU hp1, _, rfl, Sees.gcU Ds fun g => plainT (r := [_]) g⟩
theorem up_in {n : Nat} : inN n (upTo n) := fun x hx => mem_upTo.1 hx
theorem implIsBalanced_run (J : Jobs h vj js) (E : Ints h ve es) (hl : js.length ≤ 2 ^ 40) (hel : es.length ≤ 2 ^ 40) : Ret P G n_impl_IsBalanced [vj, ve] h (.tuple #[.bool (balB js es), .bool (veOk js es)]) h := by
  refine enter_run e_impl_IsBalanced (by simp) ?_
  have Js := J
  have Es := E
  have r1 := IsPlain_run J hl
  have r2 := isVector_run J E hel
  obtain ⟨oj, cj, rfl⟩ := J.shapeT
  obtain ⟨oe, ce, rfl⟩ := E.shapeT
  unfold balB
  cases c1 : plOk js
  · simp -implicitDefEqProofs [CL_ret r1, c1, veOk]
  cases c2 : vecB js es
  · simp -implicitDefEqProofs [CL_ret r1, c1, CL_ret r2, c2, veOk]
  have hok : veOk js es = true := by rw [veOk, c1, c2]; rfl
  obtain ⟨_, ⟨hn, hg⟩, he, eo⟩ := veOk_of hok
  rw [hok, Bool.true_and]
  simp -implicitDefEqProofs [CL_ret r1, c1, CL_ret r2, c2]
  refine CL_post (numbersTo_run (n := js.length) (by omega)) fun w0 h0 ⟨hp0, ho0⟩ => ?_
  have U := ho0.sees
  have Us : Ints h0 w0 (upTo js.length) := U
  obtain ⟨oa, ca, e⟩ := U.shapeT
  rw [upTo_len] at e
  subst e
  simp -implicitDefEqProofs
  refine CL_post (shortSet_run (Js.pre hp0) (Es.pre hp0) hg hn eo he) fun w h1 ⟨hp1, d, ev, D⟩ => ?_
  subst ev
  have e3 : shF js es (List.range' 1 es.length) = shV js es := rfl
  have p01 := hp0.trans hp1
  have r3 := supplyOf_run (Js.pre p01) (Es.pre p01) (Us.pre hp1) hg eo up_in he (by rw [upTo_len]; omega)
  have r4 := demandOf_run (Js.pre p01) (Us.pre hp1) hg up_in (by rw [upTo_len]; omega)
  rw [e3]
  generalize shV js es = X at *
  cases X with
  | none =>
    simp -implicitDefEqProofs [CL_ret r3, CL_ret r4]
    exact gcP p01 rfl
  | some s =>
    simp -implicitDefEqProofs
    exact gcP p01 rfl
theorem specIsBalanced_run (J : Jobs h vj js) (E : Ints h ve es) (hl : js.length ≤ 2 ^ 40) (hel : es.length ≤ 2 ^ 40) : Ret P G n_spec_IsBalanced [vj, ve] h (.tuple #[.bool (balB js es), .bool (veOk js es)]) h := by
  refine enter_run e_spec_IsBalanced (by simp) ?_
  have Js := J
  have Es := E
  have r1 := l6Good_run J hl
  have r2 := l10Vector_run J E hel
  obtain ⟨oj, cj, rfl⟩ := J.shapeT
  obtain ⟨oe, ce, rfl⟩ := E.shapeT
  unfold balB
  cases c1 : plOk js
  · simp -implicitDefEqProofs [CL_ret r1, c1, veOk]
  cases c2 : vecB js es
  · simp -implicitDefEqProofs [CL_ret r1, c1, CL_ret r2, c2, veOk]
  have hok : veOk js es = true := by rw [veOk, c1, c2]; rfl
  obtain ⟨_, ⟨hn, hg⟩, he, eo⟩ := veOk_of hok
  rw [hok, Bool.true_and]
  simp -implicitDefEqProofs [CL_ret r1, c1, CL_ret r2, c2]
  refine CL_post (l6All_run Js (by omega)) fun w0 h0 ⟨hp0, ho0⟩ => ?_
  have U := ho0.sees
  have Us : Ints h0 w0 (upTo js.length) := U
  obtain ⟨oa, ca, e⟩ := U.shapeT
  rw [upTo_len] at e
  subst e
  have rS := l10Short_run (Js.pre hp0) (Es.pre hp0) hg hn eo he
  have e3 : shF js es (List.range' 1 es.length) = shV js es := rfl
  rw [e3] at rS
  have hlen : ((((shV js es).getD []).length : Int) == 0) = !(shV js es).isSome := by
    cases hs : shV js es with
    | none => rfl
    | some s =>
      obtain ⟨k, hk, rfl, _⟩ := shV_some hs
      have := firstS_len (es := es) hk.2
      simp [this]; omega
  have r5 := fun {h1 : Hp} (p : h <+: h1) (q : h0 <+: h1) => supplyOf_run (Js.pre p) (Es.pre p) (Us.pre q) hg eo up_in he (by rw [upTo_len]; omega)
  generalize shV js es = X at *
  simp -implicitDefEqProofs
  refine CL_post rS fun w h1 ⟨hp1, D⟩ => ?_
  clear rS
  have p01 := hp0.trans hp1
  have r3 := l10Supply_run (Js.pre p01) (Es.pre p01) (Us.pre hp1) hg eo up_in he (by rw [upTo_len]; omega)
  have r4 := l10Demand_run (Js.pre p01) (Us.pre hp1) hg up_in (by rw [upTo_len]; omega)
  obtain ⟨a, c, rfl⟩ := D.shapeT
  cases X with
  | none =>
    simp -implicitDefEqProofs [CL_ret r3, CL_ret r4]
    exact gcP p01 rfl
  | some s =>
    have hlen : ((s.length : Int) == 0) = false := hlen
    simp -implicitDefEqProofs [hlen]
    exact gcP p01 rfl
theorem compareLists_run (X : Ints h v xs) (Y : Ints h u ys) (hl : xs.length = ys.length) (hb : ys.length ≤ 2 ^ 40) (bx : ∀ e, e ∈ xs → 0 ≤ e ∧ e ≤ 2 ^ 20) (byy : ∀ e, e ∈ ys → 0 ≤ e ∧ e ≤ 2 ^ 20) : ∃ r : Int, (r == 0) = (xs == ys) ∧ Ret P G n_impl_compareLists [v, u] h (.int .i64 r) h := by
  have Xs := X
  have Ys := Y
  obtain ⟨ox, cx, rfl⟩ := X.shapeT
  obtain ⟨oy, cy, rfl⟩ := Y.shapeT
  let P' : Int → Prop := fun r => (r == 0) = (xs == ys)
  have main : RunsC P G n_impl_compareLists [.slice ox xs.length cx, .slice oy ys.length cy] h fun w h' => h' = h ∧ ∃ r : Int, w = .int .i64 r ∧ (r == 0) = (xs == ys) := by
    refine hideC fun K hK => enter_run e_impl_compareLists (by simp) ?_
    simp -implicitDefEqProofs
    refine R_loopO (fun m s h' => ∃ (i : Nat), i + m = ys.length ∧ s = [(0, .slice ox xs.length cx), (1, .slice oy ys.length cy), (5, .int .i64 i)] ∧ (xs == ys) = (xs.drop i == ys.drop i) ∧ h' = h) (fun I hI m s h' => ?_) (n := ys.length) ⟨0, Nat.zero_add _, by simp, rfl, rfl⟩
    rintro ⟨i, hi, rfl, hx, rfl⟩
    by_cases hlt : i < ys.length
    · have hlx : i < xs.length := by omega
      have hlt' : (i : Int) < ys.length := by omega
      have hlx' : (i : Int) < xs.length := by omega
      obtain ⟨a, ha, hda⟩ := drop_at hlx
      obtain ⟨b, hb', hdb⟩ := drop_at hlt
      have ea := bx a (List.mem_of_getElem? ha)
      have eb := byy b (List.mem_of_getElem? hb')
      rw [hda, hdb] at hx
      by_cases c : a = b
      · subst c
        have hx : (xs == ys) = (xs.drop (i + 1) == ys.drop (i + 1)) := by rw [hx]; simp
        simp -implicitDefEqProofs [-indexAddrP_some, hlt, hlx, hlt', hlx', load_I Xs ha, load_I Ys hb', winc hlt (by omega)]
        exact ⟨m - 1, by omega, on hI ⟨i + 1, by omega, rfl, hx, rfl⟩⟩
      · have hx : (xs == ys) = false := by rw [hx]; simp [c]
        have w : IntKind.i64.wrap (a - b) = a - b := by rw [wrap_ok] <;> omega
        simp -implicitDefEqProofs [-indexAddrP_some, hlt, hlx, hlt', hlx', load_I Xs ha, load_I Ys hb', nb c, nt c, w]
        exact onK hK ⟨rfl, a - b, rfl, by rw [hx]; exact nb (by omega)⟩
    · have hlx : ¬ i < xs.length := by omega
      have hlt' : ¬ (i : Int) < ys.length := by omega
      have hlx' : ¬ (i : Int) < xs.length := by omega
      rw [List.drop_eq_nil_of_le (by omega), List.drop_eq_nil_of_le (by omega)] at hx
      have hx : (xs == ys) = true := hx
      have w : IntKind.i64.wrap ((xs.length : Int) - ys.length) = 0 := by rw [hl, wrap_ok] <;> omega
      simp -implicitDefEqProofs [hlt, hlx, hlt', hlx', w]
      exact onK hK ⟨rfl, 0, rfl, by rw [hx]; rfl⟩
  obtain ⟨f, w, h', e, rfl, r, rfl, hr⟩ := main
  exact ⟨r, hr, f, _, _, e, rfl, rfl⟩
theorem l1Same_run (X : Ints h v xs) (Y : Ints h u ys) (hl : xs.length = ys.length) (hb : ys.length ≤ 2 ^ 40) : Ret P G n_spec_l1Same [v, u] h (.bool (xs == ys)) h := by
  refine enter_run e_spec_l1Same (by simp) ?_
  have Xs := X
  have Ys := Y
  obtain ⟨ox, cx, rfl⟩ := X.shapeT
  obtain ⟨oy, cy, rfl⟩ := Y.shapeT
  simp -implicitDefEqProofs [hl]
  refine R_loopO (fun m s h' => ∃ (i : Nat), i + m = ys.length ∧ s = [(0, .slice ox ys.length cx), (1, .slice oy ys.length cy), (5, .int .i64 i)] ∧ (xs == ys) = (xs.drop i == ys.drop i) ∧ h' = h) (fun I hI m s h' => ?_) (n := ys.length) ⟨0, Nat.zero_add _, by simp [hl], rfl, rfl⟩
  rintro ⟨i, hi, rfl, hx, rfl⟩
  rw [hl] at Xs
  by_cases hlt : i < ys.length
  · have hlx : i < xs.length := by omega
    have hlt' : (i : Int) < ys.length := by omega
    obtain ⟨a, ha, hda⟩ := drop_at hlx
    obtain ⟨b, hb', hdb⟩ := drop_at hlt
    rw [hda, hdb] at hx
    by_cases c : a = b
    · subst c
      have hx : (xs == ys) = (xs.drop (i + 1) == ys.drop (i + 1)) := by rw [hx]; simp
      simp -implicitDefEqProofs [-indexAddrP_some, hlt, hlt', load_I Xs ha, load_I Ys hb', winc hlt (by omega)]
      exact ⟨m - 1, by omega, on hI ⟨i + 1, by omega, rfl, hx, rfl⟩⟩
    · have hx : (xs == ys) = false := by rw [hx]; simp [c]
      simp -implicitDefEqProofs [-indexAddrP_some, hlt, hlt', load_I Xs ha, load_I Ys hb', nb c, nt c]
      simpa using hx
  · have hlt' : ¬ (i : Int) < ys.length := by omega
    rw [List.drop_eq_nil_of_le (by omega), List.drop_eq_nil_of_le (by omega)] at hx
    have hx : (xs == ys) = true := hx
    simp -implicitDefEqProofs [hlt, hlt']
    simpa using hx
end
end Go.Pm.PP

/- Vectors of orders, demands and supplies of sets, mixtures. -/
set_option linter.unusedVariables false
set_option linter.unusedSimpArgs false
set_option maxRecDepth 4000
set_option maxHeartbeats 16000000
namespace Go.Pm.PP
open Go.Pm Go.Proofs Go.Pm.PE
section
variable {h : Hp} {vj v ve vs u va vb : Value} {js : List Job} {xs ys es s a b : List Int} {x y : Int}
theorem implIsOrderVector_run (J : Jobs h vj js) (E : Ints h ve es) (hl : js.length ≤ 2 ^ 40) (hel : es.length ≤ 2 ^ 40) : Ret P G n_impl_IsOrderVector [vj, ve] h (.tuple #[.bool (ordB js es), .bool (veOk js es)]) h := by
  refine enter_run e_impl_IsOrderVector (by simp) ?_
  have Js := J
  have Es := E
  have r1 := IsPlain_run J hl
  have r2 := isVector_run J E hel
  obtain ⟨oj, cj, rfl⟩ := J.shapeT
  obtain ⟨oe, ce, rfl⟩ := E.shapeT
  unfold ordB
  cases c1 : plOk js
  · simp -implicitDefEqProofs [CL_ret r1, c1, veOk]
  cases c2 : vecB js es
  · simp -implicitDefEqProofs [CL_ret r1, c1, CL_ret r2, c2, veOk]
  have hok : veOk js es = true := by rw [veOk, c1, c2]; rfl
  obtain ⟨_, ⟨hn, hg⟩, he, eo⟩ := veOk_of hok
  rw [hok, Bool.true_and]
  have bo := beL_ord (es := es)
  simp -implicitDefEqProofs [CL_ret r1, c1, CL_ret r2, c2]
  refine CL_post (byEnds_run Es (by omega)) fun w1 h1 ⟨hp1, ho1⟩ => ?_
  have S1 : Ints h1 w1 (beL es) := ho1.sees
  have S1s := S1
  obtain ⟨ob, cb, rfl⟩ := S1.shapeT
  simp -implicitDefEqProofs
  refine CL_post (endsOf_run (Js.pre hp1) S1s hg hn (by rw [bo.len]; omega) (fun x hx => by have := bo.inn x hx; omega)) fun w2 h2 ⟨hp2, ho2, hb2⟩ => ?_
  have S2 : Ints h2 w2 (endsL js (beL es)) := ho2.sees
  have S2s := S2
  have hp := hp1.trans hp2
  obtain ⟨r, hr, rc⟩ := compareLists_run S2s (Es.pre hp) (by rw [endsL_len]; omega) (by omega) (fun e he => by have := hb2 e he; omega) (fun e he' => by
    obtain ⟨k, hk⟩ := List.getElem?_of_mem he'
    have h1 := eo k
    have h2 : gE es k = e := by unfold gE; rw [hk]; rfl
    omega)
  obtain ⟨oc, cc, rfl⟩ := S2.shapeT
  simp -implicitDefEqProofs [CL_ret rc, hr]
  exact gcP hp rfl
theorem specIsOrderVector_run (J : Jobs h vj js) (E : Ints h ve es) (hl : js.length ≤ 2 ^ 40) (hel : es.length ≤ 2 ^ 40) : Ret P G n_spec_IsOrderVector [vj, ve] h (.tuple #[.bool (ordB js es), .bool (veOk js es)]) h := by
  refine enter_run e_spec_IsOrderVector (by simp) ?_
  have Js := J
  have Es := E
  have r1 := l6Good_run J hl
  have r2 := l10Vector_run J E hel
  obtain ⟨oj, cj, rfl⟩ := J.shapeT
  obtain ⟨oe, ce, rfl⟩ := E.shapeT
  unfold ordB
  cases c1 : plOk js
  · simp -implicitDefEqProofs [CL_ret r1, c1, veOk]
  cases c2 : vecB js es
  · simp -implicitDefEqProofs [CL_ret r1, c1, CL_ret r2, c2, veOk]
  have hok : veOk js es = true := by rw [veOk, c1, c2]; rfl
  obtain ⟨_, ⟨hn, hg⟩, he, eo⟩ := veOk_of hok
  rw [hok, Bool.true_and]
  have bo := beL_ord (es := es)
  simp -implicitDefEqProofs [CL_ret r1, c1, CL_ret r2, c2]
  refine CL_post (l10Sorted_run Es (by omega)) fun w1 h1 ⟨hp1, ho1⟩ => ?_
  have S1 : Ints h1 w1 (beL es) := ho1.sees
  have S1s := S1
  obtain ⟨ob, cb, rfl⟩ := S1.shapeT
  simp -implicitDefEqProofs
  refine CL_post (l2Ends_run (Js.pre hp1) S1s hg hn (by rw [bo.len]; omega) (fun x hx => by have := bo.inn x hx; omega) bo.nd (fun i hi => bo.all (by omega))) fun w2 h2 ⟨hp2, ho2, hb2⟩ => ?_
  have S2 : Ints h2 w2 (endsL js (beL es)) := ho2.sees
  have hp := hp1.trans hp2
  have rc := l1Same_run S2 (Es.pre hp) (by rw [endsL_len]; omega) (by omega)
  obtain ⟨oc, cc, rfl⟩ := S2.shapeT
  simp -implicitDefEqProofs [CL_ret rc]
  exact gcP hp rfl
/-! ### sets -/
theorem isRising_run (S : Ints h v s) (hs : s.Pairwise (· < ·)) (hl : s.length ≤ 2 ^ 40) : Ret P G n_impl_isRising [v] h (.bool true) h := by
  refine enter_run e_impl_isRising (by simp) ?_
  have Ss := S
  obtain ⟨oa, ca, rfl⟩ := S.shapeT
  simp -implicitDefEqProofs
  refine R_loopO (fun m st h' => ∃ (i : Nat), i + m = s.length + 1 ∧ 1 ≤ i ∧ st = [(0, .slice oa s.length ca), (3, .int .i64 i)] ∧ h' = h) (fun I hI m st h' => ?_) (n := s.length) ⟨1, by omega, by omega, by simp, rfl⟩
  rintro ⟨i, hi, hi1, rfl, rfl⟩
  by_cases hlt : i < s.length
  · obtain ⟨p, hp, _⟩ := drop_at (show i - 1 < s.length by omega)
    obtain ⟨q, hq, _⟩ := drop_at hlt
    have lt := List.pairwise_iff_getElem.1 hs (i - 1) i (by omega) hlt (by omega)
    rw [(List.getElem?_eq_some_iff.1 hp).2, (List.getElem?_eq_some_iff.1 hq).2] at lt
    have wi : IntKind.i64.wrap ((i : Int) - 1) = ((i - 1 : Nat) : Int) := by rw [wrap_ok] <;> omega
    have ng : ¬ q ≤ p := by omega
    have hlt' : (i : Int) < s.length := by omega
    simp -implicitDefEqProofs [-indexAddrP_some, hlt, hlt', wi, load_I Ss hp, load_I Ss hq, ng, winc hlt (by omega)]
    exact ⟨m - 1, by omega, on hI ⟨i + 1, by omega, by omega, rfl, rfl⟩⟩
  · have hlt' : ¬ (i : Int) < s.length := by omega
    simp -implicitDefEqProofs [hlt, hlt']
theorem isSet_good {n : Nat} (S : Ints h v s) (hs : s.Pairwise (· < ·)) (hin : inN n s) (hn : n ≤ 2 ^ 40) (hl : s.length ≤ 2 ^ 40) : Ret P G n_impl_isSet [.int .i64 n, v] h (.bool true) h := by
  refine enter_run e_impl_isSet (by simp) ?_
  have r1 := isRising_run S hs hl
  have r2 := areDifferent_run (n := (n : Int)) S hl
  have wn : w64 ((n : Int) - 1) = (n : Int) - 1 := by unfold w64; rw [wrap_ok] <;> omega
  have e : arGo n [] s = true := (arGo_iff wn).2 ⟨hin, hs.imp fun g => by omega, by simp⟩
  rw [e] at r2
  obtain ⟨oa, ca, rfl⟩ := S.shapeT
  simp -implicitDefEqProofs [CL_ret r1, CL_ret r2]
theorem l1Rising_good {n : Nat} (S : Ints h v s) (hs : s.Pairwise (· < ·)) (hin : inN n s) (hl : s.length ≤ 2 ^ 40) : Ret P G n_spec_l1Rising [v, .int .i64 0, .int .i64 ((n : Int) - 1)] h (.bool true) h := by
  refine enter_run e_spec_l1Rising (by simp) ?_
  have Ss := S
  obtain ⟨oa, ca, rfl⟩ := S.shapeT
  simp -implicitDefEqProofs
  refine R_loopO (fun m st h' => ∃ (i : Nat), i + m = s.length ∧ st = [(0, .slice oa s.length ca), (1, .int .i64 0), (2, .int .i64 ((n : Int) - 1)), (7, .int .i64 i)] ∧ h' = h) (fun I hI m st h' => ?_) (n := s.length) ⟨0, by omega, by simp, rfl⟩
  rintro ⟨i, hi, rfl, rfl⟩
  by_cases hlt : i < s.length
  · obtain ⟨q, hq, _⟩ := drop_at hlt
    have hq1 := hin q (List.mem_of_getElem? hq)
    have iq : inB q 0 ((n : Int) - 1) = true := by simp [inB]; omega
    have hlt' : (i : Int) < s.length := by omega
    rcases Nat.eq_zero_or_pos i with rfl | h0
    · have lq := load_I Ss hq
      simp only [show ((0 : Nat) : Int) = 0 from rfl] at lq
      simp -implicitDefEqProofs [-indexAddrP_some, hlt, hlt', lq, CL_ret l1In_run, CH_at l1In_run, iq]
      exact ⟨m - 1, by omega, on hI ⟨1, by omega, by simp; rfl, rfl⟩⟩
    · obtain ⟨p, hp, _⟩ := drop_at (show i - 1 < s.length by omega)
      have lt := List.pairwise_iff_getElem.1 hs (i - 1) i (by omega) hlt (by omega)
      rw [(List.getElem?_eq_some_iff.1 hp).2, (List.getElem?_eq_some_iff.1 hq).2] at lt
      have wi : IntKind.i64.wrap ((i : Int) - 1) = ((i - 1 : Nat) : Int) := by rw [wrap_ok] <;> omega
      have ng : ¬ q ≤ p := by omega
      have h0' : (0 : Int) < i := by omega
      simp -implicitDefEqProofs [-indexAddrP_some, hlt, hlt', h0, h0', wi, load_I Ss hp, load_I Ss hq, CL_ret l1In_run, CH_at l1In_run, iq, ng, winc hlt (by omega)]
      exact ⟨m - 1, by omega, on hI ⟨i + 1, by omega, rfl, rfl⟩⟩
  · have hlt' : ¬ (i : Int) < s.length := by omega
    simp -implicitDefEqProofs [hlt, hlt']
theorem implDemandOf_good (J : Jobs h vj js) (S : Ints h vs s) (hp : plOk js = true) (hs : s.Pairwise (· < ·)) (hin : inN js.length s) (hl : s.length ≤ 2 ^ 10) : Ret P G n_impl_DemandOf [vj, vs] h (.tuple #[.int .i64 (demL js s), .bool true]) h := by
  refine enter_run e_impl_DemandOf (by simp) ?_
  obtain ⟨hn, hg, _⟩ := plOk_of hp
  have r1 := IsPlain_run J (by omega)
  have r2 := isSet_good S hs hin (by omega) (by omega)
  have r3 := demandOf_run J S hg hin hl
  rw [hp] at r1
  obtain ⟨oj, cj, rfl⟩ := J.shapeT
  obtain ⟨oa, ca, rfl⟩ := S.shapeT
  simp -implicitDefEqProofs [CL_ret r1, CL_ret r2, CL_ret r3]
theorem specDemandOf_good (J : Jobs h vj js) (S : Ints h vs s) (hp : plOk js = true) (hs : s.Pairwise (· < ·)) (hin : inN js.length s) (hl : s.length ≤ 2 ^ 10) : Ret P G n_spec_DemandOf [vj, vs] h (.tuple #[.int .i64 (demL js s), .bool true]) h := by
  refine enter_run e_spec_DemandOf (by simp) ?_
  obtain ⟨hn, hg, _⟩ := plOk_of hp
  have Js := J
  have Ss := S
  have r1 := l6Good_run J (by omega)
  have rr := l1Rising_good (n := js.length) S hs hin (by omega)
  have r3 := l10Demand_run J S hg hin hl
  rw [hp] at r1
  obtain ⟨oj, cj, rfl⟩ := J.shapeT
  obtain ⟨oa, ca, rfl⟩ := S.shapeT
  have wn : IntKind.i64.wrap ((js.length : Int) - 1) = (js.length : Int) - 1 := by rw [wrap_ok] <;> omega
  have r2 : Ret P G n_spec_l6Set [.slice oj js.length cj, .slice oa s.length ca] h (.bool true) h := by
    refine enter_run e_spec_l6Set (by simp) ?_
    simp -implicitDefEqProofs [wn, CL_ret rr]
  simp -implicitDefEqProofs [CL_ret r1, CL_ret r2, CL_ret r3]
theorem implSupplyOf_good (J : Jobs h vj js) (E : Ints h ve es) (S : Ints h vs s) (hp : veOk js es = true) (hs : s.Pairwise (· < ·)) (hin : inN js.length s) (hl : s.length ≤ 2 ^ 10) : Ret P G n_impl_SupplyOf [vj, ve, vs] h (.tuple #[.int .i64 (supL js es s), .bool true]) h := by
  refine enter_run e_impl_SupplyOf (by simp) ?_
  obtain ⟨hpl, ⟨hn, hg⟩, he, eo⟩ := veOk_of hp
  have hv : vecB js es = true := by rw [veOk, Bool.and_eq_true] at hp; exact hp.2
  have r1 := IsPlain_run J (by omega)
  have r4 := isVector_run J E (by omega)
  have r2 := isSet_good S hs hin (by omega) (by omega)
  have r3 := supplyOf_run J E S hg eo hin he hl
  rw [hpl] at r1
  rw [hv] at r4
  obtain ⟨oj, cj, rfl⟩ := J.shapeT
  obtain ⟨oe, ce, rfl⟩ := E.shapeT
  obtain ⟨oa, ca, rfl⟩ := S.shapeT
  simp -implicitDefEqProofs [CL_ret r1, CL_ret r4, CL_ret r2, CL_ret r3]
end
end Go.Pm.PP

/- Mixtures of vectors. -/
set_option linter.unusedVariables false
set_option linter.unusedSimpArgs false
set_option maxRecDepth 4000
set_option maxHeartbeats 16000000
namespace Go.Pm.PP
open Go.Pm Go.Proofs Go.Pm.PE
def mvOk (js : List Job) (a b : List Int) (x y : Int) : Bool := plOk js && vecB js a && vecB js b && inB x 0 9 && inB y 0 9 && !(x + y == 0)
def mxN (a b : List Int) (x y : Int) (k : Nat) : Int := x * gE a k + y * gE b k
def mxL (a b : List Int) (x y : Int) (l : List Nat) : Option (List Int) := if l.all (fun k => mxN a b x y k % (x + y) == 0) = true then some (l.map fun k => mxN a b x y k / (x + y)) else none
def mxX (js : List Job) (a b : List Int) (x y : Int) : Option (List Int) := if mvOk js a b x y = true then mxL a b x y (List.range' 0 js.length) else none
theorem mvOk_of {js : List Job} {a b : List Int} {x y : Int} (h : mvOk js a b x y = true) : veOk js a = true ∧ veOk js b = true ∧ (0 ≤ x ∧ x ≤ 9) ∧ (0 ≤ y ∧ y ≤ 9) ∧ 0 < x + y := by
  simp only [mvOk, Bool.and_eq_true, Bool.not_eq_true', beq_eq_false_iff_ne] at h
  obtain ⟨⟨⟨⟨⟨h1, h2⟩, h3⟩, h4⟩, h5⟩, h6⟩ := h
  simp only [inB, Bool.and_eq_true, decide_eq_true_eq] at h4 h5
  exact ⟨by rw [veOk, h1, h2]; rfl, by rw [veOk, h1, h3]; rfl, h4, h5, by omega⟩
theorem mxN_bd {a b : List Int} {x y : Int} (ea : EOk a) (eb : EOk b) (hx : 0 ≤ x ∧ x ≤ 9) (hy : 0 ≤ y ∧ y ≤ 9) (k : Nat) : (0 ≤ x * gE a k ∧ x * gE a k ≤ 9 * 2000) ∧ (0 ≤ y * gE b k ∧ y * gE b k ≤ 9 * 2000) := ⟨mul_bd2 hx (ea k), mul_bd2 hy (eb k)⟩
section
variable {h : Hp} {vj v ve vs u va vb : Value} {js : List Job} {xs ys es s a b : List Int} {x y : Int}
theorem mx_step {a b : List Int} {x y : Int} {i m : Nat} : mxL a b x y (List.range' 0 (i + (m + 1))) = none ∨ (mxN a b x y i % (x + y) == 0) = true := by
  cases c : (mxN a b x y i % (x + y) == 0)
  · left
    unfold mxL
    rw [if_neg]
    intro g
    have := List.all_eq_true.1 g i (List.mem_range'_1.2 (by omega))
    rw [c] at this; cases this
  · right; rfl
theorem implMixVectors_run (J : Jobs h vj js) (A : Ints h va a) (B : Ints h vb b) (hl : js.length ≤ 2 ^ 40) (hal : a.length ≤ 2 ^ 40) (hbl : b.length ≤ 2 ^ 40) : RunsC P G n_impl_MixVectors [vj, va, vb, .int .i64 x, .int .i64 y] h fun w h' => h <+: h' ∧ ∃ d, w = .tuple #[d, .bool (mxX js a b x y).isSome] ∧ Ints h' d ((mxX js a b x y).getD []) := by
  refine hideC fun K hK => enter_run e_impl_MixVectors (by simp) ?_
  have Js := J
  have As := A
  have Bs := B
  have r1 := IsPlain_run J hl
  have r2 := isVector_run J A hal
  have r3 := isVector_run J B hbl
  obtain ⟨oj, cj, rfl⟩ := J.shapeT
  obtain ⟨oa, ca, rfl⟩ := A.shapeT
  obtain ⟨ob, cb, rfl⟩ := B.shapeT
  have bad : mvOk js a b x y = false → K (.tuple #[.slice none 0 0, .bool false]) h := fun e => by
    have e : mxX js a b x y = none := by rw [mxX, e]; rfl
    rw [e] at hK
    exact onK hK ⟨List.prefix_rfl, _, rfl, nil_I⟩
  cases c1 : plOk js
  · simp -implicitDefEqProofs [CL_ret r1, c1]
    exact bad (by rw [mvOk, c1]; rfl)
  cases c2 : vecB js a
  · simp -implicitDefEqProofs [CL_ret r1, c1, CL_ret r2, c2]
    exact bad (by rw [mvOk, c1, c2]; rfl)
  cases c3 : vecB js b
  · simp -implicitDefEqProofs [CL_ret r1, c1, CL_ret r2, c2, CL_ret r3, c3]
    exact bad (by rw [mvOk, c1, c2, c3]; rfl)
  cases c4 : inB x 0 9
  · simp -implicitDefEqProofs [CL_ret r1, c1, CL_ret r2, c2, CL_ret r3, c3, CL_ret within_run, c4]
    exact bad (by rw [mvOk, c1, c2, c3, c4]; rfl)
  cases c5 : inB y 0 9
  · simp -implicitDefEqProofs [CL_ret r1, c1, CL_ret r2, c2, CL_ret r3, c3, CL_ret within_run, c4, c5]
    exact bad (by rw [mvOk, c1, c2, c3, c4, c5]; rfl)
  have x9 : 0 ≤ x ∧ x ≤ 9 := by simpa [inB] using c4
  have y9 : 0 ≤ y ∧ y ≤ 9 := by simpa [inB] using c5
  have ws : IntKind.i64.wrap (x + y) = x + y := by rw [wrap_ok] <;> omega
  cases c6 : x + y == 0
  case true =>
    simp -implicitDefEqProofs [CL_ret r1, c1, CL_ret r2, c2, CL_ret r3, c3, CL_ret within_run, c4, c5, ws, c6]
    exact bad (by rw [mvOk, c1, c2, c3, c4, c5, c6]; rfl)
  have hok : mvOk js a b x y = true := by rw [mvOk, c1, c2, c3, c4, c5, c6]; rfl
  obtain ⟨va1, vb1, _, _, hpos⟩ := mvOk_of hok
  obtain ⟨_, ⟨hn, hg⟩, ha, ea⟩ := veOk_of va1
  obtain ⟨_, _, hb, eb⟩ := veOk_of vb1
  have e : mxX js a b x y = mxL a b x y (List.range' 0 js.length) := by rw [mxX, hok, if_pos rfl]
  rw [e] at hK
  have H0 := own_nil (Holds.start (h := h)) Int encI 1
  have nz : ¬ x + y = 0 := by omega
  simp -implicitDefEqProofs [CL_ret r1, c1, CL_ret r2, c2, CL_ret r3, c3, CL_ret within_run, c4, c5, ws, c6]
  refine R_loopO (fun m st h' => ∃ (i : Nat) (w : Value), i + m = js.length ∧ st = [(1, .slice oa a.length ca), (2, .slice ob b.length cb), (3, .int .i64 x), (4, .int .i64 y), (12, w), (47, .int .i64 js.length), (48, .int .i64 i)] ∧ (List.range' 0 i).all (fun k => mxN a b x y k % (x + y) == 0) = true ∧
      Holds h h' [.own w 1 (((List.range' 0 i).map fun k => mxN a b x y k / (x + y)).map encI)]) (fun I hI m st h' => ?_) (n := js.length) ⟨0, _, Nat.zero_add _, by simp, rfl, H0⟩
  rintro ⟨i, w, hi, rfl, hall, H⟩
  by_cases hlt : i < js.length
  · obtain ⟨m', rfl⟩ : ∃ m', m = m' + 1 := ⟨m - 1, by omega⟩
    have lA := load_I (As.pre H.pre) (gE_get (l := a) (i := i) (by omega))
    have lB := load_I (Bs.pre H.pre) (gE_get (l := b) (i := i) (by omega))
    obtain ⟨b1, b2⟩ := mxN_bd ea eb x9 y9 i
    have w1 : IntKind.i64.wrap (x * gE a i) = x * gE a i := by rw [wrap_ok] <;> omega
    have w2 : IntKind.i64.wrap (y * gE b i) = y * gE b i := by rw [wrap_ok] <;> omega
    have w3 : IntKind.i64.wrap (x * gE a i + y * gE b i) = mxN a b x y i := by unfold mxN; rw [wrap_ok] <;> omega
    have n0 : 0 ≤ mxN a b x y i ∧ mxN a b x y i ≤ 2 ^ 20 := by unfold mxN; omega
    have et : (mxN a b x y i).tmod (x + y) = mxN a b x y i % (x + y) := Int.tmod_eq_emod_of_nonneg n0.1
    have eq : (mxN a b x y i).tdiv (x + y) = mxN a b x y i / (x + y) := Int.tdiv_eq_ediv_of_nonneg n0.1
    have q1 : 0 ≤ mxN a b x y i / (x + y) := Int.ediv_nonneg n0.1 (by omega)
    have q2 : mxN a b x y i / (x + y) ≤ mxN a b x y i := Int.ediv_le_self _ n0.1
    have wq : IntKind.i64.wrap (mxN a b x y i / (x + y)) = mxN a b x y i / (x + y) := by rw [wrap_ok] <;> omega
    have er : List.range' 0 (i + 1) = List.range' 0 i ++ [i] := by rw [List.range'_concat]; simp
    have mn1 := Int.emod_nonneg (mxN a b x y i) nz
    have mn2 := Int.emod_lt_of_pos (mxN a b x y i) hpos
    have wm : IntKind.i64.wrap (mxN a b x y i % (x + y)) = mxN a b x y i % (x + y) := by rw [wrap_ok] <;> omega
    by_cases c : mxN a b x y i % (x + y) = 0
    · obtain ⟨w', h2, ha2, H2, _⟩ := push_I0 H 0 rfl (mxN a b x y i / (x + y)) (by simp; omega)
      simp -implicitDefEqProofs [-indexAddrP_some, hlt, lA, lB, w1, w2, w3, ws, nz, et, eq, wm, wq, c, ha2, winc hlt (by omega)]
      refine ⟨m', by omega, on hI ⟨i + 1, w', by omega, rfl, ?_, ?_⟩⟩
      · rw [er, List.all_append, hall]; simp [c]
      · have H2 : Holds h h2 [.own w' 1 ((((List.range' 0 i).map fun k => mxN a b x y k / (x + y)) ++ [mxN a b x y i / (x + y)]).map encI)] := H2
        rw [er, List.map_append]
        exact H2
    · have e2 : mxL a b x y (List.range' 0 js.length) = none := by
        rcases mx_step (a := a) (b := b) (x := x) (y := y) (i := i) (m := m') with g | g
        · rw [hi] at g; exact g
        · rw [beq_iff_eq] at g; exact absurd g c
      rw [e2] at hK
      simp -implicitDefEqProofs [-indexAddrP_some, hlt, lA, lB, w1, w2, w3, ws, nz, et, wm, nt c, nb c]
      exact onK hK ⟨pre_gcU H.pre, _, rfl, nil_I⟩
  · have : i = js.length := by omega
    subst this
    have e2 : mxL a b x y (List.range' 0 js.length) = some ((List.range' 0 js.length).map fun k => mxN a b x y k / (x + y)) := by rw [mxL, hall, if_pos rfl]
    rw [e2] at hK
    have S : Ints h' w ((List.range' 0 js.length).map fun k => mxN a b x y k / (x + y)) := H.sees 0 rfl
    have Ss := S
    obtain ⟨ow, nw, cw, rfl⟩ : ∃ a n c, w = .slice a n c := by obtain ⟨a, c, e⟩ := S.shape; exact ⟨_, _, _, e⟩
    simp -implicitDefEqProofs [hlt]
    exact onK hK ⟨pre_gcU H.pre, _, rfl, Sees.gcU Ss fun g => plainT (r := [_]) g⟩
theorem specMixVectors_run (J : Jobs h vj js) (A : Ints h va a) (B : Ints h vb b) (hl : js.length ≤ 2 ^ 40) (hal : a.length ≤ 2 ^ 40) (hbl : b.length ≤ 2 ^ 40) : RunsC P G n_spec_MixVectors [vj, va, vb, .int .i64 x, .int .i64 y] h fun w h' => h <+: h' ∧ ∃ d, w = .tuple #[d, .bool (mxX js a b x y).isSome] ∧ Ints h' d ((mxX js a b x y).getD []) := by
  refine hideC fun K hK => enter_run e_spec_MixVectors (by simp) ?_
  have Js := J
  have As := A
  have Bs := B
  have r1 := l6Good_run J hl
  have r2 := l10Vector_run J A hal
  have r3 := l10Vector_run J B hbl
  obtain ⟨oj, cj, rfl⟩ := J.shapeT
  obtain ⟨oa, ca, rfl⟩ := A.shapeT
  obtain ⟨ob, cb, rfl⟩ := B.shapeT
  have bad : mvOk js a b x y = false → K (.tuple #[.slice none 0 0, .bool false]) h := fun e => by
    have e : mxX js a b x y = none := by rw [mxX, e]; rfl
    rw [e] at hK
    exact onK hK ⟨List.prefix_rfl, _, rfl, nil_I⟩
  cases c1 : plOk js
  · simp -implicitDefEqProofs [CL_ret r1, c1]
    exact bad (by rw [mvOk, c1]; rfl)
  cases c2 : vecB js a
  · simp -implicitDefEqProofs [CL_ret r1, c1, CL_ret r2, c2]
    exact bad (by rw [mvOk, c1, c2]; rfl)
  cases c3 : vecB js b
  · simp -implicitDefEqProofs [CL_ret r1, c1, CL_ret r2, c2, CL_ret r3, c3]
    exact bad (by rw [mvOk, c1, c2, c3]; rfl)
  cases c4 : inB x 0 9
  · simp -implicitDefEqProofs [CL_ret r1, c1, CL_ret r2, c2, CL_ret r3, c3, CL_ret l1In_run, c4]
    exact bad (by rw [mvOk, c1, c2, c3, c4]; rfl)
  cases c5 : inB y 0 9
  · simp -implicitDefEqProofs [CL_ret r1, c1, CL_ret r2, c2, CL_ret r3, c3, CL_ret l1In_run, c4, c5]
    exact bad (by rw [mvOk, c1, c2, c3, c4, c5]; rfl)
  have x9 : 0 ≤ x ∧ x ≤ 9 := by simpa [inB] using c4
  have y9 : 0 ≤ y ∧ y ≤ 9 := by simpa [inB] using c5
  have ws : IntKind.i64.wrap (x + y) = x + y := by rw [wrap_ok] <;> omega
  cases c6 : x + y == 0
  case true =>
    simp -implicitDefEqProofs [CL_ret r1, c1, CL_ret r2, c2, CL_ret r3, c3, CL_ret l1In_run, c4, c5, ws, c6]
    exact bad (by rw [mvOk, c1, c2, c3, c4, c5, c6]; rfl)
  have hok : mvOk js a b x y = true := by rw [mvOk, c1, c2, c3, c4, c5, c6]; rfl
  obtain ⟨va1, vb1, _, _, hpos⟩ := mvOk_of hok
  obtain ⟨_, ⟨hn, hg⟩, ha, ea⟩ := veOk_of va1
  obtain ⟨_, _, hb, eb⟩ := veOk_of vb1
  have e : mxX js a b x y = mxL a b x y (List.range' 0 a.length) := by rw [mxX, hok, if_pos rfl, ha]
  rw [e] at hK
  have H0 := own_nil (Holds.start (h := h)) Int encI 1
  have nz : ¬ x + y = 0 := by omega
  simp -implicitDefEqProofs [CL_ret r1, c1, CL_ret r2, c2, CL_ret r3, c3, CL_ret l1In_run, c4, c5, ws, c6]
  refine R_loopO (fun m st h' => ∃ (i : Nat) (w : Value), i + m = a.length ∧ st = [(1, .slice oa a.length ca), (2, .slice ob b.length cb), (3, .int .i64 x), (4, .int .i64 y), (12, w), (13, .int .i64 i)] ∧ (List.range' 0 i).all (fun k => mxN a b x y k % (x + y) == 0) = true ∧
      Holds h h' [.own w 1 (((List.range' 0 i).map fun k => mxN a b x y k / (x + y)).map encI)]) (fun I hI m st h' => ?_) (n := a.length) ⟨0, _, Nat.zero_add _, by simp, rfl, H0⟩
  rintro ⟨i, w, hi, rfl, hall, H⟩
  by_cases hlt : i < a.length
  · obtain ⟨m', rfl⟩ : ∃ m', m = m' + 1 := ⟨m - 1, by omega⟩
    have hlt' : (i : Int) < a.length := by omega
    have lA := load_I (As.pre H.pre) (gE_get (l := a) (i := i) (by omega))
    have lB := load_I (Bs.pre H.pre) (gE_get (l := b) (i := i) (by omega))
    obtain ⟨b1, b2⟩ := mxN_bd ea eb x9 y9 i
    have w1 : IntKind.i64.wrap (x * gE a i) = x * gE a i := by rw [wrap_ok] <;> omega
    have w2 : IntKind.i64.wrap (y * gE b i) = y * gE b i := by rw [wrap_ok] <;> omega
    have w3 : IntKind.i64.wrap (x * gE a i + y * gE b i) = mxN a b x y i := by unfold mxN; rw [wrap_ok] <;> omega
    have n0 : 0 ≤ mxN a b x y i ∧ mxN a b x y i ≤ 2 ^ 20 := by unfold mxN; omega
    have et : (mxN a b x y i).tmod (x + y) = mxN a b x y i % (x + y) := Int.tmod_eq_emod_of_nonneg n0.1
    have eq : (mxN a b x y i).tdiv (x + y) = mxN a b x y i / (x + y) := Int.tdiv_eq_ediv_of_nonneg n0.1
    have q1 : 0 ≤ mxN a b x y i / (x + y) := Int.ediv_nonneg n0.1 (by omega)
    have q2 : mxN a b x y i / (x + y) ≤ mxN a b x y i := Int.ediv_le_self _ n0.1
    have wq : IntKind.i64.wrap (mxN a b x y i / (x + y)) = mxN a b x y i / (x + y) := by rw [wrap_ok] <;> omega
    have er : List.range' 0 (i + 1) = List.range' 0 i ++ [i] := by rw [List.range'_concat]; simp
    have mn1 := Int.emod_nonneg (mxN a b x y i) nz
    have mn2 := Int.emod_lt_of_pos (mxN a b x y i) hpos
    have wm : IntKind.i64.wrap (mxN a b x y i % (x + y)) = mxN a b x y i % (x + y) := by rw [wrap_ok] <;> omega
    by_cases c : mxN a b x y i % (x + y) = 0
    · obtain ⟨w', h2, ha2, H2, _⟩ := push_I0 H 0 rfl (mxN a b x y i / (x + y)) (by simp; omega)
      simp -implicitDefEqProofs [-indexAddrP_some, hlt, hlt', lA, lB, w1, w2, w3, ws, nz, et, eq, wm, wq, c, ha2, winc hlt (by omega)]
      refine ⟨m', by omega, on hI ⟨i + 1, w', by omega, rfl, ?_, ?_⟩⟩
      · rw [er, List.all_append, hall]; simp [c]
      · have H2 : Holds h h2 [.own w' 1 ((((List.range' 0 i).map fun k => mxN a b x y k / (x + y)) ++ [mxN a b x y i / (x + y)]).map encI)] := H2
        rw [er, List.map_append]
        exact H2
    · have e2 : mxL a b x y (List.range' 0 a.length) = none := by
        rcases mx_step (a := a) (b := b) (x := x) (y := y) (i := i) (m := m') with g | g
        · rw [hi] at g; exact g
        · rw [beq_iff_eq] at g; exact absurd g c
      rw [e2] at hK
      simp -implicitDefEqProofs [-indexAddrP_some, hlt, hlt', lA, lB, w1, w2, w3, ws, nz, et, wm, nt c, nb c]
      exact onK hK ⟨pre_gcU H.pre, _, rfl, nil_I⟩
  · have : i = a.length := by omega
    subst this
    have e2 : mxL a b x y (List.range' 0 a.length) = some ((List.range' 0 a.length).map fun k => mxN a b x y k / (x + y)) := by rw [mxL, hall, if_pos rfl]
    rw [e2] at hK
    have S : Ints h' w ((List.range' 0 a.length).map fun k => mxN a b x y k / (x + y)) := H.sees 0 rfl
    have Ss := S
    obtain ⟨ow, nw, cw, rfl⟩ : ∃ a n c, w = .slice a n c := by obtain ⟨a, c, e⟩ := S.shape; exact ⟨_, _, _, e⟩
    have hlt' : ¬ (a.length : Int) < a.length := by omega
    simp -implicitDefEqProofs [hlt, hlt']
    exact onK hK ⟨pre_gcU H.pre, _, rfl, Sees.gcU Ss fun g => plainT (r := [_]) g⟩
end
end Go.Pm.PP

/- Vectors of ends, in plain terms: short sets are first parts; orders' vectors; mixtures. -/
set_option linter.unusedVariables false
set_option linter.unusedSimpArgs false
set_option maxRecDepth 4000
set_option maxHeartbeats 4000000
namespace Go.Pm.PP
open Go.Pm Go.Proofs Go.Pm.PE
/-- Twice what a set has above its demand. -/
def f2 (js : List Job) (es s : List Int) : Int := 2 * supL js es s - (timS js s * timS js s + sqrS js s)
theorem dem_even {js : List Job} : ∀ {s : List Int}, ∃ k, timS js s * timS js s + sqrS js s = 2 * k
  | [] => ⟨0, rfl⟩
  | x :: s => by
    obtain ⟨k, hk⟩ := dem_even (js := js) (s := s)
    have e1 : timS js (x :: s) = (jA js x).t + timS js s := rfl
    have e2 : sqrS js (x :: s) = (jA js x).t * (jA js x).t + sqrS js s := rfl
    rw [e1, e2]
    generalize (jA js x).t = t
    generalize timS js s = T at *
    generalize sqrS js s = Q at *
    refine ⟨t * t + t * T + k, ?_⟩
    rw [Int.add_mul, Int.mul_add, Int.mul_add, Int.mul_comm T t]
    generalize t * t = a
    generalize t * T = b
    omega
theorem dem_two {js : List Job} {s : List Int} : 2 * demL js s = timS js s * timS js s + sqrS js s := by
  obtain ⟨k, hk⟩ := dem_even (js := js) (s := s)
  unfold demL
  rw [hk]
  omega
theorem short_iff {js : List Job} {es s : List Int} : supL js es s < demL js s ↔ f2 js es s < 0 := by
  have := @dem_two js s
  unfold f2
  omega
theorem sup_perm {js : List Job} {es s s' : List Int} (h : s.Perm s') : supL js es s = supL js es s' := sum_perm (h.map _)
theorem f2_perm {js : List Job} {es s s' : List Int} (h : s.Perm s') : f2 js es s = f2 js es s' := by
  unfold f2 timS sqrS
  rw [sup_perm h, sum_perm (h.map fun i => (jA js i).t), sum_perm (h.map fun i => (jA js i).t * (jA js i).t)]
theorem f2_cons {js : List Job} {es s : List Int} {x : Int} : f2 js es (x :: s) = f2 js es s + 2 * ((jA js x).t * (gE es x.toNat - timS js s - (jA js x).t)) := by
  have e0 : supL js es (x :: s) = (jA js x).t * gE es x.toNat + supL js es s := rfl
  have e1 : timS js (x :: s) = (jA js x).t + timS js s := rfl
  have e2 : sqrS js (x :: s) = (jA js x).t * (jA js x).t + sqrS js s := rfl
  unfold f2
  rw [e0, e1, e2]
  generalize (jA js x).t = t
  generalize timS js s = T
  generalize sqrS js s = Q
  generalize gE es x.toNat = e
  simp only [Int.add_mul, Int.mul_add, Int.mul_comm T t, Int.mul_sub]
  generalize t * t = a
  generalize t * T = b
  generalize t * e = c
  generalize T * T = d
  omega
theorem tim_bd {js : List Job} (hg : goodL js = true) : ∀ {s : List Int}, 0 ≤ timS js s ∧ timS js s ≤ 50 * s.length
  | [] => by simp [timS]
  | x :: s => by
    have e1 : timS js (x :: s) = (jA js x).t + timS js s := rfl
    have := tim_bd hg (s := s)
    have := jt_bd hg x
    rw [e1, List.length_cons]; omega
theorem sqr_bd {js : List Job} (hg : goodL js = true) : ∀ {s : List Int}, 0 ≤ sqrS js s ∧ sqrS js s ≤ 2500 * s.length
  | [] => by simp [sqrS]
  | x :: s => by
    have e1 : sqrS js (x :: s) = (jA js x).t * (jA js x).t + sqrS js s := rfl
    have := sqr_bd hg (s := s)
    have := mul_bd2 (jt_bd hg x) (jt_bd hg x)
    rw [e1, List.length_cons]; omega
theorem sup_nn {js : List Job} {es : List Int} (hg : goodL js = true) (eo : EOk es) : ∀ {s : List Int}, 0 ≤ supL js es s
  | [] => by simp [supL]
  | x :: s => by
    have e1 : supL js es (x :: s) = (jA js x).t * gE es x.toNat + supL js es s := rfl
    have := sup_nn hg eo (s := s)
    have := mul_bd2 (jt_bd hg x) (eo x.toNat)
    rw [e1]; omega
theorem f2_low {js : List Job} {es s : List Int} (hg : goodL js = true) (eo : EOk es) (hn : s.length ≤ 8) : -(2 ^ 20) ≤ f2 js es s := by
  have h1 := tim_bd hg (s := s)
  have h2 := sqr_bd hg (s := s)
  have h3 := sup_nn hg eo (s := s)
  have h4 := mul_bd2 (A := 400) (B := 400) (⟨h1.1, by omega⟩ : 0 ≤ timS js s ∧ timS js s ≤ 400) (⟨h1.1, by omega⟩ : 0 ≤ timS js s ∧ timS js s ≤ 400)
  unfold f2
  omega
/-- In a list that is sorted by ends, those up to some end stand first. -/
theorem split_at {es : List Int} {T : Int} : ∀ {L : List Int}, (L.Pairwise fun a b => gE es a.toNat ≤ gE es b.toNat) → ∃ k, k ≤ L.length ∧ ∀ x, x ∈ L.take k ↔ (x ∈ L ∧ gE es x.toNat ≤ T)
  | [], _ => ⟨0, Nat.le_refl _, fun x => by simp⟩
  | a :: L, h => by
    have h := List.pairwise_cons.1 h
    by_cases c : gE es a.toNat ≤ T
    · obtain ⟨k, hk, hx⟩ := split_at (T := T) h.2
      refine ⟨k + 1, by simpa using hk, fun x => ?_⟩
      rw [List.take_succ_cons, List.mem_cons, List.mem_cons, hx]
      constructor
      · rintro (rfl | g)
        · exact ⟨.inl rfl, c⟩
        · exact ⟨.inr g.1, g.2⟩
      · rintro ⟨rfl | g, g2⟩
        · exact .inl rfl
        · exact .inr ⟨g, g2⟩
    · refine ⟨0, Nat.zero_le _, fun x => ?_⟩
      rw [List.take_zero]
      constructor
      · intro g; cases g
      · rintro ⟨g, g2⟩
        rcases List.mem_cons.1 g with rfl | g
        · exact absurd g2 c
        · have := h.1 x g; omega
theorem beL_sorted {es : List Int} : (beL es).Pairwise fun a b => gE es a.toNat ≤ gE es b.toNat := beL_lex.imp fun h => by
  rcases h with h | h
  · simp only [eAh, decide_eq_true_eq] at h; omega
  · have := h.1; simp only [eAh, decide_eq_false_iff_not] at this; omega
theorem t_pos {js : List Job} (hg : goodL js = true) {x : Int} (hx : 0 ≤ x ∧ x < js.length) : 1 ≤ (jA js x).t := by
  obtain ⟨y, hy, _⟩ := drop_at (show x.toNat < js.length by omega)
  have e : jA js x = y := by unfold jA; rw [hy]; rfl
  have := job_of (job_at hg hy)
  rw [e]; omega
theorem nd_len : ∀ {s l : List Int}, s.Nodup → (∀ x, x ∈ s → x ∈ l) → s.length ≤ l.length
  | [], _, _, _ => Nat.zero_le _
  | x :: s, l, h, hs => by
    have h := List.nodup_cons.1 h
    have hx := hs x (List.mem_cons_self ..)
    have := nd_len (l := l.erase x) h.2 fun y hy => (List.mem_erase_of_ne (fun e => by subst e; exact h.1 hy)).2 (hs y (List.mem_cons_of_mem _ hy))
    have hl := List.length_erase_of_mem hx
    have := List.length_pos_of_mem hx
    rw [List.length_cons]; omega
theorem nodup_len {n : Nat} {s : List Int} (h : s.Nodup) (hin : inN n s) : s.length ≤ n := by
  have := nd_len (l := upTo n) h fun x hx => mem_upTo.2 (hin x hx)
  rwa [upTo_len] at this
/-- Some first part has as little as any set. -/
theorem least_first {js : List Job} {es : List Int} (hg : goodL js = true) (hn : js.length ≤ 8) (he : es.length = js.length) (eo : EOk es) : ∀ (N : Nat) (s : List Int), s.Nodup → inN js.length s → (f2 js es s + 2 ^ 20).toNat ≤ N → ∃ k, k ≤ es.length ∧ f2 js es (firstS es k) ≤ f2 js es s
  | N, s, hnd, hin, hN => by
    have hsl : s.length ≤ 8 := by
      have := nodup_len hnd hin
      omega
    have hlow := f2_low (s := s) hg eo hsl
    -- a smaller set by one job less or one more
    have next : ∀ s', s'.Nodup → inN js.length s' → f2 js es s' < f2 js es s → ∃ k, k ≤ es.length ∧ f2 js es (firstS es k) ≤ f2 js es s := fun s' h1 h2 h3 => by
      have hl' : s'.length ≤ 8 := by have := nodup_len h1 h2; omega
      have hlow' := f2_low (s := s') hg eo hl'
      match N, hN with
      | 0, hN => omega
      | N + 1, hN =>
        obtain ⟨k, hk, hle⟩ := least_first hg hn he eo N s' h1 h2 (by omega)
        exact ⟨k, hk, by omega⟩
    by_cases c1 : ∃ x, x ∈ s ∧ timS js s < gE es x.toNat
    · obtain ⟨x, hx, hgt⟩ := c1
      have hp := List.perm_cons_erase hx
      have tp := t_pos hg (hin x hx)
      have e := f2_perm (js := js) (es := es) hp
      rw [f2_cons] at e
      have et : timS js s = (jA js x).t + timS js (s.erase x) := sum_perm (hp.map fun i => (jA js i).t)
      have hpos := Int.mul_le_mul_of_nonneg_left (show (1 : Int) ≤ gE es x.toNat - timS js (s.erase x) - (jA js x).t by omega) (show 0 ≤ (jA js x).t by omega)
      exact next (s.erase x) (hnd.erase x) (fun y hy => hin y (List.mem_of_mem_erase hy)) (by omega)
    by_cases c2 : ∃ y : Int, (0 ≤ y ∧ y < js.length) ∧ y ∉ s ∧ gE es y.toNat ≤ timS js s
    · obtain ⟨y, hy, hys, hle⟩ := c2
      have tp := t_pos hg hy
      have e := @f2_cons js es s y
      have hneg := Int.mul_le_mul_of_nonneg_left (show gE es y.toNat - timS js s - (jA js y).t ≤ -1 by omega) (show 0 ≤ (jA js y).t by omega)
      exact next (y :: s) (List.nodup_cons.2 ⟨hys, hnd⟩) (fun z hz => by
        rcases List.mem_cons.1 hz with rfl | hz
        · exact hy
        · exact hin z hz) (by omega)
    obtain ⟨k, hk, hx⟩ := split_at (T := timS js s) (beL_sorted (es := es))
    have bo := beL_ord (es := es)
    rw [bo.len] at hk
    refine ⟨k, hk, ?_⟩
    have hp : s.Perm ((beL es).take k) := (List.perm_ext_iff_of_nodup hnd (bo.nd.sublist (List.take_sublist ..))).2 fun x => by
      rw [hx x]
      constructor
      · intro g
        have := hin x g
        refine ⟨?_, ?_⟩
        · have := bo.all (i := x.toNat) (by omega)
          rwa [show ((x.toNat : Nat) : Int) = x by omega] at this
        · exact Int.not_lt.1 fun g2 => c1 ⟨x, g, g2⟩
      · rintro ⟨g1, g2⟩
        have := bo.inn x g1
        exact Classical.byContradiction fun g => c2 ⟨x, by omega, g, g2⟩
    rw [f2_perm (hp.trans firstS_perm.symm)]
    exact Int.le_refl _
/-- If no first part is short, no set is. -/
theorem no_short {js : List Job} {es : List Int} (hok : veOk js es = true) (hs : shV js es = none) {s : List Int} (hnd : s.Nodup) (hin : inN js.length s) : demL js s ≤ supL js es s := by
  obtain ⟨_, ⟨hn, hg⟩, he, eo⟩ := veOk_of hok
  obtain ⟨k, hk, hle⟩ := least_first hg hn he eo _ s hnd hin (Nat.le_refl _)
  rcases Nat.eq_zero_or_pos k with rfl | h0
  · have e : f2 js es (firstS es 0) = 0 := rfl
    have := (not_congr (@short_iff js es s)).2 (by omega)
    omega
  · have h1 := shV_none hs h0 hk
    unfold shortB at h1
    rw [decide_eq_false_iff_not, short_iff] at h1
    have := (not_congr (@short_iff js es s)).2 (by omega)
    omega
/-! ### vectors of orders -/
theorem end_mid {js : List Job} {x : Int} {C : List Int} : ∀ {A : List Int} {now : Int} {E : List Int}, inN E.length (A ++ x :: C) → (A ++ x :: C).Nodup → gE (endGo js (A ++ x :: C) now E) x.toNat = endAt (jA js x) (nowGo js now A)
  | [], now, E, hin, hnd => by
    have hx := hin x (List.mem_cons_self ..)
    have hnd := List.nodup_cons.1 hnd
    have e : endGo js ([] ++ x :: C) now E = endGo js C (endAt (jA js x) now) (E.set x.toNat (endAt (jA js x) now)) := rfl
    rw [e, end_out (fun y hy => (hin y (List.mem_cons_of_mem _ hy)).1) (by rw [show ((x.toNat : Nat) : Int) = x by omega]; exact hnd.1), gE_set (by omega), if_pos rfl]
    rfl
  | a :: A, now, E, hin, hnd => by
    have hnd' := List.nodup_cons.1 hnd
    have e : endGo js (a :: A ++ x :: C) now E = endGo js (A ++ x :: C) (endAt (jA js a) now) (E.set a.toNat (endAt (jA js a) now)) := rfl
    rw [e, end_mid (by rw [List.length_set]; exact fun y hy => hin y (List.mem_cons_of_mem _ hy)) hnd'.2]
    rfl
theorem order_f2 {js : List Job} (p : Pl js) {o : List Int} (oo : Ord js.length o) : ∀ {k : Nat}, k ≤ o.length → f2 js (endsL js o) (o.take k) = 0
  | 0, _ => rfl
  | k + 1, hk => by
    obtain ⟨x, hx, hd⟩ := drop_at (show k < o.length by omega)
    have ih := order_f2 p oo (k := k) (by omega)
    have e : o = o.take k ++ x :: o.drop (k + 1) := by conv => lhs; rw [← List.take_append_drop k o, hd]
    have hE : gE (endsL js o) x.toNat = timS js (o.take k) + (jA js x).t := by
      have := end_mid (js := js) (x := x) (C := o.drop (k + 1)) (A := o.take k) (now := 0) (E := List.replicate js.length 0) (by rw [← e, List.length_replicate]; exact oo.inn) (by rw [← e]; exact oo.nd)
      rw [← e] at this
      unfold endsL
      rw [this, p.endAt (p.now (Int.le_refl 0)), nowGo_plain p (Int.le_refl 0), Int.zero_add]
      rfl
    rw [take_succ' hx, f2_perm (List.perm_append_comm : (o.take k ++ [x]).Perm ([x] ++ o.take k)), List.singleton_append, f2_cons, ih, hE]
    rw [show timS js (o.take k) + (jA js x).t - timS js (o.take k) - (jA js x).t = 0 by omega]
    simp
theorem ord_bal {js : List Job} {es : List Int} (h : ordB js es = true) : balB js es = true := by
  rw [ordB, Bool.and_eq_true, beq_iff_eq] at h
  obtain ⟨hok, e⟩ := h
  obtain ⟨hp, ⟨hn, hg⟩, he, eo⟩ := veOk_of hok
  have p := plOk_pl hp
  have bo := beL_ord (es := es)
  rw [he] at bo
  have all0 : ∀ k, k ≤ es.length → f2 js es (firstS es k) = 0 := fun k hk => by
    rw [f2_perm firstS_perm]
    have := order_f2 p bo (k := k) (by rw [bo.len]; omega)
    rw [e] at this
    exact this
  have hs : shV js es = none := by
    cases hs : shV js es with
    | none => rfl
    | some s =>
      obtain ⟨k, hk, _, hb⟩ := shV_some hs
      unfold shortB at hb
      rw [decide_eq_true_eq, short_iff, all0 k hk.2] at hb
      omega
  have ht : supL js es (upTo js.length) = demL js (upTo js.length) := by
    have h1 := all0 es.length (Nat.le_refl _)
    have hp1 : (firstS es es.length).Perm (upTo js.length) := by
      refine firstS_perm.trans ?_
      rw [List.take_of_length_le (by rw [bo.len]; omega), ← he]
      exact beL_perm
    rw [f2_perm hp1] at h1
    have := @dem_two js (upTo js.length)
    unfold f2 at h1
    omega
  rw [balB, hok, hs, ht]
  simp
/-! ### mixtures -/
theorem mix_sup {js : List Job} {a b c : List Int} {x y : Int} (h : ∀ k, k < js.length → gE c k * (x + y) = x * gE a k + y * gE b k) : ∀ {s : List Int}, inN js.length s → supL js c s * (x + y) = x * supL js a s + y * supL js b s
  | [], _ => by simp [supL]
  | i :: s, hin => by
    have ih := mix_sup h (s := s) fun z hz => hin z (List.mem_cons_of_mem _ hz)
    have hi := hin i (List.mem_cons_self ..)
    have hk := h i.toNat (by omega)
    have e : ∀ es : List Int, supL js es (i :: s) = (jA js i).t * gE es i.toNat + supL js es s := fun _ => rfl
    rw [e, e, e, Int.add_mul, ih, Int.mul_assoc, hk]
    simp only [Int.mul_add, ← Int.mul_assoc, Int.mul_comm x (jA js i).t, Int.mul_comm y (jA js i).t]
    omega
theorem mix_bal {js : List Job} {a b c : List Int} {x y : Int} (h : mxX js a b x y = some c) : veOk js c = true ∧ (balB js a = true → balB js b = true → balB js c = true) := by
  have hok : mvOk js a b x y = true := by
    cases e : mvOk js a b x y
    · rw [mxX, e] at h; cases h
    · rfl
  obtain ⟨va, vb, hx, hy, hpos⟩ := mvOk_of hok
  obtain ⟨hp, ⟨hn, hg⟩, ha, ea⟩ := veOk_of va
  obtain ⟨_, _, hb, eb⟩ := veOk_of vb
  rw [mxX, hok, if_pos rfl] at h
  unfold mxL at h
  split at h
  case isFalse => cases h
  rename_i hall
  cases h
  have hgE : ∀ k, k < js.length → gE ((List.range' 0 js.length).map fun k => mxN a b x y k / (x + y)) k = mxN a b x y k / (x + y) := fun k hk => by
    unfold gE
    rw [List.getElem?_map, List.getElem?_range' (by omega)]
    simp
  have hdiv : ∀ k, k < js.length → gE ((List.range' 0 js.length).map fun k => mxN a b x y k / (x + y)) k * (x + y) = x * gE a k + y * gE b k := fun k hk => by
    rw [hgE k hk]
    have h0 := List.all_eq_true.1 hall k (List.mem_range'_1.2 (by omega))
    rw [beq_iff_eq] at h0
    have := Int.ediv_mul_cancel_of_emod_eq_zero h0
    rw [this]; rfl
  have hv : vecB js ((List.range' 0 js.length).map fun k => mxN a b x y k / (x + y)) = true := by
    rw [vecB, Bool.and_eq_true]
    refine ⟨by simp, List.all_eq_true.2 fun e he => ?_⟩
    obtain ⟨k, hk, rfl⟩ := List.mem_map.1 he
    have hk : k < js.length := by simpa [List.mem_range'_1] using hk
    have h1 := hdiv k hk
    rw [hgE k hk] at h1
    have ba := ea k
    have bb := eb k
    have u1 := Int.mul_le_mul_of_nonneg_left ba.2 hx.1
    have u2 := Int.mul_le_mul_of_nonneg_left bb.2 hy.1
    have l1 := Int.mul_nonneg hx.1 ba.1
    have l2 := Int.mul_nonneg hy.1 bb.1
    generalize mxN a b x y k / (x + y) = q at *
    have q0 : 0 ≤ q := by
      refine Int.not_lt.1 fun g => ?_
      have := Int.mul_neg_of_neg_of_pos g hpos
      omega
    have q1 : q ≤ 2000 := by
      refine Int.not_lt.1 fun g => ?_
      have := Int.mul_le_mul_of_nonneg_right (show (2001 : Int) ≤ q by omega) (show 0 ≤ x + y by omega)
      omega
    simp [inB, q0, q1]
  have hcok : veOk js ((List.range' 0 js.length).map fun k => mxN a b x y k / (x + y)) = true := by rw [veOk, hp, hv]; rfl
  refine ⟨hcok, fun Ba Bb => ?_⟩
  generalize ((List.range' 0 js.length).map fun k => mxN a b x y k / (x + y)) = c at *
  obtain ⟨_, _, hc, ec⟩ := veOk_of hcok
  simp only [balB, Bool.and_eq_true, beq_iff_eq, Bool.not_eq_true', Option.isSome_eq_false_iff, Option.isNone_iff_eq_none] at Ba Bb
  have all : ∀ s, s.Nodup → inN js.length s → demL js s ≤ supL js c s := fun s h1 h2 => by
    have d1 := no_short va Ba.2.1 h1 h2
    have d2 := no_short vb Bb.2.1 h1 h2
    have m := mix_sup hdiv h2
    have u1 := Int.mul_le_mul_of_nonneg_left d1 hx.1
    have u2 := Int.mul_le_mul_of_nonneg_left d2 hy.1
    refine Int.not_lt.1 fun g => ?_
    have := Int.mul_lt_mul_of_pos_right g hpos
    rw [m, Int.mul_add, Int.mul_comm _ x, Int.mul_comm _ y] at this
    omega
  have tot : supL js c (upTo js.length) = demL js (upTo js.length) := by
    have m := mix_sup hdiv (s := upTo js.length) up_in
    rw [Ba.2.2, Bb.2.2, ← Int.add_mul, Int.mul_comm (x + y)] at m
    exact Int.eq_of_mul_eq_mul_right (by omega) m
  have hs : shV js c = none := by
    cases hs : shV js c with
    | none => rfl
    | some s =>
      obtain ⟨k, hk, _, hb⟩ := shV_some hs
      unfold shortB at hb
      rw [decide_eq_true_eq] at hb
      have := all (firstS c k) (firstS_perm.nodup_iff.2 ((beL_ord (es := c)).nd.sublist (List.take_sublist ..))) (fun z hz => by have := firstS_in z hz; omega)
      omega
  rw [balB, hcok, hs, tot]
  simp
end Go.Pm.PP
