/- The texts PvMi, PvUh, PvL, PvM, PvK of this work: FnTimely: its draw; sets in plain terms. -/
import Derived.ProofKit
import Derived.OpenShut
import Derived.Carry
import Derived.Test.YtcmbjbddjlamaaaP8
import Derived.Test.YtcmbjbddjlamaaaP9
import Derived.Test.YtcmbjbddjlamaaaP6
import Derived.Test.YtcmbjbddjlamaaaM4
/- FnTimely: its draw; sets in plain terms. -/
set_option linter.unusedVariables false
set_option linter.unusedSimpArgs false
set_option maxRecDepth 4000
set_option maxHeartbeats 16000000
namespace Go.Pm.PP
open Go.Pm Go.Proofs Go.Pm.PE
/-! ### sets -/
theorem sets_mem {js : List Job} {x : List Int} : x ∈ setsS js ↔ ∃ c, c < 2 ^ js.length ∧ okC js c = true ∧ bitsL js.length c = x := by
  unfold setsS
  have := (@foldS_perm (setsU js (2 ^ js.length)) []).mem_iff (a := x)
  rw [this, List.nil_append, setsU_mem]
theorem sets_len {js : List Job} : (setsS js).length ≤ 2 ^ js.length := by
  unfold setsS
  rw [(@foldS_perm (setsU js (2 ^ js.length)) []).length_eq, List.nil_append]
  exact setsU_len
end Go.Pm.PP

/- FnUnitJobs in the small machine. -/
set_option linter.unusedVariables false
set_option linter.unusedSimpArgs false
set_option maxRecDepth 4000
set_option maxHeartbeats 16000000
namespace Go.Pm.PP
open Go.Pm Go.Proofs Go.Pm.PE
theorem ug_ok {js : List Job} : (ugR js).Pairwise (· < ·) ∧ inN js.length (ugR js) := by
  unfold ugR
  split
  · obtain ⟨h1, h2⟩ := gF_ok (P := timB js) (O := wOrd js) (T := []) List.Pairwise.nil
    exact ⟨h1, fun y hy => (h2 y hy).elim (fun g => by cases g) fun g => wOrd_in y g⟩
  · exact ⟨List.Pairwise.nil, fun y hy => by cases hy⟩
theorem wt_bd {js : List Job} (hg : goodL js = true) {xs : List Int} : 0 ≤ tsm (wJ js) xs ∧ tsm (wJ js) xs ≤ xs.length * 50 := (rat_bd hg (xs := xs)).1
theorem uc_len {js : List Job} {xs : List Int} {j : Int} (hx : xs.length ≤ 10) : (ucR js xs j).length ≤ 2 ^ 10 := by
  unfold ucR
  split
  · rename_i h
    have := (circ_all h).2.2.1
    obtain ⟨hk, _⟩ := ucOk_of h
    obtain ⟨hu, _⟩ := rkOk_of hk
    obtain ⟨hok, _⟩ := uOk_of hu
    have := (plOk_of hok).1
    rw [ucR, if_pos h] at *
    omega
  · simp
theorem sl_len {js : List Job} {xs : List Int} : (slR js xs).length ≤ xs.length := by
  unfold slR
  split <;> simp
theorem share7 {A B C D E F H : Type} {main : Prop} (Q : A → B → C → D → E → F → H → Prop) (f : (∀ a b c d e f g, Q a b c d e f g) → main) (key : ∀ a b c d e f g, Q a b c d e f g) : main := f key
theorem share9 {A B C D E F H I J : Type} {main : Prop} (Q : A → B → C → D → E → F → H → I → J → Prop) (f : (∀ a b c d e f g i j, Q a b c d e f g i j) → main) (key : ∀ a b c d e f g i j, Q a b c d e f g i j) : main := f key
theorem law_UnitJobs {h : Hp} {vc : Value} {bs : List Int} (Sb : Sees h vc 1 (bs.map encU)) (hb : ∀ b, b ∈ bs → 0 ≤ b ∧ b ≤ 255) : Ret P G n_laws_FnUnitJobs [vc] h (.bool true) h := by
  refine enter_run e_laws_FnUnitJobs (by simp) ?_
  have r0 := rBig_run Sb
  by_cases c0 : (65536 : Int) < bs.length
  · simp -implicitDefEqProofs [CL_ret r0, c0]
  have B : By h vc := ⟨bs, Sb, hb, by omega⟩
  have Sbs := Sb
  obtain ⟨ob, cb, rfl⟩ := Sb.shapeT
  simp -implicitDefEqProofs [CL_ret r0, c0]
  apply @share7 (List Job) (List Int) (Option Addr) Nat (Option Addr) Nat Hp
  case f =>
    intro key
    refine CL_post (DrawUnitGreedy_run B) fun u h1 ⟨hp1, js, hjl, J⟩ => ?_
    have l1 : js.length ≤ 2 ^ 40 := by omega
    have Js := J
    obtain ⟨ja, jc, rfl⟩ := J.shapeT
    simp -implicitDefEqProofs
    refine CL_post (implUnitGreedy_run Js l1) fun v h2 ⟨hp2, d2, ev, D2⟩ => ?_
    subst ev
    obtain ⟨da, dc, e2⟩ : ∃ a c, d2 = .slice a (ugR js).length c := D2.shapeT
    subst e2
    simp -implicitDefEqProofs
    refine CL_post (specUnitGreedy_run (Js.pre hp2) l1) fun v h3 ⟨hp3, d3, ev, D3⟩ => ?_
    subst ev
    obtain ⟨ea, en, ec, rfl⟩ : ∃ a n c, d3 = .slice a n c := by obtain ⟨a, c, e⟩ := D3.shape; exact ⟨_, _, _, e⟩
    obtain ⟨uga, ugi⟩ := @ug_ok js
    have ugl := asc_len uga ugi
    have q1 := rInts_run (D2.pre hp3) D3 (by omega)
    have p13 := hp2.trans hp3
    have p03 := hp1.trans p13
    cases hu : uOk js
    case' false =>
      obtain ⟨g, e', hpg⟩ : ∃ g, h3 = g ∧ h <+: g := ⟨h3, rfl, p03⟩
      simp -implicitDefEqProofs [CL_ret q1, hu]
      rw [e']
    case' true =>
      obtain ⟨hok, _⟩ := uOk_of hu
      obtain ⟨hn, hg, _⟩ := plOk_of hok
      have J3 := Js.pre p13
      have D2' := D2.pre hp3
      simp -implicitDefEqProofs [CL_ret q1, hu]
      refine R_loopO (fun m s h' => ∃ (i : Nat), i + m = (ugR js).length ∧ s = [(0, .slice ob bs.length cb), (3, .slice ja js.length jc), (4, .slice da (ugR js).length dc), (8, .int .i64 (tsm (wJ js) ((ugR js).take i))), (9, .int .i64 i)] ∧ h' = h3) (fun I hI m s h' => ?_) (n := (ugR js).length) ⟨0, Nat.zero_add _, by simp [tsm], rfl⟩
      rintro ⟨i, hi, rfl, rfl⟩
      by_cases hlt : i < (ugR js).length
      case pos =>
        have hlt' : (i : Int) < (ugR js).length := by omega
        obtain ⟨y, hy, _⟩ := drop_at hlt
        have ly := load_I D2' hy
        have lj := load_JX J3 (ugi y (List.mem_of_getElem? hy))
        have e := sum_take (t := wJ js) hy
        have ew : wJ js y = (jA js y).w := rfl
        have wb := wt_bd hg (xs := (ugR js).take (i + 1))
        have tl : ((ugR js).take (i + 1)).length ≤ 2 ^ 10 := by rw [List.length_take]; omega
        have w1 : IntKind.i64.wrap (tsm (wJ js) ((ugR js).take i) + (jA js y).w) = tsm (wJ js) ((ugR js).take (i + 1)) := by rw [← ew, ← e, wrap_ok] <;> omega
        simp -implicitDefEqProofs [-indexAddrP_some, hlt, hlt', ly, lj, w1, winc hlt (by omega)]
        exact ⟨m - 1, by omega, on hI ⟨i + 1, by omega, by simp, rfl⟩⟩
      case' neg =>
        have hlt' : ¬ (i : Int) < (ugR js).length := by omega
        rw [List.take_of_length_le (by omega)]
        simp -implicitDefEqProofs [hlt, hlt']
        refine CL_post (implTimelySets_run J3 l1) fun v h4 ⟨hp4, d4, us, ev, N4⟩ => ?_
        subst ev
        obtain ⟨sa, sc, e4⟩ : ∃ a c, d4 = .slice a (tsR js).length c := N4.shape
        subst e4
        simp -implicitDefEqProofs
        refine CL_post (specTimelySets_run (J3.pre hp4) l1) fun v h5 ⟨hp5, d5, ws, ev, N5⟩ => ?_
        subst ev
        obtain ⟨ta, tc, e5⟩ : ∃ a c, d5 = .slice a (tsR js).length c := N5.shape
        subst e5
        have p35 := hp4.trans hp5
        have N4' := N4.pre hp5
        have hsb : ∀ x, x ∈ tsR js → x.length ≤ 8 ∧ inN js.length x ∧ ∃ c, okC js c = true ∧ bitsL js.length c = x := fun x hx => by
          rw [tsR, if_pos hok] at hx
          obtain ⟨c, hc, ho, rfl⟩ := sets_mem.1 hx
          exact ⟨Nat.le_trans bits_len hn, fun y hy => (by have := mem_bits.1 hy; omega), c, ho, rfl⟩
        have htl : (tsR js).length ≤ 2 ^ 10 := by
          rw [tsR, if_pos hok]
          have p8 : 2 ^ js.length ≤ 2 ^ 8 := Nat.pow_le_pow_right (by omega) hn
          have := @sets_len js
          omega
        have q2 := rTable_run N4' N5 (by omega) fun x hx => by have := (hsb x hx).1; omega
        have J5 := J3.pre p35
        simp -implicitDefEqProofs [CL_ret q2, hok]
        refine R_loopO (fun m s g => ∃ (i : Nat), i + m = (tsR js).length ∧ s = [(0, .slice ob bs.length cb), (3, .slice ja js.length jc), (8, .int .i64 (tsm (wJ js) (ugR js))), (10, .slice sa (tsR js).length sc), (14, .int .i64 i)] ∧ g = h5) (fun I2 hI2 m2 s2 g2 => ?_) (n := (tsR js).length)
          ⟨0, Nat.zero_add _, by simp, rfl⟩
        rintro ⟨k, hk, rfl, rfl⟩
        by_cases hlk : k < (tsR js).length
        case pos =>
          have hlk' : (k : Int) < (tsR js).length := by omega
          obtain ⟨x, hx, _⟩ := drop_at hlk
          obtain ⟨ux, hux, Sx⟩ := N4'.at hx
          obtain ⟨xl8, xin, c, ho, ec⟩ := hsb x (List.mem_of_getElem? hx)
          have hxrk : rkOk js x = true := by
            rw [rkOk, hu, Bool.true_and, setB_iff]
            exact ⟨xin, ec ▸ bits_asc⟩
          have hxt : timB js x = true := by rw [← ec]; exact ho
          have hwx := unit_heavy hu ho
          rw [ec] at hwx
          have rr := implUnitRank_run J5 Sx l1 (by omega)
          rw [rank_eq hxrk hxt, hxrk] at rr
          obtain ⟨xsa, xsc, rfl⟩ : ∃ a c, ux = .slice a x.length c := Sx.shapeT
          have lx := load_N (N4'.out : Sees g2 _ 1 (us.map encV)) hux
          simp -implicitDefEqProofs [hlk, hlk']
          refine R_loopO (fun m s g3 => ∃ (i : Nat), i + m = x.length ∧ s = [(0, .slice ob bs.length cb), (3, .slice ja js.length jc), (8, .int .i64 (tsm (wJ js) (ugR js))), (10, .slice sa (tsR js).length sc), (14, .int .i64 k), (15, .int .i64 (tsm (wJ js) (x.take i))), (16, .int .i64 i)] ∧ g3 = g2) (fun I3 hI3 m3 s3 g3 => ?_) (n := x.length)
            ⟨0, Nat.zero_add _, by simp [tsm], rfl⟩
          rintro ⟨q, hq, rfl, rfl⟩
          by_cases hlq : q < x.length
          · have hlq' : (q : Int) < x.length := by omega
            obtain ⟨y, hy, _⟩ := drop_at hlq
            have ly := load_I Sx hy
            have lj := load_JX J5 (xin y (List.mem_of_getElem? hy))
            have e := sum_take (t := wJ js) hy
            have ew : wJ js y = (jA js y).w := rfl
            have wb := wt_bd hg (xs := x.take (q + 1))
            have tl : (x.take (q + 1)).length ≤ 2 ^ 10 := by rw [List.length_take]; omega
            have w1 : IntKind.i64.wrap (tsm (wJ js) (x.take q) + (jA js y).w) = tsm (wJ js) (x.take (q + 1)) := by rw [← ew, ← e, wrap_ok] <;> omega
            simp -implicitDefEqProofs [-indexAddrP_some, lx, hlq, hlq', ly, lj, w1, winc hlq (by omega)]
            exact ⟨m3 - 1, by omega, on hI3 ⟨q + 1, by omega, by simp, rfl⟩⟩
          · have hlq' : ¬ (q : Int) < x.length := by omega
            rw [List.take_of_length_le (by omega)]
            have c1 : ¬ tsm (wJ js) (ugR js) < tsm (wJ js) x := by omega
            simp -implicitDefEqProofs [-indexAddrP_some, lx, hlq, hlq', CL_ret rr, c1, winc hlk (by omega)]
            exact ⟨m2 - 1, by omega, on hI2 ⟨k + 1, by omega, by simp, rfl⟩⟩
        case' neg =>
          have hlk' : ¬ (k : Int) < (tsR js).length := by omega
          obtain ⟨g, e', hpg⟩ : ∃ g, g2 = g ∧ h <+: g := ⟨g2, rfl, p03.trans p35⟩
          simp -implicitDefEqProofs [hlk, hlk']
          rw [e']
    all_goals
      have Bg : By g (.slice ob bs.length cb) := ⟨bs, Sbs.pre hpg, hb, by omega⟩
      refine CL_post (DrawUnitRank_run Bg) fun v g1 ⟨gp1, ks, xs, u, w, ev, hkl, hxl, K, X⟩ => ?_
      subst ev
      have ra := implUnitRank_run K X (by omega) (by omega)
      have rb := specUnitRank_run K X (by omega) (by omega)
      have Ks := K
      have Xs := X
      obtain ⟨ka, kc, rfl⟩ := K.shapeT
      obtain ⟨xa, xc, rfl⟩ := X.shapeT
      simp -implicitDefEqProofs [CL_ret ra, CL_ret rb]
      refine R_loopO (fun m s g2 => ∃ (i : Nat), i + m = xs.length ∧ s = [(0, .slice ob bs.length cb), (19, .slice ka ks.length kc), (20, .slice xa xs.length xc), (21, .int .i64 (rkR ks xs)), (22, .bool (rkOk ks xs)), (25, .int .i64 i)] ∧ g1 <+: g2) ?_ (n := xs.length) ⟨0, Nat.zero_add _, by simp, List.prefix_rfl⟩
      have F : h <+: g1 ∧ ks.length ≤ 9 ∧ xs.length ≤ 10 ∧ Jobs g1 (.slice ka ks.length kc) ks ∧ Ints g1 (.slice xa xs.length xc) xs := ⟨hpg.trans gp1, hkl, hxl, Ks, Xs⟩
      revert F
      exact key ks xs ka kc xa xc g1
  case key =>
    intro ks xs ka kc xa xc g1 ⟨h01, hkl, hxl, K, X⟩
    apply @share9 (List Job) (List Int) (Option Addr) Nat (Option Addr) Nat (Option Addr) Nat Hp
    case f =>
      intro key2 I hI m s g2
      rintro ⟨i, hi, rfl, hp⟩
      have Kg := K.pre hp
      have Xg := X.pre hp
      cases hk : rkOk ks xs
      case' false =>
        obtain ⟨g, e', hpg⟩ : ∃ g, g2 = g ∧ h <+: g := ⟨g2, rfl, h01.trans hp⟩
        simp -implicitDefEqProofs [hk]
        rw [e']
      case' true =>
        by_cases hlt : i < xs.length
        case pos =>
          have hlt' : (i : Int) < xs.length := by omega
          have w1 : IntKind.i64.wrap ((i : Int) + 1) = (i : Int) + 1 := by rw [wrap_ok] <;> omega
          obtain ⟨a3, b3, c3, a4, b4, c4, h4, a6, b6, c6, a7, c7, h7, s3, ha4, no4, s6, ha7, hp7, S7⟩ := era_see Xg hlt (by omega)
          have el : (xs.eraseIdx i).length ≤ 2 ^ 10 := by have := (List.eraseIdx_sublist xs i).length_le; omega
          have rr := implUnitRank_run (Kg.pre hp7) S7 (by omega) el
          rw [rk_sub hk] at rr
          obtain ⟨t1, t2⟩ := rank_step hk hlt
          have rb : 0 ≤ rkR ks (xs.eraseIdx i) ∧ rkR ks (xs.eraseIdx i) ≤ 2 ^ 10 := by
            rw [rkR, if_pos (rk_sub hk)]
            have := nd_le (nd_asc (gset (rk_sub hk (i := i))).asc) (gset (rk_sub hk (i := i))).sub
            omega
          have t1' : ¬ rkR ks xs < rkR ks (xs.eraseIdx i) := by omega
          have t2' : ¬ rkR ks (xs.eraseIdx i) + 1 < rkR ks xs := by omega
          have w2 : IntKind.i64.wrap (rkR ks (xs.eraseIdx i) + 1) = rkR ks (xs.eraseIdx i) + 1 := by rw [wrap_ok] <;> omega
          simp -implicitDefEqProofs [hk, hlt, hlt', w1, s3, ha4, no4, s6, ha7, CL_ret rr, t1', t2', w2]
          exact ⟨m - 1, by omega, on hI ⟨i + 1, by omega, by simp [hk], hp.trans hp7⟩⟩
        case' neg =>
          have hlt' : ¬ (i : Int) < xs.length := by omega
          obtain ⟨g, e', hpg⟩ : ∃ g, g2 = g ∧ h <+: g := ⟨g2, rfl, h01.trans hp⟩
          simp -implicitDefEqProofs [hk, hlt, hlt']
          rw [e']
      all_goals
        have Bg : By g (.slice ob bs.length cb) := ⟨bs, Sbs.pre hpg, hb, by omega⟩
        refine CL_post (DrawUnitCircuit_run Bg) fun v h1 ⟨hp1, js, ys, j, u, w, ev, hjl, hyl, J, Y⟩ => ?_
        subst ev
        have Js := J
        have Ys := Y
        obtain ⟨ja, jc, rfl⟩ := J.shapeT
        obtain ⟨ya, yc, rfl⟩ := Y.shapeT
        simp -implicitDefEqProofs
        refine CL_post (implUnitCircuit_run (j := j) Js Ys (by omega) (by omega)) fun v h2 ⟨hp2, d2, ev, D2⟩ => ?_
        subst ev
        obtain ⟨da, dc, e2⟩ : ∃ a c, d2 = .slice a (ucR js ys j).length c := D2.shapeT
        subst e2
        simp -implicitDefEqProofs
        refine CL_post (specUnitCircuit_run (j := j) (Js.pre hp2) (Ys.pre hp2) (by omega) (by omega)) fun v h3 ⟨hp3, d3, ev, D3⟩ => ?_
        subst ev
        obtain ⟨ea, en, ec, rfl⟩ : ∃ a n c, d3 = .slice a n c := by obtain ⟨a, c, e⟩ := D3.shape; exact ⟨_, _, _, e⟩
        have cl := @uc_len js ys j hyl
        have q1 := rInts_run (D2.pre hp3) D3 (by omega)
        have p13 := hp2.trans hp3
        have J3 := Js.pre p13
        have D2' := D2.pre hp3
        have p03 := hpg.trans (hp1.trans p13)
        cases hc : ucOk js ys j
        case' false =>
          obtain ⟨g', e'', hpg'⟩ : ∃ g', h3 = g' ∧ h <+: g' := ⟨h3, rfl, p03⟩
          simp -implicitDefEqProofs [CL_ret q1, hc]
          rw [e'']
        case' true =>
          obtain ⟨z1, z2, z3, z4⟩ := circ_all hc
          have rt := implIsTimely_run J3 D2' (by omega) cl
          rw [z1, z2] at rt
          generalize ucR js ys j = C at *
          have rt' : Ret P G n_impl_IsTimely [.slice ja js.length jc, .slice da C.length dc] h3 (.tuple #[.bool false, .bool true]) h3 := rt
          simp -implicitDefEqProofs [CL_ret q1, hc, CL_ret rt']
          refine R_loopO (fun m s g3 => ∃ (i : Nat), i + m = C.length ∧ s = [(0, .slice ob bs.length cb), (29, .slice ja js.length jc), (32, .slice da C.length dc), (38, .int .i64 i)] ∧ h3 <+: g3) (fun I3 hI3 m3 s3 g3 => ?_) (n := C.length) ⟨0, Nat.zero_add _, by simp, List.prefix_rfl⟩
          rintro ⟨q, hq, rfl, hpq⟩
          by_cases hlq : q < C.length
          case pos =>
            have hlq' : (q : Int) < C.length := by omega
            have w1 : IntKind.i64.wrap ((q : Int) + 1) = (q : Int) + 1 := by rw [wrap_ok] <;> omega
            obtain ⟨a3, b3, c3, a4, b4, c4, h4, a6, b6, c6, a7, c7, h7, s3', ha4, no4, s6, ha7, hp7, S7⟩ := era_see (D2'.pre hpq) hlq (by omega)
            have el : (C.eraseIdx q).length ≤ 2 ^ 10 := by have := (List.eraseIdx_sublist C q).length_le; omega
            have rr := implIsTimely_run (J3.pre (hpq.trans hp7)) S7 (by omega) el
            rw [(z4 q hlq).1, (z4 q hlq).2] at rr
            have rr' : Ret P G n_impl_IsTimely [.slice ja js.length jc, .slice a7 (C.eraseIdx q).length c7] h7 (.tuple #[.bool true, .bool true]) h7 := rr
            simp -implicitDefEqProofs [hlq, hlq', w1, s3', ha4, no4, s6, ha7, CL_ret rr']
            exact ⟨m3 - 1, by omega, on hI3 ⟨q + 1, by omega, by simp, hpq.trans hp7⟩⟩
          case' neg =>
            have hlq' : ¬ (q : Int) < C.length := by omega
            obtain ⟨g', e'', hpg'⟩ : ∃ g', g3 = g' ∧ h <+: g' := ⟨g3, rfl, p03.trans hpq⟩
            simp -implicitDefEqProofs [hlq, hlq']
            rw [e'']
        all_goals
          have Bg' : By g' (.slice ob bs.length cb) := ⟨bs, Sbs.pre hpg', hb, by omega⟩
          refine CL_post (DrawUnitSlots_run Bg') fun v f1 ⟨fp1, ms, zs, u, w, ev, hml, hzl, M, Z⟩ => ?_
          subst ev
          have Ms := M
          have Zs := Z
          obtain ⟨ma, mc, rfl⟩ := M.shapeT
          obtain ⟨za, zc, rfl⟩ := Z.shapeT
          simp -implicitDefEqProofs
          refine CL_post (implUnitSlots_run Ms Zs (by omega) (by omega)) fun v f2 ⟨fp2, d2, ev, D2⟩ => ?_
          subst ev
          obtain ⟨sa, sc, e2⟩ : ∃ a c, d2 = .slice a (slR ms zs).length c := D2.shapeT
          subst e2
          simp -implicitDefEqProofs
          refine CL_post (specUnitSlots_run (Ms.pre fp2) (Zs.pre fp2) (by omega) (by omega)) fun v f3 ⟨fp3, d3, ev, D3⟩ => ?_
          subst ev
          obtain ⟨ea', en', ec', rfl⟩ : ∃ a n c, d3 = .slice a n c := by obtain ⟨a, c, e⟩ := D3.shape; exact ⟨_, _, _, e⟩
          have q1' := rInts_run (D2.pre fp3) D3 (by have := @sl_len ms zs; omega)
          simp -implicitDefEqProofs [CL_ret q1']
          refine R_loopO (fun m s g3 => ∃ (i : Nat), i + m = zs.length ∧ s = [(42, .slice ma ms.length mc), (43, .slice za zs.length zc), (44, .slice sa (slR ms zs).length sc), (45, .bool (frOk ms zs)), (48, .int .i64 i)] ∧ g3 = f3) ?_ (n := zs.length) ⟨0, Nat.zero_add _, by simp, rfl⟩
          have F : h <+: f3 ∧ ms.length ≤ 9 ∧ zs.length ≤ 10 ∧ Jobs f3 (.slice ma ms.length mc) ms ∧ Ints f3 (.slice za zs.length zc) zs ∧ Ints f3 (.slice sa (slR ms zs).length sc) (slR ms zs) := ⟨hpg'.trans (fp1.trans (fp2.trans fp3)), hml, hzl, Ms.pre (fp2.trans fp3), Zs.pre (fp2.trans fp3), D2.pre fp3⟩
          revert F
          exact key2 ms zs ma mc za zc sa sc f3
    case key =>
      clear K X hkl hxl h01
      intro ms zs ma mc za zc sa sc f3 ⟨h03, hml, hzl, M, Z, S⟩ I hI m s g
      rintro ⟨i, hi, rfl, rfl⟩
      cases hf : frOk ms zs
      case false =>
        obtain ⟨va, h5, mk, H5, hp5, oa, rfl⟩ := make_B (Holds.start (h := g)) (n := zs.length) (by omega)
        have nk : newOk g h5 := newOk_of hp5 (make_nr nr_self mk)
        simp -implicitDefEqProofs [hf, mk, nk]
        refine R_loopO (fun m s g3 => ∃ (i : Nat), s = [(42, .slice ma ms.length mc), (43, .slice za zs.length zc), (44, .slice sa (slR ms zs).length sc), (45, .bool false), (49, .slice none 0 0), (50, .slice oa zs.length zs.length), (51, .int .i64 0)] ∧ g3 = h5) (fun I3 hI3 m3 s3 g3 => ?_) (n := 0) ⟨0, by simp [hf], rfl⟩
        rintro ⟨_, rfl, rfl⟩
        simp -implicitDefEqProofs
        exact gcP (h03.trans hp5) rfl
      have hfk := hf
      rw [frOk, Bool.and_eq_true] at hfk
      obtain ⟨hk, ht⟩ := hfk
      obtain ⟨hu, hin, hs⟩ := rkOk_of hk
      obtain ⟨hok, _⟩ := uOk_of hu
      obtain ⟨hn, hg, _⟩ := plOk_of hok
      have hzn := asc_len hs hin
      have Ol : (sOrd ms zs).length = zs.length := sortB_perm.length_eq
      have Operm : (sOrd ms zs).Perm zs := sortB_perm
      have Onn : (sOrd ms zs).Nodup := Operm.nodup_iff.2 (nd_asc hs)
      have Oin : inN ms.length (sOrd ms zs) := fun x hx => hin x (Operm.mem_iff.1 hx)
      have Otim := sOrd_tim hk ht
      have Os : (sOrd ms zs).Pairwise fun a b => dJ ms a ≤ dJ ms b := dAhL_d
      have Olex : (sOrd ms zs).Pairwise (Lex (dAh ms)) := sortB_sorted dAh_weak hs
      have eS : slR ms zs = zs.map (slF ms (sOrd ms zs)) := by rw [slR, hf, if_pos rfl]; rfl
      have hSl : (slR ms zs).length = zs.length := by rw [eS, List.length_map]
      rw [hSl, eS] at S
      rw [hSl] at hI ⊢
      have sbd : ∀ x, x ∈ zs → 1 ≤ slF ms (sOrd ms zs) x ∧ slF ms (sOrd ms zs) x ≤ dJ ms x := fun x hx => by
        have := slF_bd Otim (by rw [Ol]; omega) Oin Onn x (Operm.mem_iff.2 hx)
        omega
      have sinj : ∀ x y, x ∈ zs → y ∈ zs → slF ms (sOrd ms zs) x = slF ms (sOrd ms zs) y → x = y := fun x y hx hy => slF_inj Otim (by rw [Ol]; omega) Oin Onn x y (Operm.mem_iff.2 hx) (Operm.mem_iff.2 hy)
      have sdrop : ∀ k x, (sOrd ms zs)[k]? = some x → slF ms (sOrd ms zs) x = nxS ms ((sOrd ms zs).drop k) := fun k x hx => slF_drop Oin Onn hx
      generalize sOrd ms zs = O at *
      by_cases hlt : i < zs.length
      case pos =>
        have hlt' : (i : Int) < zs.length := by omega
        obtain ⟨x, hx, _⟩ := drop_at hlt
        have hxm := List.mem_of_getElem? hx
        have hsx : (zs.map (slF ms O))[i]? = some (slF ms O x) := by rw [List.getElem?_map, hx]; rfl
        have ls := load_I S hsx
        have lz := load_I Z hx
        have lj := load_JX M (hin x hxm)
        obtain ⟨b1, b2⟩ := sbd x hxm
        have edd : dJ ms x = (jA ms x).d := rfl
        rw [edd] at b2
        have c1 : ¬ slF ms O x < 1 := by omega
        have c2 : ¬ (jA ms x).d < slF ms O x := by omega
        obtain ⟨v3, s3, f3⟩ := S.front (P := P) u_S_int i_int (k := .i64) (j := (i : Int)) (by omega) (by simp; omega)
        rw [Int.toNat_natCast, ← List.map_take] at f3
        have f3 : Ints g v3 ((zs.map (slF ms O)).take i) := f3
        have rh := rHas_run (x := slF ms O x) f3 (by simp; omega)
        have hno : hasL (slF ms O x) ((zs.map (slF ms O)).take i) = false := by
          refine Bool.eq_false_iff.2 fun q => ?_
          obtain ⟨p, hp⟩ := List.getElem?_of_mem (hasL_iff.1 q)
          have hp1 := (List.getElem?_eq_some_iff.1 hp).1
          rw [List.length_take, List.length_map] at hp1
          rw [List.getElem?_take_of_lt (by omega), List.getElem?_map] at hp
          obtain ⟨y, hy, _⟩ := drop_at (show p < zs.length by omega)
          rw [hy] at hp
          simp only [Option.map_some, Option.some.injEq] at hp
          have := sinj y x (List.mem_of_getElem? hy) hxm hp
          subst this
          have := (List.getElem?_inj hlt (nd_asc hs)).1 (hx.trans hy.symm)
          omega
        rw [hno] at rh
        obtain ⟨va, vn, vcc, rfl⟩ : ∃ a n c, v3 = .slice a n c := by obtain ⟨a, c, e⟩ := f3.shape; exact ⟨_, _, _, e⟩
        simp -implicitDefEqProofs [-indexAddrP_some, hf, hlt, hlt', ls, lz, lj, c1, c2, s3, CL_ret rh, CH_at rh, winc hlt (by omega)]
        exact ⟨m - 1, by omega, on hI ⟨i + 1, by omega, by simp [hf], rfl⟩⟩
      case neg =>
        have hlt' : ¬ (i : Int) < zs.length := by omega
        obtain ⟨va, h5, mk, H5, hp5, oa, rfl⟩ := make_B (Holds.start (h := g)) (n := zs.length) (by omega)
        have nk : newOk g h5 := newOk_of hp5 (make_nr nr_self mk)
        have H6 := own_nil H5 Int encI 1
        have e0 : List.replicate zs.length false = zs.map fun x => hasL x (O.drop O.length) := by
          rw [List.drop_length]
          refine (List.eq_replicate_iff.2 ⟨by simp, fun b hb => ?_⟩).symm
          obtain ⟨_, _, rfl⟩ := List.mem_map.1 hb
          rfl
        have H6 : Holds g h5 [.own (.slice oa zs.length zs.length) 1 ((zs.map fun x => hasL x (O.drop O.length)).map encB), .own (.slice none 0 0) 1 ((usF ms (O.drop O.length)).map encI)] := by
          rw [← e0, List.drop_length]; exact H6
        simp -implicitDefEqProofs [hf, hlt, hlt', mk, nk]
        refine R_loopO (fun m s g3 => ∃ (vu : Value), m ≤ O.length ∧ s = [(42, .slice ma ms.length mc), (43, .slice za zs.length zc), (44, .slice sa zs.length sc), (45, .bool true), (49, vu), (50, .slice oa zs.length zs.length), (51, .int .i64 ((zs.length : Int) - m))] ∧ Holds g g3 [.own (.slice oa zs.length zs.length) 1 ((zs.map fun x => hasL x (O.drop m)).map encB), .own vu 1 ((usF ms (O.drop m)).map encI)]) (fun I3 hI3 m3 s3 g3 => ?_) (n := O.length)
          ⟨.slice none 0 0, Nat.le_refl _, by simp [Ol, hf], H6⟩
        clear H6 H5
        rintro ⟨vu, hm, rfl, H⟩
        by_cases hm0 : 0 < m3
        case neg =>
          have : m3 = 0 := by omega
          subst this
          simp -implicitDefEqProofs
          exact gcP (h03.trans H.pre) rfl
        have hm1 : (zs.length : Int) - m3 < zs.length := by omega
        have Mg := M.pre H.pre
        have Zg := Z.pre H.pre
        have Sg := S.pre H.pre
        obtain ⟨x0, hxO, hd⟩ := drop_at (show m3 - 1 < O.length by omega)
        rw [show m3 - 1 + 1 = m3 by omega] at hd
        have hx0z : x0 ∈ zs := Operm.mem_iff.1 (List.mem_of_getElem? hxO)
        have hfree : hasL x0 (O.drop m3) = false := by
          refine Bool.eq_false_iff.2 fun q => ?_
          have hp := Onn.sublist (List.drop_sublist (m3 - 1) O)
          rw [hd] at hp
          exact (List.nodup_cons.1 hp).1 (hasL_iff.1 q)
        have hbest : ∀ y, y ∈ zs → hasL y (O.drop m3) = false → y = x0 ∨ Lex (dAh ms) y x0 := fun y hy hyf => by
          obtain ⟨q, hq⟩ := List.getElem?_of_mem (Operm.mem_iff.2 hy)
          have hql := (List.getElem?_eq_some_iff.1 hq).1
          have hqm : q < m3 := by
            refine Nat.not_le.1 fun hle => ?_
            rw [hasL_iff.2 (List.mem_of_getElem? (i := q - m3) (by rw [List.getElem?_drop, show m3 + (q - m3) = q by omega]; exact hq))] at hyf
            cases hyf
          rcases Nat.lt_or_ge q (m3 - 1) with c | c
          · right
            have := List.pairwise_iff_getElem.1 Olex q (m3 - 1) hql (by omega) c
            rw [(List.getElem?_eq_some_iff.1 hq).2, (List.getElem?_eq_some_iff.1 hxO).2] at this
            exact this
          · left
            have : q = m3 - 1 := by omega
            subst this
            rw [hq] at hxO; cases hxO; rfl
        have hT := nxS_top hg (l := O.drop m3) (Os.sublist (List.drop_sublist ..))
        have hxt : dJ ms x0 ≤ topD ms (O.drop m3) := by
          have hp := List.Pairwise.sublist (List.drop_sublist (m3 - 1) O) Os
          rw [hd] at hp
          have := (List.pairwise_cons.1 hp).1
          cases q : O.drop m3 with
          | nil => exact d500 hg x0
          | cons y r => rw [q] at this; exact this y (List.mem_cons_self ..)
        have hsl : slF ms O x0 = min (nxS ms (O.drop m3) - 1) (dJ ms x0) := by rw [sdrop _ _ hxO, hd]; rfl
        have eus : usF ms (O.drop (m3 - 1)) = usF ms (O.drop m3) ++ [min (nxS ms (O.drop m3) - 1) (dJ ms x0)] := by rw [hd]; rfl
        have hb1 := @nxS_bd ms hg (O.drop m3)
        have hb2 := d500 hg x0
        have hb3 := dj_nn hg x0
        have hdl : (O.drop m3).length ≤ 2 ^ 10 := by rw [List.length_drop]; omega
        have ul := @usF_len ms (O.drop m3)
        have edrop : O.drop (m3 - 1) = x0 :: O.drop m3 := hd
        have SB : Sees g3 (.slice oa zs.length zs.length) 1 ((zs.map fun x => hasL x (O.drop m3)).map encB) := H.sees 0 rfl
        obtain ⟨ua, uc, rfl⟩ : ∃ a c, vu = .slice a (usF ms (O.drop m3)).length c := (H.sees 1 rfl : Ints g3 vu (usF ms (O.drop m3))).shapeT
        generalize O.drop m3 = R at *
        simp -implicitDefEqProofs [hm1, hm0]
        refine R_loopO (fun m s g4 => ∃ (q : Nat) (best : Int), q + m = zs.length ∧ s = [(42, .slice ma ms.length mc), (43, .slice za zs.length zc), (44, .slice sa zs.length sc), (45, .bool true), (49, .slice ua (usF ms R).length uc), (50, .slice oa zs.length zs.length), (51, .int .i64 ((zs.length : Int) - m3)), (52, .int .i64 best), (53, .int .i64 q)] ∧ g4 = g3 ∧
          ((best = -1 ∧ ∀ p x, p < q → zs[p]? = some x → hasL x R = true) ∨ ∃ (b : Nat) (y : Int), best = b ∧ b < q ∧ zs[b]? = some y ∧ hasL y R = false ∧ ∀ p x, p < q → zs[p]? = some x → hasL x R = false → (p ≤ b → dJ ms x ≤ dJ ms y) ∧ (b < p → dJ ms x < dJ ms y))) (fun I4 hI4 m4 s4 g4 => ?_) (n := zs.length)
          ⟨0, -1, Nat.zero_add _, by simp, rfl, .inl ⟨rfl, fun p x hp => by omega⟩⟩
        rintro ⟨q, best, hq, rfl, rfl, hbi⟩
        by_cases hlq : q < zs.length
        case pos =>
          have hlq' : (q : Int) < zs.length := by omega
          obtain ⟨x, hx, _⟩ := drop_at hlq
          have hxm := List.mem_of_getElem? hx
          have hDx : (zs.map fun x => hasL x R)[q]? = some (hasL x R) := by rw [List.getElem?_map, hx]; rfl
          have lb := load_B SB hDx
          have lz := load_I Zg hx
          have lj := load_JX Mg (hin x hxm)
          have edd : (jA ms x).d = dJ ms x := rfl
          rw [edd] at lj
          cases hdn : hasL x R
          case true =>
            rw [hdn] at lb
            simp -implicitDefEqProofs [-indexAddrP_some, hlq, hlq', lb, winc hlq (by omega)]
            refine ⟨m4 - 1, by omega, on hI4 ⟨q + 1, best, by omega, by simp, rfl, ?_⟩⟩
            rcases hbi with ⟨rfl, h1⟩ | ⟨b, y, rfl, h1, h2, h3, h4⟩
            · refine .inl ⟨rfl, fun p z hp hz => ?_⟩
              rcases Nat.lt_or_ge p q with c | c
              · exact h1 p z c hz
              · have : p = q := by omega
                subst this
                rw [hx] at hz; cases hz; exact hdn
            · refine .inr ⟨b, y, rfl, by omega, h2, h3, fun p z hp hz hzf => ?_⟩
              rcases Nat.lt_or_ge p q with c | c
              · exact h4 p z c hz hzf
              · have : p = q := by omega
                subst this
                rw [hx] at hz; cases hz
                rw [hdn] at hzf; cases hzf
          case false =>
            rw [hdn] at lb
            rcases hbi with ⟨rfl, h1⟩ | ⟨b, y, rfl, h1, h2, h3, h4⟩
            · simp -implicitDefEqProofs [-indexAddrP_some, hlq, hlq', lb, lz, lj, winc hlq (by omega)]
              refine ⟨m4 - 1, by omega, on hI4 ⟨q + 1, q, by omega, by simp, rfl, .inr ⟨q, x, rfl, by omega, hx, hdn, fun p z hp hz hzf => ?_⟩⟩⟩
              rcases Nat.lt_or_ge p q with c | c
              · rw [h1 p z c hz] at hzf; cases hzf
              · have : p = q := by omega
                subst this
                rw [hx] at hz; cases hz
                exact ⟨fun _ => Int.le_refl _, fun c => by omega⟩
            · have lzb := load_I Zg h2
              have ljb := load_JX Mg (hin y (List.mem_of_getElem? h2))
              have eddy : (jA ms y).d = dJ ms y := rfl
              rw [eddy] at ljb
              have nb0 : ¬ (b : Int) < 0 := by omega
              by_cases cd : dJ ms y ≤ dJ ms x
              · simp -implicitDefEqProofs [-indexAddrP_some, hlq, hlq', lb, lz, lj, lzb, ljb, nb0, cd, winc hlq (by omega)]
                refine ⟨m4 - 1, by omega, on hI4 ⟨q + 1, q, by omega, by simp, rfl, .inr ⟨q, x, rfl, by omega, hx, hdn, fun p z hp hz hzf => ?_⟩⟩⟩
                rcases Nat.lt_or_ge p q with c | c
                · obtain ⟨k1, k2⟩ := h4 p z c hz hzf
                  refine ⟨fun _ => ?_, fun c => by omega⟩
                  rcases Nat.lt_or_ge b p with c | c
                  · have := k2 c; omega
                  · have := k1 c; omega
                · have : p = q := by omega
                  subst this
                  rw [hx] at hz; cases hz
                  exact ⟨fun _ => Int.le_refl _, fun c => by omega⟩
              · simp -implicitDefEqProofs [-indexAddrP_some, hlq, hlq', lb, lz, lj, lzb, ljb, nb0, cd, winc hlq (by omega)]
                refine ⟨m4 - 1, by omega, on hI4 ⟨q + 1, b, by omega, by simp, rfl, .inr ⟨b, y, rfl, by omega, h2, h3, fun p z hp hz hzf => ?_⟩⟩⟩
                rcases Nat.lt_or_ge p q with c | c
                · exact h4 p z c hz hzf
                · have : p = q := by omega
                  subst this
                  rw [hx] at hz; cases hz
                  exact ⟨fun c => by omega, fun _ => by omega⟩
        case neg =>
          have hlq' : ¬ (q : Int) < zs.length := by omega
          obtain ⟨p0, hp0⟩ := List.getElem?_of_mem hx0z
          have hp0l := (List.getElem?_eq_some_iff.1 hp0).1
          have hbb : best = (p0 : Int) := by
            rcases hbi with ⟨rfl, h1⟩ | ⟨b, y, rfl, h1, h2, h3, h4⟩
            · rw [h1 p0 x0 (by omega) hp0] at hfree; cases hfree
            · obtain ⟨k1, k2⟩ := h4 p0 x0 (by omega) hp0 hfree
              rcases hbest y (List.mem_of_getElem? h2) h3 with rfl | hlex
              · have := (List.getElem?_inj hp0l (nd_asc hs)).1 (hp0.trans h2.symm)
                omega
              · exfalso
                have hb0 := (List.getElem?_eq_some_iff.1 h2).1
                have ed : dAh ms y x0 = decide (dJ ms y < dJ ms x0) := rfl
                have ed2 : dAh ms x0 y = decide (dJ ms x0 < dJ ms y) := rfl
                rcases hlex with g5 | ⟨g5, g6⟩
                · rw [ed, decide_eq_true_eq] at g5
                  rcases Nat.lt_or_ge b p0 with c | c
                  · have := k2 c; omega
                  · have := k1 c; omega
                · rw [ed2, decide_eq_false_iff_not] at g5
                  have hlt : b < p0 := by
                    refine Nat.not_le.1 fun hle => ?_
                    rcases Nat.eq_or_lt_of_le hle with e | c
                    · subst e; rw [hp0] at h2; cases h2; omega
                    · have := List.pairwise_iff_getElem.1 hs p0 b hp0l hb0 c
                      rw [(List.getElem?_eq_some_iff.1 hp0).2, (List.getElem?_eq_some_iff.1 h2).2] at this
                      omega
                  have := k2 hlt; omega
          subst hbb
          have lz0 := load_I Zg hp0
          have lj0 := load_JX Mg (hin x0 hx0z)
          have edd : (jA ms x0).d = dJ ms x0 := rfl
          rw [edd] at lj0
          generalize dJ ms x0 = dx at *
          generalize nxS ms R = nx at *
          generalize topD ms R = tp at *
          simp -implicitDefEqProofs [-indexAddrP_some, hlq, hlq', lz0, lj0]
          refine R_loopO (fun m2 s h2 => ∃ (e : Int), e + 1 ≤ nx + m2 ∧ s = [(42, .slice ma ms.length mc), (43, .slice za zs.length zc), (44, .slice sa zs.length sc), (45, .bool true), (49, .slice ua (usF ms R).length uc), (50, .slice oa zs.length zs.length), (51, .int .i64 ((zs.length : Int) - m3)), (52, .int .i64 p0), (54, .int .i64 e)] ∧ h2 = g4 ∧ e ≤ dx ∧ min (nx - 1) dx ≤ e) (fun I5 hI5 m5 s5 g5 => ?_) (n := (dx + 1 - nx).toNat)
            ⟨dx, by omega, by simp, rfl, by omega, by omega⟩
          rintro ⟨e, he, rfl, rfl, he1, he2⟩
          have rh := rHas_run (x := e) (H.sees 1 rfl : Ints g5 _ (usF ms R)) (by omega)
          have we : IntKind.i64.wrap (e - 1) = e - 1 := by rw [wrap_ok] <;> omega
          cases c4 : hasL e (usF ms R)
          case true =>
            have := hT.1 e (hasL_iff.1 c4)
            rw [c4] at rh
            simp -implicitDefEqProofs [CL_ret rh, we]
            exact ⟨m5 - 1, by omega, on hI5 ⟨e - 1, by omega, rfl, rfl, by omega, by omega⟩⟩
          case false =>
            have hne : ¬ nx ≤ e := fun q => by
              rw [hasL_iff.2 (hT.2 e q (by omega))] at c4; cases c4
            have ee : e = min (nx - 1) dx := by omega
            rw [c4] at rh
            rw [← ee] at hsl eus
            have ls := load_I Sg (show (zs.map (slF ms O))[p0]? = some e by rw [List.getElem?_map, hp0, ← hsl]; rfl)
            have li := (load_B SB (show (zs.map fun x => hasL x R)[p0]? = some (hasL x0 R) by rw [List.getElem?_map, hp0]; rfl)).1
            obtain ⟨h5', s5, H5, k5⟩ := put_B H 0 rfl (j := p0) (by simp; omega) true
            have eD : (zs.map fun x => hasL x R).set p0 true = zs.map fun x => hasL x (x0 :: R) := by
              refine List.ext_getElem? fun q => ?_
              rw [List.getElem?_set, List.getElem?_map, List.getElem?_map]
              by_cases c : p0 = q
              · subst c
                rw [if_pos rfl, if_pos (by simp; omega), hp0]
                simp [hasL]
              · rw [if_neg c]
                cases hz : zs[q]? with
                | none => rfl
                | some z =>
                  have hzx : ¬ x0 = z := fun e9 => by
                    subst e9
                    exact c ((List.getElem?_inj hp0l (nd_asc hs)).1 (hp0.trans hz.symm))
                  have hzx' : (x0 == z) = false := nb hzx
                  simp only [Option.map_some, hasL, List.any_cons, hzx', Bool.false_or]
            rw [eD] at H5
            obtain ⟨w', h6, ha, H6, _⟩ := push_I0 H5 1 rfl e (by omega)
            rw [← eus, ← edrop] at H6
            have wm : IntKind.i64.wrap ((zs.length : Int) - m3 + 1) = (zs.length : Int) - (m3 - 1 : Nat) := by rw [wrap_ok] <;> omega
            simp -implicitDefEqProofs [-indexAddrP_some, CL_ret rh, ls, li, s5, ha, wm]
            exact ⟨m3 - 1, by omega, on hI3 ⟨w', by omega, by simp, H6⟩⟩
end Go.Pm.PP

/- Best orders: exchanging downwards. -/
set_option linter.unusedVariables false
set_option linter.unusedSimpArgs false
set_option maxRecDepth 4000
set_option maxHeartbeats 8000000
namespace Go.Pm.PP
open Go.Pm Go.Proofs Go.Pm.PE
section
variable {h : Hp} {v u : Value} {js : List Job} {xs : List Int} {o : Int}
end
end Go.Pm.PP

/- FnBestOrders in the small machine. -/
set_option linter.unusedVariables false
set_option linter.unusedSimpArgs false
set_option maxRecDepth 4000
set_option maxHeartbeats 8000000
namespace Go.Pm.PP
open Go.Pm Go.Proofs Go.Pm.PE
end Go.Pm.PP

/- A code of bytes as an argument, opened as a row. -/
set_option linter.unusedVariables false
set_option linter.unusedSimpArgs false
set_option maxRecDepth 4000
namespace Go.Pm
open Go.ChangeShapes Go.WideShapes
section
variable {P : Program} {H : Type} {enc : TypeId × Value → H} {w : World} {base : Nat} {held : Bool}
theorem flat_encU (xs : List Int) : (xs.map PP.encU).flatten = xs.map fun x => .int .u8 x := by
  induction xs with
  | nil => rfl
  | cons x xs ih => rw [List.map_cons, List.flatten_cons, ih]; rfl
/-- A slice of bytes. -/
theorem shows_bytes {t e : TypeId} {fuel : Nat} {v : Value} {x : DataW H × List MemPlace} (ht : P.underlying t = some (.slice e)) (he : P.underlying e = some (.int .u8)) (hc : P.cellsOf e = 1)
    (hd : DataW.trod enc P w base (fun _ => true) held fuel t [v] = some x) : ∃ xs : List Int, xs.length ≤ maxLen ∧ (∀ b, b ∈ xs → (Lit.int .u8 b).wf = true) ∧ ∀ (ρ : Mp) (h : Hp), Shows ρ h w 1 (xs.map PP.encU) v := by
  rcases open_ints ht he hc hd with ⟨h1, _⟩ | ⟨a, len, cap, zs, h1, _, hl, hm, hz, _, hcell, hwf⟩
  · cases h1
    exact ⟨[], by simp, by simp, fun ρ h => .inl ⟨rfl, rfl⟩⟩
  · cases h1
    simp only [if_true] at hz
    have hlen : (zs.take len).length = len := by rw [List.length_take]; omega
    refine ⟨zs.take len, by omega, fun b hb => hwf b (List.mem_of_mem_take hb), fun ρ h => .inr ⟨a, cap, by rw [List.length_map, hlen], by rw [List.length_map, hlen]; exact hl, ?_, fun k c hk => ?_⟩⟩
    · rcases Nat.eq_zero_or_pos cap with h0 | h0
      · exact .inl h0
      · right
        have := hcell 0 (by omega)
        unfold World.cell? at this
        simp only [Addr.add, if_true] at this
        cases hs : a.spot with
        | none => rfl
        | some s =>
          rw [hs] at this
          split at this <;> simp at this
    · rw [flat_encU, List.getElem?_map] at hk
      obtain ⟨z, hz2, rfl⟩ := Option.map_eq_some_iff.1 hk
      have hk1 := (List.getElem?_eq_some_iff.1 hz2).1
      rw [List.getElem?_take, if_pos (by omega)] at hz2
      refine ⟨_, hcell k (by omega), ?_⟩
      rw [List.getD_eq_getElem?_getD, hz2]
      exact .int _ _
end
end Go.Pm
namespace Go.Pm.PP
open Go.Pm Go.Proofs
theorem follows : P.follows .mixedOrders = true := by kernel_rfl
theorem cells_u8 : P.cellsOf t_u8 = 1 := by kernel_rfl
theorem byte_of {b : Int} (h : (Lit.int .u8 b).wf = true) : 0 ≤ b ∧ b ≤ 255 := by
  simp [Lit.wf, IntKind.min, IntKind.max, IntKind.signed, IntKind.bits] at h
  omega
section
variable {H : Type} {enc : TypeId × Value → H} {W : World} {ρ : Mp} {h : Hp} {v : Value} {n0 : Nat} {x0 : DataW H × List MemPlace}
theorem open_bytes (R : Rel ρ h W) (ha : AllRo h) (d0 : DataW.trod enc P W 0 (fun _ => true) true n0 t_S_u8 [v] = some x0) :
    ∃ (h2 : Hp) (ρ2 : Mp) (p : Value) (xs : List Int), h <+: h2 ∧ Rel ρ2 h2 W ∧ AllRo h2 ∧ Step ρ h ρ2 h2 ∧ VR ρ2 h2 p v ∧ Sees h2 p 1 (xs.map encU) ∧ ∀ b, b ∈ xs → 0 ≤ b ∧ b ≤ 255 := by
  obtain ⟨xs, l0, hw, s0⟩ := shows_bytes (P := P) (v := v) u_S_u8 u_u8 cells_u8 d0
  obtain ⟨h2, ρ2, p, q, R2, a2, t, r, N⟩ := add_slice (w := W) (len_U xs) R ha (s0 ρ h)
  exact ⟨h2, ρ2, p, xs, q, R2, a2, t, r, N, fun b hb => byte_of (hw b hb)⟩
end
end Go.Pm.PP
