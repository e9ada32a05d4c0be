/- The texts PvHh, PvHi of this work: FnVectors, from its draws. -/
import Derived.Test.YtcmbjbddjlamaaaP10
import Derived.Test.YtcmbjbddjlamaaaP9
/- FnVectors, from its draws. -/
set_option linter.unusedVariables false
set_option linter.unusedSimpArgs false
set_option maxRecDepth 4000
set_option maxHeartbeats 16000000
namespace Go.Pm.PP
open Go.Pm Go.Proofs Go.Pm.PE
theorem rIntsG_run {h : Hp} {v u : Value} {xs ys : List Int} (X : Ints h v xs) (Y : Ints h u ys) (hb : xs.length ≤ 2 ^ 40) : Ret P G n_laws_rInts [v, u] h (.bool (xs == ys)) h := by
  by_cases hl : xs.length = ys.length
  case neg =>
    refine enter_run e_laws_rInts (by simp) ?_
    obtain ⟨ox, cx, rfl⟩ := X.shapeT
    obtain ⟨oy, cy, rfl⟩ := Y.shapeT
    have e : (xs == ys) = false := by
      rw [beq_eq_false_iff_ne]
      intro g; exact hl (by rw [g])
    simp -implicitDefEqProofs [hl, e, nt (show ¬ (xs.length : Int) = ys.length by omega)]
    try simpa using e
  refine enter_run e_laws_rInts (by simp) ?_
  have Xs := X
  have Ys := Y
  obtain ⟨ox, cx, rfl⟩ := X.shapeT
  obtain ⟨oy, cy, rfl⟩ := Y.shapeT
  rw [hl] at Xs hb
  simp -implicitDefEqProofs [hl]
  refine R_loopO (fun m s h' => ∃ (i : Nat), i + m = ys.length ∧ s = [(0, .slice ox ys.length cx), (1, .slice oy ys.length cy), (5, .int .i64 i)] ∧ (xs == ys) = (xs.drop i == ys.drop i) ∧ h' = h) (fun I hI m s h' => ?_) (n := ys.length) ⟨0, Nat.zero_add _, by simp [hl], rfl, rfl⟩
  rintro ⟨i, hi, rfl, hx, rfl⟩
  by_cases hlt : i < ys.length
  · have hlx : i < xs.length := by omega
    have hlt' : (i : Int) < ys.length := by omega
    obtain ⟨a, ha, hda⟩ := drop_at hlx
    obtain ⟨b, hb', hdb⟩ := drop_at hlt
    rw [hda, hdb] at hx
    by_cases c : a = b
    · subst c
      have hx : (xs == ys) = (xs.drop (i + 1) == ys.drop (i + 1)) := by rw [hx]; simp
      simp -implicitDefEqProofs [-indexAddrP_some, hlt, hlt', load_I Xs ha, load_I Ys hb', winc hlt (by omega)]
      exact ⟨m - 1, by omega, on hI ⟨i + 1, by omega, rfl, hx, rfl⟩⟩
    · have hx : (xs == ys) = false := by rw [hx]; simp [c]
      simp -implicitDefEqProofs [-indexAddrP_some, hlt, hlt', load_I Xs ha, load_I Ys hb', nb c, nt c]
      simpa using hx
  · have hlt' : ¬ (i : Int) < ys.length := by omega
    rw [List.drop_eq_nil_of_le (by omega), List.drop_eq_nil_of_le (by omega)] at hx
    have hx : (xs == ys) = true := hx
    simp -implicitDefEqProofs [hlt, hlt']
    simpa using hx
def DShort : Prop := ∀ {h : Hp} {vc : Value}, By h vc → RunsC P G n_spec_DrawShortSet [vc] h fun v h' => h <+: h' ∧ ∃ (js : List Job) (es : List Int) (u w : Value), v = .tuple #[u, w] ∧ js.length ≤ 9 ∧ es.length ≤ 12 ∧ Jobs h' u js ∧ Ints h' w es
def DMix : Prop := ∀ {h : Hp} {vc : Value}, By h vc → RunsC P G n_spec_DrawMixVectors [vc] h fun v h' => h <+: h' ∧ ∃ (js : List Job) (a b : List Int) (x y : Int) (u w z : Value), v = .tuple #[u, w, z, .int .i64 x, .int .i64 y] ∧ js.length ≤ 9 ∧ a.length ≤ 12 ∧ b.length ≤ 12 ∧ Jobs h' u js ∧ Ints h' w a ∧ Ints h' z b
theorem shX_len {js : List Job} {es : List Int} : ((shX js es).getD []).length ≤ es.length := by
  unfold shX
  split
  · cases hs : shV js es with
    | none => simp
    | some s =>
      obtain ⟨k, hk, rfl, _⟩ := shV_some hs
      rw [Option.getD_some, firstS_len hk.2]; exact hk.2
  · simp
theorem mxX_len {js : List Job} {a b : List Int} {x y : Int} : ((mxX js a b x y).getD []).length ≤ js.length := by
  unfold mxX mxL
  split
  · split <;> simp
  · simp
theorem law_Vectors_of (dS : @DShort) (dM : @DMix) {h : Hp} {vc : Value} {bs : List Int} (Sb : Sees h vc 1 (bs.map encU)) (hb : ∀ b, b ∈ bs → 0 ≤ b ∧ b ≤ 255) : Ret P G n_laws_FnVectors [vc] h (.bool true) h := by
  refine enter_run e_laws_FnVectors (by simp) ?_
  have r0 := rBig_run Sb
  by_cases c0 : (65536 : Int) < bs.length
  · simp -implicitDefEqProofs [CL_ret r0, c0]
  have B : By h vc := ⟨bs, Sb, hb, by omega⟩
  have Sbs := Sb
  obtain ⟨ob, cb, rfl⟩ := Sb.shapeT
  simp -implicitDefEqProofs [CL_ret r0, c0]
  refine CL_post (dS B) fun v h1 ⟨hp1, js, es, u, w, ev, hjl, hel, J, E⟩ => ?_
  subst ev
  have l1 : js.length ≤ 2 ^ 40 := by omega
  have l2 : es.length ≤ 2 ^ 40 := by omega
  have Js := J
  have Es := E
  obtain ⟨ja, jc, rfl⟩ := J.shapeT
  obtain ⟨ea, ec, rfl⟩ := E.shapeT
  simp -implicitDefEqProofs
  refine CL_post (implShortSet_run Js Es l1 l2) fun v h2 ⟨hp2, d1, ev, D1⟩ => ?_
  subst ev
  have hXl := @shX_len js es
  have D1s := D1
  obtain ⟨da, dn, dc, rfl⟩ : ∃ a n c, d1 = .slice a n c := by obtain ⟨a, c, e⟩ := D1.shape; exact ⟨_, _, _, e⟩
  simp -implicitDefEqProofs
  refine CL_post (specShortSet_run (Js.pre hp2) (Es.pre hp2) l1 l2) fun v h3 ⟨hp3, d2, ev, D2⟩ => ?_
  subst ev
  have hp23 := hp2.trans hp3
  have D1' := D1s.pre hp3
  have q1 := rInts_run D1' D2 (by omega)
  obtain ⟨ea2, en2, ec2, rfl⟩ : ∃ a n c, d2 = .slice a n c := by obtain ⟨a, c, e⟩ := D2.shape; exact ⟨_, _, _, e⟩
  have J3 := Js.pre hp23
  have E3 := Es.pre hp23
  have r1 := implIsBalanced_run J3 E3 l1 l2
  have r2 := specIsBalanced_run J3 E3 l1 l2
  have r3 := implIsOrderVector_run J3 E3 l1 l2
  have r4 := specIsOrderVector_run J3 E3 l1 l2
  have hp03 := hp1.trans hp23
  -- a short set bars balance; an order's vector is balanced
  have f1 : (shX js es).isSome = true → balB js es = false := fun g => by
    have : shV js es ≠ none := by
      unfold shX at g
      split at g
      · intro e; rw [e] at g; cases g
      · cases g
    unfold balB
    cases hs : shV js es with
    | none => exact absurd hs this
    | some s => simp
  have f2' : ordB js es = true → balB js es = true := ord_bal
  have f3 : ∀ s : List Int, veOk js es = true → s.Nodup → inN js.length s → ((shX js es).isSome = false → demL js s ≤ supL js es s) ∧ ((shX js es).isSome = true → (s == (shX js es).getD []) = true → supL js es s < demL js s) := fun s hok hnd hin => by
    have e : shX js es = shV js es := by rw [shX, hok, if_pos rfl]
    rw [e]
    refine ⟨fun g => no_short hok (by cases hs : shV js es with | none => rfl | some s => rw [hs] at g; cases g) hnd hin, fun g g2 => ?_⟩
    cases hs : shV js es with
    | none => rw [hs] at g; cases g
    | some s' =>
      rw [hs, Option.getD_some, beq_iff_eq] at g2
      subst g2
      obtain ⟨k, hk, e2, hb⟩ := shV_some hs
      rw [e2]
      unfold shortB at hb
      simpa using hb
  have f4 : veOk js es = false → (shX js es).isSome = false ∧ balB js es = false ∧ ordB js es = false := fun g => by
    refine ⟨by rw [shX, g]; rfl, by rw [balB, g]; rfl, by rw [ordB, g]; rfl⟩
  generalize shX js es = X at *
  have comb : (veOk js es = false ∧ X.isSome = false ∧ balB js es = false ∧ ordB js es = false) ∨ (veOk js es = true ∧ ((X.isSome = false ∧ balB js es = false ∧ ordB js es = false) ∨ (X.isSome = false ∧ balB js es = true ∧ ordB js es = false) ∨ (X.isSome = false ∧ balB js es = true ∧ ordB js es = true) ∨ (X.isSome = true ∧ balB js es = false ∧ ordB js es = false))) := by
    cases hk : veOk js es
    · exact .inl ⟨rfl, f4 hk⟩
    · right
      refine ⟨rfl, ?_⟩
      cases hs : X.isSome <;> cases hb2 : balB js es <;> cases ho : ordB js es <;> simp
      · exact absurd (f2' ho) (by rw [hb2]; simp)
      · exact absurd (f2' ho) (by rw [hb2]; simp)
      · exact absurd (f1 hs) (by rw [hb2]; simp)
      · exact absurd (f1 hs) (by rw [hb2]; simp)
  have Sb3 := Sbs.pre hp03
  obtain ⟨M, hM⟩ : ∃ M : Nat, M = 2 ^ js.length := ⟨_, rfl⟩
  have rg : ∀ {h' : Hp} {d u : Value} {xs ys : List Int}, Ints h' d xs → Ints h' u ys → xs.length ≤ 2 ^ 40 → Ret P G n_laws_rInts [d, u] h' (.bool (xs == ys)) h' := fun a b c => rIntsG_run a b c
  have goal : ∀ {Y : Prop}, (∀ sv bv ov : Bool, X.isSome = sv → balB js es = bv → ordB js es = ov → True) → True := fun _ => trivial
  rcases comb with ⟨hk, hs, hbv, ho⟩ | ⟨hk, hc⟩
  case' inl =>
    rw [hk, hbv] at r1 r2
    rw [hk, ho] at r3 r4
    rw [hs]
    obtain ⟨h', e', hp'⟩ : ∃ h', h3 = h' ∧ h3 <+: h' := ⟨h3, rfl, List.prefix_rfl⟩
    simp -implicitDefEqProofs [CL_ret q1, CL_ret r1, CL_ret r2, CL_ret r3, CL_ret r4, hs]
    rw [e']
  case' inr =>
    obtain ⟨hn, hg⟩ := (veOk_of hk).2.1
    have hpl := (veOk_of hk).1
    have sh := shl_eq (i := js.length) (by omega)
    rw [← hM] at sh
    have hM1 : 1 ≤ M ∧ M ≤ 256 := by
      rw [hM]
      exact ⟨Nat.one_le_two_pow, Nat.pow_le_pow_right (by omega) hn⟩
    rcases hc with ⟨hs, hbv, ho⟩ | ⟨hs, hbv, ho⟩ | ⟨hs, hbv, ho⟩ | ⟨hs, hbv, ho⟩
    all_goals
      rw [hk, hbv] at r1 r2
      rw [hk, ho] at r3 r4
      rw [hs]
      simp -implicitDefEqProofs [CL_ret q1, CL_ret r1, CL_ret r2, CL_ret r3, CL_ret r4, hs]
      refine R_loopO (fun m s h' => ∃ i : Nat, 1 ≤ i ∧ i + m = M ∧ s = [(0, .slice ob bs.length cb), (3, .slice ja js.length jc), (4, .slice ea es.length ec), (5, .slice da dn dc), (6, .bool X.isSome), (17, .int .i64 i)] ∧ h3 <+: h') (fun I hI m s h' => ?_) (n := M - 1) ⟨1, by omega, by omega, by simp [hs], List.prefix_rfl⟩
      rintro ⟨i, hi1, hi, rfl, hp'⟩
      by_cases hlt : i < M
      case' neg =>
        have hlt' : ¬ (i : Int) < M := by omega
        simp -implicitDefEqProofs [hlt, hlt', sh]
      case pos =>
        have hlt' : (i : Int) < M := by omega
        have i60 : i < 2 ^ 60 := by omega
        have H0 := own_nil (Holds.start (h := h')) Int encI 1
        simp -implicitDefEqProofs [hlt, hlt', sh]
        refine R_loopO (fun m2 s2 h2 => ∃ (j : Nat) (u : Value), j + m2 = js.length ∧ s2 = [(0, .slice ob bs.length cb), (3, .slice ja js.length jc), (4, .slice ea es.length ec), (5, .slice da dn dc), (6, .bool X.isSome), (17, .int .i64 i), (18, u), (19, .int .i64 j)] ∧ Holds h' h2 [.own u 1 ((bitsL j i).map encI)]) (fun I2 hI2 m2 s2 h2 => ?_) (n := js.length) ⟨0, .slice none 0 0, by omega, by simp [hs], by simpa [bitsL] using H0⟩
        rintro ⟨j, u, hj, rfl, H⟩
        by_cases hltj : j < js.length
        · have bl := @bits_len j i
          have bsn := @bits_snoc j i
          have bv := bit_val (i := j) i60
          cases ct : i.testBit j
          · rw [ct, if_neg (by simp)] at bsn bv
            rw [List.append_nil] at bsn
            simp -implicitDefEqProofs [hltj, shr_eq i60, bv, winc hltj (by omega)]
            exact ⟨m2 - 1, by omega, on hI2 ⟨j + 1, u, by omega, by simp, by rw [bsn]; exact H⟩⟩
          · rw [ct, if_pos rfl] at bsn bv
            obtain ⟨v', h4, ha, H4, _⟩ := push_I0 H 0 rfl (j : Int) (by omega)
            simp -implicitDefEqProofs [hltj, shr_eq i60, bv, ha, winc hltj (by omega)]
            exact ⟨m2 - 1, by omega, on hI2 ⟨j + 1, v', by omega, by simp, by rw [bsn]; exact H4⟩⟩
        · have : j = js.length := by omega
          subst this
          have S : Ints h2 u (bitsL js.length i) := H.sees 0 rfl
          have p3 := hp'.trans H.pre
          have hasc := @bits_asc js.length i
          have hin : inN js.length (bitsL js.length i) := fun x hx => by have := mem_bits.1 hx; omega
          have hbl := @bits_len js.length i
          have e1 := implDemandOf_good (J3.pre p3) S hpl hasc hin (by omega)
          have e2 := implSupplyOf_good (J3.pre p3) (E3.pre p3) S hk hasc hin (by omega)
          have e3 := specDemandOf_good (J3.pre p3) S hpl hasc hin (by omega)
          have e4 := rg S (D1'.pre p3) (by omega)
          obtain ⟨g1, g2⟩ := f3 _ hk bits_nodup hin
          generalize bitsL js.length i = lst at *
          obtain ⟨ou, nu, cu, rfl⟩ : ∃ a n c, u = .slice a n c := by obtain ⟨a, c, e⟩ := S.shape; exact ⟨_, _, _, e⟩
          have fin : ∃ m', m' < m ∧ I m' [(0, .slice ob bs.length cb), (3, .slice ja js.length jc), (4, .slice ea es.length ec), (5, .slice da dn dc), (6, .bool X.isSome), (17, .int .i64 ((i + 1 : Nat) : Int))] h2 := ⟨m - 1, by omega, on hI ⟨i + 1, by omega, by omega, rfl, p3⟩⟩
          rw [hs] at fin
          have wi := winc hlt (show M ≤ 2 ^ 40 by omega)
          first
          | (have g1 := g1 hs
             have n1 : ¬ supL js es lst < demL js lst := by omega
             simp -implicitDefEqProofs [hltj, CL_ret e1, CL_ret e2, CL_ret e3, hs, n1, wi]
             exact fin)
          | (have g2 := g2 hs
             cases ce : (lst == X.getD [])
             · rw [ce] at e4
               simp -implicitDefEqProofs [hltj, CL_ret e1, CL_ret e2, CL_ret e3, hs, CL_ret e4, wi]
               exact fin
             · rw [ce] at e4
               have g2 := g2 ce
               have n1 : ¬ demL js lst ≤ supL js es lst := by omega
               simp -implicitDefEqProofs [hltj, CL_ret e1, CL_ret e2, CL_ret e3, hs, CL_ret e4, n1, wi]
               exact fin)
  all_goals
    have ph := hp03.trans hp'
    refine CL_post (dM ⟨bs, Sbs.pre ph, hb, by omega⟩) fun v h5 ⟨hp5, ks, a, b, x, y, u5, w5, z5, ev, hkl, hal, hbl, K5, A5, B5⟩ => ?_
    subst ev
    have k1 : ks.length ≤ 2 ^ 40 := by omega
    have k2 : a.length ≤ 2 ^ 40 := by omega
    have k3 : b.length ≤ 2 ^ 40 := by omega
    have K5s := K5
    have A5s := A5
    have B5s := B5
    obtain ⟨ka, kc, rfl⟩ := K5.shapeT
    obtain ⟨aa, ac, rfl⟩ := A5.shapeT
    obtain ⟨ba, bc, rfl⟩ := B5.shapeT
    simp -implicitDefEqProofs
    refine CL_post (implMixVectors_run (x := x) (y := y) K5s A5s B5s k1 k2 k3) fun v h6 ⟨hp6, d6, ev, D6⟩ => ?_
    subst ev
    have D6s := D6
    obtain ⟨fa, fn, fc, rfl⟩ : ∃ a n c, d6 = .slice a n c := by obtain ⟨a, c, e⟩ := D6.shape; exact ⟨_, _, _, e⟩
    simp -implicitDefEqProofs
    refine CL_post (specMixVectors_run (x := x) (y := y) (K5s.pre hp6) (A5s.pre hp6) (B5s.pre hp6) k1 k2 k3) fun v h7 ⟨hp7, d7, ev, D7⟩ => ?_
    subst ev
    have p57 := hp6.trans hp7
    have hcl := @mxX_len ks a b x y
    have D6' := D6s.pre hp7
    have q2 := rInts_run D6' D7 (by omega)
    obtain ⟨ga, gn, gc', rfl⟩ : ∃ a n c, d7 = .slice a n c := by obtain ⟨a, c, e⟩ := D7.shape; exact ⟨_, _, _, e⟩
    have b1 := implIsBalanced_run (K5s.pre p57) (A5s.pre p57) k1 k2
    have b2 := implIsBalanced_run (K5s.pre p57) (B5s.pre p57) k1 k3
    have b3 := implIsBalanced_run (K5s.pre p57) D6' k1 (by omega)
    have pall := ph.trans (hp5.trans p57)
    have hmb := fun c => @mix_bal ks a b c x y
    have hmo : ∀ c, mxX ks a b x y = some c → veOk ks a = true ∧ veOk ks b = true := fun c hc => by
      have hok : mvOk ks a b x y = true := by
        cases e : mvOk ks a b x y
        · rw [mxX, e] at hc; cases hc
        · rfl
      exact ⟨(mvOk_of hok).1, (mvOk_of hok).2.1⟩
    generalize mxX ks a b x y = Y at *
    cases Y with
    | none =>
      simp -implicitDefEqProofs [CL_ret q2]
      exact gcP pall rfl
    | some c =>
      obtain ⟨v1, v2⟩ := hmo c rfl
      obtain ⟨v3, hb3⟩ := hmb c rfl
      rw [Option.getD_some] at b3
      rw [v1] at b1
      rw [v2] at b2
      rw [v3] at b3
      cases w1 : balB ks a
      · rw [w1] at b1
        simp -implicitDefEqProofs [CL_ret q2, CL_ret b1, CL_ret b2, CL_ret b3]
        exact gcP pall rfl
      · cases w2 : balB ks b
        · rw [w1] at b1
          rw [w2] at b2
          simp -implicitDefEqProofs [CL_ret q2, CL_ret b1, CL_ret b2, CL_ret b3]
          exact gcP pall rfl
        · rw [w1] at b1
          rw [w2] at b2
          rw [hb3 w1 w2] at b3
          simp -implicitDefEqProofs [CL_ret q2, CL_ret b1, CL_ret b2, CL_ret b3]
          exact gcP pall rfl
end Go.Pm.PP

/- FnVectors: its draws. -/
set_option linter.unusedVariables false
set_option linter.unusedSimpArgs false
set_option maxRecDepth 4000
set_option maxHeartbeats 16000000
namespace Go.Pm.PP
open Go.Pm Go.Proofs Go.Pm.PE
section
variable {h0 h : Hp} {r n : Nat} {vc : Value} {L T : List Asn}
theorem Cur.putI {u : Value} {xs : List Int} (C : Cur h0 h r vc n (L ++ [.own u 1 (xs.map encI)])) {k : Nat} (hk : k < xs.length) (x : Int) : ∃ h', storeP P h t_int (.int .i64 x) (.pointer (some (addP (base u) k))) = some h' ∧ Cur h0 h' r vc n (L ++ [.own u 1 ((xs.set k x).map encI)]) := by
  obtain ⟨a, s, h1, h2, H⟩ := C
  obtain ⟨h', g1, g2, _⟩ := put_I H (L.length + 1) (by rw [List.getElem?_cons_succ]; exact snoc_get) hk x
  refine ⟨h', g1, a, s, h1, h2, ?_⟩
  rw [List.set_cons_succ, List.set_append_right (h := Nat.le_refl _), Nat.sub_self] at g2
  exact g2
theorem Cur.pushI {u : Value} {xs : List Int} (C : Cur h0 h r vc n (L ++ [.own u 1 (xs.map encI)])) (x : Int) (hl : xs.length ≤ 2 ^ 30) : ∃ u' h', appendP P (h ++ [some ⟨[.int .i64 x], 1, false⟩]) t_S_int u (.slice (some ⟨h.length, 0, some 1⟩) 1 1) = some (u', h') ∧ Cur h0 h' r vc n (L ++ [.own u' 1 ((xs ++ [x]).map encI)]) := by
  obtain ⟨a, s, g1, g2, H⟩ := C
  obtain ⟨u', h5, g3, g4, _⟩ := push_I0 H (L.length + 1) (by rw [List.getElem?_cons_succ]; exact snoc_get) x (by omega)
  rw [List.set_cons_succ, List.set_append_right (h := Nat.le_refl _), Nat.sub_self] at g4
  exact ⟨u', h5, g3, a, s, g1, g2, g4⟩
theorem Cur.seesAt {i : Nat} {u : Value} {sz : Nat} {els : List (List Value)} (C : Cur h0 h r vc n (L ++ T)) (hi : L[i]? = some (.own u sz els)) : Sees h u sz els := by
  obtain ⟨a, s, h1, h2, H⟩ := C
  exact H.sees (i + 1) (by rw [List.getElem?_cons_succ, List.getElem?_append_left (List.getElem?_eq_some_iff.1 hi).1]; exact hi)
theorem ends_run (B : By h0 vc) {u : Value} {js : List Job} {i : Nat} (C : Cur h0 h r vc n L) (hi : L[i]? = some (.own u 4 (js.map encJ))) (hj : js.length ≤ 9) (hn : n ≤ 2 ^ 18) :
    RunsC P G n_spec_l1Cur_ends [.pointer (some ⟨r, 0, some 3⟩), u] h fun v h' => ∃ es : List Int, es.length ≤ 10 ∧ Cur h0 h' r vc (n + 100) (L ++ [.own v 1 (es.map encI)]) := by
  refine hideC fun K hK => enter_run e_spec_l1Cur_ends (by simp) ?_
  have J : Jobs h u js := by
    have C' : Cur h0 h r vc n (L ++ []) := by rw [List.append_nil]; exact C
    exact C'.seesAt hi
  obtain ⟨ja, jc, rfl⟩ : ∃ a c, u = .slice a js.length c := J.shapeT
  simp -implicitDefEqProofs
  refine CL_post (order_run B C (by omega) (N := js.length) (by omega)) fun w h1 ⟨xs, hxl, C1⟩ => ?_
  obtain ⟨xa, xc, rfl⟩ : ∃ a c, w = .slice a xs.length c := C1.seesI.shapeT
  have rt := l2Two_run (C1.seesAt hi : Jobs h1 _ js) C1.seesI (by omega) (by omega)
  cases hb : (jOk js && l2OrderL js.length xs)
  case' false =>
    rw [hb] at rt
    have C2 : Cur h0 h1 r vc (n + 30) L := C1.weak.mono (by omega)
    simp -implicitDefEqProofs [CL_ret rt]
    obtain ⟨h2, hh2⟩ : ∃ h2, h2 = h1 := ⟨_, rfl⟩
    rw [← hh2] at C2 ⊢
  case' true =>
    rw [hb] at rt
    simp -implicitDefEqProofs [CL_ret rt]
    refine CL_post (one_run B C1 (by omega) (k := 6) (by omega)) fun v h2 ⟨b, ev, C2'⟩ => ?_
    subst ev
    cases b
    case' true =>
      have C2 : Cur h0 h2 r vc (n + 30) L := C2'.weak.mono (by omega)
      simp -implicitDefEqProofs
    case' false =>
      rw [Bool.and_eq_true] at hb
      obtain ⟨hn8, hg⟩ := jOk_of hb.1
      have ox := ord_of hb.2
      simp -implicitDefEqProofs
      refine CL_post (l2Ends_run (C2'.seesAt hi : Jobs h2 _ js) C2'.seesI hg hn8 (by have := ox.len; omega) ox.inn ox.nd (fun k hk => ox.all hk)) fun w h3 ⟨hp3, o3, bd3⟩ => ?_
      have C3 := ((C2'.join ((Holds.start (h := h2)).call hp3 o3)).swapW)
      have le3 : (endsL js xs).length ≤ 9 := by rw [endsL_len]; omega
      have bd3 : ∀ e, e ∈ endsL js xs → 0 ≤ e ∧ e ≤ 5050 := bd3
      generalize endsL js xs = es at *
      obtain ⟨ua, uc, rfl⟩ : ∃ a c, w = .slice a es.length c := C3.seesI.shapeT
      by_cases c3 : 0 < es.length
      case' neg =>
        have c3' : ¬ (0 : Int) < es.length := by omega
        have C5 : Cur h0 h3 r vc (n + 60) (L ++ [.own (.slice ua es.length uc) 1 (es.map encI)]) := C3.mono (by omega)
        have hl5 : es.length ≤ 9 := by omega
        simp -implicitDefEqProofs [c3, c3']
        obtain ⟨E, hE⟩ : ∃ E, E = es := ⟨_, rfl⟩
        rw [← hE] at C5 hl5 ⊢
      case' pos =>
        have c3' : (0 : Int) < es.length := by omega
        simp -implicitDefEqProofs [c3, c3']
        refine CL_post (one_run B C3 (by omega) (k := 2) (by omega)) fun v h4 ⟨b4, ev, C4⟩ => ?_
        subst ev
        cases b4
        case' false =>
          have C5 : Cur h0 h4 r vc (n + 60) (L ++ [.own (.slice ua es.length uc) 1 (es.map encI)]) := C4.mono (by omega)
          have hl5 : es.length ≤ 9 := by omega
          simp -implicitDefEqProofs
          obtain ⟨E, hE⟩ : ∃ E, E = es := ⟨_, rfl⟩
          rw [← hE] at C5 hl5 ⊢
        case' true =>
          simp -implicitDefEqProofs
          refine CL_post (pick_run B C4 (by omega) (k := es.length) (by omega)) fun v h5 ⟨q, ev, q0, _, q1, C5'⟩ => ?_
          subst ev
          obtain ⟨k, rfl⟩ : ∃ k : Nat, q = k := ⟨q.toNat, by omega⟩
          have hk : k < es.length := by have := q1 (by omega); omega
          obtain ⟨y, hy, _⟩ := drop_at hk
          have by' := bd3 y (List.mem_of_getElem? hy)
          have ly := load_I C5'.seesI hy
          simp -implicitDefEqProofs [-indexAddrP_some, ly]
          refine CG_post (pick_run B C5' (by omega) (k := 7) (by omega)) fun v h6 ⟨z, ev, z0, z2, z1, C6⟩ => ⟨by simp, ?_⟩
          subst ev
          have z7 := z1 (by omega)
          have ly6 := load_I C6.seesI hy
          have w1 : IntKind.i64.wrap (y + z) = y + z := by rw [wrap_ok] <;> omega
          have w2 : IntKind.i64.wrap (y + z - 3) = y + z - 3 := by rw [wrap_ok] <;> omega
          obtain ⟨h7, s7, C7⟩ := C6.putI hk (max (y + z - 3) 0)
          have C5 : Cur h0 h7 r vc (n + 60) (L ++ [.own (.slice ua es.length uc) 1 ((es.set k (max (y + z - 3) 0)).map encI)]) := C7.mono (by omega)
          have hl5 : (es.set k (max (y + z - 3) 0)).length ≤ 9 := by rw [List.length_set]; omega
          simp -implicitDefEqProofs [-indexAddrP_some, RunsO, w1, w2, CG_ret l1Most_run, ly6, s7]
          obtain ⟨E, hE⟩ : ∃ E, E = es.set k (max (y + z - 3) 0) := ⟨_, rfl⟩
          have hEl : es.length = E.length := by rw [hE, List.length_set]
          rw [← hE, hEl] at C5
          rw [← hE] at hl5
          rw [hEl]
  case' false | true.true =>
    refine R_loopO (fun m st h' => ∃ (i : Nat) (es : List Int) (u : Value), i + m = js.length ∧ st = [(0, .pointer (some ⟨r, 0, some 3⟩)), (1, .slice ja js.length jc), (5, u), (8, .int .i64 i)] ∧ es.length = i ∧ Cur h0 h' r vc (n + 30 + 2 * i) (L ++ [.own u 1 (es.map encI)])) (fun I hI m st h' => ?_) (n := js.length) ⟨0, [], .slice none 0 0, by omega, by simp, rfl, C2.nil Int encI 1⟩
    rintro ⟨i, es, u, hi2, rfl, hl, C3⟩
    obtain ⟨ua, uc, rfl⟩ : ∃ a c, u = .slice a es.length c := C3.seesI.shapeT
    by_cases hlt : i < js.length
    case pos =>
      have hlt' : (i : Int) < js.length := by omega
      simp -implicitDefEqProofs [hlt, hlt']
      refine CL_post (pick_run B C3 (by omega) (k := 30) (by omega)) fun v h3 ⟨q, ev, _, _, _, C4⟩ => ?_
      subst ev
      obtain ⟨u', h4, a4, C5⟩ := C4.pushI q (by omega)
      simp -implicitDefEqProofs [a4, winc hlt (by omega)]
      exact ⟨m - 1, by omega, on hI ⟨i + 1, es ++ [q], u', by omega, rfl, by simp; omega, C5.mono (by omega)⟩⟩
    case' neg =>
      have hlt' : ¬ (i : Int) < js.length := by omega
      have C5 : Cur h0 h' r vc (n + 60) (L ++ [.own (.slice ua es.length uc) 1 (es.map encI)]) := C3.mono (by omega)
      have hl5 : es.length ≤ 9 := by omega
      simp -implicitDefEqProofs [hlt, hlt']
      obtain ⟨E, hE⟩ : ∃ E, E = es := ⟨_, rfl⟩
      rw [← hE] at C5 hl5 ⊢
  all_goals
    refine CL_post (one_run B C5 (by omega) (k := 30) (by omega)) fun v h8 ⟨b8, ev, C8⟩ => ?_
    subst ev
    cases b8
    case' false =>
      have C9 : Cur h0 h8 r vc (n + 80) (L ++ [.own (.slice ua E.length uc) 1 (E.map encI)]) := C8.mono (by omega)
      have hl9 : E.length ≤ 9 := hl5
      simp -implicitDefEqProofs
      obtain ⟨F, hF⟩ : ∃ F, F = E := ⟨_, rfl⟩
      rw [← hF] at C9 hl9 ⊢
    case' true =>
      by_cases cE : 0 < E.length
      case' neg =>
        have cE' : ¬ (0 : Int) < E.length := by omega
        have C9 : Cur h0 h8 r vc (n + 80) (L ++ [.own (.slice ua E.length uc) 1 (E.map encI)]) := C8.mono (by omega)
        have hl9 : E.length ≤ 9 := hl5
        simp -implicitDefEqProofs [cE, cE']
        obtain ⟨F, hF⟩ : ∃ F, F = E := ⟨_, rfl⟩
        rw [← hF] at C9 hl9 ⊢
      case' pos =>
        have cE' : (0 : Int) < E.length := by omega
        simp -implicitDefEqProofs [cE, cE']
        refine CL_post (pick_run B C8 (by omega) (k := E.length) (by omega)) fun v h10 ⟨q, ev, q0, _, q1, C10⟩ => ?_
        subst ev
        obtain ⟨k, rfl⟩ : ∃ k : Nat, q = k := ⟨q.toNat, by omega⟩
        have hk : k < E.length := by have := q1 (by omega); omega
        obtain ⟨y, hy, _⟩ := drop_at hk
        simp -implicitDefEqProofs
        refine CL_post (among_run B (C10.lit [-1, 2000, 2001, 4611686018427387904]) (by omega) snoc_get (by simp) (by simp)) fun v h11 ⟨x, ev, _, C11'⟩ => ?_
        subst ev
        have C11 := C11'.weak
        have ix := (load_I C11.seesI hy).1
        obtain ⟨h12, s12, C12⟩ := C11.putI hk x
        have C9 : Cur h0 h12 r vc (n + 80) (L ++ [.own (.slice ua E.length uc) 1 ((E.set k x).map encI)]) := C12.mono (by omega)
        have hl9 : (E.set k x).length ≤ 9 := by rw [List.length_set]; omega
        simp -implicitDefEqProofs [-indexAddrP_some, ix, s12]
        obtain ⟨F, hF⟩ : ∃ F, F = E.set k x := ⟨_, rfl⟩
        have hFl : E.length = F.length := by rw [hF, List.length_set]
        rw [← hF, hFl] at C9
        rw [← hF] at hl9
        rw [hFl]
    all_goals
      refine CL_post (one_run B C9 (by omega) (k := 30) (by omega)) fun v h13 ⟨b13, ev, C13⟩ => ?_
      subst ev
      cases b13
      case false =>
        simp -implicitDefEqProofs
        exact onK hK ⟨F, by omega, C.gcO (C13.mono (by omega)) (fun h => h)⟩
      case true =>
        obtain ⟨u', h14, a14, C14⟩ := C13.pushI 3 (by omega)
        obtain ⟨ub, ud, rfl⟩ : ∃ a c, u' = .slice a (F ++ [3]).length c := C14.seesI.shapeT
        simp only [List.length_append, List.length_cons, List.length_nil, Nat.zero_add] at a14 C14
        simp -implicitDefEqProofs [a14]
        exact onK hK ⟨F ++ [3], by simp; omega, C.gcO (C14.mono (by omega)) (fun h => h)⟩
theorem DrawShortSet_run : DShort := by
  intro h vc B
  refine hideC fun K hK => enter_run e_spec_DrawShortSet (by simp) ?_
  have C0 : Cur h (h ++ [some ⟨[vc, .int .i64 0, .int .u64 0], 0, false⟩]) h.length vc 0 [] := ⟨0, 0, by omega, by omega, (Holds.start (h := h)).alloc _⟩
  obtain ⟨bs, Sb, hb, hbl⟩ := B
  have Bs : By h vc := ⟨bs, Sb, hb, hbl⟩
  obtain ⟨ob, cb, rfl⟩ := Sb.shapeT
  simp -implicitDefEqProofs
  refine CL_post (plainJobs_run Bs C0 (by omega) (most := 8) (by omega)) fun u h2 ⟨js, hl, C2⟩ => ?_
  obtain ⟨ua, uc, rfl⟩ : ∃ a c, u = .slice a js.length c := C2.seesJ.shapeT
  simp -implicitDefEqProofs
  refine CL_post (ends_run Bs C2 (i := 0) rfl hl (by omega)) fun w h3 ⟨es, hes, C3⟩ => ?_
  obtain ⟨wa, wc, rfl⟩ : ∃ a c, w = .slice a es.length c := C3.seesI.shapeT
  have J3 : Jobs h3 (.slice ua js.length uc) js := C3.seesAt (i := 0) rfl
  have fin := gc_JX (r := []) C3.pre J3 C3.seesI
  simp -implicitDefEqProofs
  exact onK hK ⟨fin.1, js, es, _, _, rfl, hl, by omega, fin.2⟩
theorem DrawMixVectors_run : DMix := by
  intro h vc B
  refine hideC fun K hK => enter_run e_spec_DrawMixVectors (by simp) ?_
  have C0 : Cur h (h ++ [some ⟨[vc, .int .i64 0, .int .u64 0], 0, false⟩]) h.length vc 0 [] := ⟨0, 0, by omega, by omega, (Holds.start (h := h)).alloc _⟩
  obtain ⟨bs, Sb, hb, hbl⟩ := B
  have Bs : By h vc := ⟨bs, Sb, hb, hbl⟩
  obtain ⟨ob, cb, rfl⟩ := Sb.shapeT
  simp -implicitDefEqProofs
  refine CL_post (plainJobs_run Bs C0 (by omega) (most := 5) (by omega)) fun u h2 ⟨js, hl, C2⟩ => ?_
  obtain ⟨ua, uc, rfl⟩ : ∃ a c, u = .slice a js.length c := C2.seesJ.shapeT
  simp -implicitDefEqProofs
  refine CL_post (ends_run Bs C2 (i := 0) rfl hl (by omega)) fun w h3 ⟨es, hes, C3⟩ => ?_
  obtain ⟨wa, wc, rfl⟩ : ∃ a c, w = .slice a es.length c := C3.seesI.shapeT
  simp -implicitDefEqProofs
  refine CL_post (ends_run Bs C3 (i := 0) rfl hl (by omega)) fun z h4 ⟨fs, hfs, C4⟩ => ?_
  obtain ⟨za, zc, rfl⟩ : ∃ a c, z = .slice a fs.length c := C4.seesI.shapeT
  simp -implicitDefEqProofs
  refine CL_post (among_run Bs (C4.lit [1, 1, 2, 0, 9]) (by omega) snoc_get (by simp) (by simp)) fun v h5 ⟨x, ev, _, C5'⟩ => ?_
  subst ev
  have C5 := C5'.weak
  simp -implicitDefEqProofs
  refine CL_post (among_run Bs (C5.lit [1, 1, 3, 0, 9]) (by omega) snoc_get (by simp) (by simp)) fun v h6 ⟨y, ev, _, C6'⟩ => ?_
  subst ev
  have C6 := C6'.weak
  have fin : ∀ {m : Nat} {h9 : Hp} {x' : Int}, Cur h h9 h.length (.slice ob bs.length cb) m ([.own (.slice ua js.length uc) 4 (js.map encJ), .own (.slice wa es.length wc) 1 (es.map encI), .own (.slice za fs.length zc) 1 (fs.map encI)]) →
      K (.tuple #[.slice ua js.length uc, .slice wa es.length wc, .slice za fs.length zc, .int .i64 x', .int .i64 y]) (gc h h9 (.tuple #[.slice ua js.length uc, .slice wa es.length wc, .slice za fs.length zc, .int .i64 x', .int .i64 y])) := fun {m h9 x'} C9 => by
    have C9' := C9
    obtain ⟨a, s, g1, g2, H⟩ := C9
    exact onK hK ⟨pre_gcU H.pre, js, es, fs, x', y, _, _, _, rfl, hl, by omega, by omega, Sees.gcU (H.sees 1 rfl) fun g => plainT (r := [_, _, _, _]) g, Sees.gcU (H.sees 2 rfl) fun g => plain2T (r := [_, _, _]) g, Sees.gcU (H.sees 3 rfl) fun g => by simp [plain] at g; exact g.2.2⟩
  simp -implicitDefEqProofs
  refine CL_post (one_run Bs C6 (by omega) (k := 24) (by omega)) fun v h7 ⟨b, ev, C7⟩ => ?_
  subst ev
  cases b
  · simp -implicitDefEqProofs
    exact fin C7
  · simp -implicitDefEqProofs
    refine CL_post (among_run Bs (C7.lit [-1, 10]) (by omega) snoc_get (by simp) (by simp)) fun v h8 ⟨x', ev, _, C8⟩ => ?_
    subst ev
    simp -implicitDefEqProofs
    exact fin C8.weak
theorem law_Vectors {h : Hp} {vc : Value} {bs : List Int} (Sb : Sees h vc 1 (bs.map encU)) (hb : ∀ b, b ∈ bs → 0 ≤ b ∧ b ≤ 255) : Ret P G n_laws_FnVectors [vc] h (.bool true) h := law_Vectors_of @DrawShortSet_run @DrawMixVectors_run Sb hb
end
end Go.Pm.PP
