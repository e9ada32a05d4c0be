/- The texts PwXe, PwUx, PwXm, PwXn, PwXc, PwXr, PwXs, PwYa, PwYb, PwUy, PwYc, PwYd, PwYe, PsD, PsE, PsF, PwYf of this work: The choice by time and the bound of a prefix, by the program. -/
import Derived.Test.YtjjjalkfpajckaaP7
/- The choice by time and the bound of a prefix, by the program. -/
set_option linter.unusedVariables false
set_option linter.unusedSimpArgs false
set_option maxRecDepth 4000
set_option maxHeartbeats 16000000
namespace Go.Pm.PP
open Go.Pm Go.Proofs Go.Pm.PE
theorem sumL_take {l : List Int} {i : Nat} {x : Int} (h : l[i]? = some x) : sumL (l.take (i + 1)) = sumL (l.take i) + x := by
  rw [take_succ' h, sumL_append]; simp [sumL]
theorem sumL_tk {l : List Int} {i : Nat} (h : ∀ x, x ∈ l → 0 ≤ x ∧ x ≤ 50) : 0 ≤ sumL (l.take i) ∧ sumL (l.take i) ≤ 50 * l.length := by
  have := sumL_nn (l := l.take i) fun x hx => h x (List.mem_of_mem_take hx)
  have h2 : (l.take i).length ≤ l.length := by rw [List.length_take]; omega
  omega
section
variable {h : Hp} {vj vr : Value} {js : List Job} {B : List Int} {o : Int}
theorem choose_run (hj : Jobs h vj js) (hr : Ints h vr B) (hg : goodL js = true) (hn : js.length ≤ 8) (hB : B.length ≤ 8) (hin : inN js.length B) (ho : o = 2 ∨ o = 4) :
    RunsC P G n_impl_choose [vj, vr, .int .i64 o] h fun v h' => ∃ u w, v = .tuple #[u, w] ∧ h <+: h' ∧ Ints h' w (bdE o js B) ∧ Sees h' u 3 ((spanL o js (nwGo js B 0) (restL js B)).map encS) := by
  refine hideC fun K hK => enter_run e_impl_choose (by simp) ?_
  have hjs := hj
  have hrs := hr
  obtain ⟨oj, cj, rfl⟩ := hj.shapeT
  obtain ⟨oa, c, rfl⟩ := hr.shapeT
  obtain ⟨vx, h1, mk1, H1, hp1, ox, rfl⟩ := make_I (Holds.start (h := h)) (n := js.length) (by omega)
  obtain ⟨vz, h2, mk2, H2, hp2, oz, rfl⟩ := make_I H1 (n := js.length) (by omega)
  have bC := bd_ch hg hn hin
  have bN := @nwGo_bd js hg B 0 0 hin (by omega) (by omega)
  have eE : bdE o js B = apS (endsL js B) (picks o js FU (nwGo js B 0) (restL js B)) := rfl
  generalize bdE o js B = X at eE hK
  have eY : spanL o js (nwGo js B 0) (restL js B) = (picks o js FU (nwGo js B 0) (restL js B)).foldl mgS [] := rfl
  generalize spanL o js (nwGo js B 0) (restL js B) = Y at eY hK
  have hF : FU = 1000 := rfl
  have bR := restL_bd (B := B) hg
  have lR : (restL js B).length = js.length := restL_len
  simp -implicitDefEqProofs [mk1, mk2]
  refine R_loopO (fun m s h' => ∃ (i : Nat) (R : List Int), i + m = js.length ∧ s = [(0, .slice oj js.length cj), (1, .slice oa B.length c), (2, .int .i64 o), (8, .slice ox js.length js.length), (9, .slice oz js.length js.length), (10, .int .i64 (sumL ((restL js B).take i))), (11, .int .i64 0), (27, .slice oj js.length cj), (28, .int .i64 js.length), (29, .int .i64 i)] ∧
    R.length = js.length ∧ (∀ k, k < js.length → gE R k = if k < i then gE (restL js B) k else 0) ∧ Holds h h' [.own (.slice ox js.length js.length) 1 (R.map encI), .own (.slice oz js.length js.length) 1 ((List.replicate js.length (0 : Int)).map encI)]) (fun I hI m s h' => ?_) (n := js.length)
    ⟨0, List.replicate js.length 0, Nat.zero_add _, by simp [sumL], by simp, fun k hk => by rw [if_neg (by omega)]; simp [gE, hk], H2⟩
  rintro ⟨i, R, hi, rfl, hR, hRk, H⟩
  by_cases hlt : i < js.length
  · obtain ⟨y, hy, _⟩ := drop_at hlt
    have ey : jA js i = y := by unfold jA; rw [Int.toNat_natCast, hy]; rfl
    have jb := job_of (job_at hg hy)
    have ly := load_J (hjs.pre H.pre) hy
    have hlt' : (i : Int) < js.length := by omega
    have rx := restL_at (B := B) hlt
    have bs := sumL_tk (i := i) bR
    rw [lR] at bs
    have HB := H.ext (List.prefix_append h' [some (⟨[.int .i64 y.t, .int .i64 y.w, .int .i64 y.r, .int .i64 y.d], 0, false⟩ : Row)])
    have rh := has_run (x := (i : Int)) (hrs.pre HB.pre) (by omega)
    cases c1 : hasL (i : Int) B
    · rw [if_neg (by rw [show inP B i = false from c1]; simp), ey] at rx
      have ix := (load_I (HB.sees 0 rfl) (gE_get (l := R) (i := i) (by omega))).1
      obtain ⟨h3, s3, H3, _⟩ := put_I HB 0 rfl (j := i) (by omega) y.t
      have bx : loadP P h3 t_int (.pointer (some ⟨h'.length, 0, some 4⟩)) = some (.int .i64 y.t) := by
        have HBx := (H.alloc [.int .i64 y.t, .int .i64 y.w, .int .i64 y.r, .int .i64 y.d])
        obtain ⟨h3', s3', H3', _⟩ := put_I HBx 0 rfl (j := i) (by omega) y.t
        rw [s3] at s3'; cases s3'
        exact H3'.bl (P := P) 2 4 rfl rfl t_int 0
      have ws : IntKind.i64.wrap (sumL ((restL js B).take i) + y.t) = sumL ((restL js B).take (i + 1)) := by rw [sumL_take rx, wrap_ok] <;> omega
      simp -implicitDefEqProofs [-indexAddrP_some, hlt, hlt', ly, CL_ret rh, c1, ix, s3, bx, ws, winc hlt (show js.length ≤ 2 ^ 40 by omega)]
      refine ⟨m - 1, by omega, on hI ⟨i + 1, R.set i y.t, by omega, rfl, by rw [List.length_set]; exact hR, fun k hk => ?_, H3⟩⟩
      rw [gE_set (by omega)]
      by_cases g : k = i
      · subst g
        rw [if_pos rfl, if_pos (by omega)]
        unfold gE; rw [rx]; rfl
      · rw [if_neg g, hRk k hk]
        by_cases g2 : k < i
        · rw [if_pos g2, if_pos (by omega)]
        · rw [if_neg g2, if_neg (by omega)]
    · rw [if_pos (show inP B i = true from c1)] at rx
      have ws : sumL ((restL js B).take i) = sumL ((restL js B).take (i + 1)) := by rw [sumL_take rx, Int.add_zero]
      simp -implicitDefEqProofs [-indexAddrP_some, hlt, hlt', ly, CL_ret rh, c1, winc hlt (show js.length ≤ 2 ^ 40 by omega)]
      refine ⟨m - 1, by omega, on hI ⟨i + 1, R, by omega, by rw [ws]; rfl, hR, fun k hk => ?_, HB⟩⟩
      rw [hRk k hk]
      by_cases g : k = i
      · subst g
        rw [if_neg (by omega), if_pos (by omega)]
        unfold gE; rw [rx]; rfl
      · by_cases g2 : k < i
        · rw [if_pos g2, if_pos (by omega)]
        · rw [if_neg g2, if_neg (by omega)]
  have hlt' : ¬ (i : Int) < js.length := by omega
  have hRX : R = restL js B := by
    apply List.ext_getElem?
    intro k
    rcases Nat.lt_or_ge k js.length with g | g
    · have := hRk k g
      rw [if_pos (by omega)] at this
      rw [gE_get (by omega), gE_get (by rw [lR]; omega), this]
    · rw [List.getElem?_eq_none (by omega), List.getElem?_eq_none (by rw [lR]; omega)]
  subst hRX
  rw [List.take_of_length_le (by omega)]
  simp -implicitDefEqProofs [hlt, hlt']
  refine R_loopO (fun m s h' => ∃ (i : Nat) (now : Int) (E : List Int), i + m = B.length ∧ s = [(0, .slice oj js.length cj), (2, .int .i64 o), (8, .slice ox js.length js.length), (9, .slice oz js.length js.length), (10, .int .i64 (sumL (restL js B))), (11, .int .i64 now), (48, .slice oa B.length c), (49, .int .i64 B.length), (50, .int .i64 i)] ∧
    Holds h h' [.own (.slice ox js.length js.length) 1 ((restL js B).map encI), .own (.slice oz js.length js.length) 1 (E.map encI)] ∧ endsL js B = endGo js (B.drop i) now E ∧ nwGo js B 0 = nwGo js (B.drop i) now ∧ E.length = js.length ∧ 0 ≤ now ∧ now ≤ 550 * i) (fun I2 hI2 m2 s h' => ?_) (n := B.length) ⟨0, 0, List.replicate js.length 0, Nat.zero_add _, by simp, H, rfl, rfl, by simp, by omega, by omega⟩
  rintro ⟨i2, nw, E, hi2, rfl, H2, hx, hw, hE, n0, n1⟩
  by_cases hlt2 : i2 < B.length
  · have hlt2' : (i2 : Int) < B.length := by omega
    obtain ⟨x, hxx, hd⟩ := drop_at hlt2
    rw [hd, endGo] at hx
    rw [hd, nwGo] at hw
    obtain ⟨k, hk, hkl, hky⟩ := jA_get rfl (hin x (List.mem_of_getElem? hxx))
    have jb := job_of (job_at hg hky)
    generalize hJ : jA js x = y at hx hw hky jb
    subst hk
    rw [Int.toNat_natCast] at hx
    have lx := load_I (hrs.pre H2.pre) hxx
    have ly := load_J (hjs.pre H2.pre) hky
    obtain ⟨M, hM⟩ : ∃ M, M = max nw y.r := ⟨_, rfl⟩
    rw [← hM] at hx hw
    have wM : IntKind.i64.wrap (max nw y.r + y.t) = M + y.t := by rw [← hM, wrap_ok] <;> omega
    have ix := (load_I (H2.sees 1 rfl) (gE_get (l := E) (i := k) (by omega))).1
    obtain ⟨h3, s3, H3, _⟩ := put_I H2 1 rfl (j := k) (by omega) (M + y.t)
    simp -implicitDefEqProofs [-indexAddrP_some, hlt2, hlt2', lx, ly, foldI, mx_if, wM, ix, s3, winc hlt2 (by omega)]
    exact ⟨m2 - 1, by omega, on hI2 ⟨i2 + 1, M + y.t, E.set k (M + y.t), by omega, rfl, H3, hx, hw, by rw [List.length_set]; exact hE, by omega, by omega⟩⟩
  have hlt2' : ¬ (i2 : Int) < B.length := by omega
  rw [List.drop_eq_nil_of_le (by omega)] at hx hw
  rw [endGo] at hx
  rw [nwGo] at hw
  rw [hx, hw] at eE
  rw [hw] at eY
  rw [hw] at bC bN
  simp -implicitDefEqProofs [hlt2, hlt2']
  have H3 := own_nil H2 Sp encS 3
  refine R_loopO (fun m s h' => ∃ (now' : Int) (rs' E' : List Int) (S : List Sp) (u : Value), s = [(0, .slice oj js.length cj), (2, .int .i64 o), (8, .slice ox js.length js.length), (9, .slice oz js.length js.length), (10, .int .i64 (sumL rs')), (11, .int .i64 now'), (16, u)] ∧ Ch js rs' now' m ∧ 0 ≤ now' ∧ now' + m ≤ 2 ^ 31 ∧ S.length + m ≤ FU ∧ E'.length = js.length ∧
    X = apS E' (picks o js m now' rs') ∧ Y = (picks o js m now' rs').foldl mgS S ∧ Holds h h' [.own (.slice ox js.length js.length) 1 (rs'.map encI), .own (.slice oz js.length js.length) 1 (E'.map encI), .own u 3 (S.map encS)]) (fun I3 hI3 m3 s h' => ?_) (n := FU) ⟨nw, restL js B, E, [], .slice none 0 0, by simp, bC, n0, by omega, by simp, hE, eE, eY, H3⟩
  rintro ⟨now', rs', E', S, u, rfl, C', n0', n1', hSl, hE', hX, hY, H'⟩
  have hl' := C'.l
  by_cases hs : 0 < sumL rs'
  · have wn : IntKind.i64.wrap (now' + 1) = now' + 1 := by rw [wrap_ok] <;> omega
    simp -implicitDefEqProofs [hs]
    refine R_loopO (fun m s h'' => ∃ (i : Nat) (b : Int), i + m = js.length ∧ s = [(0, .slice oj js.length cj), (2, .int .i64 o), (8, .slice ox js.length js.length), (9, .slice oz js.length js.length), (10, .int .i64 (sumL rs')), (11, .int .i64 now'), (16, u), (17, .int .i64 b), (76, .slice oj js.length cj), (77, .int .i64 js.length), (78, .int .i64 i)] ∧ h' <+: h'' ∧ (b = -1 ∨ pkOk js rs' b) ∧ pickL o js rs' now' = (List.range' i m).foldl (pickF o js rs' now') b) (fun I4 hI4 m4 s h'' => ?_) (n := js.length) ⟨0, -1, Nat.zero_add _, by simp, List.prefix_rfl, .inl rfl, rfl⟩
    rintro ⟨i4, b, hi4, rfl, hp4, hb, hx4⟩
    by_cases hlt4 : i4 < js.length
    · have hlt4' : (i4 : Int) < js.length := by omega
      obtain ⟨m', rfl⟩ : ∃ m', m4 = m' + 1 := ⟨m4 - 1, by omega⟩
      rw [List.range'_succ, List.foldl_cons] at hx4
      obtain ⟨y, hy, _⟩ := drop_at hlt4
      have ey : jA js i4 = y := by unfold jA; rw [Int.toNat_natCast, hy]; rfl
      have hp5 := hp4.trans (List.prefix_append h'' [some (⟨[.int .i64 y.t, .int .i64 y.w, .int .i64 y.r, .int .i64 y.d], 0, false⟩ : Row)])
      have ly := load_J (hjs.pre (H'.pre.trans hp4)) hy
      have lr := load_I ((H'.sees 0 rfl).pre hp5) (gE_get (l := rs') (i := i4) (by omega))
      have wi := winc hlt4 (show js.length ≤ 2 ^ 40 by omega)
      by_cases c1 : gE rs' i4 = 0
      · have e : pickF o js rs' now' b i4 = b := by unfold pickF; rw [if_pos (.inl c1)]
        rw [e] at hx4
        rw [c1] at lr
        simp -implicitDefEqProofs [-indexAddrP_some, hlt4, hlt4', ly, lr, wi]
        exact ⟨m', by omega, on hI4 ⟨i4 + 1, b, by omega, rfl, hp5, hb, hx4⟩⟩
      · by_cases c2 : now' < y.r
        · have e : pickF o js rs' now' b i4 = b := by unfold pickF; rw [ey, if_pos (.inr c2)]
          rw [e] at hx4
          simp -implicitDefEqProofs [-indexAddrP_some, hlt4, hlt4', ly, lr, nb c1, c2, wi]
          exact ⟨m', by omega, on hI4 ⟨i4 + 1, b, by omega, rfl, hp5, hb, hx4⟩⟩
        · have okI : pkOk js rs' (i4 : Int) := ⟨by omega, by omega, c1⟩
          rcases hb with rfl | hb
          · have e : pickF o js rs' now' (-1) i4 = i4 := by unfold pickF; rw [ey, if_neg (by omega), if_pos (.inl (by omega))]
            rw [e] at hx4
            simp -implicitDefEqProofs [-indexAddrP_some, hlt4, hlt4', ly, lr, nb c1, c2, wi]
            exact ⟨m', by omega, on hI4 ⟨i4 + 1, i4, by omega, rfl, hp5, .inr okI, hx4⟩⟩
          · obtain ⟨k, rfl⟩ : ∃ k : Nat, b = k := ⟨b.toNat, by have := hb.1; omega⟩
            have hkl : k < js.length := by have := hb.2.1; omega
            obtain ⟨z, hz, _⟩ := drop_at hkl
            have ez : jA js k = z := by unfold jA; rw [Int.toNat_natCast, hz]; rfl
            have lz := load_J (hjs.pre (H'.pre.trans hp5)) hz
            have lk := load_I ((H'.sees 0 rfl).pre hp5) (gE_get (l := rs') (i := k) (by omega))
            have hk0 : ¬ (k : Int) < 0 := by omega
            rcases ho with rfl | rfl
            · by_cases c3 : gE rs' i4 < gE rs' k
              · have e : pickF 2 js rs' now' k i4 = i4 := by unfold pickF; rw [ey, if_neg (by omega), if_pos (.inr (by simp [betB, c3]))]
                rw [e] at hx4
                simp -implicitDefEqProofs [-indexAddrP_some, hlt4, hlt4', ly, lr, nb c1, c2, wi, hk0, lk, c3]
                exact ⟨m', by omega, on hI4 ⟨i4 + 1, i4, by omega, rfl, hp5, .inr okI, hx4⟩⟩
              · have e : pickF 2 js rs' now' k i4 = k := by unfold pickF; rw [ey, if_neg (by omega), if_neg (by simp [betB, c3, hk0])]
                rw [e] at hx4
                simp -implicitDefEqProofs [-indexAddrP_some, hlt4, hlt4', ly, lr, nb c1, c2, wi, hk0, lk, c3]
                exact ⟨m', by omega, on hI4 ⟨i4 + 1, k, by omega, rfl, hp5, .inr hb, hx4⟩⟩
            · by_cases c3 : y.d < z.d
              · have e : pickF 4 js rs' now' k i4 = i4 := by unfold pickF; rw [ey, if_neg (by omega), if_pos (.inr (by simp [betB, ey, ez, c3]))]
                rw [e] at hx4
                simp -implicitDefEqProofs [-indexAddrP_some, hlt4, hlt4', ly, lr, nb c1, c2, wi, hk0, lz, c3]
                exact ⟨m', by omega, on hI4 ⟨i4 + 1, i4, by omega, rfl, hp5, .inr okI, hx4⟩⟩
              · have e : pickF 4 js rs' now' k i4 = k := by unfold pickF; rw [ey, if_neg (by omega), if_neg (by simp [betB, ey, ez, c3, hk0])]
                rw [e] at hx4
                simp -implicitDefEqProofs [-indexAddrP_some, hlt4, hlt4', ly, lr, nb c1, c2, wi, hk0, lz, c3]
                exact ⟨m', by omega, on hI4 ⟨i4 + 1, k, by omega, rfl, hp5, .inr hb, hx4⟩⟩
    have hlt4' : ¬ (i4 : Int) < js.length := by omega
    have hm4 : m4 = 0 := by omega
    subst hm4
    rw [List.range'_zero, List.foldl_nil] at hx4
    subst hx4
    have H4 := H'.ext hp4
    rcases pick_cases (o := o) (js := js) (rs := rs') (now := now') with ⟨hp, _⟩ | ⟨b, hp, hbl, hb0⟩
    · obtain ⟨_, C2, hm⟩ := C'.skip hg hs (o := o) (by omega)
      obtain ⟨m', rfl⟩ : ∃ m', m3 = m' + 1 := ⟨m3 - 1, by omega⟩
      rw [picks, if_neg (by omega), hp, if_pos (by omega)] at hX hY
      simp -implicitDefEqProofs [hlt4, hlt4', hp, wn]
      exact ⟨m', by omega, on hI3 ⟨now' + 1, rs', E', S, u, by simp, C2, by omega, by omega, by omega, hE', hX, hY, H4⟩⟩
    · obtain ⟨C2, hm, hsum⟩ := C'.take hs hbl hb0
      obtain ⟨m', rfl⟩ : ∃ m', m3 = m' + 1 := ⟨m3 - 1, by omega⟩
      rw [picks, if_neg (by omega), hp, if_neg (by omega), apS_cons, Int.toNat_natCast] at hX
      rw [picks, if_neg (by omega), hp, if_neg (by omega), List.foldl_cons, Int.toNat_natCast] at hY
      have bs := sumL_nn C'.b
      have bx := C'.b _ (gE_mem (l := rs') (i := b) (by omega))
      have wl : IntKind.i64.wrap (sumL rs' - 1) = sumL (rs'.set b (gE rs' b - 1)) := by rw [hsum, wrap_ok] <;> omega
      have wr : IntKind.i64.wrap (gE rs' b - 1) = gE rs' b - 1 := by rw [wrap_ok] <;> omega
      have hb1 : ¬ (b : Int) < 0 := by omega
      have put2 : ∀ {h2 : Hp} {u' : Value} {S' : List Sp}, S'.length + m' ≤ FU → mgS S (b, now') = S' → Holds h h2 [.own (.slice ox js.length js.length) 1 (rs'.map encI), .own (.slice oz js.length js.length) 1 (E'.map encI), .own u' 3 (S'.map encS)] →
          ∃ h3 h4, (indexAddrP P h2 t_S_int (.slice ox js.length js.length) (.int .i64 b) = some (.pointer (some (addP (base (.slice ox js.length js.length)) b))) ∧ loadP P h2 t_int (.pointer (some (addP (base (.slice ox js.length js.length)) b))) = some (.int .i64 (gE rs' b)) ∧
            storeP P h2 t_int (.int .i64 (gE rs' b - 1)) (.pointer (some (addP (base (.slice ox js.length js.length)) b))) = some h3) ∧
            (indexAddrP P h3 t_S_int (.slice oz js.length js.length) (.int .i64 b) = some (.pointer (some (addP (base (.slice oz js.length js.length)) b))) ∧ storeP P h3 t_int (.int .i64 (now' + 1)) (.pointer (some (addP (base (.slice oz js.length js.length)) b))) = some h4) ∧
            I3 m' [(0, .slice oj js.length cj), (2, .int .i64 o), (8, .slice ox js.length js.length), (9, .slice oz js.length js.length), (10, .int .i64 (sumL (rs'.set b (gE rs' b - 1)))), (11, .int .i64 (now' + 1)), (16, u')] h4 := fun {h2 u' S'} hS' hm HH => by
        have lr := load_I (HH.sees 0 rfl) (gE_get (l := rs') (i := b) (by omega))
        obtain ⟨h3, s3, H3, _⟩ := put_I HH 0 rfl (j := b) (by omega) (gE rs' b - 1)
        have ix := (load_I (H3.sees 1 rfl) (gE_get (l := E') (i := b) (by omega))).1
        obtain ⟨h4, s4, H4, _⟩ := put_I H3 1 rfl (j := b) (by omega) (now' + 1)
        exact ⟨h3, h4, ⟨lr.1, lr.2, s3⟩, ⟨ix, s4⟩, on hI3 ⟨now' + 1, _, E'.set b (now' + 1), S', u', rfl, C2, by omega, by omega, hS', by rw [List.length_set]; exact hE', hX, by rw [← hm]; exact hY, H4⟩⟩
      have new : mgS S (b, now') = S ++ [⟨b, now', now' + 1⟩] → ∃ u' h2 h3 h4, appendP P (h'' ++ [some ⟨[.int .i64 b, .int .i64 now', .int .i64 (now' + 1)], 3, false⟩]) t_S_impl_Span u (.slice (some ⟨h''.length, 0, some 3⟩) 1 1) = some (u', h2) ∧
          (indexAddrP P h2 t_S_int (.slice ox js.length js.length) (.int .i64 b) = some (.pointer (some (addP (base (.slice ox js.length js.length)) b))) ∧ loadP P h2 t_int (.pointer (some (addP (base (.slice ox js.length js.length)) b))) = some (.int .i64 (gE rs' b)) ∧
            storeP P h2 t_int (.int .i64 (gE rs' b - 1)) (.pointer (some (addP (base (.slice ox js.length js.length)) b))) = some h3) ∧
          (indexAddrP P h3 t_S_int (.slice oz js.length js.length) (.int .i64 b) = some (.pointer (some (addP (base (.slice oz js.length js.length)) b))) ∧ storeP P h3 t_int (.int .i64 (now' + 1)) (.pointer (some (addP (base (.slice oz js.length js.length)) b))) = some h4) ∧
          I3 m' [(0, .slice oj js.length cj), (2, .int .i64 o), (8, .slice ox js.length js.length), (9, .slice oz js.length js.length), (10, .int .i64 (sumL (rs'.set b (gE rs' b - 1)))), (11, .int .i64 (now' + 1)), (16, u')] h4 := fun hm => by
        obtain ⟨u', h2, ha, H2, _⟩ := push_S0 H4 2 rfl (⟨b, now', now' + 1⟩ : Sp) (by omega)
        obtain ⟨h3, h4, g1, g2, g3⟩ := put2 (by simp; omega) hm H2
        exact ⟨u', h2, h3, h4, ha, g1, g2, g3⟩
      rcases List.eq_nil_or_concat S with rfl | ⟨S1, l, rfl⟩
      · obtain ⟨ua, uc, rfl⟩ : ∃ a c, u = .slice a 0 c := (H'.sees 2 rfl).shapeT
        obtain ⟨u', h2, h3, h4, ha, ⟨i2, l2, s3⟩, ⟨i3, s4⟩, hf⟩ := new mgS_nil
        simp -implicitDefEqProofs [-indexAddrP_some, hlt4, hlt4', hp, hb1, show IntKind.i64.wrap (-1) = -1 by decide, wn, ha, i2, l2, wr, s3, wl, i3, s4]
        exact ⟨m', by omega, hf⟩
      · rw [List.concat_eq_append] at *
        obtain ⟨ua, uc, rfl⟩ : ∃ a c, u = .slice a (S1.length + 1) c := by obtain ⟨a, c, e⟩ := (H'.sees 2 rfl).shapeT; exact ⟨a, c, by rw [e]; simp⟩
        have hS1 : S1.length + 1 + (m' + 1) ≤ FU := by simpa using hSl
        have wS : IntKind.i64.wrap (S1.length : Int) = S1.length := by rw [wrap_ok] <;> omega
        have hS0 : (0 : Int) ≤ S1.length := by omega
        have lS := load_S (H4.sees 2 rfl) (i := S1.length) (x := l) (by simp)
        by_cases c1 : l.j = b
        · have c1' : (l.j == (b : Int)) = true := by simpa using c1
          by_cases c2 : l.b = now'
          · have c2' : (l.b == now') = true := by simpa using c2
            obtain ⟨h2, s2, H2, _⟩ := fput_S2 H4 2 rfl (j := S1.length) (y := l) (by simp) (now' + 1)
            have eset : (S1 ++ [l]).set S1.length { l with b := now' + 1 } = S1 ++ [{ l with b := now' + 1 }] := by rw [List.set_append_right (h := Nat.le_refl _), Nat.sub_self]; rfl
            rw [eset] at H2
            obtain ⟨h3, h4, ⟨i2, l2, s3⟩, ⟨i3, s4⟩, hf⟩ := put2 (S' := S1 ++ [({ l with b := now' + 1 } : Sp)]) (by simp; omega) (mgS_eq c1 c2) H2
            have w2 : IntKind.i64.wrap (l.b + 1) = now' + 1 := by rw [c2]; exact wn
            simp -implicitDefEqProofs [-indexAddrP_some, hlt4, hlt4', hp, hb1, wS, hS0, lS, c1', c2', wn, w2, s2, i2, l2, wr, s3, wl, i3, s4]
            exact ⟨m', by omega, hf⟩
          · obtain ⟨u', h2, h3, h4, ha, ⟨i2, l2, s3⟩, ⟨i3, s4⟩, hf⟩ := new (mgS_ne fun g => c2 g.2)
            simp -implicitDefEqProofs [-indexAddrP_some, hlt4, hlt4', hp, hb1, wS, hS0, lS, c1', nb c2, wn, ha, i2, l2, wr, s3, wl, i3, s4]
            exact ⟨m', by omega, hf⟩
        · obtain ⟨u', h2, h3, h4, ha, ⟨i2, l2, s3⟩, ⟨i3, s4⟩, hf⟩ := new (mgS_ne fun g => c1 g.1)
          simp -implicitDefEqProofs [-indexAddrP_some, hlt4, hlt4', hp, hb1, wS, hS0, lS, nb c1, wn, ha, i2, l2, wr, s3, wl, i3, s4]
          exact ⟨m', by omega, hf⟩
  · have hX2 : X = E' := by
      rw [hX]
      cases m3 with
      | zero => rfl
      | succ k => rw [picks, if_pos (by omega)]; rfl
    subst hX2
    have hY2 : Y = S := by
      rw [hY]
      cases m3 with
      | zero => rfl
      | succ k => rw [picks, if_pos (by omega)]; rfl
    subst hY2
    simp -implicitDefEqProofs [hs]
    refine onK hK ⟨_, _, rfl, pre_gcU H'.pre, Sees.gcU (H'.sees 1 rfl) fun g => ?_, Sees.gcU (H'.sees 2 rfl) fun g => plainT (r := [_]) g⟩
    have g' : (#[u, Value.slice oz js.length js.length] : Array Value).toList.all plainC = true := g
    simp only [List.all_cons, Bool.and_eq_true] at g'
    exact g'.2.1
theorem prefixBound_run (hj : Jobs h vj js) (hr : Ints h vr B) (hg : goodL js = true) (hn : js.length ≤ 8) (hB : B.length ≤ 8) (hin : inN js.length B) (ho : o = 2 ∨ o = 4) : Ret P G n_impl_prefixBound [vj, vr, .int .i64 o] h (.int .i64 (bdV o js B)) h := by
  refine enter_run e_impl_prefixBound (by simp) ?_
  have hjs := hj
  obtain ⟨oj, cj, rfl⟩ := hj.shapeT
  have lE : (bdE o js B).length = js.length := by unfold bdE; rw [apS_len, endsL_len]
  simp -implicitDefEqProofs
  refine CL_post (choose_run hjs hr hg hn hB hin ho) fun v h1 ⟨u, w, ev, hp1, hw, _⟩ => ?_
  subst ev
  have ro := valueOfEnds_run (o := o) (hjs.pre hp1) hw hg hn lE (bdE_bd hg hB hin) (by omega)
  simp -implicitDefEqProofs [CL_ret ro]
  exact ⟨rfl, gcP hp1 rfl⟩
end
end Go.Pm.PP

/- Loads by numbers, slices' middles, draws written at fields, tuples kept: a collection. -/
set_option linter.unusedVariables false
set_option linter.unusedSimpArgs false
set_option maxRecDepth 4000
set_option maxHeartbeats 16000000
namespace Go.Pm.PP
open Go.Pm Go.Proofs Go.Pm.PE
section
variable {h : Hp} {vj ve v u : Value} {js : List Job} {xs es : List Int}
end
theorem plain2T {a b : Value} {r : List Value} (h : plain (.tuple (a :: b :: r).toArray) = true) : plainC b = true := by
  have : ((a :: b :: r).toArray : Array Value).toList.all plainC = true := h
  simp only [List.all_cons, Bool.and_eq_true] at this
  exact this.2.1
theorem gc_JX {h h1 : Hp} {u w : Value} {r : List Value} {js : List Job} {xs : List Int} (hp : h <+: h1) (J : Jobs h1 u js) (X : Ints h1 w xs) : h <+: gc h h1 (.tuple (u :: w :: r).toArray) ∧ Jobs (gc h h1 (.tuple (u :: w :: r).toArray)) u js ∧ Ints (gc h h1 (.tuple (u :: w :: r).toArray)) w xs :=
  ⟨pre_gcU hp, Sees.gcU J fun g => plainT (r := w :: r) g, Sees.gcU X fun g => plain2T (r := r) g⟩
section
variable {h : Hp} {v : Value} {xs : List Int}
end
theorem plS {h : Hp} {v : Value} {sz : Nat} {els : List (List Value)} (s : Sees h v sz els) (g : plain v = true) : plainC v = true := by
  obtain ⟨a, c, e⟩ := s.shape
  subst e; exact g
section
variable {h0 h : Hp} {r n : Nat} {vc : Value} {L T : List Asn}
theorem Cur.putD {u : Value} {js : List Job} (C : Cur h0 h r vc n (L ++ [.own u 4 (js.map encJ)])) {k : Nat} {y : Job} (hy : js[k]? = some y) (z : Int) : ∃ h', storeP P h t_int (.int .i64 z) (.pointer (some (addP (addP (base u) (k * 4)) 3))) = some h' ∧ Cur h0 h' r vc n (L ++ [.own u 4 ((js.set k { y with d := z }).map encJ)]) := by
  obtain ⟨a, s, h1, h2, H⟩ := C
  obtain ⟨h', g1, g2, _⟩ := fput_J3 H (L.length + 1) (by rw [List.getElem?_cons_succ]; exact snoc_get) hy z
  refine ⟨h', g1, a, s, h1, h2, ?_⟩
  rw [List.set_cons_succ, List.set_append_right (h := Nat.le_refl _), Nat.sub_self] at g2
  exact g2
theorem Cur.seesAt {i : Nat} {u : Value} {sz : Nat} {els : List (List Value)} (C : Cur h0 h r vc n (L ++ T)) (hi : L[i]? = some (.own u sz els)) : Sees h u sz els := by
  obtain ⟨a, s, h1, h2, H⟩ := C
  exact H.sees (i + 1) (by rw [List.getElem?_cons_succ, List.getElem?_append_left (List.getElem?_eq_some_iff.1 hi).1]; exact hi)
end
end Go.Pm.PP

/- Split schedules by the program: which they are, their ends and values; the choice by dates; bounds of sets. -/
set_option linter.unusedVariables false
set_option linter.unusedSimpArgs false
set_option maxRecDepth 4000
set_option maxHeartbeats 16000000
namespace Go.Pm.PP
open Go.Pm Go.Proofs Go.Pm.PE
section
variable {h : Hp} {vj v u vs : Value} {js : List Job} {xs : List Int} {S : List Sp}
end
end Go.Pm.PP

/- Draws of jobs with releases and dates close together. -/
set_option linter.unusedVariables false
set_option linter.unusedSimpArgs false
set_option maxRecDepth 4000
set_option maxHeartbeats 16000000
namespace Go.Pm.PP
open Go.Pm Go.Proofs Go.Pm.PE
section
variable {h0 h : Hp} {r n : Nat} {vc : Value} {L : List Asn}
theorem Cur.putT {u : Value} {js : List Job} (C : Cur h0 h r vc n (L ++ [.own u 4 (js.map encJ)])) {k : Nat} {y : Job} (hy : js[k]? = some y) (z : Int) : ∃ h', storeP P h t_int (.int .i64 z) (.pointer (some (addP (addP (base u) (k * 4)) 0))) = some h' ∧ Cur h0 h' r vc n (L ++ [.own u 4 ((js.set k { y with t := z }).map encJ)]) := by
  obtain ⟨a, s, h1, h2, H⟩ := C
  obtain ⟨h', g1, g2, _⟩ := fput_J0 H (L.length + 1) (by rw [List.getElem?_cons_succ]; exact snoc_get) hy z
  refine ⟨h', g1, a, s, h1, h2, ?_⟩
  rw [List.set_cons_succ, List.set_append_right (h := Nat.le_refl _), Nat.sub_self] at g2
  exact g2
theorem Cur.putR {u : Value} {js : List Job} (C : Cur h0 h r vc n (L ++ [.own u 4 (js.map encJ)])) {k : Nat} {y : Job} (hy : js[k]? = some y) (z : Int) : ∃ h', storeP P h t_int (.int .i64 z) (.pointer (some (addP (addP (base u) (k * 4)) 2))) = some h' ∧ Cur h0 h' r vc n (L ++ [.own u 4 ((js.set k { y with r := z }).map encJ)]) := by
  obtain ⟨a, s, h1, h2, H⟩ := C
  obtain ⟨h', g1, g2, _⟩ := fput_J2 H (L.length + 1) (by rw [List.getElem?_cons_succ]; exact snoc_get) hy z
  refine ⟨h', g1, a, s, h1, h2, ?_⟩
  rw [List.set_cons_succ, List.set_append_right (h := Nat.le_refl _), Nat.sub_self] at g2
  exact g2
theorem some5_run (B : By h0 vc) (C : Cur h0 h r vc n L) (hn : n ≤ 2 ^ 17) : RunsC P G n_spec_l1Cur_some5 [.pointer (some ⟨r, 0, some 3⟩)] h fun v h' => ∃ js : List Job, js.length ≤ 9 ∧ Cur h0 h' r vc (n + 400) (L ++ [.own v 4 (js.map encJ)]) := by
  refine hideC fun K hK => enter_run e_spec_l1Cur_some5 (by simp) ?_
  simp -implicitDefEqProofs
  refine CL_post (someJobs_run B C (by omega) (b := true) (most := 6) (by omega)) fun u h1 ⟨js0, hl0, C1⟩ => ?_
  simp -implicitDefEqProofs
  refine R_loopO (fun m st h' => ∃ (i : Nat) (js : List Job), i + m = js.length ∧ js.length ≤ 9 ∧ st = [(0, .pointer (some ⟨r, 0, some 3⟩)), (3, u), (4, .int .i64 i)] ∧ Cur h0 h' r vc (n + 200 + 8 * i) (L ++ [.own u 4 (js.map encJ)])) (fun I hI m st h' => ?_) (n := js0.length) ⟨0, js0, by omega, hl0, by simp, C1.mono (by omega)⟩
  rintro ⟨i, js, hi, hl, rfl, C2⟩
  obtain ⟨ua, uc, rfl⟩ : ∃ a c, u = .slice a js.length c := C2.seesJ.shapeT
  by_cases hlt : i < js.length
  case' pos =>
    have hlt' : (i : Int) < js.length := by omega
    simp -implicitDefEqProofs [hlt, hlt']
    refine CL_post (one_run B C2 (by omega) (k := 6) (by omega)) fun v h3 ⟨b, ev, C3'⟩ => ?_
    subst ev
    cases b
    case' true =>
      have C3 : Cur h0 h3 r vc (n + 300) (L ++ [.own (.slice ua js.length uc) 4 (js.map encJ)]) := C3'.mono (by omega)
      simp -implicitDefEqProofs
    case' false =>
      obtain ⟨y, hy, _⟩ := drop_at hlt
      simp -implicitDefEqProofs
      refine CL_post (pick_run B C3' (by omega) (k := 14) (by omega)) fun v h4 ⟨x1, ev, _, _, _, C4⟩ => ?_
      subst ev
      have ix4 := (load_J C4.seesJ hy).1
      obtain ⟨h5, s5, C5⟩ := C4.putR hy x1
      have hy5 : (js.set i { y with r := x1 })[i]? = some { y with r := x1 } := by rw [List.getElem?_set_self hlt]
      simp -implicitDefEqProofs [-indexAddrP_some, ix4, s5]
      refine CL_post (pick_run B C5 (by omega) (k := 30) (by omega)) fun v h6 ⟨x2, ev, _, _, _, C6⟩ => ?_
      subst ev
      have ix6 := (load_J C6.seesJ hy5).1
      obtain ⟨h7, s7, C7⟩ := C6.putD hy5 x2
      have hy7 : ((js.set i { y with r := x1 }).set i { y with r := x1, d := x2 })[i]? = some { y with r := x1, d := x2 } := by rw [List.getElem?_set_self (by rw [List.length_set]; exact hlt)]
      simp -implicitDefEqProofs [-indexAddrP_some, ix6, s7]
      refine CL_post (pick_run B C7 (by omega) (k := 7) (by omega)) fun v h8 ⟨x3, ev, a3, b3, _, C8⟩ => ?_
      subst ev
      have ix8 := (load_J C8.seesJ hy7).1
      have w8 : IntKind.i64.wrap (1 + x3) = 1 + x3 := by rw [wrap_ok] <;> omega
      obtain ⟨h9, s9, C9⟩ := C8.putT hy7 (1 + x3)
      simp -implicitDefEqProofs [-indexAddrP_some, ix8, w8, s9, winc hlt (by omega)]
      exact ⟨m - 1, by omega, on hI ⟨i + 1, _, by simp only [List.length_set]; omega, by simp only [List.length_set]; omega, by simp, C9.mono (by omega)⟩⟩
  case' neg =>
    have hlt' : ¬ (i : Int) < js.length := by omega
    obtain ⟨h3, hh⟩ : ∃ h3, h3 = h' := ⟨_, rfl⟩
    have C3 : Cur h0 h3 r vc (n + 300) (L ++ [.own (.slice ua js.length uc) 4 (js.map encJ)]) := by rw [hh]; exact C2.mono (by omega)
    simp -implicitDefEqProofs [hlt, hlt']
    rw [← hh]
    clear hh
  all_goals
    by_cases c3 : 0 < js.length
    case neg =>
      have c3' : ¬ (0 : Int) < js.length := by omega
      simp -implicitDefEqProofs [c3, c3']
      exact onK hK ⟨js, hl, C.gcO (C3.mono (by omega)) fun h => h⟩
    case pos =>
      have c3' : (0 : Int) < js.length := by omega
      simp -implicitDefEqProofs [c3, c3']
      refine CL_post (one_run B C3 (by omega) (k := 40) (by omega)) fun v h4 ⟨b3, ev, C4⟩ => ?_
      subst ev
      cases b3
      case false =>
        simp -implicitDefEqProofs
        exact onK hK ⟨js, hl, C.gcO (C4.mono (by omega)) fun h => h⟩
      case true =>
        obtain ⟨y, hy, _⟩ := drop_at c3
        have ly := load_J C4.seesJ hy
        simp only [Nat.zero_mul, Int.natCast_zero] at ly
        simp -implicitDefEqProofs [-indexAddrP_some, ly]
        refine CL_post (spoiltJob_run B C4 (by omega) (j := y)) fun v h6 ⟨j', ev, C6⟩ => ?_
        subst ev
        have ix := (load_J C6.seesJ hy).1
        obtain ⟨h7, s7, C7⟩ := C6.putJ c3 j'
        simp only [Nat.zero_mul, Int.natCast_zero] at ix s7
        simp -implicitDefEqProofs [-indexAddrP_some, ix, s7]
        exact onK hK ⟨js.set 0 j', by rw [List.length_set]; exact hl, C.gcO (C7.mono (by omega)) fun h => h⟩
end
end Go.Pm.PP

/- The greatest lateness of the choice by dates is the greatest bound of a set, and bounds all orders, in plain terms. -/
set_option linter.unusedVariables false
set_option linter.unusedSimpArgs false
namespace Go.Pm.PP
open Go.Pm Go.Pm.PE
def rsF (rs : List Int) (x : Int) : Int := gE rs x.toNat
/-! ### picks -/
theorem pick_best {js : List Job} {rs : List Int} {now : Int} : ∀ {m i : Nat} {b : Int}, i + m = js.length → (b = -1 ∨ 0 ≤ b) → ∀ c : Nat, (List.range' i m).foldl (pickF 4 js rs now) b = c →
    (0 ≤ b → (jA js c).d ≤ (jA js b).d) ∧ ∀ k, i ≤ k → k < js.length → gE rs k ≠ 0 → (jA js k).r ≤ now → (jA js c).d ≤ (jA js k).d
  | 0, i, b, h, hb, c, hc => by
    have e : b = c := hc
    refine ⟨fun _ => by rw [e]; exact Int.le_refl _, fun k h1 h2 => by omega⟩
  | m + 1, i, b, h, hb, c, hc => by
    rw [List.range'_succ, List.foldl_cons] at hc
    by_cases c1 : gE rs i = 0 ∨ now < (jA js i).r
    · have e : pickF 4 js rs now b i = b := by unfold pickF; rw [if_pos c1]
      rw [e] at hc
      obtain ⟨g1, g2⟩ := pick_best (m := m) (i := i + 1) (by omega) hb c hc
      refine ⟨g1, fun k h1 h2 h3 h4 => ?_⟩
      by_cases e : k = i
      · subst e; rcases c1 with c1 | c1
        · exact absurd c1 h3
        · omega
      · exact g2 k (by omega) h2 h3 h4
    · by_cases c2 : b < 0 ∨ betB 4 js rs i b.toNat = true
      · have e : pickF 4 js rs now b i = i := by unfold pickF; rw [if_neg c1, if_pos c2]
        rw [e] at hc
        obtain ⟨g1, g2⟩ := pick_best (m := m) (i := i + 1) (by omega) (.inr (by omega)) c hc
        have g1 := g1 (by omega)
        refine ⟨fun h0 => ?_, fun k h1 h2 h3 h4 => ?_⟩
        · rcases c2 with c2 | c2
          · omega
          · unfold betB at c2
            rw [if_neg (by omega), decide_eq_true_eq, show ((b.toNat : Nat) : Int) = b by omega] at c2
            omega
        · by_cases e : k = i
          · subst e; exact g1
          · exact g2 k (by omega) h2 h3 h4
      · have e : pickF 4 js rs now b i = b := by unfold pickF; rw [if_neg c1, if_neg c2]
        rw [e] at hc
        have b0 : 0 ≤ b := by rcases hb with rfl | hb; exact absurd (.inl (by omega)) c2; exact hb
        obtain ⟨g1, g2⟩ := pick_best (m := m) (i := i + 1) (by omega) hb c hc
        have g1' := g1 b0
        refine ⟨g1, fun k h1 h2 h3 h4 => ?_⟩
        by_cases e : k = i
        · subst e
          have c3 : ¬ betB 4 js rs k b.toNat = true := fun g => c2 (.inr g)
          unfold betB at c3
          rw [if_neg (by omega), decide_eq_true_eq, show ((b.toNat : Nat) : Int) = b by omega] at c3
          omega
        · exact g2 k (by omega) h2 h3 h4
theorem pick_due {js : List Job} {rs : List Int} {now : Int} {b : Nat} (h : pickL 4 js rs now = b) : ∀ k, k < js.length → gE rs k ≠ 0 → (jA js k).r ≤ now → (jA js b).d ≤ (jA js k).d := fun k h2 h3 h4 =>
  (pick_best (m := js.length) (i := 0) (b := -1) (by omega) (.inl rfl) b h).2 k (Nat.zero_le _) h2 h3 h4
theorem picks_done {o : Int} {js : List Job} {k : Nat} : ∀ {m : Nat} {now : Int} {rs E : List Int}, rs.length = js.length → E.length = js.length → gE rs k = 0 → gE (apS E (picks o js m now rs)) k = gE E k
  | 0, now, rs, E, _, _, h => rfl
  | m + 1, now, rs, E, hl, hE, h => by
    rw [picks]
    split
    · rfl
    · rcases pick_cases (o := o) (js := js) (rs := rs) (now := now) with ⟨hp, _⟩ | ⟨b, hp, hb, hb0⟩
      · rw [hp, if_pos (by omega)]; exact picks_done hl hE h
      · have hne : k ≠ b := fun e => hb0 (e ▸ h)
        rw [hp, if_neg (by omega), Int.toNat_natCast, apS_cons, Int.toNat_natCast, picks_done (by rw [List.length_set]; exact hl) (by rw [List.length_set]; exact hE) (by rw [gE_set (by omega), if_neg hne]; exact h), gE_set (by omega), if_neg hne]
theorem tsm_same {t u : Int → Int} {S : List Int} (h : ∀ x, x ∈ S → t x = u x) : tsm t S = tsm u S := by unfold tsm; rw [List.map_congr_left h]
theorem tsm_erase {t : Int → Int} {S : List Int} {x : Int} (h : x ∈ S) : tsm t S = t x + tsm t (S.erase x) := by rw [tsm_perm (List.perm_cons_erase h), tsm_cons]
/-- The rests of a set behind one step. -/
theorem rs_step {js : List Job} {rs S : List Int} {b : Nat} (hl : rs.length = js.length) (hb : b < js.length) (hin : inN js.length S) (hnd : S.Nodup) :
    tsm (rsF (rs.set b (gE rs b - 1))) S = tsm (rsF rs) S - (if (b : Int) ∈ S then 1 else 0) := by
  have ne : ∀ x, x ∈ S → x ≠ (b : Int) → rsF (rs.set b (gE rs b - 1)) x = rsF rs x := fun x hx hne => by
    have := hin x hx
    unfold rsF; rw [gE_set (by omega), if_neg (by omega)]
  split
  · rename_i h
    have h2 := hnd.erase (b : Int)
    rw [tsm_erase h, tsm_erase (t := rsF rs) h, tsm_same (u := rsF rs) fun x hx => ne x (List.mem_of_mem_erase hx) fun e => ?_]
    · unfold rsF; rw [Int.toNat_natCast, gE_set (by omega), if_pos rfl]; omega
    · exact (List.Nodup.mem_erase_iff hnd).1 hx |>.1 e
  · rename_i h
    rw [tsm_same (u := rsF rs) fun x hx => ne x hx fun e => h (e ▸ hx)]; omega
/-- Each end is told by a set. -/
theorem edd_upper {js : List Job} (hg : goodL js = true) : ∀ {m : Nat} {now : Int} {rs E : List Int}, Ch js rs now m → E.length = js.length → ∀ k, k < js.length → 0 < gE rs k →
    ∃ (S : List Int) (ρ : Int), S.Nodup ∧ S ≠ [] ∧ (∀ x, x ∈ S → (0 ≤ x ∧ x < js.length) ∧ 0 < rsF rs x ∧ (jA js x).d ≤ (jA js k).d ∧ (ρ ≤ now ∨ ρ ≤ (jA js x).r)) ∧ gE (apS E (picks 4 js m now rs)) k ≤ ρ + tsm (rsF rs) S := by
  intro m
  induction m with
  | zero =>
    intro now rs E C hE k hk hk0
    have := C.m
    have h3 := sumL_set (l := rs) (i := k) (y := gE rs k - 1) (by rw [C.l]; exact hk)
    have h4 := sumL_nn (l := rs.set k (gE rs k - 1)) (fun x hx => by
      have hb := C.b _ (gE_mem (show k < rs.length by rw [C.l]; exact hk))
      rcases List.mem_or_eq_of_mem_set hx with q | q
      · exact C.b x q
      · omega)
    omega
  | succ m ih =>
    intro now rs E C hE k hk hk0
    have hl := C.l
    have hs : 0 < sumL rs := by
      have h3 := sumL_set (l := rs) (i := k) (y := gE rs k - 1) (by rw [C.l]; exact hk)
      have h4 := sumL_nn (l := rs.set k (gE rs k - 1)) (fun x hx => by
        have hb := C.b _ (gE_mem (show k < rs.length by rw [C.l]; exact hk))
        rcases List.mem_or_eq_of_mem_set hx with q | q
        · exact C.b x q
        · omega)
      omega
    rw [picks, if_neg (by omega)]
    rcases pick_cases (o := 4) (js := js) (rs := rs) (now := now) with ⟨hp, hfree⟩ | ⟨b, hp, hb, hb0⟩
    · obtain ⟨_, C2, _⟩ := C.skip hg hs (o := 4) (by omega)
      rw [hp, if_pos (by omega)]
      obtain ⟨S, ρ, h1, h2, h3, h4⟩ := ih (E := E) C2 hE k hk hk0
      refine ⟨S, ρ, h1, h2, fun x hx => ?_, h4⟩
      obtain ⟨a1, a2, a3, a4⟩ := h3 x hx
      refine ⟨a1, a2, a3, .inr ?_⟩
      have a5 := hfree x.toNat (by omega)
      rw [show ((x.toNat : Nat) : Int) = x by omega] at a5
      rcases a5 with a5 | a5
      · unfold rsF at a2; omega
      · omega
    · obtain ⟨C2, _, hsum⟩ := C.take hs hb hb0
      have bb := C.b _ (gE_mem (show b < rs.length by rw [hl]; exact hb))
      have br := pick_r hp
      have bd := pick_due hp
      rw [hp, if_neg (by omega), Int.toNat_natCast, apS_cons, Int.toNat_natCast]
      dsimp only
      have hE2 : (E.set b (now + 1)).length = js.length := by rw [List.length_set]; exact hE
      have hset : ∀ i, gE (rs.set b (gE rs b - 1)) i = if i = b then gE rs b - 1 else gE rs i := fun i => gE_set (by omega)
      by_cases ck : 0 < gE (rs.set b (gE rs b - 1)) k
      · obtain ⟨S, ρ, h1, h2, h3, h4⟩ := ih (E := E.set b (now + 1)) C2 hE2 k hk ck
        have hin : inN js.length S := fun x hx => (h3 x hx).1
        rw [rs_step hl hb hin h1] at h4
        have up : ∀ x, x ∈ S → 0 < rsF rs x := fun x hx => by
          have h5 := (h3 x hx).2.1
          unfold rsF at h5 ⊢
          rw [hset] at h5
          split at h5
          · rename_i e; rw [e]; omega
          · exact h5
        by_cases cd : (jA js b).d ≤ (jA js k).d
        · by_cases cr : ρ ≤ now + 1
          · by_cases cb : (b : Int) ∈ S
            · rw [if_pos cb] at h4
              exact ⟨S, now, h1, h2, fun x hx => ⟨(h3 x hx).1, up x hx, (h3 x hx).2.2.1, .inl (Int.le_refl _)⟩, by omega⟩
            · rw [if_neg cb] at h4
              refine ⟨(b : Int) :: S, now, List.nodup_cons.2 ⟨cb, h1⟩, by simp, fun x hx => ?_, ?_⟩
              · rcases List.mem_cons.1 hx with rfl | hx
                · exact ⟨⟨by omega, by omega⟩, by unfold rsF; rw [Int.toNat_natCast]; omega, cd, .inl (Int.le_refl _)⟩
                · exact ⟨(h3 x hx).1, up x hx, (h3 x hx).2.2.1, .inl (Int.le_refl _)⟩
              · rw [tsm_cons]
                have : rsF rs (b : Int) = gE rs b := by unfold rsF; rw [Int.toNat_natCast]
                omega
          · have hr : ∀ x, x ∈ S → ρ ≤ (jA js x).r := fun x hx => by
              rcases (h3 x hx).2.2.2 with g | g
              · omega
              · exact g
            have cb : ¬ (b : Int) ∈ S := fun g => by have := hr _ g; omega
            rw [if_neg cb] at h4
            exact ⟨S, ρ, h1, h2, fun x hx => ⟨(h3 x hx).1, up x hx, (h3 x hx).2.2.1, .inr (hr x hx)⟩, by omega⟩
        · have cb : ¬ (b : Int) ∈ S := fun g => by have := (h3 _ g).2.2.1; omega
          rw [if_neg cb] at h4
          refine ⟨S, ρ, h1, h2, fun x hx => ⟨(h3 x hx).1, up x hx, (h3 x hx).2.2.1, .inr ?_⟩, by omega⟩
          obtain ⟨a1, a2, a3, a4⟩ := h3 x hx
          have a5 := up x hx
          have : now < (jA js x).r := by
            by_cases q : now < (jA js x).r
            · exact q
            · have := bd x.toNat (by omega) (by unfold rsF at a5; omega) (by rw [show ((x.toNat : Nat) : Int) = x by omega]; omega)
              rw [show ((x.toNat : Nat) : Int) = x by omega] at this
              omega
          omega
      · have ekb : k = b := by
          rw [hset] at ck
          by_cases e : k = b
          · exact e
          · rw [if_neg e] at ck; exact absurd hk0 ck
        subst ekb
        rw [hset, if_pos rfl] at ck
        have e0 : gE (rs.set k (gE rs k - 1)) k = 0 := by rw [hset, if_pos rfl]; omega
        rw [picks_done C2.l hE2 e0, gE_set (by omega), if_pos rfl]
        refine ⟨[(k : Int)], now, by simp, by simp, fun x hx => ?_, ?_⟩
        · rw [List.mem_singleton.1 hx]
          exact ⟨⟨by omega, by omega⟩, by unfold rsF; rw [Int.toNat_natCast]; omega, Int.le_refl _, .inl (Int.le_refl _)⟩
        · rw [tsm_cons]
          have : rsF rs (k : Int) = gE rs k := by unfold rsF; rw [Int.toNat_natCast]
          have : tsm (rsF rs) [] = 0 := rfl
          omega
/-! ### the greatest lateness of a list of ends -/
theorem valGo4_le {js : List Job} : ∀ {es : List Int} {a : Int}, js.length = es.length → a ≤ valGo 4 false a js es ∧ (∀ i, i < js.length → gE es i - ((js[i]?).getD ⟨0, 0, 0, 0⟩).d ≤ valGo 4 false a js es) ∧ (valGo 4 false a js es = a ∨ ∃ i, i < js.length ∧ valGo 4 false a js es = gE es i - ((js[i]?).getD ⟨0, 0, 0, 0⟩).d) := by
  induction js with
  | nil => intro es a h; cases es with
    | nil => exact ⟨Int.le_refl _, fun i hi => by simp at hi, .inl rfl⟩
    | cons e es => simp at h
  | cons j js ih =>
    intro es a h
    cases es with
    | nil => simp at h
    | cons e es =>
      obtain ⟨h1, h2, h3⟩ := @ih es (max a (e - j.d)) (by simpa using h)
      have ev : valGo 4 false a (j :: js) (e :: es) = valGo 4 false (max a (e - j.d)) js es := by rw [valGo]; simp [stepV]
      rw [ev]
      refine ⟨by omega, fun i hi => ?_, ?_⟩
      · cases i with
        | zero => simp [gE]; omega
        | succ i => simpa [gE] using h2 i (by simpa using hi)
      · rcases h3 with h3 | ⟨i, hi, h3⟩
        · rw [h3]
          by_cases c : a ≤ e - j.d
          · right; exact ⟨0, by simp, by simp [gE]; omega⟩
          · left; omega
        · right; exact ⟨i + 1, by simpa using hi, by simpa [gE] using h3⟩
theorem val4_facts {js : List Job} {es : List Int} (h : es.length = js.length) (h0 : js ≠ []) : (∀ i, i < js.length → gE es i - (jA js i).d ≤ valE 4 js es) ∧ ∃ i, i < js.length ∧ valE 4 js es = gE es i - (jA js i).d := by
  have ej : ∀ i : Nat, jA js i = (js[i]?).getD ⟨0, 0, 0, 0⟩ := fun i => by unfold jA; rw [Int.toNat_natCast]
  cases js with
  | nil => exact absurd rfl h0
  | cons j js =>
    cases es with
    | nil => simp at h
    | cons e es =>
      obtain ⟨h1, h2, h3⟩ := @valGo4_le js es (e - j.d) (by simpa using h.symm)
      have ev : valE 4 (j :: js) (e :: es) = valGo 4 false (e - j.d) js es := by unfold valE; rw [valGo]; simp [stepV]
      rw [ev]
      refine ⟨fun i hi => ?_, ?_⟩
      · rw [ej]
        cases i with
        | zero => simpa [gE] using h1
        | succ i => simpa [gE] using h2 i (by simpa using hi)
      · rcases h3 with h3 | ⟨i, hi, h3⟩
        · exact ⟨0, by simp, by rw [h3, ej]; simp [gE]⟩
        · exact ⟨i + 1, by simpa using hi, by rw [h3, ej]; simp [gE]⟩
/-! ### bounds of sets -/
/-- S: a set with a release and a date that bound it. -/
structure Bset (js : List Job) (S : List Int) (ρ δ : Int) : Prop where
  nd : S.Nodup
  ne : S ≠ []
  inn : inN js.length S
  r : ∀ x, x ∈ S → ρ ≤ (jA js x).r
  d : ∀ x, x ∈ S → (jA js x).d ≤ δ
end Go.Pm.PP

/- Split schedules step by step: the choice by least rest has the least sum of ends, the choice by dates the least greatest lateness, in plain terms. -/
set_option linter.unusedVariables false
set_option linter.unusedSimpArgs false
namespace Go.Pm.PP
open Go.Pm Go.Pm.PE
/-! ### sums over numbers -/
def sN : Nat → (Nat → Int) → Int
  | 0, _ => 0
  | n + 1, f => sN n f + f n
theorem sN_le {f g : Nat → Int} : ∀ {n : Nat}, (∀ i, i < n → f i ≤ g i) → sN n f ≤ sN n g
  | 0, _ => Int.le_refl _
  | n + 1, h => by
    have h1 := sN_le (n := n) fun i hi => h i (by omega)
    have h2 := h n (by omega)
    simp only [sN]; omega
theorem sN_congr {f g : Nat → Int} {n : Nat} (h : ∀ i, i < n → f i = g i) : sN n f = sN n g :=
  Int.le_antisymm (sN_le fun i hi => Int.le_of_eq (h i hi)) (sN_le fun i hi => Int.le_of_eq (h i hi).symm)
theorem sN_add {f g : Nat → Int} : ∀ {n : Nat}, sN n (fun i => f i + g i) = sN n f + sN n g
  | 0 => rfl
  | n + 1 => by
    have := @sN_add f g n
    simp only [sN]; omega
theorem sN_nn {f : Nat → Int} {n : Nat} (h : ∀ i, i < n → 0 ≤ f i) : 0 ≤ sN n f := by
  have : sN n (fun _ => 0) = 0 := by
    clear h
    induction n with
    | zero => rfl
    | succ n ih => simp only [sN, ih]; rfl
  rw [← this]; exact sN_le h
theorem sN_upd {f g : Nat → Int} {k : Nat} : ∀ {n : Nat}, k < n → (∀ i, i < n → i ≠ k → f i = g i) → sN n f = sN n g + (f k - g k)
  | 0, hk, _ => by omega
  | n + 1, hk, h => by
    simp only [sN]
    by_cases e : k = n
    · subst e
      have := sN_congr (n := k) fun i hi => h i (by omega) (by omega)
      omega
    · have h1 := sN_upd (n := n) (by omega) fun i hi hne => h i (by omega) hne
      have h2 := h n (by omega) fun g => e g.symm
      omega
theorem sN_pos {f : Nat → Int} : ∀ {n : Nat}, 0 < sN n f → ∃ i, i < n ∧ 0 < f i
  | 0, h => by simp [sN] at h
  | n + 1, h => by
    by_cases c : 0 < f n
    · exact ⟨n, by omega, c⟩
    · simp only [sN] at h
      obtain ⟨i, hi, h2⟩ := sN_pos (n := n) (f := f) (by omega)
      exact ⟨i, by omega, h2⟩
/-! ### schedules by units of time -/
def vq (js : List Job) : List (Int × Int) → Int → List Int → Prop
  | [], _, rs => ∀ i, i < js.length → gE rs i = 0
  | (x, t) :: Q, now, rs => now ≤ t ∧ (0 ≤ x ∧ x < js.length) ∧ (jA js x).r ≤ t ∧ 0 < gE rs x.toNat ∧ vq js Q (t + 1) (rs.set x.toNat (gE rs x.toNat - 1))
theorem vq_le {js : List Job} : ∀ {Q : List (Int × Int)} {now t : Int} {rs : List Int}, vq js Q t rs → now ≤ t → vq js Q now rs
  | [], _, _, _, h, _ => h
  | (x, s) :: Q, now, t, rs, h, hn => ⟨by have := h.1; omega, h.2⟩
theorem vq_done {js : List Job} {k : Nat} (hk : k < js.length) : ∀ {Q : List (Int × Int)} {now : Int} {rs E : List Int}, vq js Q now rs → rs.length = js.length → E.length = js.length → gE rs k = 0 → gE (apS E Q) k = gE E k
  | [], _, _, _, _, _, _, _ => rfl
  | (x, t) :: Q, now, rs, E, h, hl, hE, h0 => by
    obtain ⟨h1, h2, h3, h4, h5⟩ := h
    have hne : k ≠ x.toNat := fun e => by rw [← e, h0] at h4; omega
    rw [apS_cons]
    try dsimp only
    rw [vq_done hk h5 (by rw [List.length_set]; exact hl) (by rw [List.length_set]; exact hE) (by rw [gE_set (by omega), if_neg hne]; exact h0), gE_set (by omega), if_neg hne]
/-- The picks of a choice are such a schedule. -/
theorem picks_vq {o : Int} {js : List Job} (hg : goodL js = true) : ∀ {m : Nat} {now : Int} {rs : List Int}, Ch js rs now m → vq js (picks o js m now rs) now rs := by
  have zero : ∀ {rs : List Int} {now : Int} {m : Nat}, Ch js rs now m → sumL rs ≤ 0 → ∀ i, i < js.length → gE rs i = 0 := fun {rs now m} C hs i g => by
    have hb := C.b _ (gE_mem (show i < rs.length by rw [C.l]; exact g))
    by_cases c : gE rs i = 0
    · exact c
    · exfalso
      have h3 := sumL_set (l := rs) (i := i) (y := gE rs i - 1) (by rw [C.l]; exact g)
      have h4 := sumL_nn (l := rs.set i (gE rs i - 1)) (fun x hx => by
        rcases List.mem_or_eq_of_mem_set hx with q | q
        · exact C.b x q
        · omega)
      omega
  intro m
  induction m with
  | zero => intro now rs C; exact zero C (by have := C.m; omega)
  | succ m ih =>
    intro now rs C
    rw [picks]
    split
    · rename_i hs; exact zero C hs
    · rename_i hs
      rcases pick_cases (o := o) (js := js) (rs := rs) (now := now) with ⟨hp, _⟩ | ⟨b, hp, hb, hb0⟩
      · obtain ⟨_, C2, _⟩ := C.skip hg (by omega) (o := o) (by omega)
        rw [hp, if_pos (by omega)]
        exact vq_le (ih C2) (by omega)
      · obtain ⟨C2, _, _⟩ := C.take (by omega) hb hb0
        have bb := C.b _ (gE_mem (show b < rs.length by rw [C.l]; exact hb))
        rw [hp, if_neg (by omega), Int.toNat_natCast]
        exact ⟨Int.le_refl _, ⟨by omega, by omega⟩, pick_r hp, by rw [Int.toNat_natCast]; omega, by rw [Int.toNat_natCast]; exact ih C2⟩
/-! ### what is unfinished, step by step -/
def unf (n : Nat) (rs : List Int) : Int := sN n fun i => if 0 < gE rs i then 1 else 0
def nxQ (now : Int) (rs : List Int) : List (Int × Int) → List Int × List (Int × Int)
  | [] => (rs, [])
  | (x, t) :: Q => if t = now then (rs.set x.toNat (gE rs x.toNat - 1), Q) else (rs, (x, t) :: Q)
theorem nxQ_cons {now : Int} {rs : List Int} {x t : Int} {Q : List (Int × Int)} : nxQ now rs ((x, t) :: Q) = if t = now then (rs.set x.toNat (gE rs x.toNat - 1), Q) else (rs, (x, t) :: Q) := rfl
def costQ (n : Nat) : Nat → Int → List Int → List (Int × Int) → Int
  | 0, _, _, _ => 0
  | m + 1, now, rs, Q => unf n rs + costQ n m (now + 1) (nxQ now rs Q).1 (nxQ now rs Q).2
theorem nxQ_vq {js : List Job} {now : Int} {rs : List Int} {Q : List (Int × Int)} (h : vq js Q now rs) : vq js (nxQ now rs Q).2 (now + 1) (nxQ now rs Q).1 := by
  cases Q with
  | nil => exact h
  | cons p Q =>
    obtain ⟨x, t⟩ := p
    obtain ⟨h1, h2, h3, h4, h5⟩ := h
    rw [nxQ_cons]
    by_cases c : t = now
    · rw [if_pos c]; rw [← c]; exact h5
    · rw [if_neg c]; exact ⟨by omega, h2, h3, h4, h5⟩
theorem nxQ_len {now : Int} {rs : List Int} {Q : List (Int × Int)} : (nxQ now rs Q).1.length = rs.length := by
  cases Q with
  | nil => rfl
  | cons p Q =>
    obtain ⟨x, t⟩ := p
    rw [nxQ_cons]
    split
    · simp
    · rfl
theorem cost_eq {js : List Job} : ∀ {m : Nat} {now : Int} {rs E : List Int} {Q : List (Int × Int)}, vq js Q now rs → rs.length = js.length → E.length = js.length → (∀ p, p ∈ Q → p.2 < now + m) → (∀ i, i < js.length → 0 ≤ gE rs i) →
    sN js.length (fun i => if 0 < gE rs i then gE (apS E Q) i - now else 0) = costQ js.length m now rs Q
  | 0, now, rs, E, Q, h, hl, hE, ht, hr => by
    cases Q with
    | cons p Q =>
      have h1 : now ≤ p.2 := by obtain ⟨x, t⟩ := p; exact h.1
      have := ht p (List.mem_cons_self ..)
      omega
    | nil =>
      have : sN js.length (fun i => if 0 < gE rs i then gE (apS E []) i - now else 0) = sN js.length (fun _ => 0) := sN_congr fun i hi => by rw [if_neg (by have := h i hi; omega)]
      rw [this]
      have : ∀ n, sN n (fun _ => 0) = 0 := fun n => by
        induction n with
        | zero => rfl
        | succ n ih => simp only [sN, ih]; rfl
      rw [this]; rfl
  | m + 1, now, rs, E, Q, h, hl, hE, ht, hr => by
    rw [costQ]
    have hv := nxQ_vq h
    cases Q with
    | nil =>
      have e : (nxQ now rs ([] : List (Int × Int))) = (rs, []) := rfl
      rw [e] at hv ⊢
      dsimp only at hv ⊢
      rw [← cost_eq (m := m) (E := E) hv hl hE (fun p hp => by cases hp) hr, unf, ← sN_add]
      refine sN_congr fun i hi => ?_
      have h0 : gE rs i = 0 := h i hi
      rw [if_neg (by omega), if_neg (by omega), if_neg (by omega)]; rfl
    | cons p Q =>
      obtain ⟨x, t⟩ := p
      obtain ⟨h1, h2, h3, h4, h5⟩ := h
      by_cases c : t = now
      · have e : (nxQ now rs ((x, t) :: Q)) = (rs.set x.toNat (gE rs x.toNat - 1), Q) := by rw [nxQ_cons]; rw [if_pos c]
        rw [e] at hv ⊢
        dsimp only at hv ⊢
        have hl2 : (rs.set x.toNat (gE rs x.toNat - 1)).length = js.length := by rw [List.length_set]; exact hl
        have hE2 : (E.set x.toNat (t + 1)).length = js.length := by rw [List.length_set]; exact hE
        have hs : ∀ i, gE (rs.set x.toNat (gE rs x.toNat - 1)) i = if i = x.toNat then gE rs x.toNat - 1 else gE rs i := fun i => gE_set (by omega)
        rw [← cost_eq (m := m) (E := E.set x.toNat (t + 1)) hv hl2 hE2 (fun p hp => by have := ht p (List.mem_cons_of_mem _ hp); omega) (fun i hi => by
          have := hr i hi
          rw [hs]; split
          · omega
          · exact this), unf, ← sN_add, apS_cons]
        try dsimp only
        refine sN_congr fun i hi => ?_
        rw [hs]
        by_cases ei : i = x.toNat
        · subst ei
          rw [if_pos h4, if_pos h4, if_pos rfl]
          by_cases c2 : 0 < gE rs x.toNat - 1
          · rw [if_pos c2]; omega
          · rw [if_neg c2, vq_done hi hv hl2 hE2 (by rw [hs, if_pos rfl]; omega), gE_set (by omega), if_pos rfl]; omega
        · rw [if_neg ei]
          by_cases c2 : 0 < gE rs i
          · rw [if_pos c2, if_pos c2, if_pos c2]; omega
          · rw [if_neg c2, if_neg c2, if_neg c2]; rfl
      · have e : (nxQ now rs ((x, t) :: Q)) = (rs, (x, t) :: Q) := by rw [nxQ_cons]; rw [if_neg c]
        rw [e] at hv ⊢
        dsimp only at hv ⊢
        rw [← cost_eq (m := m) (E := E) hv hl hE (fun p hp => by have := ht p hp; omega) hr, unf, ← sN_add]
        refine sN_congr fun i hi => ?_
        by_cases c2 : 0 < gE rs i
        · rw [if_pos c2, if_pos c2, if_pos c2]; omega
        · rw [if_neg c2, if_neg c2, if_neg c2]; rfl
/-! ### the choice by least rest is ahead of each schedule -/
def cR (js : List Job) (now : Int) (A : Nat → Bool) : Int := sN js.length fun i => if (jA js i).r ≤ now ∧ A i = true then 1 else 0
def sR (js : List Job) (now : Int) (rs : List Int) (A : Nat → Bool) : Int := sN js.length fun i => if (jA js i).r ≤ now ∧ A i = false then gE rs i else 0
/-- Whatever some jobs are left out of one, no more left out of the other one leave no more to be done. -/
def Ahead (js : List Job) (now : Int) (ρ σ : List Int) : Prop := (∀ i, i < js.length → now < (jA js i).r → gE ρ i = gE σ i) ∧ ∀ B : Nat → Bool, ∃ A : Nat → Bool, cR js now A ≤ cR js now B ∧ sR js now ρ A ≤ sR js now σ B
theorem ahead_refl {js : List Job} {now : Int} {rs : List Int} : Ahead js now rs rs := ⟨fun _ _ _ => rfl, fun B => ⟨B, Int.le_refl _, Int.le_refl _⟩⟩
theorem ahead_time {js : List Job} {now : Int} {ρ σ : List Int} (D : Ahead js now ρ σ) : Ahead js (now + 1) ρ σ := by
  refine ⟨fun i hi h => D.1 i hi (by omega), fun B => ?_⟩
  obtain ⟨A, h1, h2⟩ := D.2 B
  refine ⟨fun i => if (jA js i).r ≤ now then A i else B i, ?_, ?_⟩
  · have e1 : cR js (now + 1) (fun i => if (jA js i).r ≤ now then A i else B i) = cR js now A + sN js.length (fun i => if (jA js i).r = now + 1 ∧ B i = true then 1 else 0) := by
      unfold cR; rw [← sN_add]
      refine sN_congr fun i _ => ?_
      by_cases c : (jA js i).r ≤ now
      · have c2 : (jA js i).r ≤ now + 1 := by omega
        have c3 : ¬ (jA js i).r = now + 1 := by omega
        simp [c, c2, c3]
      · by_cases c3 : (jA js i).r = now + 1
        · have c2 : (jA js i).r ≤ now + 1 := by omega
          have c4 : ¬ now + 1 ≤ now := by omega
          simp [c2, c3, c4]
        · have c2 : ¬ (jA js i).r ≤ now + 1 := by omega
          simp [c, c2, c3]
    have e2 : cR js (now + 1) B = cR js now B + sN js.length (fun i => if (jA js i).r = now + 1 ∧ B i = true then 1 else 0) := by
      unfold cR; rw [← sN_add]
      refine sN_congr fun i _ => ?_
      by_cases c : (jA js i).r ≤ now
      · have c2 : (jA js i).r ≤ now + 1 := by omega
        have c3 : ¬ (jA js i).r = now + 1 := by omega
        simp [c, c2, c3]
      · by_cases c3 : (jA js i).r = now + 1
        · have c2 : (jA js i).r ≤ now + 1 := by omega
          have c4 : ¬ now + 1 ≤ now := by omega
          simp [c2, c3, c4]
        · have c2 : ¬ (jA js i).r ≤ now + 1 := by omega
          simp [c, c2, c3]
    omega
  · have e1 : sR js (now + 1) ρ (fun i => if (jA js i).r ≤ now then A i else B i) = sR js now ρ A + sN js.length (fun i => if (jA js i).r = now + 1 ∧ B i = false then gE σ i else 0) := by
      unfold sR; rw [← sN_add]
      refine sN_congr fun i hi => ?_
      by_cases c : (jA js i).r ≤ now
      · have c2 : (jA js i).r ≤ now + 1 := by omega
        have c3 : ¬ (jA js i).r = now + 1 := by omega
        simp [c, c2, c3]
      · by_cases c3 : (jA js i).r = now + 1
        · have c2 : (jA js i).r ≤ now + 1 := by omega
          have := D.1 i hi (by omega)
          have c4 : ¬ now + 1 ≤ now := by omega
          simp [c2, c3, c4, this]
        · have c2 : ¬ (jA js i).r ≤ now + 1 := by omega
          simp [c, c2, c3]
    have e2 : sR js (now + 1) σ B = sR js now σ B + sN js.length (fun i => if (jA js i).r = now + 1 ∧ B i = false then gE σ i else 0) := by
      unfold sR; rw [← sN_add]
      refine sN_congr fun i _ => ?_
      by_cases c : (jA js i).r ≤ now
      · have c2 : (jA js i).r ≤ now + 1 := by omega
        have c3 : ¬ (jA js i).r = now + 1 := by omega
        simp [c, c2, c3]
      · by_cases c3 : (jA js i).r = now + 1
        · have c2 : (jA js i).r ≤ now + 1 := by omega
          have c4 : ¬ now + 1 ≤ now := by omega
          simp [c2, c3, c4]
        · have c2 : ¬ (jA js i).r ≤ now + 1 := by omega
          simp [c, c2, c3]
    omega
theorem sR_nn {js : List Job} {now : Int} {rs : List Int} {A : Nat → Bool} (hr : ∀ i, i < js.length → 0 ≤ gE rs i) : 0 ≤ sR js now rs A := sN_nn fun i hi => by
  have := hr i hi
  try dsimp only
  split
  · exact this
  · omega
/-- One step of both. -/
theorem ahead_step {js : List Job} {now : Int} {ρ σ ρ' σ' : List Int} (D : Ahead js now ρ σ) (hρ : ∀ i, i < js.length → 0 ≤ gE ρ i) (hσ' : ∀ i, i < js.length → 0 ≤ gE σ' i)
    (hs : (∀ i, i < js.length → gE σ' i = gE σ i) ∨ ∃ x, x < js.length ∧ (jA js x).r ≤ now ∧ (∀ i, i < js.length → gE σ' i = if i = x then gE σ x - 1 else gE σ i))
    (hp : ((∀ i, i < js.length → gE ρ' i = gE ρ i) ∧ ∀ i, i < js.length → (jA js i).r ≤ now → gE ρ i = 0) ∨ ∃ y, y < js.length ∧ (jA js y).r ≤ now ∧ 0 < gE ρ y ∧ (∀ i, i < js.length → gE ρ' i = if i = y then gE ρ y - 1 else gE ρ i) ∧ ∀ i, i < js.length → (jA js i).r ≤ now → 0 < gE ρ i → gE ρ y ≤ gE ρ i) : Ahead js now ρ' σ' := by
  have far : ∀ i, i < js.length → now < (jA js i).r → gE ρ' i = gE σ' i := fun i hi h => by
    have e1 : gE ρ' i = gE ρ i := by
      rcases hp with ⟨h1, _⟩ | ⟨y, h1, h2, h3, h4, _⟩
      · exact h1 i hi
      · rw [h4 i hi, if_neg (fun e => by subst e; omega)]
    have e2 : gE σ' i = gE σ i := by
      rcases hs with h1 | ⟨x, h1, h2, h3⟩
      · exact h1 i hi
      · rw [h3 i hi, if_neg (fun e => by subst e; omega)]
    rw [e1, e2]; exact D.1 i hi h
  refine ⟨far, fun B => ?_⟩
  obtain ⟨A, h1, h2⟩ := D.2 B
  have s0 : 0 ≤ sR js now σ' B := sR_nn hσ'
  have s1 : sR js now σ B - 1 ≤ sR js now σ' B := by
    rcases hs with g | ⟨x, g1, g2, g3⟩
    · have : sR js now σ' B = sR js now σ B := sN_congr fun i hi => by rw [g i hi]
      omega
    · have := sN_upd (n := js.length) (k := x) (f := fun i => if (jA js i).r ≤ now ∧ B i = false then gE σ' i else 0) (g := fun i => if (jA js i).r ≤ now ∧ B i = false then gE σ i else 0) g1 fun i hi hne => by (try dsimp only); rw [g3 i hi, if_neg hne]
      have e : sR js now σ' B = sR js now σ B + ((if (jA js x).r ≤ now ∧ B x = false then gE σ' x else 0) - (if (jA js x).r ≤ now ∧ B x = false then gE σ x else 0)) := this
      rw [g3 x g1, if_pos rfl] at e
      split at e <;> omega
  rcases hp with ⟨g1, g2⟩ | ⟨y, y1, y2, y3, y4, y5⟩
  · refine ⟨A, h1, ?_⟩
    have : sR js now ρ' A = sN js.length (fun _ => 0) := sN_congr fun i hi => by
      try dsimp only
      split
      · rename_i c; rw [g1 i hi]; exact g2 i hi c.1
      · rfl
    have z : ∀ n, sN n (fun _ => 0) = 0 := fun n => by
      induction n with
      | zero => rfl
      | succ n ih => simp only [sN, ih]; rfl
    rw [this, z]; exact s0
  · have upd : ∀ C : Nat → Bool, sR js now ρ' C = sR js now ρ C + ((if C y = false then gE ρ y - 1 else 0) - (if C y = false then gE ρ y else 0)) := fun C => by
      have := sN_upd (n := js.length) (k := y) (f := fun i => if (jA js i).r ≤ now ∧ C i = false then gE ρ' i else 0) (g := fun i => if (jA js i).r ≤ now ∧ C i = false then gE ρ i else 0) y1 fun i hi hne => by (try dsimp only); rw [y4 i hi, if_neg hne]
      have e : sR js now ρ' C = sR js now ρ C + ((if (jA js y).r ≤ now ∧ C y = false then gE ρ' y else 0) - (if (jA js y).r ≤ now ∧ C y = false then gE ρ y else 0)) := this
      rw [y4 y y1, if_pos rfl] at e
      simpa only [y2, true_and] using e
    cases cA : A y
    · refine ⟨A, h1, ?_⟩
      rw [upd A, cA]
      simp only [if_true]
      omega
    · by_cases c0 : sR js now ρ A ≤ 0
      · refine ⟨A, h1, ?_⟩
        rw [upd A, cA]
        simp only [Bool.true_eq_false, if_false]
        omega
      · obtain ⟨z, z1, z2⟩ := sN_pos (f := fun i => if (jA js i).r ≤ now ∧ A i = false then gE ρ i else 0) (n := js.length) (by unfold sR at c0; omega)
        try dsimp only at z2
        split at z2
        · rename_i cz
          obtain ⟨z3, z4⟩ := cz
          have zy : z ≠ y := fun e => by rw [e, cA] at z4; cases z4
          have z5 := y5 z z1 z3 z2
          -- z in place of y
          let A1 : Nat → Bool := fun i => if i = z then true else A i
          let A2 : Nat → Bool := fun i => if i = y then false else A1 i
          have k1 := sN_upd (n := js.length) (k := z) (f := fun i => if (jA js i).r ≤ now ∧ A1 i = true then (1 : Int) else 0) (g := fun i => if (jA js i).r ≤ now ∧ A i = true then (1 : Int) else 0) z1 fun i hi hne => by simp only [A1, if_neg hne]
          have k2 := sN_upd (n := js.length) (k := y) (f := fun i => if (jA js i).r ≤ now ∧ A2 i = true then (1 : Int) else 0) (g := fun i => if (jA js i).r ≤ now ∧ A1 i = true then (1 : Int) else 0) y1 fun i hi hne => by simp only [A2, if_neg hne]
          have k3 := sN_upd (n := js.length) (k := z) (f := fun i => if (jA js i).r ≤ now ∧ A1 i = false then gE ρ i else 0) (g := fun i => if (jA js i).r ≤ now ∧ A i = false then gE ρ i else 0) z1 fun i hi hne => by simp only [A1, if_neg hne]
          have k4 := sN_upd (n := js.length) (k := y) (f := fun i => if (jA js i).r ≤ now ∧ A2 i = false then gE ρ i else 0) (g := fun i => if (jA js i).r ≤ now ∧ A1 i = false then gE ρ i else 0) y1 fun i hi hne => by simp only [A2, if_neg hne]
          have a1z : A1 z = true := by simp [A1]
          have a1y : A1 y = true := by simp [A1, cA]
          have a2y : A2 y = false := by simp [A2]
          simp only [a1z, a1y, a2y, z3, z4, y2, cA, true_and, if_true, Bool.false_eq_true, Bool.true_eq_false, if_false] at k1 k2 k3 k4
          refine ⟨A2, ?_, ?_⟩
          · have e1 : cR js now A2 = sN js.length (fun i => if (jA js i).r ≤ now ∧ A2 i = true then (1 : Int) else 0) := rfl
            have e2 : cR js now A = sN js.length (fun i => if (jA js i).r ≤ now ∧ A i = true then (1 : Int) else 0) := rfl
            omega
          · rw [upd A2, a2y]
            simp only [if_true]
            have e1 : sR js now ρ A2 = sN js.length (fun i => if (jA js i).r ≤ now ∧ A2 i = false then gE ρ i else 0) := rfl
            have e2 : sR js now ρ A = sN js.length (fun i => if (jA js i).r ≤ now ∧ A i = false then gE ρ i else 0) := rfl
            omega
        · omega
theorem ahead_unf {js : List Job} {now : Int} {ρ σ : List Int} (D : Ahead js now ρ σ) (hρ : ∀ i, i < js.length → 0 ≤ gE ρ i) (hσ : ∀ i, i < js.length → 0 ≤ gE σ i) : unf js.length ρ ≤ unf js.length σ := by
  obtain ⟨A, h1, h2⟩ := D.2 fun i => decide (0 < gE σ i)
  have z : ∀ n, sN n (fun _ => 0) = 0 := fun n => by
    induction n with
    | zero => rfl
    | succ n ih => simp only [sN, ih]; rfl
  have e0 : sR js now σ (fun i => decide (0 < gE σ i)) = 0 := by
    have e : sR js now σ (fun i => decide (0 < gE σ i)) = sN js.length (fun _ => 0) := sN_congr fun i hi => by
      have h1 := hσ i hi
      by_cases c : (jA js i).r ≤ now ∧ decide (0 < gE σ i) = false
      · have h2 := of_decide_eq_false c.2
        rw [if_pos c]; omega
      · rw [if_neg c]
    rw [e, z]
  have hz : ∀ i, i < js.length → (jA js i).r ≤ now → A i = false → gE ρ i = 0 := fun i hi hr ha => by
    have hi0 := hρ i hi
    by_cases c : gE ρ i = 0
    · exact c
    · exfalso
      have k := sN_upd (n := js.length) (k := i) (f := fun i => if (jA js i).r ≤ now ∧ A i = false then gE ρ i else 0) (g := fun k => if k = i then 0 else if (jA js k).r ≤ now ∧ A k = false then gE ρ k else 0) hi fun q hq hne => by (try dsimp only); rw [if_neg hne]
      have nn : 0 ≤ sN js.length (fun k => if k = i then 0 else if (jA js k).r ≤ now ∧ A k = false then gE ρ k else 0) := sN_nn fun k hk => by
        have := hρ k hk
        try dsimp only
        split
        · omega
        · split
          · exact this
          · omega
      rw [if_pos ⟨hr, ha⟩, if_pos rfl] at k
      have e : sR js now ρ A = sN js.length (fun i => if (jA js i).r ≤ now ∧ A i = false then gE ρ i else 0) := rfl
      omega
  have e1 : unf js.length ρ ≤ cR js now A + sN js.length (fun i => if now < (jA js i).r ∧ 0 < gE σ i then 1 else 0) := by
    unfold unf cR; rw [← sN_add]
    refine sN_le fun i hi => ?_
    by_cases c : (jA js i).r ≤ now
    · have c' : ¬ now < (jA js i).r := by omega
      cases ca : A i
      · rw [hz i hi c ca]; simp [c']
      · simp only [c, c', ca, true_and, if_true, false_and, if_false]
        split <;> omega
    · have c' : now < (jA js i).r := by omega
      have := D.1 i hi c'
      simp only [c, c', this, false_and, if_false, true_and]
      omega
  have e2 : unf js.length σ = cR js now (fun i => decide (0 < gE σ i)) + sN js.length (fun i => if now < (jA js i).r ∧ 0 < gE σ i then 1 else 0) := by
    unfold unf cR; rw [← sN_add]
    refine sN_congr fun i hi => ?_
    by_cases c : (jA js i).r ≤ now
    · have c' : ¬ now < (jA js i).r := by omega
      simp [c, c']
    · have c' : now < (jA js i).r := by omega
      simp [c, c']
  omega
end Go.Pm.PP

/- No split schedule has a less sum of ends than the choice by least rest, nor a less greatest lateness than the choice by dates. -/
set_option linter.unusedVariables false
set_option linter.unusedSimpArgs false
namespace Go.Pm.PP
open Go.Pm Go.Pm.PE
theorem pick_min {js : List Job} {rs : List Int} {now : Int} : ∀ {m i : Nat} {b : Int}, i + m = js.length → (b = -1 ∨ 0 ≤ b) → ∀ c : Nat, (List.range' i m).foldl (pickF 2 js rs now) b = c →
    (0 ≤ b → gE rs c ≤ gE rs b.toNat) ∧ ∀ k, i ≤ k → k < js.length → gE rs k ≠ 0 → (jA js k).r ≤ now → gE rs c ≤ gE rs k
  | 0, i, b, h, hb, c, hc => by
    have e : b = c := hc
    refine ⟨fun _ => by rw [e, Int.toNat_natCast]; exact Int.le_refl _, fun k h1 h2 => by omega⟩
  | m + 1, i, b, h, hb, c, hc => by
    rw [List.range'_succ, List.foldl_cons] at hc
    by_cases c1 : gE rs i = 0 ∨ now < (jA js i).r
    · have e : pickF 2 js rs now b i = b := by unfold pickF; rw [if_pos c1]
      rw [e] at hc
      obtain ⟨g1, g2⟩ := pick_min (m := m) (i := i + 1) (by omega) hb c hc
      refine ⟨g1, fun k h1 h2 h3 h4 => ?_⟩
      by_cases e : k = i
      · subst e; rcases c1 with c1 | c1
        · exact absurd c1 h3
        · omega
      · exact g2 k (by omega) h2 h3 h4
    · by_cases c2 : b < 0 ∨ betB 2 js rs i b.toNat = true
      · have e : pickF 2 js rs now b i = i := by unfold pickF; rw [if_neg c1, if_pos c2]
        rw [e] at hc
        obtain ⟨g1, g2⟩ := pick_min (m := m) (i := i + 1) (by omega) (.inr (by omega)) c hc
        have g1 := g1 (by omega)
        rw [Int.toNat_natCast] at g1
        refine ⟨fun h0 => ?_, fun k h1 h2 h3 h4 => ?_⟩
        · rcases c2 with c2 | c2
          · omega
          · unfold betB at c2
            rw [if_pos rfl, decide_eq_true_eq] at c2
            omega
        · by_cases e : k = i
          · subst e; exact g1
          · exact g2 k (by omega) h2 h3 h4
      · have e : pickF 2 js rs now b i = b := by unfold pickF; rw [if_neg c1, if_neg c2]
        rw [e] at hc
        have b0 : 0 ≤ b := by rcases hb with rfl | hb; exact absurd (.inl (by omega)) c2; exact hb
        obtain ⟨g1, g2⟩ := pick_min (m := m) (i := i + 1) (by omega) hb c hc
        have g1' := g1 b0
        refine ⟨g1, fun k h1 h2 h3 h4 => ?_⟩
        by_cases e : k = i
        · subst e
          have c3 : ¬ betB 2 js rs k b.toNat = true := fun g => c2 (.inr g)
          unfold betB at c3
          rw [if_pos rfl, decide_eq_true_eq] at c3
          omega
        · exact g2 k (by omega) h2 h3 h4
theorem nxQ_far {now : Int} {rs : List Int} : ∀ {Q : List (Int × Int)}, (∀ p, p ∈ Q → now < p.2) → nxQ now rs Q = (rs, Q)
  | [], _ => rfl
  | (x, t) :: Q, h => by
    have := h (x, t) (List.mem_cons_self ..)
    rw [nxQ_cons]
    rw [if_neg (by dsimp only at this; omega)]
theorem cost_le {js : List Job} (hg : goodL js = true) : ∀ {m : Nat} {now : Int} {ρ σ : List Int} {Q : List (Int × Int)}, Ch js ρ now m → vq js Q now σ → σ.length = js.length → (∀ i, i < js.length → 0 ≤ gE σ i) → Ahead js now ρ σ → costQ js.length m now ρ (picks 2 js m now ρ) ≤ costQ js.length m now σ Q
  | 0, now, ρ, σ, Q, C, hv, hl, hσ, D => Int.le_refl _
  | m + 1, now, ρ, σ, Q, C, hv, hl, hσ, D => by
    have hρ : ∀ i, i < js.length → 0 ≤ gE ρ i := fun i hi => (C.b _ (gE_mem (show i < ρ.length by rw [C.l]; exact hi))).1
    have hu := ahead_unf D hρ hσ
    have hv' := nxQ_vq hv
    have hl' : (nxQ now σ Q).1.length = js.length := by rw [nxQ_len]; exact hl
    have hs : (∀ i, i < js.length → gE (nxQ now σ Q).1 i = gE σ i) ∨ ∃ x, x < js.length ∧ (jA js x).r ≤ now ∧ (∀ i, i < js.length → gE (nxQ now σ Q).1 i = if i = x then gE σ x - 1 else gE σ i) := by
      cases Q with
      | nil => exact .inl fun i _ => rfl
      | cons p Q =>
        obtain ⟨x, t⟩ := p
        obtain ⟨h1, h2, h3, h4, h5⟩ := hv
        rw [nxQ_cons]
        by_cases c : t = now
        · rw [if_pos c]
          exact .inr ⟨x.toNat, by omega, by rw [show ((x.toNat : Nat) : Int) = x by omega, ← c]; exact h3, fun i hi => gE_set (by omega)⟩
        · rw [if_neg c]; exact .inl fun i _ => rfl
    have hσ' : ∀ i, i < js.length → 0 ≤ gE (nxQ now σ Q).1 i := fun i hi => by
      cases Q with
      | nil => exact hσ i hi
      | cons p Q =>
        obtain ⟨x, t⟩ := p
        obtain ⟨h1, h2, h3, h4, h5⟩ := hv
        rw [nxQ_cons]
        have := hσ i hi
        by_cases c : t = now
        · rw [if_pos c]
          try dsimp only
          rw [gE_set (by omega)]; split <;> omega
        · rw [if_neg c]; exact this
    rw [costQ, costQ]
    have fin : ∀ {ρ' : List Int} {P' : List (Int × Int)}, nxQ now ρ (picks 2 js (m + 1) now ρ) = (ρ', P') → P' = picks 2 js m (now + 1) ρ' → Ch js ρ' (now + 1) m → Ahead js now ρ' (nxQ now σ Q).1 → unf js.length ρ + costQ js.length m (now + 1) (nxQ now ρ (picks 2 js (m + 1) now ρ)).1 (nxQ now ρ (picks 2 js (m + 1) now ρ)).2 ≤ unf js.length σ + costQ js.length m (now + 1) (nxQ now σ Q).1 (nxQ now σ Q).2 := fun {ρ' P'} e1 e2 C' D' => by
      rw [e1]
      try dsimp only
      rw [e2]
      have := cost_le hg C' hv' hl' hσ' (ahead_time D')
      omega
    by_cases hz : sumL ρ ≤ 0
    · have s0 := sumL_nn C.b
      have z : ∀ i, i < js.length → gE ρ i = 0 := fun i g => by
        have hb := C.b _ (gE_mem (show i < ρ.length by rw [C.l]; exact g))
        by_cases c : gE ρ i = 0
        · exact c
        · exfalso
          have h3 := sumL_set (l := ρ) (i := i) (y := gE ρ i - 1) (by rw [C.l]; exact g)
          have h4 := sumL_nn (l := ρ.set i (gE ρ i - 1)) (fun x hx => by
            rcases List.mem_or_eq_of_mem_set hx with q | q
            · exact C.b x q
            · omega)
          omega
      have cm := C.m
      refine fin (ρ' := ρ) (P' := []) (by rw [picks, if_pos hz]; rfl) ?_ ⟨C.l, C.b, by omega⟩ (ahead_step D hρ hσ' hs (.inl ⟨fun i _ => rfl, fun i hi _ => z i hi⟩))
      cases m with
      | zero => rfl
      | succ m => rw [picks, if_pos hz]
    · rcases pick_cases (o := 2) (js := js) (rs := ρ) (now := now) with ⟨hp, hfree⟩ | ⟨b, hp, hb, hb0⟩
      · obtain ⟨_, C2, _⟩ := C.skip hg (by omega) (o := 2) (by omega)
        refine fin (ρ' := ρ) (P' := picks 2 js m (now + 1) ρ) ?_ rfl C2 (ahead_step D hρ hσ' hs (.inl ⟨fun i _ => rfl, fun i hi hr => ?_⟩))
        · rw [picks, if_neg hz, hp, if_pos (by omega)]
          exact nxQ_far fun p hp => by have := picks_mem p hp; omega
        · rcases hfree i hi with g | g
          · exact g
          · omega
      · obtain ⟨C2, _, _⟩ := C.take (by omega) hb hb0
        have bb := C.b _ (gE_mem (show b < ρ.length by rw [C.l]; exact hb))
        refine fin (ρ' := ρ.set b (gE ρ b - 1)) (P' := picks 2 js m (now + 1) (ρ.set b (gE ρ b - 1))) ?_ rfl C2 (ahead_step D hρ hσ' hs (.inr ⟨b, hb, pick_r hp, by omega, fun i hi => gE_set (by rw [C.l]; exact hb), fun i hi hr h0 => ?_⟩))
        · rw [picks, if_neg hz, hp, if_neg (by omega), Int.toNat_natCast]
          rw [nxQ_cons]
          rw [if_pos rfl, Int.toNat_natCast]
        · exact (pick_min (m := js.length) (i := 0) (b := -1) (by omega) (.inl rfl) b hp).2 i (Nat.zero_le _) hi (by omega) hr
/-- Of each set some job ends no earlier than its bound. -/
theorem vq_lower {js : List Job} : ∀ {Q : List (Int × Int)} {now ρ : Int} {rs E S : List Int}, vq js Q now rs → rs.length = js.length → E.length = js.length → S.Nodup → S ≠ [] → (∀ x, x ∈ S → (0 ≤ x ∧ x < js.length) ∧ 0 < rsF rs x ∧ (ρ ≤ now ∨ ρ ≤ (jA js x).r)) →
    ∃ k, k ∈ S ∧ ρ + tsm (rsF rs) S ≤ gE (apS E Q) k.toNat
  | [], now, ρ, rs, E, S, hv, hl, hE, h1, h2, h3 => by
    obtain ⟨x, hx⟩ := List.exists_mem_of_ne_nil S h2
    obtain ⟨a1, a2, _⟩ := h3 x hx
    have := hv x.toNat (by omega)
    unfold rsF at a2; omega
  | (y, t) :: Q, now, ρ, rs, E, S, hv, hl, hE, h1, h2, h3 => by
    obtain ⟨q1, q2, q3, q4, q5⟩ := hv
    obtain ⟨b, rfl⟩ : ∃ b : Nat, y = b := ⟨y.toNat, by omega⟩
    rw [Int.toNat_natCast] at q4 q5
    have hb : b < js.length := by omega
    rw [apS_cons]
    try dsimp only
    rw [Int.toNat_natCast]
    have hE2 : (E.set b (t + 1)).length = js.length := by rw [List.length_set]; exact hE
    have hl2 : (rs.set b (gE rs b - 1)).length = js.length := by rw [List.length_set]; exact hl
    have hset : ∀ i, gE (rs.set b (gE rs b - 1)) i = if i = b then gE rs b - 1 else gE rs i := fun i => gE_set (by omega)
    have hin : inN js.length S := fun x hx => (h3 x hx).1
    have oth : ∀ x, x ∈ S → x ≠ (b : Int) → 0 < rsF (rs.set b (gE rs b - 1)) x := fun x hx hne => by
      have a2 := (h3 x hx).2.1
      have a1 := hin x hx
      unfold rsF at a2 ⊢
      rw [hset, if_neg (by omega)]; exact a2
    by_cases cb : (b : Int) ∈ S
    · have hρ : ρ ≤ t := by
        rcases (h3 _ cb).2.2 with g | g <;> omega
      by_cases c1 : 1 < gE rs b
      · obtain ⟨k, hk, e⟩ := vq_lower (ρ := t + 1) (E := E.set b (t + 1)) q5 hl2 hE2 h1 h2 fun x hx => ⟨hin x hx, by
          by_cases q : x = (b : Int)
          · subst q; unfold rsF; rw [Int.toNat_natCast, hset, if_pos rfl]; omega
          · exact oth x hx q, .inl (Int.le_refl _)⟩
        rw [rs_step hl hb hin h1, if_pos cb] at e
        exact ⟨k, hk, by omega⟩
      · have eb : gE rs b = 1 := by omega
        have et := tsm_erase (t := rsF rs) cb
        have erb : rsF rs (b : Int) = 1 := by unfold rsF; rw [Int.toNat_natCast]; exact eb
        have hnb : (b : Int) ∉ S.erase (b : Int) := fun g => ((List.Nodup.mem_erase_iff h1).1 g).1 rfl
        by_cases ce : S.erase (b : Int) = []
        · refine ⟨(b : Int), cb, ?_⟩
          rw [Int.toNat_natCast, vq_done hb q5 hl2 hE2 (by rw [hset, if_pos rfl]; omega), gE_set (by omega), if_pos rfl]
          rw [ce] at et
          have : tsm (rsF rs) [] = 0 := rfl
          omega
        · have hin2 : inN js.length (S.erase (b : Int)) := fun x hx => hin x (List.mem_of_mem_erase hx)
          obtain ⟨k, hk, e⟩ := vq_lower (ρ := t + 1) (E := E.set b (t + 1)) q5 hl2 hE2 (h1.erase _) ce fun x hx => ⟨hin2 x hx, oth x (List.mem_of_mem_erase hx) fun q => hnb (q ▸ hx), .inl (Int.le_refl _)⟩
          rw [rs_step hl hb hin2 (h1.erase _), if_neg hnb] at e
          exact ⟨k, List.mem_of_mem_erase hk, by omega⟩
    · obtain ⟨k, hk, e⟩ := vq_lower (ρ := ρ) (E := E.set b (t + 1)) q5 hl2 hE2 h1 h2 fun x hx => ⟨hin x hx, oth x hx fun q => cb (q ▸ hx), (h3 x hx).2.2.imp (fun g => by omega) id⟩
      rw [rs_step hl hb hin h1, if_neg cb] at e
      exact ⟨k, hk, by omega⟩
/-! ### spans, unit by unit -/
def blk (j : Int) : Int → Nat → List (Int × Int)
  | _, 0 => []
  | a, k + 1 => (j, a) :: blk j (a + 1) k
theorem blk_mem {j : Int} : ∀ {k : Nat} {a : Int}, ∀ p, p ∈ blk j a k → p.2 < a + k
  | 0, a, p, h => by cases h
  | k + 1, a, p, h => by
    rcases List.mem_cons.1 h with rfl | h
    · dsimp only; omega
    · have := blk_mem p h; omega
theorem apS_app {E : List Int} {P Q : List (Int × Int)} : apS E (P ++ Q) = apS (apS E P) Q := by unfold apS; rw [List.foldl_append]
theorem apS_blk {j : Int} : ∀ {k : Nat} {a : Int} {E : List Int}, apS E (blk j a (k + 1)) = E.set j.toNat (a + k + 1)
  | 0, a, E => by
    show E.set j.toNat (a + 1) = _
    congr 1; simp
  | k + 1, a, E => by
    rw [blk, apS_cons, apS_blk, List.set_set]
    congr 1
    omega
theorem set_self {l : List Int} {i : Nat} (h : i < l.length) : l.set i (gE l i) = l := by
  have : gE l i = l[i] := by unfold gE; rw [List.getElem?_eq_getElem h]; rfl
  rw [this, List.set_getElem_self]
theorem vq_blk {js : List Job} {j : Int} {Q : List (Int × Int)} (hj : 0 ≤ j ∧ j < js.length) : ∀ {k : Nat} {a now : Int} {rs : List Int}, rs.length = js.length → now ≤ a → (jA js j).r ≤ a → (k : Int) ≤ gE rs j.toNat → vq js Q (a + k) (rs.set j.toNat (gE rs j.toNat - k)) → vq js (blk j a k ++ Q) now rs
  | 0, a, now, rs, hl, h1, h2, h3, h4 => by
    have e : rs.set j.toNat (gE rs j.toNat - (0 : Nat)) = rs := by simp only [Int.natCast_zero, Int.sub_zero]; exact set_self (by omega)
    rw [e] at h4
    exact vq_le h4 (by simpa using h1)
  | k + 1, a, now, rs, hl, h1, h2, h3, h4 => by
    refine ⟨h1, hj, h2, by omega, ?_⟩
    have e : gE (rs.set j.toNat (gE rs j.toNat - 1)) j.toNat = gE rs j.toNat - 1 := by rw [gE_set (by omega), if_pos rfl]
    refine vq_blk (k := k) hj (by rw [List.length_set]; exact hl) (Int.le_refl _) (by omega) (by rw [e]; omega) ?_
    rw [e, List.set_set, show a + 1 + (k : Int) = a + ((k + 1 : Nat) : Int) by omega, show gE rs j.toNat - 1 - (k : Int) = gE rs j.toNat - ((k + 1 : Nat) : Int) by omega]
    exact h4
theorem sN_list {f : Nat → Int} : ∀ {n : Nat}, sN n f = ((List.range' 0 n).map f).sum
  | 0 => rfl
  | n + 1 => by
    rw [List.range'_concat, List.map_append, List.sum_append, ← sN_list]
    simp [sN]
theorem val2_sum {js : List Job} {es : List Int} (h : js.length = es.length) : valE 2 js es = sN js.length (gE es) := by
  unfold valE
  rw [valGo_sum (by omega) (by omega) h, sN_list, Int.zero_add]
  congr 1
end Go.Pm.PP

/- Rests and picks: the reference. -/
set_option linter.unusedVariables false
set_option linter.unusedSimpArgs false
set_option maxRecDepth 4000
set_option maxHeartbeats 8000000
namespace Go.Pm.PP
open Go.Pm Go.Proofs Go.Pm.PE
section
variable {h : Hp} {vj vr : Value} {js : List Job} {rs : List Int} {o now : Int}
theorem l5Rests_run (hj : Jobs h vj js) (hn : js.length ≤ 8) : RunsC P G n_spec_l5Rests [vj] h fun v h' => h <+: h' ∧ Own h.length h' v 1 ((restL js []).map encI) := by
  refine hideC fun K hK => enter_run e_spec_l5Rests (by simp) ?_
  have hjs := hj
  obtain ⟨oj, cj, rfl⟩ := hj.shapeT
  have H0 := own_nil (Holds.start (h := h)) Int encI 1
  rw [restL_nil] at hK
  simp -implicitDefEqProofs
  refine R_loopO (fun m s h' => ∃ (i : Nat) (u : Value), i + m = js.length ∧ s = [(0, .slice oj js.length cj), (3, u), (4, .int .i64 i)] ∧ Holds h h' [.own u 1 (((js.take i).map (·.t)).map encI)]) (fun I hI m s h' => ?_) (n := js.length) ⟨0, .slice none 0 0, Nat.zero_add _, by simp, by simpa using H0⟩
  rintro ⟨i, u, hi, rfl, H⟩
  by_cases hlt : i < js.length
  · obtain ⟨y, hy, _⟩ := drop_at hlt
    have ly := load_J (hjs.pre H.pre) hy
    obtain ⟨v', h2, ha, H2, _⟩ := push_I0 H 0 rfl y.t (by simp; omega)
    simp -implicitDefEqProofs [-indexAddrP_some, hlt, ly, ha, winc hlt (by omega)]
    refine ⟨m - 1, by omega, on hI ⟨i + 1, v', by omega, rfl, ?_⟩⟩
    have e : (js.take (i + 1)).map (·.t) = (js.take i).map (·.t) ++ [y.t] := by rw [take_succ' hy, List.map_append]; rfl
    rw [e]; exact H2
  · rw [List.take_of_length_le (by omega)] at H
    simp -implicitDefEqProofs [hlt]
    exact onK hK (H.ret 0 rfl)
theorem l5Pick_run (hj : Jobs h vj js) (hr : Ints h vr rs) (hn : js.length ≤ 8) (hl : rs.length = js.length) (ho : o = 2 ∨ o = 4) : Ret P G n_spec_l5Pick [vj, vr, .int .i64 now, .int .i64 o] h (.int .i64 (pickL o js rs now)) h := by
  refine enter_run e_spec_l5Pick (by simp) ?_
  have hjs := hj
  have hrs := hr
  obtain ⟨oj, cj, rfl⟩ := hj.shapeT
  obtain ⟨oa, c, rfl⟩ := hr.shapeT
  simp -implicitDefEqProofs
  refine R_loopO (fun m s h' => ∃ (i : Nat) (b : Int), i + m = js.length ∧ s = [(0, .slice oj js.length cj), (1, .slice oa rs.length c), (2, .int .i64 now), (3, .int .i64 o), (9, .int .i64 b), (10, .int .i64 i)] ∧ h' = h ∧ (b = -1 ∨ pkOk js rs b) ∧ pickL o js rs now = (List.range' i m).foldl (pickF o js rs now) b) (fun I hI m s h' => ?_) (n := js.length) ⟨0, -1, Nat.zero_add _, by simp, rfl, .inl rfl, rfl⟩
  rintro ⟨i, b, hi, rfl, rfl, hb, hx⟩
  by_cases hlt : i < js.length
  · obtain ⟨m', rfl⟩ : ∃ m', m = m' + 1 := ⟨m - 1, by omega⟩
    rw [List.range'_succ, List.foldl_cons] at hx
    obtain ⟨y, hy, _⟩ := drop_at hlt
    have ey : jA js i = y := by unfold jA; rw [Int.toNat_natCast, hy]; rfl
    have ly := load_J hjs hy
    have lr := load_I hrs (gE_get (l := rs) (i := i) (by omega))
    have wi := winc hlt (show js.length ≤ 2 ^ 40 by omega)
    by_cases c1 : gE rs i = 0
    · have e : pickF o js rs now b i = b := by unfold pickF; rw [if_pos (.inl c1)]
      rw [e] at hx
      rw [c1] at lr
      simp -implicitDefEqProofs [-indexAddrP_some, hlt, lr, wi]
      exact ⟨m', by omega, on hI ⟨i + 1, b, by omega, rfl, rfl, hb, hx⟩⟩
    · by_cases c2 : now < y.r
      · have e : pickF o js rs now b i = b := by unfold pickF; rw [ey, if_pos (.inr c2)]
        rw [e] at hx
        simp -implicitDefEqProofs [-indexAddrP_some, hlt, lr, nb c1, ly, c2, wi]
        exact ⟨m', by omega, on hI ⟨i + 1, b, by omega, rfl, rfl, hb, hx⟩⟩
      · have okI : pkOk js rs (i : Int) := ⟨by omega, by omega, c1⟩
        rcases hb with rfl | hb
        · have e : pickF o js rs now (-1) i = i := by unfold pickF; rw [ey, if_neg (by omega), if_pos (.inl (by omega))]
          rw [e] at hx
          simp -implicitDefEqProofs [-indexAddrP_some, hlt, lr, nb c1, ly, c2, wi]
          exact ⟨m', by omega, on hI ⟨i + 1, i, by omega, rfl, rfl, .inr okI, hx⟩⟩
        · obtain ⟨k, rfl⟩ : ∃ k : Nat, b = k := ⟨b.toNat, by have := hb.1; omega⟩
          have hkl : k < js.length := by have := hb.2.1; omega
          obtain ⟨z, hz, _⟩ := drop_at hkl
          have ez : jA js k = z := by unfold jA; rw [Int.toNat_natCast, hz]; rfl
          have lz := load_J hjs hz
          have lk := load_I hrs (gE_get (l := rs) (i := k) (by omega))
          have hk0 : ¬ (k : Int) < 0 := by omega
          rcases ho with rfl | rfl
          · by_cases c3 : gE rs i < gE rs k
            · have e : pickF 2 js rs now k i = i := by unfold pickF; rw [ey, if_neg (by omega), if_pos (.inr (by simp [betB, c3]))]
              rw [e] at hx
              simp -implicitDefEqProofs [-indexAddrP_some, hlt, lr, nb c1, ly, c2, wi, hk0, lk, c3]
              exact ⟨m', by omega, on hI ⟨i + 1, i, by omega, rfl, rfl, .inr okI, hx⟩⟩
            · have e : pickF 2 js rs now k i = k := by unfold pickF; rw [ey, if_neg (by omega), if_neg (by simp [betB, c3, hk0])]
              rw [e] at hx
              simp -implicitDefEqProofs [-indexAddrP_some, hlt, lr, nb c1, ly, c2, wi, hk0, lk, c3]
              exact ⟨m', by omega, on hI ⟨i + 1, k, by omega, rfl, rfl, .inr hb, hx⟩⟩
          · by_cases c3 : y.d < z.d
            · have e : pickF 4 js rs now k i = i := by unfold pickF; rw [ey, if_neg (by omega), if_pos (.inr (by simp [betB, ey, ez, c3]))]
              rw [e] at hx
              simp -implicitDefEqProofs [-indexAddrP_some, hlt, lr, nb c1, ly, c2, wi, hk0, lz, c3]
              exact ⟨m', by omega, on hI ⟨i + 1, i, by omega, rfl, rfl, .inr okI, hx⟩⟩
            · have e : pickF 4 js rs now k i = k := by unfold pickF; rw [ey, if_neg (by omega), if_neg (by simp [betB, ey, ez, c3, hk0])]
              rw [e] at hx
              simp -implicitDefEqProofs [-indexAddrP_some, hlt, lr, nb c1, ly, c2, wi, hk0, lz, c3]
              exact ⟨m', by omega, on hI ⟨i + 1, k, by omega, rfl, rfl, .inr hb, hx⟩⟩
  · have hm : m = 0 := by omega
    subst hm
    rw [List.range'_zero, List.foldl_nil] at hx
    simp -implicitDefEqProofs [hlt, hx]
end
end Go.Pm.PP

/- The choice by time, by the reference. -/
set_option linter.unusedVariables false
set_option linter.unusedSimpArgs false
set_option maxRecDepth 4000
set_option maxHeartbeats 8000000
namespace Go.Pm.PP
open Go.Pm Go.Proofs Go.Pm.PE
section
variable {h : Hp} {vj vr : Value} {js : List Job} {rs B : List Int} {o now : Int}
theorem l5Choose_run (hj : Jobs h vj js) (hr : Ints h vr rs) (hg : goodL js = true) (hn : js.length ≤ 8) (C : Ch js rs now FU) (hnow : 0 ≤ now ∧ now ≤ 2 ^ 30) (ho : o = 2 ∨ o = 4) :
    RunsC P G n_spec_l5Choose [vj, vr, .int .i64 now, .int .i64 o] h fun v h' => h <+: h' ∧ Own h.length h' v 3 ((spanL o js now rs).map encS) := by
  refine hideC fun K hK => enter_run e_spec_l5Choose (by simp) ?_
  have hjs := hj
  obtain ⟨oj, cj, rfl⟩ := hj.shapeT
  have hl := C.l
  have eY : spanL o js now rs = (picks o js FU now rs).foldl mgS [] := rfl
  generalize spanL o js now rs = Y at eY hK
  have H0 := own_nil (Holds.start (h := h)) Sp encS 3
  simp -implicitDefEqProofs
  refine CL_post (l1Own_run hr (by omega)) fun v1 h1 ⟨hp1, ho1⟩ => ?_
  have H1 : Holds h h1 [.own (.slice none 0 0) 3 (([] : List Sp).map encS), .own v1 1 (rs.map encI)] := H0.call hp1 ho1
  obtain ⟨ox, cx, rfl⟩ : ∃ a c, v1 = .slice a js.length c := by obtain ⟨a, c, e⟩ := ho1.sees.shapeT; exact ⟨a, c, by rw [e, hl]⟩
  simp -implicitDefEqProofs
  refine R_loopO (fun m st h' => ∃ i : Nat, i + m = js.length ∧ st = [(0, .slice oj js.length cj), (2, .int .i64 now), (3, .int .i64 o), (9, .slice none 0 0), (10, .slice ox js.length cx), (11, .int .i64 (sumL (rs.take i))), (12, .int .i64 i)] ∧ h' = h1) (fun I hI m st h' => ?_) (n := js.length) ⟨0, Nat.zero_add _, by simp [sumL], rfl⟩
  rintro ⟨i, hi, rfl, rfl⟩
  by_cases hlt : i < js.length
  · have hx := gE_get (l := rs) (i := i) (by omega)
    have lx := load_I (H1.sees 1 rfl) hx
    have bx := C.b _ (List.mem_of_getElem? hx)
    have bs := sumL_tk (i := i) C.b
    have ws : IntKind.i64.wrap (sumL (rs.take i) + gE rs i) = sumL (rs.take (i + 1)) := by rw [sumL_take hx, wrap_ok] <;> omega
    simp -implicitDefEqProofs [-indexAddrP_some, hlt, lx, ws, winc hlt (show js.length ≤ 2 ^ 40 by omega)]
    exact ⟨m - 1, by omega, on hI ⟨i + 1, by omega, rfl, rfl⟩⟩
  rw [List.take_of_length_le (by omega)]
  simp -implicitDefEqProofs [hlt]
  refine R_loopO (fun m st h' => ∃ (now' : Int) (rs' : List Int) (S : List Sp) (u : Value), st = [(0, .slice oj js.length cj), (3, .int .i64 o), (9, u), (10, .slice ox js.length cx), (11, .int .i64 (sumL rs')), (13, .int .i64 now')] ∧ Ch js rs' now' m ∧ 0 ≤ now' ∧ now' + m ≤ 2 ^ 31 ∧ S.length + m ≤ FU ∧ Y = (picks o js m now' rs').foldl mgS S ∧ Holds h h' [.own u 3 (S.map encS), .own (.slice ox js.length cx) 1 (rs'.map encI)]) (fun I2 hI2 m2 st h' => ?_) (n := FU) ⟨now, rs, [], .slice none 0 0, by simp, C, hnow.1, by unfold FU; omega, by simp, eY, H1⟩
  rintro ⟨now', rs', S, u, rfl, C', n0, n1, hSl, hY, H⟩
  have hl' := C'.l
  by_cases hs : 0 < sumL rs'
  · have wn : IntKind.i64.wrap (now' + 1) = now' + 1 := by rw [wrap_ok] <;> omega
    have rp := l5Pick_run (o := o) (now := now') (hjs.pre H.pre) (H.sees 1 rfl) hn hl' ho
    rcases pick_cases (o := o) (js := js) (rs := rs') (now := now') with ⟨hp, _⟩ | ⟨b, hp, hb, hb0⟩
    · obtain ⟨_, C2, hm⟩ := C'.skip hg hs (o := o) (by omega)
      obtain ⟨m', rfl⟩ : ∃ m', m2 = m' + 1 := ⟨m2 - 1, by omega⟩
      rw [hp] at rp
      rw [picks, if_neg (by omega), hp, if_pos (by omega)] at hY
      simp -implicitDefEqProofs [hs, CL_ret rp, wn]
      exact ⟨m', by omega, on hI2 ⟨now' + 1, rs', S, u, by simp, C2, by omega, by omega, by omega, hY, H⟩⟩
    · obtain ⟨C2, hm, hsum⟩ := C'.take hs hb hb0
      obtain ⟨m', rfl⟩ : ∃ m', m2 = m' + 1 := ⟨m2 - 1, by omega⟩
      rw [hp] at rp
      rw [picks, if_neg (by omega), hp, if_neg (by omega), List.foldl_cons, Int.toNat_natCast] at hY
      have bs := sumL_nn C'.b
      have bx := C'.b _ (gE_mem (l := rs') (i := b) (by omega))
      have wl : IntKind.i64.wrap (sumL rs' - 1) = sumL (rs'.set b (gE rs' b - 1)) := by rw [hsum, wrap_ok] <;> omega
      have wr : IntKind.i64.wrap (gE rs' b - 1) = gE rs' b - 1 := by rw [wrap_ok] <;> omega
      have hb1 : ¬ (b : Int) < 0 := by omega
      have hF : FU = 1000 := rfl
      have new : mgS S (b, now') = S ++ [⟨b, now', now' + 1⟩] → ∃ u' h2 h3, appendP P (h' ++ [some ⟨[.int .i64 b, .int .i64 now', .int .i64 (now' + 1)], 3, false⟩]) t_S_impl_Span u (.slice (some ⟨h'.length, 0, some 3⟩) 1 1) = some (u', h2) ∧
          (indexAddrP P h2 t_S_int (.slice ox js.length cx) (.int .i64 b) = some (.pointer (some (addP (base (.slice ox js.length cx)) b))) ∧ loadP P h2 t_int (.pointer (some (addP (base (.slice ox js.length cx)) b))) = some (.int .i64 (gE rs' b)) ∧
          storeP P h2 t_int (.int .i64 (gE rs' b - 1)) (.pointer (some (addP (base (.slice ox js.length cx)) b))) = some h3) ∧
          I2 m' [(0, .slice oj js.length cj), (3, .int .i64 o), (9, u'), (10, .slice ox js.length cx), (11, .int .i64 (sumL (rs'.set b (gE rs' b - 1)))), (13, .int .i64 (now' + 1))] h3 := fun hm => by
        obtain ⟨u', h2, ha, H2, _⟩ := push_S0 H 0 rfl (⟨b, now', now' + 1⟩ : Sp) (by omega)
        have lr := load_I (H2.sees 1 rfl) (gE_get (l := rs') (i := b) (by omega))
        obtain ⟨h3, s3, H3, _⟩ := put_I H2 1 rfl (j := b) (by omega) (gE rs' b - 1)
        refine ⟨u', h2, h3, ha, ⟨lr.1, lr.2, s3⟩, on hI2 ⟨now' + 1, _, S ++ [(⟨b, now', now' + 1⟩ : Sp)], u', rfl, C2, by omega, by omega, by simp; omega, by rw [← hm]; exact hY, H3⟩⟩
      rcases List.eq_nil_or_concat S with rfl | ⟨S1, l, rfl⟩
      · obtain ⟨ua, uc, rfl⟩ : ∃ a c, u = .slice a 0 c := (H.sees 0 rfl).shapeT
        obtain ⟨u', h2, h3, ha, ⟨i2, l2, s3⟩, hf⟩ := new mgS_nil
        simp -implicitDefEqProofs [-indexAddrP_some, hs, CL_ret rp, hb1, show IntKind.i64.wrap (-1) = -1 by decide, wn, ha, i2, l2, wr, s3, wl]
        exact ⟨m', by omega, hf⟩
      · rw [List.concat_eq_append] at *
        obtain ⟨ua, uc, rfl⟩ : ∃ a c, u = .slice a (S1.length + 1) c := by obtain ⟨a, c, e⟩ := (H.sees 0 rfl).shapeT; exact ⟨a, c, by rw [e]; simp⟩
        have hS1 : S1.length + 1 + (m' + 1) ≤ FU := by simpa using hSl
        have wS : IntKind.i64.wrap (S1.length : Int) = S1.length := by rw [wrap_ok] <;> omega
        have hS0 : (0 : Int) ≤ S1.length := by omega
        have lS := load_S (H.sees 0 rfl) (i := S1.length) (x := l) (by simp)
        by_cases c1 : l.j = b
        · have c1' : (l.j == (b : Int)) = true := by simpa using c1
          by_cases c2 : l.b = now'
          · have c2' : (l.b == now') = true := by simpa using c2
            obtain ⟨h2, s2, H2, _⟩ := fput_S2 H 0 rfl (j := S1.length) (y := l) (by simp) (now' + 1)
            have lr := load_I (H2.sees 1 rfl) (gE_get (l := rs') (i := b) (by omega))
            obtain ⟨h3, s3, H3, _⟩ := put_I H2 1 rfl (j := b) (by omega) (gE rs' b - 1)
            have eset : (S1 ++ [l]).set S1.length { l with b := now' + 1 } = S1 ++ [{ l with b := now' + 1 }] := by rw [List.set_append_right (h := Nat.le_refl _), Nat.sub_self]; rfl
            rw [eset] at H3
            simp -implicitDefEqProofs [-indexAddrP_some, hs, CL_ret rp, hb1, wS, hS0, lS, c1', c2', wn, s2, lr, wr, s3, wl]
            refine ⟨m', by omega, on hI2 ⟨now' + 1, _, S1 ++ [({ l with b := now' + 1 } : Sp)], _, rfl, C2, by omega, by omega, by simp; omega, by rw [mgS_eq c1 c2] at hY; exact hY, H3⟩⟩
          · obtain ⟨u', h2, h3, ha, ⟨i2, l2, s3⟩, hf⟩ := new (mgS_ne fun g => c2 g.2)
            simp -implicitDefEqProofs [-indexAddrP_some, hs, CL_ret rp, hb1, wS, hS0, lS, c1', nb c2, wn, ha, i2, l2, wr, s3, wl]
            exact ⟨m', by omega, hf⟩
        · obtain ⟨u', h2, h3, ha, ⟨i2, l2, s3⟩, hf⟩ := new (mgS_ne fun g => c1 g.1)
          simp -implicitDefEqProofs [-indexAddrP_some, hs, CL_ret rp, hb1, wS, hS0, lS, nb c1, wn, ha, i2, l2, wr, s3, wl]
          exact ⟨m', by omega, hf⟩
  · have hY2 : Y = S := by
      rw [hY]
      cases m2 with
      | zero => rfl
      | succ k => rw [picks, if_pos (by omega)]; rfl
    subst hY2
    simp -implicitDefEqProofs [hs]
    exact onK hK (H.ret 0 rfl)
end
end Go.Pm.PP

/- Codes that are cut, bytes that are told, comparisons of the laws; base of memory. -/
set_option linter.unusedVariables false
set_option linter.unusedSimpArgs false
set_option maxRecDepth 4000
set_option maxHeartbeats 16000000
namespace Go.Pm.PP
open Go.Pm Go.Proofs Go.Pm.PE
theorem _root_.Go.Pm.Holds.base {h0 h1 h : Hp} {L : List Asn} (H : Holds h1 h L) (hp : h0 <+: h1) : Holds h0 h L := by
  have hl := hp.length_le
  refine ⟨hp.trans H.pre, fun i A e => ?_, H.dist⟩
  have := H.ok i A e
  cases A with
  | own v sz els => exact Own.low this hl
  | box r cs => exact ⟨Nat.le_trans hl this.1, this.2⟩
section
variable {h : Hp} {v u : Value} {xs ys : List Int}
theorem vInts_run (hv : Ints h v xs) (hu : Ints h u xs) (hx : xs.length ≤ 2 ^ 40) : Ret P G n_laws_vInts [v, u] h (.bool true) h := by
  refine enter_run e_laws_vInts (by simp) ?_
  have hvs := hv
  have hus := hu
  obtain ⟨oa, c, rfl⟩ := hv.shapeT
  obtain ⟨ob, c', rfl⟩ := hu.shapeT
  simp -implicitDefEqProofs
  refine R_loopO (fun m s h' => ∃ i : Nat, i + m = xs.length ∧ s = [(0, .slice oa xs.length c), (1, .slice ob xs.length c'), (5, .int .i64 i)] ∧ h' = h) (fun I hI m s h' => ?_) (n := xs.length) ⟨0, Nat.zero_add _, by simp, rfl⟩
  rintro ⟨i, hi, rfl, rfl⟩
  by_cases hlt : i < xs.length
  · obtain ⟨x, hx', _⟩ := drop_at hlt
    simp -implicitDefEqProofs [-indexAddrP_some, hlt, load_I hvs hx', load_I hus hx', winc hlt hx]
    exact ⟨m - 1, by omega, on hI ⟨i + 1, by omega, rfl, rfl⟩⟩
  · simp -implicitDefEqProofs [hlt]
theorem vBig_run {bs : List Int} (hb : Sees h v 1 (bs.map encU)) : Ret P G n_laws_vBig [v] h (.bool (decide ((65536 : Int) < bs.length))) h := by
  refine enter_run e_laws_vBig (by simp) ?_
  obtain ⟨oa, c, rfl⟩ := hb.shapeT
  simp -implicitDefEqProofs
theorem vCut_run {n : Nat} {bs : List Int} (hb : Sees h v 1 (bs.map encU)) (hr : ∀ b, b ∈ bs → 0 ≤ b ∧ b ≤ 255) (hl : bs.length ≤ 65536) (hn : n ≤ 200) : RunsC P G n_laws_vCut [v, .int .i64 n] h fun w h' => h <+: h' ∧ By h' w := by
  refine hideC fun K hK => enter_run e_laws_vCut (by simp) ?_
  have Bs := hb
  obtain ⟨oa, c, rfl⟩ := hb.shapeT
  have cvU : ∀ {x : Int}, convP P t_int t_u8 (.int .i64 x) = some (.int .u8 (IntKind.u8.wrap x)) := by intro x; unfold convP; rw [u_int, u_u8]
  have wr : ∀ k : Nat, k ≤ 200 → IntKind.u8.wrap (k : Int) = (k : Int) := fun k hk => by
    unfold IntKind.wrap; simp [IntKind.signed, IntKind.bits]; omega
  have H0 := own_nil (Holds.start (h := h)) Int encU 1
  have fin : ∀ k : Nat, k ≤ n → k ≤ bs.length → ∃ v3 v4 h4 v5 h5, sliceP P h t_S_u8 (.slice oa bs.length c) (some (.int .i64 (k : Int))) none = some v3 ∧ appendP P h t_S_u8 (.slice none 0 0) v3 = some (v4, h4) ∧ appendP P (h4 ++ [some ⟨[.int .u8 (k : Int)], 1, false⟩]) t_S_u8 v4 (.slice (some ⟨h4.length, 0, some 1⟩) 1 1) = some (v5, h5) ∧ K v5 (gc h h5 v5) := fun k hk hkl => by
    obtain ⟨v3, s3, f3, _⟩ := Bs.back (P := P) u_S_u8 i_u8 (k := .i64) (j := (k : Int)) (by omega) (by simp; omega)
    rw [Int.toNat_natCast, ← List.map_drop] at f3
    obtain ⟨v4, h4, a4, H4, _⟩ := app_U H0 0 rfl f3 (by simp; omega)
    have H4 : Holds h h4 [.own v4 1 ((bs.drop k).map encU)] := H4
    obtain ⟨v5, h5, a5, H5, _⟩ := push_U0 H4 0 rfl (k : Int) (by simp; omega)
    refine ⟨v3, v4, h4, v5, h5, s3, a4, a5, onK hK ⟨(H5.ret 0 rfl).1, ⟨bs.drop k ++ [(k : Int)], (H5.ret 0 rfl).2.sees, fun b hb => ?_, by simp; omega⟩⟩⟩
    rcases List.mem_append.1 hb with g | g
    · exact hr b (List.mem_of_mem_drop g)
    · rw [List.mem_singleton.1 g]; omega
  by_cases c1 : bs.length < n
  · have c1' : (bs.length : Int) < n := by omega
    obtain ⟨v3, v4, h4, v5, h5, s3, a4, a5, f⟩ := fin bs.length (by omega) (Nat.le_refl _)
    simp -implicitDefEqProofs [c1, c1', s3, a4, cvU, wr bs.length (by omega), a5]
    exact f
  · have c1' : ¬ (bs.length : Int) < n := by omega
    obtain ⟨v3, v4, h4, v5, h5, s3, a4, a5, f⟩ := fin n (Nat.le_refl _) (by omega)
    simp -implicitDefEqProofs [c1, c1', s3, a4, cvU, wr n hn, a5]
    exact f
end
end Go.Pm.PP

/- Split schedules by the reference; what both export of them. -/
set_option linter.unusedVariables false
set_option linter.unusedSimpArgs false
set_option maxRecDepth 4000
set_option maxHeartbeats 16000000
namespace Go.Pm.PP
open Go.Pm Go.Proofs Go.Pm.PE
section
variable {h : Hp} {vj v u vs : Value} {js : List Job} {xs : List Int} {S T : List Sp}
theorem l3Job_run {x : Int} (J : Jobs h vj js) (hl : js.length ≤ 2 ^ 40) : Ret P G n_spec_l3Job [vj, .int .i64 x] h (.bool (inB x 0 ((js.length : Int) - 1))) h := by
  refine enter_run e_spec_l3Job (by simp) ?_
  obtain ⟨oj, cj, rfl⟩ := J.shapeT
  have w : IntKind.i64.wrap ((js.length : Int) - 1) = (js.length : Int) - 1 := by rw [wrap_ok] <;> omega
  simp -implicitDefEqProofs [CL_ret l1In_run, w]
/-! ### comparing spans -/
end
end Go.Pm.PP

/- The split schedule of an order, and those by the rules of choice, of both. -/
set_option linter.unusedVariables false
set_option linter.unusedSimpArgs false
set_option maxRecDepth 4000
set_option maxHeartbeats 16000000
namespace Go.Pm.PP
open Go.Pm Go.Proofs Go.Pm.PE
/-! ### the split schedule of an order, in plain terms -/
section
variable {h : Hp} {vj v u vs : Value} {js : List Job} {xs : List Int} {S T : List Sp}
end
end Go.Pm.PP

/- Draws of split schedules; what both export of the choices. -/
set_option linter.unusedVariables false
set_option linter.unusedSimpArgs false
set_option maxRecDepth 4000
set_option maxHeartbeats 32000000
namespace Go.Pm.PP
open Go.Pm Go.Proofs Go.Pm.PE
/-! ### choices, as both export them -/
section
variable {h : Hp} {vj v u vs : Value} {js : List Job} {xs : List Int} {S T : List Sp}
end
/-! ### draws -/
section
variable {h0 h : Hp} {r n : Nat} {vc : Value} {L : List Asn}
theorem Cur.put2 {u : Value} {S : List Sp} (C : Cur h0 h r vc n (L ++ [.own u 3 (S.map encS)])) {k : Nat} {y : Sp} (hy : S[k]? = some y) (z : Int) : ∃ h', storeP P h t_int (.int .i64 z) (.pointer (some (addP (addP (base u) (k * 3)) 2))) = some h' ∧ Cur h0 h' r vc n (L ++ [.own u 3 ((S.set k { y with b := z }).map encS)]) := by
  obtain ⟨a, s, h1, h2, H⟩ := C
  obtain ⟨h', g1, g2, _⟩ := fput_S2 H (L.length + 1) (by rw [List.getElem?_cons_succ]; exact snoc_get) hy z
  refine ⟨h', g1, a, s, h1, h2, ?_⟩
  rw [List.set_cons_succ, List.set_append_right (h := Nat.le_refl _), Nat.sub_self] at g2
  exact g2
end
end Go.Pm.PP

/- Tables of the greatest weights of timely sets, in plain terms: by sets, and by jobs in due order. -/
set_option linter.unusedVariables false
set_option linter.unusedSimpArgs false
namespace Go.Pm.PE
open Go.Pm.PP
/-- A table that tells for each sum of times the greatest weight of a class of sets, -1 where there is none. -/
structure TabK (t w : Int → Int) (N : Nat) (cls : List Int → Prop) (T : List Int) : Prop where
  len : T.length = N + 1
  low : ∀ k, k ≤ N → -1 ≤ gE T k
  up : ∀ S, cls S → ∀ k : Nat, k ≤ N → tsm t S = k → tsm w S ≤ gE T k
  att : ∀ k : Nat, k ≤ N → 0 ≤ gE T k → ∃ S, cls S ∧ tsm t S = k ∧ tsm w S = gE T k
section
variable {t w d : Int → Int} {N : Nat}
theorem tsm_nonneg (hw : ∀ x, 0 ≤ w x) : ∀ {S : List Int}, 0 ≤ tsm w S
  | [] => by simp [tsm]
  | x :: S => by rw [tsm_cons]; have := hw x; have := tsm_nonneg hw (S := S); omega
/-! ### by sets -/
def upT (T : List Int) (k : Int) (x : Int) : List Int := T.set k.toNat (max (gE T k.toNat) x)
theorem TabK.nil : TabK t w N (fun _ => False) (List.replicate (N + 1) (-1)) := by
  have e : ∀ k, k ≤ N → gE (List.replicate (N + 1) (-1 : Int)) k = -1 := fun k hk => by simp [gE, List.getElem?_replicate, show k < N + 1 by omega]
  exact ⟨by simp, fun k hk => by rw [e k hk]; omega, fun S h => h.elim, fun k hk h => by rw [e k hk] at h; omega⟩
theorem TabK.add {cls : List Int → Prop} {T S0 : List Int} (h : TabK t w N cls T) (hw : ∀ x, 0 ≤ w x) (h0 : 0 ≤ tsm t S0) (h1 : tsm t S0 ≤ N) : TabK t w N (fun S => cls S ∨ S = S0) (upT T (tsm t S0) (tsm w S0)) := by
  obtain ⟨m, hm⟩ : ∃ m : Nat, (m : Int) = tsm t S0 := ⟨(tsm t S0).toNat, by omega⟩
  have hl : m < T.length := by rw [h.len]; omega
  have e : ∀ k : Nat, gE (upT T (tsm t S0) (tsm w S0)) k = if k = m then max (gE T m) (tsm w S0) else gE T k := fun k => by
    unfold upT
    rw [← hm, Int.toNat_natCast, gE_set hl]
  have hw0 := tsm_nonneg hw (S := S0)
  refine ⟨by unfold upT; rw [List.length_set, h.len], fun k hk => ?_, fun S hS k hk hs => ?_, fun k hk hg => ?_⟩
  · have := h.low k hk
    rw [e]; split
    · have := h.low m (by omega); omega
    · exact this
  · rw [e]
    rcases hS with g | rfl
    · have := h.up S g k hk hs
      split
      · rename_i c; subst c; omega
      · exact this
    · rw [if_pos (by omega)]; omega
  · rw [e] at hg ⊢
    split
    · rename_i c
      subst c
      rw [if_pos rfl] at hg
      by_cases g : gE T k ≤ tsm w S0
      · exact ⟨S0, .inr rfl, hm.symm, by omega⟩
      · obtain ⟨S, hS, a1, a2⟩ := h.att k hk (by omega)
        exact ⟨S, .inl hS, a1, by omega⟩
    · rename_i c
      rw [if_neg c] at hg
      obtain ⟨S, hS, a1, a2⟩ := h.att k hk hg
      exact ⟨S, .inl hS, a1, a2⟩
theorem TabK.weak {cls cls' : List Int → Prop} {T : List Int} (h : TabK t w N cls T) (e : ∀ S, cls S ↔ cls' S) : TabK t w N cls' T :=
  ⟨h.len, h.low, fun S hS => h.up S ((e S).2 hS), fun k hk hg => by obtain ⟨S, hS, a⟩ := h.att k hk hg; exact ⟨S, (e S).1 hS, a⟩⟩
/-! ### by jobs -/
def clsP (t d : Int → Int) (D : List Int) (S : List Int) : Prop := S.Sublist D ∧ okG t d 0 0 S = true
theorem sub_snoc {D S : List Int} {x : Int} : S.Sublist (D ++ [x]) ↔ S.Sublist D ∨ ∃ S', S = S' ++ [x] ∧ S'.Sublist D := by
  constructor
  · intro h
    obtain ⟨A, B, rfl, hA, hB⟩ := List.sublist_append_iff.1 h
    rcases List.sublist_cons_iff.1 hB with g | ⟨r, rfl, g⟩
    · left; rw [List.sublist_nil.1 g, List.append_nil]; exact hA
    · right; rw [List.sublist_nil.1 g]; exact ⟨A, rfl, hA⟩
  · rintro (h | ⟨S', rfl, h⟩)
    · exact h.trans (List.sublist_append_left ..)
    · exact h.append (List.Sublist.refl _)
theorem TabK.one (hw : ∀ x, 0 ≤ w x) : TabK t w N (clsP t d []) (0 :: List.replicate N (-1)) := by
  have e : ∀ k : Nat, k ≤ N → gE ((0 : Int) :: List.replicate N (-1 : Int)) k = if k = 0 then 0 else -1 := fun k hk => by
    cases k with
    | zero => rfl
    | succ k => simp [gE, List.getElem?_replicate, show k < N by omega]
  have hn : ∀ {S}, clsP t d [] S → S = [] := fun h => List.sublist_nil.1 h.1
  refine ⟨by simp, fun k hk => by rw [e k hk]; split <;> omega, fun S hS k hk hs => ?_, fun k hk h => ?_⟩
  · rw [hn hS] at hs ⊢
    have hs : (0 : Int) = k := hs
    rw [e k hk, if_pos (by omega)]
    exact Int.le_refl _
  · rw [e k hk] at h ⊢
    split at h
    · rename_i c
      subst c
      exact ⟨[], ⟨List.Sublist.refl _, rfl⟩, rfl, rfl⟩
    · omega
end
end Go.Pm.PE

/- Sets ordered by their numbers of jobs and then lexicographically, in plain terms. -/
set_option linter.unusedVariables false
set_option linter.unusedSimpArgs false
namespace Go.Pm.PE
open Go.Pm.PP
end Go.Pm.PE

/- The late rule, in plain terms: what is left is a largest part of the jobs taken that can be on time, with the least sum of times. -/
set_option linter.unusedVariables false
set_option linter.unusedSimpArgs false
namespace Go.Pm.PE
open Go.Pm.PP
section
variable (t d : Int → Int)
/-- The index of the first one of the longest. -/
def lgS (l : List Int) (b i : Nat) : Nat := if t (gE l b) < t (gE l i) then i else b
def lgI (l : List Int) : Nat := (List.range' 0 l.length).foldl (lgS t l) 0
end
section
variable {t d : Int → Int}
theorem lg_go {l : List Int} : ∀ {m i b : Nat}, b < l.length → i + m ≤ l.length → let q := (List.range' i m).foldl (lgS t l) b
    q < l.length ∧ t (gE l b) ≤ t (gE l q) ∧ (∀ j, i ≤ j → j < i + m → t (gE l j) ≤ t (gE l q)) ∧ (q = b ∨ t (gE l b) < t (gE l q)) ∧ (q = b ∨ i ≤ q)
  | 0, i, b, hb, _ => ⟨hb, Int.le_refl _, fun j h1 h2 => by omega, .inl rfl, .inl rfl⟩
  | m + 1, i, b, hb, h => by
    rw [List.range'_succ, List.foldl_cons]
    by_cases c : t (gE l b) < t (gE l i)
    · have e : lgS t l b i = i := by unfold lgS; rw [if_pos c]
      rw [e]
      obtain ⟨h1, h2, h3, h4, h5⟩ := lg_go (l := l) (m := m) (i := i + 1) (b := i) (by omega) (by omega)
      refine ⟨h1, by omega, fun j j1 j2 => ?_, .inr (by omega), .inr (by omega)⟩
      rcases Nat.lt_or_ge i j with g | g
      · exact h3 j g (by omega)
      · have : j = i := by omega
        subst this; exact h2
    · have e : lgS t l b i = b := by unfold lgS; rw [if_neg c]
      rw [e]
      obtain ⟨h1, h2, h3, h4, h5⟩ := lg_go (l := l) (m := m) (i := i + 1) (b := b) hb (by omega)
      refine ⟨h1, h2, fun j j1 j2 => ?_, h4, by omega⟩
      rcases Nat.lt_or_ge i j with g | g
      · exact h3 j g (by omega)
      · have : j = i := by omega
        subst this; omega
theorem lg_spec {l : List Int} (h : l ≠ []) : lgI t l < l.length ∧ ∀ x, x ∈ l → t x ≤ t (gE l (lgI t l)) := by
  have hp : 0 < l.length := List.length_pos_iff.2 h
  obtain ⟨h1, h2, h3, _⟩ := lg_go (t := t) (l := l) (m := l.length) (i := 0) (b := 0) hp (by omega)
  refine ⟨h1, fun x hx => ?_⟩
  obtain ⟨j, hj⟩ := List.getElem?_of_mem hx
  have hjl := (List.getElem?_eq_some_iff.1 hj).1
  have := h3 j (by omega) (by omega)
  have e : gE l j = x := by unfold gE; rw [hj]; rfl
  rw [e] at this
  exact this
theorem erase_perm {l : List Int} {k : Nat} (h : k < l.length) : l.Perm (gE l k :: l.eraseIdx k) := by
  have e : l = l.take k ++ gE l k :: l.drop (k + 1) := by
    have h1 : l[k]? = some (gE l k) := gE_get h
    have := List.take_append_drop k l
    rw [List.drop_eq_getElem_cons h] at this
    have e2 : l[k] = gE l k := by have := List.getElem?_eq_some_iff.1 h1; exact this.2
    rw [e2] at this
    exact this.symm
  rw [List.eraseIdx_eq_take_drop_succ]
  conv => lhs; rw [e]
  exact List.perm_middle
theorem okG_drop {A B : List Int} {x : Int} (ht : ∀ x, 0 ≤ t x) {now : Int} (h : okG t d 0 now (A ++ x :: B) = true) : okG t d 0 now (A ++ B) = true := by
  rw [okG_app, Bool.and_eq_true] at h ⊢
  refine ⟨h.1, ?_⟩
  have h2 := h.2
  rw [okG, Bool.and_eq_true] at h2
  have := ht x
  exact okG_mono (by omega) h2.2
theorem okG_erase {l : List Int} {k : Nat} (ht : ∀ x, 0 ≤ t x) (hk : k < l.length) {now : Int} (h : okG t d 0 now l = true) : okG t d 0 now (l.eraseIdx k) = true := by
  have e : l = l.take k ++ l[k] :: l.drop (k + 1) := by
    have := List.take_append_drop k l
    rw [List.drop_eq_getElem_cons hk] at this
    exact this.symm
  rw [List.eraseIdx_eq_take_drop_succ]
  rw [e] at h
  exact okG_drop ht h
/-- The end of a list that is on time: its sum is no greater than the date of its last one. -/
theorem ok_last {l : List Int} {x : Int} (h : okG t d 0 0 (l ++ [x]) = true) : tsm t (l ++ [x]) ≤ d x := by
  rw [okG_app, Bool.and_eq_true] at h
  have h2 := h.2
  simp only [okG, Bool.and_true, decide_eq_true_eq] at h2
  rw [tsm_app, tsm_cons]
  simp only [show tsm t [] = 0 from rfl]
  omega
theorem nd_le {s l : List Int} (h : s.Nodup) (hm : ∀ x, x ∈ s → x ∈ l) : s.length ≤ l.length := by
  induction s generalizing l with
  | nil => simp
  | cons x s ih =>
    obtain ⟨h1, h2⟩ := List.nodup_cons.1 h
    have hx := hm x (List.mem_cons_self ..)
    have p := List.perm_cons_erase hx
    have := ih (l := l.erase x) h2 fun y hy => by
      have := p.mem_iff.1 (hm y (List.mem_cons_of_mem _ hy))
      rcases List.mem_cons.1 this with rfl | g
      · exact absurd hy h1
      · exact g
    have := p.length_eq
    simp only [List.length_cons] at this ⊢
    omega
theorem nd_perm {s l : List Int} (h : s.Nodup) (hm : ∀ x, x ∈ s → x ∈ l) (hl : l.length ≤ s.length) (hn : l.Nodup) : s.Perm l := by
  refine (List.perm_ext_iff_of_nodup h hn).2 fun x => ⟨hm x, fun hx => ?_⟩
  refine Classical.byContradiction fun g => ?_
  have := nd_le (s := x :: s) (l := l) (List.nodup_cons.2 ⟨g, h⟩) fun y hy => by
    rcases List.mem_cons.1 hy with rfl | k
    · exact hx
    · exact hm y k
  simp only [List.length_cons] at this
  omega
/-- What holds of the jobs that are left. -/
structure LRI (t d : Int → Int) (D E : List Int) : Prop where
  sub : E.Sublist D
  ok : okG t d 0 0 E = true
  dom : ∀ S, S.Sublist D → okG t d 0 0 S = true → ∃ S', S'.Nodup ∧ (∀ x, x ∈ S' → x ∈ E) ∧ S'.length = S.length ∧ tsm t S' ≤ tsm t S
theorem LRI.nil : LRI t d [] [] := ⟨List.Sublist.refl _, rfl, fun S hS _ => ⟨[], List.nodup_nil, fun x h => (by cases h), by rw [List.sublist_nil.1 hS], by rw [List.sublist_nil.1 hS]; exact Int.le_refl _⟩⟩
theorem LRI.step (ht : ∀ x, 0 ≤ t x) {D E : List Int} {x : Int} (I : LRI t d D E) (hnd : (D ++ [x]).Nodup) (hd : ∀ y, y ∈ D → d y ≤ d x) : LRI t d (D ++ [x]) (if tsm t (E ++ [x]) ≤ d x then E ++ [x] else (E ++ [x]).eraseIdx (lgI t (E ++ [x]))) := by
  have hxD : x ∉ D := fun g => by
    have := (List.nodup_append.1 hnd).2.2 x g x (List.mem_singleton.2 rfl)
    exact this rfl
  have hxE : x ∉ E := fun g => hxD (I.sub.subset g)
  have hsub : (E ++ [x]).Sublist (D ++ [x]) := I.sub.append (List.Sublist.refl _)
  have hndE : (E ++ [x]).Nodup := hnd.sublist hsub
  have last : ∀ S, S.Sublist (D ++ [x]) → okG t d 0 0 S = true → S ≠ [] → tsm t S ≤ d x := fun S hS ho hne => by
    obtain ⟨r, y, rfl⟩ := snoc_of hne
    have h1 := ok_last ho
    have hy : y ∈ D ++ [x] := hS.subset (by simp)
    rcases List.mem_append.1 hy with g | g
    · have := hd y g; omega
    · rw [List.mem_singleton.1 g] at h1 ⊢; exact h1
  -- some part of what was left, and of the one that is taken
  have wide : ∀ S, S.Sublist (D ++ [x]) → okG t d 0 0 S = true → ∃ S', S'.Nodup ∧ (∀ y, y ∈ S' → y ∈ E ++ [x]) ∧ S'.length = S.length ∧ tsm t S' ≤ tsm t S := fun S hS ho => by
    rcases sub_snoc.1 hS with g | ⟨S0, rfl, g⟩
    · obtain ⟨S', a, b, c, e⟩ := I.dom S g ho
      exact ⟨S', a, fun y hy => List.mem_append_left _ (b y hy), c, e⟩
    · rw [okG_app, Bool.and_eq_true] at ho
      obtain ⟨S', a, b, c, e⟩ := I.dom S0 g ho.1
      refine ⟨S' ++ [x], List.nodup_append.2 ⟨a, by simp, fun u hu v hv e => ?_⟩, fun y hy => ?_, by simp [c], ?_⟩
      · rw [List.mem_singleton.1 hv] at e
        exact hxE (e ▸ b u hu)
      · rcases List.mem_append.1 hy with g | g
        · exact List.mem_append_left _ (b y g)
        · exact List.mem_append_right _ g
      · rw [tsm_app, tsm_app]; omega
  by_cases c : tsm t (E ++ [x]) ≤ d x
  · rw [if_pos c]
    refine ⟨hsub, ?_, wide⟩
    rw [okG_app, I.ok]
    rw [tsm_app, tsm_cons] at c
    simp only [show tsm t [] = 0 from rfl] at c
    simp only [okG, Bool.and_true, Bool.true_and, decide_eq_true_eq]
    omega
  · rw [if_neg c]
    obtain ⟨k1, k2⟩ := lg_spec (t := t) (l := E ++ [x]) (by simp)
    generalize lgI t (E ++ [x]) = k at *
    have hp := erase_perm k1
    obtain ⟨l, hl⟩ : ∃ l, l = gE (E ++ [x]) k := ⟨_, rfl⟩
    rw [← hl] at hp k2
    have hndp := hp.nodup_iff.1 hndE
    obtain ⟨n1, n2⟩ := List.nodup_cons.1 hndp
    refine ⟨(List.eraseIdx_sublist ..).trans hsub, ?_, fun S hS ho => ?_⟩
    · -- still on time
      rcases Nat.lt_or_ge k E.length with g | g
      · rw [List.eraseIdx_append_of_lt_length g, okG_app, okG_erase ht g I.ok]
        have hpE := erase_perm g
        have e1 : gE E k = l := by
          rw [hl]; unfold gE; rw [List.getElem?_append_left g]
        rw [e1] at hpE
        have s1 := tsm_perm (t := t) hpE
        rw [tsm_cons] at s1
        have s2 := k2 x (by simp)
        have hne : E ≠ [] := List.length_pos_iff.1 (by omega)
        have s3 := last E (I.sub.trans (List.sublist_append_left ..)) I.ok hne
        simp only [okG, Bool.and_true, Bool.true_and, decide_eq_true_eq]
        omega
      · have : k = E.length := by simp at k1; omega
        subst this
        rw [List.eraseIdx_append_of_length_le (Nat.le_refl _), Nat.sub_self]
        simpa using I.ok
    · obtain ⟨S', a, b, c', e⟩ := wide S hS ho
      by_cases hlS : l ∈ S'
      · -- some one of them is not in it
        have : ∃ z, z ∈ E ++ [x] ∧ z ∉ S' := by
          refine Classical.byContradiction fun g => ?_
          have hall : ∀ z, z ∈ E ++ [x] → z ∈ S' := fun z hz => Classical.byContradiction fun k => g ⟨z, hz, k⟩
          have hpm := nd_perm a b (nd_le hndE hall) hndE
          have h1 := tsm_perm (t := t) hpm
          have h2 := last S hS ho (fun k => by
            rw [k] at c'
            have : S' = [] := List.length_eq_zero_iff.1 (by simpa using c')
            rw [this] at hlS; cases hlS)
          omega
        obtain ⟨z, hz, hzS⟩ := this
        have hpl := List.perm_cons_erase hlS
        have hne : z ≠ l := fun g => hzS (g ▸ hlS)
        have ndl := List.nodup_cons.1 (hpl.nodup_iff.1 a)
        refine ⟨z :: S'.erase l, List.nodup_cons.2 ⟨fun g => hzS (hpl.mem_iff.2 (List.mem_cons_of_mem _ g)), ndl.2⟩, fun y hy => ?_, ?_, ?_⟩
        · rcases List.mem_cons.1 hy with rfl | g
          · rcases List.mem_cons.1 (hp.mem_iff.1 hz) with g | g
            · exact absurd g hne
            · exact g
          · have h1 := b y (hpl.mem_iff.2 (List.mem_cons_of_mem _ g))
            rcases List.mem_cons.1 (hp.mem_iff.1 h1) with k | k
            · exact absurd (k ▸ g) ndl.1
            · exact k
        · have := hpl.length_eq
          simp only [List.length_cons] at this ⊢
          omega
        · have s1 := tsm_perm (t := t) hpl
          rw [tsm_cons] at s1 ⊢
          have := k2 z hz
          omega
      · refine ⟨S', a, fun y hy => ?_, c', e⟩
        rcases List.mem_cons.1 (hp.mem_iff.1 (b y hy)) with g | g
        · exact absurd (g ▸ hy) hlS
        · exact g
theorem LRI.most {D E S : List Int} (I : LRI t d D E) (hE : E.Nodup) (hS : S.Sublist D) (ho : okG t d 0 0 S = true) : S.length ≤ E.length ∧ (S.length = E.length → tsm t E ≤ tsm t S) := by
  obtain ⟨S', a, b, c, e⟩ := I.dom S hS ho
  have := nd_le a b
  refine ⟨by omega, fun h => ?_⟩
  have := tsm_perm (t := t) (nd_perm a b (by omega) hE)
  omega
/-! ### the steps -/
def gone (s : List (Int × Int)) : List Int := (s.map Prod.snd).filter fun x => decide (0 ≤ x)
end
end Go.Pm.PE

/- FnSplits in the small machine. -/
set_option linter.unusedVariables false
set_option linter.unusedSimpArgs false
set_option maxRecDepth 4000
set_option maxHeartbeats 32000000
namespace Go.Pm.PP
open Go.Pm Go.Proofs Go.Pm.PE
/-! ### in plain terms -/
end Go.Pm.PP
