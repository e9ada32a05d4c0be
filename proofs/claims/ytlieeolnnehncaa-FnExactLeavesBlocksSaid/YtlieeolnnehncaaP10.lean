/- The texts PjJ7, Pj21, PjJ8 of this work: FnExactSwapOps in the small machine. -/
import Derived.Test.YtlieeolnnehncaaP9
/- FnExactSwapOps in the small machine. -/
set_option linter.unusedVariables false
set_option linter.unusedSimpArgs false
set_option maxRecDepth 4000
set_option maxHeartbeats 4000000
namespace Go.Pm.PP
open Go.Pm Go.Proofs
theorem law_SwapOps {h : Hp} {vr vo : Value} {s : Shop} {oss : List (List Int)} {vs ws : List Value} {m k : Int} (NS : Nest h vr encO 2 s.routes vs) (NO : Nest h vo encI 1 oss ws) (l1 : s.routes.length < 2 ^ 63) (l2 : ∀ x ∈ s.routes, x.length < 2 ^ 63) (l3 : oss.length < 2 ^ 63) (l4 : ∀ x ∈ oss, x.length < 2 ^ 63) :
    Ret P G n_laws_FnExactSwapOps [sv s vr, vo, .int .i64 m, .int .i64 k] h (.bool true) h := by
  refine enter_run e_laws_FnExactSwapOps (by simp) ?_
  have NSs := NS
  have NOs := NO
  obtain ⟨oa, ca, rfl⟩ := NS.shape
  obtain ⟨ob, cb, rfl⟩ := NO.shape
  have z1 := fun l => szJobShop_run (left := 1048576) (NSs.pre (List.prefix_append h l)) l1 l2 (by omega) (by omega)
  by_cases c1 : szN 1048576 s.routes < 0
  · simp -implicitDefEqProofs [CL_ret (z1 _), c1]
  have e1 := szN_ok c1
  have z2 := fun l => szIntSS_run (left := szN 1048576 s.routes) (NOs.pre (List.prefix_append h l)) l3 l4 (by omega) (by omega)
  by_cases c2 : szN (szN 1048576 s.routes) oss < 0
  · simp -implicitDefEqProofs [CL_ret (z1 _), c1, CL_ret (z2 _), c2]
  have e2 := szN_ok c2
  have b1 : s.routes.length ≤ 2 ^ 20 := by omega
  have b2 : tot s.routes ≤ 2 ^ 20 := by omega
  have b3 : oss.length ≤ 2 ^ 20 := by omega
  have b4 : tot oss ≤ 2 ^ 20 := by omega
  have b5 : ∀ x ∈ s.routes, x.length ≤ 2 ^ 40 := fun x hx => by have := tot_mem hx; omega
  have b6 : ∀ x ∈ oss, x.length ≤ 2 ^ 40 := fun x hx => by have := tot_mem hx; omega
  have toS : ∀ {h' : Hp}, h <+: h' → RunsC P G n_laws_toJobShop [sv s (.slice oa s.routes.length ca)] h' fun v h2 => ∃ vr' us, v = sv s vr' ∧ us.length = s.routes.length ∧ Holds h' h2 (.own vr' 1 (us.map encV) :: inL encO 2 us s.routes) := fun hp => toJobShop_run (NSs.pre hp) (by omega) b5
  have toO : ∀ {h' : Hp}, h <+: h' → RunsC P G n_laws_toIntSS [.slice ob oss.length cb] h' fun v h2 => ∃ us : List Value, us.length = oss.length ∧ Holds h' h2 (.own v 1 (us.map encV) :: inL encI 1 us oss) := fun hp => toIntSS_run (NOs.pre hp) (by omega) b6
  have H0 := (Holds.start.alloc [.int .i64 s.m, .slice oa s.routes.length ca] (h := h)).open
  obtain ⟨X, hX⟩ : ∃ X, X = swapO s oss m k := ⟨_, rfl⟩
  obtain ⟨xs, hxs⟩ : ∃ xs, xs = X.getD [] := ⟨_, rfl⟩
  -- the reference
  simp -implicitDefEqProofs [CL_ret (z1 _), c1, CL_ret (z2 _), c2]
  refine CL_post (toS H0.pre) fun v h1 ⟨r1, u1, ev, hu1, C1⟩ => ?_
  subst ev
  have p1 := H0.pre.trans C1.pre
  simp -implicitDefEqProofs
  refine CL_post (toO p1) fun v2 h2 ⟨u2, hu2, C2⟩ => ?_
  have S1 : SAt h2 r1 s := ⟨⟨u1, (Holds.nest (L1 := [_]) (L2 := []) (o := 0) (C1.ext C2.pre).open rfl hu1)⟩, b1, by rw [cnt_tot]; exact b2⟩
  have O1 : OAt h2 v2 oss := ⟨⟨u2, (Holds.nest (L1 := [_]) (L2 := []) (o := 0) C2.open rfl hu2)⟩, b3, by rw [cnt_tot]; exact b4⟩
  simp -implicitDefEqProofs
  refine CL_post (specSwapOps_run S1 O1) fun v h3 ⟨p3, w, ev, uw, lw, CW⟩ => ?_
  subst ev
  rw [← hX, ← hxs] at CW lw
  rw [← hX]
  obtain ⟨w1, w2, w3, rfl⟩ : ∃ a n c, w = .slice a n c := by obtain ⟨a, c, e⟩ := (CW.sees 0 rfl).shape; exact ⟨_, _, _, e⟩
  have H1 := Holds.joinT (A := [_]) (M := inL encI 1 uw xs) (H0.ext (C1.pre.trans C2.pre)) CW
  -- the copies
  simp -implicitDefEqProofs [H1.bl 0 2 rfl rfl]
  refine CL_post (toS H1.pre) fun v h4 ⟨r3, u3, ev, hu3, C3⟩ => ?_
  subst ev
  obtain ⟨x1, x2, x3, rfl⟩ : ∃ a n c, r3 = .slice a n c := by obtain ⟨a, c, e⟩ := (C3.sees 0 rfl).shape; exact ⟨_, _, _, e⟩
  have H2 := (Holds.joinT (A := [_]) (M := inL encO 2 u3 s.routes) H1 C3).allocT [.int .i64 s.m, .slice x1 x2 x3]
  simp -implicitDefEqProofs
  refine CL_post (toO H2.pre) fun v5 h5 ⟨u4, hu4, C4⟩ => ?_
  obtain ⟨y1, y2, y3, rfl⟩ : ∃ a n c, v5 = .slice a n c := by obtain ⟨a, c, e⟩ := (C4.sees 0 rfl).shape; exact ⟨_, _, _, e⟩
  have H3 := Holds.joinT (A := [_]) (M := inL encI 1 u4 oss) H2 C4
  have N3 := Holds.nest (o := 2) H3.swap rfl hu3
  have M3 := Holds.nest (o := 4) H3 rfl hu4
  have S3 : SAt h5 (.slice x1 x2 x3) s := ⟨⟨u3, N3⟩, b1, by rw [cnt_tot]; exact b2⟩
  have O3 : OAt h5 (.slice y1 y2 y3) oss := ⟨⟨u4, M3⟩, b3, by rw [cnt_tot]; exact b4⟩
  -- the program
  simp -implicitDefEqProofs [H3.bl 3 2 rfl rfl]
  refine CL_post (SwapOps_run S3 O3) fun v h6 ⟨p6, g, ev, ug, lg, CG⟩ => ?_
  subst ev
  rw [← hX, ← hxs] at CG lg
  rw [← hX]
  obtain ⟨g1, g2, g3, rfl⟩ : ∃ a n c, g = .slice a n c := by obtain ⟨a, c, e⟩ := (CG.sees 0 rfl).shape; exact ⟨_, _, _, e⟩
  have H4 := Holds.joinT (A := [_]) (M := inL encI 1 ug xs) H3 CG
  have xl : xs.length ≤ 2 ^ 40 := by rw [hxs, hX]; exact (swap_len b3 b4).1
  have xt : tot xs ≤ 2 ^ 40 := by rw [hxs, hX]; exact (swap_len b3 b4).2
  have xi : ∀ x ∈ xs, x.length ≤ 2 ^ 40 := fun x hx => Nat.le_trans (tot_mem hx) xt
  have q1 := eqIntSS_run (Holds.nest (o := 5) H4 rfl lg) (Holds.nest (o := 1) H4.swap3 rfl lw) xl xi
  simp -implicitDefEqProofs [CL_ret q1, H4.bl 3 2 rfl rfl, H4.bl 0 2 rfl rfl]
  -- the copies are as they were
  refine CH_post (toS H4.pre).new fun v h7 ⟨⟨r7, u7, ev, hu7, C7⟩, hn7⟩ => ⟨hn7 C7.pre, ?_⟩
  subst ev
  have H5 := H4.ext C7.pre
  have q2 := eqJobShop_run (N3.pre (p6.trans C7.pre)) (Holds.nest (L1 := [_]) (L2 := []) (o := 0) C7.open rfl hu7) (by omega) b5
  simp -implicitDefEqProofs [CL_ret q2, CH_at q2]
  refine CL_post (toO H5.pre) fun v8 h8 ⟨u8, hu8, C8⟩ => ?_
  have H6 := H5.ext C8.pre
  have q3 := eqIntSS_run (M3.pre (p6.trans (C7.pre.trans C8.pre))) (Holds.nest (L1 := [_]) (L2 := []) (o := 0) C8.open rfl hu8) (by omega) b6
  simp -implicitDefEqProofs [CL_ret q3, H6.bl 3 2 rfl rfl]
  -- marks in the copies
  refine CL_post (markJobShop_run (k := 1) (o := 2) H6.swap2 rfl hu3 (by omega) (by omega) (by omega) (by omega)) fun r h9 ⟨er, H7⟩ => ?_
  subst er
  have H8 := H7.swap2
  simp -implicitDefEqProofs
  refine CL_post (markIntSS_run (k := 1 + 2 * (tot s.routes : Int)) (o := 4) H8 rfl hu4 (by omega) (by omega) (by omega) (by omega)) fun r h10 ⟨er, H9⟩ => ?_
  subst er
  have q4 := eqIntSS_run (Holds.nest (o := 5) H9.swap2 rfl lg) (Holds.nest (o := 1) H9.swap3 rfl lw) xl xi
  have hk0 : ¬ (1 + 2 * (tot s.routes : Int) + tot oss < 0) := by omega
  simp -implicitDefEqProofs [hk0, CL_ret q4]
  -- marks in the result
  refine CL_post (markIntSS_run (k := 1) (o := 5) H9.swap2 rfl lg xl xt (by omega) (by omega)) fun r h11 ⟨er, H10⟩ => ?_
  subst er
  have lm : ug.length = (marksN mkI 1 1 xs).length := by rw [marksN_len]; exact lg
  have q5 := heldIntSS_run (k := 1) (Holds.nest (o := 5) H10 rfl lm) xl xt (by omega) (by omega)
  have hk1 : ¬ (1 + (tot xs : Int) < 0) := by omega
  simp -implicitDefEqProofs [CL_ret q5, hk1, H10.bl 0 2 rfl rfl]
  -- once more
  refine CL_post (toS H10.pre) fun v h12 ⟨r12, u12, ev, hu12, C12⟩ => ?_
  subst ev
  simp -implicitDefEqProofs
  refine CL_post (toO (H10.pre.trans C12.pre)) fun v13 h13 ⟨u13, hu13, C13⟩ => ?_
  have S13 : SAt h13 r12 s := ⟨⟨u12, (Holds.nest (L1 := [_]) (L2 := []) (o := 0) (C12.ext C13.pre).open rfl hu12)⟩, b1, by rw [cnt_tot]; exact b2⟩
  have O13 : OAt h13 v13 oss := ⟨⟨u13, (Holds.nest (L1 := [_]) (L2 := []) (o := 0) C13.open rfl hu13)⟩, b3, by rw [cnt_tot]; exact b4⟩
  simp -implicitDefEqProofs
  refine CL_post (SwapOps_run S13 O13) fun v h14 ⟨p14, t, ev, ut, lt, CT⟩ => ?_
  subst ev
  rw [← hX, ← hxs] at CT lt
  rw [← hX]
  have H11 := H10.ext (C12.pre.trans (C13.pre.trans p14))
  have q6 := eqIntSS_run (Holds.nest (L1 := [_]) (L2 := []) (o := 0) CT.open rfl lt) (Holds.nest (o := 1) H11.swap3 rfl lw) xl xi
  have q7 := heldIntSS_run (k := 1) (Holds.nest (o := 5) H11 rfl lm) xl xt (by omega) (by omega)
  simp -implicitDefEqProofs [CL_ret q6, CL_ret q7, hk1]
  exact gcP H11.pre rfl
end Go.Pm.PP

/- Job shops: LeavesBlocks of both, the walks. -/
set_option linter.unusedVariables false
set_option linter.unusedSimpArgs false
set_option maxRecDepth 4000
set_option maxHeartbeats 2000000
namespace Go.Pm.PP
open Go.Pm Go.Proofs Go.Pm.JS
theorem block_len {s : Shop} {oss : List (List Int)} {us : List Int} (ho : cntN oss ≤ 2 ^ 20) (h : headsO s oss = some us) : (blocksI s oss).length ≤ 2 ^ 40 ∧ ∀ b ∈ blocksI s oss, b.length ≤ 2 ^ 40 := by
  have pl := path_len ho h
  obtain ⟨h1, h2⟩ := blkGo_len (s := s) (r := pathL s oss) (acc := []) (prev := none) (by simp)
  have h3 : tot (blocksI s oss) ≤ 2 ^ 30 := by rw [blocksI, h2]; simp [tot]; exact pl
  refine ⟨?_, fun b hb => by have := tot_mem hb; omega⟩
  rw [blocksI]; simp at h1; omega
theorem head_at {b : List Int} (h : b ≠ []) : b[0]? = some (b.headD 0) := by
  cases b with
  | nil => exact absurd rfl h
  | cons a t => rfl
theorem last_at' {b : List Int} (h : b ≠ []) : b[b.length - 1]? = some (b.getLastD 0) := by
  rw [← List.getLast?_eq_getElem?, List.getLast?_eq_some_getLast h]
  congr 1
  rw [List.getLastD_eq_getLast?, List.getLast?_eq_some_getLast h]; rfl
section
variable {h : Hp} {vr vo vo2 : Value} {s : Shop} {oss os2 : List (List Int)}
theorem specLeavesBlocks_run (S : SAt h vr s) (O : OAt h vo oss) (O2 : OAt h vo2 os2) : Ret P G n_spec_LeavesBlocks [sv s vr, vo, vo2] h (.tuple #[.bool (leaves0 s oss os2), .bool (leaves1 s oss os2)]) h := by
  refine enter_run e_spec_LeavesBlocks (by simp) ?_
  have Ss := S
  have Os := O
  have Os2 := O2
  obtain ⟨oa, c, rfl⟩ := S.shape
  obtain ⟨ob, d, rfl⟩ := O.shape
  obtain ⟨o2, d2, rfl⟩ := O2.shape
  have r1 := fun l => l9Open_run (Ss.ext l) (Os.ext l)
  have r2 := fun l => l9Open_run (Ss.ext l) (Os2.ext l)
  have H0 := (Holds.start.alloc [.int .i64 s.m, .slice oa s.routes.length c] (h := h)).open
  cases c2 : headsO s oss with
  | none =>
    have e1 : leaves1 s oss os2 = false := by rw [leaves1, c2]; rfl
    have e0 : leaves0 s oss os2 = false := by rw [leaves0, e1]; rfl
    simp -implicitDefEqProofs [CL_ret (r1 _), c2, e1, e0]
  | some us =>
    cases c3 : headsO s os2 with
    | none =>
      have e1 : leaves1 s oss os2 = false := by rw [leaves1, c2, c3]; rfl
      have e0 : leaves0 s oss os2 = false := by rw [leaves0, e1]; rfl
      simp -implicitDefEqProofs [CL_ret (r1 _), c2, CL_ret (r2 _), c3, e1, e0]
    | some us2 =>
      have e1 : leaves1 s oss os2 = true := by rw [leaves1, c2, c3]; rfl
      have e0 : leaves0 s oss os2 = leavesB s oss os2 := by rw [leaves0, e1]; rfl
      obtain ⟨hg, _⟩ := headsO_facts Os.tot c2
      have hm := heads_m c3
      have gm := good_m hg
      obtain ⟨bl1, bl2⟩ := block_len Os.tot c2
      have bok := @blocks_ok s oss
      have rng : ∀ n : Nat, n < (opsL s).length → 0 ≤ mOf s n ∧ mOf s n < os2.length := fun n hn => by
        have hz := List.getElem?_eq_getElem hn
        rw [mOf_get hz, ← hm]
        exact gm _ (List.getElem_mem _)
      rw [e0, e1]
      obtain ⟨R, hR⟩ : ∃ R, R = leavesB s oss os2 := ⟨_, rfl⟩
      rw [← hR]
      simp -implicitDefEqProofs [CL_ret (r1 _), c2, CL_ret (r2 _), c3]
      refine CL_post (l9Blocks_run (Ss.ext _) (Os.ext _) c2) fun v h1 ⟨hp1, vs, hl1, C⟩ => ?_
      have H1 := Holds.joinT (A := [_]) (M := inL encI 1 vs (blocksI s oss)) H0 C
      have N := Holds.nest (o := 1) H1 rfl hl1
      obtain ⟨va, vc, rfl⟩ := N.shape
      unfold leavesB at hR
      generalize hB : blocksI s oss = B at *
      simp -implicitDefEqProofs
      refine R_loopO (fun n st h' => ∃ (i : Nat), i + n = B.length ∧ st = [(2, .slice o2 os2.length d2), (3, .pointer (some ⟨h.length, 0, some 2⟩)), (8, .slice va B.length vc), (9, .int .i64 i)] ∧ h' = h1 ∧ R = (B.drop i).any fun b => b.any (outB s os2 b)) (fun I hI n st h' => ?_) ⟨0, Nat.zero_add _, by simp, rfl, by simpa using hR⟩
      rintro ⟨i, hi, rfl, eh, hx⟩
      rw [eh]
      by_cases hlt : i < B.length
      · obtain ⟨b, hb, hdr⟩ := drop_at hlt
        rw [hdr, List.any_cons] at hx
        obtain ⟨hb1, hb2⟩ := bok b (List.mem_of_getElem? hb)
        have hbl := bl2 b (List.mem_of_getElem? hb)
        have hpos : 0 < b.length := List.length_pos_iff.2 hb1
        obtain ⟨ub, hub, hIb⟩ := N.at hb
        have lb := N.load (P := P) u_S_S_int i_S_int a_S_int hub
        obtain ⟨uo, uc, rfl⟩ := hIb.shapeT
        have h0 := head_at hb1
        have hL := last_at' hb1
        obtain ⟨n0, e0', hn0, _⟩ := hb2 _ (List.mem_of_getElem? h0)
        obtain ⟨nL, eL', hnL, _⟩ := hb2 _ (List.mem_of_getElem? hL)
        have l0 := load_I hIb h0
        rw [show ((0 : Nat) : Int) = 0 from rfl, e0'] at l0
        have lL := load_I hIb hL
        rw [show ((b.length - 1 : Nat) : Int) = (b.length : Int) - 1 by omega, eL'] at lL
        have hwl : IntKind.i64.wrap ((b.length : Int) - 1) = (b.length : Int) - 1 := by rw [wrap_ok] <;> omega
        have p0 := l9Place_run (Ss.pre H1.pre) (Os2.pre H1.pre) hn0 (rng n0 hn0)
        have pL := l9Place_run (Ss.pre H1.pre) (Os2.pre H1.pre) hnL (rng nL hnL)
        rw [← e0'] at p0
        rw [← eL'] at pL
        generalize hF : plB s os2 (b.headD 0) = F at *
        generalize hT : plB s os2 (b.getLastD 0) = T at *
        rw [e0'] at p0
        rw [eL'] at pL
        simp -implicitDefEqProofs [-indexAddrP_some, hlt, H1.bl 0 2 rfl rfl, lb, l0, lL, hwl, CL_ret p0, CH_at p0, CL_ret pL, CH_at pL]
        refine R_loopO (fun n st h' => ∃ (j : Nat), j + n = b.length ∧ st = [(2, .slice o2 os2.length d2), (3, .pointer (some ⟨h.length, 0, some 2⟩)), (8, .slice va B.length vc), (9, .int .i64 i), (10, .int .i64 F), (11, .int .i64 T), (12, .int .i64 j)] ∧ h' = h1 ∧ R = ((b.drop j).any (outB s os2 b) || (B.drop (i + 1)).any fun b => b.any (outB s os2 b))) (fun I2 hI2 m st h' => ?_) ⟨0, Nat.zero_add _, by simp, rfl, by simpa using hx⟩
        rintro ⟨j, hj, rfl, eh2, hx⟩
        rw [eh2]
        by_cases hlt2 : j < b.length
        · obtain ⟨x, hxx, hd2⟩ := drop_at hlt2
          obtain ⟨nx, rfl, hnx, _⟩ := hb2 x (List.mem_of_getElem? hxx)
          rw [hd2, List.any_cons, outB, hF, hT] at hx
          have lx := load_I hIb hxx
          have px := l9Place_run (Ss.pre H1.pre) (Os2.pre H1.pre) hnx (rng nx hnx)
          generalize plB s os2 (nx : Int) = X at *
          by_cases c5 : X < F
          · rw [decide_eq_true c5, Bool.true_or, Bool.true_or] at hx
            simp -implicitDefEqProofs [-indexAddrP_some, hlt2, H1.bl 0 2 rfl rfl, lb, lx, CL_ret px, CH_at px, c5, hx, gcP H1.pre]
          · by_cases c6 : T < X
            · rw [decide_eq_true c6, Bool.or_true, Bool.true_or] at hx
              simp -implicitDefEqProofs [-indexAddrP_some, hlt2, H1.bl 0 2 rfl rfl, lb, lx, CL_ret px, CH_at px, c5, c6, hx, gcP H1.pre]
            · rw [decide_eq_false c5, decide_eq_false c6, Bool.false_or, Bool.false_or] at hx
              simp -implicitDefEqProofs [-indexAddrP_some, hlt2, H1.bl 0 2 rfl rfl, lb, lx, CL_ret px, CH_at px, c5, c6, winc hlt2 hbl]
              exact ⟨m - 1, by omega, on hI2 ⟨j + 1, by omega, rfl, rfl, hx⟩⟩
        · rw [List.drop_eq_nil_of_le (by omega), List.any_nil, Bool.false_or] at hx
          simp -implicitDefEqProofs [-indexAddrP_some, hlt2, lb, winc hlt bl1]
          exact ⟨n - 1, by omega, on hI ⟨i + 1, by omega, rfl, rfl, hx⟩⟩
      · rw [List.drop_eq_nil_of_le (by omega), List.any_nil] at hx
        simp -implicitDefEqProofs [hlt, hx, gcP H1.pre]
theorem LeavesBlocks_run (S : SAt h vr s) (O : OAt h vo oss) (O2 : OAt h vo2 os2) : Ret P G n_impl_LeavesBlocks [sv s vr, vo, vo2] h (.tuple #[.bool (leaves0 s oss os2), .bool (leaves1 s oss os2)]) h := by
  refine enter_run e_impl_LeavesBlocks (by simp) ?_
  have Ss := S
  have Os := O
  have Os2 := O2
  obtain ⟨oa, c, rfl⟩ := S.shape
  obtain ⟨ob, d, rfl⟩ := O.shape
  obtain ⟨o2, d2, rfl⟩ := O2.shape
  have H0 := Holds.start.alloc [.int .i64 s.m, .slice oa s.routes.length c] (h := h)
  simp -implicitDefEqProofs
  refine CL_post (selectedBy_run (Ss.ext _) (Os.ext _)) fun v h1 ⟨hp1, hs⟩ => ?_
  have H1 := H0.ext hp1
  rcases hs with ⟨hn, rfl⟩ | ⟨us, wo, wt, wi, wa, wh, wT, hn, rfl, o1⟩
  · have e1 : leaves1 s oss os2 = false := by rw [leaves1, hn]; rfl
    have e0 : leaves0 s oss os2 = false := by rw [leaves0, e1]; rfl
    rw [e0, e1]
    have H2 := H1.ext (List.prefix_append h1 [some (⟨[nilV, nilV, nilV, nilV, nilV, nilV, .int .i64 0], 0, false⟩ : Row)])
    simp -implicitDefEqProofs [H2.bl 0 2 rfl rfl]
    refine CL_post (selectedBy_run (Ss.pre H2.pre) (Os2.pre H2.pre)) fun v h3 ⟨hp3, hs3⟩ => ?_
    have H3 := H2.pre.trans hp3
    rcases hs3 with ⟨hn3, rfl⟩ | ⟨us3, wo, wt, wi, wa, wh, wT, hn3, rfl, o3⟩
    · simp -implicitDefEqProofs
      exact gcP (H3.trans (List.prefix_append ..)) rfl
    · obtain ⟨⟨a1, c1, rfl⟩, ⟨a2, c2, rfl⟩, ⟨a3, c3, rfl⟩, ⟨a4, c4, rfl⟩, ⟨a5, c5, rfl⟩, a6, c6, rfl⟩ := o3.shapes
      simp -implicitDefEqProofs
      exact gcP (H3.trans (List.prefix_append ..)) rfl
  · have os := o1
    obtain ⟨hg, hsg, ao, hd, tl, hN⟩ := headsO_facts Os.tot hn
    obtain ⟨⟨a1, c1, rfl⟩, ⟨a2, c2, rfl⟩, ⟨a3, c3, rfl⟩, ⟨a4, c4, rfl⟩, ⟨a5, c5, rfl⟩, a6, c6, rfl⟩ := o1.shapes
    have H2 := H1.alloc [.slice a1 (opsL s).length c1, .slice a2 (flatF s).rt.length c2, .slice a3 (flatF s).ix.length c3, .slice a4 (arcsL oss).length c4, .slice a5 us.length c5, .slice a6 (tailsL s (psL s oss)).length c6, .int .i64 (mx (tailsL s (psL s oss)))]
    simp -implicitDefEqProofs [H2.bl 0 2 rfl rfl]
    refine CL_post (selectedBy_run (Ss.pre H2.pre) (Os2.pre H2.pre)) fun v h3 ⟨hp3, hs3⟩ => ?_
    rcases hs3 with ⟨hn3, rfl⟩ | ⟨us3, wo, wt, wi, wa, wh, wT, hn3, rfl, o3⟩
    · have e1 : leaves1 s oss os2 = false := by rw [leaves1, hn, hn3]; rfl
      have e0 : leaves0 s oss os2 = false := by rw [leaves0, e1]; rfl
      rw [e0, e1]
      simp -implicitDefEqProofs
      exact gcP (H2.pre.trans (hp3.trans (List.prefix_append ..))) rfl
    · have e1 : leaves1 s oss os2 = true := by rw [leaves1, hn, hn3]; rfl
      have e0 : leaves0 s oss os2 = leavesB s oss os2 := by rw [leaves0, e1]; rfl
      have hm := heads_m hn3
      have gm := good_m hg
      obtain ⟨bl1, bl2⟩ := block_len Os.tot hn
      have bok := @blocks_ok s oss
      have rng : ∀ n : Nat, n < (opsL s).length → 0 ≤ mOf s n ∧ mOf s n < os2.length := fun n hn => by
        have hz := List.getElem?_eq_getElem hn
        rw [mOf_get hz, ← hm]
        exact gm _ (List.getElem_mem _)
      rw [e0, e1]
      obtain ⟨R, hR⟩ : ∃ R, R = leavesB s oss os2 := ⟨_, rfl⟩
      rw [← hR]
      obtain ⟨⟨b1, f1, rfl⟩, ⟨b2, f2, rfl⟩, ⟨b3, f3, rfl⟩, ⟨b4, f4, rfl⟩, ⟨b5, f5, rfl⟩, b6, f6, rfl⟩ := o3.shapes
      have hp4 := (List.prefix_append h1 [some (⟨[.slice a1 (opsL s).length c1, .slice a2 (flatF s).rt.length c2, .slice a3 (flatF s).ix.length c3, .slice a4 (arcsL oss).length c4, .slice a5 us.length c5, .slice a6 (tailsL s (psL s oss)).length c6, .int .i64 (mx (tailsL s (psL s oss)))], 0, false⟩ : Row)]).trans (hp3.trans (List.prefix_append h3 [some (⟨[.slice b1 (opsL s).length f1, .slice b2 (flatF s).rt.length f2, .slice b3 (flatF s).ix.length f3, .slice b4 (arcsL os2).length f4, .slice b5 us3.length f5, .slice b6 (tailsL s (psL s os2)).length f6, .int .i64 (mx (tailsL s (psL s os2)))], 0, false⟩ : Row)]))
      have H4 := (H2.ext (hp3.trans (List.prefix_append h3 [some (⟨[.slice b1 (opsL s).length f1, .slice b2 (flatF s).rt.length f2, .slice b3 (flatF s).ix.length f3, .slice b4 (arcsL os2).length f4, .slice b5 us3.length f5, .slice b6 (tailsL s (psL s os2)).length f6, .int .i64 (mx (tailsL s (psL s os2)))], 0, false⟩ : Row)]))).open
      have X := (os.see hsg).pre hp4
      simp -implicitDefEqProofs [H4.bl 1 7 rfl rfl]
      refine CL_post (selBlocks_run X Os.tot hn) fun v h5 ⟨hp5, vs, hl5, C⟩ => ?_
      have H5 := Holds.joinT (A := [_]) (M := inL encI 1 vs (blocksI s oss)) H4 C
      have N := Holds.nest (o := 2) H5 rfl hl5
      obtain ⟨va, vc, rfl⟩ := N.shape
      unfold leavesB at hR
      generalize hB : blocksI s oss = B at *
      simp -implicitDefEqProofs
      refine R_loopO (fun n st h' => ∃ (i : Nat), i + n = B.length ∧ st = [(2, .slice o2 os2.length d2), (8, .pointer (some ⟨h1.length, 0, some 7⟩)), (39, .slice va B.length vc), (40, .int .i64 B.length), (41, .int .i64 i)] ∧ h' = h5 ∧ R = (B.drop i).any fun b => b.any (outB s os2 b)) (fun I hI n st h' => ?_) ⟨0, Nat.zero_add _, by simp, rfl, by simpa using hR⟩
      rintro ⟨i, hi, rfl, eh, hx⟩
      rw [eh]
      by_cases hlt : i < B.length
      · obtain ⟨b, hb, hdr⟩ := drop_at hlt
        rw [hdr, List.any_cons] at hx
        obtain ⟨hb1, hb2⟩ := bok b (List.mem_of_getElem? hb)
        have hbl := bl2 b (List.mem_of_getElem? hb)
        have hpos : 0 < b.length := List.length_pos_iff.2 hb1
        obtain ⟨ub, hub, hIb⟩ := N.at hb
        have lb := N.load (P := P) u_S_S_int i_S_int a_S_int hub
        obtain ⟨uo, uc, rfl⟩ := hIb.shapeT
        have h0 := head_at hb1
        have hL := last_at' hb1
        obtain ⟨n0, e0', hn0, _⟩ := hb2 _ (List.mem_of_getElem? h0)
        obtain ⟨nL, eL', hnL, mL⟩ := hb2 _ (List.mem_of_getElem? hL)
        obtain ⟨z0, hz0, _⟩ := drop_at hn0
        have hmz := mOf_get hz0
        obtain ⟨k, hk⟩ : ∃ k : Nat, mOf s n0 = k := ⟨(mOf s n0).toNat, by have := rng n0 hn0; omega⟩
        have hk2 := (rng n0 hn0).2
        obtain ⟨y, hy, _⟩ := drop_at (show k < os2.length by omega)
        obtain ⟨oc, e, hI1, hyn, g⟩ := Os2.at hy
        have hI1' := hI1.pre H5.pre
        have hpl : ∀ n : Nat, mOf s n = mOf s (b.headD 0).toNat → plB s os2 n = atI y n := fun n hn => by
          rw [e0', Int.toNat_natCast, hk] at hn
          rw [plB, Int.toNat_natCast, hn, Int.toNat_natCast, List.getD_eq_getElem?_getD, hy]; rfl
        have l0 := load_I hIb h0
        rw [show ((0 : Nat) : Int) = 0 from rfl, e0'] at l0
        have lz := load_O (X.f.o.pre hp5) hz0
        rw [← hmz, hk] at lz
        have lL := load_I hIb hL
        rw [show ((b.length - 1 : Nat) : Int) = (b.length : Int) - 1 by omega, eL'] at lL
        have hwl : IntKind.i64.wrap ((b.length : Int) - 1) = (b.length : Int) - 1 := by rw [wrap_ok] <;> omega
        have p0 := placeIn_run (x := (n0 : Int)) hI1' (by omega)
        have pL := placeIn_run (x := (nL : Int)) hI1' (by omega)
        have hF0 : plB s os2 (b.headD 0) = atI y n0 := by rw [e0']; exact hpl n0 (by rw [e0', Int.toNat_natCast])
        have hT0 : plB s os2 (b.getLastD 0) = atI y nL := by rw [eL']; exact hpl nL mL
        generalize atI y n0 = F at *
        generalize atI y nL = T at *
        simp -implicitDefEqProofs [-indexAddrP_some, hlt, H5.bl 1 7 rfl rfl, H5.blx 1 7 rfl rfl, lb, l0, lz, g _ H5.pre, lL, hwl, CL_ret p0, CH_at p0, CL_ret pL, CH_at pL]
        refine R_loopO (fun n st h' => ∃ (j : Nat), j + n = b.length ∧ st = [(2, .slice o2 os2.length d2), (8, .pointer (some ⟨h1.length, 0, some 7⟩)), (14, .slice oc y.length e), (15, .int .i64 F), (16, .int .i64 T), (39, .slice va B.length vc), (40, .int .i64 B.length), (41, .int .i64 i), (70, .slice uo b.length uc), (71, .int .i64 b.length), (72, .int .i64 j)] ∧ h' = h5 ∧ R = ((b.drop j).any (outB s os2 b) || (B.drop (i + 1)).any fun b => b.any (outB s os2 b))) (fun I2 hI2 m st h' => ?_) ⟨0, Nat.zero_add _, by simp, rfl, by simpa using hx⟩
        rintro ⟨j, hj, rfl, eh2, hx⟩
        rw [eh2]
        by_cases hlt2 : j < b.length
        · obtain ⟨x, hxx, hd2⟩ := drop_at hlt2
          obtain ⟨nx, rfl, hnx, mX⟩ := hb2 x (List.mem_of_getElem? hxx)
          rw [hd2, List.any_cons, outB, hF0, hT0, hpl nx mX] at hx
          have lx := load_I hIb hxx
          have px := placeIn_run (x := (nx : Int)) hI1' (by omega)
          generalize atI y nx = X at *
          by_cases c5 : X < F
          · rw [decide_eq_true c5, Bool.true_or, Bool.true_or] at hx
            simp -implicitDefEqProofs [-indexAddrP_some, hlt2, lx, CL_ret px, CH_at px, c5, hx, gcP H5.pre]
          · by_cases c6 : T < X
            · rw [decide_eq_true c6, Bool.or_true, Bool.true_or] at hx
              simp -implicitDefEqProofs [-indexAddrP_some, hlt2, lx, CL_ret px, CH_at px, c5, c6, hx, gcP H5.pre]
            · rw [decide_eq_false c5, decide_eq_false c6, Bool.false_or, Bool.false_or] at hx
              simp -implicitDefEqProofs [-indexAddrP_some, hlt2, lx, CL_ret px, CH_at px, c5, c6, winc hlt2 hbl]
              exact ⟨m - 1, by omega, on hI2 ⟨j + 1, by omega, rfl, rfl, hx⟩⟩
        · rw [List.drop_eq_nil_of_le (by omega), List.any_nil, Bool.false_or] at hx
          simp -implicitDefEqProofs [-indexAddrP_some, hlt2, winc hlt bl1]
          exact ⟨n - 1, by omega, on hI ⟨i + 1, by omega, rfl, rfl, hx⟩⟩
      · rw [List.drop_eq_nil_of_le (by omega), List.any_nil] at hx
        simp -implicitDefEqProofs [hlt, hx, gcP H5.pre]
end
end Go.Pm.PP

/- FnExactLeavesBlocks in the small machine. -/
set_option linter.unusedVariables false
set_option linter.unusedSimpArgs false
set_option maxRecDepth 4000
set_option maxHeartbeats 4000000
namespace Go.Pm.PP
open Go.Pm Go.Proofs
theorem law_LeavesBlocks {h : Hp} {vr vo vp : Value} {s : Shop} {oss os2 : List (List Int)} {vs ws xs : List Value} (NS : Nest h vr encO 2 s.routes vs) (NO : Nest h vo encI 1 oss ws) (NP : Nest h vp encI 1 os2 xs) (l1 : s.routes.length < 2 ^ 63) (l2 : ∀ x ∈ s.routes, x.length < 2 ^ 63) (l3 : oss.length < 2 ^ 63) (l4 : ∀ x ∈ oss, x.length < 2 ^ 63) (l5 : os2.length < 2 ^ 63) (l6 : ∀ x ∈ os2, x.length < 2 ^ 63) :
    Ret P G n_laws_FnExactLeavesBlocks [sv s vr, vo, vp] h (.bool true) h := by
  refine enter_run e_laws_FnExactLeavesBlocks (by simp) ?_
  have NSs := NS
  have NOs := NO
  have NPs := NP
  obtain ⟨oa, ca, rfl⟩ := NS.shape
  obtain ⟨ob, cb, rfl⟩ := NO.shape
  obtain ⟨oc, cc, rfl⟩ := NP.shape
  have z1 := fun l => szJobShop_run (left := 1048576) (NSs.pre (List.prefix_append h l)) l1 l2 (by omega) (by omega)
  by_cases c1 : szN 1048576 s.routes < 0
  · simp -implicitDefEqProofs [CL_ret (z1 _), c1]
  have e1 := szN_ok c1
  have z2 := fun l => szIntSS_run (left := szN 1048576 s.routes) (NOs.pre (List.prefix_append h l)) l3 l4 (by omega) (by omega)
  by_cases c2 : szN (szN 1048576 s.routes) oss < 0
  · simp -implicitDefEqProofs [CL_ret (z1 _), c1, CL_ret (z2 _), c2]
  have e2 := szN_ok c2
  have z3 := fun l => szIntSS_run (left := szN (szN 1048576 s.routes) oss) (NPs.pre (List.prefix_append h l)) l5 l6 (by omega) (by omega)
  by_cases c3 : szN (szN (szN 1048576 s.routes) oss) os2 < 0
  · simp -implicitDefEqProofs [CL_ret (z1 _), c1, CL_ret (z2 _), c2, CL_ret (z3 _), c3]
  have e3 := szN_ok c3
  have b1 : s.routes.length ≤ 2 ^ 20 := by omega
  have b2 : tot s.routes ≤ 2 ^ 20 := by omega
  have b3 : oss.length ≤ 2 ^ 20 := by omega
  have b4 : tot oss ≤ 2 ^ 20 := by omega
  have b7 : os2.length ≤ 2 ^ 20 := by omega
  have b8 : tot os2 ≤ 2 ^ 20 := by omega
  have b5 : ∀ x ∈ s.routes, x.length ≤ 2 ^ 40 := fun x hx => by have := tot_mem hx; omega
  have b6 : ∀ x ∈ oss, x.length ≤ 2 ^ 40 := fun x hx => by have := tot_mem hx; omega
  have b9 : ∀ x ∈ os2, x.length ≤ 2 ^ 40 := fun x hx => by have := tot_mem hx; omega
  have toS : ∀ {h' : Hp}, h <+: h' → RunsC P G n_laws_toJobShop [sv s (.slice oa s.routes.length ca)] h' fun v h2 => ∃ vr' us, v = sv s vr' ∧ us.length = s.routes.length ∧ Holds h' h2 (.own vr' 1 (us.map encV) :: inL encO 2 us s.routes) := fun hp => toJobShop_run (NSs.pre hp) (by omega) b5
  have toO : ∀ {h' : Hp}, h <+: h' → RunsC P G n_laws_toIntSS [.slice ob oss.length cb] h' fun v h2 => ∃ us : List Value, us.length = oss.length ∧ Holds h' h2 (.own v 1 (us.map encV) :: inL encI 1 us oss) := fun hp => toIntSS_run (NOs.pre hp) (by omega) b6
  have toP : ∀ {h' : Hp}, h <+: h' → RunsC P G n_laws_toIntSS [.slice oc os2.length cc] h' fun v h2 => ∃ us : List Value, us.length = os2.length ∧ Holds h' h2 (.own v 1 (us.map encV) :: inL encI 1 us os2) := fun hp => toIntSS_run (NPs.pre hp) (by omega) b9
  have H0 := (Holds.start.alloc [.int .i64 s.m, .slice oa s.routes.length ca] (h := h)).open
  -- the reference
  simp -implicitDefEqProofs [CL_ret (z1 _), c1, CL_ret (z2 _), c2, CL_ret (z3 _), c3]
  refine CL_post (toS H0.pre) fun v h1 ⟨r1, u1, ev, hu1, C1⟩ => ?_
  subst ev
  have p1 := H0.pre.trans C1.pre
  simp -implicitDefEqProofs
  refine CL_post (toO p1) fun v2 h2 ⟨u2, hu2, C2⟩ => ?_
  simp -implicitDefEqProofs
  refine CL_post (toP (p1.trans C2.pre)) fun v3 h3 ⟨u3', hu3', C2'⟩ => ?_
  have S1 : SAt h3 r1 s := ⟨⟨u1, (Holds.nest (L1 := [_]) (L2 := []) (o := 0) (C1.ext (C2.pre.trans C2'.pre)).open rfl hu1)⟩, b1, by rw [cnt_tot]; exact b2⟩
  have O1 : OAt h3 v2 oss := ⟨⟨u2, (Holds.nest (L1 := [_]) (L2 := []) (o := 0) (C2.ext C2'.pre).open rfl hu2)⟩, b3, by rw [cnt_tot]; exact b4⟩
  have P1 : OAt h3 v3 os2 := ⟨⟨u3', (Holds.nest (L1 := [_]) (L2 := []) (o := 0) C2'.open rfl hu3')⟩, b7, by rw [cnt_tot]; exact b8⟩
  have rs := specLeavesBlocks_run S1 O1 P1
  have H1 := H0.ext (C1.pre.trans (C2.pre.trans C2'.pre))
  simp -implicitDefEqProofs [CL_ret rs, H1.bl 0 2 rfl rfl]
  generalize hL : leaves0 s oss os2 = L at *
  generalize hB : leaves1 s oss os2 = B at *
  -- the copies
  refine CL_post (toS H1.pre) fun v h4 ⟨r3, u3, ev, hu3, C3⟩ => ?_
  subst ev
  obtain ⟨x1, x2, x3, rfl⟩ : ∃ a n c, r3 = .slice a n c := by obtain ⟨a, c, e⟩ := (C3.sees 0 rfl).shape; exact ⟨_, _, _, e⟩
  have H2 := (Holds.joinT (A := [_]) (M := inL encO 2 u3 s.routes) H1 C3).allocT [.int .i64 s.m, .slice x1 x2 x3]
  simp -implicitDefEqProofs
  refine CL_post (toO H2.pre) fun v5 h5 ⟨u4, hu4, C4⟩ => ?_
  obtain ⟨y1, y2, y3, rfl⟩ : ∃ a n c, v5 = .slice a n c := by obtain ⟨a, c, e⟩ := (C4.sees 0 rfl).shape; exact ⟨_, _, _, e⟩
  have H3' := Holds.joinT (A := [_]) (M := inL encI 1 u4 oss) H2 C4
  simp -implicitDefEqProofs
  refine CL_post (toP H3'.pre) fun v6 h6 ⟨u5, hu5, C5⟩ => ?_
  obtain ⟨w1, w2, w3, rfl⟩ : ∃ a n c, v6 = .slice a n c := by obtain ⟨a, c, e⟩ := (C5.sees 0 rfl).shape; exact ⟨_, _, _, e⟩
  have H3 := Holds.joinT (A := [_]) (M := inL encI 1 u5 os2) H3' C5
  have N3 := Holds.nest (o := 1) H3.swap2 rfl hu3
  have M3 := Holds.nest (o := 3) H3.swap rfl hu4
  have Q3 := Holds.nest (o := 4) H3 rfl hu5
  have S3 : SAt h6 (.slice x1 x2 x3) s := ⟨⟨u3, N3⟩, b1, by rw [cnt_tot]; exact b2⟩
  have O3 : OAt h6 (.slice y1 y2 y3) oss := ⟨⟨u4, M3⟩, b3, by rw [cnt_tot]; exact b4⟩
  have P3 : OAt h6 (.slice w1 w2 w3) os2 := ⟨⟨u5, Q3⟩, b7, by rw [cnt_tot]; exact b8⟩
  -- the program
  simp -implicitDefEqProofs [H3.bl 2 2 rfl rfl]
  have ri := LeavesBlocks_run S3 O3 P3
  rw [hL, hB] at ri
  simp -implicitDefEqProofs [CL_ret ri, H3.bl 2 2 rfl rfl, H3.bl 0 2 rfl rfl]
  -- the copies are as they were
  refine CH_post (toS H3.pre).new fun v h7 ⟨⟨r7, u7, ev, hu7, C7⟩, hn7⟩ => ⟨hn7 C7.pre, ?_⟩
  subst ev
  have H5 := H3.ext C7.pre
  have q2 := eqJobShop_run (N3.pre C7.pre) (Holds.nest (L1 := [_]) (L2 := []) (o := 0) C7.open rfl hu7) (by omega) b5
  simp -implicitDefEqProofs [CL_ret q2, CH_at q2]
  refine CL_post (toO H5.pre) fun v8 h8 ⟨u8, hu8, C8⟩ => ?_
  have H6 := H5.ext C8.pre
  have q3 := eqIntSS_run (M3.pre (C7.pre.trans C8.pre)) (Holds.nest (L1 := [_]) (L2 := []) (o := 0) C8.open rfl hu8) (by omega) b6
  simp -implicitDefEqProofs [CL_ret q3]
  refine CL_post (toP H6.pre) fun v9 h9 ⟨u9, hu9, C9⟩ => ?_
  have H7 := H6.ext C9.pre
  have q4 := eqIntSS_run (Q3.pre (C7.pre.trans (C8.pre.trans C9.pre))) (Holds.nest (L1 := [_]) (L2 := []) (o := 0) C9.open rfl hu9) (by omega) b9
  simp -implicitDefEqProofs [CL_ret q4]
  exact gcP H7.pre rfl
end Go.Pm.PP
