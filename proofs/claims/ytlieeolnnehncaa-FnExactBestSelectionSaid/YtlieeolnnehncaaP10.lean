/- The texts PjJ7, Pj21, PjJ8, Pk1, Pk2, PkA, PkB, PkD of this work: FnExactSwapOps in the small machine. -/
import Derived.Test.YtlieeolnnehncaaP9
import Derived.Test.YtlieeolnnehncaaM3
import Derived.Test.YtlieeolnnehncaaP6
import Derived.Test.YtlieeolnnehncaaP7
/- FnExactSwapOps in the small machine. -/
set_option linter.unusedVariables false
set_option linter.unusedSimpArgs false
set_option maxRecDepth 4000
set_option maxHeartbeats 4000000
namespace Go.Pm.PP
open Go.Pm Go.Proofs
theorem law_SwapOps {h : Hp} {vr vo : Value} {s : Shop} {oss : List (List Int)} {vs ws : List Value} {m k : Int} (NS : Nest h vr encO 2 s.routes vs) (NO : Nest h vo encI 1 oss ws) (l1 : s.routes.length < 2 ^ 63) (l2 : ∀ x ∈ s.routes, x.length < 2 ^ 63) (l3 : oss.length < 2 ^ 63) (l4 : ∀ x ∈ oss, x.length < 2 ^ 63) :
    Ret P G n_laws_FnExactSwapOps [sv s vr, vo, .int .i64 m, .int .i64 k] h (.bool true) h := by
  refine enter_run e_laws_FnExactSwapOps (by simp) ?_
  have NSs := NS
  have NOs := NO
  obtain ⟨oa, ca, rfl⟩ := NS.shape
  obtain ⟨ob, cb, rfl⟩ := NO.shape
  have z1 := fun l => szJobShop_run (left := 1048576) (NSs.pre (List.prefix_append h l)) l1 l2 (by omega) (by omega)
  by_cases c1 : szN 1048576 s.routes < 0
  · simp -implicitDefEqProofs [CL_ret (z1 _), c1]
  have e1 := szN_ok c1
  have z2 := fun l => szIntSS_run (left := szN 1048576 s.routes) (NOs.pre (List.prefix_append h l)) l3 l4 (by omega) (by omega)
  by_cases c2 : szN (szN 1048576 s.routes) oss < 0
  · simp -implicitDefEqProofs [CL_ret (z1 _), c1, CL_ret (z2 _), c2]
  have e2 := szN_ok c2
  have b1 : s.routes.length ≤ 2 ^ 20 := by omega
  have b2 : tot s.routes ≤ 2 ^ 20 := by omega
  have b3 : oss.length ≤ 2 ^ 20 := by omega
  have b4 : tot oss ≤ 2 ^ 20 := by omega
  have b5 : ∀ x ∈ s.routes, x.length ≤ 2 ^ 40 := fun x hx => by have := tot_mem hx; omega
  have b6 : ∀ x ∈ oss, x.length ≤ 2 ^ 40 := fun x hx => by have := tot_mem hx; omega
  have toS : ∀ {h' : Hp}, h <+: h' → RunsC P G n_laws_toJobShop [sv s (.slice oa s.routes.length ca)] h' fun v h2 => ∃ vr' us, v = sv s vr' ∧ us.length = s.routes.length ∧ Holds h' h2 (.own vr' 1 (us.map encV) :: inL encO 2 us s.routes) := fun hp => toJobShop_run (NSs.pre hp) (by omega) b5
  have toO : ∀ {h' : Hp}, h <+: h' → RunsC P G n_laws_toIntSS [.slice ob oss.length cb] h' fun v h2 => ∃ us : List Value, us.length = oss.length ∧ Holds h' h2 (.own v 1 (us.map encV) :: inL encI 1 us oss) := fun hp => toIntSS_run (NOs.pre hp) (by omega) b6
  have H0 := (Holds.start.alloc [.int .i64 s.m, .slice oa s.routes.length ca] (h := h)).open
  obtain ⟨X, hX⟩ : ∃ X, X = swapO s oss m k := ⟨_, rfl⟩
  obtain ⟨xs, hxs⟩ : ∃ xs, xs = X.getD [] := ⟨_, rfl⟩
  -- the reference
  simp -implicitDefEqProofs [CL_ret (z1 _), c1, CL_ret (z2 _), c2]
  refine CL_post (toS H0.pre) fun v h1 ⟨r1, u1, ev, hu1, C1⟩ => ?_
  subst ev
  have p1 := H0.pre.trans C1.pre
  simp -implicitDefEqProofs
  refine CL_post (toO p1) fun v2 h2 ⟨u2, hu2, C2⟩ => ?_
  have S1 : SAt h2 r1 s := ⟨⟨u1, (Holds.nest (L1 := [_]) (L2 := []) (o := 0) (C1.ext C2.pre).open rfl hu1)⟩, b1, by rw [cnt_tot]; exact b2⟩
  have O1 : OAt h2 v2 oss := ⟨⟨u2, (Holds.nest (L1 := [_]) (L2 := []) (o := 0) C2.open rfl hu2)⟩, b3, by rw [cnt_tot]; exact b4⟩
  simp -implicitDefEqProofs
  refine CL_post (specSwapOps_run S1 O1) fun v h3 ⟨p3, w, ev, uw, lw, CW⟩ => ?_
  subst ev
  rw [← hX, ← hxs] at CW lw
  rw [← hX]
  obtain ⟨w1, w2, w3, rfl⟩ : ∃ a n c, w = .slice a n c := by obtain ⟨a, c, e⟩ := (CW.sees 0 rfl).shape; exact ⟨_, _, _, e⟩
  have H1 := Holds.joinT (A := [_]) (M := inL encI 1 uw xs) (H0.ext (C1.pre.trans C2.pre)) CW
  -- the copies
  simp -implicitDefEqProofs [H1.bl 0 2 rfl rfl]
  refine CL_post (toS H1.pre) fun v h4 ⟨r3, u3, ev, hu3, C3⟩ => ?_
  subst ev
  obtain ⟨x1, x2, x3, rfl⟩ : ∃ a n c, r3 = .slice a n c := by obtain ⟨a, c, e⟩ := (C3.sees 0 rfl).shape; exact ⟨_, _, _, e⟩
  have H2 := (Holds.joinT (A := [_]) (M := inL encO 2 u3 s.routes) H1 C3).allocT [.int .i64 s.m, .slice x1 x2 x3]
  simp -implicitDefEqProofs
  refine CL_post (toO H2.pre) fun v5 h5 ⟨u4, hu4, C4⟩ => ?_
  obtain ⟨y1, y2, y3, rfl⟩ : ∃ a n c, v5 = .slice a n c := by obtain ⟨a, c, e⟩ := (C4.sees 0 rfl).shape; exact ⟨_, _, _, e⟩
  have H3 := Holds.joinT (A := [_]) (M := inL encI 1 u4 oss) H2 C4
  have N3 := Holds.nest (o := 2) H3.swap rfl hu3
  have M3 := Holds.nest (o := 4) H3 rfl hu4
  have S3 : SAt h5 (.slice x1 x2 x3) s := ⟨⟨u3, N3⟩, b1, by rw [cnt_tot]; exact b2⟩
  have O3 : OAt h5 (.slice y1 y2 y3) oss := ⟨⟨u4, M3⟩, b3, by rw [cnt_tot]; exact b4⟩
  -- the program
  simp -implicitDefEqProofs [H3.bl 3 2 rfl rfl]
  refine CL_post (SwapOps_run S3 O3) fun v h6 ⟨p6, g, ev, ug, lg, CG⟩ => ?_
  subst ev
  rw [← hX, ← hxs] at CG lg
  rw [← hX]
  obtain ⟨g1, g2, g3, rfl⟩ : ∃ a n c, g = .slice a n c := by obtain ⟨a, c, e⟩ := (CG.sees 0 rfl).shape; exact ⟨_, _, _, e⟩
  have H4 := Holds.joinT (A := [_]) (M := inL encI 1 ug xs) H3 CG
  have xl : xs.length ≤ 2 ^ 40 := by rw [hxs, hX]; exact (swap_len b3 b4).1
  have xt : tot xs ≤ 2 ^ 40 := by rw [hxs, hX]; exact (swap_len b3 b4).2
  have xi : ∀ x ∈ xs, x.length ≤ 2 ^ 40 := fun x hx => Nat.le_trans (tot_mem hx) xt
  have q1 := eqIntSS_run (Holds.nest (o := 5) H4 rfl lg) (Holds.nest (o := 1) H4.swap3 rfl lw) xl xi
  simp -implicitDefEqProofs [CL_ret q1, H4.bl 3 2 rfl rfl, H4.bl 0 2 rfl rfl]
  -- the copies are as they were
  refine CH_post (toS H4.pre).new fun v h7 ⟨⟨r7, u7, ev, hu7, C7⟩, hn7⟩ => ⟨hn7 C7.pre, ?_⟩
  subst ev
  have H5 := H4.ext C7.pre
  have q2 := eqJobShop_run (N3.pre (p6.trans C7.pre)) (Holds.nest (L1 := [_]) (L2 := []) (o := 0) C7.open rfl hu7) (by omega) b5
  simp -implicitDefEqProofs [CL_ret q2, CH_at q2]
  refine CL_post (toO H5.pre) fun v8 h8 ⟨u8, hu8, C8⟩ => ?_
  have H6 := H5.ext C8.pre
  have q3 := eqIntSS_run (M3.pre (p6.trans (C7.pre.trans C8.pre))) (Holds.nest (L1 := [_]) (L2 := []) (o := 0) C8.open rfl hu8) (by omega) b6
  simp -implicitDefEqProofs [CL_ret q3, H6.bl 3 2 rfl rfl]
  -- marks in the copies
  refine CL_post (markJobShop_run (k := 1) (o := 2) H6.swap2 rfl hu3 (by omega) (by omega) (by omega) (by omega)) fun r h9 ⟨er, H7⟩ => ?_
  subst er
  have H8 := H7.swap2
  simp -implicitDefEqProofs
  refine CL_post (markIntSS_run (k := 1 + 2 * (tot s.routes : Int)) (o := 4) H8 rfl hu4 (by omega) (by omega) (by omega) (by omega)) fun r h10 ⟨er, H9⟩ => ?_
  subst er
  have q4 := eqIntSS_run (Holds.nest (o := 5) H9.swap2 rfl lg) (Holds.nest (o := 1) H9.swap3 rfl lw) xl xi
  have hk0 : ¬ (1 + 2 * (tot s.routes : Int) + tot oss < 0) := by omega
  simp -implicitDefEqProofs [hk0, CL_ret q4]
  -- marks in the result
  refine CL_post (markIntSS_run (k := 1) (o := 5) H9.swap2 rfl lg xl xt (by omega) (by omega)) fun r h11 ⟨er, H10⟩ => ?_
  subst er
  have lm : ug.length = (marksN mkI 1 1 xs).length := by rw [marksN_len]; exact lg
  have q5 := heldIntSS_run (k := 1) (Holds.nest (o := 5) H10 rfl lm) xl xt (by omega) (by omega)
  have hk1 : ¬ (1 + (tot xs : Int) < 0) := by omega
  simp -implicitDefEqProofs [CL_ret q5, hk1, H10.bl 0 2 rfl rfl]
  -- once more
  refine CL_post (toS H10.pre) fun v h12 ⟨r12, u12, ev, hu12, C12⟩ => ?_
  subst ev
  simp -implicitDefEqProofs
  refine CL_post (toO (H10.pre.trans C12.pre)) fun v13 h13 ⟨u13, hu13, C13⟩ => ?_
  have S13 : SAt h13 r12 s := ⟨⟨u12, (Holds.nest (L1 := [_]) (L2 := []) (o := 0) (C12.ext C13.pre).open rfl hu12)⟩, b1, by rw [cnt_tot]; exact b2⟩
  have O13 : OAt h13 v13 oss := ⟨⟨u13, (Holds.nest (L1 := [_]) (L2 := []) (o := 0) C13.open rfl hu13)⟩, b3, by rw [cnt_tot]; exact b4⟩
  simp -implicitDefEqProofs
  refine CL_post (SwapOps_run S13 O13) fun v h14 ⟨p14, t, ev, ut, lt, CT⟩ => ?_
  subst ev
  rw [← hX, ← hxs] at CT lt
  rw [← hX]
  have H11 := H10.ext (C12.pre.trans (C13.pre.trans p14))
  have q6 := eqIntSS_run (Holds.nest (L1 := [_]) (L2 := []) (o := 0) CT.open rfl lt) (Holds.nest (o := 1) H11.swap3 rfl lw) xl xi
  have q7 := heldIntSS_run (k := 1) (Holds.nest (o := 5) H11 rfl lm) xl xt (by omega) (by omega)
  simp -implicitDefEqProofs [CL_ret q6, CL_ret q7, hk1]
  exact gcP H11.pre rfl
end Go.Pm.PP

/- Job shops: LeavesBlocks of both, the walks. -/
set_option linter.unusedVariables false
set_option linter.unusedSimpArgs false
set_option maxRecDepth 4000
set_option maxHeartbeats 2000000
namespace Go.Pm.PP
open Go.Pm Go.Proofs Go.Pm.JS
theorem block_len {s : Shop} {oss : List (List Int)} {us : List Int} (ho : cntN oss ≤ 2 ^ 20) (h : headsO s oss = some us) : (blocksI s oss).length ≤ 2 ^ 40 ∧ ∀ b ∈ blocksI s oss, b.length ≤ 2 ^ 40 := by
  have pl := path_len ho h
  obtain ⟨h1, h2⟩ := blkGo_len (s := s) (r := pathL s oss) (acc := []) (prev := none) (by simp)
  have h3 : tot (blocksI s oss) ≤ 2 ^ 30 := by rw [blocksI, h2]; simp [tot]; exact pl
  refine ⟨?_, fun b hb => by have := tot_mem hb; omega⟩
  rw [blocksI]; simp at h1; omega
theorem head_at {b : List Int} (h : b ≠ []) : b[0]? = some (b.headD 0) := by
  cases b with
  | nil => exact absurd rfl h
  | cons a t => rfl
theorem last_at' {b : List Int} (h : b ≠ []) : b[b.length - 1]? = some (b.getLastD 0) := by
  rw [← List.getLast?_eq_getElem?, List.getLast?_eq_some_getLast h]
  congr 1
  rw [List.getLastD_eq_getLast?, List.getLast?_eq_some_getLast h]; rfl
section
variable {h : Hp} {vr vo vo2 : Value} {s : Shop} {oss os2 : List (List Int)}
theorem specLeavesBlocks_run (S : SAt h vr s) (O : OAt h vo oss) (O2 : OAt h vo2 os2) : Ret P G n_spec_LeavesBlocks [sv s vr, vo, vo2] h (.tuple #[.bool (leaves0 s oss os2), .bool (leaves1 s oss os2)]) h := by
  refine enter_run e_spec_LeavesBlocks (by simp) ?_
  have Ss := S
  have Os := O
  have Os2 := O2
  obtain ⟨oa, c, rfl⟩ := S.shape
  obtain ⟨ob, d, rfl⟩ := O.shape
  obtain ⟨o2, d2, rfl⟩ := O2.shape
  have r1 := fun l => l9Open_run (Ss.ext l) (Os.ext l)
  have r2 := fun l => l9Open_run (Ss.ext l) (Os2.ext l)
  have H0 := (Holds.start.alloc [.int .i64 s.m, .slice oa s.routes.length c] (h := h)).open
  cases c2 : headsO s oss with
  | none =>
    have e1 : leaves1 s oss os2 = false := by rw [leaves1, c2]; rfl
    have e0 : leaves0 s oss os2 = false := by rw [leaves0, e1]; rfl
    simp -implicitDefEqProofs [CL_ret (r1 _), c2, e1, e0]
  | some us =>
    cases c3 : headsO s os2 with
    | none =>
      have e1 : leaves1 s oss os2 = false := by rw [leaves1, c2, c3]; rfl
      have e0 : leaves0 s oss os2 = false := by rw [leaves0, e1]; rfl
      simp -implicitDefEqProofs [CL_ret (r1 _), c2, CL_ret (r2 _), c3, e1, e0]
    | some us2 =>
      have e1 : leaves1 s oss os2 = true := by rw [leaves1, c2, c3]; rfl
      have e0 : leaves0 s oss os2 = leavesB s oss os2 := by rw [leaves0, e1]; rfl
      obtain ⟨hg, _⟩ := headsO_facts Os.tot c2
      have hm := heads_m c3
      have gm := good_m hg
      obtain ⟨bl1, bl2⟩ := block_len Os.tot c2
      have bok := @blocks_ok s oss
      have rng : ∀ n : Nat, n < (opsL s).length → 0 ≤ mOf s n ∧ mOf s n < os2.length := fun n hn => by
        have hz := List.getElem?_eq_getElem hn
        rw [mOf_get hz, ← hm]
        exact gm _ (List.getElem_mem _)
      rw [e0, e1]
      obtain ⟨R, hR⟩ : ∃ R, R = leavesB s oss os2 := ⟨_, rfl⟩
      rw [← hR]
      simp -implicitDefEqProofs [CL_ret (r1 _), c2, CL_ret (r2 _), c3]
      refine CL_post (l9Blocks_run (Ss.ext _) (Os.ext _) c2) fun v h1 ⟨hp1, vs, hl1, C⟩ => ?_
      have H1 := Holds.joinT (A := [_]) (M := inL encI 1 vs (blocksI s oss)) H0 C
      have N := Holds.nest (o := 1) H1 rfl hl1
      obtain ⟨va, vc, rfl⟩ := N.shape
      unfold leavesB at hR
      generalize hB : blocksI s oss = B at *
      simp -implicitDefEqProofs
      refine R_loopO (fun n st h' => ∃ (i : Nat), i + n = B.length ∧ st = [(2, .slice o2 os2.length d2), (3, .pointer (some ⟨h.length, 0, some 2⟩)), (8, .slice va B.length vc), (9, .int .i64 i)] ∧ h' = h1 ∧ R = (B.drop i).any fun b => b.any (outB s os2 b)) (fun I hI n st h' => ?_) ⟨0, Nat.zero_add _, by simp, rfl, by simpa using hR⟩
      rintro ⟨i, hi, rfl, eh, hx⟩
      rw [eh]
      by_cases hlt : i < B.length
      · obtain ⟨b, hb, hdr⟩ := drop_at hlt
        rw [hdr, List.any_cons] at hx
        obtain ⟨hb1, hb2⟩ := bok b (List.mem_of_getElem? hb)
        have hbl := bl2 b (List.mem_of_getElem? hb)
        have hpos : 0 < b.length := List.length_pos_iff.2 hb1
        obtain ⟨ub, hub, hIb⟩ := N.at hb
        have lb := N.load (P := P) u_S_S_int i_S_int a_S_int hub
        obtain ⟨uo, uc, rfl⟩ := hIb.shapeT
        have h0 := head_at hb1
        have hL := last_at' hb1
        obtain ⟨n0, e0', hn0, _⟩ := hb2 _ (List.mem_of_getElem? h0)
        obtain ⟨nL, eL', hnL, _⟩ := hb2 _ (List.mem_of_getElem? hL)
        have l0 := load_I hIb h0
        rw [show ((0 : Nat) : Int) = 0 from rfl, e0'] at l0
        have lL := load_I hIb hL
        rw [show ((b.length - 1 : Nat) : Int) = (b.length : Int) - 1 by omega, eL'] at lL
        have hwl : IntKind.i64.wrap ((b.length : Int) - 1) = (b.length : Int) - 1 := by rw [wrap_ok] <;> omega
        have p0 := l9Place_run (Ss.pre H1.pre) (Os2.pre H1.pre) hn0 (rng n0 hn0)
        have pL := l9Place_run (Ss.pre H1.pre) (Os2.pre H1.pre) hnL (rng nL hnL)
        rw [← e0'] at p0
        rw [← eL'] at pL
        generalize hF : plB s os2 (b.headD 0) = F at *
        generalize hT : plB s os2 (b.getLastD 0) = T at *
        rw [e0'] at p0
        rw [eL'] at pL
        simp -implicitDefEqProofs [-indexAddrP_some, hlt, H1.bl 0 2 rfl rfl, lb, l0, lL, hwl, CL_ret p0, CH_at p0, CL_ret pL, CH_at pL]
        refine R_loopO (fun n st h' => ∃ (j : Nat), j + n = b.length ∧ st = [(2, .slice o2 os2.length d2), (3, .pointer (some ⟨h.length, 0, some 2⟩)), (8, .slice va B.length vc), (9, .int .i64 i), (10, .int .i64 F), (11, .int .i64 T), (12, .int .i64 j)] ∧ h' = h1 ∧ R = ((b.drop j).any (outB s os2 b) || (B.drop (i + 1)).any fun b => b.any (outB s os2 b))) (fun I2 hI2 m st h' => ?_) ⟨0, Nat.zero_add _, by simp, rfl, by simpa using hx⟩
        rintro ⟨j, hj, rfl, eh2, hx⟩
        rw [eh2]
        by_cases hlt2 : j < b.length
        · obtain ⟨x, hxx, hd2⟩ := drop_at hlt2
          obtain ⟨nx, rfl, hnx, _⟩ := hb2 x (List.mem_of_getElem? hxx)
          rw [hd2, List.any_cons, outB, hF, hT] at hx
          have lx := load_I hIb hxx
          have px := l9Place_run (Ss.pre H1.pre) (Os2.pre H1.pre) hnx (rng nx hnx)
          generalize plB s os2 (nx : Int) = X at *
          by_cases c5 : X < F
          · rw [decide_eq_true c5, Bool.true_or, Bool.true_or] at hx
            simp -implicitDefEqProofs [-indexAddrP_some, hlt2, H1.bl 0 2 rfl rfl, lb, lx, CL_ret px, CH_at px, c5, hx, gcP H1.pre]
          · by_cases c6 : T < X
            · rw [decide_eq_true c6, Bool.or_true, Bool.true_or] at hx
              simp -implicitDefEqProofs [-indexAddrP_some, hlt2, H1.bl 0 2 rfl rfl, lb, lx, CL_ret px, CH_at px, c5, c6, hx, gcP H1.pre]
            · rw [decide_eq_false c5, decide_eq_false c6, Bool.false_or, Bool.false_or] at hx
              simp -implicitDefEqProofs [-indexAddrP_some, hlt2, H1.bl 0 2 rfl rfl, lb, lx, CL_ret px, CH_at px, c5, c6, winc hlt2 hbl]
              exact ⟨m - 1, by omega, on hI2 ⟨j + 1, by omega, rfl, rfl, hx⟩⟩
        · rw [List.drop_eq_nil_of_le (by omega), List.any_nil, Bool.false_or] at hx
          simp -implicitDefEqProofs [-indexAddrP_some, hlt2, lb, winc hlt bl1]
          exact ⟨n - 1, by omega, on hI ⟨i + 1, by omega, rfl, rfl, hx⟩⟩
      · rw [List.drop_eq_nil_of_le (by omega), List.any_nil] at hx
        simp -implicitDefEqProofs [hlt, hx, gcP H1.pre]
theorem LeavesBlocks_run (S : SAt h vr s) (O : OAt h vo oss) (O2 : OAt h vo2 os2) : Ret P G n_impl_LeavesBlocks [sv s vr, vo, vo2] h (.tuple #[.bool (leaves0 s oss os2), .bool (leaves1 s oss os2)]) h := by
  refine enter_run e_impl_LeavesBlocks (by simp) ?_
  have Ss := S
  have Os := O
  have Os2 := O2
  obtain ⟨oa, c, rfl⟩ := S.shape
  obtain ⟨ob, d, rfl⟩ := O.shape
  obtain ⟨o2, d2, rfl⟩ := O2.shape
  have H0 := Holds.start.alloc [.int .i64 s.m, .slice oa s.routes.length c] (h := h)
  simp -implicitDefEqProofs
  refine CL_post (selectedBy_run (Ss.ext _) (Os.ext _)) fun v h1 ⟨hp1, hs⟩ => ?_
  have H1 := H0.ext hp1
  rcases hs with ⟨hn, rfl⟩ | ⟨us, wo, wt, wi, wa, wh, wT, hn, rfl, o1⟩
  · have e1 : leaves1 s oss os2 = false := by rw [leaves1, hn]; rfl
    have e0 : leaves0 s oss os2 = false := by rw [leaves0, e1]; rfl
    rw [e0, e1]
    have H2 := H1.ext (List.prefix_append h1 [some (⟨[nilV, nilV, nilV, nilV, nilV, nilV, .int .i64 0], 0, false⟩ : Row)])
    simp -implicitDefEqProofs [H2.bl 0 2 rfl rfl]
    refine CL_post (selectedBy_run (Ss.pre H2.pre) (Os2.pre H2.pre)) fun v h3 ⟨hp3, hs3⟩ => ?_
    have H3 := H2.pre.trans hp3
    rcases hs3 with ⟨hn3, rfl⟩ | ⟨us3, wo, wt, wi, wa, wh, wT, hn3, rfl, o3⟩
    · simp -implicitDefEqProofs
      exact gcP (H3.trans (List.prefix_append ..)) rfl
    · obtain ⟨⟨a1, c1, rfl⟩, ⟨a2, c2, rfl⟩, ⟨a3, c3, rfl⟩, ⟨a4, c4, rfl⟩, ⟨a5, c5, rfl⟩, a6, c6, rfl⟩ := o3.shapes
      simp -implicitDefEqProofs
      exact gcP (H3.trans (List.prefix_append ..)) rfl
  · have os := o1
    obtain ⟨hg, hsg, ao, hd, tl, hN⟩ := headsO_facts Os.tot hn
    obtain ⟨⟨a1, c1, rfl⟩, ⟨a2, c2, rfl⟩, ⟨a3, c3, rfl⟩, ⟨a4, c4, rfl⟩, ⟨a5, c5, rfl⟩, a6, c6, rfl⟩ := o1.shapes
    have H2 := H1.alloc [.slice a1 (opsL s).length c1, .slice a2 (flatF s).rt.length c2, .slice a3 (flatF s).ix.length c3, .slice a4 (arcsL oss).length c4, .slice a5 us.length c5, .slice a6 (tailsL s (psL s oss)).length c6, .int .i64 (mx (tailsL s (psL s oss)))]
    simp -implicitDefEqProofs [H2.bl 0 2 rfl rfl]
    refine CL_post (selectedBy_run (Ss.pre H2.pre) (Os2.pre H2.pre)) fun v h3 ⟨hp3, hs3⟩ => ?_
    rcases hs3 with ⟨hn3, rfl⟩ | ⟨us3, wo, wt, wi, wa, wh, wT, hn3, rfl, o3⟩
    · have e1 : leaves1 s oss os2 = false := by rw [leaves1, hn, hn3]; rfl
      have e0 : leaves0 s oss os2 = false := by rw [leaves0, e1]; rfl
      rw [e0, e1]
      simp -implicitDefEqProofs
      exact gcP (H2.pre.trans (hp3.trans (List.prefix_append ..))) rfl
    · have e1 : leaves1 s oss os2 = true := by rw [leaves1, hn, hn3]; rfl
      have e0 : leaves0 s oss os2 = leavesB s oss os2 := by rw [leaves0, e1]; rfl
      have hm := heads_m hn3
      have gm := good_m hg
      obtain ⟨bl1, bl2⟩ := block_len Os.tot hn
      have bok := @blocks_ok s oss
      have rng : ∀ n : Nat, n < (opsL s).length → 0 ≤ mOf s n ∧ mOf s n < os2.length := fun n hn => by
        have hz := List.getElem?_eq_getElem hn
        rw [mOf_get hz, ← hm]
        exact gm _ (List.getElem_mem _)
      rw [e0, e1]
      obtain ⟨R, hR⟩ : ∃ R, R = leavesB s oss os2 := ⟨_, rfl⟩
      rw [← hR]
      obtain ⟨⟨b1, f1, rfl⟩, ⟨b2, f2, rfl⟩, ⟨b3, f3, rfl⟩, ⟨b4, f4, rfl⟩, ⟨b5, f5, rfl⟩, b6, f6, rfl⟩ := o3.shapes
      have hp4 := (List.prefix_append h1 [some (⟨[.slice a1 (opsL s).length c1, .slice a2 (flatF s).rt.length c2, .slice a3 (flatF s).ix.length c3, .slice a4 (arcsL oss).length c4, .slice a5 us.length c5, .slice a6 (tailsL s (psL s oss)).length c6, .int .i64 (mx (tailsL s (psL s oss)))], 0, false⟩ : Row)]).trans (hp3.trans (List.prefix_append h3 [some (⟨[.slice b1 (opsL s).length f1, .slice b2 (flatF s).rt.length f2, .slice b3 (flatF s).ix.length f3, .slice b4 (arcsL os2).length f4, .slice b5 us3.length f5, .slice b6 (tailsL s (psL s os2)).length f6, .int .i64 (mx (tailsL s (psL s os2)))], 0, false⟩ : Row)]))
      have H4 := (H2.ext (hp3.trans (List.prefix_append h3 [some (⟨[.slice b1 (opsL s).length f1, .slice b2 (flatF s).rt.length f2, .slice b3 (flatF s).ix.length f3, .slice b4 (arcsL os2).length f4, .slice b5 us3.length f5, .slice b6 (tailsL s (psL s os2)).length f6, .int .i64 (mx (tailsL s (psL s os2)))], 0, false⟩ : Row)]))).open
      have X := (os.see hsg).pre hp4
      simp -implicitDefEqProofs [H4.bl 1 7 rfl rfl]
      refine CL_post (selBlocks_run X Os.tot hn) fun v h5 ⟨hp5, vs, hl5, C⟩ => ?_
      have H5 := Holds.joinT (A := [_]) (M := inL encI 1 vs (blocksI s oss)) H4 C
      have N := Holds.nest (o := 2) H5 rfl hl5
      obtain ⟨va, vc, rfl⟩ := N.shape
      unfold leavesB at hR
      generalize hB : blocksI s oss = B at *
      simp -implicitDefEqProofs
      refine R_loopO (fun n st h' => ∃ (i : Nat), i + n = B.length ∧ st = [(2, .slice o2 os2.length d2), (8, .pointer (some ⟨h1.length, 0, some 7⟩)), (39, .slice va B.length vc), (40, .int .i64 B.length), (41, .int .i64 i)] ∧ h' = h5 ∧ R = (B.drop i).any fun b => b.any (outB s os2 b)) (fun I hI n st h' => ?_) ⟨0, Nat.zero_add _, by simp, rfl, by simpa using hR⟩
      rintro ⟨i, hi, rfl, eh, hx⟩
      rw [eh]
      by_cases hlt : i < B.length
      · obtain ⟨b, hb, hdr⟩ := drop_at hlt
        rw [hdr, List.any_cons] at hx
        obtain ⟨hb1, hb2⟩ := bok b (List.mem_of_getElem? hb)
        have hbl := bl2 b (List.mem_of_getElem? hb)
        have hpos : 0 < b.length := List.length_pos_iff.2 hb1
        obtain ⟨ub, hub, hIb⟩ := N.at hb
        have lb := N.load (P := P) u_S_S_int i_S_int a_S_int hub
        obtain ⟨uo, uc, rfl⟩ := hIb.shapeT
        have h0 := head_at hb1
        have hL := last_at' hb1
        obtain ⟨n0, e0', hn0, _⟩ := hb2 _ (List.mem_of_getElem? h0)
        obtain ⟨nL, eL', hnL, mL⟩ := hb2 _ (List.mem_of_getElem? hL)
        obtain ⟨z0, hz0, _⟩ := drop_at hn0
        have hmz := mOf_get hz0
        obtain ⟨k, hk⟩ : ∃ k : Nat, mOf s n0 = k := ⟨(mOf s n0).toNat, by have := rng n0 hn0; omega⟩
        have hk2 := (rng n0 hn0).2
        obtain ⟨y, hy, _⟩ := drop_at (show k < os2.length by omega)
        obtain ⟨oc, e, hI1, hyn, g⟩ := Os2.at hy
        have hI1' := hI1.pre H5.pre
        have hpl : ∀ n : Nat, mOf s n = mOf s (b.headD 0).toNat → plB s os2 n = atI y n := fun n hn => by
          rw [e0', Int.toNat_natCast, hk] at hn
          rw [plB, Int.toNat_natCast, hn, Int.toNat_natCast, List.getD_eq_getElem?_getD, hy]; rfl
        have l0 := load_I hIb h0
        rw [show ((0 : Nat) : Int) = 0 from rfl, e0'] at l0
        have lz := load_O (X.f.o.pre hp5) hz0
        rw [← hmz, hk] at lz
        have lL := load_I hIb hL
        rw [show ((b.length - 1 : Nat) : Int) = (b.length : Int) - 1 by omega, eL'] at lL
        have hwl : IntKind.i64.wrap ((b.length : Int) - 1) = (b.length : Int) - 1 := by rw [wrap_ok] <;> omega
        have p0 := placeIn_run (x := (n0 : Int)) hI1' (by omega)
        have pL := placeIn_run (x := (nL : Int)) hI1' (by omega)
        have hF0 : plB s os2 (b.headD 0) = atI y n0 := by rw [e0']; exact hpl n0 (by rw [e0', Int.toNat_natCast])
        have hT0 : plB s os2 (b.getLastD 0) = atI y nL := by rw [eL']; exact hpl nL mL
        generalize atI y n0 = F at *
        generalize atI y nL = T at *
        simp -implicitDefEqProofs [-indexAddrP_some, hlt, H5.bl 1 7 rfl rfl, H5.blx 1 7 rfl rfl, lb, l0, lz, g _ H5.pre, lL, hwl, CL_ret p0, CH_at p0, CL_ret pL, CH_at pL]
        refine R_loopO (fun n st h' => ∃ (j : Nat), j + n = b.length ∧ st = [(2, .slice o2 os2.length d2), (8, .pointer (some ⟨h1.length, 0, some 7⟩)), (14, .slice oc y.length e), (15, .int .i64 F), (16, .int .i64 T), (39, .slice va B.length vc), (40, .int .i64 B.length), (41, .int .i64 i), (70, .slice uo b.length uc), (71, .int .i64 b.length), (72, .int .i64 j)] ∧ h' = h5 ∧ R = ((b.drop j).any (outB s os2 b) || (B.drop (i + 1)).any fun b => b.any (outB s os2 b))) (fun I2 hI2 m st h' => ?_) ⟨0, Nat.zero_add _, by simp, rfl, by simpa using hx⟩
        rintro ⟨j, hj, rfl, eh2, hx⟩
        rw [eh2]
        by_cases hlt2 : j < b.length
        · obtain ⟨x, hxx, hd2⟩ := drop_at hlt2
          obtain ⟨nx, rfl, hnx, mX⟩ := hb2 x (List.mem_of_getElem? hxx)
          rw [hd2, List.any_cons, outB, hF0, hT0, hpl nx mX] at hx
          have lx := load_I hIb hxx
          have px := placeIn_run (x := (nx : Int)) hI1' (by omega)
          generalize atI y nx = X at *
          by_cases c5 : X < F
          · rw [decide_eq_true c5, Bool.true_or, Bool.true_or] at hx
            simp -implicitDefEqProofs [-indexAddrP_some, hlt2, lx, CL_ret px, CH_at px, c5, hx, gcP H5.pre]
          · by_cases c6 : T < X
            · rw [decide_eq_true c6, Bool.or_true, Bool.true_or] at hx
              simp -implicitDefEqProofs [-indexAddrP_some, hlt2, lx, CL_ret px, CH_at px, c5, c6, hx, gcP H5.pre]
            · rw [decide_eq_false c5, decide_eq_false c6, Bool.false_or, Bool.false_or] at hx
              simp -implicitDefEqProofs [-indexAddrP_some, hlt2, lx, CL_ret px, CH_at px, c5, c6, winc hlt2 hbl]
              exact ⟨m - 1, by omega, on hI2 ⟨j + 1, by omega, rfl, rfl, hx⟩⟩
        · rw [List.drop_eq_nil_of_le (by omega), List.any_nil, Bool.false_or] at hx
          simp -implicitDefEqProofs [-indexAddrP_some, hlt2, winc hlt bl1]
          exact ⟨n - 1, by omega, on hI ⟨i + 1, by omega, rfl, rfl, hx⟩⟩
      · rw [List.drop_eq_nil_of_le (by omega), List.any_nil] at hx
        simp -implicitDefEqProofs [hlt, hx, gcP H5.pre]
end
end Go.Pm.PP

/- FnExactLeavesBlocks in the small machine. -/
set_option linter.unusedVariables false
set_option linter.unusedSimpArgs false
set_option maxRecDepth 4000
set_option maxHeartbeats 4000000
namespace Go.Pm.PP
open Go.Pm Go.Proofs
theorem law_LeavesBlocks {h : Hp} {vr vo vp : Value} {s : Shop} {oss os2 : List (List Int)} {vs ws xs : List Value} (NS : Nest h vr encO 2 s.routes vs) (NO : Nest h vo encI 1 oss ws) (NP : Nest h vp encI 1 os2 xs) (l1 : s.routes.length < 2 ^ 63) (l2 : ∀ x ∈ s.routes, x.length < 2 ^ 63) (l3 : oss.length < 2 ^ 63) (l4 : ∀ x ∈ oss, x.length < 2 ^ 63) (l5 : os2.length < 2 ^ 63) (l6 : ∀ x ∈ os2, x.length < 2 ^ 63) :
    Ret P G n_laws_FnExactLeavesBlocks [sv s vr, vo, vp] h (.bool true) h := by
  refine enter_run e_laws_FnExactLeavesBlocks (by simp) ?_
  have NSs := NS
  have NOs := NO
  have NPs := NP
  obtain ⟨oa, ca, rfl⟩ := NS.shape
  obtain ⟨ob, cb, rfl⟩ := NO.shape
  obtain ⟨oc, cc, rfl⟩ := NP.shape
  have z1 := fun l => szJobShop_run (left := 1048576) (NSs.pre (List.prefix_append h l)) l1 l2 (by omega) (by omega)
  by_cases c1 : szN 1048576 s.routes < 0
  · simp -implicitDefEqProofs [CL_ret (z1 _), c1]
  have e1 := szN_ok c1
  have z2 := fun l => szIntSS_run (left := szN 1048576 s.routes) (NOs.pre (List.prefix_append h l)) l3 l4 (by omega) (by omega)
  by_cases c2 : szN (szN 1048576 s.routes) oss < 0
  · simp -implicitDefEqProofs [CL_ret (z1 _), c1, CL_ret (z2 _), c2]
  have e2 := szN_ok c2
  have z3 := fun l => szIntSS_run (left := szN (szN 1048576 s.routes) oss) (NPs.pre (List.prefix_append h l)) l5 l6 (by omega) (by omega)
  by_cases c3 : szN (szN (szN 1048576 s.routes) oss) os2 < 0
  · simp -implicitDefEqProofs [CL_ret (z1 _), c1, CL_ret (z2 _), c2, CL_ret (z3 _), c3]
  have e3 := szN_ok c3
  have b1 : s.routes.length ≤ 2 ^ 20 := by omega
  have b2 : tot s.routes ≤ 2 ^ 20 := by omega
  have b3 : oss.length ≤ 2 ^ 20 := by omega
  have b4 : tot oss ≤ 2 ^ 20 := by omega
  have b7 : os2.length ≤ 2 ^ 20 := by omega
  have b8 : tot os2 ≤ 2 ^ 20 := by omega
  have b5 : ∀ x ∈ s.routes, x.length ≤ 2 ^ 40 := fun x hx => by have := tot_mem hx; omega
  have b6 : ∀ x ∈ oss, x.length ≤ 2 ^ 40 := fun x hx => by have := tot_mem hx; omega
  have b9 : ∀ x ∈ os2, x.length ≤ 2 ^ 40 := fun x hx => by have := tot_mem hx; omega
  have toS : ∀ {h' : Hp}, h <+: h' → RunsC P G n_laws_toJobShop [sv s (.slice oa s.routes.length ca)] h' fun v h2 => ∃ vr' us, v = sv s vr' ∧ us.length = s.routes.length ∧ Holds h' h2 (.own vr' 1 (us.map encV) :: inL encO 2 us s.routes) := fun hp => toJobShop_run (NSs.pre hp) (by omega) b5
  have toO : ∀ {h' : Hp}, h <+: h' → RunsC P G n_laws_toIntSS [.slice ob oss.length cb] h' fun v h2 => ∃ us : List Value, us.length = oss.length ∧ Holds h' h2 (.own v 1 (us.map encV) :: inL encI 1 us oss) := fun hp => toIntSS_run (NOs.pre hp) (by omega) b6
  have toP : ∀ {h' : Hp}, h <+: h' → RunsC P G n_laws_toIntSS [.slice oc os2.length cc] h' fun v h2 => ∃ us : List Value, us.length = os2.length ∧ Holds h' h2 (.own v 1 (us.map encV) :: inL encI 1 us os2) := fun hp => toIntSS_run (NPs.pre hp) (by omega) b9
  have H0 := (Holds.start.alloc [.int .i64 s.m, .slice oa s.routes.length ca] (h := h)).open
  -- the reference
  simp -implicitDefEqProofs [CL_ret (z1 _), c1, CL_ret (z2 _), c2, CL_ret (z3 _), c3]
  refine CL_post (toS H0.pre) fun v h1 ⟨r1, u1, ev, hu1, C1⟩ => ?_
  subst ev
  have p1 := H0.pre.trans C1.pre
  simp -implicitDefEqProofs
  refine CL_post (toO p1) fun v2 h2 ⟨u2, hu2, C2⟩ => ?_
  simp -implicitDefEqProofs
  refine CL_post (toP (p1.trans C2.pre)) fun v3 h3 ⟨u3', hu3', C2'⟩ => ?_
  have S1 : SAt h3 r1 s := ⟨⟨u1, (Holds.nest (L1 := [_]) (L2 := []) (o := 0) (C1.ext (C2.pre.trans C2'.pre)).open rfl hu1)⟩, b1, by rw [cnt_tot]; exact b2⟩
  have O1 : OAt h3 v2 oss := ⟨⟨u2, (Holds.nest (L1 := [_]) (L2 := []) (o := 0) (C2.ext C2'.pre).open rfl hu2)⟩, b3, by rw [cnt_tot]; exact b4⟩
  have P1 : OAt h3 v3 os2 := ⟨⟨u3', (Holds.nest (L1 := [_]) (L2 := []) (o := 0) C2'.open rfl hu3')⟩, b7, by rw [cnt_tot]; exact b8⟩
  have rs := specLeavesBlocks_run S1 O1 P1
  have H1 := H0.ext (C1.pre.trans (C2.pre.trans C2'.pre))
  simp -implicitDefEqProofs [CL_ret rs, H1.bl 0 2 rfl rfl]
  generalize hL : leaves0 s oss os2 = L at *
  generalize hB : leaves1 s oss os2 = B at *
  -- the copies
  refine CL_post (toS H1.pre) fun v h4 ⟨r3, u3, ev, hu3, C3⟩ => ?_
  subst ev
  obtain ⟨x1, x2, x3, rfl⟩ : ∃ a n c, r3 = .slice a n c := by obtain ⟨a, c, e⟩ := (C3.sees 0 rfl).shape; exact ⟨_, _, _, e⟩
  have H2 := (Holds.joinT (A := [_]) (M := inL encO 2 u3 s.routes) H1 C3).allocT [.int .i64 s.m, .slice x1 x2 x3]
  simp -implicitDefEqProofs
  refine CL_post (toO H2.pre) fun v5 h5 ⟨u4, hu4, C4⟩ => ?_
  obtain ⟨y1, y2, y3, rfl⟩ : ∃ a n c, v5 = .slice a n c := by obtain ⟨a, c, e⟩ := (C4.sees 0 rfl).shape; exact ⟨_, _, _, e⟩
  have H3' := Holds.joinT (A := [_]) (M := inL encI 1 u4 oss) H2 C4
  simp -implicitDefEqProofs
  refine CL_post (toP H3'.pre) fun v6 h6 ⟨u5, hu5, C5⟩ => ?_
  obtain ⟨w1, w2, w3, rfl⟩ : ∃ a n c, v6 = .slice a n c := by obtain ⟨a, c, e⟩ := (C5.sees 0 rfl).shape; exact ⟨_, _, _, e⟩
  have H3 := Holds.joinT (A := [_]) (M := inL encI 1 u5 os2) H3' C5
  have N3 := Holds.nest (o := 1) H3.swap2 rfl hu3
  have M3 := Holds.nest (o := 3) H3.swap rfl hu4
  have Q3 := Holds.nest (o := 4) H3 rfl hu5
  have S3 : SAt h6 (.slice x1 x2 x3) s := ⟨⟨u3, N3⟩, b1, by rw [cnt_tot]; exact b2⟩
  have O3 : OAt h6 (.slice y1 y2 y3) oss := ⟨⟨u4, M3⟩, b3, by rw [cnt_tot]; exact b4⟩
  have P3 : OAt h6 (.slice w1 w2 w3) os2 := ⟨⟨u5, Q3⟩, b7, by rw [cnt_tot]; exact b8⟩
  -- the program
  simp -implicitDefEqProofs [H3.bl 2 2 rfl rfl]
  have ri := LeavesBlocks_run S3 O3 P3
  rw [hL, hB] at ri
  simp -implicitDefEqProofs [CL_ret ri, H3.bl 2 2 rfl rfl, H3.bl 0 2 rfl rfl]
  -- the copies are as they were
  refine CH_post (toS H3.pre).new fun v h7 ⟨⟨r7, u7, ev, hu7, C7⟩, hn7⟩ => ⟨hn7 C7.pre, ?_⟩
  subst ev
  have H5 := H3.ext C7.pre
  have q2 := eqJobShop_run (N3.pre C7.pre) (Holds.nest (L1 := [_]) (L2 := []) (o := 0) C7.open rfl hu7) (by omega) b5
  simp -implicitDefEqProofs [CL_ret q2, CH_at q2]
  refine CL_post (toO H5.pre) fun v8 h8 ⟨u8, hu8, C8⟩ => ?_
  have H6 := H5.ext C8.pre
  have q3 := eqIntSS_run (M3.pre (C7.pre.trans C8.pre)) (Holds.nest (L1 := [_]) (L2 := []) (o := 0) C8.open rfl hu8) (by omega) b6
  simp -implicitDefEqProofs [CL_ret q3]
  refine CL_post (toP H6.pre) fun v9 h9 ⟨u9, hu9, C9⟩ => ?_
  have H7 := H6.ext C9.pre
  have q4 := eqIntSS_run (Q3.pre (C7.pre.trans (C8.pre.trans C9.pre))) (Holds.nest (L1 := [_]) (L2 := []) (o := 0) C9.open rfl hu9) (by omega) b9
  simp -implicitDefEqProofs [CL_ret q4]
  exact gcP H7.pre rfl
end Go.Pm.PP

/- List plans, in plain terms: tables of a precedence, their closure is transitive. -/
set_option linter.unusedVariables false
set_option linter.unusedSimpArgs false
namespace Go.Pm.LP
/-! ### tables -/
abbrev Tab := List (List Bool)
def tg (T : Tab) (i j : Nat) : Bool := ((T[i]?.getD [])[j]?).getD false
def ts (T : Tab) (i j : Nat) (b : Bool) : Tab := T.set i ((T[i]?.getD []).set j b)
structure Sq (n : Nat) (T : Tab) : Prop where
  len : T.length = n
  rows : ∀ r ∈ T, r.length = n
section
variable {n i j k : Nat} {T : Tab} {b : Bool}
theorem Sq.row (h : Sq n T) (hi : i < n) : ∃ r, T[i]? = some r ∧ r.length = n := by
  obtain ⟨r, hr, _⟩ := drop_at (show i < T.length by rw [h.len]; exact hi)
  exact ⟨r, hr, h.rows r (List.mem_of_getElem? hr)⟩
theorem tg_at {r : List Bool} (hr : T[i]? = some r) : tg T i j = (r[j]?).getD false := by simp [tg, hr]
theorem ts_at {r : List Bool} (hr : T[i]? = some r) : ts T i j b = T.set i (r.set j b) := by simp [ts, hr]
theorem Sq.ts (h : Sq n T) (hi : i < n) : Sq n (ts T i j b) := by
  obtain ⟨r, hr, hl⟩ := h.row hi
  rw [ts_at hr]
  refine ⟨by rw [List.length_set, h.len], fun x hx => ?_⟩
  rcases List.mem_or_eq_of_mem_set hx with g | g
  · exact h.rows x g
  · rw [g, List.length_set, hl]
theorem tg_ts (h : Sq n T) (hi : i < n) (hj : j < n) {i' j' : Nat} : tg (LP.ts T i j b) i' j' = if i' = i ∧ j' = j then b else tg T i' j' := by
  obtain ⟨r, hr, hl⟩ := h.row hi
  rw [ts_at hr]
  unfold tg
  rw [List.getElem?_set]
  by_cases h1 : i = i'
  · subst h1
    rw [if_pos rfl, if_pos (by rw [h.len]; exact hi), Option.getD_some, List.getElem?_set, hr, Option.getD_some]
    by_cases h2 : j = j'
    · subst h2; simp [hl, hj]
    · rw [if_neg h2, if_neg (fun g => h2 g.2.symm)]
  · rw [if_neg h1, if_neg (fun g => h1 g.1.symm)]
end
/-! ### closure -/
def w1 (k i : Nat) (T : Tab) (j : Nat) : Tab := if tg T i k && tg T k j then ts T i j true else T
def w2 (n k : Nat) (T : Tab) (i : Nat) : Tab := (List.range' 0 n).foldl (w1 k i) T
def w3 (n : Nat) (T : Tab) (k : Nat) : Tab := (List.range' 0 n).foldl (w2 n k) T
def clos (n : Nat) (T : Tab) : Tab := (List.range' 0 n).foldl (w3 n) T
structure Mid (n k : Nat) (T : Tab) (D : Nat → Nat → Bool) (T' : Tab) : Prop where
  sq : Sq n T'
  eq : ∀ i j, i < n → j < n → tg T' i j = (tg T i j || (D i j && (tg T i k && tg T k j)))
theorem Mid.step {n k i0 j0 : Nat} {T T' : Tab} {D : Nat → Nat → Bool} (M : Mid n k T D T') (hk : k < n) (hi : i0 < n) (hj : j0 < n) : Mid n k T (fun i j => D i j || (i == i0 && j == j0)) (w1 k i0 T' j0) := by
  have e1 : tg T' i0 k = tg T i0 k := by
    rw [M.eq _ _ hi hk]; cases tg T i0 k <;> cases D i0 k <;> cases tg T k k <;> rfl
  have e2 : tg T' k j0 = tg T k j0 := by
    rw [M.eq _ _ hk hj]; cases tg T k j0 <;> cases D k j0 <;> cases tg T k k <;> rfl
  unfold w1
  rw [e1, e2]
  cases hc : (tg T i0 k && tg T k j0)
  · rw [if_neg (by simp)]
    refine ⟨M.sq, fun i j h1 h2 => ?_⟩
    rw [M.eq i j h1 h2]
    cases hq : (i == i0 && j == j0)
    · simp
    · simp at hq
      obtain ⟨rfl, rfl⟩ := hq
      rw [hc, Bool.and_false, Bool.and_false]
  · rw [if_pos rfl]
    refine ⟨M.sq.ts hi, fun i j h1 h2 => ?_⟩
    rw [tg_ts M.sq hi hj]
    split
    · rename_i hq
      obtain ⟨rfl, rfl⟩ := hq
      rw [hc]; simp
    · rename_i hq
      rw [M.eq i j h1 h2]
      have : (i == i0 && j == j0) = false := by
        cases hq2 : (i == i0 && j == j0)
        · rfl
        · simp at hq2; exact absurd hq2 hq
      rw [this, Bool.or_false]
theorem Mid.inner {n k i0 : Nat} {T : Tab} (hk : k < n) (hi : i0 < n) : ∀ {l : List Nat} {T' : Tab} {D : Nat → Nat → Bool}, Mid n k T D T' → (∀ j ∈ l, j < n) →
    ∃ D', (∀ j ∈ l, D' i0 j = true) ∧ (∀ i j, D i j = true → D' i j = true) ∧ Mid n k T D' (l.foldl (w1 k i0) T')
  | [], T', D, M, _ => ⟨D, by simp, fun _ _ h => h, M⟩
  | j :: l, T', D, M, hl => by
    obtain ⟨D', h1, h2, h3⟩ := Mid.inner hk hi (M.step hk hi (hl j (List.mem_cons_self ..))) (fun x hx => hl x (List.mem_cons_of_mem _ hx))
    refine ⟨D', fun x hx => ?_, fun a b h => h2 a b (by simp [h]), h3⟩
    rcases List.mem_cons.1 hx with rfl | hx
    · exact h2 _ _ (by simp)
    · exact h1 x hx
theorem mem_r' {n x : Nat} : x ∈ List.range' 0 n ↔ x < n := by simp [List.mem_range'_1]
theorem Mid.outer {n k : Nat} {T : Tab} (hk : k < n) : ∀ {l : List Nat} {T' : Tab} {D : Nat → Nat → Bool}, Mid n k T D T' → (∀ j ∈ l, j < n) →
    ∃ D', (∀ i ∈ l, ∀ j, j < n → D' i j = true) ∧ (∀ i j, D i j = true → D' i j = true) ∧ Mid n k T D' (l.foldl (w2 n k) T')
  | [], T', D, M, _ => ⟨D, by simp, fun _ _ h => h, M⟩
  | i :: l, T', D, M, hl => by
    obtain ⟨D1, h1, h2, h3⟩ := Mid.inner hk (hl i (List.mem_cons_self ..)) M (l := List.range' 0 n) (fun x hx => mem_r'.1 hx)
    obtain ⟨D', g1, g2, g3⟩ := Mid.outer hk h3 (fun x hx => hl x (List.mem_cons_of_mem _ hx))
    refine ⟨D', fun x hx j hj => ?_, fun a b h => g2 a b (h2 a b h), g3⟩
    rcases List.mem_cons.1 hx with rfl | hx
    · exact g2 _ _ (h1 j (mem_r'.2 hj))
    · exact g1 x hx j hj
theorem w3_eq {n k : Nat} {T : Tab} (h : Sq n T) (hk : k < n) : Sq n (w3 n T k) ∧ ∀ i j, i < n → j < n → tg (w3 n T k) i j = (tg T i j || (tg T i k && tg T k j)) := by
  obtain ⟨D', h1, _, M⟩ := Mid.outer hk (T := T) (T' := T) (D := fun _ _ => false) ⟨h, by simp⟩ (l := List.range' 0 n) (fun x hx => mem_r'.1 hx)
  refine ⟨M.sq, fun i j hi hj => ?_⟩
  have := M.eq i j hi hj
  rw [h1 i (mem_r'.2 hi) j hj, Bool.true_and] at this
  exact this
def TrB (n K : Nat) (T : Tab) : Prop := ∀ i j k, i < n → j < n → k < K → tg T i k = true → tg T k j = true → tg T i j = true
theorem tr_step {n K : Nat} {T : Tab} (h : Sq n T) (hK : K < n) (t : TrB n K T) : TrB n (K + 1) (w3 n T K) := by
  obtain ⟨_, e⟩ := w3_eq h hK
  intro i j k hi hj hk h1 h2
  rw [e i k hi (by omega)] at h1
  rw [e k j (by omega) hj] at h2
  rw [e i j hi hj]
  have hh1 : tg T i k = true ∨ (tg T i K = true ∧ tg T K k = true) := by simpa using h1
  have hh2 : tg T k j = true ∨ (tg T k K = true ∧ tg T K j = true) := by simpa using h2
  have goal : tg T i j = true ∨ (tg T i K = true ∧ tg T K j = true) := by
    rcases Nat.lt_or_ge k K with g | g
    · rcases hh1 with a | ⟨a, b⟩ <;> rcases hh2 with c | ⟨c, d⟩
      · exact .inl (t i j k hi hj g a c)
      · exact .inr ⟨t i K k hi hK g a c, d⟩
      · exact .inr ⟨a, t K j k hK hj g b c⟩
      · exact .inr ⟨a, d⟩
    · have : k = K := by omega
      subst this
      rcases hh1 with a | ⟨a, b⟩ <;> rcases hh2 with c | ⟨c, d⟩
      · exact .inr ⟨a, c⟩
      · exact .inr ⟨a, d⟩
      · exact .inr ⟨a, c⟩
      · exact .inr ⟨a, d⟩
  simpa using goal
theorem tr_fold {n : Nat} : ∀ {d K : Nat} {T : Tab}, K + d = n → Sq n T → TrB n K T → Sq n ((List.range' K d).foldl (w3 n) T) ∧ TrB n n ((List.range' K d).foldl (w3 n) T)
  | 0, K, T, h, s, t => by
    have : K = n := by omega
    subst this
    exact ⟨s, t⟩
  | d + 1, K, T, h, s, t => by
    rw [List.range'_succ, List.foldl_cons]
    exact tr_fold (by omega) (w3_eq s (by omega)).1 (tr_step s (by omega) t)
theorem clos_sq {n : Nat} {T : Tab} (s : Sq n T) : Sq n (clos n T) := (tr_fold (Nat.zero_add n) s (fun i j k _ _ h => by omega)).1
theorem clos_tr {n : Nat} {T : Tab} (s : Sq n T) : TrB n n (clos n T) := (tr_fold (Nat.zero_add n) s (fun i j k _ _ h => by omega)).2
/-! ### least elements -/
theorem countP_lt {α : Type} {p q : α → Bool} : ∀ {l : List α}, (∀ x ∈ l, p x = true → q x = true) → (∃ x ∈ l, q x = true ∧ p x = false) → l.countP p < l.countP q
  | [], _, h => by obtain ⟨x, hx, _⟩ := h; cases hx
  | y :: l, h, he => by
    have hm : l.countP p ≤ l.countP q := List.countP_mono_left fun x hx => h x (List.mem_cons_of_mem _ hx)
    rw [List.countP_cons, List.countP_cons]
    obtain ⟨x, hx, h1, h2⟩ := he
    rcases List.mem_cons.1 hx with rfl | hx
    · rw [h1, h2]; simp; omega
    · have := countP_lt (fun z hz => h z (List.mem_cons_of_mem _ hz)) ⟨x, hx, h1, h2⟩
      have h3 := h y (List.mem_cons_self ..)
      cases hp : p y
      · simp; omega
      · rw [h3 hp]; simp; omega
/-- How many lie before one. -/
def preds (n : Nat) (T : Tab) (i : Nat) : Nat := (List.range n).countP fun k => tg T k i
theorem preds_lt {n i k : Nat} {T : Tab} (t : TrB n n T) (ir : ∀ i, i < n → tg T i i = false) (hi : i < n) (hk : k < n) (h : tg T k i = true) : preds n T k < preds n T i :=
  countP_lt (fun x hx g => t x i k (List.mem_range.1 hx) hi hk g h) ⟨k, List.mem_range.2 hk, h, ir k hk⟩
theorem least {n : Nat} {T : Tab} (t : TrB n n T) (ir : ∀ i, i < n → tg T i i = false) {p : Nat → Bool} : ∀ (c : Nat) {i : Nat}, i < n → p i = true → preds n T i ≤ c → ∃ i, i < n ∧ p i = true ∧ ∀ k, k < n → tg T k i = true → p k = false := by
  intro c
  induction c with
  | zero =>
    intro i hi hp hc
    refine ⟨i, hi, hp, fun k hk hki => ?_⟩
    have := preds_lt t ir hi hk hki
    omega
  | succ c ih =>
    intro i hi hp hc
    by_cases h : ∃ k, k < n ∧ tg T k i = true ∧ p k = true
    · obtain ⟨k, hk, h1, h2⟩ := h
      have := preds_lt t ir hi hk h1
      exact ih hk h2 (by omega)
    · refine ⟨i, hi, hp, fun k hk hki => ?_⟩
      cases hpk : p k
      · rfl
      · exact absurd ⟨k, hk, hki, hpk⟩ h
end Go.Pm.LP

/- List plans, in plain terms: the plan by jumps of time and the plan by single steps of time are the same. -/
set_option linter.unusedVariables false
set_option linter.unusedSimpArgs false
namespace Go.Pm.LP
structure Job where
  t : Int
  w : Int
  r : Int
  d : Int
structure Task where
  j : Int
  m : Int
  s : Int
def gi (l : List Int) (i : Nat) : Int := (l[i]?).getD 0
def tm (js : List Job) (i : Nat) : Int := (js[i]?.map (·.t)).getD 0
def tat (p : List Task) (i : Nat) : Task := (p[i]?).getD ⟨0, 0, 0⟩
theorem gi_at {l : List Int} {i : Nat} {x : Int} (h : l[i]? = some x) : gi l i = x := by simp [gi, h]
theorem gi_get {l : List Int} {i : Nat} (h : i < l.length) : l[i]? = some (gi l i) := by simp [gi, List.getElem?_eq_getElem h]
theorem gi_mem {l : List Int} {i : Nat} (h : i < l.length) : gi l i ∈ l := List.mem_of_getElem? (gi_get h)
theorem gi_set {l : List Int} {j i : Nat} {x : Int} (h : j < l.length) : gi (l.set j x) i = if i = j then x else gi l i := by
  unfold gi
  rw [List.getElem?_set]
  by_cases e : j = i
  · subst e; simp [h]
  · rw [if_neg e, if_neg fun g => e g.symm]
theorem tat_set {l : List Task} {j i : Nat} {x : Task} (h : j < l.length) : tat (l.set j x) i = if i = j then x else tat l i := by
  unfold tat
  rw [List.getElem?_set]
  by_cases e : j = i
  · subst e; simp [h]
  · rw [if_neg e, if_neg fun g => e g.symm]
theorem cnt_set {p : Int → Bool} {y : Int} : ∀ {l : List Int} {j : Nat} {x : Int}, l[j]? = some x → (l.set j y).countP p + (if p x = true then 1 else 0) = l.countP p + (if p y = true then 1 else 0)
  | [], _, _, h => by cases h
  | a :: l, 0, x, h => by
    simp at h; subst h
    rw [List.set_cons_zero, List.countP_cons, List.countP_cons]; omega
  | a :: l, j + 1, x, h => by
    rw [List.set_cons_succ, List.countP_cons, List.countP_cons]
    have := @cnt_set p y l j x (by simpa using h)
    omega
def rdy (T : Tab) (ends : List Int) (now : Int) (i : Nat) : Bool := decide (gi ends i < 0) && (List.range' 0 ends.length).all fun k => !(tg T k i && (decide (gi ends k < 0) || decide (now < gi ends k)))
def nxt (T : Tab) (os : List Nat) (ends : List Int) (now : Int) : Option Nat := os.find? (rdy T ends now)
structure PS where
  plan : List Task
  ends : List Int
  free : List Int
  left : Int
def ms (js : List Job) (T : Tab) (os : List Nat) (now : Int) (S : PS) (c : Nat) : PS :=
  if now < gi S.free c then S else match nxt T os S.ends now with
    | none => S
    | some j => ⟨S.plan.set j ⟨j, c, now⟩, S.ends.set j (now + tm js j), S.free.set c (now + tm js j), S.left - 1⟩
def rnd (js : List Job) (T : Tab) (os : List Nat) (m : Nat) (now : Int) (S : PS) : PS := (List.range' 0 m).foldl (ms js T os now) S
def soonGo (now : Int) : Int → List Int → Int
  | out, [] => out
  | out, e :: r => soonGo now (if now < e ∧ (out < 0 ∨ e < out) then e else out) r
def soon (ends : List Int) (now : Int) : Int := soonGo now (-1) ends
def sGo (js : List Job) (T : Tab) (os : List Nat) (m : Nat) : Nat → PS → Int → PS
  | 0, S, _ => S
  | f + 1, S, now => if 0 < S.left then sGo js T os m f (rnd js T os m now S) (soon (rnd js T os m now S).ends now) else S
theorem sGo_end {js : List Job} {T : Tab} {os : List Nat} {m f : Nat} {S : PS} {now : Int} (h : ¬ 0 < S.left) : sGo js T os m f S now = S := by
  cases f with
  | zero => rfl
  | succ f => rw [sGo, if_neg h]
structure Wf (n m : Nat) (js : List Job) (T : Tab) (os : List Nat) (M : Nat) : Prop where
  jl : js.length = n
  jt : ∀ i, i < n → 1 ≤ tm js i ∧ tm js i ≤ M
  sq : Sq n T
  tr : TrB n n T
  ir : ∀ i, i < n → tg T i i = false
  o1 : ∀ i, i ∈ os → i < n
  o2 : ∀ i, i < n → i ∈ os
  m1 : 1 ≤ m
/-- A state on the way. -/
structure WS (n m : Nat) (js : List Job) (B : Nat) (S : PS) : Prop where
  lp : S.plan.length = n
  le : S.ends.length = n
  lf : S.free.length = m
  left : S.left = (S.ends.countP fun e => decide (e < 0) : Nat)
  st : ∀ i, i < n → gi S.ends i < 0 ∨ (gi S.ends i = (tat S.plan i).s + tm js i ∧ 0 ≤ (tat S.plan i).s ∧ (tat S.plan i).s ≤ B)
structure PInv (n m : Nat) (js : List Job) (M B : Nat) (S : PS) (now : Int) (f : Nat) : Prop where
  ws : WS n m js B S
  now0 : 0 ≤ now
  mu : 2 * (S.ends.countP fun e => decide (e < 0)) + (S.ends.countP fun e => decide (now < e)) ≤ f
  bnd : now + (M * f : Nat) ≤ B
  hi : ∀ e, e ∈ S.ends → e ≤ now + M
  fr : ∀ c, c < m → gi S.free c ≤ now ∨ gi S.free c ∈ S.ends
def Idle (m : Nat) (T : Tab) (os : List Nat) (S : PS) (now : Int) : Prop := ∀ c, c < m → gi S.free c ≤ now → nxt T os S.ends now = none
section
variable {n m M B f : Nat} {js : List Job} {T : Tab} {os : List Nat} {S : PS} {now t : Int}
theorem nxt_some (W : Wf n m js T os M) {ends : List Int} {j : Nat} (h : nxt T os ends now = some j) : j < n ∧ gi ends j < 0 := by
  have h1 := List.mem_of_find?_eq_some h
  have h2 := List.find?_some h
  unfold rdy at h2
  exact ⟨W.o1 j h1, by simp at h2; exact h2.1⟩
theorem ms_ws (W : Wf n m js T os M) (w : WS n m js B S) (h0 : 0 ≤ t) (hB : t ≤ B) (c : Nat) : WS n m js B (ms js T os t S c) := by
  unfold ms
  split
  · exact w
  · cases h : nxt T os S.ends t with
    | none => exact w
    | some j =>
      obtain ⟨hj, hn⟩ := nxt_some W h
      have tj := W.jt j hj
      have g := gi_get (l := S.ends) (i := j) (by rw [w.le]; exact hj)
      have c1 := cnt_set (p := fun e => decide (e < 0)) (y := t + tm js j) g
      refine ⟨by simp [w.lp], by simp [w.le], by simp [w.lf], ?_, fun i hi => ?_⟩
      · have hy : ¬ t + tm js j < 0 := by omega
        simp only [decide_eq_true_eq, hn, hy, if_true, if_false] at c1
        have := w.left
        simp only
        omega
      · simp only
        rw [gi_set (by rw [w.le]; exact hj), tat_set (by rw [w.lp]; exact hj)]
        by_cases e : i = j
        · subst e
          rw [if_pos rfl, if_pos rfl]
          exact .inr ⟨rfl, h0, hB⟩
        · rw [if_neg e, if_neg e]; exact w.st i hi
theorem ms_inv (W : Wf n m js T os M) (I : PInv n m js M B S now f) {c : Nat} (hc : c < m) : PInv n m js M B (ms js T os now S c) now f := by
  have w' := ms_ws (t := now) W I.ws I.now0 (by have := I.bnd; omega) c
  revert w'
  unfold ms
  split
  · intro _; exact I
  · cases h : nxt T os S.ends now with
    | none => intro _; exact I
    | some j =>
      intro w'
      obtain ⟨hj, hn⟩ := nxt_some W h
      have tj := W.jt j hj
      have n0 := I.now0
      have hjl : j < S.ends.length := by rw [I.ws.le]; exact hj
      have g := gi_get hjl
      have c1 := cnt_set (p := fun e => decide (e < 0)) (y := now + tm js j) g
      have c2 := cnt_set (p := fun e => decide (now < e)) (y := now + tm js j) g
      refine ⟨w', I.now0, ?_, I.bnd, fun e he => ?_, fun c' hc' => ?_⟩
      · have hy : ¬ now + tm js j < 0 := by omega
        have hy2 : now < now + tm js j := by omega
        have hy3 : ¬ now < gi S.ends j := by omega
        simp only [decide_eq_true_eq, hn, hy, if_true, if_false] at c1
        simp only [decide_eq_true_eq, hy2, hy3, if_true, if_false] at c2
        have := I.mu
        simp only
        omega
      · rcases List.mem_or_eq_of_mem_set he with q | q
        · exact I.hi e q
        · omega
      · simp only
        rw [gi_set (by rw [I.ws.lf]; exact hc)]
        have self : now + tm js j ∈ S.ends.set j (now + tm js j) := List.mem_of_getElem? (i := j) (by rw [List.getElem?_set_self hjl])
        by_cases e : c' = c
        · rw [if_pos e]; exact .inr self
        · rw [if_neg e]
          rcases I.fr c' hc' with q | q
          · exact .inl q
          · obtain ⟨k, hk⟩ := List.getElem?_of_mem q
            by_cases e2 : k = j
            · subst e2
              rw [gi_at hk] at hn
              exact .inl (by omega)
            · right
              refine List.mem_of_getElem? (i := k) ?_
              rw [List.getElem?_set, if_neg fun g => e2 g.symm]
              exact hk
theorem fold_inv (W : Wf n m js T os M) : ∀ {l : List Nat} {S : PS}, (∀ c, c ∈ l → c < m) → PInv n m js M B S now f → PInv n m js M B (l.foldl (ms js T os now) S) now f
  | [], S, _, I => I
  | c :: l, S, hl, I => fold_inv W (l := l) (fun x hx => hl x (List.mem_cons_of_mem _ hx)) (ms_inv W I (hl c (List.mem_cons_self ..)))
theorem rnd_inv (W : Wf n m js T os M) (I : PInv n m js M B S now f) : PInv n m js M B (rnd js T os m now S) now f := fold_inv W (fun c hc => mem_r'.1 hc) I
theorem idle_step (W : Wf n m js T os M) (w : WS n m js B S) {D : List Nat} (hD : ∀ c, c ∈ D → gi S.free c ≤ now → nxt T os S.ends now = none) {c : Nat} (hc : c < m) :
    ∀ c', c' ∈ c :: D → gi (ms js T os now S c).free c' ≤ now → nxt T os (ms js T os now S c).ends now = none := by
  intro c' hc'
  unfold ms
  split
  · rename_i h
    intro h2
    rcases List.mem_cons.1 hc' with rfl | g
    · omega
    · exact hD c' g h2
  · cases h : nxt T os S.ends now with
    | none => intro _; exact h
    | some j =>
      obtain ⟨hj, hn⟩ := nxt_some W h
      have tj := W.jt j hj
      simp only
      rw [gi_set (by rw [w.lf]; exact hc)]
      intro h2
      by_cases e : c' = c
      · rw [if_pos e] at h2; omega
      · rw [if_neg e] at h2
        rcases List.mem_cons.1 hc' with g | g
        · exact absurd g e
        · rw [hD c' g h2] at h; cases h
theorem idle_fold (W : Wf n m js T os M) (h0 : 0 ≤ now) (hB : now ≤ B) : ∀ {l D : List Nat} {S : PS}, (∀ c, c ∈ l → c < m) → WS n m js B S → (∀ c, c ∈ D → gi S.free c ≤ now → nxt T os S.ends now = none) →
    ∀ c, c ∈ l ∨ c ∈ D → gi (l.foldl (ms js T os now) S).free c ≤ now → nxt T os (l.foldl (ms js T os now) S).ends now = none
  | [], D, S, _, w, hD, c, hc => by
    rcases hc with hc | hc
    · cases hc
    · exact hD c hc
  | a :: l, D, S, hl, w, hD, c, hc => by
    refine idle_fold W h0 hB (l := l) (D := a :: D) (fun x hx => hl x (List.mem_cons_of_mem _ hx)) (ms_ws W w h0 hB a) (idle_step W w hD (hl a (List.mem_cons_self ..))) c ?_
    rcases hc with hc | hc
    · rcases List.mem_cons.1 hc with rfl | hc
      · exact .inr (List.mem_cons_self ..)
      · exact .inl hc
    · exact .inr (List.mem_cons_of_mem _ hc)
theorem rnd_idle (W : Wf n m js T os M) (I : PInv n m js M B S now f) : Idle m T os (rnd js T os m now S) now := fun c hc =>
  idle_fold W I.now0 (by have := I.bnd; omega) (l := List.range' 0 m) (D := []) (fun c hc => mem_r'.1 hc) I.ws (by simp) c (.inl (mem_r'.2 hc))
theorem soonGo_ok (h0 : 0 ≤ now) : ∀ {l : List Int} {out : Int}, (out = -1 ∨ now < out) →
    (soonGo now out l = -1 ∧ out = -1 ∧ ∀ e, e ∈ l → ¬ now < e) ∨ (now < soonGo now out l ∧ (soonGo now out l = out ∨ soonGo now out l ∈ l) ∧ (∀ e, e ∈ l → now < e → soonGo now out l ≤ e) ∧ (out = -1 ∨ soonGo now out l ≤ out))
  | [], out, h => by
    rcases h with rfl | h
    · exact .inl ⟨rfl, rfl, by simp⟩
    · exact .inr ⟨h, .inl rfl, by simp, .inr (Int.le_refl _)⟩
  | e :: l, out, h => by
    rw [soonGo]
    by_cases c : now < e ∧ (out < 0 ∨ e < out)
    · rw [if_pos c]
      rcases @soonGo_ok h0 l e (.inr c.1) with ⟨_, g, _⟩ | ⟨g1, g2, g3, g4⟩
      · omega
      · have g5 : soonGo now e l ≤ e := by rcases g4 with g | g <;> omega
        refine .inr ⟨g1, .inr ?_, fun x hx hn => ?_, ?_⟩
        · rcases g2 with g | g
          · rw [g]; exact List.mem_cons_self ..
          · exact List.mem_cons_of_mem _ g
        · rcases List.mem_cons.1 hx with rfl | hx
          · exact g5
          · exact g3 x hx hn
        · rcases h with h | h
          · exact .inl h
          · right; omega
    · rw [if_neg c]
      rcases @soonGo_ok h0 l out h with ⟨g1, g2, g3⟩ | ⟨g1, g2, g3, g4⟩
      · refine .inl ⟨g1, g2, fun x hx => ?_⟩
        rcases List.mem_cons.1 hx with rfl | hx
        · intro hh; exact c ⟨hh, .inl (by omega)⟩
        · exact g3 x hx
      · refine .inr ⟨g1, ?_, fun x hx hn => ?_, g4⟩
        · rcases g2 with g | g
          · exact .inl g
          · exact .inr (List.mem_cons_of_mem _ g)
        · rcases List.mem_cons.1 hx with rfl | hx
          · rcases h with h | h
            · exact absurd ⟨hn, .inl (by omega)⟩ c
            · have : soonGo now out l ≤ out := by rcases g4 with g | g <;> omega
              have : ¬ x < out := fun g => c ⟨hn, .inr g⟩
              omega
          · exact g3 x hx hn
theorem some_later (W : Wf n m js T os M) (I : PInv n m js M B S now f) (hI : Idle m T os S now) (hl : 0 < S.left) : ∃ e, e ∈ S.ends ∧ now < e := by
  rcases Classical.em (∃ e, e ∈ S.ends ∧ now < e) with h | h
  · exact h
  · exfalso
    have h : ∀ e, e ∈ S.ends → ¬ now < e := fun e he g => h ⟨e, he, g⟩
    have hf : gi S.free 0 ≤ now := by
      rcases I.fr 0 W.m1 with g | g
      · exact g
      · have := h _ g; omega
    have hn := hI 0 W.m1 hf
    have hc : 0 < S.ends.countP fun e => decide (e < 0) := by have := I.ws.left; omega
    obtain ⟨x, hx, hx0⟩ := List.countP_pos_iff.1 hc
    obtain ⟨i0, hi0⟩ := List.getElem?_of_mem hx
    have hi0n : i0 < n := by rw [← I.ws.le]; exact (List.getElem?_eq_some_iff.1 hi0).1
    obtain ⟨i, hi, hp, hk⟩ := least W.tr W.ir (p := fun i => decide (gi S.ends i < 0)) (preds n T i0) hi0n (by rw [gi_at hi0]; exact hx0) (Nat.le_refl _)
    have := List.find?_eq_none.1 hn i (W.o2 i hi)
    apply this
    unfold rdy
    rw [hp, Bool.true_and, List.all_eq_true]
    intro k hkm
    have hkn : k < n := by rw [← I.ws.le]; exact mem_r'.1 hkm
    cases hT : tg T k i
    · simp
    · have h1 := hk k hkn hT
      have h2 : ¬ now < gi S.ends k := h _ (gi_mem (by rw [I.ws.le]; exact hkn))
      simp at h1
      simp [h1, h2]
theorem soon_ok (W : Wf n m js T os M) (I : PInv n m js M B S now f) (hI : Idle m T os S now) (hl : 0 < S.left) : now < soon S.ends now ∧ soon S.ends now ∈ S.ends ∧ ∀ e, e ∈ S.ends → now < e → soon S.ends now ≤ e := by
  obtain ⟨e, he, hn⟩ := some_later W I hI hl
  rcases soonGo_ok I.now0 (l := S.ends) (out := -1) (.inl rfl) with ⟨_, _, g⟩ | ⟨g1, g2, g3, _⟩
  · exact absurd hn (g e he)
  · refine ⟨g1, ?_, g3⟩
    rcases g2 with g | g
    · have := I.now0
      unfold soon at *
      omega
    · exact g
theorem ms_same (I : PInv n m js M B S now f) (hI : Idle m T os S now) (h1 : now ≤ t) (h2 : ∀ e, e ∈ S.ends → now < e → t < e) {c : Nat} (hc : c < m) : ms js T os t S c = S := by
  unfold ms
  split
  · rfl
  · rename_i h
    have hf : gi S.free c ≤ now := by
      rcases I.fr c hc with g | g
      · exact g
      · rcases Int.lt_or_le now (gi S.free c) with q | q
        · have := h2 _ g q; omega
        · exact q
    have hn := hI c hc hf
    have : nxt T os S.ends t = none := by
      rw [← hn]
      unfold nxt
      congr 1
      funext i
      unfold rdy
      congr 1
      rw [Bool.eq_iff_iff, List.all_eq_true, List.all_eq_true]
      refine forall_congr' fun k => forall_congr' fun hk => ?_
      have hkl : k < S.ends.length := mem_r'.1 hk
      have : decide (t < gi S.ends k) = decide (now < gi S.ends k) := by
        rcases Int.lt_or_le now (gi S.ends k) with q | q
        · have := h2 _ (gi_mem hkl) q
          simp [q, this]
        · simp; omega
      rw [this]
    rw [this]
theorem rnd_same (I : PInv n m js M B S now f) (hI : Idle m T os S now) (h1 : now ≤ t) (h2 : ∀ e, e ∈ S.ends → now < e → t < e) : rnd js T os m t S = S := by
  unfold rnd
  have : ∀ l : List Nat, (∀ c, c ∈ l → c < m) → l.foldl (ms js T os t) S = S := by
    intro l
    induction l with
    | nil => intro _; rfl
    | cons c l ih => intro hl; rw [List.foldl_cons, ms_same I hI h1 h2 (hl c (List.mem_cons_self ..))]; exact ih fun x hx => hl x (List.mem_cons_of_mem _ hx)
  exact this _ fun c hc => mem_r'.1 hc
/-- A jump. -/
theorem jump (W : Wf n m js T os M) (I : PInv n m js M B S now f) (hI : Idle m T os S now) (hl : 0 < S.left) : 0 < f ∧ PInv n m js M B S (soon S.ends now) (f - 1) ∧ (∀ t, now < t → t < soon S.ends now → rnd js T os m t S = S) ∧ soon S.ends now ≤ now + M := by
  obtain ⟨h1, h2, h3⟩ := soon_ok W I hI hl
  have hle := I.hi _ h2
  have hlt : (S.ends.countP fun e => decide (soon S.ends now < e)) < S.ends.countP fun e => decide (now < e) :=
    countP_lt (fun x _ hx => by simp at hx ⊢; omega) ⟨_, h2, by simpa using h1, by simp⟩
  have hm := I.mu
  have hf : 0 < f := by omega
  refine ⟨hf, ⟨I.ws, by have := I.now0; omega, by omega, ?_, fun e he => by have := I.hi e he; omega, fun c hc => ?_⟩, fun t g1 g2 => rnd_same I hI (by omega) fun e he hn => by have := h3 e he hn; omega, hle⟩
  · have hb := I.bnd
    obtain ⟨g, rfl⟩ : ∃ g, f = g + 1 := ⟨f - 1, by omega⟩
    rw [Nat.add_sub_cancel]
    rw [Nat.mul_succ] at hb
    omega
  · rcases I.fr c hc with g | g
    · left; omega
    · exact .inr g
/-- One turn of the plan by jumps. -/
theorem turn (W : Wf n m js T os M) (I : PInv n m js M B S now f) (hl : 0 < S.left) : ∃ g, f = g + 1 ∧ sGo js T os m f S now = sGo js T os m g (rnd js T os m now S) (soon (rnd js T os m now S).ends now) ∧
    (0 < (rnd js T os m now S).left → PInv n m js M B (rnd js T os m now S) (soon (rnd js T os m now S).ends now) g) := by
  have hf : 0 < f := by have := I.mu; have := I.ws.left; omega
  obtain ⟨g, rfl⟩ : ∃ g, f = g + 1 := ⟨f - 1, by omega⟩
  refine ⟨g, rfl, by rw [sGo, if_pos hl], fun h2 => ?_⟩
  exact (jump W (rnd_inv W I) (rnd_idle W I) h2).2.1
/-- One turn of the plan by steps. -/
theorem turn1 (W : Wf n m js T os M) (I : PInv n m js M B S now f) (hl : 0 < S.left) (ht : t ≤ now) (hs : ∀ t', t ≤ t' → t' < now → rnd js T os m t' S = S) :
    ∃ g nx, sGo js T os m f S now = sGo js T os m g (rnd js T os m t S) nx ∧ t + 1 ≤ nx ∧ (0 < (rnd js T os m t S).left → PInv n m js M B (rnd js T os m t S) nx g ∧ (∀ t', t + 1 ≤ t' → t' < nx → rnd js T os m t' (rnd js T os m t S) = rnd js T os m t S) ∧
      g * (M + 1) + (nx - (t + 1)).toNat < f * (M + 1) + (now - t).toNat) := by
  rcases Int.lt_or_le t now with h | h
  · have e := hs t (Int.le_refl _) h
    refine ⟨f, now, by rw [e], by omega, fun h2 => ?_⟩
    rw [e]
    exact ⟨I, fun t' g1 g2 => hs t' (by omega) g2, by omega⟩
  · have e : now = t := by omega
    subst e
    obtain ⟨g, rfl, e1, e2⟩ := turn W I hl
    by_cases h2 : 0 < (rnd js T os m now S).left
    · obtain ⟨_, j2, j3, j4⟩ := jump W (rnd_inv W I) (rnd_idle W I) h2
      have j5 := soon_ok W (rnd_inv W I) (rnd_idle W I) h2
      refine ⟨g, _, e1, by omega, fun _ => ⟨e2 h2, fun t' g1 g2 => j3 t' (by omega) g2, ?_⟩⟩
      rw [Nat.succ_mul]
      omega
    · refine ⟨0, now + 1, ?_, Int.le_refl _, fun h3 => absurd h3 h2⟩
      rw [e1, sGo_end h2, sGo_end h2]
end
end Go.Pm.LP

/- List plans: what stands in slices. -/
set_option linter.unusedVariables false
set_option linter.unusedSimpArgs false
set_option maxRecDepth 4000
namespace Go.Pm.PP
open Go.Pm Go.Proofs Go.Pm.LP
def encJ (j : Job) : List Value := [.int .i64 j.t, .int .i64 j.w, .int .i64 j.r, .int .i64 j.d]
abbrev jv (j : Job) : Value := .agg #[.int .i64 j.t, .int .i64 j.w, .int .i64 j.r, .int .i64 j.d]
abbrev Jobs (h : Hp) (v : Value) (js : List Job) : Prop := Sees h v 4 (js.map encJ)
def encT (t : Task) : List Value := [.int .i64 t.j, .int .i64 t.m, .int .i64 t.s]
abbrev tv (t : Task) : Value := .agg #[.int .i64 t.j, .int .i64 t.m, .int .i64 t.s]
abbrev Tasks (h : Hp) (v : Value) (ts : List Task) : Prop := Sees h v 3 (ts.map encT)
def encB (b : Bool) : List Value := [.bool b]
end Go.Pm.PP

/- Typed rules for slices: printed by a program of this work (wrap.py). -/
set_option linter.unusedVariables false
set_option linter.unusedSimpArgs false
set_option maxRecDepth 4000
namespace Go.Pm.PP
open Go.Pm Go.Proofs Go.Pm.LP
theorem load_J {h : Hp} {v : Value} {xs : List (Job)} {i : Nat} {x : Job} (hv : Sees h v 4 (xs.map encJ)) (hx : xs[i]? = some x) :
    indexAddrP P h t_S_impl_Job v (.int .i64 i) = some (.pointer (some (addP (base v) (i * 4)))) ∧ loadP P h t_impl_Job (.pointer (some (addP (base v) (i * 4)))) = some (.agg #[.int .i64 x.t, .int .i64 x.w, .int .i64 x.r, .int .i64 x.d]) ∧
    loadP P h t_int (.pointer (some (addP (addP (base v) (i * 4)) 0))) = some (.int .i64 x.t) ∧
    loadP P h t_int (.pointer (some (addP (addP (base v) (i * 4)) 1))) = some (.int .i64 x.w) ∧
    loadP P h t_int (.pointer (some (addP (addP (base v) (i * 4)) 2))) = some (.int .i64 x.r) ∧
    loadP P h t_int (.pointer (some (addP (addP (base v) (i * 4)) 3))) = some (.int .i64 x.d) := by
  have hi := (List.getElem?_eq_some_iff.1 hx).1
  have h1 := hv.indexT (P := P) u_S_impl_Job i_impl_Job (k := .i64) (j := i) (by omega) (by omega)
  rw [Int.toNat_natCast] at h1
  have fld : ∀ k, k < 4 → loadP P h t_int (.pointer (some (addP (addP (base v) (i * 4)) k))) = (encJ x)[k]? := by
    intro k hk
    have := hv.cellT (P := P) a_int i_int hx hk
    rw [← this]
    simp only [addP, Nat.add_assoc]
  exact ⟨h1, hv.aggT a_impl_Job i_impl_Job hx, fld 0 (by omega), fld 1 (by omega), fld 2 (by omega), fld 3 (by omega)⟩
theorem len_J (xs : List (Job)) : ∀ e ∈ xs.map encJ, e.length = 4 := by
  intro e he
  obtain ⟨x, _, rfl⟩ := List.mem_map.1 he
  rfl
theorem ones_J (xs : List (Job)) : (xs.map encJ).flatten.all one = true := by
  induction xs with
  | nil => rfl
  | cons x xs ih => rw [List.map_cons, List.flatten_cons, List.all_append, ih]; rfl
theorem push_J0 {h0 h : Hp} {L : List Asn} (H : Holds h0 h L) (i : Nat) {v : Value} {xs : List (Job)} (hi : L[i]? = some (.own v 4 (xs.map encJ))) (x : Job) (hn : xs.length ≤ 2 ^ 40) :
    ∃ v' h', appendP P (h ++ [some ⟨[.int .i64 x.t, .int .i64 x.w, .int .i64 x.r, .int .i64 x.d], 4, false⟩]) t_S_impl_Job v (.slice (some ⟨h.length, 0, some 4⟩) 1 1) = some (v', h') ∧ Holds h0 h' (L.set i (.own v' 4 ((xs ++ [x]).map encJ))) ∧ Keeps (rowV v) h h' ∧ (rowV v = none → newOk (h ++ [some ⟨[.int .i64 x.t, .int .i64 x.w, .int .i64 x.r, .int .i64 x.d], 4, false⟩]) h') := by
  obtain ⟨v', h', g1, g2, g3, g4⟩ := (H.ext (List.prefix_append h [])).push (P := P) i (y := encJ x) (n := 4) hi u_S_impl_Job e_t_impl_Job z_t_impl_Job s_t_impl_Job (by omega) (by rw [b_t_impl_Job]; omega) rfl rfl (by simp [encJ]) (by rw [b_t_impl_Job]; simp; omega)
  rw [show xs.map encJ ++ [encJ x] = (xs ++ [x]).map encJ by simp] at g2
  exact ⟨v', h', by simpa [encJ] using g1, g2, Keeps.app.trans g3, by simpa [encJ] using g4⟩
theorem push_J1 {h0 h : Hp} {L : List Asn} (H : Holds h0 h L) (i : Nat) {v : Value} {xs : List (Job)} (hi : L[i]? = some (.own v 4 (xs.map encJ))) (x : Job) {a1 : Option Row} (hn : xs.length ≤ 2 ^ 40) :
    ∃ v' h', appendP P (h ++ [a1, some ⟨[.int .i64 x.t, .int .i64 x.w, .int .i64 x.r, .int .i64 x.d], 4, false⟩]) t_S_impl_Job v (.slice (some ⟨h.length + 1, 0, some 4⟩) 1 1) = some (v', h') ∧ Holds h0 h' (L.set i (.own v' 4 ((xs ++ [x]).map encJ))) ∧ Keeps (rowV v) h h' ∧ (rowV v = none → newOk (h ++ [a1, some ⟨[.int .i64 x.t, .int .i64 x.w, .int .i64 x.r, .int .i64 x.d], 4, false⟩]) h') := by
  obtain ⟨v', h', g1, g2, g3, g4⟩ := (H.ext (List.prefix_append h [a1])).push (P := P) i (y := encJ x) (n := 4) hi u_S_impl_Job e_t_impl_Job z_t_impl_Job s_t_impl_Job (by omega) (by rw [b_t_impl_Job]; omega) rfl rfl (by simp [encJ]) (by rw [b_t_impl_Job]; simp; omega)
  rw [show xs.map encJ ++ [encJ x] = (xs ++ [x]).map encJ by simp] at g2
  exact ⟨v', h', by simpa [encJ] using g1, g2, Keeps.app.trans g3, by simpa [encJ] using g4⟩
theorem push_J2 {h0 h : Hp} {L : List Asn} (H : Holds h0 h L) (i : Nat) {v : Value} {xs : List (Job)} (hi : L[i]? = some (.own v 4 (xs.map encJ))) (x : Job) {a1 a2 : Option Row} (hn : xs.length ≤ 2 ^ 40) :
    ∃ v' h', appendP P (h ++ [a1, a2, some ⟨[.int .i64 x.t, .int .i64 x.w, .int .i64 x.r, .int .i64 x.d], 4, false⟩]) t_S_impl_Job v (.slice (some ⟨h.length + 2, 0, some 4⟩) 1 1) = some (v', h') ∧ Holds h0 h' (L.set i (.own v' 4 ((xs ++ [x]).map encJ))) ∧ Keeps (rowV v) h h' ∧ (rowV v = none → newOk (h ++ [a1, a2, some ⟨[.int .i64 x.t, .int .i64 x.w, .int .i64 x.r, .int .i64 x.d], 4, false⟩]) h') := by
  obtain ⟨v', h', g1, g2, g3, g4⟩ := (H.ext (List.prefix_append h [a1, a2])).push (P := P) i (y := encJ x) (n := 4) hi u_S_impl_Job e_t_impl_Job z_t_impl_Job s_t_impl_Job (by omega) (by rw [b_t_impl_Job]; omega) rfl rfl (by simp [encJ]) (by rw [b_t_impl_Job]; simp; omega)
  rw [show xs.map encJ ++ [encJ x] = (xs ++ [x]).map encJ by simp] at g2
  exact ⟨v', h', by simpa [encJ] using g1, g2, Keeps.app.trans g3, by simpa [encJ] using g4⟩
theorem app_J {h0 h : Hp} {L : List Asn} (H : Holds h0 h L) (i : Nat) {v u : Value} {xs ys : List (Job)} (hi : L[i]? = some (.own v 4 (xs.map encJ))) (s : Sees h u 4 (ys.map encJ)) (hn : xs.length + ys.length ≤ 2 ^ 40) :
    ∃ v' h', appendP P h t_S_impl_Job v u = some (v', h') ∧ Holds h0 h' (L.set i (.own v' 4 ((xs ++ ys).map encJ))) ∧ Keeps (rowV v) h h' := by
  obtain ⟨v', h', g1, g2, g3⟩ := H.app (P := P) i hi u_S_impl_Job e_t_impl_Job z_t_impl_Job s_t_impl_Job (by omega) (by rw [b_t_impl_Job]; omega) s (ones_J ys) (by rw [b_t_impl_Job]; simp; omega)
  rw [← List.map_append] at g2
  exact ⟨v', h', g1, g2, g3⟩
theorem put_J {h0 h : Hp} {L : List Asn} (H : Holds h0 h L) (i : Nat) {v : Value} {xs : List (Job)} (hi : L[i]? = some (.own v 4 (xs.map encJ))) {j : Nat} (hj : j < xs.length) (x : Job) :
    ∃ h', storeP P h t_impl_Job (.agg #[.int .i64 x.t, .int .i64 x.w, .int .i64 x.r, .int .i64 x.d]) (.pointer (some (addP (base v) (j * 4)))) = some h' ∧ Holds h0 h' (L.set i (.own v 4 ((xs.set j x).map encJ))) ∧ Keeps (rowV v) h h' := by
  have := H.put (P := P) i (t := t_impl_Job) (w := .agg #[.int .i64 x.t, .int .i64 x.w, .int .i64 x.r, .int .i64 x.d]) (j := j) hi i_impl_Job (by simpa using hj) rfl (by simp)
  simpa [List.map_set, encJ] using this
theorem fput_J0 {h0 h : Hp} {L : List Asn} (H : Holds h0 h L) (i : Nat) {v : Value} {xs : List (Job)} (hi : L[i]? = some (.own v 4 (xs.map encJ))) {j : Nat} {y : Job} (hy : xs[j]? = some y) (z : Int) :
    ∃ h', storeP P h t_int (.int .i64 z) (.pointer (some (addP (addP (base v) (j * 4)) 0))) = some h' ∧ Holds h0 h' (L.set i (.own v 4 ((xs.set j ({ y with t := z })).map encJ))) ∧ Keeps (rowV v) h h' := by
  have := H.store (P := P) i hi (t := t_int) (w := .int .i64 z) (j := j) (e := encJ y) (l := []) (m := [.int .i64 y.t]) (c := [.int .i64 y.w, .int .i64 y.r, .int .i64 y.d]) e_t_int (by simp [hy]) rfl (by simp) (by simp) (by simp)
  simpa [List.map_set, encJ, addP, Nat.add_assoc] using this
theorem fput_J1 {h0 h : Hp} {L : List Asn} (H : Holds h0 h L) (i : Nat) {v : Value} {xs : List (Job)} (hi : L[i]? = some (.own v 4 (xs.map encJ))) {j : Nat} {y : Job} (hy : xs[j]? = some y) (z : Int) :
    ∃ h', storeP P h t_int (.int .i64 z) (.pointer (some (addP (addP (base v) (j * 4)) 1))) = some h' ∧ Holds h0 h' (L.set i (.own v 4 ((xs.set j ({ y with w := z })).map encJ))) ∧ Keeps (rowV v) h h' := by
  have := H.store (P := P) i hi (t := t_int) (w := .int .i64 z) (j := j) (e := encJ y) (l := [.int .i64 y.t]) (m := [.int .i64 y.w]) (c := [.int .i64 y.r, .int .i64 y.d]) e_t_int (by simp [hy]) rfl (by simp) (by simp) (by simp)
  simpa [List.map_set, encJ, addP, Nat.add_assoc] using this
theorem fput_J2 {h0 h : Hp} {L : List Asn} (H : Holds h0 h L) (i : Nat) {v : Value} {xs : List (Job)} (hi : L[i]? = some (.own v 4 (xs.map encJ))) {j : Nat} {y : Job} (hy : xs[j]? = some y) (z : Int) :
    ∃ h', storeP P h t_int (.int .i64 z) (.pointer (some (addP (addP (base v) (j * 4)) 2))) = some h' ∧ Holds h0 h' (L.set i (.own v 4 ((xs.set j ({ y with r := z })).map encJ))) ∧ Keeps (rowV v) h h' := by
  have := H.store (P := P) i hi (t := t_int) (w := .int .i64 z) (j := j) (e := encJ y) (l := [.int .i64 y.t, .int .i64 y.w]) (m := [.int .i64 y.r]) (c := [.int .i64 y.d]) e_t_int (by simp [hy]) rfl (by simp) (by simp) (by simp)
  simpa [List.map_set, encJ, addP, Nat.add_assoc] using this
theorem fput_J3 {h0 h : Hp} {L : List Asn} (H : Holds h0 h L) (i : Nat) {v : Value} {xs : List (Job)} (hi : L[i]? = some (.own v 4 (xs.map encJ))) {j : Nat} {y : Job} (hy : xs[j]? = some y) (z : Int) :
    ∃ h', storeP P h t_int (.int .i64 z) (.pointer (some (addP (addP (base v) (j * 4)) 3))) = some h' ∧ Holds h0 h' (L.set i (.own v 4 ((xs.set j ({ y with d := z })).map encJ))) ∧ Keeps (rowV v) h h' := by
  have := H.store (P := P) i hi (t := t_int) (w := .int .i64 z) (j := j) (e := encJ y) (l := [.int .i64 y.t, .int .i64 y.w, .int .i64 y.r]) (m := [.int .i64 y.d]) (c := []) e_t_int (by simp [hy]) rfl (by simp) (by simp) (by simp)
  simpa [List.map_set, encJ, addP, Nat.add_assoc] using this
theorem make_J {h0 h : Hp} {L : List Asn} (H : Holds h0 h L) {n : Nat} (hn : n ≤ 2 ^ 40) :
    ∃ v h', makeP P h t_S_impl_Job (.int .i64 n) (.int .i64 n) = some (v, h') ∧ Holds h0 h' (L ++ [.own v 4 ((List.replicate n (⟨0, 0, 0, 0⟩ : Job)).map encJ)]) ∧ h <+: h' ∧ (∃ oa, v = .slice oa n n) := by
  have mk := make_eq (h := h) u_S_impl_Job e_t_impl_Job z_t_impl_Job rfl (by rw [s_t_impl_Job]; omega) (by rw [b_t_impl_Job]; omega) (n := n) (by omega) (by rw [b_t_impl_Job]; omega)
  rw [s_t_impl_Job] at mk
  simp only [Value.cells] at mk
  have hlz : ∀ e ∈ List.replicate n ([.int .i64 0, .int .i64 0, .int .i64 0, .int .i64 0] : List Value), e.length = 4 := fun e he => by rw [List.eq_of_mem_replicate he]; rfl
  refine ⟨_, _, mk, ?_, List.prefix_append .., _, rfl⟩
  have := H.lit (els := List.replicate n ([.int .i64 0, .int .i64 0, .int .i64 0, .int .i64 0] : List Value)) (sz := 4) (n := n * 4) hlz (by simp)
  simpa [encJ] using this
theorem load_K {h : Hp} {v : Value} {xs : List (Task)} {i : Nat} {x : Task} (hv : Sees h v 3 (xs.map encT)) (hx : xs[i]? = some x) :
    indexAddrP P h t_S_impl_Task v (.int .i64 i) = some (.pointer (some (addP (base v) (i * 3)))) ∧ loadP P h t_impl_Task (.pointer (some (addP (base v) (i * 3)))) = some (.agg #[.int .i64 x.j, .int .i64 x.m, .int .i64 x.s]) ∧
    loadP P h t_int (.pointer (some (addP (addP (base v) (i * 3)) 0))) = some (.int .i64 x.j) ∧
    loadP P h t_int (.pointer (some (addP (addP (base v) (i * 3)) 1))) = some (.int .i64 x.m) ∧
    loadP P h t_int (.pointer (some (addP (addP (base v) (i * 3)) 2))) = some (.int .i64 x.s) := by
  have hi := (List.getElem?_eq_some_iff.1 hx).1
  have h1 := hv.indexT (P := P) u_S_impl_Task i_impl_Task (k := .i64) (j := i) (by omega) (by omega)
  rw [Int.toNat_natCast] at h1
  have fld : ∀ k, k < 3 → loadP P h t_int (.pointer (some (addP (addP (base v) (i * 3)) k))) = (encT x)[k]? := by
    intro k hk
    have := hv.cellT (P := P) a_int i_int hx hk
    rw [← this]
    simp only [addP, Nat.add_assoc]
  exact ⟨h1, hv.aggT a_impl_Task i_impl_Task hx, fld 0 (by omega), fld 1 (by omega), fld 2 (by omega)⟩
theorem len_K (xs : List (Task)) : ∀ e ∈ xs.map encT, e.length = 3 := by
  intro e he
  obtain ⟨x, _, rfl⟩ := List.mem_map.1 he
  rfl
theorem ones_K (xs : List (Task)) : (xs.map encT).flatten.all one = true := by
  induction xs with
  | nil => rfl
  | cons x xs ih => rw [List.map_cons, List.flatten_cons, List.all_append, ih]; rfl
theorem push_K0 {h0 h : Hp} {L : List Asn} (H : Holds h0 h L) (i : Nat) {v : Value} {xs : List (Task)} (hi : L[i]? = some (.own v 3 (xs.map encT))) (x : Task) (hn : xs.length ≤ 2 ^ 40) :
    ∃ v' h', appendP P (h ++ [some ⟨[.int .i64 x.j, .int .i64 x.m, .int .i64 x.s], 3, false⟩]) t_S_impl_Task v (.slice (some ⟨h.length, 0, some 3⟩) 1 1) = some (v', h') ∧ Holds h0 h' (L.set i (.own v' 3 ((xs ++ [x]).map encT))) ∧ Keeps (rowV v) h h' ∧ (rowV v = none → newOk (h ++ [some ⟨[.int .i64 x.j, .int .i64 x.m, .int .i64 x.s], 3, false⟩]) h') := by
  obtain ⟨v', h', g1, g2, g3, g4⟩ := (H.ext (List.prefix_append h [])).push (P := P) i (y := encT x) (n := 3) hi u_S_impl_Task e_t_impl_Task z_t_impl_Task s_t_impl_Task (by omega) (by rw [b_t_impl_Task]; omega) rfl rfl (by simp [encT]) (by rw [b_t_impl_Task]; simp; omega)
  rw [show xs.map encT ++ [encT x] = (xs ++ [x]).map encT by simp] at g2
  exact ⟨v', h', by simpa [encT] using g1, g2, Keeps.app.trans g3, by simpa [encT] using g4⟩
theorem push_K1 {h0 h : Hp} {L : List Asn} (H : Holds h0 h L) (i : Nat) {v : Value} {xs : List (Task)} (hi : L[i]? = some (.own v 3 (xs.map encT))) (x : Task) {a1 : Option Row} (hn : xs.length ≤ 2 ^ 40) :
    ∃ v' h', appendP P (h ++ [a1, some ⟨[.int .i64 x.j, .int .i64 x.m, .int .i64 x.s], 3, false⟩]) t_S_impl_Task v (.slice (some ⟨h.length + 1, 0, some 3⟩) 1 1) = some (v', h') ∧ Holds h0 h' (L.set i (.own v' 3 ((xs ++ [x]).map encT))) ∧ Keeps (rowV v) h h' ∧ (rowV v = none → newOk (h ++ [a1, some ⟨[.int .i64 x.j, .int .i64 x.m, .int .i64 x.s], 3, false⟩]) h') := by
  obtain ⟨v', h', g1, g2, g3, g4⟩ := (H.ext (List.prefix_append h [a1])).push (P := P) i (y := encT x) (n := 3) hi u_S_impl_Task e_t_impl_Task z_t_impl_Task s_t_impl_Task (by omega) (by rw [b_t_impl_Task]; omega) rfl rfl (by simp [encT]) (by rw [b_t_impl_Task]; simp; omega)
  rw [show xs.map encT ++ [encT x] = (xs ++ [x]).map encT by simp] at g2
  exact ⟨v', h', by simpa [encT] using g1, g2, Keeps.app.trans g3, by simpa [encT] using g4⟩
theorem push_K2 {h0 h : Hp} {L : List Asn} (H : Holds h0 h L) (i : Nat) {v : Value} {xs : List (Task)} (hi : L[i]? = some (.own v 3 (xs.map encT))) (x : Task) {a1 a2 : Option Row} (hn : xs.length ≤ 2 ^ 40) :
    ∃ v' h', appendP P (h ++ [a1, a2, some ⟨[.int .i64 x.j, .int .i64 x.m, .int .i64 x.s], 3, false⟩]) t_S_impl_Task v (.slice (some ⟨h.length + 2, 0, some 3⟩) 1 1) = some (v', h') ∧ Holds h0 h' (L.set i (.own v' 3 ((xs ++ [x]).map encT))) ∧ Keeps (rowV v) h h' ∧ (rowV v = none → newOk (h ++ [a1, a2, some ⟨[.int .i64 x.j, .int .i64 x.m, .int .i64 x.s], 3, false⟩]) h') := by
  obtain ⟨v', h', g1, g2, g3, g4⟩ := (H.ext (List.prefix_append h [a1, a2])).push (P := P) i (y := encT x) (n := 3) hi u_S_impl_Task e_t_impl_Task z_t_impl_Task s_t_impl_Task (by omega) (by rw [b_t_impl_Task]; omega) rfl rfl (by simp [encT]) (by rw [b_t_impl_Task]; simp; omega)
  rw [show xs.map encT ++ [encT x] = (xs ++ [x]).map encT by simp] at g2
  exact ⟨v', h', by simpa [encT] using g1, g2, Keeps.app.trans g3, by simpa [encT] using g4⟩
theorem app_K {h0 h : Hp} {L : List Asn} (H : Holds h0 h L) (i : Nat) {v u : Value} {xs ys : List (Task)} (hi : L[i]? = some (.own v 3 (xs.map encT))) (s : Sees h u 3 (ys.map encT)) (hn : xs.length + ys.length ≤ 2 ^ 40) :
    ∃ v' h', appendP P h t_S_impl_Task v u = some (v', h') ∧ Holds h0 h' (L.set i (.own v' 3 ((xs ++ ys).map encT))) ∧ Keeps (rowV v) h h' := by
  obtain ⟨v', h', g1, g2, g3⟩ := H.app (P := P) i hi u_S_impl_Task e_t_impl_Task z_t_impl_Task s_t_impl_Task (by omega) (by rw [b_t_impl_Task]; omega) s (ones_K ys) (by rw [b_t_impl_Task]; simp; omega)
  rw [← List.map_append] at g2
  exact ⟨v', h', g1, g2, g3⟩
theorem put_K {h0 h : Hp} {L : List Asn} (H : Holds h0 h L) (i : Nat) {v : Value} {xs : List (Task)} (hi : L[i]? = some (.own v 3 (xs.map encT))) {j : Nat} (hj : j < xs.length) (x : Task) :
    ∃ h', storeP P h t_impl_Task (.agg #[.int .i64 x.j, .int .i64 x.m, .int .i64 x.s]) (.pointer (some (addP (base v) (j * 3)))) = some h' ∧ Holds h0 h' (L.set i (.own v 3 ((xs.set j x).map encT))) ∧ Keeps (rowV v) h h' := by
  have := H.put (P := P) i (t := t_impl_Task) (w := .agg #[.int .i64 x.j, .int .i64 x.m, .int .i64 x.s]) (j := j) hi i_impl_Task (by simpa using hj) rfl (by simp)
  simpa [List.map_set, encT] using this
theorem fput_K0 {h0 h : Hp} {L : List Asn} (H : Holds h0 h L) (i : Nat) {v : Value} {xs : List (Task)} (hi : L[i]? = some (.own v 3 (xs.map encT))) {j : Nat} {y : Task} (hy : xs[j]? = some y) (z : Int) :
    ∃ h', storeP P h t_int (.int .i64 z) (.pointer (some (addP (addP (base v) (j * 3)) 0))) = some h' ∧ Holds h0 h' (L.set i (.own v 3 ((xs.set j ({ y with j := z })).map encT))) ∧ Keeps (rowV v) h h' := by
  have := H.store (P := P) i hi (t := t_int) (w := .int .i64 z) (j := j) (e := encT y) (l := []) (m := [.int .i64 y.j]) (c := [.int .i64 y.m, .int .i64 y.s]) e_t_int (by simp [hy]) rfl (by simp) (by simp) (by simp)
  simpa [List.map_set, encT, addP, Nat.add_assoc] using this
theorem fput_K1 {h0 h : Hp} {L : List Asn} (H : Holds h0 h L) (i : Nat) {v : Value} {xs : List (Task)} (hi : L[i]? = some (.own v 3 (xs.map encT))) {j : Nat} {y : Task} (hy : xs[j]? = some y) (z : Int) :
    ∃ h', storeP P h t_int (.int .i64 z) (.pointer (some (addP (addP (base v) (j * 3)) 1))) = some h' ∧ Holds h0 h' (L.set i (.own v 3 ((xs.set j ({ y with m := z })).map encT))) ∧ Keeps (rowV v) h h' := by
  have := H.store (P := P) i hi (t := t_int) (w := .int .i64 z) (j := j) (e := encT y) (l := [.int .i64 y.j]) (m := [.int .i64 y.m]) (c := [.int .i64 y.s]) e_t_int (by simp [hy]) rfl (by simp) (by simp) (by simp)
  simpa [List.map_set, encT, addP, Nat.add_assoc] using this
theorem fput_K2 {h0 h : Hp} {L : List Asn} (H : Holds h0 h L) (i : Nat) {v : Value} {xs : List (Task)} (hi : L[i]? = some (.own v 3 (xs.map encT))) {j : Nat} {y : Task} (hy : xs[j]? = some y) (z : Int) :
    ∃ h', storeP P h t_int (.int .i64 z) (.pointer (some (addP (addP (base v) (j * 3)) 2))) = some h' ∧ Holds h0 h' (L.set i (.own v 3 ((xs.set j ({ y with s := z })).map encT))) ∧ Keeps (rowV v) h h' := by
  have := H.store (P := P) i hi (t := t_int) (w := .int .i64 z) (j := j) (e := encT y) (l := [.int .i64 y.j, .int .i64 y.m]) (m := [.int .i64 y.s]) (c := []) e_t_int (by simp [hy]) rfl (by simp) (by simp) (by simp)
  simpa [List.map_set, encT, addP, Nat.add_assoc] using this
theorem make_K {h0 h : Hp} {L : List Asn} (H : Holds h0 h L) {n : Nat} (hn : n ≤ 2 ^ 40) :
    ∃ v h', makeP P h t_S_impl_Task (.int .i64 n) (.int .i64 n) = some (v, h') ∧ Holds h0 h' (L ++ [.own v 3 ((List.replicate n (⟨0, 0, 0⟩ : Task)).map encT)]) ∧ h <+: h' ∧ (∃ oa, v = .slice oa n n) := by
  have mk := make_eq (h := h) u_S_impl_Task e_t_impl_Task z_t_impl_Task rfl (by rw [s_t_impl_Task]; omega) (by rw [b_t_impl_Task]; omega) (n := n) (by omega) (by rw [b_t_impl_Task]; omega)
  rw [s_t_impl_Task] at mk
  simp only [Value.cells] at mk
  have hlz : ∀ e ∈ List.replicate n ([.int .i64 0, .int .i64 0, .int .i64 0] : List Value), e.length = 3 := fun e he => by rw [List.eq_of_mem_replicate he]; rfl
  refine ⟨_, _, mk, ?_, List.prefix_append .., _, rfl⟩
  have := H.lit (els := List.replicate n ([.int .i64 0, .int .i64 0, .int .i64 0] : List Value)) (sz := 3) (n := n * 3) hlz (by simp)
  simpa [encT] using this
theorem load_lJ {h : Hp} {v : Value} {xs : List (Job)} {i : Nat} {x : Job} (hv : Sees h v 4 (xs.map encJ)) (hx : xs[i]? = some x) :
    indexAddrP P h t_S_laws_Job v (.int .i64 i) = some (.pointer (some (addP (base v) (i * 4)))) ∧ loadP P h t_laws_Job (.pointer (some (addP (base v) (i * 4)))) = some (.agg #[.int .i64 x.t, .int .i64 x.w, .int .i64 x.r, .int .i64 x.d]) ∧
    loadP P h t_int (.pointer (some (addP (addP (base v) (i * 4)) 0))) = some (.int .i64 x.t) ∧
    loadP P h t_int (.pointer (some (addP (addP (base v) (i * 4)) 1))) = some (.int .i64 x.w) ∧
    loadP P h t_int (.pointer (some (addP (addP (base v) (i * 4)) 2))) = some (.int .i64 x.r) ∧
    loadP P h t_int (.pointer (some (addP (addP (base v) (i * 4)) 3))) = some (.int .i64 x.d) := by
  have hi := (List.getElem?_eq_some_iff.1 hx).1
  have h1 := hv.indexT (P := P) u_S_laws_Job i_laws_Job (k := .i64) (j := i) (by omega) (by omega)
  rw [Int.toNat_natCast] at h1
  have fld : ∀ k, k < 4 → loadP P h t_int (.pointer (some (addP (addP (base v) (i * 4)) k))) = (encJ x)[k]? := by
    intro k hk
    have := hv.cellT (P := P) a_int i_int hx hk
    rw [← this]
    simp only [addP, Nat.add_assoc]
  exact ⟨h1, hv.aggT a_laws_Job i_laws_Job hx, fld 0 (by omega), fld 1 (by omega), fld 2 (by omega), fld 3 (by omega)⟩
theorem len_lJ (xs : List (Job)) : ∀ e ∈ xs.map encJ, e.length = 4 := by
  intro e he
  obtain ⟨x, _, rfl⟩ := List.mem_map.1 he
  rfl
theorem ones_lJ (xs : List (Job)) : (xs.map encJ).flatten.all one = true := by
  induction xs with
  | nil => rfl
  | cons x xs ih => rw [List.map_cons, List.flatten_cons, List.all_append, ih]; rfl
theorem push_lJ0 {h0 h : Hp} {L : List Asn} (H : Holds h0 h L) (i : Nat) {v : Value} {xs : List (Job)} (hi : L[i]? = some (.own v 4 (xs.map encJ))) (x : Job) (hn : xs.length ≤ 2 ^ 40) :
    ∃ v' h', appendP P (h ++ [some ⟨[.int .i64 x.t, .int .i64 x.w, .int .i64 x.r, .int .i64 x.d], 4, false⟩]) t_S_laws_Job v (.slice (some ⟨h.length, 0, some 4⟩) 1 1) = some (v', h') ∧ Holds h0 h' (L.set i (.own v' 4 ((xs ++ [x]).map encJ))) ∧ Keeps (rowV v) h h' ∧ (rowV v = none → newOk (h ++ [some ⟨[.int .i64 x.t, .int .i64 x.w, .int .i64 x.r, .int .i64 x.d], 4, false⟩]) h') := by
  obtain ⟨v', h', g1, g2, g3, g4⟩ := (H.ext (List.prefix_append h [])).push (P := P) i (y := encJ x) (n := 4) hi u_S_laws_Job e_t_laws_Job z_t_laws_Job s_t_laws_Job (by omega) (by rw [b_t_laws_Job]; omega) rfl rfl (by simp [encJ]) (by rw [b_t_laws_Job]; simp; omega)
  rw [show xs.map encJ ++ [encJ x] = (xs ++ [x]).map encJ by simp] at g2
  exact ⟨v', h', by simpa [encJ] using g1, g2, Keeps.app.trans g3, by simpa [encJ] using g4⟩
theorem push_lJ1 {h0 h : Hp} {L : List Asn} (H : Holds h0 h L) (i : Nat) {v : Value} {xs : List (Job)} (hi : L[i]? = some (.own v 4 (xs.map encJ))) (x : Job) {a1 : Option Row} (hn : xs.length ≤ 2 ^ 40) :
    ∃ v' h', appendP P (h ++ [a1, some ⟨[.int .i64 x.t, .int .i64 x.w, .int .i64 x.r, .int .i64 x.d], 4, false⟩]) t_S_laws_Job v (.slice (some ⟨h.length + 1, 0, some 4⟩) 1 1) = some (v', h') ∧ Holds h0 h' (L.set i (.own v' 4 ((xs ++ [x]).map encJ))) ∧ Keeps (rowV v) h h' ∧ (rowV v = none → newOk (h ++ [a1, some ⟨[.int .i64 x.t, .int .i64 x.w, .int .i64 x.r, .int .i64 x.d], 4, false⟩]) h') := by
  obtain ⟨v', h', g1, g2, g3, g4⟩ := (H.ext (List.prefix_append h [a1])).push (P := P) i (y := encJ x) (n := 4) hi u_S_laws_Job e_t_laws_Job z_t_laws_Job s_t_laws_Job (by omega) (by rw [b_t_laws_Job]; omega) rfl rfl (by simp [encJ]) (by rw [b_t_laws_Job]; simp; omega)
  rw [show xs.map encJ ++ [encJ x] = (xs ++ [x]).map encJ by simp] at g2
  exact ⟨v', h', by simpa [encJ] using g1, g2, Keeps.app.trans g3, by simpa [encJ] using g4⟩
theorem push_lJ2 {h0 h : Hp} {L : List Asn} (H : Holds h0 h L) (i : Nat) {v : Value} {xs : List (Job)} (hi : L[i]? = some (.own v 4 (xs.map encJ))) (x : Job) {a1 a2 : Option Row} (hn : xs.length ≤ 2 ^ 40) :
    ∃ v' h', appendP P (h ++ [a1, a2, some ⟨[.int .i64 x.t, .int .i64 x.w, .int .i64 x.r, .int .i64 x.d], 4, false⟩]) t_S_laws_Job v (.slice (some ⟨h.length + 2, 0, some 4⟩) 1 1) = some (v', h') ∧ Holds h0 h' (L.set i (.own v' 4 ((xs ++ [x]).map encJ))) ∧ Keeps (rowV v) h h' ∧ (rowV v = none → newOk (h ++ [a1, a2, some ⟨[.int .i64 x.t, .int .i64 x.w, .int .i64 x.r, .int .i64 x.d], 4, false⟩]) h') := by
  obtain ⟨v', h', g1, g2, g3, g4⟩ := (H.ext (List.prefix_append h [a1, a2])).push (P := P) i (y := encJ x) (n := 4) hi u_S_laws_Job e_t_laws_Job z_t_laws_Job s_t_laws_Job (by omega) (by rw [b_t_laws_Job]; omega) rfl rfl (by simp [encJ]) (by rw [b_t_laws_Job]; simp; omega)
  rw [show xs.map encJ ++ [encJ x] = (xs ++ [x]).map encJ by simp] at g2
  exact ⟨v', h', by simpa [encJ] using g1, g2, Keeps.app.trans g3, by simpa [encJ] using g4⟩
theorem app_lJ {h0 h : Hp} {L : List Asn} (H : Holds h0 h L) (i : Nat) {v u : Value} {xs ys : List (Job)} (hi : L[i]? = some (.own v 4 (xs.map encJ))) (s : Sees h u 4 (ys.map encJ)) (hn : xs.length + ys.length ≤ 2 ^ 40) :
    ∃ v' h', appendP P h t_S_laws_Job v u = some (v', h') ∧ Holds h0 h' (L.set i (.own v' 4 ((xs ++ ys).map encJ))) ∧ Keeps (rowV v) h h' := by
  obtain ⟨v', h', g1, g2, g3⟩ := H.app (P := P) i hi u_S_laws_Job e_t_laws_Job z_t_laws_Job s_t_laws_Job (by omega) (by rw [b_t_laws_Job]; omega) s (ones_lJ ys) (by rw [b_t_laws_Job]; simp; omega)
  rw [← List.map_append] at g2
  exact ⟨v', h', g1, g2, g3⟩
theorem put_lJ {h0 h : Hp} {L : List Asn} (H : Holds h0 h L) (i : Nat) {v : Value} {xs : List (Job)} (hi : L[i]? = some (.own v 4 (xs.map encJ))) {j : Nat} (hj : j < xs.length) (x : Job) :
    ∃ h', storeP P h t_laws_Job (.agg #[.int .i64 x.t, .int .i64 x.w, .int .i64 x.r, .int .i64 x.d]) (.pointer (some (addP (base v) (j * 4)))) = some h' ∧ Holds h0 h' (L.set i (.own v 4 ((xs.set j x).map encJ))) ∧ Keeps (rowV v) h h' := by
  have := H.put (P := P) i (t := t_laws_Job) (w := .agg #[.int .i64 x.t, .int .i64 x.w, .int .i64 x.r, .int .i64 x.d]) (j := j) hi i_laws_Job (by simpa using hj) rfl (by simp)
  simpa [List.map_set, encJ] using this
theorem fput_lJ0 {h0 h : Hp} {L : List Asn} (H : Holds h0 h L) (i : Nat) {v : Value} {xs : List (Job)} (hi : L[i]? = some (.own v 4 (xs.map encJ))) {j : Nat} {y : Job} (hy : xs[j]? = some y) (z : Int) :
    ∃ h', storeP P h t_int (.int .i64 z) (.pointer (some (addP (addP (base v) (j * 4)) 0))) = some h' ∧ Holds h0 h' (L.set i (.own v 4 ((xs.set j ({ y with t := z })).map encJ))) ∧ Keeps (rowV v) h h' := by
  have := H.store (P := P) i hi (t := t_int) (w := .int .i64 z) (j := j) (e := encJ y) (l := []) (m := [.int .i64 y.t]) (c := [.int .i64 y.w, .int .i64 y.r, .int .i64 y.d]) e_t_int (by simp [hy]) rfl (by simp) (by simp) (by simp)
  simpa [List.map_set, encJ, addP, Nat.add_assoc] using this
theorem fput_lJ1 {h0 h : Hp} {L : List Asn} (H : Holds h0 h L) (i : Nat) {v : Value} {xs : List (Job)} (hi : L[i]? = some (.own v 4 (xs.map encJ))) {j : Nat} {y : Job} (hy : xs[j]? = some y) (z : Int) :
    ∃ h', storeP P h t_int (.int .i64 z) (.pointer (some (addP (addP (base v) (j * 4)) 1))) = some h' ∧ Holds h0 h' (L.set i (.own v 4 ((xs.set j ({ y with w := z })).map encJ))) ∧ Keeps (rowV v) h h' := by
  have := H.store (P := P) i hi (t := t_int) (w := .int .i64 z) (j := j) (e := encJ y) (l := [.int .i64 y.t]) (m := [.int .i64 y.w]) (c := [.int .i64 y.r, .int .i64 y.d]) e_t_int (by simp [hy]) rfl (by simp) (by simp) (by simp)
  simpa [List.map_set, encJ, addP, Nat.add_assoc] using this
theorem fput_lJ2 {h0 h : Hp} {L : List Asn} (H : Holds h0 h L) (i : Nat) {v : Value} {xs : List (Job)} (hi : L[i]? = some (.own v 4 (xs.map encJ))) {j : Nat} {y : Job} (hy : xs[j]? = some y) (z : Int) :
    ∃ h', storeP P h t_int (.int .i64 z) (.pointer (some (addP (addP (base v) (j * 4)) 2))) = some h' ∧ Holds h0 h' (L.set i (.own v 4 ((xs.set j ({ y with r := z })).map encJ))) ∧ Keeps (rowV v) h h' := by
  have := H.store (P := P) i hi (t := t_int) (w := .int .i64 z) (j := j) (e := encJ y) (l := [.int .i64 y.t, .int .i64 y.w]) (m := [.int .i64 y.r]) (c := [.int .i64 y.d]) e_t_int (by simp [hy]) rfl (by simp) (by simp) (by simp)
  simpa [List.map_set, encJ, addP, Nat.add_assoc] using this
theorem fput_lJ3 {h0 h : Hp} {L : List Asn} (H : Holds h0 h L) (i : Nat) {v : Value} {xs : List (Job)} (hi : L[i]? = some (.own v 4 (xs.map encJ))) {j : Nat} {y : Job} (hy : xs[j]? = some y) (z : Int) :
    ∃ h', storeP P h t_int (.int .i64 z) (.pointer (some (addP (addP (base v) (j * 4)) 3))) = some h' ∧ Holds h0 h' (L.set i (.own v 4 ((xs.set j ({ y with d := z })).map encJ))) ∧ Keeps (rowV v) h h' := by
  have := H.store (P := P) i hi (t := t_int) (w := .int .i64 z) (j := j) (e := encJ y) (l := [.int .i64 y.t, .int .i64 y.w, .int .i64 y.r]) (m := [.int .i64 y.d]) (c := []) e_t_int (by simp [hy]) rfl (by simp) (by simp) (by simp)
  simpa [List.map_set, encJ, addP, Nat.add_assoc] using this
theorem make_lJ {h0 h : Hp} {L : List Asn} (H : Holds h0 h L) {n : Nat} (hn : n ≤ 2 ^ 40) :
    ∃ v h', makeP P h t_S_laws_Job (.int .i64 n) (.int .i64 n) = some (v, h') ∧ Holds h0 h' (L ++ [.own v 4 ((List.replicate n (⟨0, 0, 0, 0⟩ : Job)).map encJ)]) ∧ h <+: h' ∧ (∃ oa, v = .slice oa n n) := by
  have mk := make_eq (h := h) u_S_laws_Job e_t_laws_Job z_t_laws_Job rfl (by rw [s_t_laws_Job]; omega) (by rw [b_t_laws_Job]; omega) (n := n) (by omega) (by rw [b_t_laws_Job]; omega)
  rw [s_t_laws_Job] at mk
  simp only [Value.cells] at mk
  have hlz : ∀ e ∈ List.replicate n ([.int .i64 0, .int .i64 0, .int .i64 0, .int .i64 0] : List Value), e.length = 4 := fun e he => by rw [List.eq_of_mem_replicate he]; rfl
  refine ⟨_, _, mk, ?_, List.prefix_append .., _, rfl⟩
  have := H.lit (els := List.replicate n ([.int .i64 0, .int .i64 0, .int .i64 0, .int .i64 0] : List Value)) (sz := 4) (n := n * 4) hlz (by simp)
  simpa [encJ] using this
theorem load_B {h : Hp} {v : Value} {xs : List (Bool)} {i : Nat} {x : Bool} (hv : Sees h v 1 (xs.map encB)) (hx : xs[i]? = some x) :
    indexAddrP P h t_S_bool v (.int .i64 i) = some (.pointer (some (addP (base v) (i)))) ∧ loadP P h t_bool (.pointer (some (addP (base v) (i)))) = some (.bool x) := by
  have hi := (List.getElem?_eq_some_iff.1 hx).1
  have h1 := hv.indexT (P := P) u_S_bool i_bool (k := .i64) (j := i) (by omega) (by omega)
  rw [Int.toNat_natCast] at h1
  have h2 := hv.cellT (P := P) (ty := t_bool) a_bool i_bool hx (k := 0) (by omega)
  exact ⟨by simpa using h1, by simpa [encB] using h2⟩
theorem len_B (xs : List (Bool)) : ∀ e ∈ xs.map encB, e.length = 1 := by
  intro e he
  obtain ⟨x, _, rfl⟩ := List.mem_map.1 he
  rfl
theorem ones_B (xs : List (Bool)) : (xs.map encB).flatten.all one = true := by
  induction xs with
  | nil => rfl
  | cons x xs ih => rw [List.map_cons, List.flatten_cons, List.all_append, ih]; rfl
theorem push_B0 {h0 h : Hp} {L : List Asn} (H : Holds h0 h L) (i : Nat) {v : Value} {xs : List (Bool)} (hi : L[i]? = some (.own v 1 (xs.map encB))) (x : Bool) (hn : xs.length ≤ 2 ^ 40) :
    ∃ v' h', appendP P (h ++ [some ⟨[.bool x], 1, false⟩]) t_S_bool v (.slice (some ⟨h.length, 0, some 1⟩) 1 1) = some (v', h') ∧ Holds h0 h' (L.set i (.own v' 1 ((xs ++ [x]).map encB))) ∧ Keeps (rowV v) h h' ∧ (rowV v = none → newOk (h ++ [some ⟨[.bool x], 1, false⟩]) h') := by
  obtain ⟨v', h', g1, g2, g3, g4⟩ := (H.ext (List.prefix_append h [])).push (P := P) i (y := encB x) (n := 1) hi u_S_bool e_t_bool z_t_bool s_t_bool (by omega) (by rw [b_t_bool]; omega) rfl rfl (by simp [encB]) (by rw [b_t_bool]; simp; omega)
  rw [show xs.map encB ++ [encB x] = (xs ++ [x]).map encB by simp] at g2
  exact ⟨v', h', by simpa [encB] using g1, g2, Keeps.app.trans g3, by simpa [encB] using g4⟩
theorem push_B1 {h0 h : Hp} {L : List Asn} (H : Holds h0 h L) (i : Nat) {v : Value} {xs : List (Bool)} (hi : L[i]? = some (.own v 1 (xs.map encB))) (x : Bool) {a1 : Option Row} (hn : xs.length ≤ 2 ^ 40) :
    ∃ v' h', appendP P (h ++ [a1, some ⟨[.bool x], 1, false⟩]) t_S_bool v (.slice (some ⟨h.length + 1, 0, some 1⟩) 1 1) = some (v', h') ∧ Holds h0 h' (L.set i (.own v' 1 ((xs ++ [x]).map encB))) ∧ Keeps (rowV v) h h' ∧ (rowV v = none → newOk (h ++ [a1, some ⟨[.bool x], 1, false⟩]) h') := by
  obtain ⟨v', h', g1, g2, g3, g4⟩ := (H.ext (List.prefix_append h [a1])).push (P := P) i (y := encB x) (n := 1) hi u_S_bool e_t_bool z_t_bool s_t_bool (by omega) (by rw [b_t_bool]; omega) rfl rfl (by simp [encB]) (by rw [b_t_bool]; simp; omega)
  rw [show xs.map encB ++ [encB x] = (xs ++ [x]).map encB by simp] at g2
  exact ⟨v', h', by simpa [encB] using g1, g2, Keeps.app.trans g3, by simpa [encB] using g4⟩
theorem push_B2 {h0 h : Hp} {L : List Asn} (H : Holds h0 h L) (i : Nat) {v : Value} {xs : List (Bool)} (hi : L[i]? = some (.own v 1 (xs.map encB))) (x : Bool) {a1 a2 : Option Row} (hn : xs.length ≤ 2 ^ 40) :
    ∃ v' h', appendP P (h ++ [a1, a2, some ⟨[.bool x], 1, false⟩]) t_S_bool v (.slice (some ⟨h.length + 2, 0, some 1⟩) 1 1) = some (v', h') ∧ Holds h0 h' (L.set i (.own v' 1 ((xs ++ [x]).map encB))) ∧ Keeps (rowV v) h h' ∧ (rowV v = none → newOk (h ++ [a1, a2, some ⟨[.bool x], 1, false⟩]) h') := by
  obtain ⟨v', h', g1, g2, g3, g4⟩ := (H.ext (List.prefix_append h [a1, a2])).push (P := P) i (y := encB x) (n := 1) hi u_S_bool e_t_bool z_t_bool s_t_bool (by omega) (by rw [b_t_bool]; omega) rfl rfl (by simp [encB]) (by rw [b_t_bool]; simp; omega)
  rw [show xs.map encB ++ [encB x] = (xs ++ [x]).map encB by simp] at g2
  exact ⟨v', h', by simpa [encB] using g1, g2, Keeps.app.trans g3, by simpa [encB] using g4⟩
theorem app_B {h0 h : Hp} {L : List Asn} (H : Holds h0 h L) (i : Nat) {v u : Value} {xs ys : List (Bool)} (hi : L[i]? = some (.own v 1 (xs.map encB))) (s : Sees h u 1 (ys.map encB)) (hn : xs.length + ys.length ≤ 2 ^ 40) :
    ∃ v' h', appendP P h t_S_bool v u = some (v', h') ∧ Holds h0 h' (L.set i (.own v' 1 ((xs ++ ys).map encB))) ∧ Keeps (rowV v) h h' := by
  obtain ⟨v', h', g1, g2, g3⟩ := H.app (P := P) i hi u_S_bool e_t_bool z_t_bool s_t_bool (by omega) (by rw [b_t_bool]; omega) s (ones_B ys) (by rw [b_t_bool]; simp; omega)
  rw [← List.map_append] at g2
  exact ⟨v', h', g1, g2, g3⟩
theorem put_B {h0 h : Hp} {L : List Asn} (H : Holds h0 h L) (i : Nat) {v : Value} {xs : List (Bool)} (hi : L[i]? = some (.own v 1 (xs.map encB))) {j : Nat} (hj : j < xs.length) (x : Bool) :
    ∃ h', storeP P h t_bool (.bool x) (.pointer (some (addP (base v) (j)))) = some h' ∧ Holds h0 h' (L.set i (.own v 1 ((xs.set j x).map encB))) ∧ Keeps (rowV v) h h' := by
  have := H.put (P := P) i (t := t_bool) (w := .bool x) (j := j) hi i_bool (by simpa using hj) rfl (by simp)
  simpa [List.map_set, encB] using this
theorem make_B {h0 h : Hp} {L : List Asn} (H : Holds h0 h L) {n : Nat} (hn : n ≤ 2 ^ 40) :
    ∃ v h', makeP P h t_S_bool (.int .i64 n) (.int .i64 n) = some (v, h') ∧ Holds h0 h' (L ++ [.own v 1 ((List.replicate n (false : Bool)).map encB)]) ∧ h <+: h' ∧ (∃ oa, v = .slice oa n n) := by
  have mk := make_eq (h := h) u_S_bool e_t_bool z_t_bool rfl (by rw [s_t_bool]; omega) (by rw [b_t_bool]; omega) (n := n) (by omega) (by rw [b_t_bool]; omega)
  rw [s_t_bool] at mk
  simp only [Value.cells] at mk
  have hlz : ∀ e ∈ List.replicate n ([.bool false] : List Value), e.length = 1 := fun e he => by rw [List.eq_of_mem_replicate he]; rfl
  refine ⟨_, _, mk, ?_, List.prefix_append .., _, rfl⟩
  have := H.lit (els := List.replicate n ([.bool false] : List Value)) (sz := 1) (n := n * 1) hlz (by simp)
  simpa [encB] using this
theorem load_NB {h : Hp} {v : Value} {xs : List (Value)} {i : Nat} {x : Value} (hv : Sees h v 1 (xs.map encV)) (hx : xs[i]? = some x) :
    indexAddrP P h t_S_S_bool v (.int .i64 i) = some (.pointer (some (addP (base v) (i)))) ∧ loadP P h t_S_bool (.pointer (some (addP (base v) (i)))) = some (x) := by
  have hi := (List.getElem?_eq_some_iff.1 hx).1
  have h1 := hv.indexT (P := P) u_S_S_bool i_S_bool (k := .i64) (j := i) (by omega) (by omega)
  rw [Int.toNat_natCast] at h1
  have h2 := hv.cellT (P := P) (ty := t_S_bool) a_S_bool i_S_bool hx (k := 0) (by omega)
  exact ⟨by simpa using h1, by simpa [encV] using h2⟩
theorem len_NB (xs : List (Value)) : ∀ e ∈ xs.map encV, e.length = 1 := by
  intro e he
  obtain ⟨x, _, rfl⟩ := List.mem_map.1 he
  rfl
theorem ones_NB (xs : List (Value)) (hone : ∀ x ∈ xs, one x = true) : (xs.map encV).flatten.all one = true := by
  induction xs with
  | nil => rfl
  | cons x xs ih => rw [List.map_cons, List.flatten_cons, List.all_append, ih fun y hy => hone y (List.mem_cons_of_mem _ hy)]; simp [encV, -one, hone x (List.mem_cons_self ..)]
theorem push_NB0 {h0 h : Hp} {L : List Asn} (H : Holds h0 h L) (i : Nat) {v : Value} {xs : List (Value)} (hi : L[i]? = some (.own v 1 (xs.map encV))) (x : Value) (hone : one x = true) (hn : xs.length ≤ 2 ^ 40) :
    ∃ v' h', appendP P (h ++ [some ⟨[x], 1, false⟩]) t_S_S_bool v (.slice (some ⟨h.length, 0, some 1⟩) 1 1) = some (v', h') ∧ Holds h0 h' (L.set i (.own v' 1 ((xs ++ [x]).map encV))) ∧ Keeps (rowV v) h h' ∧ (rowV v = none → newOk (h ++ [some ⟨[x], 1, false⟩]) h') := by
  obtain ⟨v', h', g1, g2, g3, g4⟩ := (H.ext (List.prefix_append h [])).push (P := P) i (y := encV x) (n := 1) hi u_S_S_bool e_t_S_bool z_t_S_bool s_t_S_bool (by omega) (by rw [b_t_S_bool]; omega) rfl rfl (by simp [encV, -one, hone]) (by rw [b_t_S_bool]; simp; omega)
  rw [show xs.map encV ++ [encV x] = (xs ++ [x]).map encV by simp] at g2
  exact ⟨v', h', by simpa [encV] using g1, g2, Keeps.app.trans g3, by simpa [encV] using g4⟩
theorem push_NB1 {h0 h : Hp} {L : List Asn} (H : Holds h0 h L) (i : Nat) {v : Value} {xs : List (Value)} (hi : L[i]? = some (.own v 1 (xs.map encV))) (x : Value) (hone : one x = true) {a1 : Option Row} (hn : xs.length ≤ 2 ^ 40) :
    ∃ v' h', appendP P (h ++ [a1, some ⟨[x], 1, false⟩]) t_S_S_bool v (.slice (some ⟨h.length + 1, 0, some 1⟩) 1 1) = some (v', h') ∧ Holds h0 h' (L.set i (.own v' 1 ((xs ++ [x]).map encV))) ∧ Keeps (rowV v) h h' ∧ (rowV v = none → newOk (h ++ [a1, some ⟨[x], 1, false⟩]) h') := by
  obtain ⟨v', h', g1, g2, g3, g4⟩ := (H.ext (List.prefix_append h [a1])).push (P := P) i (y := encV x) (n := 1) hi u_S_S_bool e_t_S_bool z_t_S_bool s_t_S_bool (by omega) (by rw [b_t_S_bool]; omega) rfl rfl (by simp [encV, -one, hone]) (by rw [b_t_S_bool]; simp; omega)
  rw [show xs.map encV ++ [encV x] = (xs ++ [x]).map encV by simp] at g2
  exact ⟨v', h', by simpa [encV] using g1, g2, Keeps.app.trans g3, by simpa [encV] using g4⟩
theorem push_NB2 {h0 h : Hp} {L : List Asn} (H : Holds h0 h L) (i : Nat) {v : Value} {xs : List (Value)} (hi : L[i]? = some (.own v 1 (xs.map encV))) (x : Value) (hone : one x = true) {a1 a2 : Option Row} (hn : xs.length ≤ 2 ^ 40) :
    ∃ v' h', appendP P (h ++ [a1, a2, some ⟨[x], 1, false⟩]) t_S_S_bool v (.slice (some ⟨h.length + 2, 0, some 1⟩) 1 1) = some (v', h') ∧ Holds h0 h' (L.set i (.own v' 1 ((xs ++ [x]).map encV))) ∧ Keeps (rowV v) h h' ∧ (rowV v = none → newOk (h ++ [a1, a2, some ⟨[x], 1, false⟩]) h') := by
  obtain ⟨v', h', g1, g2, g3, g4⟩ := (H.ext (List.prefix_append h [a1, a2])).push (P := P) i (y := encV x) (n := 1) hi u_S_S_bool e_t_S_bool z_t_S_bool s_t_S_bool (by omega) (by rw [b_t_S_bool]; omega) rfl rfl (by simp [encV, -one, hone]) (by rw [b_t_S_bool]; simp; omega)
  rw [show xs.map encV ++ [encV x] = (xs ++ [x]).map encV by simp] at g2
  exact ⟨v', h', by simpa [encV] using g1, g2, Keeps.app.trans g3, by simpa [encV] using g4⟩
theorem app_NB {h0 h : Hp} {L : List Asn} (H : Holds h0 h L) (i : Nat) {v u : Value} {xs ys : List (Value)} (hi : L[i]? = some (.own v 1 (xs.map encV))) (s : Sees h u 1 (ys.map encV)) (hone : ∀ x ∈ ys, one x = true) (hn : xs.length + ys.length ≤ 2 ^ 40) :
    ∃ v' h', appendP P h t_S_S_bool v u = some (v', h') ∧ Holds h0 h' (L.set i (.own v' 1 ((xs ++ ys).map encV))) ∧ Keeps (rowV v) h h' := by
  obtain ⟨v', h', g1, g2, g3⟩ := H.app (P := P) i hi u_S_S_bool e_t_S_bool z_t_S_bool s_t_S_bool (by omega) (by rw [b_t_S_bool]; omega) s (ones_NB ys hone) (by rw [b_t_S_bool]; simp; omega)
  rw [← List.map_append] at g2
  exact ⟨v', h', g1, g2, g3⟩
theorem put_NB {h0 h : Hp} {L : List Asn} (H : Holds h0 h L) (i : Nat) {v : Value} {xs : List (Value)} (hi : L[i]? = some (.own v 1 (xs.map encV))) {j : Nat} (hj : j < xs.length) (x : Value) (hone : one x = true) :
    ∃ h', storeP P h t_S_bool (x) (.pointer (some (addP (base v) (j)))) = some h' ∧ Holds h0 h' (L.set i (.own v 1 ((xs.set j x).map encV))) ∧ Keeps (rowV v) h h' := by
  have := H.put (P := P) i (t := t_S_bool) (w := x) (j := j) hi i_S_bool (by simpa using hj) (by cases x <;> first | rfl | cases hone) (by cases x <;> first | rfl | cases hone)
  rw [show (x : Value).cells.toList = [x] by cases x <;> first | rfl | cases hone] at this
  simpa [List.map_set, encV] using this
theorem makeN_NB {h0 h : Hp} {L : List Asn} (H : Holds h0 h L) {n : Nat} (hn : n ≤ 2 ^ 40) :
    ∃ v h', makeP P h t_S_S_bool (.int .i64 n) (.int .i64 n) = some (v, h') ∧ Holds h0 h' (L ++ [.own v 1 ((List.replicate n (Value.slice none 0 0)).map encV)]) ∧ h <+: h' ∧ (∃ oa, v = .slice oa n n) := by
  have mk := make_eq (h := h) u_S_S_bool e_t_S_bool z_t_S_bool rfl (by rw [s_t_S_bool]; omega) (by rw [b_t_S_bool]; omega) (n := n) (by omega) (by rw [b_t_S_bool]; omega)
  rw [s_t_S_bool] at mk
  simp only [Value.cells] at mk
  have hlz : ∀ e ∈ List.replicate n ([.slice none 0 0] : List Value), e.length = 1 := fun e he => by rw [List.eq_of_mem_replicate he]; rfl
  refine ⟨_, _, mk, ?_, List.prefix_append .., _, rfl⟩
  have := H.lit (els := List.replicate n ([.slice none 0 0] : List Value)) (sz := 1) (n := n * 1) hlz (by simp)
  simpa [encV] using this
end Go.Pm.PP

/- List plans: what is asked of jobs and of pairs of a precedence, by both. -/
set_option linter.unusedVariables false
set_option linter.unusedSimpArgs false
set_option maxRecDepth 4000
set_option maxHeartbeats 4000000
namespace Go.Pm.PP
open Go.Pm Go.Proofs Go.Pm.LP
theorem isDate_run {h : Hp} {x : Int} : Ret P G n_impl_isDate [.int .i64 x] h (.bool (inB x 0 500)) h := by
  refine enter_run e_impl_isDate (by simp) ?_
  simp -implicitDefEqProofs [CL_ret within_run]
def jobOk (j : Job) : Bool := inB j.t 1 50 && inB j.w 0 50 && inB j.r 0 500 && inB j.d 0 500
theorem jobOk_eq (j : Job) : jobOk j = (inB j.t 1 50 && inB j.w 0 50 && inB j.r 0 500 && inB j.d 0 500) := rfl
theorem l2Job_run {h : Hp} {j : Job} : Ret P G n_spec_l2Job [jv j] h (.bool (jobOk j)) h := by
  refine enter_run e_spec_l2Job (by simp) ?_
  cases h1 : inB j.t 1 50 <;> cases h2 : inB j.w 0 50 <;> cases h3 : inB j.r 0 500 <;> cases h4 : inB j.d 0 500 <;>
    simp -implicitDefEqProofs [CL_ret l1In_run, h1, h2, h3, h4, jobOk]
def goodL (js : List Job) : Bool := js.all jobOk
theorem goodL_cons {j : Job} {js : List Job} : goodL (j :: js) = (jobOk j && goodL js) := rfl
theorem goodL_nil : goodL [] = true := rfl
theorem l2Good_run {h : Hp} {v : Value} {js : List Job} (hv : Jobs h v js) (hn : js.length ≤ 2 ^ 40) :
    Ret P G n_spec_l2Good [v] h (.bool (decide (js.length ≤ 8) && goodL js)) h := by
  refine enter_run e_spec_l2Good (by simp) ?_
  obtain ⟨oa, c, rfl⟩ := hv.shapeT
  simp -implicitDefEqProofs
  refine R_loopO (fun n s h' => ∃ i : Nat, i + n = js.length ∧ s = [(0, .slice oa js.length c), (3, .int .i64 i)] ∧ h' = h ∧ goodL js = goodL (js.drop i)) (fun I hI n s h' => ?_) ⟨0, Nat.zero_add _, by simp⟩
  rintro ⟨i, hi, rfl, rfl, hx⟩
  by_cases hlt : i < js.length
  · obtain ⟨y, hy, hd⟩ := drop_at hlt
    rw [hd, goodL_cons] at hx
    cases c1 : jobOk y
    · rw [c1, Bool.false_and] at hx
      simp -implicitDefEqProofs [-indexAddrP_some, hlt, load_J hv hy, CL_ret l2Job_run, c1, hx]
    · rw [c1, Bool.true_and] at hx
      simp -implicitDefEqProofs [-indexAddrP_some, hlt, load_J hv hy, CL_ret l2Job_run, c1, winc hlt hn]
      exact ⟨n - 1, by omega, on hI ⟨i + 1, by omega, rfl, rfl, hx⟩⟩
  · rw [List.drop_eq_nil_of_le (by omega), goodL_nil] at hx
    simp -implicitDefEqProofs [hlt, hx]
    try omega
theorem IsJobs_run {h : Hp} {v : Value} {js : List Job} (hv : Jobs h v js) (hn : js.length ≤ 2 ^ 40) :
    Ret P G n_impl_IsJobs [v] h (.bool (decide (js.length ≤ 8) && goodL js)) h := by
  refine enter_run e_impl_IsJobs (by simp) ?_
  obtain ⟨oa, c, rfl⟩ := hv.shapeT
  simp -implicitDefEqProofs
  refine CB_split (fun h => ?_) (fun h => ?_)
  · simp at h
    simp -implicitDefEqProofs [show ¬ js.length ≤ 8 by omega]
  · have h8 : js.length ≤ 8 := by simp at h; omega
    simp -implicitDefEqProofs [h8]
    rename_i h0
    refine R_loop (fun n s h' => ∃ i : Nat, i + n = js.length ∧ s = [(8, .slice oa js.length c), (9, .int .i64 js.length), (10, .int .i64 i)] ∧ h0 <+: h' ∧ goodL js = goodL (js.drop i)) (fun n s h' => ?_) ⟨0, Nat.zero_add _, by simp⟩
    rintro ⟨i, hi, rfl, hp, hx⟩
    have hv' := hv.pre hp
    by_cases hlt : i < js.length
    · obtain ⟨y, hy, hd⟩ := drop_at hlt
      rw [hd, goodL_cons, jobOk_eq] at hx
      cases h1 : inB y.t 1 50 <;> cases h2 : inB y.w 0 50 <;> cases h3 : inB y.r 0 500 <;> cases h4 : inB y.d 0 500 <;>
        (rw [h1, h2, h3, h4] at hx; simp -implicitDefEqProofs [-indexAddrP_some, hlt, load_J hv' hy, CL_ret within_run, CL_ret isDate_run, h1, h2, h3, h4, winc hlt hn])
      all_goals first
        | (simp at hx; simp -implicitDefEqProofs [hx, gcB' hp]; done)
        | exact ⟨n - 1, by omega, i + 1, by omega, rfl, hp.trans (List.prefix_append ..), by simpa using hx⟩
    · rw [List.drop_eq_nil_of_le (by omega), goodL_nil] at hx
      simp -implicitDefEqProofs [hlt, hx, gcB hp]
def plainL (js : List Job) : Bool := js.all fun j => j.r == 0
theorem plainL_cons {j : Job} {js : List Job} : plainL (j :: js) = ((j.r == 0) && plainL js) := rfl
theorem plainL_nil : plainL [] = true := rfl
theorem l3Plain_run {h : Hp} {v : Value} {js : List Job} (hv : Jobs h v js) (hn : js.length ≤ 2 ^ 40) :
    Ret P G n_spec_l3Plain [v] h (.bool (plainL js)) h := by
  refine enter_run e_spec_l3Plain (by simp) ?_
  obtain ⟨oa, c, rfl⟩ := hv.shapeT
  simp -implicitDefEqProofs
  refine R_loopO (fun n s h' => ∃ i : Nat, i + n = js.length ∧ s = [(0, .slice oa js.length c), (3, .int .i64 i)] ∧ h' = h ∧ plainL js = plainL (js.drop i)) (fun I hI n s h' => ?_) ⟨0, Nat.zero_add _, by simp⟩
  rintro ⟨i, hi, rfl, rfl, hx⟩
  by_cases hlt : i < js.length
  · obtain ⟨y, hy, hd⟩ := drop_at hlt
    rw [hd, plainL_cons] at hx
    by_cases c1 : y.r = 0
    · rw [c1, beq_self_eq_true, Bool.true_and] at hx
      simp -implicitDefEqProofs [-indexAddrP_some, hlt, load_J hv hy, c1, winc hlt hn]
      exact ⟨n - 1, by omega, on hI ⟨i + 1, by omega, rfl, rfl, hx⟩⟩
    · rw [nb c1, Bool.false_and] at hx
      simp -implicitDefEqProofs [-indexAddrP_some, hlt, load_J hv hy, nt c1, hx]
  · rw [List.drop_eq_nil_of_le (by omega), plainL_nil] at hx
    simp -implicitDefEqProofs [hlt, hx]
theorem isPlain_run {h : Hp} {v : Value} {js : List Job} (hv : Jobs h v js) (hn : js.length ≤ 2 ^ 40) :
    Ret P G n_impl_isPlain [v] h (.bool (plainL js)) h := by
  refine enter_run e_impl_isPlain (by simp) ?_
  obtain ⟨oa, c, rfl⟩ := hv.shapeT
  simp -implicitDefEqProofs
  refine R_loop (fun n s h' => ∃ i : Nat, i + n = js.length ∧ s = [(5, .slice oa js.length c), (6, .int .i64 js.length), (7, .int .i64 i)] ∧ h <+: h' ∧ plainL js = plainL (js.drop i)) (fun n s h' => ?_) ⟨0, Nat.zero_add _, by simp⟩
  rintro ⟨i, hi, rfl, hp, hx⟩
  have hv' := hv.pre hp
  by_cases hlt : i < js.length
  · obtain ⟨y, hy, hd⟩ := drop_at hlt
    rw [hd, plainL_cons] at hx
    simp -implicitDefEqProofs [-indexAddrP_some, hlt, load_J hv' hy]
    refine CB_split (fun h => ?_) (fun h => ?_)
    · simp at h
      simp -implicitDefEqProofs [hx, h, gcB' hp]
    · rw [show (y.r == 0) = true by simpa using h, Bool.true_and] at hx
      simp -implicitDefEqProofs [winc hlt hn]
      exact ⟨n - 1, by omega, i + 1, by omega, rfl, hp.trans (List.prefix_append ..), hx⟩
  · rw [List.drop_eq_nil_of_le (by omega), plainL_nil] at hx
    simp -implicitDefEqProofs [hlt, hx, gcB hp]
theorem IsPlain_run {h : Hp} {v : Value} {js : List Job} (hv : Jobs h v js) (hn : js.length ≤ 2 ^ 40) :
    Ret P G n_impl_IsPlain [v] h (.bool (decide (js.length ≤ 8) && goodL js && plainL js)) h := by
  refine enter_run e_impl_IsPlain (by simp) ?_
  cases h1 : (decide (js.length ≤ 8) && goodL js) <;>
    simp -implicitDefEqProofs [CL_ret (IsJobs_run hv hn), CL_ret (isPlain_run hv hn), h1]
/-! ### pairs -/
def befP (a b : Int × Int) : Bool := decide (a.1 < b.1) || (a.1 == b.1 && decide (a.2 < b.2))
theorem l4Before_run {h : Hp} {a b : Int × Int} : Ret P G n_spec_l4Before [qv a, qv b] h (.bool (befP a b)) h := by
  refine enter_run e_spec_l4Before (by simp) ?_
  obtain ⟨a1, a2⟩ := a
  obtain ⟨b1, b2⟩ := b
  by_cases c1 : a1 < b1
  · simp -implicitDefEqProofs [c1, befP]
  · by_cases c2 : a1 = b1
    · subst c2
      simp -implicitDefEqProofs [befP]
    · simp -implicitDefEqProofs [c1, nb c2, befP]
def pairOk (n : Nat) (x : Int × Int) : Bool := inB x.1 0 ((n : Int) - 1) && inB x.2 0 ((n : Int) - 1) && !(x.1 == x.2)
def aft (p : Option (Int × Int)) (x : Int × Int) : Bool := match p with
  | none => true
  | some q => befP q x
def prs (n : Nat) : Option (Int × Int) → List (Int × Int) → Bool
  | _, [] => true
  | p, x :: r => pairOk n x && aft p x && prs n (some x) r
def prv (es : List (Int × Int)) : Nat → Option (Int × Int)
  | 0 => none
  | i + 1 => es[i]?
theorem l4Pairs_run {h : Hp} {v : Value} {n : Nat} {es : List (Int × Int)} (hv : Prs h v es) (hn : es.length ≤ 2 ^ 40) (h8 : n ≤ 8) :
    Ret P G n_spec_l4Pairs [.int .i64 n, v] h (.bool (decide (es.length ≤ 28) && prs n none es)) h := by
  refine enter_run e_spec_l4Pairs (by simp) ?_
  obtain ⟨oa, c, rfl⟩ := hv.shapeT
  have wn : IntKind.i64.wrap ((n : Int) - 1) = (n : Int) - 1 := by rw [wrap_ok] <;> omega
  simp -implicitDefEqProofs
  refine R_loopO (fun m s h' => ∃ i : Nat, i + m = es.length ∧ s = [(0, .int .i64 n), (1, .slice oa es.length c), (5, .int .i64 i)] ∧ h' = h ∧ prs n none es = prs n (prv es i) (es.drop i)) (fun I hI m s h' => ?_) ⟨0, Nat.zero_add _, by simp, rfl, rfl⟩
  rintro ⟨i, hi, rfl, rfl, hx⟩
  by_cases hlt : i < es.length
  · obtain ⟨y, hy, hd⟩ := drop_at hlt
    rw [hd, prs] at hx
    cases c1 : inB y.1 0 ((n : Int) - 1)
    · simp only [pairOk, c1, Bool.false_and] at hx
      simp -implicitDefEqProofs [-indexAddrP_some, hlt, load_Q hv hy, wn, CL_ret l1In_run, CH_ret l1In_run, c1, hx]
    cases c2 : inB y.2 0 ((n : Int) - 1)
    · simp only [pairOk, c1, c2, Bool.false_and, Bool.and_false] at hx
      simp -implicitDefEqProofs [-indexAddrP_some, hlt, load_Q hv hy, wn, CL_ret l1In_run, CH_ret l1In_run, c1, c2, hx]
    cases c3 : (y.1 == y.2)
    · cases i with
      | zero =>
        simp only [pairOk, c1, c2, c3, Bool.and_true, Bool.true_and, Bool.not_false, prv, aft] at hx
        have ly := load_Q hv hy
        rw [show ((0 : Nat) : Int) = 0 from rfl, Nat.zero_mul] at ly
        simp -implicitDefEqProofs [-indexAddrP_some, hlt, ly, wn, CL_ret l1In_run, CH_ret l1In_run, c1, c2, c3, winc hlt hn]
        exact ⟨m - 1, by omega, on hI ⟨1, by omega, rfl, rfl, by simpa [prv, hy] using hx⟩⟩
      | succ i =>
        obtain ⟨z, hz, _⟩ := drop_at (show i < es.length by omega)
        have w1 : IntKind.i64.wrap (((i + 1 : Nat) : Int) - 1) = (i : Int) := by rw [wrap_ok] <;> omega
        have w2 : IntKind.i64.wrap (i : Int) = (i : Int) := by rw [wrap_ok] <;> omega
        have g0 : (0 : Int) < (i : Int) + 1 := by omega
        have hlt' : (i : Int) + 1 < es.length := by omega
        have wi := winc hlt hn
        have lz := load_Q hv hz
        have ly := load_Q hv hy
        rw [show ((i + 1 : Nat) : Int) = (i : Int) + 1 from rfl] at ly wi
        cases c4 : befP z y
        · simp only [pairOk, c1, c2, c3, Bool.and_true, Bool.true_and, Bool.not_false, prv, hz, aft, c4, Bool.false_and] at hx
          simp -implicitDefEqProofs [-indexAddrP_some, hlt, hlt', ly, lz, wn, CL_ret l1In_run, CH_ret l1In_run, CL_ret l4Before_run, CH_ret l4Before_run, c1, c2, c3, c4, w1, w2, g0, hx]
        · simp only [pairOk, c1, c2, c3, Bool.and_true, Bool.true_and, Bool.not_false, prv, hz, aft, c4] at hx
          simp -implicitDefEqProofs [-indexAddrP_some, hlt, hlt', ly, lz, wn, CL_ret l1In_run, CH_ret l1In_run, CL_ret l4Before_run, CH_ret l4Before_run, c1, c2, c3, c4, w1, w2, g0, wi]
          exact ⟨m - 1, by omega, on hI ⟨i + 2, by omega, rfl, rfl, by simpa [prv, hy] using hx⟩⟩
    · simp only [pairOk, c1, c2, c3, Bool.and_true, Bool.true_and, Bool.not_true, Bool.false_and] at hx
      simp -implicitDefEqProofs [-indexAddrP_some, hlt, load_Q hv hy, wn, CL_ret l1In_run, CH_ret l1In_run, c1, c2, c3, hx]
  · rw [List.drop_eq_nil_of_le (by omega), prs] at hx
    have c5 : inB (n : Int) 0 8 = true := by simp [inB]; omega
    simp -implicitDefEqProofs [hlt, hx, CL_ret l1In_run, c5]
    try omega
/-! ### orders -/
def allIn (xs : List Int) (n : Nat) : Bool := (List.range n).all fun i => hasL i xs
theorem allIn_false {xs : List Int} {n i : Nat} (hi : i < n) (h : hasL i xs = false) : allIn xs n = false := by
  cases hc : allIn xs n with
  | false => rfl
  | true => have := List.all_eq_true.1 hc i (List.mem_range.2 hi); rw [h] at this; cases this
def l2OrderL (n : Int) (xs : List Int) : Bool := inB n 0 8 && ((xs.length : Int) == n) && allIn xs xs.length
theorem l2Order_run {h : Hp} {v : Value} {xs : List Int} {n : Int} (hv : Ints h v xs) (hn : xs.length ≤ 2 ^ 40) :
    Ret P G n_spec_l2Order [.int .i64 n, v] h (.bool (l2OrderL n xs)) h := by
  refine enter_run e_spec_l2Order (by simp) ?_
  have hvs := hv
  obtain ⟨oa, c, rfl⟩ := hv.shapeT
  cases h1 : inB n 0 8
  · simp -implicitDefEqProofs [CL_ret l1In_run, h1, l2OrderL]
  · by_cases h2 : (xs.length : Int) = n
    · subst h2
      simp -implicitDefEqProofs [CL_ret l1In_run, h1, l2OrderL]
      refine R_loop (fun m s h' => ∃ i : Nat, i + m = xs.length ∧ s = [(0, .int .i64 xs.length), (1, .slice oa xs.length c), (5, .int .i64 i)] ∧ h' = h ∧ ∀ j : Nat, j < i → hasL j xs = true) (fun m s h' => ?_) ⟨0, Nat.zero_add _, by simp⟩
      rintro ⟨i, hi, rfl, rfl, hx⟩
      by_cases hlt : i < xs.length
      · have w0 : IntKind.i64.wrap (i + 1) = ((i : Int) + 1) := by rw [wrap_ok] <;> omega
        cases h3 : hasL i xs
        · simp -implicitDefEqProofs [hlt, CL_ret (l1Has_run hvs hn), h3, allIn_false hlt h3]
        · simp -implicitDefEqProofs [hlt, CL_ret (l1Has_run hvs hn), h3, w0]
          refine ⟨m - 1, by omega, i + 1, by omega, by omega, fun j hj => ?_⟩
          by_cases hji : j = i
          · subst hji; exact h3
          · exact hx j (by omega)
      · have : allIn xs xs.length = true := List.all_eq_true.2 fun j hj => hx j (by have := List.mem_range.1 hj; omega)
        simp -implicitDefEqProofs [hlt, this]
    · simp -implicitDefEqProofs [CL_ret l1In_run, h1, l2OrderL, nb h2, nt h2]
theorem isOrder_run {h : Hp} {v : Value} {xs : List Int} {n : Int} (hv : Ints h v xs) (hn : xs.length ≤ 2 ^ 40) :
    Ret P G n_impl_isOrder [.int .i64 n, v] h (.bool (((xs.length : Int) == n) && arGo n [] xs)) h := by
  refine enter_run e_impl_isOrder (by simp) ?_
  have hvs := hv
  obtain ⟨oa, c, rfl⟩ := hv.shapeT
  cases h1 : ((xs.length : Int) == n) <;>
    simp -implicitDefEqProofs [CL_ret (areDifferent_run hvs hn), h1]
end Go.Pm.PP
