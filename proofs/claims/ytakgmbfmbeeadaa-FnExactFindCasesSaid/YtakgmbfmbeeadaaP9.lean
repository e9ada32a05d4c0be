/- FnExactFindCases in the small machine. -/
import Derived.Test.YtakgmbfmbeeadaaP8

set_option linter.unusedVariables false
set_option linter.unusedSimpArgs false
set_option maxRecDepth 4000
set_option maxHeartbeats 4000000
namespace Go.Pm.PP
open Go.Pm Go.Proofs
theorem law_FindCases {h : Hp} {vj : Value} {js : List Job} {o : Int} (hj : Jobs h vj js) (l1 : js.length < 2 ^ 63) :
    Ret P G n_laws_FnExactFindCases [vj, .int .i64 o] h (.bool true) h := by
  refine enter_run e_laws_FnExactFindCases (by simp) ?_
  have hjs := hj
  obtain ⟨oj, cj, rfl⟩ := hj.shapeT
  have z1 := szJobS_run (left := 1048576) hjs l1 (by omega) (by omega)
  by_cases c1 : szL 1048576 js.length < 0
  · simp -implicitDefEqProofs [CL_ret z1, c1]
  have e1 := szL_ok c1
  have b1 : js.length ≤ 2 ^ 40 := by omega
  obtain ⟨X, hX⟩ : ∃ X, X = casX o js := ⟨_, rfl⟩
  obtain ⟨xs, hxs⟩ : ∃ xs, xs = X.getD [] := ⟨_, rfl⟩
  have xl : xs.length ≤ 2 ^ 40 := by rw [hxs, hX]; exact casX_len.1
  have xt : tot xs ≤ 2 ^ 40 := by rw [hxs, hX]; exact casX_len.2
  have xi : ∀ x ∈ xs, x.length ≤ 2 ^ 40 := fun x hx => Nat.le_trans (tot_mem hx) xt
  have H0 := (Holds.start (h := h)).open
  -- the reference
  simp -implicitDefEqProofs [CL_ret z1, c1]
  refine CL_post (toJobS_run hjs b1) fun v1 h1 C1 => ?_
  simp -implicitDefEqProofs
  refine CL_post (specFindCases_run (o := o) (C1.sees 0 rfl) b1) fun v h3 ⟨p3, w, ev, uw, lw, CW⟩ => ?_
  subst ev
  rw [← hX, ← hxs] at CW lw
  rw [← hX]
  obtain ⟨w1, w2, w3, rfl⟩ : ∃ a n c, w = .slice a n c := by obtain ⟨a, c, e⟩ := (CW.sees 0 rfl).shape; exact ⟨_, _, _, e⟩
  have H1 : Holds h h3 ([.own (.slice w1 w2 w3) 1 (uw.map encV)] ++ (inL encI 1 uw xs ++ [])) := Holds.joinT (A := [_]) (M := inL encI 1 uw xs) (H0.ext C1.pre) CW
  -- the copies
  simp -implicitDefEqProofs
  refine CL_post (toJobS_run (hjs.pre H1.pre) b1) fun v4 h4 C4 => ?_
  obtain ⟨x1, x2, x3, rfl⟩ : ∃ a n c, v4 = .slice a n c := by obtain ⟨a, c, e⟩ := (C4.sees 0 rfl).shape; exact ⟨_, _, _, e⟩
  have H2 : Holds h h4 ([.own (.slice w1 w2 w3) 1 (uw.map encV), .own (.slice x1 x2 x3) 4 (js.map encJ)] ++ (inL encI 1 uw xs ++ [])) := Holds.joinT (A := [_]) (M := []) H1 C4
  -- the program
  simp -implicitDefEqProofs
  refine CL_post (FindCases_run (o := o) (H2.sees 1 rfl) b1) fun v h5 ⟨p5, g, ev, ug, lg, CG⟩ => ?_
  subst ev
  rw [← hX, ← hxs] at CG lg
  rw [← hX]
  obtain ⟨g1, g2, g3, rfl⟩ : ∃ a n c, g = .slice a n c := by obtain ⟨a, c, e⟩ := (CG.sees 0 rfl).shape; exact ⟨_, _, _, e⟩
  have H3 : Holds h h5 ([.own (.slice w1 w2 w3) 1 (uw.map encV), .own (.slice x1 x2 x3) 4 (js.map encJ), .own (.slice g1 g2 g3) 1 (ug.map encV)] ++ (inL encI 1 ug xs ++ (inL encI 1 uw xs ++ []))) := Holds.joinT (A := [_]) (M := inL encI 1 ug xs) H2 CG
  have q1 := eqIntSS_run (Holds.nest (o := 2) H3 rfl lg) (Holds.nest (o := 0) H3.swap rfl lw) xl xi
  simp -implicitDefEqProofs [CL_ret q1]
  -- the copies are as they were
  refine CL_post (toJobS_run (hjs.pre H3.pre) b1) fun v6 h6 C6 => ?_
  have H4 := H3.ext C6.pre
  have q2 := eqJobS_run (H4.sees 1 rfl) (C6.sees 0 rfl) b1
  simp -implicitDefEqProofs [CL_ret q2]
  -- marks in the copies
  refine CL_post (markJobS_run (k := 1) H4 1 rfl b1 (by omega) (by omega)) fun r h7 ⟨er, H5⟩ => ?_
  subst er
  have H6 : Holds h h7 ([.own (.slice w1 w2 w3) 1 (uw.map encV), .own (.slice x1 x2 x3) 4 ((marksT mkJ 4 1 js.length).map encJ), .own (.slice g1 g2 g3) 1 (ug.map encV)] ++ (inL encI 1 ug xs ++ (inL encI 1 uw xs ++ []))) := H5
  have q3 := eqIntSS_run (Holds.nest (o := 2) H6 rfl lg) (Holds.nest (o := 0) H6.swap rfl lw) xl xi
  have hk0 : ¬ (1 + 4 * (js.length : Int) < 0) := by omega
  simp -implicitDefEqProofs [hk0, CL_ret q3]
  -- marks in the result
  refine CL_post (markIntSS_run (k := 1) (o := 2) H6 rfl lg xl xt (by omega) (by omega)) fun r h8 ⟨er, H7⟩ => ?_
  subst er
  have lm : ug.length = (marksN mkI 1 1 xs).length := by rw [marksN_len]; exact lg
  have q5 := heldIntSS_run (k := 1) (Holds.nest (o := 2) H7 rfl lm) xl xt (by omega) (by omega)
  have hk1 : ¬ (1 + (tot xs : Int) < 0) := by omega
  simp -implicitDefEqProofs [CL_ret q5, hk1]
  -- once more
  refine CL_post (toJobS_run (hjs.pre H7.pre) b1) fun v9 h9 C9 => ?_
  simp -implicitDefEqProofs
  refine CL_post (FindCases_run (o := o) (C9.sees 0 rfl) b1) fun v h10 ⟨p10, t, ev, ut, lt, CT⟩ => ?_
  subst ev
  rw [← hX, ← hxs] at CT lt
  rw [← hX]
  have H8 := H7.ext (C9.pre.trans p10)
  have q6 := eqIntSS_run (Holds.nest (L1 := [_]) (L2 := []) (o := 0) CT.open rfl lt) (Holds.nest (o := 0) H8.swap rfl lw) xl xi
  have q7 := heldIntSS_run (k := 1) (Holds.nest (o := 2) H8 rfl lm) xl xt (by omega) (by omega)
  simp -implicitDefEqProofs [CL_ret q6, CL_ret q7, hk1]
  exact gcP H8.pre rfl
end Go.Pm.PP
