/- The texts Pd24, Pd25, Pd26, Pd27, Pd13, Pd22 of this work: Acts one after the other: by the program and by the reference. -/
import Derived.Test.YtagofldjmcaalaaRows
import Derived.ProofKit
import Derived.OpenShut
import Derived.Carry
import Derived.Test.YtagofldjmcaalaaP5
import Derived.Test.YtagofldjmcaalaaP4
import Derived.Test.YtagofldjmcaalaaM2
/- Acts one after the other: by the program and by the reference. -/
set_option linter.unusedVariables false
set_option linter.unusedSimpArgs false
set_option maxRecDepth 4000
set_option maxHeartbeats 1000000
namespace Go.Pm.PP
open Go.Pm Go.Proofs
theorem encA_len (xs : List Act) : ∀ e ∈ xs.map encA, e.length = 7 := by
  intro e he
  obtain ⟨x, _, rfl⟩ := List.mem_map.1 he
  rfl
theorem actsL {h : Hp} {v : Value} {i : Nat} {xs : List Act} (hv : Acts h v xs) {x : Act} (hx : xs[i]? = some x) :
    indexAddrP P h t_S_impl_Act v (.int .i64 i) = some (.pointer (some (addP (base v) (i * 7)))) ∧ loadP P h t_impl_Act (.pointer (some (addP (base v) (i * 7)))) = some (av x) := by
  have hi := (List.getElem?_eq_some_iff.1 hx).1
  have h1 := hv.indexT (P := P) u_S_impl_Act i_impl_Act (k := .i64) (j := i) (by omega) (by omega)
  exact ⟨by simpa using h1, hv.aggT (P := P) a_impl_Act i_impl_Act hx⟩
def playD (d : Disp) (xs : List Act) : Disp × Nat := if goodD d = true then playGo d 0 xs else (zD, 0)
theorem PlayActs_run {h : Hp} {vj vt va : Value} {d : Disp} {xs : List Act} (o : DOk h vj vt d) (ha : Acts h va xs) (hn : xs.length ≤ 2 ^ 40) :
    RunsC P G n_impl_PlayActs [dv d vj vt, va] h fun v h' => h <+: h' ∧ ∃ vj' vt', v = .tuple #[dv (playD d xs).1 vj' vt', .int .i64 (playD d xs).2, .bool (goodD d)] ∧ DSt h.length h' vj' vt' (playD d xs).1 := by
  refine enter_run e_impl_PlayActs (by simp) ?_
  have os := o
  have has := ha
  obtain ⟨⟨oj, cj, ej⟩, ot, ct, et⟩ := o.shapes
  subst ej; subst et
  obtain ⟨oa, ca, rfl⟩ := ha.shapeT
  have r1 := fun l => IsDispatcher_run (os.ext l)
  cases hg : goodD d
  · have hx : playD d xs = (zD, 0) := by rw [playD, hg]; rfl
    have hg' : goodI d = false := by rw [← goodDI]; exact hg
    simp -implicitDefEqProofs [CL_ret (r1 _), hg', hx]
    rw [gc_np (by simp [plain, plainC])]
    exact ⟨List.prefix_append .., _, _, ⟨rfl, rfl, rfl, rfl, rfl⟩, zD_st⟩
  · have hx : playD d xs = playGo d 0 xs := by rw [playD, if_pos hg]
    have hg' : goodI d = true := by rw [← goodDI]; exact hg
    simp -implicitDefEqProofs [CL_ret (r1 _), hg']
    refine CL_post (Down_run (os.ext _)) fun v h1 hv => ?_
    obtain ⟨hp1, vj1, vt1, rfl, D1⟩ := hv
    have b4 := boxP1 hp1
    have p1 : h <+: h1 := (List.prefix_append ..).trans hp1
    have hl1 := hp1.length_le
    simp at hl1
    obtain ⟨⟨oj1, cj1, ej⟩, ot1, ct1, et⟩ := D1.ok.shapes
    subst ej; subst et
    have b7 : BoxAt (h1 ++ [some ⟨[.int .i64 d.m, .int .i64 d.p, .int .i64 d.now, .slice oj1 d.js.length cj1, .slice ot1 d.ts.length ct1], 0, false⟩]) h1.length [.int .i64 d.m, .int .i64 d.p, .int .i64 d.now, .slice oj1 d.js.length cj1, .slice ot1 d.ts.length ct1] := boxP List.prefix_rfl
    have q1 : h1 <+: (h1 ++ [some ⟨[.int .i64 d.m, .int .i64 d.p, .int .i64 d.now, .slice oj1 d.js.length cj1, .slice ot1 d.ts.length ct1], 0, false⟩]) := List.prefix_append ..
    have p2 := p1.trans q1
    have D2 : DSt h.length _ _ _ d := (D1.low (by simp)).pre q1
    have b44 := b4.pre q1
    have hl2 := p2.length_le
    simp -implicitDefEqProofs
    refine R_loop (fun m s h' => ∃ (k : Nat) (y : Disp) (oy oz : Option Addr) (cy cz : Nat), k + m = xs.length ∧ s = [(1, .slice oa xs.length ca), (4, .pointer (some ⟨h.length + 1, 0, some 5⟩)), (7, .pointer (some ⟨h1.length, 0, some 5⟩)), (18, .slice oa xs.length ca), (19, .int .i64 xs.length), (20, .int .i64 k)] ∧ h <+: h' ∧
      BoxAt h' h1.length [.int .i64 y.m, .int .i64 y.p, .int .i64 y.now, .slice oy y.js.length cy, .slice oz y.ts.length cz] ∧ BoxAt h' (h.length + 1) [.int .i64 0, .int .i64 0, .int .i64 0, .slice none 0 0, .slice none 0 0] ∧ DSt h.length h' (.slice oy y.js.length cy) (.slice oz y.ts.length cz) y ∧ goodD y = true ∧ playGo d 0 xs = playGo y k (xs.drop k)) (fun m s h' => ?_)
      ⟨0, d, oj1, ot1, cj1, ct1, Nat.zero_add _, by simp, p2, b7, b44, D2, hg, by simp⟩
    rintro ⟨k, y, oy, oz, cy, cz, hk, rfl, hp, b7, b4, D, hgy, hpl⟩
    have hlp := hp.length_le
    have hs := has.pre hp
    by_cases hlt : k < xs.length
    · obtain ⟨x, hxk, hd⟩ := drop_at hlt
      rw [hd, playGo] at hpl
      have q9 : h' <+: (h' ++ [some ⟨[.int .i64 x.k, .int .i64 x.a, .int .i64 x.b, .int .i64 x.job.t, .int .i64 x.job.w, .int .i64 x.job.r, .int .i64 x.job.d], 0, false⟩]) := List.prefix_append ..
      have b9 : BoxAt (h' ++ [some ⟨[.int .i64 x.k, .int .i64 x.a, .int .i64 x.b, .int .i64 x.job.t, .int .i64 x.job.w, .int .i64 x.job.r, .int .i64 x.job.d], 0, false⟩]) h'.length [.int .i64 x.k, .int .i64 x.a, .int .i64 x.b, .int .i64 x.job.t, .int .i64 x.job.w, .int .i64 x.job.r, .int .i64 x.job.d] := boxP List.prefix_rfl
      have b79 := b7.pre q9
      have b49 := b4.pre q9
      have D9 := D.pre q9
      simp -implicitDefEqProofs [hlt, actsL hs hxk, dbox b79, abox b9]
      refine CL_post (acted_run (x := x) D9.ok (goodD_facts hgy) (by have := goodD_ts hgy; omega)) fun v h2 hv => ?_
      obtain ⟨hp2, vj2, vt2, rfl, E⟩ := hv
      rw [act_eq hgy] at E ⊢
      have p92 : h' <+: h2 := q9.trans hp2
      have hl9 := q9.length_le
      have hl92 := p92.length_le
      have b72 := b79.pre hp2
      have b42 := b49.pre hp2
      have D2 := D9.pre hp2
      obtain ⟨oa5, n5, c5, rfl⟩ : ∃ oa n c, vj2 = .slice oa n c := by obtain ⟨oa, c, e⟩ := E.j.sees.shapeT; exact ⟨_, _, _, e⟩
      obtain ⟨oa6, n6, c6, rfl⟩ : ∃ oa n c, vt2 = .slice oa n c := by obtain ⟨oa, c, e⟩ := E.t.sees.shapeT; exact ⟨_, _, _, e⟩
      cases hr : actR y x with
      | none =>
        rw [hr] at hpl
        simp only at hpl
        have q3 := List.prefix_append h2 [some (⟨[.int .i64 0, .int .i64 0, .int .i64 0, .slice oa5 n5 c5, .slice oa6 n6 c6], 0, false⟩ : Row)]
        obtain ⟨h8, hs8, b8, k8⟩ := dset_all (m' := y.m) (p' := y.p) (w' := y.now) (oj := oy) (nj := y.js.length) (cj := cy) (ot := oz) (nt := y.ts.length) (ct := cz) (b42.pre q3)
        have p8 : h <+: h8 := k8.pre (hp.trans (p92.trans q3)) (fun j hj => by cases hj; omega)
        simp -implicitDefEqProofs [hr, zD, dbox (b72.pre q3), hs8, dbox b8, hx, hpl]

        rw [gc_np (by simp [plain, plainC])]
        exact ⟨p8, _, _, ⟨rfl, rfl⟩, (D2.j.pre q3).keepsB (b42.pre q3) k8 (by omega), (D2.t.pre q3).keepsB (b42.pre q3) k8 (by omega), D.jn, D.tn⟩
      | some z =>
        rw [hr] at hpl E
        simp only [Option.getD_some] at hpl E
        have hgz := actR_good hr
        obtain ⟨⟨oj5, cj5, e5⟩, ot5, ct5, e6⟩ := E.ok.shapes
        obtain ⟨rfl, rfl, rfl⟩ : oa5 = oj5 ∧ n5 = z.js.length ∧ c5 = cj5 := by simpa using e5
        obtain ⟨rfl, rfl, rfl⟩ : oa6 = ot5 ∧ n6 = z.ts.length ∧ c6 = ct5 := by simpa using e6
        have q3 := List.prefix_append h2 [some (⟨[.int .i64 z.m, .int .i64 z.p, .int .i64 z.now, .slice oa5 z.js.length c5, .slice oa6 z.ts.length c6], 0, false⟩ : Row)]
        have b10 : BoxAt (h2 ++ [some ⟨[.int .i64 z.m, .int .i64 z.p, .int .i64 z.now, .slice oa5 z.js.length c5, .slice oa6 z.ts.length c6], 0, false⟩]) h2.length [.int .i64 z.m, .int .i64 z.p, .int .i64 z.now, .slice oa5 z.js.length c5, .slice oa6 z.ts.length c6] := boxP List.prefix_rfl
        obtain ⟨h8, hs8, b8, k8⟩ := dset_all (m' := z.m) (p' := z.p) (w' := z.now) (oj := oa5) (nj := z.js.length) (cj := c5) (ot := oa6) (nt := z.ts.length) (ct := c6) (b72.pre q3)
        have hl1' := p1.length_le
        have p8 : h <+: h8 := k8.pre (hp.trans (p92.trans q3)) (fun j hj => by cases hj; omega)
        have E2 := E.pre q3
        simp -implicitDefEqProofs [hr, dbox b10, hs8, winc hlt hn]
        exact ⟨m - 1, by omega, k + 1, by omega, by simp, p8, z, oa5, oa6, c5, c6, b8, (b42.pre q3).keepsB k8 (by omega), ⟨(E2.j.keepsB (b72.pre q3) k8 (by omega)).low (by omega), (E2.t.keepsB (b72.pre q3) k8 (by omega)).low (by omega), E.jn, E.tn⟩, hgz, hpl⟩
    · rw [List.drop_eq_nil_of_le (by omega), playGo] at hpl
      have hk2 : k = xs.length := by omega
      subst hk2
      obtain ⟨h8, hs8, b8, k8⟩ := dset_all (m' := y.m) (p' := y.p) (w' := y.now) (oj := oy) (nj := y.js.length) (cj := cy) (ot := oz) (nt := y.ts.length) (ct := cz) b4
      have p8 : h <+: h8 := k8.pre hp (fun j hj => by cases hj; omega)
      simp -implicitDefEqProofs [hlt, dbox b7, hs8, dbox b8, hx, hpl]
      rw [gc_np (by simp [plain, plainC])]
      exact ⟨p8, _, _, ⟨rfl, rfl⟩, D.j.keepsB b4 k8 (by omega), D.t.keepsB b4 k8 (by omega), D.jn, D.tn⟩
theorem specPlayActs_run {h : Hp} {vj vt va : Value} {d : Disp} {xs : List Act} (o : DOk h vj vt d) (ha : Acts h va xs) (hn : xs.length ≤ 2 ^ 40) :
    RunsC P G n_spec_PlayActs [dv d vj vt, va] h fun v h' => h <+: h' ∧ ∃ vj' vt', v = .tuple #[dv (playD d xs).1 vj' vt', .int .i64 (playD d xs).2, .bool (goodD d)] ∧ DSt h.length h' vj' vt' (playD d xs).1 := by
  refine enter_run e_spec_PlayActs (by simp) ?_
  have os := o
  have has := ha
  obtain ⟨⟨oj, cj, ej⟩, ot, ct, et⟩ := o.shapes
  subst ej; subst et
  obtain ⟨oa, ca, rfl⟩ := ha.shapeT
  have r1 := fun l => l12Good_run (os.ext l)
  cases hg : goodD d
  · have hx : playD d xs = (zD, 0) := by rw [playD, hg]; rfl
    simp -implicitDefEqProofs [CL_ret (r1 _), hg, hx]
    rw [gc_np (by simp [plain, plainC])]
    exact ⟨List.prefix_append .., _, _, ⟨rfl, rfl, rfl, rfl, rfl⟩, zD_st⟩
  · have hx : playD d xs = playGo d 0 xs := by rw [playD, if_pos hg]
    simp -implicitDefEqProofs [CL_ret (r1 _), hg]
    refine CL_post (l12Own_run (os.ext _)) fun v h1 hv => ?_
    obtain ⟨hp1, vj1, vt1, rfl, D1⟩ := hv
    have b4 := boxP1 hp1
    have p1 : h <+: h1 := (List.prefix_append ..).trans hp1
    have hl1 := hp1.length_le
    simp at hl1
    obtain ⟨⟨oj1, cj1, ej⟩, ot1, ct1, et⟩ := D1.ok.shapes
    subst ej; subst et
    have b7 : BoxAt (h1 ++ [some ⟨[.int .i64 d.m, .int .i64 d.p, .int .i64 d.now, .slice oj1 d.js.length cj1, .slice ot1 d.ts.length ct1], 0, false⟩]) h1.length [.int .i64 d.m, .int .i64 d.p, .int .i64 d.now, .slice oj1 d.js.length cj1, .slice ot1 d.ts.length ct1] := boxP List.prefix_rfl
    have q1 : h1 <+: (h1 ++ [some ⟨[.int .i64 d.m, .int .i64 d.p, .int .i64 d.now, .slice oj1 d.js.length cj1, .slice ot1 d.ts.length ct1], 0, false⟩]) := List.prefix_append ..
    have p2 := p1.trans q1
    have D2 : DSt h.length _ _ _ d := (D1.low (by simp)).pre q1
    have b44 := b4.pre q1
    have hl2 := p2.length_le
    simp -implicitDefEqProofs
    refine R_loop (fun m s h' => ∃ (k : Nat) (y : Disp) (oy oz : Option Addr) (cy cz : Nat), k + m = xs.length ∧ s = [(1, .slice oa xs.length ca), (4, .pointer (some ⟨h.length + 1, 0, some 5⟩)), (7, .pointer (some ⟨h1.length, 0, some 5⟩)), (8, .int .i64 k)] ∧ h <+: h' ∧
      BoxAt h' h1.length [.int .i64 y.m, .int .i64 y.p, .int .i64 y.now, .slice oy y.js.length cy, .slice oz y.ts.length cz] ∧ BoxAt h' (h.length + 1) [.int .i64 0, .int .i64 0, .int .i64 0, .slice none 0 0, .slice none 0 0] ∧ DSt h.length h' (.slice oy y.js.length cy) (.slice oz y.ts.length cz) y ∧ goodD y = true ∧ playGo d 0 xs = playGo y k (xs.drop k)) (fun m s h' => ?_)
      ⟨0, d, oj1, ot1, cj1, ct1, Nat.zero_add _, by simp, p2, b7, b44, D2, hg, by simp⟩
    rintro ⟨k, y, oy, oz, cy, cz, hk, rfl, hp, b7, b4, D, hgy, hpl⟩
    have hlp := hp.length_le
    have hs := has.pre hp
    by_cases hlt : k < xs.length
    · obtain ⟨x, hxk, hd⟩ := drop_at hlt
      rw [hd, playGo] at hpl
      simp -implicitDefEqProofs [hlt, actsL hs hxk, dbox b7]
      refine CH_post (l12Act_run (x := x) D.ok (goodD_facts hgy) (by have := goodD_ts hgy; omega)).new fun v h2 hv => ?_
      obtain ⟨⟨p92, vj2, vt2, rfl, E⟩, hnew⟩ := hv
      refine ⟨hnew p92, ?_⟩
      have hl92 := p92.length_le
      have b72 := b7.pre p92
      have b42 := b4.pre p92
      have D2 := D.pre p92
      obtain ⟨oa5, n5, c5, rfl⟩ : ∃ oa n c, vj2 = .slice oa n c := by obtain ⟨oa, c, e⟩ := E.j.sees.shapeT; exact ⟨_, _, _, e⟩
      obtain ⟨oa6, n6, c6, rfl⟩ : ∃ oa n c, vt2 = .slice oa n c := by obtain ⟨oa, c, e⟩ := E.t.sees.shapeT; exact ⟨_, _, _, e⟩
      cases hr : actR y x with
      | none =>
        rw [hr] at hpl
        simp only at hpl
        have q3 := List.prefix_append h2 [some (⟨[.int .i64 0, .int .i64 0, .int .i64 0, .slice oa5 n5 c5, .slice oa6 n6 c6], 0, false⟩ : Row)]
        obtain ⟨h8, hs8, b8, k8⟩ := dset_all (m' := y.m) (p' := y.p) (w' := y.now) (oj := oy) (nj := y.js.length) (cj := cy) (ot := oz) (nt := y.ts.length) (ct := cz) (b42.pre q3)
        have p8 : h <+: h8 := k8.pre (hp.trans (p92.trans q3)) (fun j hj => by cases hj; omega)
        simp -implicitDefEqProofs [hr, zD, dbox (b72.pre q3), hs8, dbox b8, hx, hpl]

        rw [gc_np (by simp [plain, plainC])]
        exact ⟨p8, _, _, ⟨rfl, rfl⟩, (D2.j.pre q3).keepsB (b42.pre q3) k8 (by omega), (D2.t.pre q3).keepsB (b42.pre q3) k8 (by omega), D.jn, D.tn⟩
      | some z =>
        rw [hr] at hpl E
        simp only [Option.getD_some] at hpl E
        have hgz := actR_good hr
        obtain ⟨⟨oj5, cj5, e5⟩, ot5, ct5, e6⟩ := E.ok.shapes
        obtain ⟨rfl, rfl, rfl⟩ : oa5 = oj5 ∧ n5 = z.js.length ∧ c5 = cj5 := by simpa using e5
        obtain ⟨rfl, rfl, rfl⟩ : oa6 = ot5 ∧ n6 = z.ts.length ∧ c6 = ct5 := by simpa using e6
        have q3 := List.prefix_append h2 [some (⟨[.int .i64 z.m, .int .i64 z.p, .int .i64 z.now, .slice oa5 z.js.length c5, .slice oa6 z.ts.length c6], 0, false⟩ : Row)]
        have b10 : BoxAt (h2 ++ [some ⟨[.int .i64 z.m, .int .i64 z.p, .int .i64 z.now, .slice oa5 z.js.length c5, .slice oa6 z.ts.length c6], 0, false⟩]) h2.length [.int .i64 z.m, .int .i64 z.p, .int .i64 z.now, .slice oa5 z.js.length c5, .slice oa6 z.ts.length c6] := boxP List.prefix_rfl
        obtain ⟨h8, hs8, b8, k8⟩ := dset_all (m' := z.m) (p' := z.p) (w' := z.now) (oj := oa5) (nj := z.js.length) (cj := c5) (ot := oa6) (nt := z.ts.length) (ct := c6) (b72.pre q3)
        have hl1' := p1.length_le
        have p8 : h <+: h8 := k8.pre (hp.trans (p92.trans q3)) (fun j hj => by cases hj; omega)
        have E2 := E.pre q3
        simp -implicitDefEqProofs [hr, dbox b10, hs8, winc hlt hn]
        exact ⟨m - 1, by omega, k + 1, by omega, by simp, p8, z, oa5, oa6, c5, c6, b8, (b42.pre q3).keepsB k8 (by omega), ⟨(E2.j.keepsB (b72.pre q3) k8 (by omega)).low (by omega), (E2.t.keepsB (b72.pre q3) k8 (by omega)).low (by omega), E.jn, E.tn⟩, hgz, hpl⟩
    · rw [List.drop_eq_nil_of_le (by omega), playGo] at hpl
      have hk2 : k = xs.length := by omega
      subst hk2
      obtain ⟨h8, hs8, b8, k8⟩ := dset_all (m' := y.m) (p' := y.p) (w' := y.now) (oj := oy) (nj := y.js.length) (cj := cy) (ot := oz) (nt := y.ts.length) (ct := cz) b4
      have p8 : h <+: h8 := k8.pre hp (fun j hj => by cases hj; omega)
      simp -implicitDefEqProofs [hlt, dbox b7, hs8, dbox b8, hx, hpl]
      rw [gc_np (by simp [plain, plainC])]
      exact ⟨p8, _, _, ⟨rfl, rfl⟩, D.j.keepsB b4 k8 (by omega), D.t.keepsB b4 k8 (by omega), D.jn, D.tn⟩
end Go.Pm.PP

/- FnExactPlayActs: the laws' own functions on lists of acts. -/
set_option linter.unusedVariables false
set_option linter.unusedSimpArgs false
set_option maxRecDepth 4000
set_option maxHeartbeats 2000000
namespace Go.Pm.PP
open Go.Pm Go.Proofs
section
variable {b : Nat} {h : Hp} {v : Value} {i : Nat}
theorem lactsL {xs : List Act} (hv : Acts h v xs) {x : Act} (hx : xs[i]? = some x) :
    indexAddrP P h t_S_laws_Act v (.int .i64 i) = some (.pointer (some (addP (base v) (i * 7)))) ∧ loadP P h t_laws_Act (.pointer (some (addP (base v) (i * 7)))) = some (av x) := by
  have hi := (List.getElem?_eq_some_iff.1 hx).1
  have h1 := hv.indexT (P := P) u_S_laws_Act i_laws_Act (k := .i64) (j := i) (by omega) (by omega)
  exact ⟨by simpa using h1, hv.aggT (P := P) a_laws_Act i_laws_Act hx⟩
theorem acts_set {xs : List Act} (o : Own b h v 7 (xs.map encA)) (hi : i < xs.length) (x : Act) :
    ∃ h', storeP P h t_impl_Act (av x) (.pointer (some (addP (base v) (i * 7)))) = some h' ∧ Own b h' v 7 ((xs.set i x).map encA) ∧ Keeps (rowV v) h h' := by
  have := o.store (P := P) (t := t_impl_Act) (w := av x) (i := i) (e := encA xs[i]) (l := []) (m := encA xs[i]) (c := []) e_t_impl_Act (by simp [hi]) (by simp) (by simp [encA]) (by simp) (by simp)
  simpa [List.map_set, encA] using this
end
theorem toActS_run {h : Hp} {v : Value} {xs : List Act} (hv : Acts h v xs) (hn : xs.length ≤ 2 ^ 40) :
    RunsC P G n_laws_toActS [v] h fun v' h' => h <+: h' ∧ Own h.length h' v' 7 (xs.map encA) := by
  refine enter_run e_laws_toActS (by simp) ?_
  have hvs := hv
  obtain ⟨oa, c, rfl⟩ := hv.shapeT
  have mk := make_eq (h := h) u_S_impl_Act e_t_impl_Act z_t_impl_Act rfl (by rw [ti_61_size]; omega) (by rw [ti_61_bytes]; omega) (n := xs.length) (by omega) (by rw [ti_61_bytes]; omega)
  rw [ti_61_size] at mk
  simp only [Value.cells] at mk
  have ow : Own h.length (h ++ [some ⟨(List.replicate xs.length [.int .i64 0, .int .i64 0, .int .i64 0, .int .i64 0, .int .i64 0, .int .i64 0, .int .i64 0]).flatten, 7, false⟩]) (.slice (some ⟨h.length, 0, some (xs.length * 7)⟩) xs.length xs.length) 7 ((List.replicate xs.length (⟨0, 0, 0, ⟨0, 0, 0, 0⟩⟩ : Act)).map encA) := by
    have := Own.fresh (b := h.length) (h := h) (t := []) (els := List.replicate xs.length [.int .i64 0, .int .i64 0, .int .i64 0, .int .i64 0, .int .i64 0, .int .i64 0, .int .i64 0]) (sz := 7) (n := xs.length * 7) (Nat.le_refl _) (fun e he => by rw [List.eq_of_mem_replicate he]; rfl) (by simp)
    simpa [encA] using this
  simp -implicitDefEqProofs [mk]
  refine R_loop (fun m s h' => ∃ i : Nat, i + m = xs.length ∧ s = [(0, .slice oa xs.length c), (3, .slice (some ⟨h.length, 0, some (xs.length * 7)⟩) xs.length xs.length), (4, .int .i64 i)] ∧ h <+: h' ∧
    Own h.length h' (.slice (some ⟨h.length, 0, some (xs.length * 7)⟩) xs.length xs.length) 7 ((xs.take i ++ List.replicate (xs.length - i) (⟨0, 0, 0, ⟨0, 0, 0, 0⟩⟩ : Act)).map encA)) (fun m s h' => ?_) ⟨0, Nat.zero_add _, by simp, List.prefix_append .., by simpa using ow⟩
  rintro ⟨i, hi, rfl, hp, ho⟩
  have hEl : (xs.take i ++ List.replicate (xs.length - i) (⟨0, 0, 0, ⟨0, 0, 0, 0⟩⟩ : Act)).length = xs.length := by simp; omega
  have hv2 := hvs.pre hp
  by_cases hlt : i < xs.length
  · obtain ⟨y, hy, hd⟩ := drop_at hlt
    obtain ⟨h2, hs2, ho2, hk2⟩ := acts_set (i := i) ho (by rw [hEl]; exact hlt) y
    rw [set_next hy] at ho2
    obtain ⟨z, hz, _⟩ := drop_at (show i < (xs.take i ++ List.replicate (xs.length - i) (⟨0, 0, 0, ⟨0, 0, 0, 0⟩⟩ : Act)).length by rw [hEl]; exact hlt)
    have ix := (actsL ho.sees hz).1
    simp -implicitDefEqProofs [-indexAddrP_some, hlt, lactsL hv2 hy, CL_ret toAct_run, ix, hs2, winc hlt hn]
    exact ⟨m - 1, by omega, i + 1, by omega, by omega, hk2.pre hp (fun j hj => ho.row_ge hj), by simpa [List.map_take] using ho2⟩
  · have hi2 : i = xs.length := by omega
    subst hi2
    simp -implicitDefEqProofs [hlt]
    have ho3 : Own h.length h' (.slice (some ⟨h.length, 0, some (xs.length * 7)⟩) xs.length xs.length) 7 (xs.map encA) := by simpa using ho
    exact ho3.ret (Nat.le_refl _) hp
theorem eqAct_run {h : Hp} {x : Act} : Ret P G n_laws_eqAct [av x, av x] h (.bool true) h := by
  refine enter_run e_laws_eqAct (by simp) ?_
  have e1 : ∀ {h0 : Hp} {t w r d : Int}, Ret P G n_laws_eqJob [.agg #[.int .i64 t, .int .i64 w, .int .i64 r, .int .i64 d], .agg #[.int .i64 t, .int .i64 w, .int .i64 r, .int .i64 d]] h0 (.bool true) h0 := fun {h0 t w r d} => eqJob_run (h := h0) (j := ⟨t, w, r, d⟩)
  simp -implicitDefEqProofs [CL_ret e1, CH_ret e1]
theorem eqActS_run {h : Hp} {v u : Value} {xs : List Act} (hv : Acts h v xs) (hu : Acts h u xs) (hn : xs.length ≤ 2 ^ 40) :
    Ret P G n_laws_eqActS [v, u] h (.bool true) h := by
  refine enter_run e_laws_eqActS (by simp) ?_
  have hvs := hv
  have hus := hu
  obtain ⟨oa, c, rfl⟩ := hv.shapeT
  obtain ⟨ob, d, rfl⟩ := hu.shapeT
  simp -implicitDefEqProofs
  refine R_loop (fun m s h' => ∃ i : Nat, i + m = xs.length ∧ s = [(0, .slice oa xs.length c), (1, .slice ob xs.length d), (5, .int .i64 i)] ∧ h' = h) (fun m s h' => ?_) ⟨0, Nat.zero_add _, by simp, rfl⟩
  rintro ⟨i, hi, rfl, rfl⟩
  by_cases hlt : i < xs.length
  · obtain ⟨y, hy, hd⟩ := drop_at hlt
    simp -implicitDefEqProofs [hlt, actsL hvs hy, actsL hus hy, CL_ret eqAct_run, CH_ret eqAct_run, winc hlt hn]
    exact ⟨m - 1, by omega, i + 1, by omega, by omega⟩
  · simp -implicitDefEqProofs [hlt]
theorem szActS_run {h : Hp} {v : Value} {xs : List Act} {left : Int} (hv : Acts h v xs) (hn : xs.length < 2 ^ 63) (h0 : 0 ≤ left) (h1 : left ≤ 2 ^ 20) :
    Ret P G n_laws_szActS [v, .int .i64 left] h (.int .i64 (szL left xs.length)) h := by
  refine enter_run e_laws_szActS (by simp) ?_
  obtain ⟨oj, cj, rfl⟩ := hv.shapeT
  have w : IntKind.i64.wrap (left - xs.length) = left - xs.length := by rw [wrap_ok] <;> omega
  cases h2 : decide (left - (xs.length : Int) < 0) <;> simp -implicitDefEqProofs [w, h2, szL] <;> simp at h2 <;> omega
end Go.Pm.PP

/- FnExactPlayActs: marks in lists of acts. -/
set_option linter.unusedVariables false
set_option linter.unusedSimpArgs false
set_option maxRecDepth 4000
set_option maxHeartbeats 4000000
namespace Go.Pm.PP
open Go.Pm Go.Proofs
theorem act_mark {b : Nat} {h : Hp} {v : Value} {els : List (List Value)} {i : Nat} (o : Own b h v 7 els) (hi : i < els.length) (k : Nat) (hk : k < 7) (x : Int) :
    ∃ h' els', storeP P h t_int (.int .i64 x) (.pointer (some (addP (base v) (i * 7 + k)))) = some h' ∧ els'.length = els.length ∧ Own b h' v 7 els' ∧ Keeps (rowV v) h h' := by
  have hl := o.1 els[i] (List.getElem_mem _)
  obtain ⟨h', h1, h2, h3⟩ := o.store (P := P) (t := t_int) (w := .int .i64 x) (i := i) (e := els[i]) (l := els[i].take k) (m := [els[i][k]]) (c := els[i].drop (k + 1)) e_t_int (by simp [hi])
    (by rw [List.singleton_append, ← List.drop_eq_getElem_cons (by omega), List.take_append_drop]) (by simp) (by simp) (by simp)
  rw [List.length_take, Nat.min_eq_left (by omega)] at h1
  exact ⟨h', _, h1, by simp, h2, h3⟩
theorem act_ix {b : Nat} {h : Hp} {v : Value} {els : List (List Value)} {i : Nat} (o : Own b h v 7 els) (hi : i < els.length) :
    indexAddrP P h t_S_impl_Act v (.int .i64 i) = some (.pointer (some (addP (base v) (i * 7)))) := by
  have := o.sees.index (P := P) u_S_impl_Act i_impl_Act (k := .i64) (j := i) (by omega) (by omega)
  simpa using this
theorem markActS_run {b : Nat} {h : Hp} {v : Value} {xs : List Act} {k0 : Int} (o : Own b h v 7 (xs.map encA)) (hn : xs.length ≤ 2 ^ 40) (h0 : 0 ≤ k0) (h1 : k0 ≤ 2 ^ 50) :
    RunsC P G n_laws_markActS [v, .int .i64 k0] h fun r h' => r = .int .i64 (k0 + 7 * xs.length) ∧ Keeps (rowV v) h h' := by
  refine enter_run e_laws_markActS (by simp) ?_
  have os := o
  obtain ⟨oa, c, ev⟩ := o.sees.shapeT
  subst ev
  simp -implicitDefEqProofs
  refine R_loop (fun m s h' => ∃ (i : Nat) (k : Int) (els : List (List Value)), i + m = xs.length ∧ s = [(0, .slice oa xs.length c), (1, .int .i64 k), (5, .int .i64 i)] ∧ Own b h' (.slice oa xs.length c) 7 els ∧ els.length = xs.length ∧ Keeps (rowV (.slice oa xs.length c)) h h' ∧ k = k0 + 7 * i) (fun m s h' => ?_) ⟨0, k0, xs.map encA, Nat.zero_add _, by simp, os, by simp, .refl, by omega⟩
  rintro ⟨i, k, els, hi, rfl, ho, hl, hk, hx⟩
  by_cases hlt : i < xs.length
  · have w1 : IntKind.i64.wrap (k + 1) = k + 1 := by rw [wrap_ok] <;> omega
    have w2 : IntKind.i64.wrap (k + 1 + 1) = k + 1 + 1 := by rw [wrap_ok] <;> omega
    have w3 : IntKind.i64.wrap (k + 1 + 1 + 1) = k + 1 + 1 + 1 := by rw [wrap_ok] <;> omega
    have w4 : IntKind.i64.wrap (k + 1 + 1 + 1 + 1) = k + 1 + 1 + 1 + 1 := by rw [wrap_ok] <;> omega
    have w5 : IntKind.i64.wrap (k + 1 + 1 + 1 + 1 + 1) = k + 1 + 1 + 1 + 1 + 1 := by rw [wrap_ok] <;> omega
    have w6 : IntKind.i64.wrap (k + 1 + 1 + 1 + 1 + 1 + 1) = k + 1 + 1 + 1 + 1 + 1 + 1 := by rw [wrap_ok] <;> omega
    have w7 : IntKind.i64.wrap (k + 1 + 1 + 1 + 1 + 1 + 1 + 1) = k + 1 + 1 + 1 + 1 + 1 + 1 + 1 := by rw [wrap_ok] <;> omega
    obtain ⟨g1, e1, s1, l1, o1, k1⟩ := act_mark ho (i := i) (by omega) 0 (by omega) k
    obtain ⟨g2, e2, s2, l2, o2, k2⟩ := act_mark o1 (i := i) (by omega) 1 (by omega) (k + 1)
    obtain ⟨g3, e3, s3, l3, o3, k3⟩ := act_mark o2 (i := i) (by omega) 2 (by omega) (k + 1 + 1)
    obtain ⟨g4, e4, s4, l4, o4, k4⟩ := act_mark o3 (i := i) (by omega) 3 (by omega) (k + 1 + 1 + 1)
    obtain ⟨g5, e5, s5, l5, o5, k5⟩ := act_mark o4 (i := i) (by omega) 4 (by omega) (k + 1 + 1 + 1 + 1)
    obtain ⟨g6, e6, s6, l6, o6, k6⟩ := act_mark o5 (i := i) (by omega) 5 (by omega) (k + 1 + 1 + 1 + 1 + 1)
    obtain ⟨g7, e7, s7, l7, o7, k7⟩ := act_mark o6 (i := i) (by omega) 6 (by omega) (k + 1 + 1 + 1 + 1 + 1 + 1)
    rw [Nat.add_zero] at s1
    have a0 : ∀ a n k, addP (addP a n) k = addP a (n + k) := fun a n k => by simp [addP, Nat.add_assoc]
    simp -implicitDefEqProofs [-indexAddrP_some, hlt, a0, Nat.add_assoc, act_ix ho (i := i) (by omega), act_ix o1 (i := i) (by omega), act_ix o2 (i := i) (by omega), act_ix o3 (i := i) (by omega), act_ix o4 (i := i) (by omega), act_ix o5 (i := i) (by omega), act_ix o6 (i := i) (by omega), s1, s2, s3, s4, s5, s6, s7, w1, w2, w3, w4, w5, w6, w7, winc hlt hn]
    exact ⟨m - 1, by omega, i + 1, by omega, _, ⟨rfl, rfl⟩, e7, o7, by omega, ((((((hk.trans k1).trans k2).trans k3).trans k4).trans k5).trans k6).trans k7, by omega⟩
  · simp -implicitDefEqProofs [hlt]
    exact ⟨by omega, keeps_gc hk⟩
end Go.Pm.PP

/- FnExactPlayActs: the law in the small machine. -/
set_option linter.unusedVariables false
set_option linter.unusedSimpArgs false
set_option maxRecDepth 4000
set_option maxHeartbeats 4000000
namespace Go.Pm.PP
open Go.Pm Go.Proofs
theorem szL_ge {left : Int} {n : Nat} (h : ¬ szL left n < 0) : (n : Int) ≤ left ∧ szL left n = left - n := by
  unfold szL at h ⊢
  split at h
  · omega
  · rename_i h1; rw [if_neg h1]; omega
theorem szD_eq {left : Int} {d : Disp} (h : ¬ szD left d < 0) : (d.js.length : Int) + d.ts.length ≤ left ∧ szD left d = left - d.js.length - d.ts.length := by
  unfold szD at h ⊢
  by_cases h1 : szL left d.js.length < 0
  · rw [if_pos h1] at h; omega
  · obtain ⟨h2, h3⟩ := szL_ge h1
    rw [if_neg h1] at h ⊢
    by_cases h4 : szL (szL left d.js.length) d.ts.length < 0
    · rw [if_pos h4] at h; omega
    · obtain ⟨h5, h6⟩ := szL_ge h4
      rw [if_neg h4]
      omega
theorem law_PlayActs {h : Hp} {vj vt va : Value} {d : Disp} {xs : List Act} (hj : Jobs h vj d.js) (ht : Tasks h vt d.ts) (ha : Acts h va xs) (hjn : d.js.length < 2 ^ 63) (htn : d.ts.length < 2 ^ 63) (han : xs.length < 2 ^ 63) :
    Ret P G n_laws_FnExactPlayActs [dv d vj vt, va] h (.bool true) h := by
  refine enter_run e_laws_FnExactPlayActs (by simp) ?_
  have hjs := hj
  have hts := ht
  have has := ha
  obtain ⟨oj, cj, ej⟩ := hj.shapeT
  obtain ⟨ot, ct, et⟩ := ht.shapeT
  obtain ⟨oa, ca, ea⟩ := ha.shapeT
  subst ej; subst et; subst ea
  have c1 := fun l => szDispatcher_run (h := h ++ l) (d := d) (left := 1048576) (hjs.ext l) (hts.ext l) hjn htn (by omega) (by omega)
  by_cases h2 : szD 1048576 d < 0
  · simp -implicitDefEqProofs [CL_ret (c1 _), h2]
  · have hl := szD_eq h2
    have c2 := fun l => szActS_run (h := h ++ l) (left := szD 1048576 d) (has.ext l) han (by omega) (by omega)
    by_cases h3 : szL (szD 1048576 d) xs.length < 0
    · simp -implicitDefEqProofs [CL_ret (c1 _), h2, CL_ret (c2 _), h3]
    have hl3 := szL_ge h3
    have hxn : xs.length ≤ 2 ^ 40 := by omega
    have o0 : DOk h (.slice oj d.js.length cj) (.slice ot d.ts.length ct) d := ⟨hjs, hts, by omega, by omega⟩
    simp -implicitDefEqProofs [CL_ret (c1 _), h2, CL_ret (c2 _), h3]
    -- the reference
    refine CL_post (toDispatcher_run (o0.ext _)) fun v h1 hv => ?_
    obtain ⟨p1, aj, at', rfl, D1⟩ := hv
    have x1 := boxP p1
    have p01 : h <+: h1 := (List.prefix_append ..).trans p1
    simp -implicitDefEqProofs
    refine CL_post (toActS_run (has.pre p01) hxn) fun v h1' hv => ?_
    obtain ⟨p1', A1⟩ := hv
    simp -implicitDefEqProofs
    refine CL_post (specPlayActs_run (D1.pre p1').ok A1.sees hxn) fun v h2 hv => ?_
    obtain ⟨p2, wj, wt, rfl, D2⟩ := hv
    have x2 := x1.pre (p1'.trans p2)
    obtain ⟨⟨owj, cwj, ewj⟩, owt, cwt, ewt⟩ := D2.ok.shapes
    subst ewj; subst ewt
    have p02 : h <+: h2 := p01.trans (p1'.trans p2)
    have hfl : (playD d xs).1.js.length ≤ 2 ^ 40 ∧ (playD d xs).1.ts.length ≤ 2 ^ 40 := ⟨D2.jn, D2.tn⟩
    simp -implicitDefEqProofs [dbox x2, ldbox x2, ldbox (x2.ext _)]
    have b4 := boxP (h := h2) (t := []) (cs := [.int .i64 (playD d xs).1.m, .int .i64 (playD d xs).1.p, .int .i64 (playD d xs).1.now, .slice owj (playD d xs).1.js.length cwj, .slice owt (playD d xs).1.ts.length cwt]) List.prefix_rfl
    have D2' := D2.pre (List.prefix_append h2 [some ⟨[.int .i64 (playD d xs).1.m, .int .i64 (playD d xs).1.p, .int .i64 (playD d xs).1.now, .slice owj (playD d xs).1.js.length cwj, .slice owt (playD d xs).1.ts.length cwt], 0, false⟩])
    -- the copy
    refine CL_post (toDispatcher_run ((o0.pre p02).ext _)) fun v h3 hv => ?_
    obtain ⟨p3, xj, xt, rfl, D3⟩ := hv
    obtain ⟨⟨oxj, cxj, exj⟩, oxt, cxt, ext⟩ := D3.ok.shapes
    subst exj; subst ext
    generalize hF : (playD d xs).1 = F at *
    generalize hNn : (playD d xs).2 = Nn at *
    generalize hok : goodD d = ok at *
    have x3 := x2.pre ((List.prefix_append ..).trans p3)
    have b4' := b4.pre p3
    have D2b := D2'.pre p3
    have q3 : h <+: h3 := p02.trans ((List.prefix_append ..).trans p3)
    have b6 := boxP (h := h3) (t := []) (cs := [.int .i64 d.m, .int .i64 d.p, .int .i64 d.now, .slice oxj d.js.length cxj, .slice oxt d.ts.length cxt]) List.prefix_rfl
    have D3' := D3.pre (List.prefix_append h3 [some ⟨[.int .i64 d.m, .int .i64 d.p, .int .i64 d.now, .slice oxj d.js.length cxj, .slice oxt d.ts.length cxt], 0, false⟩])
    simp -implicitDefEqProofs
    refine CL_post (toActS_run (has.pre (q3.trans (List.prefix_append ..))) hxn) fun vx h3' hv => ?_
    obtain ⟨p3', X3⟩ := hv
    obtain ⟨oX, cX, eX⟩ := X3.sees.shapeT
    subst eX
    have b63 := b6.pre p3'
    have D33 := D3'.pre p3'
    simp -implicitDefEqProofs [dbox b63]
    have p33 : h3 <+: h3' := (List.prefix_append ..).trans p3'
    have x33 := x3.pre p33
    have b43 := b4'.pre p33
    have D2b3 := D2b.pre p33
    have q33 := q3.trans p33
    have hl33 := p33.length_le
    -- the program
    refine CL_post (PlayActs_run D33.ok X3.sees hxn) fun v h4 hv => ?_
    obtain ⟨p4, gj, gt, rfl, D4⟩ := hv
    rw [hF] at D4 ⊢
    rw [hNn, hok]
    obtain ⟨⟨ogj, cgj, egj⟩, ogt, cgt, egt⟩ := D4.ok.shapes
    subst egj; subst egt
    have x4 := x33.pre p4
    have b4'' := b43.pre p4
    have D2c := D2b3.pre p4
    have b6' := b63.pre p4
    have D3b := D33.pre p4
    have X4 := X3.pre p4
    have q4 := q33.trans p4
    have b7 := boxP (h := h4) (t := []) (cs := [.int .i64 F.m, .int .i64 F.p, .int .i64 F.now, .slice ogj F.js.length cgj, .slice ogt F.ts.length cgt]) List.prefix_rfl
    have e1 := fun l => eqDispatcher_run (D4.ok.ext l) (D2c.ok.ext l)
    simp -implicitDefEqProofs [dbox (b4''.ext _), CL_ret (e1 _), dbox b7, dbox (b6'.ext _), ldbox (x4.ext _)]
    -- the copy is as it was
    refine CH_post (toDispatcher_run ((o0.pre q4).ext _)).new fun v h5 hv => ?_
    obtain ⟨⟨p5, yj, yt, rfl, D5⟩, hnew⟩ := hv
    refine ⟨hnew p5, ?_⟩
    have p45 : h4 <+: h5 := (List.prefix_append ..).trans p5
    have x5 := x4.pre p45
    have c4 := b4''.pre p45
    have c6 := b6'.pre p45
    have c7 := b7.pre p5
    have D2d := D2c.pre p45
    have D3c := D3b.pre p45
    have D4b := D4.pre p45
    have X5 := X4.pre p45
    have q5 := q4.trans p45
    have e2 := eqDispatcher_run D3c.ok D5.ok
    simp -implicitDefEqProofs [CL_ret e2, dbox c6]
    -- and so are the acts
    refine CL_post (toActS_run (has.pre q5) hxn) fun v h5' hv => ?_
    obtain ⟨p5', X6⟩ := hv
    have x55 := x5.pre p5'
    have c44 := c4.pre p5'
    have c66 := c6.pre p5'
    have c77 := c7.pre p5'
    have D2d5 := D2d.pre p5'
    have D3c5 := D3c.pre p5'
    have D4b5 := D4b.pre p5'
    have X55 := X5.pre p5'
    have q55 := q5.trans p5'
    have e2' := eqActS_run X55.sees X6.sees hxn
    simp -implicitDefEqProofs [CL_ret e2', dbox c66]
    -- marks in the copy
    refine CL_post (markDispatcher_run D3c5 (k := 1) (by omega) (by omega)) fun v h6 hv => ?_
    obtain ⟨rfl, D3d, k6⟩ := hv
    have hne26 : ∀ i j, (rowV (.slice owj F.js.length cwj) = some i ∨ rowV (.slice owt F.ts.length cwt) = some i) → (rowV (.slice oxj d.js.length cxj) = some j ∨ rowV (.slice oxt d.ts.length cxt) = some j) → i ≠ j := fun i j hi hj => by
      have h1 := D2.lt hi
      have h2 := D3.ge hj
      simp at h2
      omega
    have hne46 : ∀ i j, (rowV (.slice ogj F.js.length cgj) = some i ∨ rowV (.slice ogt F.ts.length cgt) = some i) → (rowV (.slice oxj d.js.length cxj) = some j ∨ rowV (.slice oxt d.ts.length cxt) = some j) → i ≠ j := fun i j hi hj => by
      have h1 := D4.ge hi
      have h2 := D3.lt hj
      omega
    have hne27 : ∀ i j, (rowV (.slice owj F.js.length cwj) = some i ∨ rowV (.slice owt F.ts.length cwt) = some i) → (rowV (.slice ogj F.js.length cgj) = some j ∨ rowV (.slice ogt F.ts.length cgt) = some j) → i ≠ j := fun i j hi hj => by
      have h1 := D2.lt hi
      have h2 := D4.ge hj
      have h3 := p3.length_le
      simp at h2 h3
      omega
    have x6 := x55.keepsD D3c5 k6
    have d4 := c44.keepsD D3c5 k6
    have d7 := c77.keepsD D3c5 k6
    have D2e := D2d5.keeps2 D3c5 k6 hne26
    have D4c := D4b5.keeps2 D3c5 k6 hne46
    have X66 := X55.keeps2 k6 fun j hj => ⟨fun e => D3c5.j.ne_own X55 (by omega) j e hj, fun e => D3c5.t.ne_own X55 (by omega) j e hj⟩
    have q6 : h <+: h6 := k6.pre q55 (fun j hj => by have g1 := D3.ge (.inl hj); have g2 := p02.length_le; simp at g1; omega) (fun j hj => by have g1 := D3.ge (.inr hj); have g2 := p02.length_le; simp at g1; omega)
    simp -implicitDefEqProofs
    -- marks in the acts
    refine CL_post (markActS_run X66 hxn (by omega) (by omega)) fun v h66 hv => ?_
    obtain ⟨rfl, k66⟩ := hv
    have x67 := x6.keepsO X66 k66 (by omega)
    have d44 := d4.keepsO X66 k66 (by omega)
    have d77 := d7.keepsO X66 k66 (by omega)
    have D2e6 : DSt _ h66 _ _ F := ⟨D2e.j.keepsO X66 k66 (by omega), D2e.t.keepsO X66 k66 (by omega), D2e.jn, D2e.tn⟩
    have D4c6 : DSt _ h66 _ _ F := ⟨D4c.j.keepsO X66 k66 (by omega), D4c.t.keepsO X66 k66 (by omega), D4c.jn, D4c.tn⟩
    have q66 : h <+: h66 := k66.pre q6 (fun j hj => by have g1 := X3.row_ge hj; have g2 := q3.length_le; simp at g1; omega)
    have e3 := eqDispatcher_run D4c6.ok D2e6.ok
    have hk0 : ¬ (1 + 4 * (d.js.length : Int) + 3 * d.ts.length + 7 * xs.length < 0) := by omega
    simp -implicitDefEqProofs [hk0, dbox d77, dbox d44, CL_ret e3]
    -- marks in the result
    refine CL_post (markDispatcher_run D4c6 (k := 1) (by omega) (by omega)) fun v h7 hv => ?_
    obtain ⟨rfl, D4d, k7⟩ := hv
    have x7 := x67.keepsD D4c6 k7
    have f4 := d44.keepsD D4c6 k7
    have f7 := d77.keepsD D4c6 k7
    have D2f := D2e6.keeps2 D4c6 k7 hne27
    have q7 : h <+: h7 := k7.pre q66 (fun j hj => by have g1 := D4.ge (.inl hj); have g2 := q33.length_le; omega) (fun j hj => by have g1 := D4.ge (.inr hj); have g2 := q33.length_le; omega)
    have hld : ∀ {h' : Hp}, DOk h' (.slice ogj F.js.length cgj) (.slice ogt F.ts.length cgt) (markD F 1) → Ret P G n_laws_heldDispatcher [.agg #[.int .i64 F.m, .int .i64 F.p, .int .i64 F.now, .slice ogj F.js.length cgj, .slice ogt F.ts.length cgt], .int .i64 1] h' (.int .i64 (1 + 4 * F.js.length + 3 * F.ts.length)) h' := fun {h'} o => by
      have := heldDispatcher_run (k := 1) o
      rw [heldD_mark (by omega) (by omega)] at this
      exact this
    have hk1 : ¬ (1 + 4 * (F.js.length : Int) + 3 * F.ts.length < 0) := by omega
    simp -implicitDefEqProofs [dbox f7, CL_ret (hld D4d.ok), hk1, ldbox x7]
    -- once more
    refine CL_post (toDispatcher_run (o0.pre q7)) fun v h8 hv => ?_
    obtain ⟨p8, zj, zt, rfl, D8⟩ := hv
    simp -implicitDefEqProofs
    refine CL_post (toActS_run (has.pre (q7.trans p8)) hxn) fun v h8' hv => ?_
    obtain ⟨p8', A8⟩ := hv
    simp -implicitDefEqProofs
    refine CL_post (PlayActs_run (D8.pre p8').ok A8.sees hxn) fun v h9 hv => ?_
    obtain ⟨p9, uj, ut, rfl, D9⟩ := hv
    rw [hF] at D9 ⊢
    rw [hNn, hok]
    have p79 : h7 <+: h9 := p8.trans (p8'.trans p9)
    obtain ⟨⟨ouj, cuj, euj⟩, out, cut, eut⟩ := D9.ok.shapes
    subst euj; subst eut
    have g4 := f4.pre p79
    have g7 := f7.pre p79
    have D2g := D2f.pre p79
    have D4e := D4d.pre p79
    have e4 := fun l => eqDispatcher_run (D9.ok.ext l) (D2g.ok.ext l)
    have b12 := boxP (h := h9) (t := []) (cs := [.int .i64 F.m, .int .i64 F.p, .int .i64 F.now, .slice ouj F.js.length cuj, .slice out F.ts.length cut]) List.prefix_rfl
    simp -implicitDefEqProofs [dbox b12, dbox (g4.ext _), CL_ret (e4 _), dbox (g7.ext _), CL_ret (hld (D4e.ok.ext _)), hk1]
    exact gcB' (q7.trans p79)
end Go.Pm.PP

/- A dispatcher as an argument. -/
set_option linter.unusedVariables false
set_option linter.unusedSimpArgs false
set_option maxRecDepth 4000
set_option maxHeartbeats 4000000
namespace Go.Pm.PP
open Go.Pm Go.Proofs
theorem follows : P.follows .mixedOrders = true := by kernel_rfl
theorem lJobF : ∃ fs, P.underlying t_laws_Job = some (.struct fs) ∧ ∀ i, i < 4 → ∃ f, fs[i]? = some f ∧ f.offset = i ∧ P.underlying f.type = some (.int .i64) ∧ P.cellsOf f.type = 1 := by
  refine ⟨_, rfl, fun i hi => ?_⟩
  match i, hi with
  | 0, _ => exact ⟨_, rfl, rfl, rfl, by kernel_rfl⟩
  | 1, _ => exact ⟨_, rfl, rfl, rfl, by kernel_rfl⟩
  | 2, _ => exact ⟨_, rfl, rfl, rfl, by kernel_rfl⟩
  | 3, _ => exact ⟨_, rfl, rfl, rfl, by kernel_rfl⟩
theorem lTaskF : ∃ fs, P.underlying t_laws_Task = some (.struct fs) ∧ ∀ i, i < 3 → ∃ f, fs[i]? = some f ∧ f.offset = i ∧ P.underlying f.type = some (.int .i64) ∧ P.cellsOf f.type = 1 := by
  refine ⟨_, rfl, fun i hi => ?_⟩
  match i, hi with
  | 0, _ => exact ⟨_, rfl, rfl, rfl, by kernel_rfl⟩
  | 1, _ => exact ⟨_, rfl, rfl, rfl, by kernel_rfl⟩
  | 2, _ => exact ⟨_, rfl, rfl, rfl, by kernel_rfl⟩
theorem cells_lJob : P.cellsOf t_laws_Job = 4 := by kernel_rfl
theorem cells_lTask : P.cellsOf t_laws_Task = 3 := by kernel_rfl
theorem cells_lDisp : P.cellsOf t_laws_Dispatcher = 5 := by kernel_rfl
theorem lDispF : ∃ fs f0 f1 f2 f3 f4, P.underlying t_laws_Dispatcher = some (.struct fs) ∧
    (fs[0]? = some f0 ∧ f0.offset = 0 ∧ P.underlying f0.type = some (.int .i64) ∧ P.cellsOf f0.type = 1) ∧ (fs[1]? = some f1 ∧ f1.offset = 1 ∧ P.underlying f1.type = some (.int .i64) ∧ P.cellsOf f1.type = 1) ∧
    (fs[2]? = some f2 ∧ f2.offset = 2 ∧ P.underlying f2.type = some (.int .i64) ∧ P.cellsOf f2.type = 1) ∧ (fs[3]? = some f3 ∧ f3.offset = 3 ∧ f3.type = t_S_laws_Job ∧ P.cellsOf f3.type = 1) ∧ (fs[4]? = some f4 ∧ f4.offset = 4 ∧ f4.type = t_S_laws_Task ∧ P.cellsOf f4.type = 1) :=
  ⟨_, _, _, _, _, _, rfl, ⟨rfl, rfl, rfl, by kernel_rfl⟩, ⟨rfl, rfl, rfl, by kernel_rfl⟩, ⟨rfl, rfl, rfl, by kernel_rfl⟩, ⟨rfl, rfl, rfl, by kernel_rfl⟩, ⟨rfl, rfl, rfl, by kernel_rfl⟩⟩
def jobOf (ns : List Int) : Job := ⟨ns.getD 0 0, ns.getD 1 0, ns.getD 2 0, ns.getD 3 0⟩
theorem jobOf_enc {ns : List Int} (h : ns.length = 4) : encJ (jobOf ns) = ns.map fun z => .int .i64 z := by
  match ns, h with
  | [a, b, c, d], _ => rfl
def taskOf (ns : List Int) : Task := ⟨ns.getD 0 0, ns.getD 1 0, ns.getD 2 0⟩
theorem taskOf_enc {ns : List Int} (h : ns.length = 3) : encT (taskOf ns) = ns.map fun z => .int .i64 z := by
  match ns, h with
  | [a, b, c], _ => rfl
section
variable {H : Type} {enc : TypeId × Value → H} {W : World}
/-- A dispatcher, opened as rows. -/
theorem open_disp {ρ : Mp} {h : Hp} (R : Rel ρ h W) (ha : AllRo h) {cs : Array Value} {n0 : Nat} {x0 : DataW H × List MemPlace} (hcs : cs.size = 5)
    (d0 : DataW.trod enc P W 0 (fun _ => true) true n0 t_laws_Dispatcher cs.toList = some x0) :
    ∃ (h2 : Hp) (ρ2 : Mp) (pj pt : Value) (d : Disp), h <+: h2 ∧ Rel ρ2 h2 W ∧ AllRo h2 ∧ Step ρ h ρ2 h2 ∧ VR ρ2 h2 (dv d pj pt) (.agg cs) ∧ Jobs h2 pj d.js ∧ Tasks h2 pt d.ts ∧ d.js.length < 2 ^ 63 ∧ d.ts.length < 2 ^ 63 := by
  have hmx : maxLen = 2 ^ 63 - 1 := rfl
  obtain ⟨fs, f0, f1, f2, f3, f4, uf, ⟨a0, b0, c0, e0⟩, ⟨a1, b1, c1, e1⟩, ⟨a2, b2, c2, e2⟩, ⟨a3, b3, c3, e3⟩, ⟨a4, b4, c4, e4⟩⟩ := lDispF
  obtain ⟨ys, q, _, _, hl2, hy, hall⟩ := DataW.trod_struct uf d0
  have hfs : 5 ≤ fs.size := (Array.getElem?_eq_some_iff.1 a4).1
  obtain ⟨v0, v1, v2, v3, v4, hv⟩ : ∃ v0 v1 v2 v3 v4, cs.toList = [v0, v1, v2, v3, v4] := by
    have : cs.toList.length = 5 := by simpa using hcs
    match cs.toList, this with
    | [a, b, c, d, e], _ => exact ⟨a, b, c, d, e, rfl⟩
  rw [hv] at hall
  have k0 := hall 0 f0 a0
  have k1 := hall 1 f1 a1
  have k2 := hall 2 f2 a2
  have k3 := hall 3 f3 a3
  have k4 := hall 4 f4 a4
  rw [b0, e0, List.getElem?_eq_getElem (show 0 < ys.length by omega)] at k0
  rw [b1, e1, List.getElem?_eq_getElem (show 1 < ys.length by omega)] at k1
  rw [b2, e2, List.getElem?_eq_getElem (show 2 < ys.length by omega)] at k2
  rw [b3, e3, c3, List.getElem?_eq_getElem (show 3 < ys.length by omega)] at k3
  rw [b4, e4, c4, List.getElem?_eq_getElem (show 4 < ys.length by omega)] at k4
  obtain ⟨z0, hz0, _⟩ := DataW.trod_int c0 k0
  obtain ⟨z1, hz1, _⟩ := DataW.trod_int c1 k1
  obtain ⟨z2, hz2, _⟩ := DataW.trod_int c2 k2
  have hv0 : v0 = .int .i64 z0 := by simpa using hz0
  have hv1 : v1 = .int .i64 z1 := by simpa using hz1
  have hv2 : v2 = .int .i64 z2 := by simpa using hz2
  obtain ⟨gs, ug, hg⟩ := lJobF
  obtain ⟨nss, l0, g0, s0⟩ := shows_recs (P := P) (v := v3) u_S_laws_Job ug cells_lJob (by omega) hg (by simpa using k3)
  obtain ⟨gt, ut, ht⟩ := lTaskF
  obtain ⟨mss, l1, g1, s1⟩ := shows_recs (P := P) (v := v4) u_S_laws_Task ut cells_lTask (by omega) ht (by simpa using k4)
  have hm0 : (nss.map fun ns => ns.map fun z => Value.int .i64 z) = (nss.map jobOf).map encJ := by
    rw [List.map_map]
    exact List.map_congr_left fun ns hns => (jobOf_enc (g0 ns hns)).symm
  have hm1 : (mss.map fun ns => ns.map fun z => Value.int .i64 z) = (mss.map taskOf).map encT := by
    rw [List.map_map]
    exact List.map_congr_left fun ns hns => (taskOf_enc (g1 ns hns)).symm
  obtain ⟨h1, ρ1, pj, q1, R1, a1', t1, r0, J⟩ := add_slice (w := W) (encJ_len (nss.map jobOf)) R ha (by rw [← hm0]; exact s0 _ _)
  obtain ⟨h2, ρ2, pt, q2, R2, a2', t2, r1, T⟩ := add_slice (w := W) (sz := 3) (els := (mss.map taskOf).map encT) (fun e he => by obtain ⟨j, _, rfl⟩ := List.mem_map.1 he; rfl) R1 a1' (by rw [← hm1]; exact s1 _ _)
  refine ⟨h2, ρ2, pj, pt, ⟨z0, z1, z2, nss.map jobOf, mss.map taskOf⟩, q1.trans q2, R2, a2', t1.trans t2, ?_, Sees.pre J q2, T, by simp; omega, by simp; omega⟩
  have hcs2 : cs = #[.int .i64 z0, .int .i64 z1, .int .i64 z2, v3, v4] := by
    apply Array.ext'
    rw [hv, hv0, hv1, hv2]
  rw [hcs2]
  refine .agg _ _ rfl fun i u u' g1 g2 => ?_
  match i with
  | 0 => simp at g1 g2; subst g1; subst g2; exact .int _ _
  | 1 => simp at g1 g2; subst g1; subst g2; exact .int _ _
  | 2 => simp at g1 g2; subst g1; subst g2; exact .int _ _
  | 3 => simp at g1 g2; subst g1; subst g2; exact r0.step t2
  | 4 => simp at g1 g2; subst g1; subst g2; exact r1
  | i + 5 => simp at g1
end
end Go.Pm.PP

/- FnExactActDispatcher: the row. -/
set_option linter.unusedVariables false
set_option linter.unusedSimpArgs false
set_option maxRecDepth 4000
namespace Go.Pm.PP
open Go.Pm Go.Proofs
theorem lActF : ∃ fs f0 f1 f2 f3, P.underlying t_laws_Act = some (.struct fs) ∧
    (fs[0]? = some f0 ∧ f0.offset = 0 ∧ P.underlying f0.type = some (.int .i64) ∧ P.cellsOf f0.type = 1) ∧ (fs[1]? = some f1 ∧ f1.offset = 1 ∧ P.underlying f1.type = some (.int .i64) ∧ P.cellsOf f1.type = 1) ∧
    (fs[2]? = some f2 ∧ f2.offset = 2 ∧ P.underlying f2.type = some (.int .i64) ∧ P.cellsOf f2.type = 1) ∧ (fs[3]? = some f3 ∧ f3.offset = 3 ∧ f3.type = t_laws_Job ∧ P.cellsOf f3.type = 4) :=
  ⟨_, _, _, _, _, rfl, ⟨rfl, rfl, rfl, by kernel_rfl⟩, ⟨rfl, rfl, rfl, by kernel_rfl⟩, ⟨rfl, rfl, rfl, by kernel_rfl⟩, ⟨rfl, rfl, rfl, by kernel_rfl⟩⟩
theorem cells_lAct : P.cellsOf t_laws_Act = 7 := by kernel_rfl
section
variable {H : Type} {enc : TypeId × Value → H} {W : World}
/-- An act, opened. -/
theorem open_act {cs : Array Value} {n0 : Nat} {x0 : DataW H × List MemPlace} (hcs : cs.size = 7) (d0 : DataW.trod enc P W 0 (fun _ => true) true n0 t_laws_Act cs.toList = some x0) :
    ∃ x : Act, cs = #[.int .i64 x.k, .int .i64 x.a, .int .i64 x.b, .int .i64 x.job.t, .int .i64 x.job.w, .int .i64 x.job.r, .int .i64 x.job.d] := by
  obtain ⟨fs, f0, f1, f2, f3, uf, ⟨a0, b0, c0, e0⟩, ⟨a1, b1, c1, e1⟩, ⟨a2, b2, c2, e2⟩, ⟨a3, b3, c3, e3⟩⟩ := lActF
  obtain ⟨ys, q, _, _, hl2, hy, hall⟩ := DataW.trod_struct uf d0
  have hfs : 4 ≤ fs.size := (Array.getElem?_eq_some_iff.1 a3).1
  obtain ⟨v0, v1, v2, v3, v4, v5, v6, hv⟩ : ∃ v0 v1 v2 v3 v4 v5 v6, cs.toList = [v0, v1, v2, v3, v4, v5, v6] := by
    have : cs.toList.length = 7 := by simpa using hcs
    match cs.toList, this with
    | [a, b, c, d, e, f, g], _ => exact ⟨a, b, c, d, e, f, g, rfl⟩
  rw [hv] at hall
  have k0 := hall 0 f0 a0
  have k1 := hall 1 f1 a1
  have k2 := hall 2 f2 a2
  have k3 := hall 3 f3 a3
  rw [b0, e0, List.getElem?_eq_getElem (show 0 < ys.length by omega)] at k0
  rw [b1, e1, List.getElem?_eq_getElem (show 1 < ys.length by omega)] at k1
  rw [b2, e2, List.getElem?_eq_getElem (show 2 < ys.length by omega)] at k2
  rw [b3, e3, c3, List.getElem?_eq_getElem (show 3 < ys.length by omega)] at k3
  obtain ⟨z0, hz0, _⟩ := DataW.trod_int c0 k0
  obtain ⟨z1, hz1, _⟩ := DataW.trod_int c1 k1
  obtain ⟨z2, hz2, _⟩ := DataW.trod_int c2 k2
  have hv0 : v0 = .int .i64 z0 := by simpa using hz0
  have hv1 : v1 = .int .i64 z1 := by simpa using hz1
  have hv2 : v2 = .int .i64 z2 := by simpa using hz2
  obtain ⟨gs, ug, hg⟩ := lJobF
  obtain ⟨g0, i0, o0, u0, w0⟩ := hg 0 (by omega)
  obtain ⟨g1, i1, o1, u1, w1⟩ := hg 1 (by omega)
  obtain ⟨g2, i2, o2, u2, w2⟩ := hg 2 (by omega)
  obtain ⟨g3, i3, o3, u3, w3⟩ := hg 3 (by omega)
  obtain ⟨zs, q2, _, _, hl3, hz, hal2⟩ := DataW.trod_struct ug k3
  have hgs : 4 ≤ gs.size := (Array.getElem?_eq_some_iff.1 i3).1
  have m0 := hal2 0 g0 i0
  have m1 := hal2 1 g1 i1
  have m2 := hal2 2 g2 i2
  have m3 := hal2 3 g3 i3
  rw [o0, w0, List.getElem?_eq_getElem (show 0 < zs.length by omega)] at m0
  rw [o1, w1, List.getElem?_eq_getElem (show 1 < zs.length by omega)] at m1
  rw [o2, w2, List.getElem?_eq_getElem (show 2 < zs.length by omega)] at m2
  rw [o3, w3, List.getElem?_eq_getElem (show 3 < zs.length by omega)] at m3
  obtain ⟨y0, hy0, _⟩ := DataW.trod_int u0 m0
  obtain ⟨y1, hy1, _⟩ := DataW.trod_int u1 m1
  obtain ⟨y2, hy2, _⟩ := DataW.trod_int u2 m2
  obtain ⟨y3, hy3, _⟩ := DataW.trod_int u3 m3
  have hv3 : v3 = .int .i64 y0 := by simpa using hy0
  have hv4 : v4 = .int .i64 y1 := by simpa using hy1
  have hv5 : v5 = .int .i64 y2 := by simpa using hy2
  have hv6 : v6 = .int .i64 y3 := by simpa using hy3
  refine ⟨⟨z0, z1, z2, ⟨y0, y1, y2, y3⟩⟩, ?_⟩
  apply Array.ext'
  rw [hv, hv0, hv1, hv2, hv3, hv4, hv5, hv6]
theorem vr_act {ρ : Mp} {h : Hp} (x : Act) : VR ρ h (av x) (av x) := by
  refine .agg _ _ rfl fun i u u' g1 g2 => ?_
  rw [g1] at g2
  cases g2
  match i with
  | 0 | 1 | 2 | 3 | 4 | 5 | 6 => simp at g1; subst g1; exact .int _ _
  | i + 7 => simp at g1
/-- The law's call in the model. -/
theorem actDispatcher_calls {cs ca : Array Value} {n0 n1 : Nat} {x0 x1 : DataW H × List MemPlace} (hcs : cs.size = 5) (hca : ca.size = 7) (d0 : DataW.trod enc P W 0 (fun _ => true) true n0 t_laws_Dispatcher cs.toList = some x0)
    (d1 : DataW.trod enc P W 0 (fun _ => true) true n1 t_laws_Act ca.toList = some x1) :
    Calls P n_laws_FnExactActDispatcher #[.agg cs, .agg ca] W fun e W' => e = .returned (.bool true) ∧ Go.RowKit.Below W.heap.size W W' := by
  obtain ⟨h, ρ, pj, pt, d, _, R, ha, _, r0, J, T, l0, l1⟩ := open_disp Rel.nil AllRo.nil hcs d0
  obtain ⟨x, rfl⟩ := open_act hca d1
  exact Ret.true_calls (args' := [.agg cs, av x]) follows (law_ActDispatcher (x := x) J T l0 l1) R (VL.cons r0 (VL.cons (vr_act x) VL.nil)) ha
end
end Go.Pm.PP
namespace Go.Proofs.Ytagofldjmcaalaa.fnExactActDispatcher
open Go.ChangeShapes Go.WideShapes Go.ChangeAt Go.RowKit
theorem own : ownKnob Try.prog.godebug = none := by kernel_rfl
theorem laidOut : laidOutB Try.prog = true := by kernel_rfl
set_option maxRecDepth 100000 in
theorem lifted (os : Os) (started : os.Started) (H : Type) (enc : TypeId × Value → H) :
    ReturnsInHanded {} Try.checked os 8 .any (Rows.fnExactActDispatcherSpec.pre6 enc Try.prog Try.f8 Rows.fnExactActDispatcherRow.domain false) (Rows.fnExactActDispatcherSpec.post enc Try.prog Try.f8 false true false false) := by
  refine returnsInHanded_of_change (C := Try.checked) own started (by kernel_rfl) Try.func8
    (ChangeSpec.witness6 (enc := enc) (C := Try.checked) false ⟨#[], #[.agg #[.int .i64 0, .int .i64 0, .int .i64 0, .slice none 0 0, .slice none 0 0], .agg #[.int .i64 0, .int .i64 0, .int .i64 0, .int .i64 0, .int .i64 0, .int .i64 0, .int .i64 0]], []⟩ 8 (by kernel_rfl) (by kernel_rfl) (by kernel_rfl) (by kernel_rfl)) ?_
  intro W base args ds gs before hval0 hW hcnd _
  have hval : ∀ (j : Nat) t v, Try.f8.params[j]? = some t → args[j]? = some v → Value.okWide Try.prog W .any base t v := hval0
  have hW' := hW
  obtain ⟨p, q, hA0, hV, rfl, hfz, hnd⟩ := hW
  have hA : DataW.TrodAll enc Try.prog W 0 (fun _ => true) true Try.f8.params.toList args.toList ds p := hA0
  rw [Try.params8] at hA hval
  obtain ⟨v0, vs0, d0, ds0, p0, q0, hargs, rfl, rfl, h0, r0⟩ := trodAll_cons hA
  obtain ⟨v1, vs1, d1, ds1, p1, q1, rfl, rfl, rfl, h1, r1⟩ := trodAll_cons r0
  obtain ⟨rfl, rfl, rfl⟩ := trodAll_nil r1
  obtain rfl : args = #[v0, v1] := by cases args; simp_all
  obtain ⟨rfl, rfl⟩ := trodVars_none hV
  obtain ⟨fs, f0, f1, f2, f3, f4, uf, _⟩ := Go.Pm.PP.lDispF
  obtain ⟨cs, rfl, hcs⟩ := okWide_struct uf (hval 0 40 v0 rfl rfl)
  obtain ⟨fs', f0', f1', f2', f3', uf', _⟩ := Go.Pm.PP.lActF
  obtain ⟨ca, rfl, hca⟩ := okWide_struct uf' (hval 1 91 v1 rfl rfl)
  have k0 := h0
  have lt0 : ∀ x ∈ p0, x.block < W.heap.size := by obtain ⟨m, hm⟩ := k0; exact DataW.trod_lt m _ _ _ hm
  obtain ⟨n0, hf0⟩ := h0
  have k1 := h1
  have lt1 : ∀ x ∈ p1, x.block < W.heap.size := by obtain ⟨m, hm⟩ := k1; exact DataW.trod_lt m _ _ _ hm
  obtain ⟨n1, hf1⟩ := h1
  clear hA0 hval0
  refine (Go.Pm.PP.actDispatcher_calls (enc := enc) (W := W) (hcs.trans Go.Pm.PP.cells_lDisp) (hca.trans Go.Pm.PP.cells_lAct) hf0 hf1).mono fun e W' ⟨he, bel⟩ => ?_
  subst he
  exact ⟨_, rfl, _, _, _, [], _, [], hW', trodAll_mk1 (shut_bool Try.underlying4 _),
    trodAll_cons_mk (Below.trod laidOut (by kernel_rfl) (of_decide_eq_true (by kernel_rfl)) k0 bel lt0) (trodAll_cons_mk (Below.trod laidOut (by kernel_rfl) (of_decide_eq_true (by kernel_rfl)) k1 bel lt1) trodAll_mk0), rfl, bel.frame _, fun h => by cases h⟩
theorem over : Rows.fnExactActDispatcherRow.holds Try.pinned (OpenSpec.ofChange Rows.fnExactActDispatcherSpec) :=
  OpenClaim.holds_of_wide 8 Try.f8 rfl rfl rfl rfl rfl rfl rfl ⟨rfl, rfl, rfl, rfl, rfl⟩ rfl rfl rfl rfl rfl (by kernel_rfl) Try.func8 (by kernel_rfl)
    (of_decide_eq_true (by kernel_rfl)) (by unfold Func.isWrapper; first | (rw [if_pos (by decide +kernel)]; kernel_rfl) | (rw [if_neg (by decide +kernel)]; exact ⟨rfl, rfl⟩))
    (fun os started H enc _ => lifted os started H enc)
theorem proved : Rows.FnExactActDispatcherSaid := over
#print axioms proved
end Go.Proofs.Ytagofldjmcaalaa.fnExactActDispatcher
