/- The texts Pd11, PdL, Pd15, Pp15, Pd9, Pd16, Pd17, Pd10, Pd12, Pd18, Pd19, PdM, Pd20, Pd21, Pd23 of this work: Dispatchers: running until all jobs have a task. -/
import Derived.Test.YtagofldjmcaalaaP4
import Derived.Test.YtagofldjmcaalaaM2
/- Dispatchers: running until all jobs have a task. -/
set_option linter.unusedVariables false
set_option linter.unusedSimpArgs false
set_option maxRecDepth 4000
set_option maxHeartbeats 1000000
namespace Go.Pm.PP
open Go.Pm Go.Proofs
theorem w64_ok' {n : Int} (h1 : -9223372036854775808 ≤ n) (h2 : n ≤ 9223372036854775807) : w64 n = n := wrap_ok h1 h2
theorem stepGo_ins {d : Disp} : ∀ {l : List Int} {k : Nat} {ts : List Task}, Ins { d with ts := ts } → Ins { d with ts := stepGo d l k ts }
  | [], k, ts, h => h
  | r :: l, k, ts, h => by
    rw [stepGo]
    refine stepGo_ins ?_
    by_cases hr : r ≥ 0
    · rw [if_pos hr]; exact h
    · rw [if_neg hr, putT]
      by_cases hp : pickI { d with ts := ts } ≥ 0
      · rw [if_pos hp]
        rcases pickI_in (d := { d with ts := ts }) with h1 | ⟨q, h1, h2⟩
        · omega
        · rw [h1]; exact Ins.add h h2 _ _
      · rw [if_neg hp]; exact h
theorem stepI_ins {d : Disp} {M : Nat} (h : Ins d) : Ins (stepI d M) := stepGo_ins (d := d) (ts := d.ts) h
def finGo (step : Disp → Disp) : Nat → Disp → Option Disp
  | 0, d => if d.ts.length < d.js.length then none else some d
  | n + 1, d => if d.ts.length < d.js.length then (if d.now = 1000 then none else finGo step n (step d)) else some d
def zD : Disp := ⟨0, 0, 0, [], []⟩
abbrev outD (r : Option Disp) : Disp := r.getD zD
theorem zD_st {b : Nat} {h : Hp} : DSt b h (.slice none 0 0) (.slice none 0 0) zD := ⟨.nil, .nil, by simp [zD], by simp [zD]⟩
theorem finished_run {b : Nat} {h : Hp} {vj vt : Value} {d : Disp} {M : Nat} (D : DSt b h vj vt d) (hb : b ≤ h.length) (hin : Ins d) (hM : d.m = M) (hMn : M ≤ 2 ^ 20) (hjs : d.js.length ≤ 2 ^ 20) (hn0 : 0 ≤ d.now) (hn1 : d.now ≤ 1000) :
    RunsC P G n_impl_Dispatcher_finished [dv d vj vt] h fun v h' => ∃ vj' vt', v = .tuple #[dv (outD (finGo (stepI · M) (1000 - d.now).toNat d)) vj' vt', .bool (finGo (stepI · M) (1000 - d.now).toNat d).isSome] ∧ DSt b h' vj' vt' (outD (finGo (stepI · M) (1000 - d.now).toNat d)) ∧ Keeps (rowV vt) h h' := by
  refine enter_run e_impl_Dispatcher_finished (by simp) ?_
  have os := D.ok
  obtain ⟨⟨oj, cj, ej⟩, ot, ct, et⟩ := os.shapes
  subst ej; subst et
  have s0 : (h ++ [some ⟨[.int .i64 d.m, .int .i64 d.p, .int .i64 d.now, .slice oj d.js.length cj, .slice ot d.ts.length ct], 0, false⟩, some ⟨[.int .i64 0, .int .i64 0, .int .i64 0, .slice none 0 0, .slice none 0 0], 0, false⟩]) <+: (h ++ [some ⟨[.int .i64 d.m, .int .i64 d.p, .int .i64 d.now, .slice oj d.js.length cj, .slice ot d.ts.length ct], 0, false⟩, some ⟨[.int .i64 0, .int .i64 0, .int .i64 0, .slice none 0 0, .slice none 0 0], 0, false⟩]) := List.prefix_rfl
  simp -implicitDefEqProofs
  refine R_loop (fun n s h' => ∃ (d' : Disp) (vt' : Value), n = (1000 - d'.now).toNat ∧ 0 ≤ d'.now ∧ d'.now ≤ 1000 ∧ d'.js = d.js ∧ d'.m = M ∧ s = [(1, .pointer (some ⟨h.length, 0, some 5⟩)), (2, .pointer (some ⟨h.length + 1, 0, some 5⟩))] ∧
      BoxAt h' h.length [.int .i64 d'.m, .int .i64 d'.p, .int .i64 d'.now, .slice oj d.js.length cj, vt'] ∧ BoxAt h' (h.length + 1) [.int .i64 0, .int .i64 0, .int .i64 0, .slice none 0 0, .slice none 0 0] ∧
      DSt b h' (.slice oj d.js.length cj) vt' d' ∧ Ins d' ∧ Keeps (rowV (.slice ot d.ts.length ct)) h h' ∧ (∀ j, rowV vt' = some j → rowV (.slice ot d.ts.length ct) = some j ∨ h.length ≤ j) ∧
      finGo (stepI · M) (1000 - d.now).toNat d = finGo (stepI · M) n d') (fun n s h' => ?_) ⟨d, _, rfl, hn0, hn1, rfl, hM, by simp, boxP s0, boxP1 s0, D.pre (List.prefix_append ..), hin, .app, fun j hj => .inl hj, rfl⟩
  rintro ⟨d', vt', hnn, g0, g1, hjs', hm', rfl, b1, b2, D1, hin1, hk1, hr1, hx⟩
  have hlen1 := hk1.1
  obtain ⟨ot', ct', et⟩ := D1.t.sees.shapeT
  subst et
  by_cases hlt : d'.ts.length < d.js.length
  · by_cases h1000 : d'.now = 1000
    · have hx2 : finGo (stepI · M) (1000 - d.now).toNat d = none := by
        rw [hx]
        cases n with
        | zero => rw [finGo, if_pos (by rw [hjs']; exact hlt)]
        | succ n => omega
      obtain ⟨h3, hs3, b3, k3⟩ := dset_all (m' := 0) (p' := 0) (w' := 0) (oj := none) (nj := 0) (cj := 0) (ot := none) (nt := 0) (ct := 0) b2
      simp -implicitDefEqProofs [hlt, dbox b1, h1000, hs3, dbox b3, hx2]
      refine ⟨_, _, ⟨rfl, rfl, rfl, rfl, rfl⟩, zD_st, ?_⟩
      rw [gc_np (by simp [plain, plainC])]
      exact hk1.then k3 (fun j hj => by cases hj; exact .inr (by omega))
    · obtain ⟨n, rfl⟩ : ∃ n', n = n' + 1 := ⟨n - 1, by omega⟩
      rw [finGo, if_pos (by rw [hjs']; exact hlt), if_neg h1000] at hx
      have st := step_run D1 (by omega) hin1 hm' hMn (by omega)
      simp -implicitDefEqProofs [hlt, dbox b1, h1000, nb h1000]
      refine CL_post st fun v h2 hv => ?_
      obtain ⟨vt2, rfl, D2, hk2, hr2, hl2⟩ := hv
      have b3 := b1.keepsO D1.t hk2 (by omega)
      have b4 := b2.keepsO D1.t hk2 (by omega)
      obtain ⟨ot2, ct2, et⟩ := D2.t.sees.shapeT
      subst et
      obtain ⟨h3, hs3, b5, k3⟩ := dset_all (m' := (stepI d' M).m) (p' := (stepI d' M).p) (w' := (stepI d' M).now) (oj := oj) (nj := d.js.length) (cj := cj) (ot := ot2) (nt := (stepI d' M).ts.length) (ct := ct2) b3
      have b6 := b4.keepsB k3 (by omega)
      have hnow : (stepI d' M).now = d'.now + 1 := w64_ok' (by omega) (by omega)
      simp -implicitDefEqProofs [hs3]
      refine ⟨n, by omega, stepI d' M, by rw [hnow]; omega, by omega, by omega, hjs', hm', _, b5, b6, ⟨D2.j.keepsB b3 k3 (by omega), D2.t.keepsB b3 k3 (by omega), D2.jn, D2.tn⟩, stepI_ins hin1, (hk1.then hk2 hr1).then k3 (fun j hj => by cases hj; exact .inr (Nat.le_refl _)), fun j hj => ?_, hx⟩
      rcases hr2 j hj with h5 | h5
      · exact hr1 j h5
      · exact .inr (by omega)
  · have hx2 : finGo (stepI · M) (1000 - d.now).toNat d = some d' := by
      rw [hx]
      cases n <;> rw [finGo, if_neg (by rw [hjs']; exact hlt)]
    obtain ⟨h3, hs3, b3, k3⟩ := dset_all (m' := d'.m) (p' := d'.p) (w' := d'.now) (oj := oj) (nj := d.js.length) (cj := cj) (ot := ot') (nt := d'.ts.length) (ct := ct') b2
    simp -implicitDefEqProofs [hlt, dbox b1, hs3, dbox b3, hx2]
    refine ⟨_, _, ⟨rfl, rfl⟩, ?_⟩
    rw [gc_np (by simp [plain, plainC])]
    exact ⟨⟨D1.j.keepsB b2 k3 (by omega), D1.t.keepsB b2 k3 (by omega), D1.jn, D1.tn⟩, hk1.then k3 (fun j hj => by cases hj; exact .inr (by omega))⟩
theorem tasksI_ins {d : Disp} : ∀ {ts pre : List Task}, tasksI d pre ts = true → ∀ t ∈ ts, inB t.j 0 ((d.js.length : Int) - 1) = true
  | [], _, _, t, ht => by cases ht
  | x :: r, pre, h, t, ht => by
    rw [tasksI] at h
    simp only [Bool.and_eq_true, okI] at h
    rcases List.mem_cons.1 ht with rfl | ht
    · exact h.1.1.1.1.1
    · exact tasksI_ins h.2 t ht
theorem tasksS_ins {d : Disp} : ∀ {ts pre : List Task}, tasksS d pre ts = true → ∀ t ∈ ts, inB t.j 0 ((d.js.length : Int) - 1) = true
  | [], _, _, t, ht => by cases ht
  | x :: r, pre, h, t, ht => by
    rw [tasksS] at h
    simp only [Bool.and_eq_true, okT] at h
    rcases List.mem_cons.1 ht with rfl | ht
    · exact h.1.1.1.1.1.1
    · exact tasksS_ins h.2 t ht
structure Facts (d : Disp) (M : Nat) : Prop where
  hM : d.m = M
  m4 : M ≤ 4
  js8 : d.js.length ≤ 8
  n0 : 0 ≤ d.now
  n1 : d.now ≤ 1000
  ins : Ins d
theorem inB_spec {x a b : Int} (h : inB x a b = true) : a ≤ x ∧ x ≤ b := by simpa [inB] using h
theorem goodI_facts {d : Disp} (h : goodI d = true) : Facts d d.m.toNat := by
  simp only [goodI, Bool.and_eq_true] at h
  obtain ⟨⟨⟨⟨h1, h2⟩, h3⟩, h4, h5⟩, h6⟩ := h
  have h1 := inB_spec h1
  have h3 := inB_spec h3
  exact ⟨by omega, by omega, by simpa using h4, h3.1, h3.2, tasksI_ins h6⟩
theorem goodD_facts {d : Disp} (h : goodD d = true) : Facts d d.m.toNat := by
  simp only [goodD, Bool.and_eq_true] at h
  obtain ⟨⟨⟨⟨h1, h2⟩, h3⟩, h4, h5⟩, h6⟩ := h
  have h1 := inB_spec h1
  have h3 := inB_spec h3
  exact ⟨by omega, by omega, by simpa using h5, h3.1, h3.2, tasksS_ins h6⟩
def finI (d : Disp) : Option Disp := if goodI d then finGo (stepI · d.m.toNat) (1000 - d.now).toNat d else none
theorem FinishAll_run {h : Hp} {vj vt : Value} {d : Disp} (o : DOk h vj vt d) :
    RunsC P G n_impl_FinishAll [dv d vj vt] h fun v h' => h <+: h' ∧ ∃ vj' vt', v = .tuple #[dv (outD (finI d)) vj' vt', .bool (finI d).isSome] ∧ DSt h.length h' vj' vt' (outD (finI d)) := by
  refine enter_run e_impl_FinishAll (by simp) ?_
  have os := o
  obtain ⟨⟨oj, cj, ej⟩, ot, ct, et⟩ := o.shapes
  subst ej; subst et
  have s0 : (h ++ [some ⟨[.int .i64 d.m, .int .i64 d.p, .int .i64 d.now, .slice oj d.js.length cj, .slice ot d.ts.length ct], 0, false⟩, some ⟨[.int .i64 0, .int .i64 0, .int .i64 0, .slice none 0 0, .slice none 0 0], 0, false⟩]) <+: (h ++ [some ⟨[.int .i64 d.m, .int .i64 d.p, .int .i64 d.now, .slice oj d.js.length cj, .slice ot d.ts.length ct], 0, false⟩, some ⟨[.int .i64 0, .int .i64 0, .int .i64 0, .slice none 0 0, .slice none 0 0], 0, false⟩]) := List.prefix_rfl
  have r1 := fun l => IsDispatcher_run (os.ext l)
  cases hg : goodI d
  · have hx : finI d = none := by rw [finI, if_neg (by rw [hg]; simp)]
    simp -implicitDefEqProofs [CL_ret (r1 _), hg, hx]
    rw [gc_np (by simp [plain, plainC])]
    exact ⟨List.prefix_append .., _, _, ⟨rfl, rfl, rfl, rfl, rfl⟩, zD_st⟩
  · have F := goodI_facts hg
    have hx : finI d = finGo (stepI · d.m.toNat) (1000 - d.now).toNat d := by rw [finI, if_pos hg]
    simp -implicitDefEqProofs [CL_ret (r1 _), hg]
    refine CL_post (Down_run (os.ext _)) fun v h1 hv => ?_
    obtain ⟨hp1, vj1, vt1, rfl, D1⟩ := hv
    have b2 := boxP1 hp1
    have hl1 := hp1.length_le
    simp at hl1
    simp -implicitDefEqProofs
    refine CL_post (finished_run D1 (by simpa using hl1) F.ins F.hM (by have := F.m4; omega) (by have := F.js8; omega) F.n0 F.n1) fun v h2 hv => ?_
    obtain ⟨vj2, vt2, rfl, D2, hk2⟩ := hv
    rw [← hx] at D2 ⊢
    have b3 := b2.keepsO D1.t hk2 (by omega)
    obtain ⟨⟨oj2, cj2, ej⟩, ot2, ct2, et⟩ := D2.ok.shapes
    subst ej; subst et
    obtain ⟨h3, hs3, b4, k3⟩ := dset_all (m' := (outD (finI d)).m) (p' := (outD (finI d)).p) (w' := (outD (finI d)).now) (oj := oj2) (nj := (outD (finI d)).js.length) (cj := cj2) (ot := ot2) (nt := (outD (finI d)).ts.length) (ct := ct2) b3
    have p1 : h <+: h1 := (List.prefix_append ..).trans hp1
    have p2 : h <+: h2 := hk2.pre p1 (fun j hj => by have := D1.t.row_ge hj; simp at this; omega)
    have p3 : h <+: h3 := k3.pre p2 (fun j hj => by cases hj; omega)
    simp -implicitDefEqProofs [hs3, dbox b4]
    rw [gc_np (by simp [plain, plainC])]
    exact ⟨p3, _, _, ⟨rfl, rfl⟩, (D2.j.keepsB b3 k3 (by omega)).low (by simp), (D2.t.keepsB b3 k3 (by omega)).low (by simp), D2.jn, D2.tn⟩
def finS (d : Disp) : Option Disp := if goodD d then finGo (stepS · d.m.toNat) (1000 - d.now).toNat d else none
theorem specFinishAll_run {h : Hp} {vj vt : Value} {d : Disp} (o : DOk h vj vt d) :
    RunsC P G n_spec_FinishAll [dv d vj vt] h fun v h' => h <+: h' ∧ ∃ vj' vt', v = .tuple #[dv (outD (finS d)) vj' vt', .bool (finS d).isSome] ∧ DSt h.length h' vj' vt' (outD (finS d)) := by
  refine enter_run e_spec_FinishAll (by simp) ?_
  have os := o
  obtain ⟨⟨oj, cj, ej⟩, ot, ct, et⟩ := o.shapes
  subst ej; subst et
  have r1 := fun l => l12Good_run (os.ext l)
  cases hg : goodD d
  · have hx : finS d = none := by rw [finS, if_neg (by rw [hg]; simp)]
    simp -implicitDefEqProofs [CL_ret (r1 _), hg, hx]
    rw [gc_np (by simp [plain, plainC])]
    exact ⟨List.prefix_append .., _, _, ⟨rfl, rfl, rfl, rfl, rfl⟩, zD_st⟩
  · have F := goodD_facts hg
    have hx : finS d = finGo (stepS · d.m.toNat) (1000 - d.now).toNat d := by rw [finS, if_pos hg]
    simp -implicitDefEqProofs [CL_ret (r1 _), hg]
    refine CL_post (l12Own_run (os.ext _)) fun v h1 hv => ?_
    obtain ⟨hp1, vj1, vt1, rfl, D1⟩ := hv
    have b2 := boxP1 hp1
    have hl1 := hp1.length_le
    simp at hl1
    have p1 : h <+: h1 := (List.prefix_append ..).trans hp1
    obtain ⟨⟨oj1, cj1, ej⟩, ot1, ct1, et⟩ := D1.ok.shapes
    subst ej; subst et
    simp -implicitDefEqProofs
    have b3 : BoxAt (h1 ++ [some ⟨[.int .i64 d.m, .int .i64 d.p, .int .i64 d.now, .slice oj1 d.js.length cj1, .slice ot1 d.ts.length ct1], 0, false⟩]) h1.length [.int .i64 d.m, .int .i64 d.p, .int .i64 d.now, .slice oj1 d.js.length cj1, .slice ot1 d.ts.length ct1] := boxP List.prefix_rfl
    refine R_loop (fun n s h' => ∃ (d' : Disp) (vj' vt' : Value), n = (1000 - d'.now).toNat ∧ 0 ≤ d'.now ∧ d'.now ≤ 1000 ∧ d'.js = d.js ∧ d'.m = d.m ∧ s = [(2, .pointer (some ⟨h.length + 1, 0, some 5⟩)), (4, .pointer (some ⟨h1.length, 0, some 5⟩))] ∧
      BoxAt h' h1.length [.int .i64 d'.m, .int .i64 d'.p, .int .i64 d'.now, vj', vt'] ∧ BoxAt h' (h.length + 1) [.int .i64 0, .int .i64 0, .int .i64 0, .slice none 0 0, .slice none 0 0] ∧
      DSt h.length h' vj' vt' d' ∧ Ins d' ∧ h <+: h' ∧ finS d = finGo (stepS · d.m.toNat) n d') (fun n s h' => ?_) ⟨d, _, _, rfl, F.n0, F.n1, rfl, rfl, by simp, b3, b2.ext _, (D1.low (by simp)).pre (List.prefix_append ..), F.ins, p1.trans (List.prefix_append ..), hx⟩
    rintro ⟨d', vj', vt', hnn, g0, g1, hjs', hm', rfl, c1, c2, D2, hin1, hp2, hx2⟩
    have hl2 := hp2.length_le
    obtain ⟨⟨oj', cj', ej⟩, ot', ct', et⟩ := D2.ok.shapes
    subst ej; subst et
    by_cases hlt : d'.ts.length < d'.js.length
    · by_cases h1000 : d'.now = 1000
      · have hx3 : finS d = none := by
          rw [hx2]
          cases n with
          | zero => rw [finGo, if_pos hlt]
          | succ n => omega
        obtain ⟨h3, hs3, c3, k3⟩ := dset_all (m' := 0) (p' := 0) (w' := 0) (oj := none) (nj := 0) (cj := 0) (ot := none) (nt := 0) (ct := 0) c2
        have p3 : h <+: h3 := k3.pre hp2 (fun j hj => by cases hj; omega)
        simp -implicitDefEqProofs [hlt, dbox c1, h1000, hs3, dbox c3, hx3]
        rw [gc_np (by simp [plain, plainC])]
        exact ⟨p3, _, _, ⟨rfl, rfl, rfl, rfl, rfl⟩, zD_st⟩
      · obtain ⟨n, rfl⟩ : ∃ n', n = n' + 1 := ⟨n - 1, by omega⟩
        rw [finGo, if_pos hlt, if_neg h1000] at hx2
        have hM' : d'.m = d.m.toNat := by rw [hm', ← F.hM]
        have st := l12Step_run D2.ok hin1 hM' (by have := F.m4; omega) (by rw [hjs'] at hlt; have := F.js8; omega)
        simp -implicitDefEqProofs [hlt, dbox c1, h1000, nb h1000]
        refine CL_post st fun v h3 hv => ?_
        obtain ⟨hp3, vj3, vt3, rfl, D3, hin3, _⟩ := hv
        have c3 := c1.pre hp3
        have c4 := c2.pre hp3
        obtain ⟨⟨oj3, cj3, ej⟩, ot3, ct3, et⟩ := D3.ok.shapes
        subst ej; subst et
        obtain ⟨h4, hs4, c5, k4⟩ := dset_all (m' := (stepS d' d.m.toNat).m) (p' := (stepS d' d.m.toNat).p) (w' := (stepS d' d.m.toNat).now) (oj := oj3) (nj := (stepS d' d.m.toNat).js.length) (cj := cj3) (ot := ot3) (nt := (stepS d' d.m.toNat).ts.length) (ct := ct3) c3
        have c6 := c4.keepsB k4 (by omega)
        have p4 : h <+: h4 := k4.pre (hp2.trans hp3) (fun j hj => by cases hj; omega)
        have hnow : (stepS d' d.m.toNat).now = d'.now + 1 := w64_ok' (by omega) (by omega)
        simp -implicitDefEqProofs [hs4]
        exact ⟨n, by omega, stepS d' d.m.toNat, by rw [hnow]; omega, by omega, by omega, hjs', hm', _, _, c5, c6, ⟨(D3.j.keepsB c3 k4 (by omega)).low hl2, (D3.t.keepsB c3 k4 (by omega)).low hl2, D3.jn, D3.tn⟩, hin3, p4, hx2⟩
    · have hx3 : finS d = some d' := by
        rw [hx2]
        cases n <;> rw [finGo, if_neg hlt]
      obtain ⟨h3, hs3, c3, k3⟩ := dset_all (m' := d'.m) (p' := d'.p) (w' := d'.now) (oj := oj') (nj := d'.js.length) (cj := cj') (ot := ot') (nt := d'.ts.length) (ct := ct') c2
      have p3 : h <+: h3 := k3.pre hp2 (fun j hj => by cases hj; omega)
      simp -implicitDefEqProofs [hlt, dbox c1, hs3, dbox c3, hx3]
      rw [gc_np (by simp [plain, plainC])]
      exact ⟨p3, _, _, ⟨rfl, rfl⟩, ⟨D2.j.keepsB c2 k3 (by omega), D2.t.keepsB c2 k3 (by omega), D2.jn, D2.tn⟩⟩
end Go.Pm.PP

/- Dispatchers: the program and the reference do the same. -/
set_option linter.unusedVariables false
set_option linter.unusedSimpArgs false
namespace Go.Pm.PP
open Go.Pm Go.Proofs
theorem okT_eq {d : Disp} {x : Task} (h0 : 0 ≤ d.now) (h1 : d.now ≤ 1000) : okT d x = okI d x := by
  unfold okT okI
  rw [show w64 (d.now - 1) = d.now - 1 from w64_ok' (by omega) (by omega), Bool.and_assoc]
  congr 1
  rw [Bool.eq_iff_iff]
  simp [inB]
  omega
theorem tasks_eq {d : Disp} (h0 : 0 ≤ d.now) (h1 : d.now ≤ 1000) : ∀ {ts pre : List Task}, tasksS d pre ts = tasksI d pre ts
  | [], _ => rfl
  | x :: r, pre => by
    rw [tasksS, tasksI, okT_eq h0 h1, tasks_eq h0 h1]
    cases okI d x <;> cases (pre.any (clash d x)) <;> cases badO pre.getLast? x <;> rfl
theorem goodDI {d : Disp} : goodD d = goodI d := by
  unfold goodD goodI
  cases h : inB d.now 0 1000
  · simp
  · have h2 := inB_spec h
    rw [tasks_eq h2.1 h2.2, Bool.and_comm (goodL d.js)]
/-- No two tasks of a machine overlap. -/
def NoLap (d : Disp) : Prop := d.ts.Pairwise fun x y => x.m = y.m → w64 (x.s + (jobAt d.js x.j).t) ≤ y.s
def Sle (d : Disp) : Prop := ∀ t ∈ d.ts, t.s ≤ d.now
theorem tasksS_lap {d : Disp} : ∀ {ts pre : List Task}, tasksS d pre ts = true → pre.Pairwise (fun x y => x.m = y.m → w64 (x.s + (jobAt d.js x.j).t) ≤ y.s) → (pre ++ ts).Pairwise fun x y => x.m = y.m → w64 (x.s + (jobAt d.js x.j).t) ≤ y.s
  | [], pre, _, hp => by simpa using hp
  | x :: r, pre, h, hp => by
    rw [tasksS] at h
    simp only [Bool.and_eq_true, Bool.not_eq_true'] at h
    obtain ⟨⟨⟨_, h2⟩, _⟩, h4⟩ := h
    have := tasksS_lap h4 (pre := pre ++ [x]) (by
      rw [List.pairwise_append]
      refine ⟨hp, List.pairwise_singleton .., fun y hy z hz hm => ?_⟩
      obtain rfl := List.mem_singleton.1 hz
      rw [List.any_eq_false] at h2
      have h5 := h2 y hy
      simp [clash] at h5
      exact h5.2 hm)
    simpa using this
theorem tasksS_sle {d : Disp} : ∀ {ts pre : List Task}, tasksS d pre ts = true → ∀ t ∈ ts, t.s ≤ d.now
  | [], _, _, t, ht => by cases ht
  | x :: r, pre, h, t, ht => by
    rw [tasksS] at h
    simp only [Bool.and_eq_true, okT, Bool.not_eq_true', decide_eq_false_iff_not] at h
    rcases List.mem_cons.1 ht with rfl | ht
    · have := h.1.1.1.1.2; omega
    · exact tasksS_sle h.2 t ht
theorem onM_ts {d : Disp} {ts : List Task} {m : Int} {t : Task} : onM { d with ts := ts } m t = onM d m t := rfl
theorem runFirst_ts {d : Disp} {us : List Task} {m : Int} : ∀ {ts : List Task}, runFirst { d with ts := us } m ts = runFirst d m ts
  | [] => rfl
  | t :: r => by rw [runFirst, runFirst, runFirst_ts, onM_ts]
theorem runLast_none {d : Disp} {m a : Int} : ∀ {ts : List Task}, (∀ t ∈ ts, onM d m t = false) → runLast d m ts a = a
  | [], _ => rfl
  | t :: r, h => by
    rw [runLast, h t (List.mem_cons_self ..)]
    exact runLast_none fun t ht => h t (List.mem_cons_of_mem _ ht)
theorem run_eq {d : Disp} {m : Int} : ∀ {ts : List Task}, ts.Pairwise (fun x y => x.m = y.m → w64 (x.s + (jobAt d.js x.j).t) ≤ y.s) → (∀ t ∈ ts, t.s ≤ d.now) → runLast d m ts (-1) = runFirst d m ts
  | [], _, _ => rfl
  | t :: r, hp, hs => by
    rw [List.pairwise_cons] at hp
    rw [runLast, runFirst]
    cases h : onM d m t
    · simpa using run_eq hp.2 fun t ht => hs t (List.mem_cons_of_mem _ ht)
    · rw [if_pos rfl, if_pos rfl]
      refine runLast_none fun u hu => ?_
      cases h2 : onM d m u
      · rfl
      · exfalso
        simp [onM] at h h2
        have := hp.1 u hu (by omega)
        have := hs u (List.mem_cons_of_mem _ hu)
        omega
theorem runFirst_app {d : Disp} {m : Int} : ∀ {ts us : List Task}, (∀ t ∈ us, t.m ≠ m) → runFirst d m (ts ++ us) = runFirst d m ts
  | [], us, h => by
    have : ∀ {us : List Task}, (∀ t ∈ us, t.m ≠ m) → runFirst d m us = -1 := by
      intro us
      induction us with
      | nil => intro _; rfl
      | cons u r ih =>
        intro h
        rw [runFirst, show onM d m u = false by simp [onM, h u (List.mem_cons_self ..)]]
        simpa using ih fun t ht => h t (List.mem_cons_of_mem _ ht)
    simpa [runFirst] using this h
  | t :: r, us, h => by
    rw [List.cons_append, runFirst, runFirst, runFirst_app h]
theorem runFirst_neg {d : Disp} {m : Int} : ∀ {ts : List Task}, (∀ t ∈ ts, 0 ≤ t.j) → runFirst d m ts < 0 → ∀ t ∈ ts, onM d m t = false
  | [], _, _, t, ht => by cases ht
  | x :: r, h0, h, t, ht => by
    rw [runFirst] at h
    cases hx : onM d m x
    · rw [hx] at h
      rcases List.mem_cons.1 ht with rfl | ht
      · exact hx
      · exact runFirst_neg (fun t ht => h0 t (List.mem_cons_of_mem _ ht)) (by simpa using h) t ht
    · rw [hx, if_pos rfl] at h
      have := h0 x (List.mem_cons_self ..)
      omega
/-! ### the job that is next -/
theorem waitGo_up {ts : List Task} {now : Int} : ∀ {js : List Job} {i : Nat}, (waitGo ts now js i).Pairwise (· < ·)
  | [], _ => List.Pairwise.nil
  | j :: r, i => by
    unfold waitGo
    split
    · rw [List.pairwise_cons]
      refine ⟨fun x hx => ?_, waitGo_up⟩
      obtain ⟨q, rfl, h2, _⟩ := waitGo_in rfl x hx
      omega
    · exact waitGo_up
theorem fGo_one {d : Disp} (hp : d.p = 1) : ∀ {l : List Int} {b : Int}, 0 ≤ b → (∀ x ∈ l, b < x ∧ x < 2 ^ 50) → fGo d l b = b
  | [], _, _, _ => rfl
  | i :: r, b, hb, h => by
    have h1 := h i (List.mem_cons_self ..)
    rw [fGo, show decide (aheadS d i b < 0) = false by
      simp only [aheadS, hp]
      rw [if_neg (by omega), w64_ok' (by omega) (by omega)]
      simp; omega]
    exact fGo_one hp hb fun x hx => h x (List.mem_cons_of_mem _ hx)
theorem pickGo_one {d : Disp} (hp : d.p = 1) : ∀ {l : List Int} {b : Int}, 0 ≤ b → pickGo d l b = b
  | [], _, _ => rfl
  | i :: r, b, hb => by
    rw [pickGo, hp]
    simp [show ¬ b < 0 by omega, pickGo_one hp hb]
theorem pickGo_f {d : Disp} (hp : d.p = 2 ∨ d.p = 3 ∨ d.p = 4) : ∀ {l : List Int} {b : Int}, 0 ≤ b → (∀ x ∈ l, 0 ≤ x) → pickGo d l b = fGo d l b
  | [], _, _, _ => rfl
  | i :: r, b, hb, h => by
    have hr : ruleOf d.p = d.p := by rcases hp with h | h | h <;> rw [h] <;> rfl
    have h1 : (!(d.p == 1)) = true := by rcases hp with h | h | h <;> rw [h] <;> rfl
    rw [pickGo, fGo, h1, hr, aheadS, if_pos hp, show decide (b < 0) = false by simp; omega, Bool.false_or, Bool.true_and]
    refine pickGo_f hp ?_ fun x hx => h x (List.mem_cons_of_mem _ hx)
    split
    · exact h i (List.mem_cons_self ..)
    · exact hb
theorem pick_first {d : Disp} (hp : 1 ≤ d.p ∧ d.p ≤ 4) (hj : d.js.length ≤ 2 ^ 40) : pickI d = firstS d := by
  unfold pickI firstS
  have hin := waitL_in (d := d)
  have hup : (waitL d).Pairwise (· < ·) := waitGo_up
  cases hw : waitL d with
  | nil => rfl
  | cons x r =>
    rw [hw] at hin hup
    rw [pickGo, show decide ((-1 : Int) < 0) = true from rfl, Bool.true_or, if_pos rfl]
    obtain ⟨q, hq, hql⟩ := hin x (List.mem_cons_self ..)
    rw [List.pairwise_cons] at hup
    rcases show d.p = 1 ∨ (d.p = 2 ∨ d.p = 3 ∨ d.p = 4) by omega with h | h
    · rw [pickGo_one h (by omega)]
      refine (fGo_one h (by omega) fun y hy => ⟨hup.1 y hy, ?_⟩).symm
      obtain ⟨q2, hq2, hql2⟩ := hin y (List.mem_cons_of_mem _ hy)
      omega
    · exact pickGo_f h (by omega) fun y hy => by obtain ⟨q2, hq2, _⟩ := hin y (List.mem_cons_of_mem _ hy); omega
/-! ### a time step -/
structure Good (d : Disp) (M : Nat) : Prop where
  lap : NoLap d
  sle : Sle d
  ins : Ins d
  p : 1 ≤ d.p ∧ d.p ≤ 4
  js : d.js.length ≤ 8
  n0 : 0 ≤ d.now
  n1 : d.now ≤ 1000
theorem goodD_good {d : Disp} (h : goodD d = true) : Good d d.m.toNat := by
  have F := goodD_facts h
  simp only [goodD, Bool.and_eq_true] at h
  exact ⟨by have := tasksS_lap h.2 List.Pairwise.nil; rw [List.nil_append] at this; exact this, tasksS_sle h.2, F.ins, inB_spec h.1.1.1.2, F.js8, F.n0, F.n1⟩
theorem ins0 {d : Disp} (h : Ins d) : ∀ t ∈ d.ts, 0 ≤ t.j := fun t ht => (inB_spec (h t ht)).1
/-- A step by the reference, from machine k on, and by the program. -/
theorem step_go {d : Disp} {M : Nat} (hg : Good d M) : ∀ {n k : Nat} {us : List Task}, (∀ t ∈ us, t.m < k) → NoLap { d with ts := d.ts ++ us } → Sle { d with ts := d.ts ++ us } → Ins { d with ts := d.ts ++ us } →
    stepGo d ((List.range' k n).map fun k => runLast d (k : Nat) d.ts (-1)) k (d.ts ++ us) = stepSGo d n k (d.ts ++ us) ∧
    NoLap { d with ts := stepSGo d n k (d.ts ++ us) } ∧ Sle { d with ts := stepSGo d n k (d.ts ++ us) } ∧ Ins { d with ts := stepSGo d n k (d.ts ++ us) }
  | 0, k, us, hu, h1, h2, h3 => ⟨rfl, h1, h2, h3⟩
  | n + 1, k, us, hu, h1, h2, h3 => by
    rw [List.range'_succ, List.map_cons, stepGo, stepSGo]
    have hr : runLast d k d.ts (-1) = runFirst { d with ts := d.ts ++ us } k (d.ts ++ us) := by
      rw [run_eq hg.lap hg.sle]
      exact ((runFirst_ts (d := d) (us := d.ts ++ us) (m := (k : Int)) (ts := d.ts ++ us)).trans (runFirst_app (d := d) (m := (k : Int)) (ts := d.ts) (us := us) fun t ht e => by have := hu t ht; omega)).symm
    have hpf : pickI { d with ts := d.ts ++ us } = firstS { d with ts := d.ts ++ us } := pick_first (d := { d with ts := d.ts ++ us }) hg.p (by have := hg.js; show d.js.length ≤ _; omega)
    rw [hr]
    by_cases c1 : runFirst { d with ts := d.ts ++ us } k (d.ts ++ us) < 0
    · rw [if_neg (by omega), putT, hpf]
      by_cases c2 : firstS { d with ts := d.ts ++ us } ≥ 0
      · rw [if_pos c2, show (decide (runFirst { d with ts := d.ts ++ us } k (d.ts ++ us) < 0) && decide (firstS { d with ts := d.ts ++ us } ≥ 0)) = true by simp [c1]; exact c2, if_pos rfl, List.append_assoc]
        rcases firstS_in (d := { d with ts := d.ts ++ us }) with h0 | ⟨q, hq, hql⟩
        · omega
        have hno := runFirst_neg (ins0 h3) c1
        refine step_go hg (us := us ++ [⟨firstS { d with ts := d.ts ++ us }, k, d.now⟩]) (fun t ht => ?_) ?_ ?_ ?_
        · rcases List.mem_append.1 ht with h | h
          · have := hu t h; omega
          · rw [List.mem_singleton.1 h]; show (k : Int) < ((k + 1 : Nat) : Int); omega
        · show List.Pairwise _ (d.ts ++ (us ++ [_]))
          rw [← List.append_assoc, List.pairwise_append]
          refine ⟨h1, List.pairwise_singleton .., fun x hx y hy hm => ?_⟩
          obtain rfl := List.mem_singleton.1 hy
          have h4 := hno x hx
          have h5 := h2 x hx
          have h5' : x.s ≤ d.now := h5
          simp [onM] at h4
          exact h4 hm h5'
        · intro t ht
          have ht' : t ∈ d.ts ++ us ∨ t = ⟨firstS { d with ts := d.ts ++ us }, k, d.now⟩ := by
            have : t ∈ d.ts ++ (us ++ [⟨firstS { d with ts := d.ts ++ us }, k, d.now⟩]) := ht
            rw [← List.append_assoc] at this
            rcases List.mem_append.1 this with h | h
            · exact .inl h
            · exact .inr (List.mem_singleton.1 h)
          rcases ht' with h | rfl
          · exact h2 t h
          · exact Int.le_refl _
        · have := Ins.add h3 hql k d.now
          rw [← hq] at this
          show Ins { d with ts := d.ts ++ (us ++ [_]) }
          rw [← List.append_assoc]; exact this
      · rw [if_neg c2, show (decide (runFirst { d with ts := d.ts ++ us } k (d.ts ++ us) < 0) && decide (firstS { d with ts := d.ts ++ us } ≥ 0)) = false by simp [c1]; omega, if_neg (by simp)]
        exact step_go hg (fun t ht => by have := hu t ht; omega) h1 h2 h3
    · rw [if_pos (by omega), show (decide (runFirst { d with ts := d.ts ++ us } k (d.ts ++ us) < 0) && decide (firstS { d with ts := d.ts ++ us } ≥ 0)) = false by simp [c1], if_neg (by simp)]
      exact step_go hg (fun t ht => by have := hu t ht; omega) h1 h2 h3
theorem step_eq {d : Disp} {M : Nat} (hg : Good d M) (hn : d.now < 1000) : stepI d M = stepS d M ∧ Good (stepS d M) M := by
  have := step_go hg (n := M) (k := 0) (us := []) (by simp) (by simpa using hg.lap) (by simpa using hg.sle) (by simpa using hg.ins)
  simp only [List.append_nil] at this
  obtain ⟨h1, h2, h3, h4⟩ := this
  have hn0 := hg.n0
  have hw : w64 (d.now + 1) = d.now + 1 := w64_ok' (by omega) (by omega)
  refine ⟨?_, h2, fun t ht => ?_, h4, hg.p, hg.js, ?_, ?_⟩
  · rw [stepI, stepS, runL, List.range_eq_range', h1]
  · have h5 : t.s ≤ d.now := h3 t ht
    show t.s ≤ w64 (d.now + 1)
    rw [hw]; omega
  · show 0 ≤ w64 (d.now + 1)
    rw [hw]; omega
  · show w64 (d.now + 1) ≤ 1000
    rw [hw]; omega
theorem fin_eq {M : Nat} : ∀ {n : Nat} {d : Disp}, Good d M → finGo (stepI · M) n d = finGo (stepS · M) n d
  | 0, d, _ => rfl
  | n + 1, d, hg => by
    rw [finGo, finGo]
    split
    · split
      · rfl
      · rename_i h1
        obtain ⟨h2, h3⟩ := step_eq hg (by have := hg.n1; omega)
        simp only [h2]
        exact fin_eq h3
    · rfl
theorem finIS {d : Disp} : finI d = finS d := by
  unfold finI finS
  rw [goodDI]
  cases h : goodI d
  · rfl
  · rw [if_pos rfl, if_pos rfl]
    exact fin_eq (goodD_good (by rw [goodDI]; exact h))
end Go.Pm.PP

/- Acts: which are named, and their conditions. -/
set_option linter.unusedVariables false
set_option linter.unusedSimpArgs false
set_option maxRecDepth 4000
set_option maxHeartbeats 1000000
namespace Go.Pm.PP
open Go.Pm Go.Proofs
structure Act where
  k : Int
  a : Int
  b : Int
  job : Job
abbrev av (x : Act) : Value := .agg #[.int .i64 x.k, .int .i64 x.a, .int .i64 x.b, .int .i64 x.job.t, .int .i64 x.job.w, .int .i64 x.job.r, .int .i64 x.job.d]
def encA (x : Act) : List Value := [.int .i64 x.k, .int .i64 x.a, .int .i64 x.b, .int .i64 x.job.t, .int .i64 x.job.w, .int .i64 x.job.r, .int .i64 x.job.d]
theorem eq_Job {t w r d t' w' r' d' : Int} : eqAgg P t_impl_Job (.agg #[.int .i64 t, .int .i64 w, .int .i64 r, .int .i64 d]) (.agg #[.int .i64 t', .int .i64 w', .int .i64 r', .int .i64 d']) = some ((t == t') && ((w == w') && ((r == r') && ((d == d') && true)))) := by kernel_rfl
theorem eq_Act {k a b t w r d k' a' b' t' w' r' d' : Int} : eqAgg P t_impl_Act (.agg #[.int .i64 k, .int .i64 a, .int .i64 b, .int .i64 t, .int .i64 w, .int .i64 r, .int .i64 d]) (.agg #[.int .i64 k', .int .i64 a', .int .i64 b', .int .i64 t', .int .i64 w', .int .i64 r', .int .i64 d']) =
    some ((k == k') && ((a == a') && ((b == b') && (((t == t') && ((w == w') && ((r == r') && ((d == d') && true)))) && true)))) := by kernel_rfl
def zJob (j : Job) : Bool := (j.t == 0) && ((j.w == 0) && ((j.r == 0) && (j.d == 0)))
def namedA (x : Act) : Bool :=
  if x.k = 1 then (x.a == 0) && (x.b == 0) else if x.k = 5 then zJob x.job else if x.k = 2 ∨ x.k = 3 ∨ x.k = 4 then (x.b == 0) && zJob x.job else (x.a == 0) && ((x.b == 0) && zJob x.job)
theorem named_run {h : Hp} {x : Act} : Ret P G n_impl_Act_named [av x] h (.bool (namedA x)) h := by
  refine enter_run e_impl_Act_named (by simp) ?_
  by_cases h1 : x.k = 1
  · simp -implicitDefEqProofs [h1, namedA, eq_Act]
  · by_cases h5 : x.k = 5
    · simp -implicitDefEqProofs [h5, namedA, eq_Act, zJob]
    · by_cases h2 : x.k = 2
      · simp -implicitDefEqProofs [h2, namedA, eq_Act, zJob]
      · by_cases h3 : x.k = 3
        · simp -implicitDefEqProofs [h3, namedA, eq_Act, zJob]
        · by_cases h4 : x.k = 4
          · simp -implicitDefEqProofs [h4, namedA, eq_Act, zJob]
          · simp -implicitDefEqProofs [h1, h2, h3, h4, h5, nb h1, nb h2, nb h3, nb h4, nb h5, namedA, eq_Act, zJob]
def plainA (x : Act) : Bool :=
  if x.k = 1 then (x.a == 0) && (x.b == 0) else if x.k = 5 then zJob x.job else if x.k = 2 ∨ x.k = 3 ∨ x.k = 4 then (x.b == 0) && zJob x.job else ((x.k == 6) || (x.k == 7)) && (x.a == 0) && (x.b == 0) && zJob x.job
theorem l12Plain_run {h : Hp} {x : Act} : Ret P G n_spec_l12Plain [av x] h (.bool (plainA x)) h := by
  refine enter_run e_spec_l12Plain (by simp) ?_
  by_cases h1 : x.k = 1
  · cases c : (x.a == 0) <;> simp -implicitDefEqProofs [h1, plainA, eq_Job, c]
  · by_cases h5 : x.k = 5
    · simp -implicitDefEqProofs [h5, plainA, eq_Job, zJob]
    · by_cases h2 : x.k = 2
      · cases c : (x.b == 0) <;> simp -implicitDefEqProofs [h2, plainA, eq_Job, zJob, c]
      · by_cases h3 : x.k = 3
        · cases c : (x.b == 0) <;> simp -implicitDefEqProofs [h3, plainA, eq_Job, zJob, c]
        · by_cases h4 : x.k = 4
          · cases c : (x.b == 0) <;> simp -implicitDefEqProofs [h4, plainA, eq_Job, zJob, c]
          · cases c6 : (x.k == 6) <;> cases c7 : (x.k == 7) <;> cases ca : (x.a == 0) <;> cases cb : (x.b == 0) <;>
              simp -implicitDefEqProofs [h1, h2, h3, h4, h5, nb h1, nb h2, nb h3, nb h4, nb h5, plainA, eq_Job, zJob, c6, c7, ca, cb]
theorem l12Idle_run {h : Hp} {vj vt : Value} {d : Disp} {i : Int} (o : DOk h vj vt d) : Ret P G n_spec_l12Idle [dv d vj vt, .int .i64 i] h (.bool (inB i 0 ((d.js.length : Int) - 1) && !hasT i d.ts)) h := by
  refine enter_run e_spec_l12Idle (by simp) ?_
  have os := o
  obtain ⟨⟨oj, cj, rfl⟩, ot, ct, rfl⟩ := o.shapes
  have r1 := fun l => l3Job_run (i := i) (os.j.ext l) os.jn
  have r2 := fun l => l12Task_run (i := i) (os.ext l)
  cases c : inB i 0 ((d.js.length : Int) - 1) <;> simp -implicitDefEqProofs [CL_ret (r1 _), CL_ret (r2 _), CH_at (r1 _), CH_at (r2 _), c]
def usedM (m : Int) (ts : List Task) : Bool := ts.any (·.m == m)
theorem usedM_cons {i : Int} {t : Task} {ts : List Task} : usedM i (t :: ts) = ((t.m == i) || usedM i ts) := rfl
theorem usedM_nil {i : Int} : usedM i [] = false := rfl
theorem l12Used_run {h : Hp} {vj vt : Value} {d : Disp} {i : Int} (o : DOk h vj vt d) :
    Ret P G n_spec_l12Used [dv d vj vt, .int .i64 i] h (.bool (usedM i d.ts)) h := by
  refine enter_run e_spec_l12Used (by simp) ?_
  have os := o
  obtain ⟨⟨oj, cj, rfl⟩, ot, ct, rfl⟩ := o.shapes
  simp -implicitDefEqProofs
  refine R_loop (fun n s h' => ∃ k : Nat, k + n = d.ts.length ∧ s = [(1, .int .i64 i), (2, .pointer (some ⟨h.length, 0, some 5⟩)), (5, .int .i64 k)] ∧ h' = h ++ [some ⟨[.int .i64 d.m, .int .i64 d.p, .int .i64 d.now, .slice oj d.js.length cj, .slice ot d.ts.length ct], 0, false⟩] ∧ usedM i d.ts = usedM i (d.ts.drop k)) (fun n s h' => ?_) ⟨0, Nat.zero_add _, by simp, rfl, by simp⟩
  rintro ⟨k, hi, rfl, rfl, hx⟩
  by_cases hlt : k < d.ts.length
  · obtain ⟨y, hy, hd⟩ := drop_at hlt
    rw [hd, usedM_cons] at hx
    simp -implicitDefEqProofs [hlt, tasksL (os.t.ext _) hy]
    refine CB_split (fun h => ?_) (fun h => ?_)
    · simp -implicitDefEqProofs [hx, h]
    · rw [h, Bool.false_or] at hx
      simp -implicitDefEqProofs [winc hlt os.tn]
      exact ⟨n - 1, by omega, k + 1, by omega, rfl, hx⟩
  · rw [List.drop_eq_nil_of_le (by omega), usedM_nil] at hx
    simp -implicitDefEqProofs [hlt, hx]
def mayA (d : Disp) (x : Act) : Bool :=
  if x.k = 1 then decide (x.job.r ≥ d.now) else if x.k = 2 then inB x.a 1 (w64 (1000 - d.now)) else if x.k = 4 ∨ x.k = 5 then inB x.a 0 ((d.js.length : Int) - 1) && !hasT x.a d.ts else if x.k = 7 then !usedM (w64 (d.m - 1)) d.ts else true
theorem l12May_run {h : Hp} {vj vt : Value} {d : Disp} {x : Act} (o : DOk h vj vt d) : Ret P G n_spec_l12May [dv d vj vt, av x] h (.bool (mayA d x)) h := by
  refine enter_run e_spec_l12May (by simp) ?_
  have os := o
  obtain ⟨⟨oj, cj, rfl⟩, ot, ct, rfl⟩ := o.shapes
  have r1 := fun l => l12Idle_run (i := x.a) (os.ext l)
  have r2 := fun l => l12Used_run (i := IntKind.i64.wrap (d.m - 1)) (os.ext l)
  by_cases h1 : x.k = 1
  · simp -implicitDefEqProofs [h1, mayA]
  · by_cases h2 : x.k = 2
    · simp -implicitDefEqProofs [h2, mayA, CL_ret l1In_run, w64]
    · by_cases h4 : x.k = 4
      · simp -implicitDefEqProofs [h4, mayA, CL_ret (r1 _)]
      · by_cases h5 : x.k = 5
        · simp -implicitDefEqProofs [h5, mayA, CL_ret (r1 _)]
        · by_cases h7 : x.k = 7
          · simp -implicitDefEqProofs [h7, mayA, CL_ret (r2 _), w64]
          · simp -implicitDefEqProofs [h1, h2, h4, h5, h7, nb h1, nb h2, nb h4, nb h5, nb h7, mayA]
end Go.Pm.PP

/- FnExactPriceProof: comparing copies. Only equal ones are compared. -/
set_option linter.unusedVariables false
set_option linter.unusedSimpArgs false
set_option maxRecDepth 4000
set_option maxHeartbeats 4000000
namespace Go.Pm.PP
open Go.Pm Go.Proofs
theorem eqIntS_run {h : Hp} {v u : Value} {xs : List Int} (hv : Ints h v xs) (hu : Ints h u xs) (hn : xs.length ≤ 2 ^ 40) :
    Ret P G n_laws_eqIntS [v, u] h (.bool true) h := by
  refine enter_run e_laws_eqIntS (by simp) ?_
  obtain ⟨oa, c, rfl⟩ := hv.shapeT
  obtain ⟨ob, d, rfl⟩ := hu.shapeT
  simp -implicitDefEqProofs
  refine R_loop (fun m s h' => ∃ i : Nat, i + m = xs.length ∧ s = [(0, .slice oa xs.length c), (1, .slice ob xs.length d), (5, .int .i64 i)] ∧ h' = h) (fun m s h' => ?_) ⟨0, Nat.zero_add _, by simp, rfl⟩
  rintro ⟨i, hi, rfl, rfl⟩
  by_cases hlt : i < xs.length
  · obtain ⟨y, hy, hd⟩ := drop_at hlt
    have w0 : IntKind.i64.wrap (i + 1) = ((i : Int) + 1) := by rw [wrap_ok] <;> omega
    simp -implicitDefEqProofs [hlt, ints_idx hv (i := i) (by omega) (by omega), ints_idx hu (i := i) (by omega) (by omega), ints_ld hv hy, ints_ld hu hy, w0]
    exact ⟨m - 1, by omega, i + 1, by omega, by omega⟩
  · simp -implicitDefEqProofs [hlt]
theorem eqJob_run {h : Hp} {j : Job} : Ret P G n_laws_eqJob [jv j, jv j] h (.bool true) h := by
  refine enter_run e_laws_eqJob (by simp) ?_
  simp -implicitDefEqProofs
theorem eqJobS_run {h : Hp} {v u : Value} {js : List Job} (hv : Jobs h v js) (hu : Jobs h u js) (hn : js.length ≤ 2 ^ 40) :
    Ret P G n_laws_eqJobS [v, u] h (.bool true) h := by
  refine enter_run e_laws_eqJobS (by simp) ?_
  obtain ⟨oa, c, rfl⟩ := hv.shapeT
  obtain ⟨ob, d, rfl⟩ := hu.shapeT
  simp -implicitDefEqProofs
  refine R_loop (fun m s h' => ∃ i : Nat, i + m = js.length ∧ s = [(0, .slice oa js.length c), (1, .slice ob js.length d), (5, .int .i64 i)] ∧ h' = h) (fun m s h' => ?_) ⟨0, Nat.zero_add _, by simp, rfl⟩
  rintro ⟨i, hi, rfl, rfl⟩
  by_cases hlt : i < js.length
  · obtain ⟨y, hy, hd⟩ := drop_at hlt
    have w0 : IntKind.i64.wrap (i + 1) = ((i : Int) + 1) := by rw [wrap_ok] <;> omega
    simp -implicitDefEqProofs [hlt, jobs_idx hv hlt, jobs_idx hu hlt, jobs_agg hv hy, jobs_agg hu hy, CL_ret eqJob_run, CH_ret eqJob_run, w0]
    exact ⟨m - 1, by omega, i + 1, by omega, by omega⟩
  · simp -implicitDefEqProofs [hlt]
theorem eqSetPrice_run {h : Hp} {v u : Value} {xs : List Int} {p : Int} (hv : Ints h v xs) (hu : Ints h u xs) (hn : xs.length ≤ 2 ^ 40) :
    Ret P G n_laws_eqSetPrice [.agg #[v, .int .i64 p], .agg #[u, .int .i64 p]] h (.bool true) h := by
  refine enter_run e_laws_eqSetPrice (by simp) ?_
  obtain ⟨oa, c, rfl⟩ := hv.shapeT
  obtain ⟨ob, d, rfl⟩ := hu.shapeT
  have f := eqIntS_run (hv.ext [some ⟨[.slice oa xs.length c, .int .i64 p], 0, false⟩, some ⟨[.slice ob xs.length d, .int .i64 p], 0, false⟩]) (hu.ext _) hn
  simp -implicitDefEqProofs [CL_ret f]
theorem eqSetPriceS_run {h : Hp} {v u : Value} {ps qs : List SP} (hv : Prices h v ps) (hu : Prices h u qs) (hn : ps.length ≤ 2 ^ 40) (he : ps.map (fun x => (x.s, x.p)) = qs.map fun x => (x.s, x.p)) :
    Ret P G n_laws_eqSetPriceS [v, u] h (.bool true) h := by
  refine enter_run e_laws_eqSetPriceS (by simp) ?_
  have hl : qs.length = ps.length := by simpa using (congrArg List.length he).symm
  obtain ⟨oa, c, rfl⟩ := hv.sees.shapeT
  obtain ⟨ob, d, rfl⟩ := hu.sees.shapeT
  simp -implicitDefEqProofs [hl]
  refine R_loop (fun m s h' => ∃ i : Nat, i + m = ps.length ∧ s = [(0, .slice oa ps.length c), (1, .slice ob ps.length d), (5, .int .i64 i)] ∧ h' = h) (fun m s h' => ?_) ⟨0, Nat.zero_add _, by simp, rfl⟩
  rintro ⟨i, hi, rfl, rfl⟩
  rw [hl] at hu
  by_cases hlt : i < ps.length
  · obtain ⟨⟨yv, yl, yp⟩, hy, _⟩ := drop_at hlt
    obtain ⟨⟨zv, zl, zp⟩, hz, _⟩ := drop_at (show i < qs.length by omega)
    have := congrArg (·[i]?) he
    simp [hy, hz] at this
    obtain ⟨rfl, rfl⟩ := this
    obtain ⟨ys, yn⟩ : Ints h' yv yl ∧ yl.length ≤ 2 ^ 40 := hv.set _ (List.mem_of_getElem? hy)
    obtain ⟨zs, zn⟩ : Ints h' zv yl ∧ yl.length ≤ 2 ^ 40 := hu.set _ (List.mem_of_getElem? hz)
    have w0 : IntKind.i64.wrap (i + 1) = ((i : Int) + 1) := by rw [wrap_ok] <;> omega
    have i0 := prices_idx hv (i := i) (by omega) (by omega)
    have i1 := prices_idx hu (i := i) (by omega) (by omega)
    rw [show (i : Int).toNat = i by omega] at i0 i1
    have eqr := eqSetPrice_run (p := yp) ys zs yn
    simp -implicitDefEqProofs [hlt, i0, i1, prices_agg hv hy, prices_agg hu hz, CL_ret eqr, w0]
    exact ⟨m - 1, by omega, i + 1, by omega, by omega⟩
  · simp -implicitDefEqProofs [hlt]
end Go.Pm.PP

/- Dispatchers: copies, comparison, marks, by the laws' own functions. -/
set_option linter.unusedVariables false
set_option linter.unusedSimpArgs false
set_option maxRecDepth 4000
set_option maxHeartbeats 1000000
namespace Go.Pm.PP
open Go.Pm Go.Proofs
/-! ### writing elements -/
section
variable {b : Nat} {h : Hp} {v : Value} {i : Nat}
theorem tasks_set {ts : List Task} (o : Own b h v 3 (ts.map encT)) (hi : i < ts.length) (t : Task) :
    ∃ h', storeP P h t_impl_Task (tv t) (.pointer (some (addP (base v) (i * 3)))) = some h' ∧ Own b h' v 3 ((ts.set i t).map encT) ∧ Keeps (rowV v) h h' := by
  have := o.store (P := P) (t := t_impl_Task) (w := tv t) (i := i) (e := encT ts[i]) (l := []) (m := encT ts[i]) (c := []) e_t_impl_Task (by simp [hi]) (by simp) (by simp [encT]) (by simp) (by simp)
  simpa [List.map_set, encT] using this
theorem tasks_set0 {ts : List Task} (o : Own b h v 3 (ts.map encT)) {t : Task} (hi : ts[i]? = some t) (x : Int) :
    ∃ h', storeP P h t_int (.int .i64 x) (.pointer (some (addP (addP (base v) (i * 3)) 0))) = some h' ∧ Own b h' v 3 ((ts.set i ⟨x, t.m, t.s⟩).map encT) ∧ Keeps (rowV v) h h' := by
  have := o.store (P := P) (t := t_int) (w := .int .i64 x) (i := i) (e := encT t) (l := []) (m := [.int .i64 t.j]) (c := [.int .i64 t.m, .int .i64 t.s]) e_t_int (by simp [hi]) (by simp [encT]) (by simp) (by simp) (by simp)
  simpa [List.map_set, encT, addP] using this
theorem tasks_set1 {ts : List Task} (o : Own b h v 3 (ts.map encT)) {t : Task} (hi : ts[i]? = some t) (x : Int) :
    ∃ h', storeP P h t_int (.int .i64 x) (.pointer (some (addP (addP (base v) (i * 3)) 1))) = some h' ∧ Own b h' v 3 ((ts.set i ⟨t.j, x, t.s⟩).map encT) ∧ Keeps (rowV v) h h' := by
  have := o.store (P := P) (t := t_int) (w := .int .i64 x) (i := i) (e := encT t) (l := [.int .i64 t.j]) (m := [.int .i64 t.m]) (c := [.int .i64 t.s]) e_t_int (by simp [hi]) (by simp [encT]) (by simp) (by simp) (by simp)
  simpa [List.map_set, encT, addP, Nat.add_assoc] using this
theorem tasks_set2 {ts : List Task} (o : Own b h v 3 (ts.map encT)) {t : Task} (hi : ts[i]? = some t) (x : Int) :
    ∃ h', storeP P h t_int (.int .i64 x) (.pointer (some (addP (addP (base v) (i * 3)) 2))) = some h' ∧ Own b h' v 3 ((ts.set i ⟨t.j, t.m, x⟩).map encT) ∧ Keeps (rowV v) h h' := by
  have := o.store (P := P) (t := t_int) (w := .int .i64 x) (i := i) (e := encT t) (l := [.int .i64 t.j, .int .i64 t.m]) (m := [.int .i64 t.s]) (c := []) e_t_int (by simp [hi]) (by simp [encT]) (by simp) (by simp) (by simp)
  simpa [List.map_set, encT, addP, Nat.add_assoc] using this
theorem jobs_set0 {js : List Job} (o : Own b h v 4 (js.map encJ)) {t : Job} (hi : js[i]? = some t) (x : Int) :
    ∃ h', storeP P h t_int (.int .i64 x) (.pointer (some (addP (addP (base v) (i * 4)) 0))) = some h' ∧ Own b h' v 4 ((js.set i ⟨x, t.w, t.r, t.d⟩).map encJ) ∧ Keeps (rowV v) h h' := by
  have := o.store (P := P) (t := t_int) (w := .int .i64 x) (i := i) (e := encJ t) (l := []) (m := [.int .i64 t.t]) (c := [.int .i64 t.w, .int .i64 t.r, .int .i64 t.d]) e_t_int (by simp [hi]) (by simp [encJ]) (by simp) (by simp) (by simp)
  simpa [List.map_set, encJ, addP, Nat.add_assoc] using this
theorem jobs_set1 {js : List Job} (o : Own b h v 4 (js.map encJ)) {t : Job} (hi : js[i]? = some t) (x : Int) :
    ∃ h', storeP P h t_int (.int .i64 x) (.pointer (some (addP (addP (base v) (i * 4)) 1))) = some h' ∧ Own b h' v 4 ((js.set i ⟨t.t, x, t.r, t.d⟩).map encJ) ∧ Keeps (rowV v) h h' := by
  have := o.store (P := P) (t := t_int) (w := .int .i64 x) (i := i) (e := encJ t) (l := [.int .i64 t.t]) (m := [.int .i64 t.w]) (c := [.int .i64 t.r, .int .i64 t.d]) e_t_int (by simp [hi]) (by simp [encJ]) (by simp) (by simp) (by simp)
  simpa [List.map_set, encJ, addP, Nat.add_assoc] using this
theorem jobs_set2 {js : List Job} (o : Own b h v 4 (js.map encJ)) {t : Job} (hi : js[i]? = some t) (x : Int) :
    ∃ h', storeP P h t_int (.int .i64 x) (.pointer (some (addP (addP (base v) (i * 4)) 2))) = some h' ∧ Own b h' v 4 ((js.set i ⟨t.t, t.w, x, t.d⟩).map encJ) ∧ Keeps (rowV v) h h' := by
  have := o.store (P := P) (t := t_int) (w := .int .i64 x) (i := i) (e := encJ t) (l := [.int .i64 t.t, .int .i64 t.w]) (m := [.int .i64 t.r]) (c := [.int .i64 t.d]) e_t_int (by simp [hi]) (by simp [encJ]) (by simp) (by simp) (by simp)
  simpa [List.map_set, encJ, addP, Nat.add_assoc] using this
theorem jobs_set3 {js : List Job} (o : Own b h v 4 (js.map encJ)) {t : Job} (hi : js[i]? = some t) (x : Int) :
    ∃ h', storeP P h t_int (.int .i64 x) (.pointer (some (addP (addP (base v) (i * 4)) 3))) = some h' ∧ Own b h' v 4 ((js.set i ⟨t.t, t.w, t.r, x⟩).map encJ) ∧ Keeps (rowV v) h h' := by
  have := o.store (P := P) (t := t_int) (w := .int .i64 x) (i := i) (e := encJ t) (l := [.int .i64 t.t, .int .i64 t.w, .int .i64 t.r]) (m := [.int .i64 t.d]) (c := []) e_t_int (by simp [hi]) (by simp [encJ]) (by simp) (by simp) (by simp)
  simpa [List.map_set, encJ, addP, Nat.add_assoc] using this
theorem ltasksL {ts : List Task} (hv : Tasks h v ts) {t : Task} (ht : ts[i]? = some t) :
    indexAddrP P h t_S_laws_Task v (.int .i64 i) = some (.pointer (some (addP (base v) (i * 3)))) ∧ loadP P h t_laws_Task (.pointer (some (addP (base v) (i * 3)))) = some (tv t) := by
  have hi := (List.getElem?_eq_some_iff.1 ht).1
  have h1 := hv.indexT (P := P) u_S_laws_Task i_laws_Task (k := .i64) (j := i) (by omega) (by omega)
  rw [Int.toNat_natCast] at h1
  exact ⟨h1, hv.aggT a_laws_Task i_laws_Task ht⟩
theorem ldbox {r : Nat} {vj vt : Value} {m p n : Int} (b : BoxAt h r [.int .i64 m, .int .i64 p, .int .i64 n, vj, vt]) :
    loadP P h t_S_laws_Job (.pointer (some ⟨r, 3, some 5⟩)) = some vj ∧ loadP P h t_S_laws_Task (.pointer (some ⟨r, 4, some 5⟩)) = some vt ∧
    loadP P h t_laws_Dispatcher (.pointer (some ⟨r, 0, some 5⟩)) = some (.agg #[.int .i64 m, .int .i64 p, .int .i64 n, vj, vt]) := by
  refine ⟨?_, ?_, ?_⟩ <;> rw [loadP_eq, b.row (n := 5) rfl] <;> simp
end
theorem make_eq {P : Program} {h : Hp} {ty e : TypeId} {q : TypeInfo} {z : Value} (hu : P.underlying ty = some (.slice e)) (hq : P.info? e = some q) (hz : zeroP P e = some z) (hzs : z.cells.size = q.size) (hpos : 0 < q.size) (hby : 0 < q.bytes) {n : Nat} (hn : n < 2 ^ 62) (hb : n * q.bytes ≤ 2 ^ 47) :
    makeP P h ty (.int .i64 n) (.int .i64 n) = some (.slice (some ⟨h.length, 0, some (n * q.size)⟩) n n, h ++ [some ⟨(List.replicate n z.cells.toList).flatten, q.size, false⟩]) := by
  have hl : (reps n z.cells.toList).length = n * q.size := by
    rw [reps_flat, flat_len (sz := q.size) (fun e he => by rw [List.eq_of_mem_replicate he, Array.length_toList, hzs])]; simp
  simp only [makeP, hu, asI, hq, hz]
  rw [if_pos ⟨by omega, by omega, by have : ((n * q.bytes : Nat) : Int) ≤ ((2 ^ 47 : Nat) : Int) := Int.ofNat_le.2 hb; simpa using this, hpos, hby, by omega⟩]
  simp only [newP, Int.toNat_natCast, hl]
  rw [reps_flat]
theorem toTask_run {h : Hp} {t : Task} : Ret P G n_laws_toTask [tv t] h (tv t) h := by
  refine enter_run e_laws_toTask (by simp) ?_
  simp -implicitDefEqProofs
  refine gc_app _ _ _ (by simp)
theorem toTaskS_run {h : Hp} {v : Value} {ts : List Task} (hv : Tasks h v ts) (hn : ts.length ≤ 2 ^ 40) :
    RunsC P G n_laws_toTaskS [v] h fun v' h' => h <+: h' ∧ Own h.length h' v' 3 (ts.map encT) := by
  refine enter_run e_laws_toTaskS (by simp) ?_
  have hvs := hv
  obtain ⟨oa, c, rfl⟩ := hv.shapeT
  have mk := make_eq (h := h) u_S_impl_Task e_t_impl_Task z_t_impl_Task rfl (by rw [ti_134_size]; omega) (by rw [ti_134_bytes]; omega) (n := ts.length) (by omega) (by rw [ti_134_bytes]; omega)
  rw [ti_134_size] at mk
  simp only [Value.cells] at mk
  have ow : Own h.length (h ++ [some ⟨(List.replicate ts.length [.int .i64 0, .int .i64 0, .int .i64 0]).flatten, 3, false⟩]) (.slice (some ⟨h.length, 0, some (ts.length * 3)⟩) ts.length ts.length) 3 ((List.replicate ts.length (⟨0, 0, 0⟩ : Task)).map encT) := by
    have := Own.fresh (b := h.length) (h := h) (t := []) (els := List.replicate ts.length [.int .i64 0, .int .i64 0, .int .i64 0]) (sz := 3) (n := ts.length * 3) (Nat.le_refl _) (fun e he => by rw [List.eq_of_mem_replicate he]; rfl) (by simp)
    simpa [encT] using this
  simp -implicitDefEqProofs [mk]
  refine R_loop (fun m s h' => ∃ i : Nat, i + m = ts.length ∧ s = [(0, .slice oa ts.length c), (3, .slice (some ⟨h.length, 0, some (ts.length * 3)⟩) ts.length ts.length), (4, .int .i64 i)] ∧ h <+: h' ∧
    Own h.length h' (.slice (some ⟨h.length, 0, some (ts.length * 3)⟩) ts.length ts.length) 3 ((ts.take i ++ List.replicate (ts.length - i) (⟨0, 0, 0⟩ : Task)).map encT)) (fun m s h' => ?_) ⟨0, Nat.zero_add _, by simp, List.prefix_append .., by simpa using ow⟩
  rintro ⟨i, hi, rfl, hp, ho⟩
  have hEl : (ts.take i ++ List.replicate (ts.length - i) (⟨0, 0, 0⟩ : Task)).length = ts.length := by simp; omega
  have hv2 := hvs.pre hp
  by_cases hlt : i < ts.length
  · obtain ⟨y, hy, hd⟩ := drop_at hlt
    obtain ⟨h2, hs2, ho2, hk2⟩ := tasks_set (i := i) ho (by rw [hEl]; exact hlt) y
    rw [set_next hy] at ho2
    obtain ⟨z, hz, _⟩ := drop_at (show i < (ts.take i ++ List.replicate (ts.length - i) (⟨0, 0, 0⟩ : Task)).length by rw [hEl]; exact hlt)
    have ix := (tasksL ho.sees hz).1
    simp -implicitDefEqProofs [-indexAddrP_some, hlt, ltasksL hv2 hy, CL_ret toTask_run, ix, hs2, winc hlt hn]
    exact ⟨m - 1, by omega, i + 1, by omega, by omega, hk2.pre hp (fun j hj => ho.row_ge hj), by simpa [List.map_take] using ho2⟩
  · have hi2 : i = ts.length := by omega
    subst hi2
    simp -implicitDefEqProofs [hlt]
    have ho3 : Own h.length h' (.slice (some ⟨h.length, 0, some (ts.length * 3)⟩) ts.length ts.length) 3 (ts.map encT) := by simpa using ho
    exact ho3.ret (Nat.le_refl _) hp
theorem toJobS_own {h : Hp} {v : Value} {js : List Job} (hj : Jobs h v js) (hn : js.length ≤ 2 ^ 40) : RunsC P G n_laws_toJobS [v] h fun v' h' => h <+: h' ∧ Own h.length h' v' 4 (js.map encJ) :=
  RunsC.mono (toJobS_run hj hn) fun v' h' hk => by
    obtain ⟨rfl, rfl⟩ := hk
    have := Own.fresh (b := h.length) (h := h) (t := []) (els := js.map encJ) (sz := 4) (n := js.length * 4) (Nat.le_refl _) (encJ_len js) (by simp)
    exact ⟨List.prefix_append .., by simpa [rowOf] using this⟩
theorem toDispatcher_run {h : Hp} {vj vt : Value} {d : Disp} (o : DOk h vj vt d) :
    RunsC P G n_laws_toDispatcher [dv d vj vt] h fun v h' => h <+: h' ∧ ∃ vj' vt', v = dv d vj' vt' ∧ DSt h.length h' vj' vt' d := by
  refine enter_run e_laws_toDispatcher (by simp) ?_
  have os := o
  obtain ⟨⟨oj, cj, ej⟩, ot, ct, et⟩ := o.shapes
  subst ej; subst et
  have r1 := toJobS_own (os.j.ext [some ⟨[.int .i64 d.m, .int .i64 d.p, .int .i64 d.now, .slice oj d.js.length cj, .slice ot d.ts.length ct], 0, false⟩, some ⟨[.int .i64 0, .int .i64 0, .int .i64 0, .slice none 0 0, .slice none 0 0], 0, false⟩, some ⟨[.int .i64 d.m, .int .i64 d.p, .int .i64 d.now, .slice none 0 0, .slice none 0 0], 0, false⟩]) os.jn
  simp -implicitDefEqProofs
  refine CL_post r1 fun v1 h1 hv => ?_
  obtain ⟨hp1, hw1⟩ := hv
  have b1 := boxP hp1
  have b2 := boxP1 hp1
  have b3 := boxP2 hp1
  have p1 : h <+: h1 := (List.prefix_append ..).trans hp1
  obtain ⟨oa1, c1, rfl⟩ := hw1.sees.shapeT
  obtain ⟨h2, hs2, b4, k2⟩ := dset_j (oa := oa1) (n := d.js.length) (c := c1) b3
  have b1' := b1.keepsB k2 (by omega)
  have b2' := b2.keepsB k2 (by omega)
  have w2 := hw1.keepsB b3 k2 (by omega)
  have p2 : h <+: h2 := k2.pre p1 (fun j hj => by cases hj; omega)
  simp -implicitDefEqProofs [ldbox b1, hs2, ldbox b1', CL_ret]
  refine CL_post (toTaskS_run (os.t.pre p2) os.tn) fun v3 h3 hv => ?_
  obtain ⟨hp3, hw3⟩ := hv
  have b5 := b4.pre hp3
  have b2'' := b2'.pre hp3
  have w3 := w2.pre hp3
  have p3 := p2.trans hp3
  have hl2 := p2.length_le
  obtain ⟨oa3, c3, rfl⟩ := hw3.sees.shapeT
  obtain ⟨h4, hs4, b6, k4⟩ := dset_t (oa := oa3) (n := d.ts.length) (c := c3) b5
  have b7 := b2''.keepsB k4 (by omega)
  have w4 := w3.keepsB b5 k4 (by omega)
  have w4' := hw3.keepsB b5 k4 (by omega)
  have p4 : h <+: h4 := k4.pre p3 (fun j hj => by cases hj; omega)
  obtain ⟨h5, hs5, b8, k5⟩ := dset_all (m' := d.m) (p' := d.p) (w' := d.now) (oj := oa1) (nj := d.js.length) (cj := c1) (ot := oa3) (nt := d.ts.length) (ct := c3) b7
  have w5 := w4.keepsB b7 k5 (by omega)
  have w5' := w4'.keepsB b7 k5 (by omega)
  have p5 : h <+: h5 := k5.pre p4 (fun j hj => by cases hj; omega)
  simp -implicitDefEqProofs [hs4, dbox b6, hs5, dbox b8]
  exact ⟨pre_gc p5, _, _, ⟨rfl, rfl⟩, (DSt.gc ⟨w5.low (by simp), w5'.low (by omega), os.jn, os.tn⟩)⟩
theorem eqTask_run {h : Hp} {t : Task} : Ret P G n_laws_eqTask [tv t, tv t] h (.bool true) h := by
  refine enter_run e_laws_eqTask (by simp) ?_
  simp -implicitDefEqProofs
theorem eqTaskS_run {h : Hp} {v u : Value} {ts : List Task} (hv : Tasks h v ts) (hu : Tasks h u ts) (hn : ts.length ≤ 2 ^ 40) :
    Ret P G n_laws_eqTaskS [v, u] h (.bool true) h := by
  refine enter_run e_laws_eqTaskS (by simp) ?_
  have hvs := hv
  have hus := hu
  obtain ⟨oa, c, rfl⟩ := hv.shapeT
  obtain ⟨ob, d, rfl⟩ := hu.shapeT
  simp -implicitDefEqProofs
  refine R_loop (fun m s h' => ∃ i : Nat, i + m = ts.length ∧ s = [(0, .slice oa ts.length c), (1, .slice ob ts.length d), (5, .int .i64 i)] ∧ h' = h) (fun m s h' => ?_) ⟨0, Nat.zero_add _, by simp, rfl⟩
  rintro ⟨i, hi, rfl, rfl⟩
  by_cases hlt : i < ts.length
  · obtain ⟨y, hy, hd⟩ := drop_at hlt
    simp -implicitDefEqProofs [hlt, tasksL hvs hy, tasksL hus hy, CL_ret eqTask_run, CH_ret eqTask_run, winc hlt hn]
    exact ⟨m - 1, by omega, i + 1, by omega, by omega⟩
  · simp -implicitDefEqProofs [hlt]
theorem eqDispatcher_run {h : Hp} {vj vt uj ut : Value} {d : Disp} (o : DOk h vj vt d) (o' : DOk h uj ut d) :
    Ret P G n_laws_eqDispatcher [dv d vj vt, dv d uj ut] h (.bool true) h := by
  refine enter_run e_laws_eqDispatcher (by simp) ?_
  have os := o
  have os' := o'
  obtain ⟨⟨oj, cj, ej⟩, ot, ct, et⟩ := o.shapes
  obtain ⟨⟨pj, dj, fj⟩, pt, dt, ft⟩ := o'.shapes
  subst ej; subst et; subst fj; subst ft
  have r1 := fun l => eqJobS_run (os.j.ext l) (os'.j.ext l) os.jn
  have r2 := fun l => eqTaskS_run (os.t.ext l) (os'.t.ext l) os.tn
  simp -implicitDefEqProofs [CL_ret (r1 _), CL_ret (r2 _)]
/-! ### marks -/
def markJ : List Job → Int → List Job
  | [], _ => []
  | _ :: r, k => ⟨k, w64 (k + 1), w64 (w64 (k + 1) + 1), w64 (w64 (w64 (k + 1) + 1) + 1)⟩ :: markJ r (w64 (w64 (w64 (w64 (k + 1) + 1) + 1) + 1))
def markJk : List Job → Int → Int
  | [], k => k
  | _ :: r, k => markJk r (w64 (w64 (w64 (w64 (k + 1) + 1) + 1) + 1))
def heldJ : List Job → Int → Int
  | [], k => k
  | j :: r, k => if (j.t == k) && (j.w == w64 (k + 1)) && (j.r == w64 (w64 (k + 1) + 1)) && (j.d == w64 (w64 (w64 (k + 1) + 1) + 1)) then heldJ r (w64 (w64 (w64 (w64 (k + 1) + 1) + 1) + 1)) else -1
theorem heldJ_mark : ∀ {js : List Job} {k : Int}, heldJ (markJ js k) k = markJk js k
  | [], k => rfl
  | j :: r, k => by rw [markJ, heldJ, markJk]; simp [heldJ_mark]
def markT : List Task → Int → List Task
  | [], _ => []
  | _ :: r, k => ⟨k, w64 (k + 1), w64 (w64 (k + 1) + 1)⟩ :: markT r (w64 (w64 (w64 (k + 1) + 1) + 1))
def markTk : List Task → Int → Int
  | [], k => k
  | _ :: r, k => markTk r (w64 (w64 (w64 (k + 1) + 1) + 1))
def heldT : List Task → Int → Int
  | [], k => k
  | t :: r, k => if (t.j == k) && (t.m == w64 (k + 1)) && (t.s == w64 (w64 (k + 1) + 1)) then heldT r (w64 (w64 (w64 (k + 1) + 1) + 1)) else -1
theorem heldT_mark : ∀ {ts : List Task} {k : Int}, heldT (markT ts k) k = markTk ts k
  | [], k => rfl
  | t :: r, k => by rw [markT, heldT, markTk]; simp [heldT_mark]
theorem w64_ok {n : Int} (h1 : -9223372036854775808 ≤ n) (h2 : n ≤ 9223372036854775807) : w64 n = n := wrap_ok h1 h2
theorem markJk_eq : ∀ {js : List Job} {k : Int}, 0 ≤ k → k + 4 * js.length ≤ 2 ^ 60 → markJk js k = k + 4 * js.length
  | [], k, _, _ => by simp [markJk]
  | j :: r, k, h0, h1 => by
    simp only [List.length_cons] at h1 ⊢
    have e1 : w64 (k + 1) = k + 1 := w64_ok (by omega) (by omega)
    have e2 : w64 (k + 1 + 1) = k + 1 + 1 := w64_ok (by omega) (by omega)
    have e3 : w64 (k + 1 + 1 + 1) = k + 1 + 1 + 1 := w64_ok (by omega) (by omega)
    have e4 : w64 (k + 1 + 1 + 1 + 1) = k + 1 + 1 + 1 + 1 := w64_ok (by omega) (by omega)
    rw [markJk, e1, e2, e3, e4, markJk_eq (by omega) (by omega)]
    omega
theorem markTk_eq : ∀ {ts : List Task} {k : Int}, 0 ≤ k → k + 3 * ts.length ≤ 2 ^ 60 → markTk ts k = k + 3 * ts.length
  | [], k, _, _ => by simp [markTk]
  | j :: r, k, h0, h1 => by
    simp only [List.length_cons] at h1 ⊢
    have e1 : w64 (k + 1) = k + 1 := w64_ok (by omega) (by omega)
    have e2 : w64 (k + 1 + 1) = k + 1 + 1 := w64_ok (by omega) (by omega)
    have e3 : w64 (k + 1 + 1 + 1) = k + 1 + 1 + 1 := w64_ok (by omega) (by omega)
    rw [markTk, e1, e2, e3, markTk_eq (by omega) (by omega)]
    omega
end Go.Pm.PP

/- Acts by the reference: running, cancelling. -/
set_option linter.unusedVariables false
set_option linter.unusedSimpArgs false
set_option maxRecDepth 4000
set_option maxHeartbeats 1000000
namespace Go.Pm.PP
open Go.Pm Go.Proofs
def runK (step : Disp → Disp) : Nat → Disp → Disp
  | 0, d => d
  | n + 1, d => runK step n (step d)
theorem stepSGo_len {d : Disp} : ∀ {n k : Nat} {ts : List Task}, (stepSGo d n k ts).length ≤ ts.length + n
  | 0, k, ts => Nat.le_refl _
  | n + 1, k, ts => by
    rw [stepSGo]
    refine Nat.le_trans stepSGo_len ?_
    split
    · simp only [List.length_append, List.length_cons, List.length_nil]; omega
    · omega
theorem l12Run_run {h : Hp} {vj vt : Value} {d : Disp} {M n : Nat} (o : DOk h vj vt d) (hin : Ins d) (hM : d.m = M) (hMn : M ≤ 4) (hts : d.ts.length ≤ 2 ^ 20) (hn : n ≤ 1000) :
    RunsC P G n_spec_l12Run [dv d vj vt, .int .i64 n] h fun v h' => h <+: h' ∧ ∃ vj' vt', v = dv (runK (stepS · M) n d) vj' vt' ∧ DSt h.length h' vj' vt' (runK (stepS · M) n d) := by
  refine enter_run e_spec_l12Run (by simp) ?_
  have os := o
  obtain ⟨⟨oj, cj, ej⟩, ot, ct, et⟩ := o.shapes
  subst ej; subst et
  have r0 := l12Own_run (os.ext [some ⟨[.int .i64 d.m, .int .i64 d.p, .int .i64 d.now, .slice oj d.js.length cj, .slice ot d.ts.length ct], 0, false⟩, some ⟨[.int .i64 0, .int .i64 0, .int .i64 0, .slice none 0 0, .slice none 0 0], 0, false⟩])
  simp -implicitDefEqProofs
  refine CL_post r0 fun v h1 hv => ?_
  obtain ⟨hp1, vj1, vt1, rfl, D1⟩ := hv
  have b2 := boxP1 hp1
  have p1 : h <+: h1 := (List.prefix_append ..).trans hp1
  have hl1 := hp1.length_le
  simp at hl1
  obtain ⟨⟨oj1, cj1, ej⟩, ot1, ct1, et⟩ := D1.ok.shapes
  subst ej; subst et
  simp -implicitDefEqProofs
  have b3 : BoxAt (h1 ++ [some ⟨[.int .i64 d.m, .int .i64 d.p, .int .i64 d.now, .slice oj1 d.js.length cj1, .slice ot1 d.ts.length ct1], 0, false⟩]) h1.length [.int .i64 d.m, .int .i64 d.p, .int .i64 d.now, .slice oj1 d.js.length cj1, .slice ot1 d.ts.length ct1] := boxP List.prefix_rfl
  refine R_loop (fun m s h' => ∃ (k : Nat) (d' : Disp) (vj' vt' : Value), k + m = n ∧ s = [(1, .int .i64 n), (4, .pointer (some ⟨h.length + 1, 0, some 5⟩)), (5, .pointer (some ⟨h1.length, 0, some 5⟩)), (6, .int .i64 k)] ∧ d'.m = M ∧ d'.ts.length ≤ d.ts.length + 4 * k ∧
      BoxAt h' h1.length [.int .i64 d'.m, .int .i64 d'.p, .int .i64 d'.now, vj', vt'] ∧ BoxAt h' (h.length + 1) [.int .i64 0, .int .i64 0, .int .i64 0, .slice none 0 0, .slice none 0 0] ∧
      DSt h.length h' vj' vt' d' ∧ Ins d' ∧ h <+: h' ∧ runK (stepS · M) n d = runK (stepS · M) m d') (fun m s h' => ?_) ⟨0, d, _, _, Nat.zero_add _, by simp, hM, by omega, b3, b2.ext _, (D1.low (by simp)).pre (List.prefix_append ..), hin, p1.trans (List.prefix_append ..), rfl⟩
  rintro ⟨k, d', vj', vt', hk, rfl, hm', htl, c1, c2, D2, hin1, hp2, hx⟩
  have hl2 := hp2.length_le
  by_cases hlt : k < n
  · obtain ⟨m, rfl⟩ : ∃ m', m = m' + 1 := ⟨m - 1, by omega⟩
    rw [runK] at hx
    have st := l12Step_run D2.ok hin1 hm' (by omega) (by omega)
    simp -implicitDefEqProofs [hlt, dbox c1]
    refine CL_post st fun v h3 hv => ?_
    obtain ⟨hp3, vj3, vt3, rfl, D3, hin3, hl3⟩ := hv
    have c3 := c1.pre hp3
    have c4 := c2.pre hp3
    obtain ⟨⟨oj3, cj3, ej⟩, ot3, ct3, et⟩ := D3.ok.shapes
    subst ej; subst et
    obtain ⟨h4, hs4, c5, k4⟩ := dset_all (m' := (stepS d' M).m) (p' := (stepS d' M).p) (w' := (stepS d' M).now) (oj := oj3) (nj := (stepS d' M).js.length) (cj := cj3) (ot := ot3) (nt := (stepS d' M).ts.length) (ct := ct3) c3
    have c6 := c4.keepsB k4 (by omega)
    have p4 : h <+: h4 := k4.pre (hp2.trans hp3) (fun j hj => by cases hj; omega)
    simp -implicitDefEqProofs [hs4, winc hlt (show n ≤ 2 ^ 40 by omega)]
    exact ⟨m, by omega, k + 1, by omega, rfl, stepS d' M, hm', by omega, _, _, c5, c6, ⟨(D3.j.keepsB c3 k4 (by omega)).low hl2, (D3.t.keepsB c3 k4 (by omega)).low hl2, D3.jn, D3.tn⟩, hin3, p4, hx⟩
  · have hm0 : m = 0 := by omega
    subst hm0
    rw [runK] at hx
    obtain ⟨⟨oj', cj', ej⟩, ot', ct', et⟩ := D2.ok.shapes
    subst ej; subst et
    obtain ⟨h3, hs3, c3, k3⟩ := dset_all (m' := d'.m) (p' := d'.p) (w' := d'.now) (oj := oj') (nj := d'.js.length) (cj := cj') (ot := ot') (nt := d'.ts.length) (ct := ct') c2
    have p3 : h <+: h3 := k3.pre hp2 (fun j hj => by cases hj; omega)
    simp -implicitDefEqProofs [hlt, dbox c1, hs3, dbox c3, hx]
    exact ⟨pre_gc p3, _, _, ⟨rfl, rfl⟩, DSt.gc (d := d') ⟨D2.j.keepsB c2 k3 (by omega), D2.t.keepsB c2 k3 (by omega), D2.jn, D2.tn⟩⟩
/-! ### cancelling -/
def lower (i : Int) (t : Task) : Task := if t.j > i then ⟨w64 (t.j - 1), t.m, t.s⟩ else t
def cancelD (d : Disp) (i : Nat) : Disp := { d with js := d.js.take i ++ d.js.drop (i + 1), ts := d.ts.map (lower i) }
theorem set_map_next {α : Type} (f : α → α) {xs : List α} {i : Nat} {x : α} (h : xs[i]? = some x) : ((xs.take i).map f ++ xs.drop i).set i (f x) = (xs.take (i + 1)).map f ++ xs.drop (i + 1) := by
  have hi := (List.getElem?_eq_some_iff.1 h).1
  have hd : xs.drop i = x :: xs.drop (i + 1) := by
    have h1 := List.drop_eq_getElem_cons hi
    rw [List.getElem?_eq_getElem hi] at h
    cases h; exact h1
  have hl : ((xs.take i).map f).length = i := by simp; omega
  rw [hd, take_succ' h, List.map_append]
  have := List.set_append_right (s := (xs.take i).map f) (t := x :: xs.drop (i + 1)) (i := i) (x := f x) (by omega)
  rw [this, hl, Nat.sub_self]
  simp
theorem jobs_front {b : Nat} {h : Hp} {v : Value} {js : List Job} (hv : Jobs h v js) {i : Nat} (hi : i ≤ js.length) :
    ∃ v', sliceP P h t_S_impl_Job v none (some (.int .i64 i)) = some v' ∧ Jobs h v' (js.take i) := by
  obtain ⟨v', h1, h2⟩ := hv.front (P := P) u_S_impl_Job i_impl_Job (k := .i64) (j := i) (by omega) (by simp; omega)
  rw [Int.toNat_natCast, ← List.map_take] at h2
  exact ⟨v', h1, h2⟩
theorem jobs_back {h : Hp} {v : Value} {js : List Job} (hv : Jobs h v js) {i : Nat} (hi : i ≤ js.length) :
    ∃ v', sliceP P h t_S_impl_Job v (some (.int .i64 i)) none = some v' ∧ Jobs h v' (js.drop i) ∧ rowV v' = rowV v := by
  obtain ⟨v', h1, h2, h3⟩ := hv.back (P := P) u_S_impl_Job i_impl_Job (k := .i64) (j := i) (by omega) (by simp; omega)
  rw [Int.toNat_natCast, ← List.map_drop] at h2
  exact ⟨v', h1, h2, h3⟩
theorem l12Cancel_run {h : Hp} {vj vt : Value} {d : Disp} {i : Nat} (o : DOk h vj vt d) (hi : i < d.js.length) :
    RunsC P G n_spec_l12Cancel [dv d vj vt, .int .i64 i] h fun v h' => h <+: h' ∧ ∃ vj' vt', v = dv (cancelD d i) vj' vt' ∧ DSt h.length h' vj' vt' (cancelD d i) := by
  refine enter_run e_spec_l12Cancel (by simp) ?_
  have os := o
  obtain ⟨⟨oj, cj, ej⟩, ot, ct, et⟩ := o.shapes
  subst ej; subst et
  have jn := os.jn
  have r0 := l12Own_run (os.ext [some ⟨[.int .i64 d.m, .int .i64 d.p, .int .i64 d.now, .slice oj d.js.length cj, .slice ot d.ts.length ct], 0, false⟩, some ⟨[.int .i64 0, .int .i64 0, .int .i64 0, .slice none 0 0, .slice none 0 0], 0, false⟩])
  simp -implicitDefEqProofs
  refine CL_post r0 fun v h1 hv => ?_
  obtain ⟨hp1, vj1, vt1, rfl, D1⟩ := hv
  have b1 := boxP hp1
  have b2 := boxP1 hp1
  have p1 : h <+: h1 := (List.prefix_append ..).trans hp1
  have hl1 := hp1.length_le
  simp at hl1
  obtain ⟨⟨oj1, cj1, ej⟩, ot1, ct1, et⟩ := D1.ok.shapes
  subst ej; subst et
  have p2 : h1 <+: (h1 ++ [some ⟨[.int .i64 d.m, .int .i64 d.p, .int .i64 d.now, .slice oj1 d.js.length cj1, .slice ot1 d.ts.length ct1], 0, false⟩]) := List.prefix_append ..
  have b3 : BoxAt (h1 ++ [some ⟨[.int .i64 d.m, .int .i64 d.p, .int .i64 d.now, .slice oj1 d.js.length cj1, .slice ot1 d.ts.length ct1], 0, false⟩]) h1.length [.int .i64 d.m, .int .i64 d.p, .int .i64 d.now, .slice oj1 d.js.length cj1, .slice ot1 d.ts.length ct1] := boxP List.prefix_rfl
  obtain ⟨vf, hsf, hf⟩ := jobs_front (b := 0) (os.j.pre (p1.trans p2)) (show i ≤ d.js.length by omega)
  obtain ⟨v4, h4, ha4, hn4, hw4⟩ := jobs_app0 (b := h.length) (by have := (p1.trans p2).length_le; exact this) hf (by simp; omega)
  have b14 := (b1.ext _).pre hn4.pre
  have b24 := (b2.ext _).pre hn4.pre
  have b34 := b3.pre hn4.pre
  have p4 : h <+: h4 := (p1.trans p2).trans hn4.pre
  obtain ⟨vb, hsb, hb, _⟩ := jobs_back (os.j.pre p4) (show i + 1 ≤ d.js.length by omega)
  obtain ⟨v5, h5, ha5, hw5, hk5, hr5⟩ := jobs_app hw4 p4.length_le hb (by simp; omega)
  have p5 : h <+: h5 := hk5.pre p4 (fun j hj => hw4.row_ge hj)
  have b25 := b24.keepsO hw4 hk5 (by omega)
  have b35 := b34.keepsO hw4 hk5 (by omega)
  have t5 : Own h.length h5 (.slice ot1 d.ts.length ct1) 3 (d.ts.map encT) := (((D1.t.low (by simp)).pre p2).pre hn4.pre).keepsO hw4 hk5 (by omega)
  obtain ⟨oa5, c5, e5⟩ := hw5.sees.shapeT
  subst e5
  obtain ⟨h6, hs6, b36, k6⟩ := dset_j (oa := oa5) (n := (d.js.take i ++ d.js.drop (i + 1)).length) (c := c5) b35
  have b26 := b25.keepsB k6 (by omega)
  have j6 := hw5.keepsB b35 k6 (by omega)
  have t6 := t5.keepsB b35 k6 (by omega)
  have p6 : h <+: h6 := k6.pre p5 (fun j hj => by cases hj; omega)
  have wi : IntKind.i64.wrap ((i : Int) + 1) = ((i + 1 : Nat) : Int) := by rw [wrap_ok] <;> omega
  rw [show ((i + 1 : Nat) : Int) = (i : Int) + 1 from rfl] at hsb wi
  simp -implicitDefEqProofs [dbox (b1.ext _), hsf, ha4, hn4, dbox b14, wi, hsb, ha5, show storeP P h5 29 (.slice oa5 (min i d.js.length + (d.js.length - (i + 1))) c5) (.pointer (some ⟨h1.length, 3, some 5⟩)) = some h6 by simpa using hs6]
  refine R_loop (fun m s h' => ∃ k : Nat, k + m = d.ts.length ∧ s = [(1, .int .i64 i), (4, .pointer (some ⟨h.length + 1, 0, some 5⟩)), (5, .pointer (some ⟨h1.length, 0, some 5⟩)), (6, .int .i64 k)] ∧
      BoxAt h' h1.length [.int .i64 d.m, .int .i64 d.p, .int .i64 d.now, .slice oa5 (d.js.take i ++ d.js.drop (i + 1)).length c5, .slice ot1 d.ts.length ct1] ∧ BoxAt h' (h.length + 1) [.int .i64 0, .int .i64 0, .int .i64 0, .slice none 0 0, .slice none 0 0] ∧
      Own h.length h' (.slice oa5 (d.js.take i ++ d.js.drop (i + 1)).length c5) 4 ((d.js.take i ++ d.js.drop (i + 1)).map encJ) ∧ Own h.length h' (.slice ot1 d.ts.length ct1) 3 (((d.ts.take k).map (lower i) ++ d.ts.drop k).map encT) ∧ h <+: h') (fun m s h' => ?_) ⟨0, Nat.zero_add _, by simp, b36, b26, j6, by simpa using t6, p6⟩
  rintro ⟨k, hk, rfl, c1, c2, cj, ct, hp⟩
  have hl := hp.length_le
  by_cases hlt : k < d.ts.length
  · obtain ⟨y, hy, hd⟩ := drop_at hlt
    have hl2 : ((d.ts.take k).map (lower i)).length = k := by simp; omega
    have hy2 : ((d.ts.take k).map (lower i) ++ d.ts.drop k)[k]? = some y := by
      rw [List.getElem?_append_right (by omega), hl2, Nat.sub_self, hd]; rfl
    have hnx := set_map_next (lower i) hy
    by_cases hg : y.j > i
    · obtain ⟨h7, hs7, ct7, k7⟩ := tasks_set0 ct hy2 (IntKind.i64.wrap (y.j - 1))
      have c17 := c1.keepsO ct k7 (by omega)
      have c27 := c2.keepsO ct k7 (by omega)
      have cj7 := cj.keepsO ct k7 (by omega)
      have hp7 : h <+: h7 := k7.pre hp (fun j hj => ct.row_ge hj)
      rw [show (⟨IntKind.i64.wrap (y.j - 1), y.m, y.s⟩ : Task) = lower i y by unfold lower; rw [if_pos hg]; rfl, hnx] at ct7
      simp -implicitDefEqProofs [hlt, dbox c1, tasksL ct.sees hy2, show (i : Int) < y.j from hg, hs7, winc hlt os.tn]
      exact ⟨m - 1, by omega, k + 1, by omega, rfl, by simpa using c17, c27, by simpa using cj7, by simpa using ct7, hp7⟩
    · rw [show lower i y = y by unfold lower; rw [if_neg hg], show ((d.ts.take k).map (lower i) ++ d.ts.drop k).set k y = (d.ts.take k).map (lower i) ++ d.ts.drop k by
        have h9 := (List.getElem?_eq_some_iff.1 hy2)
        rw [← h9.2, List.set_getElem_self]] at hnx
      rw [hnx] at ct
      rw [hnx] at hy2
      simp -implicitDefEqProofs [hlt, dbox c1, tasksL ct.sees hy2, show ¬ (i : Int) < y.j from hg, winc hlt os.tn]
      exact ⟨m - 1, by omega, k + 1, by omega, rfl, by simpa using c1, c2, by simpa using cj, by simpa using ct, hp⟩
  · have hke : k = d.ts.length := by omega
    subst hke
    rw [List.take_of_length_le (Nat.le_refl _), List.drop_eq_nil_of_le (Nat.le_refl _), List.append_nil] at ct
    obtain ⟨h7, hs7, c3, k7⟩ := dset_all (m' := d.m) (p' := d.p) (w' := d.now) (oj := oa5) (nj := (d.js.take i ++ d.js.drop (i + 1)).length) (cj := c5) (ot := ot1) (nt := d.ts.length) (ct := ct1) c2
    have p7 : h <+: h7 := k7.pre hp (fun j hj => by cases hj; omega)
    have cj7 := cj.keepsB c2 k7 (by omega)
    have ct7 := ct.keepsB c2 k7 (by omega)
    simp -implicitDefEqProofs only [List.length_append, List.length_take, List.length_drop] at c1 hs7 c3 cj7
    simp -implicitDefEqProofs [hlt, dbox c1, hs7, dbox c3]
    exact ⟨pre_gc p7, _, _, ⟨rfl, rfl, rfl, rfl, rfl⟩, DSt.gc (d := cancelD d i) ⟨cj7, ct7, by show (d.js.take i ++ d.js.drop (i + 1)).length ≤ _; simp; omega, by show (d.ts.map (lower i)).length ≤ _; rw [List.length_map]; exact os.tn⟩⟩
end Go.Pm.PP

/- Acts by the reference. -/
set_option linter.unusedVariables false
set_option linter.unusedSimpArgs false
set_option maxRecDepth 4000
set_option maxHeartbeats 1000000
namespace Go.Pm.PP
open Go.Pm Go.Proofs
theorem abox {h : Hp} {r : Nat} {x : Act} (b : BoxAt h r [.int .i64 x.k, .int .i64 x.a, .int .i64 x.b, .int .i64 x.job.t, .int .i64 x.job.w, .int .i64 x.job.r, .int .i64 x.job.d]) :
    loadP P h t_int (.pointer (some ⟨r, 0, some 7⟩)) = some (.int .i64 x.k) ∧ loadP P h t_int (.pointer (some ⟨r, 1, some 7⟩)) = some (.int .i64 x.a) ∧ loadP P h t_int (.pointer (some ⟨r, 2, some 7⟩)) = some (.int .i64 x.b) ∧
    loadP P h t_int (.pointer (some ⟨r, 5, some 7⟩)) = some (.int .i64 x.job.r) ∧ loadP P h t_impl_Job (.pointer (some ⟨r, 3, some 7⟩)) = some (jv x.job) ∧ loadP P h t_impl_Act (.pointer (some ⟨r, 0, some 7⟩)) = some (av x) := by
  refine ⟨?_, ?_, ?_, ?_, ?_, ?_⟩ <;> rw [loadP_eq, b.row (n := 7) rfl] <;> simp
def actS (d : Disp) (x : Act) : Disp :=
  if x.k = 1 then { d with js := d.js ++ [x.job] } else if x.k = 2 then runK (stepS · d.m.toNat) x.a.toNat d else if x.k = 3 then { d with p := x.a } else if x.k = 4 then cancelD d x.a.toNat
  else if x.k = 5 then { d with js := d.js.set x.a.toNat ⟨(jobAt d.js x.a).t, (jobAt d.js x.a).w, (jobAt d.js x.a).r, x.b⟩ } else if x.k = 6 then { d with m := w64 (d.m + 1) } else if x.k = 7 then { d with m := w64 (d.m - 1) } else d
def actR (d : Disp) (x : Act) : Option Disp := if (plainA x && mayA d x) = true then (if goodD (actS d x) = true then some (actS d x) else none) else none
theorem l12Act_run {h : Hp} {vj vt : Value} {d : Disp} {x : Act} (o : DOk h vj vt d) (F : Facts d d.m.toNat) (htn : d.ts.length ≤ 2 ^ 20) :
    RunsC P G n_spec_l12Act [dv d vj vt, av x] h fun v h' => h <+: h' ∧ ∃ vj' vt', v = .tuple #[dv (outD (actR d x)) vj' vt', .bool (actR d x).isSome] ∧ DSt h.length h' vj' vt' (outD (actR d x)) := by
  refine enter_run e_spec_l12Act (by simp) ?_
  have os := o
  obtain ⟨⟨oj, cj, ej⟩, ot, ct, et⟩ := o.shapes
  subst ej; subst et
  have s0 : (h ++ [some ⟨[.int .i64 d.m, .int .i64 d.p, .int .i64 d.now, .slice oj d.js.length cj, .slice ot d.ts.length ct], 0, false⟩, some ⟨[.int .i64 x.k, .int .i64 x.a, .int .i64 x.b, .int .i64 x.job.t, .int .i64 x.job.w, .int .i64 x.job.r, .int .i64 x.job.d], 0, false⟩, some ⟨[.int .i64 0, .int .i64 0, .int .i64 0, .slice none 0 0, .slice none 0 0], 0, false⟩]) <+: (h ++ [some ⟨[.int .i64 d.m, .int .i64 d.p, .int .i64 d.now, .slice oj d.js.length cj, .slice ot d.ts.length ct], 0, false⟩, some ⟨[.int .i64 x.k, .int .i64 x.a, .int .i64 x.b, .int .i64 x.job.t, .int .i64 x.job.w, .int .i64 x.job.r, .int .i64 x.job.d], 0, false⟩, some ⟨[.int .i64 0, .int .i64 0, .int .i64 0, .slice none 0 0, .slice none 0 0], 0, false⟩]) := List.prefix_rfl
  have r1 := fun l => l12May_run (x := x) (os.ext l)
  cases hpl : (plainA x && mayA d x)
  · have hx : actR d x = none := by rw [actR, hpl]; rfl
    cases c1 : plainA x
    · simp -implicitDefEqProofs [CL_ret l12Plain_run, c1, hx]
      rw [gc_np (by simp [plain, plainC])]
      exact ⟨List.prefix_append .., _, _, ⟨rfl, rfl, rfl, rfl, rfl⟩, zD_st⟩
    · have c2 : mayA d x = false := by rw [c1] at hpl; simpa using hpl
      simp -implicitDefEqProofs [CL_ret l12Plain_run, CL_ret (r1 _), c1, c2, hx]
      rw [gc_np (by simp [plain, plainC])]
      exact ⟨List.prefix_append .., _, _, ⟨rfl, rfl, rfl, rfl, rfl⟩, zD_st⟩
  · have c1 : plainA x = true := by simp at hpl; exact hpl.1
    have c2 : mayA d x = true := by simp at hpl; exact hpl.2
    simp -implicitDefEqProofs [CL_ret l12Plain_run, CL_ret (r1 _), c1, c2]
    refine CL_post (l12Own_run (os.ext _)) fun v h1 hv => ?_
    obtain ⟨hp1, vj1, vt1, rfl, D1⟩ := hv
    have b2 := boxP hp1
    have b3 := boxP1 hp1
    have b4 := boxP2 hp1
    have p1 : h <+: h1 := (List.prefix_append ..).trans hp1
    have hl1 := hp1.length_le
    simp at hl1
    obtain ⟨⟨oj1, cj1, ej⟩, ot1, ct1, et⟩ := D1.ok.shapes
    subst ej; subst et
    have b6 : BoxAt (h1 ++ [some ⟨[.int .i64 d.m, .int .i64 d.p, .int .i64 d.now, .slice oj1 d.js.length cj1, .slice ot1 d.ts.length ct1], 0, false⟩]) h1.length [.int .i64 d.m, .int .i64 d.p, .int .i64 d.now, .slice oj1 d.js.length cj1, .slice ot1 d.ts.length ct1] := boxP List.prefix_rfl
    have q1 : h1 <+: (h1 ++ [some ⟨[.int .i64 d.m, .int .i64 d.p, .int .i64 d.now, .slice oj1 d.js.length cj1, .slice ot1 d.ts.length ct1], 0, false⟩]) := List.prefix_append ..
    have p2 := p1.trans q1
    have D2 : DSt h.length _ _ _ d := (D1.low (by simp)).pre q1
    have b24 := b2.pre q1
    have b34 := b3.pre q1
    have b44 := b4.pre q1
    have hl2 := p2.length_le
    generalize hH : (h1 ++ [some ⟨[.int .i64 d.m, .int .i64 d.p, .int .i64 d.now, .slice oj1 d.js.length cj1, .slice ot1 d.ts.length ct1], 0, false⟩] : Hp) = H at *
    simp -implicitDefEqProofs [hH]
    by_cases k1 : x.k = 1
    · have hact : actS d x = { d with js := d.js ++ [x.job] } := by rw [actS, if_pos k1]
      have sn := sees_new (h := H) (l := [some ⟨[.int .i64 x.job.t, .int .i64 x.job.w, .int .i64 x.job.r, .int .i64 x.job.d], 4, false⟩]) (k := 0) (n := 4) (m := 1) (sz := 4) rfl [encJ x.job] rfl (by simp [encJ]) rfl rfl
      obtain ⟨v5, h5, ha5, hw5, hk5, hr5⟩ := jobs_app (ys := [x.job]) (D2.j.app (t := [some ⟨[.int .i64 x.job.t, .int .i64 x.job.w, .int .i64 x.job.r, .int .i64 x.job.d], 4, false⟩])) (by simp; omega) sn (by have := F.js8; simp; omega)
      obtain ⟨oa5, n5, c5, rfl⟩ : ∃ oa n c, v5 = .slice oa n c := by obtain ⟨oa, c, e⟩ := hw5.sees.shapeT; exact ⟨_, _, _, e⟩
      have p5 : h <+: h5 := hk5.pre (p2.trans (List.prefix_append ..)) (fun j hj => D2.j.row_ge hj)
      have b65 := (b6.ext _).keepsO D2.j.app hk5 (by omega)
      have b45 := (b44.ext _).keepsO D2.j.app hk5 (by omega)
      have t5 := (D2.t.app).keepsO D2.j.app hk5 (by omega)
      obtain ⟨h6, hs6, b66, k6⟩ := dset_j (oa := oa5) (n := n5) (c := c5) b65
      have b46 := b45.keepsB k6 (by omega)
      have D6 : DSt h.length h6 (.slice oa5 n5 c5) (.slice ot1 d.ts.length ct1) { d with js := d.js ++ [x.job] } := ⟨hw5.keepsB b65 k6 (by omega), t5.keepsB b65 k6 (by omega), by have := F.js8; show (d.js ++ [x.job]).length ≤ _; simp; omega, os.tn⟩
      have p6 : h <+: h6 := k6.pre p5 (fun j hj => by cases hj; omega)
      have ha5' : appendP P (H ++ [some ⟨[.int .i64 x.job.t, .int .i64 x.job.w, .int .i64 x.job.r, .int .i64 x.job.d], 4, false⟩]) 29 (.slice oj1 d.js.length cj1) (.slice (some ⟨H.length, 0, some 4⟩) 1 1) = some (.slice oa5 n5 c5, h5) := ha5
      simp -implicitDefEqProofs [abox b34, k1, dbox b6, ha5', hs6]
      have rg := l12Good_run D6.ok
      cases hg : goodD ({ d with js := d.js ++ [x.job] })
      · have hx : actR d x = none := by rw [actR, hpl, if_pos rfl, hact, hg]; rfl
        obtain ⟨h8, hs8, b8, k8⟩ := dset_all (m' := 0) (p' := 0) (w' := 0) (oj := none) (nj := 0) (cj := 0) (ot := none) (nt := 0) (ct := 0) b46
        have p8 : h <+: h8 := k8.pre p6 (fun j hj => by cases hj; omega)
        simp -implicitDefEqProofs [k1, dbox b66, CL_ret rg, hg, hs8, dbox b8, hx]
        rw [gc_np (by simp [plain, plainC])]
        exact ⟨p8, _, _, ⟨rfl, rfl, rfl, rfl, rfl⟩, zD_st⟩
      · have hx : actR d x = some ({ d with js := d.js ++ [x.job] }) := by rw [actR, hpl, if_pos rfl, hact, hg]; rfl
        obtain ⟨h8, hs8, b8, k8⟩ := dset_all (m' := ({ d with js := d.js ++ [x.job] }).m) (p' := ({ d with js := d.js ++ [x.job] }).p) (w' := ({ d with js := d.js ++ [x.job] }).now) (oj := oa5) (nj := n5) (cj := c5) (ot := ot1) (nt := d.ts.length) (ct := ct1) b46
        have p8 : h <+: h8 := k8.pre p6 (fun j hj => by cases hj; omega)
        simp -implicitDefEqProofs [k1, dbox b66, CL_ret rg, hg, hs8, dbox b8, hx]
        rw [gc_np (by simp [plain, plainC])]
        exact ⟨p8, _, _, ⟨rfl, rfl⟩, D6.j.keepsB b46 k8 (by omega), D6.t.keepsB b46 k8 (by omega), D6.jn, D6.tn⟩
    by_cases k2 : x.k = 2
    · have hm : inB x.a 1 (w64 (1000 - d.now)) = true := by rw [mayA, if_neg k1, if_pos k2] at c2; exact c2
      have hm2 := inB_spec hm
      rw [w64_ok' (by have := F.n0; have := F.n1; omega) (by have := F.n0; have := F.n1; omega)] at hm2
      obtain ⟨q, hq⟩ : ∃ q : Nat, x.a = q := ⟨x.a.toNat, by omega⟩
      have hq1 : q ≤ 1000 := by have := F.n0; omega
      have hact : actS d x = runK (stepS · d.m.toNat) q d := by rw [actS, if_neg k1, if_pos k2, hq]; rfl
      simp -implicitDefEqProofs [abox b34, k2, dbox b24, hq]
      refine CL_post (l12Run_run (n := q) (os.pre p2) F.ins F.hM F.m4 htn hq1) fun v h5 hv => ?_
      obtain ⟨hp5, vj5, vt5, rfl, D5⟩ := hv
      have b65 := b6.pre hp5
      have b45 := b44.pre hp5
      have p5 : h <+: h5 := p2.trans hp5
      obtain ⟨oa5, n5, c5, rfl⟩ : ∃ oa n c, vj5 = .slice oa n c := by obtain ⟨oa, c, e⟩ := D5.j.sees.shapeT; exact ⟨_, _, _, e⟩
      obtain ⟨oa6, n6, c6, rfl⟩ : ∃ oa n c, vt5 = .slice oa n c := by obtain ⟨oa, c, e⟩ := D5.t.sees.shapeT; exact ⟨_, _, _, e⟩
      obtain ⟨h6, hs6, b66, k6⟩ := dset_all (m' := (runK (stepS · d.m.toNat) q d).m) (p' := (runK (stepS · d.m.toNat) q d).p) (w' := (runK (stepS · d.m.toNat) q d).now) (oj := oa5) (nj := n5) (cj := c5) (ot := oa6) (nt := n6) (ct := c6) b65
      have b46 := b45.keepsB k6 (by omega)
      have D6 : DSt h.length h6 (.slice oa5 n5 c5) (.slice oa6 n6 c6) (runK (stepS · d.m.toNat) q d) := ⟨(D5.j.keepsB b65 k6 (by omega)).low hl2, (D5.t.keepsB b65 k6 (by omega)).low hl2, D5.jn, D5.tn⟩
      have p6 : h <+: h6 := k6.pre p5 (fun j hj => by cases hj; omega)
      simp -implicitDefEqProofs [hs6]
      have rg := l12Good_run D6.ok
      cases hg : goodD (runK (stepS · d.m.toNat) q d)
      · have hx : actR d x = none := by rw [actR, hpl, if_pos rfl, hact, hg]; rfl
        obtain ⟨h8, hs8, b8, k8⟩ := dset_all (m' := 0) (p' := 0) (w' := 0) (oj := none) (nj := 0) (cj := 0) (ot := none) (nt := 0) (ct := 0) b46
        have p8 : h <+: h8 := k8.pre p6 (fun j hj => by cases hj; omega)
        simp -implicitDefEqProofs [k2, dbox b66, CL_ret rg, hg, hs8, dbox b8, hx]
        rw [gc_np (by simp [plain, plainC])]
        exact ⟨p8, _, _, ⟨rfl, rfl, rfl, rfl, rfl⟩, zD_st⟩
      · have hx : actR d x = some (runK (stepS · d.m.toNat) q d) := by rw [actR, hpl, if_pos rfl, hact, hg]; rfl
        obtain ⟨h8, hs8, b8, k8⟩ := dset_all (m' := (runK (stepS · d.m.toNat) q d).m) (p' := (runK (stepS · d.m.toNat) q d).p) (w' := (runK (stepS · d.m.toNat) q d).now) (oj := oa5) (nj := n5) (cj := c5) (ot := oa6) (nt := n6) (ct := c6) b46
        have p8 : h <+: h8 := k8.pre p6 (fun j hj => by cases hj; omega)
        simp -implicitDefEqProofs [k2, dbox b66, CL_ret rg, hg, hs8, dbox b8, hx]
        rw [gc_np (by simp [plain, plainC])]
        exact ⟨p8, _, _, ⟨rfl, rfl⟩, D6.j.keepsB b46 k8 (by omega), D6.t.keepsB b46 k8 (by omega), D6.jn, D6.tn⟩
    by_cases k3 : x.k = 3
    · have hact : actS d x = { d with p := x.a } := by rw [actS, if_neg k1, if_neg k2, if_pos k3]
      obtain ⟨h6, hs6, b66, k6⟩ := dset_1 (x := x.a) b6
      have b46 := b44.keepsB k6 (by omega)
      have D6 : DSt h.length h6 (.slice oj1 d.js.length cj1) (.slice ot1 d.ts.length ct1) { d with p := x.a } := ⟨D2.j.keepsB b6 k6 (by omega), D2.t.keepsB b6 k6 (by omega), os.jn, os.tn⟩
      have p6 : h <+: h6 := k6.pre p2 (fun j hj => by cases hj; omega)
      simp -implicitDefEqProofs [abox b34, k3, dbox b6, hs6]
      have rg := l12Good_run D6.ok
      cases hg : goodD ({ d with p := x.a })
      · have hx : actR d x = none := by rw [actR, hpl, if_pos rfl, hact, hg]; rfl
        obtain ⟨h8, hs8, b8, k8⟩ := dset_all (m' := 0) (p' := 0) (w' := 0) (oj := none) (nj := 0) (cj := 0) (ot := none) (nt := 0) (ct := 0) b46
        have p8 : h <+: h8 := k8.pre p6 (fun j hj => by cases hj; omega)
        simp -implicitDefEqProofs [k3, dbox b66, CL_ret rg, hg, hs8, dbox b8, hx]
        rw [gc_np (by simp [plain, plainC])]
        exact ⟨p8, _, _, ⟨rfl, rfl, rfl, rfl, rfl⟩, zD_st⟩
      · have hx : actR d x = some ({ d with p := x.a }) := by rw [actR, hpl, if_pos rfl, hact, hg]; rfl
        obtain ⟨h8, hs8, b8, k8⟩ := dset_all (m' := ({ d with p := x.a }).m) (p' := ({ d with p := x.a }).p) (w' := ({ d with p := x.a }).now) (oj := oj1) (nj := d.js.length) (cj := cj1) (ot := ot1) (nt := d.ts.length) (ct := ct1) b46
        have p8 : h <+: h8 := k8.pre p6 (fun j hj => by cases hj; omega)
        simp -implicitDefEqProofs [k3, dbox b66, CL_ret rg, hg, hs8, dbox b8, hx]
        rw [gc_np (by simp [plain, plainC])]
        exact ⟨p8, _, _, ⟨rfl, rfl⟩, D6.j.keepsB b46 k8 (by omega), D6.t.keepsB b46 k8 (by omega), D6.jn, D6.tn⟩
    by_cases k4 : x.k = 4
    · have hm : inB x.a 0 ((d.js.length : Int) - 1) = true := by rw [mayA, if_neg k1, if_neg k2, if_pos (.inl k4)] at c2; simp at c2; exact c2.1
      obtain ⟨q, hq, hql⟩ := in_nat hm
      have hact : actS d x = cancelD d q := by rw [actS, if_neg k1, if_neg k2, if_neg k3, if_pos k4, hq]; rfl
      simp -implicitDefEqProofs [abox b34, k4, dbox b24, hq]
      refine CL_post (l12Cancel_run (os.pre p2) hql) fun v h5 hv => ?_
      obtain ⟨hp5, vj5, vt5, rfl, D5⟩ := hv
      have b65 := b6.pre hp5
      have b45 := b44.pre hp5
      have p5 : h <+: h5 := p2.trans hp5
      obtain ⟨oa5, n5, c5, rfl⟩ : ∃ oa n c, vj5 = .slice oa n c := by obtain ⟨oa, c, e⟩ := D5.j.sees.shapeT; exact ⟨_, _, _, e⟩
      obtain ⟨oa6, n6, c6, rfl⟩ : ∃ oa n c, vt5 = .slice oa n c := by obtain ⟨oa, c, e⟩ := D5.t.sees.shapeT; exact ⟨_, _, _, e⟩
      obtain ⟨h6, hs6, b66, k6⟩ := dset_all (m' := (cancelD d q).m) (p' := (cancelD d q).p) (w' := (cancelD d q).now) (oj := oa5) (nj := n5) (cj := c5) (ot := oa6) (nt := n6) (ct := c6) b65
      have b46 := b45.keepsB k6 (by omega)
      have D6 : DSt h.length h6 (.slice oa5 n5 c5) (.slice oa6 n6 c6) (cancelD d q) := ⟨(D5.j.keepsB b65 k6 (by omega)).low hl2, (D5.t.keepsB b65 k6 (by omega)).low hl2, D5.jn, D5.tn⟩
      have p6 : h <+: h6 := k6.pre p5 (fun j hj => by cases hj; omega)
      simp -implicitDefEqProofs [hs6]
      have rg := l12Good_run D6.ok
      cases hg : goodD (cancelD d q)
      · have hx : actR d x = none := by rw [actR, hpl, if_pos rfl, hact, hg]; rfl
        obtain ⟨h8, hs8, b8, k8⟩ := dset_all (m' := 0) (p' := 0) (w' := 0) (oj := none) (nj := 0) (cj := 0) (ot := none) (nt := 0) (ct := 0) b46
        have p8 : h <+: h8 := k8.pre p6 (fun j hj => by cases hj; omega)
        simp -implicitDefEqProofs [k4, dbox b66, CL_ret rg, hg, hs8, dbox b8, hx]
        rw [gc_np (by simp [plain, plainC])]
        exact ⟨p8, _, _, ⟨rfl, rfl, rfl, rfl, rfl⟩, zD_st⟩
      · have hx : actR d x = some (cancelD d q) := by rw [actR, hpl, if_pos rfl, hact, hg]; rfl
        obtain ⟨h8, hs8, b8, k8⟩ := dset_all (m' := (cancelD d q).m) (p' := (cancelD d q).p) (w' := (cancelD d q).now) (oj := oa5) (nj := n5) (cj := c5) (ot := oa6) (nt := n6) (ct := c6) b46
        have p8 : h <+: h8 := k8.pre p6 (fun j hj => by cases hj; omega)
        simp -implicitDefEqProofs [k4, dbox b66, CL_ret rg, hg, hs8, dbox b8, hx]
        rw [gc_np (by simp [plain, plainC])]
        exact ⟨p8, _, _, ⟨rfl, rfl⟩, D6.j.keepsB b46 k8 (by omega), D6.t.keepsB b46 k8 (by omega), D6.jn, D6.tn⟩
    by_cases k5 : x.k = 5
    · have hm : inB x.a 0 ((d.js.length : Int) - 1) = true := by rw [mayA, if_neg k1, if_neg k2, if_pos (.inr k5)] at c2; simp at c2; exact c2.1
      obtain ⟨q, hq, hql⟩ := in_nat hm
      have hact : actS d x = { d with js := d.js.set q ⟨(jobAt d.js q).t, (jobAt d.js q).w, (jobAt d.js q).r, x.b⟩ } := by rw [actS, if_neg k1, if_neg k2, if_neg k3, if_neg k4, if_pos k5, hq]; rfl
      have hjq := get_jobAt hql
      obtain ⟨h6, hs6, j6, k6⟩ := jobs_set3 D2.j hjq x.b
      have b66 := b6.keepsO D2.j k6 (by omega)
      have b46 := b44.keepsO D2.j k6 (by omega)
      have D6 : DSt h.length h6 (.slice oj1 d.js.length cj1) (.slice ot1 d.ts.length ct1) { d with js := d.js.set q ⟨(jobAt d.js q).t, (jobAt d.js q).w, (jobAt d.js q).r, x.b⟩ } := ⟨j6, D2.t.keepsO D2.j k6 (by omega), by show (d.js.set _ _).length ≤ _; rw [List.length_set]; exact os.jn, os.tn⟩
      have p6 : h <+: h6 := k6.pre p2 (fun j hj => D2.j.row_ge hj)
      simp -implicitDefEqProofs [abox b34, k5, dbox b6, hq, (jobsL D2.j.sees hjq).1, hs6]
      have rg := l12Good_run D6.ok
      cases hg : goodD ({ d with js := d.js.set q ⟨(jobAt d.js q).t, (jobAt d.js q).w, (jobAt d.js q).r, x.b⟩ })
      · have hx : actR d x = none := by rw [actR, hpl, if_pos rfl, hact, hg]; rfl
        obtain ⟨h8, hs8, b8, k8⟩ := dset_all (m' := 0) (p' := 0) (w' := 0) (oj := none) (nj := 0) (cj := 0) (ot := none) (nt := 0) (ct := 0) b46
        have p8 : h <+: h8 := k8.pre p6 (fun j hj => by cases hj; omega)
        simp -implicitDefEqProofs [k5, dbox b66, CL_ret rg, hg, hs8, dbox b8, hx]
        rw [gc_np (by simp [plain, plainC])]
        exact ⟨p8, _, _, ⟨rfl, rfl, rfl, rfl, rfl⟩, zD_st⟩
      · have hx : actR d x = some ({ d with js := d.js.set q ⟨(jobAt d.js q).t, (jobAt d.js q).w, (jobAt d.js q).r, x.b⟩ }) := by rw [actR, hpl, if_pos rfl, hact, hg]; rfl
        obtain ⟨h8, hs8, b8, k8⟩ := dset_all (m' := ({ d with js := d.js.set q ⟨(jobAt d.js q).t, (jobAt d.js q).w, (jobAt d.js q).r, x.b⟩ }).m) (p' := ({ d with js := d.js.set q ⟨(jobAt d.js q).t, (jobAt d.js q).w, (jobAt d.js q).r, x.b⟩ }).p) (w' := ({ d with js := d.js.set q ⟨(jobAt d.js q).t, (jobAt d.js q).w, (jobAt d.js q).r, x.b⟩ }).now) (oj := oj1) (nj := d.js.length) (cj := cj1) (ot := ot1) (nt := d.ts.length) (ct := ct1) b46
        have p8 : h <+: h8 := k8.pre p6 (fun j hj => by cases hj; omega)
        simp -implicitDefEqProofs [k5, dbox b66, CL_ret rg, hg, hs8, dbox b8, hx]
        rw [gc_np (by simp [plain, plainC])]
        exact ⟨p8, _, _, ⟨rfl, rfl⟩, D6.j.keepsB b46 k8 (by omega), D6.t.keepsB b46 k8 (by omega), D6.jn, D6.tn⟩
    by_cases k6 : x.k = 6
    · have hact : actS d x = { d with m := IntKind.i64.wrap (d.m + 1) } := by rw [actS, if_neg k1, if_neg k2, if_neg k3, if_neg k4, if_neg k5, if_pos k6]; rfl
      obtain ⟨h6, hs6, b66, kk⟩ := dset_0 (x := IntKind.i64.wrap (d.m + 1)) b6
      have b46 := b44.keepsB kk (by omega)
      have D6 : DSt h.length h6 (.slice oj1 d.js.length cj1) (.slice ot1 d.ts.length ct1) { d with m := IntKind.i64.wrap (d.m + 1) } := ⟨D2.j.keepsB b6 kk (by omega), D2.t.keepsB b6 kk (by omega), os.jn, os.tn⟩
      have p6 : h <+: h6 := kk.pre p2 (fun j hj => by cases hj; omega)
      simp -implicitDefEqProofs [abox b34, k6, dbox b6, hs6]
      have rg := l12Good_run D6.ok
      cases hg : goodD ({ d with m := IntKind.i64.wrap (d.m + 1) })
      · have hx : actR d x = none := by rw [actR, hpl, if_pos rfl, hact, hg]; rfl
        obtain ⟨h8, hs8, b8, k8⟩ := dset_all (m' := 0) (p' := 0) (w' := 0) (oj := none) (nj := 0) (cj := 0) (ot := none) (nt := 0) (ct := 0) b46
        have p8 : h <+: h8 := k8.pre p6 (fun j hj => by cases hj; omega)
        simp -implicitDefEqProofs [k6, dbox b66, CL_ret rg, hg, hs8, dbox b8, hx]
        rw [gc_np (by simp [plain, plainC])]
        exact ⟨p8, _, _, ⟨rfl, rfl, rfl, rfl, rfl⟩, zD_st⟩
      · have hx : actR d x = some ({ d with m := IntKind.i64.wrap (d.m + 1) }) := by rw [actR, hpl, if_pos rfl, hact, hg]; rfl
        obtain ⟨h8, hs8, b8, k8⟩ := dset_all (m' := ({ d with m := IntKind.i64.wrap (d.m + 1) }).m) (p' := ({ d with m := IntKind.i64.wrap (d.m + 1) }).p) (w' := ({ d with m := IntKind.i64.wrap (d.m + 1) }).now) (oj := oj1) (nj := d.js.length) (cj := cj1) (ot := ot1) (nt := d.ts.length) (ct := ct1) b46
        have p8 : h <+: h8 := k8.pre p6 (fun j hj => by cases hj; omega)
        simp -implicitDefEqProofs [k6, dbox b66, CL_ret rg, hg, hs8, dbox b8, hx]
        rw [gc_np (by simp [plain, plainC])]
        exact ⟨p8, _, _, ⟨rfl, rfl⟩, D6.j.keepsB b46 k8 (by omega), D6.t.keepsB b46 k8 (by omega), D6.jn, D6.tn⟩
    by_cases k7 : x.k = 7
    · have hact : actS d x = { d with m := IntKind.i64.wrap (d.m - 1) } := by rw [actS, if_neg k1, if_neg k2, if_neg k3, if_neg k4, if_neg k5, if_neg k6, if_pos k7]; rfl
      obtain ⟨h6, hs6, b66, k6⟩ := dset_0 (x := IntKind.i64.wrap (d.m - 1)) b6
      have b46 := b44.keepsB k6 (by omega)
      have D6 : DSt h.length h6 (.slice oj1 d.js.length cj1) (.slice ot1 d.ts.length ct1) { d with m := IntKind.i64.wrap (d.m - 1) } := ⟨D2.j.keepsB b6 k6 (by omega), D2.t.keepsB b6 k6 (by omega), os.jn, os.tn⟩
      have p6 : h <+: h6 := k6.pre p2 (fun j hj => by cases hj; omega)
      simp -implicitDefEqProofs [abox b34, k7, dbox b6, hs6]
      have rg := l12Good_run D6.ok
      cases hg : goodD ({ d with m := IntKind.i64.wrap (d.m - 1) })
      · have hx : actR d x = none := by rw [actR, hpl, if_pos rfl, hact, hg]; rfl
        obtain ⟨h8, hs8, b8, k8⟩ := dset_all (m' := 0) (p' := 0) (w' := 0) (oj := none) (nj := 0) (cj := 0) (ot := none) (nt := 0) (ct := 0) b46
        have p8 : h <+: h8 := k8.pre p6 (fun j hj => by cases hj; omega)
        simp -implicitDefEqProofs [k7, dbox b66, CL_ret rg, hg, hs8, dbox b8, hx]
        rw [gc_np (by simp [plain, plainC])]
        exact ⟨p8, _, _, ⟨rfl, rfl, rfl, rfl, rfl⟩, zD_st⟩
      · have hx : actR d x = some ({ d with m := IntKind.i64.wrap (d.m - 1) }) := by rw [actR, hpl, if_pos rfl, hact, hg]; rfl
        obtain ⟨h8, hs8, b8, k8⟩ := dset_all (m' := ({ d with m := IntKind.i64.wrap (d.m - 1) }).m) (p' := ({ d with m := IntKind.i64.wrap (d.m - 1) }).p) (w' := ({ d with m := IntKind.i64.wrap (d.m - 1) }).now) (oj := oj1) (nj := d.js.length) (cj := cj1) (ot := ot1) (nt := d.ts.length) (ct := ct1) b46
        have p8 : h <+: h8 := k8.pre p6 (fun j hj => by cases hj; omega)
        simp -implicitDefEqProofs [k7, dbox b66, CL_ret rg, hg, hs8, dbox b8, hx]
        rw [gc_np (by simp [plain, plainC])]
        exact ⟨p8, _, _, ⟨rfl, rfl⟩, D6.j.keepsB b46 k8 (by omega), D6.t.keepsB b46 k8 (by omega), D6.jn, D6.tn⟩
    exfalso
    simp [plainA, k1, k2, k3, k4, k5, nb k6, nb k7] at c1
theorem specAct_run {h : Hp} {vj vt : Value} {d : Disp} {x : Act} (o : DOk h vj vt d) (htn : d.ts.length ≤ 2 ^ 20) :
    RunsC P G n_spec_ActDispatcher [dv d vj vt, av x] h fun v h' => h <+: h' ∧ ∃ vj' vt', v = .tuple #[dv (outD (if goodD d then actR d x else none)) vj' vt', .bool (if goodD d then actR d x else none).isSome] ∧ DSt h.length h' vj' vt' (outD (if goodD d then actR d x else none)) := by
  refine enter_run e_spec_ActDispatcher (by simp) ?_
  have os := o
  obtain ⟨⟨oj, cj, ej⟩, ot, ct, et⟩ := o.shapes
  subst ej; subst et
  have r1 := fun l => l12Good_run (os.ext l)
  cases hg : goodD d
  · simp -implicitDefEqProofs [CL_ret (r1 _), hg]
    rw [gc_np (by simp [plain, plainC])]
    exact ⟨List.prefix_append .., _, _, ⟨rfl, rfl, rfl, rfl, rfl⟩, zD_st⟩
  · simp -implicitDefEqProofs [CL_ret (r1 _), hg]
    refine CL_post (l12Act_run (x := x) (os.ext _) (goodD_facts hg) htn) fun v h1 hv => ?_
    obtain ⟨hp1, vj1, vt1, rfl, D1⟩ := hv
    have b4 := boxP2 hp1
    have p1 : h <+: h1 := (List.prefix_append ..).trans hp1
    have hl1 := hp1.length_le
    simp at hl1
    obtain ⟨oa5, n5, c5, rfl⟩ : ∃ oa n c, vj1 = .slice oa n c := by obtain ⟨oa, c, e⟩ := D1.j.sees.shapeT; exact ⟨_, _, _, e⟩
    obtain ⟨oa6, n6, c6, rfl⟩ : ∃ oa n c, vt1 = .slice oa n c := by obtain ⟨oa, c, e⟩ := D1.t.sees.shapeT; exact ⟨_, _, _, e⟩
    obtain ⟨h6, hs6, b66, k6⟩ := dset_all (m' := (outD (actR d x)).m) (p' := (outD (actR d x)).p) (w' := (outD (actR d x)).now) (oj := oa5) (nj := n5) (cj := c5) (ot := oa6) (nt := n6) (ct := c6) b4
    have p6 : h <+: h6 := k6.pre p1 (fun j hj => by cases hj; omega)
    simp -implicitDefEqProofs [hs6, dbox b66]
    rw [gc_np (by simp [plain, plainC])]
    exact ⟨p6, _, _, ⟨rfl, rfl⟩, (D1.j.keepsB b4 k6 (by omega)).low (by simp), (D1.t.keepsB b4 k6 (by omega)).low (by simp), D1.jn, D1.tn⟩
end Go.Pm.PP

/- Dispatchers: marks and sizes, by the laws' own functions. -/
set_option linter.unusedVariables false
set_option linter.unusedSimpArgs false
set_option maxRecDepth 4000
set_option maxHeartbeats 1000000
namespace Go.Pm.PP
open Go.Pm Go.Proofs
theorem take_set_next {α : Type} {xs : List α} {i : Nat} {x : α} (hi : i < xs.length) : (xs.set i x).take (i + 1) = xs.take i ++ [x] := by
  rw [take_succ' (show (xs.set i x)[i]? = some x by simp [hi])]
  congr 1
  rw [List.take_set_of_le (Nat.le_refl _)]
theorem markTaskS_run {b : Nat} {h : Hp} {v : Value} {ts : List Task} {k0 : Int} (o : Own b h v 3 (ts.map encT)) (hn : ts.length ≤ 2 ^ 40) :
    RunsC P G n_laws_markTaskS [v, .int .i64 k0] h fun r h' => r = .int .i64 (markTk ts k0) ∧ Own b h' v 3 ((markT ts k0).map encT) ∧ Keeps (rowV v) h h' := by
  refine enter_run e_laws_markTaskS (by simp) ?_
  have os := o
  obtain ⟨oa, c, ev⟩ := o.sees.shapeT
  subst ev
  simp -implicitDefEqProofs
  refine R_loop (fun m s h' => ∃ (i : Nat) (k : Int) (ts' : List Task), i + m = ts.length ∧ s = [(0, .slice oa ts.length c), (1, .int .i64 k), (5, .int .i64 i)] ∧ Own b h' (.slice oa ts.length c) 3 (ts'.map encT) ∧ ts'.length = ts.length ∧ Keeps (rowV (.slice oa ts.length c)) h h' ∧
    markT ts k0 = ts'.take i ++ markT (ts.drop i) k ∧ markTk ts k0 = markTk (ts.drop i) k) (fun m s h' => ?_) ⟨0, k0, ts, Nat.zero_add _, by simp, os, rfl, .refl, by simp, by simp⟩
  rintro ⟨i, k, ts', hi, rfl, ho, hl, hk, hx, hy⟩
  by_cases hlt : i < ts.length
  · obtain ⟨y, hy0, hd⟩ := drop_at hlt
    rw [hd, markT] at hx
    rw [hd, markTk] at hy
    obtain ⟨z, hz, _⟩ := drop_at (show i < ts'.length by omega)
    obtain ⟨h1, hs1, ho1, hk1⟩ := tasks_set0 ho hz k
    have hz1 : (ts'.set i ⟨k, z.m, z.s⟩)[i]? = some ⟨k, z.m, z.s⟩ := by simp [show i < ts'.length by omega]
    obtain ⟨h2, hs2, ho2, hk2⟩ := tasks_set1 ho1 hz1 (IntKind.i64.wrap (k + 1))
    simp only [List.set_set] at ho2
    have hz2 : (ts'.set i ⟨k, IntKind.i64.wrap (k + 1), z.s⟩)[i]? = some ⟨k, IntKind.i64.wrap (k + 1), z.s⟩ := by simp [show i < ts'.length by omega]
    obtain ⟨h3, hs3, ho3, hk3⟩ := tasks_set2 ho2 hz2 (IntKind.i64.wrap (IntKind.i64.wrap (k + 1) + 1))
    simp only [List.set_set] at ho3
    simp -implicitDefEqProofs [hlt, (tasksL ho.sees hz).1, hs1, (tasksL ho1.sees hz1).1, hs2, (tasksL ho2.sees hz2).1, hs3, winc hlt hn]
    exact ⟨m - 1, by omega, i + 1, by omega, _, ⟨rfl, rfl⟩, _, ho3, by simp [hl], ((hk.trans hk1).trans hk2).trans hk3, by rw [hx, take_set_next (by omega)]; simp [w64], by rw [hy]; rfl⟩
  · rw [List.drop_eq_nil_of_le (by omega), markT, List.append_nil, List.take_of_length_le (by omega)] at hx
    rw [List.drop_eq_nil_of_le (by omega), markTk] at hy
    simp -implicitDefEqProofs [hlt]
    rw [hx, hy]
    exact ⟨rfl, os.gc ho _, keeps_gc hk⟩
theorem markJobS_run {b : Nat} {h : Hp} {v : Value} {js : List Job} {k0 : Int} (o : Own b h v 4 (js.map encJ)) (hn : js.length ≤ 2 ^ 40) :
    RunsC P G n_laws_markJobS [v, .int .i64 k0] h fun r h' => r = .int .i64 (markJk js k0) ∧ Own b h' v 4 ((markJ js k0).map encJ) ∧ Keeps (rowV v) h h' := by
  refine enter_run e_laws_markJobS (by simp) ?_
  have os := o
  obtain ⟨oa, c, ev⟩ := o.sees.shapeT
  subst ev
  simp -implicitDefEqProofs
  refine R_loop (fun m s h' => ∃ (i : Nat) (k : Int) (js' : List Job), i + m = js.length ∧ s = [(0, .slice oa js.length c), (1, .int .i64 k), (5, .int .i64 i)] ∧ Own b h' (.slice oa js.length c) 4 (js'.map encJ) ∧ js'.length = js.length ∧ Keeps (rowV (.slice oa js.length c)) h h' ∧
    markJ js k0 = js'.take i ++ markJ (js.drop i) k ∧ markJk js k0 = markJk (js.drop i) k) (fun m s h' => ?_) ⟨0, k0, js, Nat.zero_add _, by simp, os, rfl, .refl, by simp, by simp⟩
  rintro ⟨i, k, js', hi, rfl, ho, hl, hk, hx, hy⟩
  by_cases hlt : i < js.length
  · obtain ⟨y, hy0, hd⟩ := drop_at hlt
    rw [hd, markJ] at hx
    rw [hd, markJk] at hy
    have hlt' : i < js'.length := by omega
    obtain ⟨z, hz, _⟩ := drop_at hlt'
    obtain ⟨h1, hs1, ho1, hk1⟩ := jobs_set0 ho hz k
    have hz1 : (js'.set i ⟨k, z.w, z.r, z.d⟩)[i]? = some ⟨k, z.w, z.r, z.d⟩ := by simp [hlt']
    obtain ⟨h2, hs2, ho2, hk2⟩ := jobs_set1 ho1 hz1 (IntKind.i64.wrap (k + 1))
    simp only [List.set_set] at ho2
    have hz2 : (js'.set i ⟨k, IntKind.i64.wrap (k + 1), z.r, z.d⟩)[i]? = some ⟨k, IntKind.i64.wrap (k + 1), z.r, z.d⟩ := by simp [hlt']
    obtain ⟨h3, hs3, ho3, hk3⟩ := jobs_set2 ho2 hz2 (IntKind.i64.wrap (IntKind.i64.wrap (k + 1) + 1))
    simp only [List.set_set] at ho3
    have hz3 : (js'.set i ⟨k, IntKind.i64.wrap (k + 1), IntKind.i64.wrap (IntKind.i64.wrap (k + 1) + 1), z.d⟩)[i]? = some ⟨k, IntKind.i64.wrap (k + 1), IntKind.i64.wrap (IntKind.i64.wrap (k + 1) + 1), z.d⟩ := by simp [hlt']
    obtain ⟨h4, hs4, ho4, hk4⟩ := jobs_set3 ho3 hz3 (IntKind.i64.wrap (IntKind.i64.wrap (IntKind.i64.wrap (k + 1) + 1) + 1))
    simp only [List.set_set] at ho4
    simp -implicitDefEqProofs [hlt, (jobsL ho.sees hz).1, hs1, (jobsL ho1.sees hz1).1, hs2, (jobsL ho2.sees hz2).1, hs3, (jobsL ho3.sees hz3).1, hs4, winc hlt hn]
    exact ⟨m - 1, by omega, i + 1, by omega, _, ⟨rfl, rfl⟩, _, ho4, by simp [hl], (((hk.trans hk1).trans hk2).trans hk3).trans hk4, by rw [hx, take_set_next hlt']; simp [w64], by rw [hy]; rfl⟩
  · rw [List.drop_eq_nil_of_le (by omega), markJ, List.append_nil, List.take_of_length_le (by omega)] at hx
    rw [List.drop_eq_nil_of_le (by omega), markJk] at hy
    simp -implicitDefEqProofs [hlt]
    rw [hx, hy]
    exact ⟨rfl, os.gc ho _, keeps_gc hk⟩
theorem heldTaskS_run {h : Hp} {v : Value} {ts : List Task} {k0 : Int} (hv : Tasks h v ts) (hn : ts.length ≤ 2 ^ 40) :
    Ret P G n_laws_heldTaskS [v, .int .i64 k0] h (.int .i64 (heldT ts k0)) h := by
  refine enter_run e_laws_heldTaskS (by simp) ?_
  have os := hv
  obtain ⟨oa, c, ev⟩ := hv.shapeT
  subst ev
  simp -implicitDefEqProofs
  refine R_loop (fun m s h' => ∃ (i : Nat) (k : Int), i + m = ts.length ∧ s = [(0, .slice oa ts.length c), (1, .int .i64 k), (5, .int .i64 i)] ∧ h' = h ∧ heldT ts k0 = heldT (ts.drop i) k) (fun m s h' => ?_) ⟨0, k0, Nat.zero_add _, by simp, rfl, by simp⟩
  rintro ⟨i, k, hi, rfl, rfl, hx⟩
  by_cases hlt : i < ts.length
  · obtain ⟨y, hy0, hd⟩ := drop_at hlt
    rw [hd, heldT] at hx
    cases c1 : (y.j == k)
    · simp only [c1, Bool.false_and, Bool.false_eq_true, if_false] at hx
      simp -implicitDefEqProofs [hlt, tasksL os hy0, c1, show ¬ y.j = k by simpa using c1, nt (show ¬ y.j = k by simpa using c1), hx]
    · cases c2 : (y.m == w64 (k + 1))
      · simp only [c1, c2, Bool.and_false, Bool.false_and, Bool.false_eq_true, if_false] at hx
        rw [w64] at c2
        simp -implicitDefEqProofs [hlt, tasksL os hy0, c1, show y.j = k by simpa using c1, show ¬ y.m = IntKind.i64.wrap (k + 1) by simpa using c2, nt (show ¬ y.m = IntKind.i64.wrap (k + 1) by simpa using c2), hx]
      · cases c3 : (y.s == w64 (w64 (k + 1) + 1))
        · simp only [c1, c2, c3, Bool.and_false, Bool.false_eq_true, if_false] at hx
          rw [w64] at c2
          simp only [w64] at c3
          simp -implicitDefEqProofs [hlt, tasksL os hy0, c1, show y.j = k by simpa using c1, show y.m = IntKind.i64.wrap (k + 1) by simpa using c2, show ¬ y.s = IntKind.i64.wrap (IntKind.i64.wrap (k + 1) + 1) by simpa using c3, nt (show ¬ y.s = IntKind.i64.wrap (IntKind.i64.wrap (k + 1) + 1) by simpa using c3), hx]
        · simp only [c1, c2, c3, Bool.and_self, if_true] at hx
          rw [w64] at c2
          simp only [w64] at c3
          simp -implicitDefEqProofs [hlt, tasksL os hy0, c1, show y.j = k by simpa using c1, show y.m = IntKind.i64.wrap (k + 1) by simpa using c2, show y.s = IntKind.i64.wrap (IntKind.i64.wrap (k + 1) + 1) by simpa using c3, winc hlt hn]
          exact ⟨m - 1, by omega, i + 1, by omega, _, ⟨rfl, rfl⟩, hx⟩
  · rw [List.drop_eq_nil_of_le (by omega), heldT] at hx
    simp -implicitDefEqProofs [hlt, hx]
theorem heldJobS_run {h : Hp} {v : Value} {js : List Job} {k0 : Int} (hv : Jobs h v js) (hn : js.length ≤ 2 ^ 40) :
    Ret P G n_laws_heldJobS [v, .int .i64 k0] h (.int .i64 (heldJ js k0)) h := by
  refine enter_run e_laws_heldJobS (by simp) ?_
  have os := hv
  obtain ⟨oa, c, ev⟩ := hv.shapeT
  subst ev
  simp -implicitDefEqProofs
  refine R_loop (fun m s h' => ∃ (i : Nat) (k : Int), i + m = js.length ∧ s = [(0, .slice oa js.length c), (1, .int .i64 k), (5, .int .i64 i)] ∧ h' = h ∧ heldJ js k0 = heldJ (js.drop i) k) (fun m s h' => ?_) ⟨0, k0, Nat.zero_add _, by simp, rfl, by simp⟩
  rintro ⟨i, k, hi, rfl, rfl, hx⟩
  by_cases hlt : i < js.length
  · obtain ⟨y, hy0, hd⟩ := drop_at hlt
    rw [hd, heldJ] at hx
    cases c1 : (y.t == k)
    · simp only [c1, Bool.false_and, Bool.false_eq_true, if_false] at hx
      simp -implicitDefEqProofs [hlt, jobsL os hy0, show ¬ y.t = k by simpa using c1, nt (show ¬ y.t = k by simpa using c1), hx]
    · cases c2 : (y.w == w64 (k + 1))
      · simp only [c1, c2, Bool.and_false, Bool.false_and, Bool.false_eq_true, if_false] at hx
        rw [w64] at c2
        simp -implicitDefEqProofs [hlt, jobsL os hy0, show y.t = k by simpa using c1, show ¬ y.w = IntKind.i64.wrap (k + 1) by simpa using c2, nt (show ¬ y.w = IntKind.i64.wrap (k + 1) by simpa using c2), hx]
      · cases c3 : (y.r == w64 (w64 (k + 1) + 1))
        · simp only [c1, c2, c3, Bool.and_false, Bool.false_and, Bool.false_eq_true, if_false] at hx
          rw [w64] at c2
          simp only [w64] at c3
          simp -implicitDefEqProofs [hlt, jobsL os hy0, show y.t = k by simpa using c1, show y.w = IntKind.i64.wrap (k + 1) by simpa using c2, show ¬ y.r = IntKind.i64.wrap (IntKind.i64.wrap (k + 1) + 1) by simpa using c3, nt (show ¬ y.r = IntKind.i64.wrap (IntKind.i64.wrap (k + 1) + 1) by simpa using c3), hx]
        · cases c4 : (y.d == w64 (w64 (w64 (k + 1) + 1) + 1))
          · simp only [c1, c2, c3, c4, Bool.and_false, Bool.false_eq_true, if_false] at hx
            rw [w64] at c2
            simp only [w64] at c3 c4
            simp -implicitDefEqProofs [hlt, jobsL os hy0, show y.t = k by simpa using c1, show y.w = IntKind.i64.wrap (k + 1) by simpa using c2, show y.r = IntKind.i64.wrap (IntKind.i64.wrap (k + 1) + 1) by simpa using c3, show ¬ y.d = IntKind.i64.wrap (IntKind.i64.wrap (IntKind.i64.wrap (k + 1) + 1) + 1) by simpa using c4, nt (show ¬ y.d = IntKind.i64.wrap (IntKind.i64.wrap (IntKind.i64.wrap (k + 1) + 1) + 1) by simpa using c4), hx]
          · simp only [c1, c2, c3, c4, Bool.and_self, if_true] at hx
            rw [w64] at c2
            simp only [w64] at c3 c4
            simp -implicitDefEqProofs [hlt, jobsL os hy0, show y.t = k by simpa using c1, show y.w = IntKind.i64.wrap (k + 1) by simpa using c2, show y.r = IntKind.i64.wrap (IntKind.i64.wrap (k + 1) + 1) by simpa using c3, show y.d = IntKind.i64.wrap (IntKind.i64.wrap (IntKind.i64.wrap (k + 1) + 1) + 1) by simpa using c4, winc hlt hn]
            exact ⟨m - 1, by omega, i + 1, by omega, _, ⟨rfl, rfl⟩, hx⟩
  · rw [List.drop_eq_nil_of_le (by omega), heldJ] at hx
    simp -implicitDefEqProofs [hlt, hx]
def markD (d : Disp) (k : Int) : Disp := { d with js := markJ d.js k, ts := markT d.ts (markJk d.js k) }
theorem markJ_len : ∀ {js : List Job} {k : Int}, (markJ js k).length = js.length
  | [], _ => rfl
  | _ :: _, _ => by simp [markJ, markJ_len]
theorem markT_len : ∀ {ts : List Task} {k : Int}, (markT ts k).length = ts.length
  | [], _ => rfl
  | _ :: _, _ => by simp [markT, markT_len]
/-- All rows but two stay as they were. -/
def Keeps2 (r q : Option Nat) (h h' : Hp) : Prop := h.length ≤ h'.length ∧ ∀ k, k < h.length → r ≠ some k → q ≠ some k → h'[k]? = h[k]?
theorem markDispatcher_run {b : Nat} {h : Hp} {vj vt : Value} {d : Disp} {k : Int} (o : DSt b h vj vt d) (h0 : 0 ≤ k) (h1 : k ≤ 2 ^ 50) :
    RunsC P G n_laws_markDispatcher [dv d vj vt, .int .i64 k] h fun r h' => r = .int .i64 (k + 4 * d.js.length + 3 * d.ts.length) ∧ DSt b h' vj vt (markD d k) ∧ Keeps2 (rowV vj) (rowV vt) h h' := by
  refine enter_run e_laws_markDispatcher (by simp) ?_
  have jn := o.jn
  have tn := o.tn
  obtain ⟨⟨oj, cj, ej⟩, ot, ct, et⟩ := o.ok.shapes
  subst ej; subst et
  have o1 := o.pre (List.prefix_append h [some ⟨[.int .i64 d.m, .int .i64 d.p, .int .i64 d.now, .slice oj d.js.length cj, .slice ot d.ts.length ct], 0, false⟩])
  have b0 : BoxAt (h ++ [some ⟨[.int .i64 d.m, .int .i64 d.p, .int .i64 d.now, .slice oj d.js.length cj, .slice ot d.ts.length ct], 0, false⟩]) h.length [.int .i64 d.m, .int .i64 d.p, .int .i64 d.now, .slice oj d.js.length cj, .slice ot d.ts.length ct] := boxP List.prefix_rfl
  simp -implicitDefEqProofs
  refine CL_post (markJobS_run o1.j jn) fun r h1 hr => ?_
  obtain ⟨rfl, hw1, hk1⟩ := hr
  have b1 := b0.keepsO o1.j hk1 (by omega)
  have t1 := o1.t.keepsO o1.j hk1 (by omega)
  simp -implicitDefEqProofs [dbox b1]
  refine CL_post (markTaskS_run t1 tn) fun r h2 hr => ?_
  obtain ⟨rfl, hw2, hk2⟩ := hr
  have j2 := hw1.keepsO t1 hk2 (by omega)
  simp -implicitDefEqProofs
  have ek : markTk d.ts (markJk d.js k) = k + 4 * d.js.length + 3 * d.ts.length := by rw [markJk_eq h0 (by omega), markTk_eq (by omega) (by omega)]
  have kk : Keeps2 (rowV (.slice oj d.js.length cj)) (rowV (.slice ot d.ts.length ct)) h h2 := ⟨by have := hk1.1; have := hk2.1; simp at *; omega, fun q hq n1 n2 => by
    rw [hk2.2 q (by have := hk1.1; simp at this; omega) n2, hk1.2 q (by simp; omega) n1, List.getElem?_append_left hq]⟩
  rw [ek]
  refine ⟨rfl, ⟨o.j.gc j2 _, o.t.gc hw2 _, by show (markJ _ _).length ≤ _; rw [markJ_len]; exact jn, by show (markT _ _).length ≤ _; rw [markT_len]; exact tn⟩, ?_⟩
  rcases gc_cases h h2 (.int .i64 (k + 4 * d.js.length + 3 * d.ts.length)) with hg | ⟨_, hg⟩ <;> rw [hg]
  · exact kk
  · exact ⟨Nat.le_refl _, fun _ _ _ _ => rfl⟩
def heldD (d : Disp) (k : Int) : Int := if heldJ d.js k < 0 then -1 else if heldT d.ts (heldJ d.js k) < 0 then -1 else heldT d.ts (heldJ d.js k)
theorem heldDispatcher_run {h : Hp} {vj vt : Value} {d : Disp} {k : Int} (o : DOk h vj vt d) :
    Ret P G n_laws_heldDispatcher [dv d vj vt, .int .i64 k] h (.int .i64 (heldD d k)) h := by
  refine enter_run e_laws_heldDispatcher (by simp) ?_
  have os := o
  obtain ⟨⟨oj, cj, ej⟩, ot, ct, et⟩ := o.shapes
  subst ej; subst et
  have r1 := fun l => heldJobS_run (k0 := k) (os.j.ext l) os.jn
  have r2 := fun l => heldTaskS_run (k0 := heldJ d.js k) (os.t.ext l) os.tn
  by_cases c1 : heldJ d.js k < 0
  · simp -implicitDefEqProofs [CL_ret (r1 _), c1, heldD]
  · by_cases c2 : heldT d.ts (heldJ d.js k) < 0
    · simp -implicitDefEqProofs [CL_ret (r1 _), CL_ret (r2 _), c1, c2, heldD]
    · simp -implicitDefEqProofs [CL_ret (r1 _), CL_ret (r2 _), c1, c2, heldD]
theorem heldD_mark {d : Disp} {k : Int} (h0 : 0 ≤ k) (h1 : k + 4 * d.js.length + 3 * d.ts.length ≤ 2 ^ 59) : heldD (markD d k) k = k + 4 * d.js.length + 3 * d.ts.length := by
  have e1 : markJk d.js k = k + 4 * d.js.length := markJk_eq h0 (by omega)
  have e2 : markTk d.ts (markJk d.js k) = k + 4 * d.js.length + 3 * d.ts.length := by rw [e1, markTk_eq (by omega) (by omega)]
  unfold heldD markD
  simp only [heldJ_mark, heldT_mark, e2]
  rw [if_neg (by omega), if_neg (by omega)]
theorem szTaskS_run {h : Hp} {v : Value} {ts : List Task} {left : Int} (hv : Tasks h v ts) (hn : ts.length < 2 ^ 63) (h0 : 0 ≤ left) (h1 : left ≤ 2 ^ 20) :
    Ret P G n_laws_szTaskS [v, .int .i64 left] h (.int .i64 (szL left ts.length)) h := by
  refine enter_run e_laws_szTaskS (by simp) ?_
  obtain ⟨oj, cj, rfl⟩ := hv.shapeT
  have w : IntKind.i64.wrap (left - ts.length) = left - ts.length := by rw [wrap_ok] <;> omega
  cases h2 : decide (left - (ts.length : Int) < 0) <;> simp -implicitDefEqProofs [w, h2, szL] <;> simp at h2 <;> omega
def szD (left : Int) (d : Disp) : Int := if szL left d.js.length < 0 then -1 else if szL (szL left d.js.length) d.ts.length < 0 then -1 else szL (szL left d.js.length) d.ts.length
theorem szDispatcher_run {h : Hp} {vj vt : Value} {d : Disp} {left : Int} (hj : Jobs h vj d.js) (ht : Tasks h vt d.ts) (hjn : d.js.length < 2 ^ 63) (htn : d.ts.length < 2 ^ 63) (h0 : 0 ≤ left) (h1 : left ≤ 2 ^ 20) :
    Ret P G n_laws_szDispatcher [dv d vj vt, .int .i64 left] h (.int .i64 (szD left d)) h := by
  refine enter_run e_laws_szDispatcher (by simp) ?_
  have hjs := hj
  have hts := ht
  obtain ⟨oj, cj, ej⟩ := hj.shapeT
  obtain ⟨ot, ct, et⟩ := ht.shapeT
  subst ej; subst et
  have r1 := fun l => szJobS_run (left := left) (hjs.ext l) hjn h0 h1
  by_cases c1 : szL left d.js.length < 0
  · simp -implicitDefEqProofs [CL_ret (r1 _), c1, szD]
  · have r2 := fun l => szTaskS_run (left := szL left d.js.length) (hts.ext l) htn (by omega) (by have := szL_le (n := d.js.length) h0; omega)
    by_cases c2 : szL (szL left d.js.length) d.ts.length < 0
    · simp -implicitDefEqProofs [CL_ret (r1 _), CL_ret (r2 _), c1, c2, szD]
    · simp -implicitDefEqProofs [CL_ret (r1 _), CL_ret (r2 _), c1, c2, szD]
end Go.Pm.PP

/- FnExactFinishAll: the law in the small machine. -/
set_option linter.unusedVariables false
set_option linter.unusedSimpArgs false
set_option maxRecDepth 4000
set_option maxHeartbeats 4000000
namespace Go.Pm.PP
open Go.Pm Go.Proofs
section
variable {h h' h0 : Hp} {r q : Option Nat} {b sz : Nat} {v : Value} {els : List (List Value)} {d : Disp} {vj vt : Value}
theorem Keeps2.pre (k : Keeps2 r q h h') (hp : h0 <+: h) (hr : ∀ j, r = some j → h0.length ≤ j) (hq : ∀ j, q = some j → h0.length ≤ j) : h0 <+: h' := by
  rw [pre_iff] at *
  refine ⟨Nat.le_trans hp.1 k.1, fun j hj _ => ?_⟩
  rw [k.2 j (Nat.lt_of_lt_of_le hj hp.1) (fun e => by have := hr j e; omega) (fun e => by have := hq j e; omega), hp.2 j hj (by simp)]
theorem _root_.Go.Pm.Own.keeps2 (o : Own b h v sz els) (k : Keeps2 r q h h') (hr : ∀ j, rowV v = some j → r ≠ some j ∧ q ≠ some j) : Own b h' v sz els := by
  obtain ⟨h1, h2⟩ := o
  refine ⟨h1, ?_⟩
  rcases h2 with h2 | ⟨r', rest, k', hb, hrest, rfl, hh⟩
  · exact .inl h2
  · have hq := (List.getElem?_eq_some_iff.1 hh).1
    obtain ⟨n1, n2⟩ := hr r' rfl
    exact .inr ⟨r', rest, k', hb, hrest, rfl, by rw [k.2 r' hq n1 n2]; exact hh⟩
theorem BoxAt.keeps2 {i : Nat} {cs : List Value} (bx : BoxAt h i cs) (k : Keeps2 r q h h') (h1 : r ≠ some i) (h2 : q ≠ some i) : BoxAt h' i cs := by
  show h'[i]? = _
  rw [k.2 i bx.lt h1 h2]; exact bx
/-- Dispatchers that do not share. -/
theorem DSt.keeps2 {b' : Nat} {uj ut : Value} {c : Disp} (o : DSt b h vj vt d) (o' : DSt b' h uj ut c) (k : Keeps2 (rowV uj) (rowV ut) h h') (hne : ∀ i j, (rowV vj = some i ∨ rowV vt = some i) → (rowV uj = some j ∨ rowV ut = some j) → i ≠ j) : DSt b h' vj vt d :=
  ⟨o.j.keeps2 k fun i hi => ⟨fun e => hne i i (.inl hi) (.inl e) rfl, fun e => hne i i (.inl hi) (.inr e) rfl⟩, o.t.keeps2 k fun i hi => ⟨fun e => hne i i (.inr hi) (.inl e) rfl, fun e => hne i i (.inr hi) (.inr e) rfl⟩, o.jn, o.tn⟩
theorem DSt.lt (o : DSt b h vj vt d) {i : Nat} (hi : rowV vj = some i ∨ rowV vt = some i) : i < h.length := by
  rcases hi with h1 | h1
  · exact o.j.row_lt h1
  · exact o.t.row_lt h1
theorem DSt.ge (o : DSt b h vj vt d) {i : Nat} (hi : rowV vj = some i ∨ rowV vt = some i) : b ≤ i := by
  rcases hi with h1 | h1
  · exact o.j.row_ge h1
  · exact o.t.row_ge h1
theorem BoxAt.keepsD {i : Nat} {cs : List Value} (bx : BoxAt h i cs) (o : DSt b h vj vt d) (k : Keeps2 (rowV vj) (rowV vt) h h') : BoxAt h' i cs :=
  bx.keeps2 k (o.j.ne_box bx (by omega)) (o.t.ne_box bx (by omega))
end
theorem finGo_len {step : Disp → Disp} {B J T : Nat} (hT : J + B ≤ T) (hs : ∀ d, d.ts.length < d.js.length → d.js.length = J → (step d).js.length = J ∧ (step d).ts.length ≤ d.ts.length + B) : ∀ {n : Nat} {d d' : Disp}, d.js.length = J → d.ts.length ≤ T → finGo step n d = some d' → d'.js.length = J ∧ d'.ts.length ≤ T
  | 0, d, d', hj, ht, e => by
    rw [finGo] at e
    split at e
    · cases e
    · cases e; exact ⟨hj, ht⟩
  | n + 1, d, d', hj, ht, e => by
    rw [finGo] at e
    split at e
    · rename_i h1
      split at e
      · cases e
      · have := hs d h1 hj
        exact finGo_len hT hs this.1 (by omega) e
    · cases e; exact ⟨hj, ht⟩
theorem stepGo_len {d : Disp} : ∀ {l : List Int} {k : Nat} {ts : List Task}, (stepGo d l k ts).length ≤ ts.length + l.length
  | [], k, ts => Nat.le_refl _
  | r :: l, k, ts => by
    rw [stepGo]
    refine Nat.le_trans stepGo_len ?_
    split
    · simp only [List.length_cons]; omega
    · unfold putT
      split
      · simp only [List.length_cons, List.length_append, List.length_nil]; omega
      · simp only [List.length_cons]; omega
theorem finI_len {d : Disp} (ht : d.ts.length ≤ 2 ^ 20) : (outD (finI d)).js.length ≤ 2 ^ 30 ∧ (outD (finI d)).ts.length ≤ 2 ^ 30 := by
  unfold finI
  split
  · rename_i hg
    have F := goodI_facts hg
    cases hf : finGo (stepI · d.m.toNat) (1000 - d.now).toNat d with
    | none => simp [zD]
    | some d' =>
      have := finGo_len (step := (stepI · d.m.toNat)) (B := 4) (J := d.js.length) (T := 2 ^ 20) (by have := F.js8; omega) (fun d0 h1 h2 => ⟨h2, by
        have h3 := stepGo_len (d := d0) (l := runL d0 d.m.toNat) (k := 0) (ts := d0.ts)
        rw [runL_len] at h3
        have := F.m4
        show (stepGo _ _ _ _).length ≤ _
        omega⟩) rfl ht hf
      have := F.js8
      simp only [Option.getD_some]
      omega
  · simp [zD]
theorem law_FinishAll {h : Hp} {vj vt : Value} {d : Disp} (hj : Jobs h vj d.js) (ht : Tasks h vt d.ts) (hjn : d.js.length < 2 ^ 63) (htn : d.ts.length < 2 ^ 63) :
    Ret P G n_laws_FnExactFinishAll [dv d vj vt] h (.bool true) h := by
  refine enter_run e_laws_FnExactFinishAll (by simp) ?_
  have hjs := hj
  have hts := ht
  obtain ⟨oj, cj, ej⟩ := hj.shapeT
  obtain ⟨ot, ct, et⟩ := ht.shapeT
  subst ej; subst et
  have c1 := fun l => szDispatcher_run (h := h ++ l) (d := d) (left := 1048576) (hjs.ext l) (hts.ext l) hjn htn (by omega) (by omega)
  by_cases h2 : szD 1048576 d < 0
  · simp -implicitDefEqProofs [CL_ret (c1 _), h2]
  · have hl : (d.js.length : Int) ≤ 1048576 ∧ (d.ts.length : Int) ≤ 1048576 := by
      unfold szD at h2
      have e1 : szL 1048576 d.js.length < 0 ∨ szL 1048576 d.js.length = 1048576 - d.js.length := by unfold szL; split <;> omega
      rcases e1 with e1 | e1
      · rw [if_pos e1] at h2; omega
      · by_cases e2 : szL 1048576 d.js.length < 0
        · rw [if_pos e2] at h2; omega
        · rw [if_neg e2, e1] at h2
          have e3 : szL (1048576 - d.js.length) d.ts.length < 0 ∨ szL (1048576 - d.js.length) d.ts.length = 1048576 - d.js.length - d.ts.length := by unfold szL; split <;> omega
          rcases e3 with e3 | e3
          · rw [if_pos e3] at h2; omega
          · by_cases e4 : szL (1048576 - d.js.length) d.ts.length < 0
            · rw [if_pos e4] at h2; omega
            · omega
    have o0 : DOk h (.slice oj d.js.length cj) (.slice ot d.ts.length ct) d := ⟨hjs, hts, by omega, by omega⟩
    have hfl : (outD (finI d)).js.length ≤ 2 ^ 30 ∧ (outD (finI d)).ts.length ≤ 2 ^ 30 := finI_len (by omega)
    simp -implicitDefEqProofs [CL_ret (c1 _), h2]
    -- the reference
    refine CL_post (toDispatcher_run (o0.ext _)) fun v h1 hv => ?_
    obtain ⟨p1, aj, at', rfl, D1⟩ := hv
    have x1 := boxP p1
    simp -implicitDefEqProofs
    refine CL_post (specFinishAll_run D1.ok) fun v h2 hv => ?_
    obtain ⟨p2, wj, wt, rfl, D2⟩ := hv
    rw [← finIS] at D2 ⊢
    have x2 := x1.pre p2
    obtain ⟨⟨owj, cwj, ewj⟩, owt, cwt, ewt⟩ := D2.ok.shapes
    subst ewj; subst ewt
    have p02 : h <+: h2 := (List.prefix_append ..).trans (p1.trans p2)
    simp -implicitDefEqProofs [dbox x2, ldbox x2, ldbox (x2.ext _)]
    have b4 := boxP (h := h2) (t := []) (cs := [.int .i64 (outD (finI d)).m, .int .i64 (outD (finI d)).p, .int .i64 (outD (finI d)).now, .slice owj (outD (finI d)).js.length cwj, .slice owt (outD (finI d)).ts.length cwt]) List.prefix_rfl
    have D2' := D2.pre (List.prefix_append h2 [some ⟨[.int .i64 (outD (finI d)).m, .int .i64 (outD (finI d)).p, .int .i64 (outD (finI d)).now, .slice owj (outD (finI d)).js.length cwj, .slice owt (outD (finI d)).ts.length cwt], 0, false⟩])
    -- the copy
    refine CL_post (toDispatcher_run ((o0.pre p02).ext _)) fun v h3 hv => ?_
    obtain ⟨p3, xj, xt, rfl, D3⟩ := hv
    obtain ⟨⟨oxj, cxj, exj⟩, oxt, cxt, ext⟩ := D3.ok.shapes
    subst exj; subst ext
    generalize hF : outD (finI d) = F at *
    generalize hok : (finI d).isSome = ok at *
    have x3 := x2.pre ((List.prefix_append ..).trans p3)
    have b4' := b4.pre p3
    have D2b := D2'.pre p3
    have q3 : h <+: h3 := p02.trans ((List.prefix_append ..).trans p3)
    simp -implicitDefEqProofs
    have b6 := boxP (h := h3) (t := []) (cs := [.int .i64 d.m, .int .i64 d.p, .int .i64 d.now, .slice oxj d.js.length cxj, .slice oxt d.ts.length cxt]) List.prefix_rfl
    have D3' := D3.pre (List.prefix_append h3 [some ⟨[.int .i64 d.m, .int .i64 d.p, .int .i64 d.now, .slice oxj d.js.length cxj, .slice oxt d.ts.length cxt], 0, false⟩])
    -- the program
    refine CL_post (FinishAll_run D3'.ok) fun v h4 hv => ?_
    obtain ⟨p4, gj, gt, rfl, D4⟩ := hv
    rw [hF] at D4 ⊢
    rw [hok]
    obtain ⟨⟨ogj, cgj, egj⟩, ogt, cgt, egt⟩ := D4.ok.shapes
    subst egj; subst egt
    have p34 : h3 <+: h4 := (List.prefix_append ..).trans p4
    have x4 := x3.pre p34
    have b4'' := b4'.pre p34
    have D2c := D2b.pre p34
    have b6' := b6.pre p4
    have D3b := D3'.pre p4
    have q4 := q3.trans p34
    have b7 := boxP (h := h4) (t := []) (cs := [.int .i64 F.m, .int .i64 F.p, .int .i64 F.now, .slice ogj F.js.length cgj, .slice ogt F.ts.length cgt]) List.prefix_rfl
    have e1 := fun l => eqDispatcher_run (D4.ok.ext l) (D2c.ok.ext l)
    simp -implicitDefEqProofs [dbox (b4''.ext _), CL_ret (e1 _), dbox b7, dbox (b6'.ext _), ldbox (x4.ext _)]
    -- the copy is as it was
    refine CH_post (toDispatcher_run ((o0.pre q4).ext _)).new fun v h5 hv => ?_
    obtain ⟨⟨p5, yj, yt, rfl, D5⟩, hnew⟩ := hv
    refine ⟨hnew p5, ?_⟩
    have p45 : h4 <+: h5 := (List.prefix_append ..).trans p5
    have x5 := x4.pre p45
    have c4 := b4''.pre p45
    have c6 := b6'.pre p45
    have c7 := b7.pre p5
    have D2d := D2c.pre p45
    have D3c := D3b.pre p45
    have D4b := D4.pre p45
    have q5 := q4.trans p45
    have e2 := eqDispatcher_run D3c.ok D5.ok
    simp -implicitDefEqProofs [CL_ret e2, dbox c6]
    -- marks in the copy
    refine CL_post (markDispatcher_run D3c (k := 1) (by omega) (by omega)) fun v h6 hv => ?_
    obtain ⟨rfl, D3d, k6⟩ := hv
    have l2 := D2.ok
    have hne26 : ∀ i j, (rowV (.slice owj F.js.length cwj) = some i ∨ rowV (.slice owt F.ts.length cwt) = some i) → (rowV (.slice oxj d.js.length cxj) = some j ∨ rowV (.slice oxt d.ts.length cxt) = some j) → i ≠ j := fun i j hi hj => by
      have h1 := D2.lt hi
      have h2 := D3.ge hj
      simp at h2
      omega
    have hne46 : ∀ i j, (rowV (.slice ogj F.js.length cgj) = some i ∨ rowV (.slice ogt F.ts.length cgt) = some i) → (rowV (.slice oxj d.js.length cxj) = some j ∨ rowV (.slice oxt d.ts.length cxt) = some j) → i ≠ j := fun i j hi hj => by
      have h1 := D4.ge hi
      have h2 := D3.lt hj
      simp at h1
      omega
    have hne27 : ∀ i j, (rowV (.slice owj F.js.length cwj) = some i ∨ rowV (.slice owt F.ts.length cwt) = some i) → (rowV (.slice ogj F.js.length cgj) = some j ∨ rowV (.slice ogt F.ts.length cgt) = some j) → i ≠ j := fun i j hi hj => by
      have h1 := D2.lt hi
      have h2 := D4.ge hj
      have h3 := p3.length_le
      simp at h2 h3
      omega
    have x6 := x5.keepsD D3c k6
    have d4 := c4.keepsD D3c k6
    have d6 := c6.keepsD D3c k6
    have d7 := c7.keepsD D3c k6
    have D2e := D2d.keeps2 D3c k6 hne26
    have D4c := D4b.keeps2 D3c k6 hne46
    have q6 : h <+: h6 := k6.pre q5 (fun j hj => by have g1 := D3.ge (.inl hj); have g2 := p02.length_le; simp at g1; omega) (fun j hj => by have g1 := D3.ge (.inr hj); have g2 := p02.length_le; simp at g1; omega)
    have e3 := eqDispatcher_run D4c.ok D2e.ok
    have hk0 : ¬ (1 + 4 * (d.js.length : Int) + 3 * d.ts.length < 0) := by omega
    simp -implicitDefEqProofs [hk0, dbox d7, dbox d4, CL_ret e3]
    -- marks in the result
    refine CL_post (markDispatcher_run D4c (k := 1) (by omega) (by omega)) fun v h7 hv => ?_
    obtain ⟨rfl, D4d, k7⟩ := hv
    have x7 := x6.keepsD D4c k7
    have f4 := d4.keepsD D4c k7
    have f7 := d7.keepsD D4c k7
    have D2f := D2e.keeps2 D4c k7 hne27
    have q7 : h <+: h7 := k7.pre q6 (fun j hj => by have g1 := D4.ge (.inl hj); have g2 := q3.length_le; simp at g1; omega) (fun j hj => by have g1 := D4.ge (.inr hj); have g2 := q3.length_le; simp at g1; omega)
    have hld : ∀ {h' : Hp}, DOk h' (.slice ogj F.js.length cgj) (.slice ogt F.ts.length cgt) (markD F 1) → Ret P G n_laws_heldDispatcher [.agg #[.int .i64 F.m, .int .i64 F.p, .int .i64 F.now, .slice ogj F.js.length cgj, .slice ogt F.ts.length cgt], .int .i64 1] h' (.int .i64 (1 + 4 * F.js.length + 3 * F.ts.length)) h' := fun {h'} o => by
      have := heldDispatcher_run (k := 1) o
      rw [heldD_mark (by omega) (by omega)] at this
      exact this
    have hk1 : ¬ (1 + 4 * (F.js.length : Int) + 3 * F.ts.length < 0) := by omega
    simp -implicitDefEqProofs [dbox f7, CL_ret (hld D4d.ok), hk1, ldbox x7]
    -- once more
    refine CL_post (toDispatcher_run (o0.pre q7)) fun v h8 hv => ?_
    obtain ⟨p8, zj, zt, rfl, D8⟩ := hv
    simp -implicitDefEqProofs
    refine CL_post (FinishAll_run D8.ok) fun v h9 hv => ?_
    obtain ⟨p9, uj, ut, rfl, D9⟩ := hv
    rw [hF] at D9 ⊢
    rw [hok]
    have p79 : h7 <+: h9 := p8.trans p9
    obtain ⟨⟨ouj, cuj, euj⟩, out, cut, eut⟩ := D9.ok.shapes
    subst euj; subst eut
    have g4 := f4.pre p79
    have g7 := f7.pre p79
    have D2g := D2f.pre p79
    have D4e := D4d.pre p79
    have e4 := fun l => eqDispatcher_run (D9.ok.ext l) (D2g.ok.ext l)
    have b12 := boxP (h := h9) (t := []) (cs := [.int .i64 F.m, .int .i64 F.p, .int .i64 F.now, .slice ouj F.js.length cuj, .slice out F.ts.length cut]) List.prefix_rfl
    simp -implicitDefEqProofs [dbox b12, dbox (g4.ext _), CL_ret (e4 _), dbox (g7.ext _), CL_ret (hld (D4e.ok.ext _)), hk1]
    exact gcB' (q7.trans p79)
end Go.Pm.PP

/- Acts by the program: cancelling. -/
set_option linter.unusedVariables false
set_option linter.unusedSimpArgs false
set_option maxRecDepth 4000
set_option maxHeartbeats 1000000
namespace Go.Pm.PP
open Go.Pm Go.Proofs
/-- What lies below row b stays. -/
def Lo (b : Nat) (h h' : Hp) : Prop := ∀ h0 : Hp, h0 <+: h → h0.length ≤ b → h0 <+: h'
section
variable {b : Nat} {h h' h2 t : Hp} {r q : Option Nat}
theorem Lo.refl : Lo b h h := fun _ hp _ => hp
theorem Lo.ofPre (hp : h <+: h') : Lo b h h' := fun _ h1 _ => h1.trans hp
theorem Lo.trans (l : Lo b h h') (m : Lo b h' h2) : Lo b h h2 := fun h0 h1 h3 => m h0 (l h0 h1 h3) h3
theorem Lo.keeps (k : Keeps r h h') (hr : ∀ j, r = some j → b ≤ j) : Lo b h h' := fun h0 h1 h3 => k.pre h1 fun j hj => Nat.le_trans h3 (hr j hj)
theorem Lo.keeps2 (k : Keeps2 r q h h') (hr : ∀ j, r = some j → b ≤ j) (hq : ∀ j, q = some j → b ≤ j) : Lo b h h' := fun h0 h1 h3 => k.pre h1 (fun j hj => Nat.le_trans h3 (hr j hj)) fun j hj => Nat.le_trans h3 (hq j hj)
theorem Keeps2.ofL (k : Keeps r h h') : Keeps2 r q h h' := ⟨k.1, fun j h1 h2 _ => k.2 j h1 h2⟩
theorem Keeps2.ofR (k : Keeps q h h') : Keeps2 r q h h' := ⟨k.1, fun j h1 _ h2 => k.2 j h1 h2⟩
theorem Keeps2.refl : Keeps2 r q h h := ⟨Nat.le_refl _, fun _ _ _ _ => rfl⟩
/-- One row more is written: one of the two, or a new one. -/
theorem Keeps2.then {s : Option Nat} (k : Keeps2 r q h h') (k' : Keeps s h' h2) (hs : ∀ j, s = some j → r = some j ∨ q = some j ∨ h.length ≤ j) : Keeps2 r q h h2 :=
  ⟨Nat.le_trans k.1 k'.1, fun j h1 h3 h4 => by
    rw [k'.2 j (Nat.lt_of_lt_of_le h1 k.1) (fun e => by rcases hs j e with h | h | h; exact h3 h; exact h4 h; omega), k.2 j h1 h3 h4]⟩
end
theorem jobs_ownFront {b : Nat} {h : Hp} {v : Value} {js : List Job} (o : Own b h v 4 (js.map encJ)) {i : Nat} (hi : i ≤ js.length) :
    ∃ v', sliceP P h t_S_impl_Job v none (some (.int .i64 i)) = some v' ∧ Own b h v' 4 ((js.take i).map encJ) ∧ rowV v' = rowV v := by
  obtain ⟨v', h1, h2, h3⟩ := o.front (P := P) u_S_impl_Job i_impl_Job (k := .i64) (j := i) (by omega) (by simp; omega)
  rw [Int.toNat_natCast, ← List.map_take] at h2
  exact ⟨v', h1, h2, h3⟩
theorem without_run {b : Nat} {h : Hp} {vj vt : Value} {d : Disp} {i : Nat} (D : DSt b h vj vt d) (hb : b ≤ h.length) (hi : i < d.js.length) :
    RunsC P G n_impl_Dispatcher_without [dv d vj vt, .int .i64 i] h fun v h' => ∃ vj', v = dv (cancelD d i) vj' vt ∧ DSt b h' vj' vt (cancelD d i) ∧ Keeps2 (rowV vj) (rowV vt) h h' := by
  refine enter_run e_impl_Dispatcher_without (by simp) ?_
  have os := D.ok
  obtain ⟨⟨oj, cj, ej⟩, ot, ct, et⟩ := os.shapes
  subst ej; subst et
  have jn := os.jn
  have s0 : (h ++ [some ⟨[.int .i64 d.m, .int .i64 d.p, .int .i64 d.now, .slice oj d.js.length cj, .slice ot d.ts.length ct], 0, false⟩, some ⟨[.int .i64 0, .int .i64 0, .int .i64 0, .slice none 0 0, .slice none 0 0], 0, false⟩]) <+: (h ++ [some ⟨[.int .i64 d.m, .int .i64 d.p, .int .i64 d.now, .slice oj d.js.length cj, .slice ot d.ts.length ct], 0, false⟩, some ⟨[.int .i64 0, .int .i64 0, .int .i64 0, .slice none 0 0, .slice none 0 0], 0, false⟩]) := List.prefix_rfl
  have b1 := boxP s0
  have b2 := boxP1 s0
  have pH := List.prefix_append h [some (⟨[.int .i64 d.m, .int .i64 d.p, .int .i64 d.now, .slice oj d.js.length cj, .slice ot d.ts.length ct], 0, false⟩ : Row), some ⟨[.int .i64 0, .int .i64 0, .int .i64 0, .slice none 0 0, .slice none 0 0], 0, false⟩]
  have D1 := D.pre pH
  have lH := pH.length_le
  generalize hH : (h ++ [some ⟨[.int .i64 d.m, .int .i64 d.p, .int .i64 d.now, .slice oj d.js.length cj, .slice ot d.ts.length ct], 0, false⟩, some ⟨[.int .i64 0, .int .i64 0, .int .i64 0, .slice none 0 0, .slice none 0 0], 0, false⟩] : Hp) = H at *
  obtain ⟨vf, hsf, hf, hrf⟩ := jobs_ownFront D1.j (show i ≤ d.js.length by omega)
  obtain ⟨vb, hsb, hbk, _⟩ := jobs_back D1.j.sees (show i + 1 ≤ d.js.length by omega)
  obtain ⟨v5, h5, ha5, hw5, hk5, hr5⟩ := jobs_app hf (by omega) hbk (by simp; omega)
  have b15 := b1.keepsO hf hk5 (by omega)
  have b25 := b2.keepsO hf hk5 (by omega)
  have t5 := D1.t.keepsO hf hk5 (by omega)
  rw [hrf] at hk5
  obtain ⟨oa5, n5, c5, rfl⟩ : ∃ oa n c, v5 = .slice oa n c := by obtain ⟨oa, c, e⟩ := hw5.sees.shapeT; exact ⟨_, _, _, e⟩
  obtain ⟨h6, hs6, b16, k6⟩ := dset_j (oa := oa5) (n := n5) (c := c5) b15
  have b26 := b25.keepsB k6 (by omega)
  have j6 := hw5.keepsB b15 k6 (by omega)
  have t6 := t5.keepsB b15 k6 (by omega)
  have kk6 : Keeps2 (rowV (.slice oj d.js.length cj)) (rowV (.slice ot d.ts.length ct)) h h6 := ((Keeps2.ofL (q := rowV (.slice ot d.ts.length ct)) (Keeps.ofPre pH)).then hk5 (fun j hj => .inl hj)).then k6 (fun j hj => by cases hj; exact .inr (.inr (Nat.le_refl _)))
  have wi : IntKind.i64.wrap ((i : Int) + 1) = (i : Int) + 1 := by rw [wrap_ok] <;> omega
  rw [show ((i + 1 : Nat) : Int) = (i : Int) + 1 from rfl] at hsb
  simp -implicitDefEqProofs [hH, dbox b1, hsf, wi, hsb, ha5, hs6, dbox b16]
  refine R_loop (fun m s h' => ∃ k : Nat, k + m = d.ts.length ∧ s = [(1, .int .i64 i), (2, .pointer (some ⟨h.length, 0, some 5⟩)), (4, .pointer (some ⟨h.length + 1, 0, some 5⟩)), (19, .slice ot d.ts.length ct), (20, .int .i64 d.ts.length), (21, .int .i64 k)] ∧
      BoxAt h' h.length [.int .i64 d.m, .int .i64 d.p, .int .i64 d.now, .slice oa5 n5 c5, .slice ot d.ts.length ct] ∧ BoxAt h' (h.length + 1) [.int .i64 0, .int .i64 0, .int .i64 0, .slice none 0 0, .slice none 0 0] ∧
      Own b h' (.slice oa5 n5 c5) 4 ((d.js.take i ++ d.js.drop (i + 1)).map encJ) ∧ Own b h' (.slice ot d.ts.length ct) 3 (((d.ts.take k).map (lower i) ++ d.ts.drop k).map encT) ∧ Keeps2 (rowV (.slice oj d.js.length cj)) (rowV (.slice ot d.ts.length ct)) h h') (fun m s h' => ?_) ⟨0, Nat.zero_add _, by simp, b16, b26, j6, by simpa using t6, kk6⟩
  rintro ⟨k, hk, rfl, c1, c2, cj', ct', hp⟩
  by_cases hlt : k < d.ts.length
  · obtain ⟨y, hy, hd⟩ := drop_at hlt
    have hl2 : ((d.ts.take k).map (lower i)).length = k := by simp; omega
    have hy2 : ((d.ts.take k).map (lower i) ++ d.ts.drop k)[k]? = some y := by
      rw [List.getElem?_append_right (by omega), hl2, Nat.sub_self, hd]; rfl
    have hnx := set_map_next (lower i) hy
    by_cases hg : y.j > i
    · have ct1 := ct'.app (t := [some ⟨[.int .i64 y.j, .int .i64 y.m, .int .i64 y.s], 0, false⟩])
      obtain ⟨h7, hs7, ct7, k7⟩ := tasks_set0 ct1 hy2 (IntKind.i64.wrap (y.j - 1))
      have c17 := (c1.ext _).keepsO ct1 k7 (by omega)
      have c27 := (c2.ext _).keepsO ct1 k7 (by omega)
      have cj7 := (cj'.app).keepsO ct1 k7 (by omega)
      have hp7 : Keeps2 (rowV (.slice oj d.js.length cj)) (rowV (.slice ot d.ts.length ct)) h h7 := (hp.then (s := none) .app (by simp)).then k7 (fun j hj => .inr (.inl hj))
      rw [show (⟨IntKind.i64.wrap (y.j - 1), y.m, y.s⟩ : Task) = lower i y by unfold lower; rw [if_pos hg]; rfl, hnx] at ct7
      simp -implicitDefEqProofs [hlt, dbox (c1.ext _), tasksL ct'.sees hy2, tasksL ct1.sees hy2, show (i : Int) < y.j from hg, hs7, winc hlt os.tn]
      exact ⟨m - 1, by omega, k + 1, by omega, rfl, c17, c27, by simpa using cj7, by simpa using ct7, hp7⟩
    · rw [show lower i y = y by unfold lower; rw [if_neg hg], show ((d.ts.take k).map (lower i) ++ d.ts.drop k).set k y = (d.ts.take k).map (lower i) ++ d.ts.drop k by
        have h9 := (List.getElem?_eq_some_iff.1 hy2)
        rw [← h9.2, List.set_getElem_self]] at hnx
      rw [hnx] at ct'
      rw [hnx] at hy2
      simp -implicitDefEqProofs [hlt, dbox c1, tasksL ct'.sees hy2, show ¬ (i : Int) < y.j from hg, winc hlt os.tn]
      exact ⟨m - 1, by omega, k + 1, by omega, rfl, c1.ext _, c2.ext _, by simpa using cj'.app, by simpa using ct'.app, hp.then (s := none) .app (by simp)⟩
  · have hke : k = d.ts.length := by omega
    subst hke
    rw [List.take_of_length_le (Nat.le_refl _), List.drop_eq_nil_of_le (Nat.le_refl _), List.append_nil] at ct'
    obtain ⟨h7, hs7, c3, k7⟩ := dset_all (m' := d.m) (p' := d.p) (w' := d.now) (oj := oa5) (nj := n5) (cj := c5) (ot := ot) (nt := d.ts.length) (ct := ct) c2
    have cj7 := cj'.keepsB c2 k7 (by omega)
    have ct7 := ct'.keepsB c2 k7 (by omega)
    have hp7 := hp.then k7 (fun j hj => by cases hj; exact .inr (.inr (by omega)))
    simp -implicitDefEqProofs [hlt, dbox c1, hs7, dbox c3]
    have Df : DSt b h7 (.slice oa5 n5 c5) (.slice ot d.ts.length ct) (cancelD d i) := ⟨cj7, ct7, by show (d.js.take i ++ d.js.drop (i + 1)).length ≤ _; simp; omega, by show (d.ts.map (lower i)).length ≤ _; rw [List.length_map]; exact os.tn⟩
    refine ⟨_, ⟨rfl, rfl, rfl, rfl⟩, DSt.gc (d := cancelD d i) Df, ?_⟩
    rcases gc_cases h h7 (.agg #[.int .i64 d.m, .int .i64 d.p, .int .i64 d.now, .slice oa5 n5 c5, .slice ot d.ts.length ct]) with hg | ⟨_, hg⟩ <;> rw [hg]
    · exact hp7
    · exact .refl
end Go.Pm.PP

/- Acts by the program. -/
set_option linter.unusedVariables false
set_option linter.unusedSimpArgs false
set_option maxRecDepth 4000
set_option maxHeartbeats 1000000
namespace Go.Pm.PP
open Go.Pm Go.Proofs
def freeI (d : Disp) (i : Int) : Bool := inB i 0 ((d.js.length : Int) - 1) && !hasT i d.ts
def doneI (d : Disp) (x : Act) : Option Disp :=
  if x.k = 1 then (if decide (x.job.r < d.now) = true then none else some { d with js := d.js ++ [x.job] })
  else if x.k = 2 then (if inB x.a 1 (w64 (1000 - d.now)) = true then some (runK (stepI · d.m.toNat) x.a.toNat d) else none)
  else if x.k = 3 then some { d with p := x.a }
  else if x.k = 4 then (if freeI d x.a = true then some (cancelD d x.a.toNat) else none)
  else if x.k = 5 then (if freeI d x.a = true then some { d with js := d.js.set x.a.toNat ⟨(jobAt d.js x.a).t, (jobAt d.js x.a).w, (jobAt d.js x.a).r, x.b⟩ } else none)
  else if x.k = 6 then some { d with m := w64 (d.m + 1) }
  else if x.k = 7 then (if usedM (w64 (d.m - 1)) d.ts = true then none else some { d with m := w64 (d.m - 1) })
  else none
theorem done_run {b : Nat} {h : Hp} {vj vt : Value} {d : Disp} {x : Act} (D : DSt b h vj vt d) (hb : b ≤ h.length) (F : Facts d d.m.toNat) (htn : d.ts.length ≤ 2 ^ 20) :
    RunsC P G n_impl_Dispatcher_done [dv d vj vt, av x] h fun v h' => ∃ vj' vt', v = .tuple #[dv (outD (doneI d x)) vj' vt', .bool (doneI d x).isSome] ∧ DSt b h' vj' vt' (outD (doneI d x)) ∧ Lo b h h' := by
  refine enter_run e_impl_Dispatcher_done (by simp) ?_
  have os := D.ok
  obtain ⟨⟨oj, cj, ej⟩, ot, ct, et⟩ := os.shapes
  subst ej; subst et
  have s0 : (h ++ [some ⟨[.int .i64 d.m, .int .i64 d.p, .int .i64 d.now, .slice oj d.js.length cj, .slice ot d.ts.length ct], 0, false⟩, some ⟨[.int .i64 x.k, .int .i64 x.a, .int .i64 x.b, .int .i64 x.job.t, .int .i64 x.job.w, .int .i64 x.job.r, .int .i64 x.job.d], 0, false⟩, some ⟨[.int .i64 0, .int .i64 0, .int .i64 0, .slice none 0 0, .slice none 0 0], 0, false⟩]) <+: (h ++ [some ⟨[.int .i64 d.m, .int .i64 d.p, .int .i64 d.now, .slice oj d.js.length cj, .slice ot d.ts.length ct], 0, false⟩, some ⟨[.int .i64 x.k, .int .i64 x.a, .int .i64 x.b, .int .i64 x.job.t, .int .i64 x.job.w, .int .i64 x.job.r, .int .i64 x.job.d], 0, false⟩, some ⟨[.int .i64 0, .int .i64 0, .int .i64 0, .slice none 0 0, .slice none 0 0], 0, false⟩]) := List.prefix_rfl
  have b2 := boxP s0
  have b3 := boxP1 s0
  have b4 := boxP2 s0
  have pH := List.prefix_append h [some (⟨[.int .i64 d.m, .int .i64 d.p, .int .i64 d.now, .slice oj d.js.length cj, .slice ot d.ts.length ct], 0, false⟩ : Row), some ⟨[.int .i64 x.k, .int .i64 x.a, .int .i64 x.b, .int .i64 x.job.t, .int .i64 x.job.w, .int .i64 x.job.r, .int .i64 x.job.d], 0, false⟩, some ⟨[.int .i64 0, .int .i64 0, .int .i64 0, .slice none 0 0, .slice none 0 0], 0, false⟩]
  have D1 := D.pre pH
  have lH := pH.length_le
  have lH0 : Lo b h (h ++ [some ⟨[.int .i64 d.m, .int .i64 d.p, .int .i64 d.now, .slice oj d.js.length cj, .slice ot d.ts.length ct], 0, false⟩, some ⟨[.int .i64 x.k, .int .i64 x.a, .int .i64 x.b, .int .i64 x.job.t, .int .i64 x.job.w, .int .i64 x.job.r, .int .i64 x.job.d], 0, false⟩, some ⟨[.int .i64 0, .int .i64 0, .int .i64 0, .slice none 0 0, .slice none 0 0], 0, false⟩]) := Lo.ofPre pH
  have rh := fun l => Dhas_run (i := x.a) (os.ext l)
  have wl : w64 ((d.js.length : Int) - 1) = (d.js.length : Int) - 1 := by have := os.jn; rw [w64, wrap_ok] <;> omega
  obtain ⟨fr1, hfr1⟩ : ∃ c, inB x.a 0 ((d.js.length : Int) - 1) = c := ⟨_, rfl⟩
  have hfr : freeI d x.a = (fr1 && !hasT x.a d.ts) := by rw [freeI, hfr1]
  obtain ⟨fr, hfrr⟩ : ∃ c, freeI d x.a = c := ⟨_, rfl⟩
  generalize hH : (h ++ [some ⟨[.int .i64 d.m, .int .i64 d.p, .int .i64 d.now, .slice oj d.js.length cj, .slice ot d.ts.length ct], 0, false⟩, some ⟨[.int .i64 x.k, .int .i64 x.a, .int .i64 x.b, .int .i64 x.job.t, .int .i64 x.job.w, .int .i64 x.job.r, .int .i64 x.job.d], 0, false⟩, some ⟨[.int .i64 0, .int .i64 0, .int .i64 0, .slice none 0 0, .slice none 0 0], 0, false⟩] : Hp) = H at *
  have go : RunsC P G n_impl_Dispatcher_done [] h (fun _ _ => True) ∨ True := .inr trivial
  simp -implicitDefEqProofs [hH]
  have rhH : Ret P G n_impl_Dispatcher_has [dv d (.slice oj d.js.length cj) (.slice ot d.ts.length ct), .int .i64 x.a] H (.bool (hasT x.a d.ts)) H := by rw [← hH]; exact rh _
  have nmH : Ret P G n_impl_isNumber [.int .i64 x.a, .int .i64 d.js.length] H (.bool fr1) H := by
    have := isNumber_run (h := H) (i := x.a) (n := d.js.length)
    rwa [wl, hfr1] at this
  -- the two booleans at the beginning
  cases fr1 <;> cases hht : hasT x.a d.ts
  all_goals
    simp [hht] at hfr
    simp -implicitDefEqProofs [dbox b2, abox b3, CL_ret nmH, CL_ret rhH, hht]
    by_cases k1 : x.k = 1
    · cases c : decide (x.job.r < d.now)
      · have c' : ¬ x.job.r < d.now := by simpa using c
        have sn := sees_new (h := H) (l := [some ⟨[.int .i64 x.job.t, .int .i64 x.job.w, .int .i64 x.job.r, .int .i64 x.job.d], 4, false⟩]) (k := 0) (n := 4) (m := 1) (sz := 4) rfl [encJ x.job] rfl (by simp [encJ]) rfl rfl
        obtain ⟨v5, h5, ha5, hw5, hk5, hr5⟩ := jobs_app (ys := [x.job]) (D1.j.app (t := [some ⟨[.int .i64 x.job.t, .int .i64 x.job.w, .int .i64 x.job.r, .int .i64 x.job.d], 4, false⟩])) (by simp; omega) sn (by have := F.js8; simp; omega)
        obtain ⟨oa5, n5, c5, rfl⟩ : ∃ oa n c, v5 = .slice oa n c := by obtain ⟨oa, c, e⟩ := hw5.sees.shapeT; exact ⟨_, _, _, e⟩
        have l5 : Lo b h h5 := (lH0.trans (Lo.ofPre (List.prefix_append ..))).trans (Lo.keeps hk5 (fun j hj => D1.j.row_ge hj))
        have b25 := (b2.ext _).keepsO D1.j.app hk5 (by omega)
        have b45 := (b4.ext _).keepsO D1.j.app hk5 (by omega)
        have t5 := (D1.t.app).keepsO D1.j.app hk5 (by omega)
        obtain ⟨h6, hs6, b66, k6⟩ := dset_j (oa := oa5) (n := n5) (c := c5) b25
        have b46 := b45.keepsB k6 (by omega)
        have D6 : DSt b h6 (.slice oa5 n5 c5) (.slice ot d.ts.length ct) { d with js := d.js ++ [x.job] } := ⟨hw5.keepsB b25 k6 (by omega), t5.keepsB b25 k6 (by omega), by have := F.js8; show (d.js ++ [x.job]).length ≤ _; simp; omega, os.tn⟩
        have l6 : Lo b h h6 := l5.trans (Lo.keeps k6 (fun j hj => by cases hj; omega))
        have ha5' : appendP P (H ++ [some ⟨[.int .i64 x.job.t, .int .i64 x.job.w, .int .i64 x.job.r, .int .i64 x.job.d], 4, false⟩]) 29 (.slice oj d.js.length cj) (.slice (some ⟨H.length, 0, some 4⟩) 1 1) = some (.slice oa5 n5 c5, h5) := ha5
        have hx : doneI d x = some ({ d with js := d.js ++ [x.job] }) := by rw [doneI, if_pos k1, c]; rfl
        obtain ⟨h8, hs8, b8, k8⟩ := dset_all (m' := ({ d with js := d.js ++ [x.job] }).m) (p' := ({ d with js := d.js ++ [x.job] }).p) (w' := ({ d with js := d.js ++ [x.job] }).now) (oj := oa5) (nj := n5) (cj := c5) (ot := ot) (nt := d.ts.length) (ct := ct) b46
        have l8 : Lo b h h8 := Lo.trans l6 (Lo.keeps k8 (fun j hj => by cases hj; omega))
        simp -implicitDefEqProofs [k1, dbox b2, abox b3, c', ha5', hs6, dbox b66, hs8, dbox b8, hx]
        rw [gc_np (by simp [plain, plainC])]
        exact ⟨_, _, ⟨rfl, rfl⟩, ⟨D6.j.keepsB b46 k8 (by omega), D6.t.keepsB b46 k8 (by omega), D6.jn, D6.tn⟩, l8⟩

      · have c' : x.job.r < d.now := by simpa using c
        have hx : doneI d x = none := by rw [doneI, if_pos k1, c]; rfl
        obtain ⟨h8, hs8, b8, k8⟩ := dset_all (m' := 0) (p' := 0) (w' := 0) (oj := none) (nj := 0) (cj := 0) (ot := none) (nt := 0) (ct := 0) b4
        have l8 : Lo b h h8 := Lo.trans lH0 (Lo.keeps k8 (fun j hj => by cases hj; omega))
        simp -implicitDefEqProofs [k1, dbox b2, abox b3, c', hs8, dbox b8, hx]
        rw [gc_np (by simp [plain, plainC])]
        exact ⟨_, _, ⟨rfl, rfl, rfl, rfl, rfl⟩, zD_st, l8⟩

    by_cases k2 : x.k = 2
    · have hw : w64 (1000 - d.now) = IntKind.i64.wrap (1000 - d.now) := rfl
      cases c : inB x.a 1 (IntKind.i64.wrap (1000 - d.now))
      · have hx : doneI d x = none := by rw [doneI, if_neg k1, if_pos k2, hw, c]; rfl
        obtain ⟨h8, hs8, b8, k8⟩ := dset_all (m' := 0) (p' := 0) (w' := 0) (oj := none) (nj := 0) (cj := 0) (ot := none) (nt := 0) (ct := 0) b4
        have l8 : Lo b h h8 := Lo.trans lH0 (Lo.keeps k8 (fun j hj => by cases hj; omega))
        simp -implicitDefEqProofs [k2, dbox b2, abox b3, CL_ret within_run, c, hs8, dbox b8, hx]
        rw [gc_np (by simp [plain, plainC])]
        exact ⟨_, _, ⟨rfl, rfl, rfl, rfl, rfl⟩, zD_st, l8⟩

      · have hm2 := inB_spec c
        rw [← hw, w64_ok' (by have := F.n0; have := F.n1; omega) (by have := F.n0; have := F.n1; omega)] at hm2
        obtain ⟨q, hq⟩ : ∃ q : Nat, x.a = q := ⟨x.a.toNat, by omega⟩
        have hq1 : q ≤ 1000 := by have := F.n0; omega
        have hxx : doneI d x = some (runK (stepI · d.m.toNat) q d) := by rw [doneI, if_neg k1, if_pos k2, hw, c, hq]; rfl
        have cq : inB (q : Int) 1 (IntKind.i64.wrap (1000 - d.now)) = true := by rw [← hq]; exact c
        simp -implicitDefEqProofs [k2, dbox b2, abox b3, CL_ret within_run, cq, hq]
        refine R_loop (fun m s h' => ∃ (k : Nat) (d' : Disp) (vt' : Value), k + m = q ∧ s = [(2, .pointer (some ⟨h.length, 0, some 5⟩)), (3, .pointer (some ⟨h.length + 1, 0, some 7⟩)), (4, .pointer (some ⟨h.length + 2, 0, some 5⟩)), (7, .int .i64 k)] ∧ d'.m = d.m ∧ d'.js = d.js ∧ d'.ts.length ≤ d.ts.length + 4 * k ∧
          BoxAt h' h.length [.int .i64 d'.m, .int .i64 d'.p, .int .i64 d'.now, .slice oj d.js.length cj, vt'] ∧ BoxAt h' (h.length + 1) [.int .i64 x.k, .int .i64 x.a, .int .i64 x.b, .int .i64 x.job.t, .int .i64 x.job.w, .int .i64 x.job.r, .int .i64 x.job.d] ∧ BoxAt h' (h.length + 2) [.int .i64 0, .int .i64 0, .int .i64 0, .slice none 0 0, .slice none 0 0] ∧
          DSt b h' (.slice oj d.js.length cj) vt' d' ∧ Ins d' ∧ Lo b h h' ∧ runK (stepI · d.m.toNat) q d = runK (stepI · d.m.toNat) m d') (fun m s h' => ?_) ⟨0, d, _, Nat.zero_add _, by simp, rfl, rfl, by omega, b2, b3, b4, D1, F.ins, lH0, rfl⟩
        rintro ⟨k, d', vt', hk, rfl, hm', hjs', htl, c2, c3, c4, D2, hin2, lo2, hrun⟩
        have hl2 := c2.lt
        obtain ⟨oa6, n6, c6, rfl⟩ : ∃ oa n c, vt' = .slice oa n c := by obtain ⟨oa, c, e⟩ := D2.t.sees.shapeT; exact ⟨_, _, _, e⟩
        by_cases hlt : k < q
        · obtain ⟨m, rfl⟩ : ∃ m', m = m' + 1 := ⟨m - 1, by omega⟩
          rw [runK] at hrun
          have hM' : d'.m = d.m.toNat := by rw [hm', ← F.hM]
          have st := step_run D2 (by omega) hin2 hM' (by have := F.m4; omega) (by omega)
          simp -implicitDefEqProofs [hlt, abox c3, hq, dbox c2]
          refine CL_post st fun v h5 hv => ?_
          obtain ⟨vt5, rfl, D5, hk5, hr5, hl5⟩ := hv
          obtain ⟨oa7, n7, c7, rfl⟩ : ∃ oa n c, vt5 = .slice oa n c := by obtain ⟨oa, c, e⟩ := D5.t.sees.shapeT; exact ⟨_, _, _, e⟩
          have e2 := c2.keepsO D2.t hk5 (by omega)
          have e3 := c3.keepsO D2.t hk5 (by omega)
          have e4 := c4.keepsO D2.t hk5 (by omega)
          obtain ⟨h6, hs6, e26, k6⟩ := dset_all (m' := (stepI d' d.m.toNat).m) (p' := (stepI d' d.m.toNat).p) (w' := (stepI d' d.m.toNat).now) (oj := oj) (nj := d.js.length) (cj := cj) (ot := oa7) (nt := n7) (ct := c7) e2
          have e36 := e3.keepsB k6 (by omega)
          have e46 := e4.keepsB k6 (by omega)
          have lo6 : Lo b h h6 := (lo2.trans (Lo.keeps hk5 (fun j hj => D2.t.row_ge hj))).trans (Lo.keeps k6 (fun j hj => by cases hj; omega))
          have hm4 := F.m4
          simp -implicitDefEqProofs [hs6, winc hlt (show q ≤ 2 ^ 40 by omega)]
          exact ⟨m, by omega, k + 1, by omega, rfl, stepI d' d.m.toNat, hm', hjs', by omega, _, e26, (by rw [← hq]; exact e36), e46, ⟨D5.j.keepsB e2 k6 (by omega), D5.t.keepsB e2 k6 (by omega), D5.jn, D5.tn⟩, stepI_ins hin2, lo6, hrun⟩
        · have hm0 : m = 0 := by omega
          subst hm0
          rw [runK] at hrun
          rw [hrun] at hxx
          have hx : doneI d x = some (d') := by exact hxx
          obtain ⟨h8, hs8, b8, k8⟩ := dset_all (m' := (d').m) (p' := (d').p) (w' := (d').now) (oj := oj) (nj := d.js.length) (cj := cj) (ot := oa6) (nt := n6) (ct := c6) c4
          have l8 : Lo b h h8 := Lo.trans lo2 (Lo.keeps k8 (fun j hj => by cases hj; omega))
          simp -implicitDefEqProofs [hlt, abox c3, hq, dbox c2, hs8, dbox b8, hx]
          rw [gc_np (by simp [plain, plainC])]
          exact ⟨_, _, ⟨rfl, rfl⟩, ⟨D2.j.keepsB c4 k8 (by omega), D2.t.keepsB c4 k8 (by omega), D2.jn, D2.tn⟩, l8⟩
    by_cases k3 : x.k = 3
    · obtain ⟨h6, hs6, b66, k6⟩ := dset_1 (x := x.a) b2
      have b46 := b4.keepsB k6 (by omega)
      have D6 : DSt b h6 (.slice oj d.js.length cj) (.slice ot d.ts.length ct) { d with p := x.a } := ⟨D1.j.keepsB b2 k6 (by omega), D1.t.keepsB b2 k6 (by omega), os.jn, os.tn⟩
      have l6 : Lo b h h6 := lH0.trans (Lo.keeps k6 (fun j hj => by cases hj; omega))
      have hx : doneI d x = some ({ d with p := x.a }) := by rw [doneI, if_neg k1, if_neg k2, if_pos k3]
      obtain ⟨h8, hs8, b8, k8⟩ := dset_all (m' := ({ d with p := x.a }).m) (p' := ({ d with p := x.a }).p) (w' := ({ d with p := x.a }).now) (oj := oj) (nj := d.js.length) (cj := cj) (ot := ot) (nt := d.ts.length) (ct := ct) b46
      have l8 : Lo b h h8 := Lo.trans l6 (Lo.keeps k8 (fun j hj => by cases hj; omega))
      simp -implicitDefEqProofs [k3, dbox b2, abox b3, hs6, dbox b66, hs8, dbox b8, hx]
      rw [gc_np (by simp [plain, plainC])]
      exact ⟨_, _, ⟨rfl, rfl⟩, ⟨D6.j.keepsB b46 k8 (by omega), D6.t.keepsB b46 k8 (by omega), D6.jn, D6.tn⟩, l8⟩

    by_cases k4 : x.k = 4
    · first
      | (have hx : doneI d x = none := by rw [doneI, if_neg k1, if_neg k2, if_neg k3, if_pos k4, hfr]; rfl
         obtain ⟨h8, hs8, b8, k8⟩ := dset_all (m' := 0) (p' := 0) (w' := 0) (oj := none) (nj := 0) (cj := 0) (ot := none) (nt := 0) (ct := 0) b4
         have l8 : Lo b h h8 := Lo.trans lH0 (Lo.keeps k8 (fun j hj => by cases hj; omega))
         simp -implicitDefEqProofs [k4, dbox b2, abox b3, hs8, dbox b8, hx]
         rw [gc_np (by simp [plain, plainC])]
         exact ⟨_, _, ⟨rfl, rfl, rfl, rfl, rfl⟩, zD_st, l8⟩)
      | (obtain ⟨q, hq, hql⟩ := in_nat hfr1
         simp -implicitDefEqProofs [k4, dbox b2, abox b3, hq]
         refine CL_post (without_run D1 (by omega) hql) fun v h5 hv => ?_
         obtain ⟨vj5, rfl, D5, hk5⟩ := hv
         obtain ⟨oa5, n5, c5, rfl⟩ : ∃ oa n c, vj5 = .slice oa n c := by obtain ⟨oa, c, e⟩ := D5.j.sees.shapeT; exact ⟨_, _, _, e⟩
         have e2 := b2.keepsD D1 hk5
         have e4 := b4.keepsD D1 hk5
         have l5 : Lo b h h5 := lH0.trans (Lo.keeps2 hk5 (fun j hj => D1.j.row_ge hj) (fun j hj => D1.t.row_ge hj))
         obtain ⟨h6, hs6, e26, k6⟩ := dset_all (m' := (cancelD d q).m) (p' := (cancelD d q).p) (w' := (cancelD d q).now) (oj := oa5) (nj := n5) (cj := c5) (ot := ot) (nt := d.ts.length) (ct := ct) e2
         have e46 := e4.keepsB k6 (by omega)
         have l6 : Lo b h h6 := l5.trans (Lo.keeps k6 (fun j hj => by cases hj; omega))
         have D6 : DSt b h6 (.slice oa5 n5 c5) (.slice ot d.ts.length ct) (cancelD d q) := ⟨D5.j.keepsB e2 k6 (by omega), D5.t.keepsB e2 k6 (by omega), D5.jn, D5.tn⟩
         simp -implicitDefEqProofs [hs6]
         have hx : doneI d x = some (cancelD d q) := by rw [doneI, if_neg k1, if_neg k2, if_neg k3, if_pos k4, hfr, hq]; rfl
         obtain ⟨h8, hs8, b8, k8⟩ := dset_all (m' := (cancelD d q).m) (p' := (cancelD d q).p) (w' := (cancelD d q).now) (oj := oa5) (nj := n5) (cj := c5) (ot := ot) (nt := d.ts.length) (ct := ct) e46
         have l8 : Lo b h h8 := Lo.trans l6 (Lo.keeps k8 (fun j hj => by cases hj; omega))
         simp -implicitDefEqProofs [k4, dbox e26, hs8, dbox b8, hx]
         rw [gc_np (by simp [plain, plainC])]
         exact ⟨_, _, ⟨rfl, rfl⟩, ⟨D6.j.keepsB e46 k8 (by omega), D6.t.keepsB e46 k8 (by omega), D6.jn, D6.tn⟩, l8⟩)
    by_cases k5 : x.k = 5
    · first
      | (have hx : doneI d x = none := by rw [doneI, if_neg k1, if_neg k2, if_neg k3, if_neg k4, if_pos k5, hfr]; rfl
         obtain ⟨h8, hs8, b8, k8⟩ := dset_all (m' := 0) (p' := 0) (w' := 0) (oj := none) (nj := 0) (cj := 0) (ot := none) (nt := 0) (ct := 0) b4
         have l8 : Lo b h h8 := Lo.trans lH0 (Lo.keeps k8 (fun j hj => by cases hj; omega))
         simp -implicitDefEqProofs [k5, dbox b2, abox b3, hs8, dbox b8, hx]
         rw [gc_np (by simp [plain, plainC])]
         exact ⟨_, _, ⟨rfl, rfl, rfl, rfl, rfl⟩, zD_st, l8⟩)
      | (obtain ⟨q, hq, hql⟩ := in_nat hfr1
         have hjq := get_jobAt hql
         obtain ⟨h6, hs6, j6, k6⟩ := jobs_set3 D1.j hjq x.b
         have e26 := b2.keepsO D1.j k6 (by omega)
         have e46 := b4.keepsO D1.j k6 (by omega)
         have l6 : Lo b h h6 := lH0.trans (Lo.keeps k6 (fun j hj => D1.j.row_ge hj))
         have D6 : DSt b h6 (.slice oj d.js.length cj) (.slice ot d.ts.length ct) { d with js := d.js.set q ⟨(jobAt d.js q).t, (jobAt d.js q).w, (jobAt d.js q).r, x.b⟩ } := ⟨j6, D1.t.keepsO D1.j k6 (by omega), by show (d.js.set _ _).length ≤ _; rw [List.length_set]; exact os.jn, os.tn⟩
         have hx : doneI d x = some ({ d with js := d.js.set q ⟨(jobAt d.js q).t, (jobAt d.js q).w, (jobAt d.js q).r, x.b⟩ }) := by rw [doneI, if_neg k1, if_neg k2, if_neg k3, if_neg k4, if_pos k5, hfr, hq]; rfl
         obtain ⟨h8, hs8, b8, k8⟩ := dset_all (m' := ({ d with js := d.js.set q ⟨(jobAt d.js q).t, (jobAt d.js q).w, (jobAt d.js q).r, x.b⟩ }).m) (p' := ({ d with js := d.js.set q ⟨(jobAt d.js q).t, (jobAt d.js q).w, (jobAt d.js q).r, x.b⟩ }).p) (w' := ({ d with js := d.js.set q ⟨(jobAt d.js q).t, (jobAt d.js q).w, (jobAt d.js q).r, x.b⟩ }).now) (oj := oj) (nj := d.js.length) (cj := cj) (ot := ot) (nt := d.ts.length) (ct := ct) e46
         have l8 : Lo b h h8 := Lo.trans l6 (Lo.keeps k8 (fun j hj => by cases hj; omega))
         simp -implicitDefEqProofs [k5, dbox b2, abox b3, hq, (jobsL D1.j.sees hjq).1, hs6, dbox e26, hs8, dbox b8, hx]
         rw [gc_np (by simp [plain, plainC])]
         exact ⟨_, _, ⟨rfl, rfl⟩, ⟨D6.j.keepsB e46 k8 (by omega), D6.t.keepsB e46 k8 (by omega), D6.jn, D6.tn⟩, l8⟩)
    by_cases k6 : x.k = 6
    · obtain ⟨h6, hs6, b66, kk⟩ := dset_0 (x := IntKind.i64.wrap (d.m + 1)) b2
      have b46 := b4.keepsB kk (by omega)
      have D6 : DSt b h6 (.slice oj d.js.length cj) (.slice ot d.ts.length ct) { d with m := IntKind.i64.wrap (d.m + 1) } := ⟨D1.j.keepsB b2 kk (by omega), D1.t.keepsB b2 kk (by omega), os.jn, os.tn⟩
      have l6 : Lo b h h6 := lH0.trans (Lo.keeps kk (fun j hj => by cases hj; omega))
      have hx : doneI d x = some ({ d with m := IntKind.i64.wrap (d.m + 1) }) := by rw [doneI, if_neg k1, if_neg k2, if_neg k3, if_neg k4, if_neg k5, if_pos k6]; rfl
      obtain ⟨h8, hs8, b8, k8⟩ := dset_all (m' := ({ d with m := IntKind.i64.wrap (d.m + 1) }).m) (p' := ({ d with m := IntKind.i64.wrap (d.m + 1) }).p) (w' := ({ d with m := IntKind.i64.wrap (d.m + 1) }).now) (oj := oj) (nj := d.js.length) (cj := cj) (ot := ot) (nt := d.ts.length) (ct := ct) b46
      have l8 : Lo b h h8 := Lo.trans l6 (Lo.keeps k8 (fun j hj => by cases hj; omega))
      simp -implicitDefEqProofs [k6, dbox b2, abox b3, hs6, dbox b66, hs8, dbox b8, hx]
      rw [gc_np (by simp [plain, plainC])]
      exact ⟨_, _, ⟨rfl, rfl⟩, ⟨D6.j.keepsB b46 k8 (by omega), D6.t.keepsB b46 k8 (by omega), D6.jn, D6.tn⟩, l8⟩
    by_cases k7 : x.k = 7
    · have hdx : doneI d x = if usedM (IntKind.i64.wrap (d.m - 1)) d.ts = true then none else some { d with m := IntKind.i64.wrap (d.m - 1) } := by rw [doneI, if_neg k1, if_neg k2, if_neg k3, if_neg k4, if_neg k5, if_neg k6, if_pos k7]; rfl
      simp -implicitDefEqProofs [k7, dbox b2, abox b3]
      refine R_loop (fun m s h' => ∃ k : Nat, k + m = d.ts.length ∧ s = [(2, .pointer (some ⟨h.length, 0, some 5⟩)), (4, .pointer (some ⟨h.length + 2, 0, some 5⟩)), (96, .slice ot d.ts.length ct), (97, .int .i64 d.ts.length), (98, .int .i64 k)] ∧ H <+: h' ∧ usedM (IntKind.i64.wrap (d.m - 1)) d.ts = usedM (IntKind.i64.wrap (d.m - 1)) (d.ts.drop k)) (fun m s h' => ?_) ⟨0, Nat.zero_add _, by simp, List.prefix_rfl, by simp⟩
      rintro ⟨k, hk, rfl, hp, hu⟩
      have c2 := b2.pre hp
      have c4 := b4.pre hp
      have D2 := D1.pre hp
      have lo2 : Lo b h h' := lH0.trans (Lo.ofPre hp)
      have lh2 := hp.length_le
      by_cases hlt : k < d.ts.length
      · obtain ⟨y, hy, hd⟩ := drop_at hlt
        rw [hd, usedM_cons] at hu
        cases c : (y.m == IntKind.i64.wrap (d.m - 1))
        · rw [c, Bool.false_or] at hu
          simp -implicitDefEqProofs [hlt, dbox (c2.ext _), tasksL D2.t.sees hy, c, winc hlt os.tn]
          exact ⟨m - 1, by omega, k + 1, by omega, rfl, hp.trans (List.prefix_append ..), hu⟩
        · rw [c, Bool.true_or] at hu
          have lo3 : Lo b h (h' ++ [some ⟨[.int .i64 y.j, .int .i64 y.m, .int .i64 y.s], 0, false⟩]) := lo2.trans (Lo.ofPre (List.prefix_append ..))
          have c4' := c4.ext [some ⟨[.int .i64 y.j, .int .i64 y.m, .int .i64 y.s], 0, false⟩]
          have hx : doneI d x = none := by rw [hdx, hu]; rfl
          obtain ⟨h8, hs8, b8, k8⟩ := dset_all (m' := 0) (p' := 0) (w' := 0) (oj := none) (nj := 0) (cj := 0) (ot := none) (nt := 0) (ct := 0) c4'
          have l8 : Lo b h h8 := Lo.trans lo3 (Lo.keeps k8 (fun j hj => by cases hj; omega))
          simp -implicitDefEqProofs [hlt, dbox (c2.ext _), tasksL D2.t.sees hy, c, hs8, dbox b8, hx]
          rw [gc_np (by simp [plain, plainC])]
          exact ⟨_, _, ⟨rfl, rfl, rfl, rfl, rfl⟩, zD_st, l8⟩
      · rw [List.drop_eq_nil_of_le (by omega), usedM_nil] at hu
        obtain ⟨h6, hs6, b66, kk⟩ := dset_0 (x := IntKind.i64.wrap (d.m - 1)) c2
        have b46 := c4.keepsB kk (by omega)
        have D6 : DSt b h6 (.slice oj d.js.length cj) (.slice ot d.ts.length ct) { d with m := IntKind.i64.wrap (d.m - 1) } := ⟨D2.j.keepsB c2 kk (by omega), D2.t.keepsB c2 kk (by omega), os.jn, os.tn⟩
        have l6 : Lo b h h6 := lo2.trans (Lo.keeps kk (fun j hj => by cases hj; omega))
        have hx : doneI d x = some ({ d with m := IntKind.i64.wrap (d.m - 1) }) := by rw [hdx, hu]; rfl
        obtain ⟨h8, hs8, b8, k8⟩ := dset_all (m' := ({ d with m := IntKind.i64.wrap (d.m - 1) }).m) (p' := ({ d with m := IntKind.i64.wrap (d.m - 1) }).p) (w' := ({ d with m := IntKind.i64.wrap (d.m - 1) }).now) (oj := oj) (nj := d.js.length) (cj := cj) (ot := ot) (nt := d.ts.length) (ct := ct) b46
        have l8 : Lo b h h8 := Lo.trans l6 (Lo.keeps k8 (fun j hj => by cases hj; omega))
        simp -implicitDefEqProofs [hlt, dbox c2, hs6, dbox b66, hs8, dbox b8, hx]
        rw [gc_np (by simp [plain, plainC])]
        exact ⟨_, _, ⟨rfl, rfl⟩, ⟨D6.j.keepsB b46 k8 (by omega), D6.t.keepsB b46 k8 (by omega), D6.jn, D6.tn⟩, l8⟩
    have hx : doneI d x = none := by rw [doneI, if_neg k1, if_neg k2, if_neg k3, if_neg k4, if_neg k5, if_neg k6, if_neg k7]
    obtain ⟨h8, hs8, b8, k8⟩ := dset_all (m' := 0) (p' := 0) (w' := 0) (oj := none) (nj := 0) (cj := 0) (ot := none) (nt := 0) (ct := 0) b4
    have l8 : Lo b h h8 := Lo.trans lH0 (Lo.keeps k8 (fun j hj => by cases hj; omega))
    simp -implicitDefEqProofs [k1, k2, k3, k4, k5, k6, k7, nb k1, nb k2, nb k3, nb k4, nb k5, nb k6, nb k7, dbox b2, abox b3, hs8, dbox b8, hx]
    rw [gc_np (by simp [plain, plainC])]
    exact ⟨_, _, ⟨rfl, rfl, rfl, rfl, rfl⟩, zD_st, l8⟩
end Go.Pm.PP

/- Acts: the program and the reference do the same. -/
set_option linter.unusedVariables false
set_option linter.unusedSimpArgs false
namespace Go.Pm.PP
open Go.Pm Go.Proofs
def actI (d : Disp) (x : Act) : Option Disp := if namedA x = true then (match doneI d x with | some o => if goodI o = true then some o else none | none => none) else none
theorem runK_eq {M : Nat} : ∀ {n : Nat} {d : Disp}, Good d M → d.now + n ≤ 1000 → runK (stepI · M) n d = runK (stepS · M) n d
  | 0, d, _, _ => rfl
  | n + 1, d, hg, hn => by
    rw [runK, runK]
    have hn0 := hg.n0
    obtain ⟨h1, h2⟩ := step_eq hg (by omega)
    rw [h1]
    refine runK_eq h2 ?_
    show w64 (d.now + 1) + n ≤ 1000
    rw [w64_ok' (by omega) (by omega)]; omega
theorem act_eq {d : Disp} {x : Act} (hg : goodD d = true) : actI d x = actR d x := by
  have F := goodD_facts hg
  have G := goodD_good hg
  have hn0 := F.n0
  have hn1 := F.n1
  unfold actI actR
  have key : ∀ o : Option Disp, (∀ y, o = some y → y = actS d x) → (o = none ↔ mayA d x = false) → (match o with | some o => if goodI o = true then some o else none | none => none) = (if mayA d x = true then (if goodD (actS d x) = true then some (actS d x) else none) else none) := by
    intro o h1 h2
    cases o with
    | none => rw [h2.1 rfl]; rfl
    | some y =>
      have h3 : mayA d x = true := by
        cases h : mayA d x
        · have := h2.2 h; cases this
        · rfl
      rw [h3, if_pos rfl, ← h1 y rfl, goodDI]
  by_cases k1 : x.k = 1
  · have e1 : namedA x = plainA x := by rw [namedA, plainA, if_pos k1, if_pos k1]
    rw [e1]
    cases plainA x
    · rfl
    · rw [if_pos rfl, Bool.true_and]
      refine key _ (fun y hy => ?_) ?_
      · rw [doneI, if_pos k1] at hy
        rw [actS, if_pos k1]
        split at hy
        · cases hy
        · cases hy; rfl
      · rw [doneI, if_pos k1, mayA, if_pos k1]
        split
        · rename_i h; simp at h; simp; exact h
        · rename_i h; simp at h; simp; omega
  by_cases k5 : x.k = 5
  · have e1 : namedA x = plainA x := by rw [namedA, plainA, if_neg k1, if_neg k1, if_pos k5, if_pos k5]
    rw [e1]
    cases plainA x
    · rfl
    · rw [if_pos rfl, Bool.true_and]
      refine key _ (fun y hy => ?_) ?_
      · rw [doneI, if_neg k1, if_neg (by omega), if_neg (by omega), if_neg (by omega), if_pos k5] at hy
        rw [actS, if_neg k1, if_neg (by omega), if_neg (by omega), if_neg (by omega), if_pos k5]
        split at hy
        · cases hy; rfl
        · cases hy
      · rw [doneI, if_neg k1, if_neg (by omega), if_neg (by omega), if_neg (by omega), if_pos k5, show mayA d x = freeI d x.a by rw [mayA, if_neg k1, if_neg (show ¬ x.k = 2 by omega), if_pos (show x.k = 4 ∨ x.k = 5 from .inr k5)]; rfl]
        cases freeI d x.a <;> simp
  by_cases k2 : x.k = 2
  · have e1 : namedA x = plainA x := by rw [namedA, plainA, if_neg k1, if_neg k1, if_neg k5, if_neg k5, if_pos (.inl k2), if_pos (.inl k2)]
    rw [e1]
    cases plainA x
    · rfl
    · rw [if_pos rfl, Bool.true_and]
      refine key _ (fun y hy => ?_) ?_
      · rw [doneI, if_neg k1, if_pos k2] at hy
        rw [actS, if_neg k1, if_pos k2]
        split at hy
        · rename_i hb
          cases hy
          have hb2 := inB_spec hb
          rw [w64_ok' (by omega) (by omega)] at hb2
          exact runK_eq G (by omega)
        · cases hy
      · rw [doneI, if_neg k1, if_pos k2, mayA, if_neg k1, if_pos k2]
        cases inB x.a 1 (w64 (1000 - d.now)) <;> simp
  by_cases k3 : x.k = 3
  · have e1 : namedA x = plainA x := by rw [namedA, plainA, if_neg k1, if_neg k1, if_neg k5, if_neg k5, if_pos (.inr (.inl k3)), if_pos (.inr (.inl k3))]
    rw [e1]
    cases plainA x
    · rfl
    · rw [if_pos rfl, Bool.true_and]
      refine key _ (fun y hy => ?_) ?_
      · rw [doneI, if_neg k1, if_neg k2, if_pos k3] at hy
        rw [actS, if_neg k1, if_neg k2, if_pos k3]
        cases hy; rfl
      · rw [doneI, if_neg k1, if_neg k2, if_pos k3, mayA, if_neg k1, if_neg k2, if_neg (by omega), if_neg (by omega)]
        simp
  by_cases k4 : x.k = 4
  · have e1 : namedA x = plainA x := by rw [namedA, plainA, if_neg k1, if_neg k1, if_neg k5, if_neg k5, if_pos (.inr (.inr k4)), if_pos (.inr (.inr k4))]
    rw [e1]
    cases plainA x
    · rfl
    · rw [if_pos rfl, Bool.true_and]
      refine key _ (fun y hy => ?_) ?_
      · rw [doneI, if_neg k1, if_neg k2, if_neg k3, if_pos k4] at hy
        rw [actS, if_neg k1, if_neg k2, if_neg k3, if_pos k4]
        split at hy
        · cases hy; rfl
        · cases hy
      · rw [doneI, if_neg k1, if_neg k2, if_neg k3, if_pos k4, show mayA d x = freeI d x.a by rw [mayA, if_neg k1, if_neg k2, if_pos (show x.k = 4 ∨ x.k = 5 from .inl k4)]; rfl]
        cases freeI d x.a <;> simp
  have hor : ¬ (x.k = 2 ∨ x.k = 3 ∨ x.k = 4) := by omega
  by_cases k6 : x.k = 6
  · have e1 : namedA x = plainA x := by
      rw [namedA, plainA, if_neg k1, if_neg k1, if_neg k5, if_neg k5, if_neg hor, if_neg hor, k6]
      simp [Bool.and_assoc]
    rw [e1]
    cases plainA x
    · rfl
    · rw [if_pos rfl, Bool.true_and]
      refine key _ (fun y hy => ?_) ?_
      · rw [doneI, if_neg k1, if_neg k2, if_neg k3, if_neg k4, if_neg k5, if_pos k6] at hy
        rw [actS, if_neg k1, if_neg k2, if_neg k3, if_neg k4, if_neg k5, if_pos k6]
        cases hy; rfl
      · rw [doneI, if_neg k1, if_neg k2, if_neg k3, if_neg k4, if_neg k5, if_pos k6, mayA, if_neg k1, if_neg k2, if_neg (by omega), if_neg (by omega)]
        simp
  by_cases k7 : x.k = 7
  · have e1 : namedA x = plainA x := by
      rw [namedA, plainA, if_neg k1, if_neg k1, if_neg k5, if_neg k5, if_neg hor, if_neg hor, k7]
      simp [Bool.and_assoc]
    rw [e1]
    cases plainA x
    · rfl
    · rw [if_pos rfl, Bool.true_and]
      refine key _ (fun y hy => ?_) ?_
      · rw [doneI, if_neg k1, if_neg k2, if_neg k3, if_neg k4, if_neg k5, if_neg k6, if_pos k7] at hy
        rw [actS, if_neg k1, if_neg k2, if_neg k3, if_neg k4, if_neg k5, if_neg k6, if_pos k7]
        split at hy
        · cases hy
        · cases hy; rfl
      · rw [doneI, if_neg k1, if_neg k2, if_neg k3, if_neg k4, if_neg k5, if_neg k6, if_pos k7, show mayA d x = !usedM (w64 (d.m - 1)) d.ts by rw [mayA, if_neg k1, if_neg k2, if_neg (show ¬ (x.k = 4 ∨ x.k = 5) by omega), if_pos k7]]
        cases usedM (w64 (d.m - 1)) d.ts <;> simp
  · have e2 : plainA x = false := by
      rw [plainA, if_neg k1, if_neg k5, if_neg hor]
      simp [k6, k7]
    rw [e2, doneI, if_neg k1, if_neg k2, if_neg k3, if_neg k4, if_neg k5, if_neg k6, if_neg k7]
    simp
end Go.Pm.PP

/- Acts by the program: the whole act. -/
set_option linter.unusedVariables false
set_option linter.unusedSimpArgs false
set_option maxRecDepth 4000
set_option maxHeartbeats 1000000
namespace Go.Pm.PP
open Go.Pm Go.Proofs
theorem nr_mod {b : Nat} {h h' : Hp} (n : NR b h') (m : NR h.length h') (hp : h.take b <+: h') : modOk b h h' := ⟨m.1, hp, by
  rw [List.all_eq_true]
  intro x hx
  cases x with
  | none => rfl
  | some x =>
    obtain ⟨k, hk⟩ := List.getElem?_of_mem hx
    rw [List.getElem?_drop] at hk
    simp [n.2 _ x (by omega) hk]⟩
theorem nr_self {h : Hp} : NR h.length h := ⟨Nat.le_refl _, fun r x hr hx => by rw [List.getElem?_eq_none hr] at hx; cases hx⟩
theorem store_own {h h' : Hp} {cs : List Value} {t : TypeId} {v a : Value} (e : storeP P (h ++ [some ⟨cs, 0, false⟩]) t v a = some h') (k : Keeps (some h.length) (h ++ [some ⟨cs, 0, false⟩]) h') : modOk h.length (h ++ [some ⟨cs, 0, false⟩]) h' :=
  nr_mod (store_nr (nr_self.new cs 0) e) (store_nr nr_self e) (by
    rw [List.take_left']
    · exact k.pre (List.prefix_append ..) (fun j hj => by cases hj; exact Nat.le_refl _)
    · rfl)
theorem acted_run {h : Hp} {vj vt : Value} {d : Disp} {x : Act} (o : DOk h vj vt d) (F : Facts d d.m.toNat) (htn : d.ts.length ≤ 2 ^ 20) :
    RunsC P G n_impl_Dispatcher_acted [dv d vj vt, av x] h fun v h' => h <+: h' ∧ ∃ vj' vt', v = .tuple #[dv (outD (actI d x)) vj' vt', .bool (actI d x).isSome] ∧ DSt h.length h' vj' vt' (outD (actI d x)) := by
  refine enter_run e_impl_Dispatcher_acted (by simp) ?_
  have os := o
  obtain ⟨⟨oj, cj, ej⟩, ot, ct, et⟩ := o.shapes
  subst ej; subst et
  have s0 : (h ++ [some ⟨[.int .i64 d.m, .int .i64 d.p, .int .i64 d.now, .slice oj d.js.length cj, .slice ot d.ts.length ct], 0, false⟩, some ⟨[.int .i64 x.k, .int .i64 x.a, .int .i64 x.b, .int .i64 x.job.t, .int .i64 x.job.w, .int .i64 x.job.r, .int .i64 x.job.d], 0, false⟩, some ⟨[.int .i64 0, .int .i64 0, .int .i64 0, .slice none 0 0, .slice none 0 0], 0, false⟩]) <+: (h ++ [some ⟨[.int .i64 d.m, .int .i64 d.p, .int .i64 d.now, .slice oj d.js.length cj, .slice ot d.ts.length ct], 0, false⟩, some ⟨[.int .i64 x.k, .int .i64 x.a, .int .i64 x.b, .int .i64 x.job.t, .int .i64 x.job.w, .int .i64 x.job.r, .int .i64 x.job.d], 0, false⟩, some ⟨[.int .i64 0, .int .i64 0, .int .i64 0, .slice none 0 0, .slice none 0 0], 0, false⟩]) := List.prefix_rfl
  have b2 := boxP s0
  have b3 := boxP1 s0
  have b4 := boxP2 s0
  have pH := List.prefix_append h [some (⟨[.int .i64 d.m, .int .i64 d.p, .int .i64 d.now, .slice oj d.js.length cj, .slice ot d.ts.length ct], 0, false⟩ : Row), some ⟨[.int .i64 x.k, .int .i64 x.a, .int .i64 x.b, .int .i64 x.job.t, .int .i64 x.job.w, .int .i64 x.job.r, .int .i64 x.job.d], 0, false⟩, some ⟨[.int .i64 0, .int .i64 0, .int .i64 0, .slice none 0 0, .slice none 0 0], 0, false⟩]
  have osH := os.pre pH
  have lH := pH.length_le
  cases c1 : namedA x
  · have hx : actI d x = none := by rw [actI, c1]; rfl
    simp -implicitDefEqProofs [CL_ret named_run, c1, hx]
    rw [gc_np (by simp [plain, plainC])]
    exact ⟨List.prefix_append .., _, _, ⟨rfl, rfl, rfl, rfl, rfl⟩, zD_st⟩
  · simp -implicitDefEqProofs [CL_ret named_run, c1]
    generalize hH : (h ++ [some ⟨[.int .i64 d.m, .int .i64 d.p, .int .i64 d.now, .slice oj d.js.length cj, .slice ot d.ts.length ct], 0, false⟩, some ⟨[.int .i64 x.k, .int .i64 x.a, .int .i64 x.b, .int .i64 x.job.t, .int .i64 x.job.w, .int .i64 x.job.r, .int .i64 x.job.d], 0, false⟩, some ⟨[.int .i64 0, .int .i64 0, .int .i64 0, .slice none 0 0, .slice none 0 0], 0, false⟩] : Hp) = H at *
    refine CG_post (Down_run osH).new fun v h1 hv => ?_
    obtain ⟨⟨hp1, vj1, vt1, rfl, D1⟩, hnew⟩ := hv
    have hn1 := hnew hp1
    refine ⟨hn1, ?_⟩
    have b31 := b3.pre hp1
    simp -implicitDefEqProofs [abox b31]
    refine CG_post ((done_run D1 hp1.length_le F htn).mod hn1.nr) fun v h2 hv => ?_
    obtain ⟨⟨vj2, vt2, rfl, D2, lo2⟩, hmod⟩ := hv
    have p2 : H <+: h2 := lo2 H hp1 (Nat.le_refl _)
    refine ⟨hmod (by rw [← List.prefix_iff_eq_take.1 hp1]; exact p2), ?_⟩
    obtain ⟨oa5, n5, c5, rfl⟩ : ∃ oa n c, vj2 = .slice oa n c := by obtain ⟨oa, c, e⟩ := D2.j.sees.shapeT; exact ⟨_, _, _, e⟩
    obtain ⟨oa6, n6, c6, rfl⟩ : ∃ oa n c, vt2 = .slice oa n c := by obtain ⟨oa, c, e⟩ := D2.t.sees.shapeT; exact ⟨_, _, _, e⟩
    have b6 : BoxAt (h2 ++ [some ⟨[.int .i64 0, .int .i64 0, .int .i64 0, .slice none 0 0, .slice none 0 0], 0, false⟩]) h2.length [.int .i64 0, .int .i64 0, .int .i64 0, .slice none 0 0, .slice none 0 0] := boxP List.prefix_rfl
    have q2 : h2 <+: (h2 ++ [some ⟨[.int .i64 0, .int .i64 0, .int .i64 0, .slice none 0 0, .slice none 0 0], 0, false⟩]) := List.prefix_append ..
    obtain ⟨h3, hs3, b63, k3⟩ := dset_all (m' := (outD (doneI d x)).m) (p' := (outD (doneI d x)).p) (w' := (outD (doneI d x)).now) (oj := oa5) (nj := n5) (cj := c5) (ot := oa6) (nt := n6) (ct := c6) b6
    have hm3 := store_own hs3 k3
    have D3 : DSt h.length h3 (.slice oa5 n5 c5) (.slice oa6 n6 c6) (outD (doneI d x)) := ⟨((D2.j.pre q2).keepsB b6 k3 (by omega)).low lH, ((D2.t.pre q2).keepsB b6 k3 (by omega)).low lH, D2.jn, D2.tn⟩
    have p3 : H <+: h3 := k3.pre (p2.trans q2) (fun j hj => by cases hj; exact p2.length_le)
    have b43 := b4.pre p3
    simp -implicitDefEqProofs [hs3, hm3]
    have rI := IsDispatcher_run D3.ok
    cases hd : doneI d x with
    | none =>
      have hx : actI d x = none := by rw [actI, c1, hd]; rfl
      obtain ⟨h8, hs8, b8, k8⟩ := dset_all (m' := 0) (p' := 0) (w' := 0) (oj := none) (nj := 0) (cj := 0) (ot := none) (nt := 0) (ct := 0) b43
      have p8 : h <+: h8 := k8.pre (pH.trans p3) (fun j hj => by cases hj; omega)
      simp -implicitDefEqProofs [hd, hs8, dbox b8, hx]
      rw [gc_np (by simp [plain, plainC])]
      exact ⟨p8, _, _, ⟨rfl, rfl, rfl, rfl, rfl⟩, zD_st⟩
    | some y =>
      rw [hd] at rI b63 D3
      simp only [Option.getD_some] at rI b63 D3
      cases hg : goodI y
      · have hx : actI d x = none := by rw [actI, c1, hd]; simp [hg]
        obtain ⟨h8, hs8, b8, k8⟩ := dset_all (m' := 0) (p' := 0) (w' := 0) (oj := none) (nj := 0) (cj := 0) (ot := none) (nt := 0) (ct := 0) b43
        have p8 : h <+: h8 := k8.pre (pH.trans p3) (fun j hj => by cases hj; omega)
        simp -implicitDefEqProofs [hd, dbox b63, CL_ret rI, hg, hs8, dbox b8, hx]
        rw [gc_np (by simp [plain, plainC])]
        exact ⟨p8, _, _, ⟨rfl, rfl, rfl, rfl, rfl⟩, zD_st⟩
      · have hx : actI d x = some y := by rw [actI, c1, hd]; simp [hg]
        obtain ⟨h8, hs8, b8, k8⟩ := dset_all (m' := y.m) (p' := y.p) (w' := y.now) (oj := oa5) (nj := n5) (cj := c5) (ot := oa6) (nt := n6) (ct := c6) b43
        have p8 : h <+: h8 := k8.pre (pH.trans p3) (fun j hj => by cases hj; omega)
        simp -implicitDefEqProofs [hd, dbox b63, CL_ret rI, hg, hs8, dbox b8, hx]
        rw [gc_np (by simp [plain, plainC])]
        exact ⟨p8, _, _, ⟨rfl, rfl⟩, D3.j.keepsB b43 k8 (by omega), D3.t.keepsB b43 k8 (by omega), D3.jn, D3.tn⟩
/-- What both do. -/
def actD (d : Disp) (x : Act) : Option Disp := if goodD d = true then actR d x else none
theorem ActDispatcher_run {h : Hp} {vj vt : Value} {d : Disp} {x : Act} (o : DOk h vj vt d) (htn : d.ts.length ≤ 2 ^ 20) :
    RunsC P G n_impl_ActDispatcher [dv d vj vt, av x] h fun v h' => h <+: h' ∧ ∃ vj' vt', v = .tuple #[dv (outD (actD d x)) vj' vt', .bool (actD d x).isSome] ∧ DSt h.length h' vj' vt' (outD (actD d x)) := by
  refine enter_run e_impl_ActDispatcher (by simp) ?_
  have os := o
  obtain ⟨⟨oj, cj, ej⟩, ot, ct, et⟩ := o.shapes
  subst ej; subst et
  have r1 := fun l => IsDispatcher_run (os.ext l)
  cases hg : goodD d
  · have hx : actD d x = none := by rw [actD, hg]; rfl
    have hg' : goodI d = false := by rw [← goodDI]; exact hg
    simp -implicitDefEqProofs [CL_ret (r1 _), hg', hx]
    rw [gc_np (by simp [plain, plainC])]
    exact ⟨List.prefix_append .., _, _, ⟨rfl, rfl, rfl, rfl, rfl⟩, zD_st⟩
  · have hx : actD d x = actI d x := by rw [actD, if_pos hg, act_eq hg]
    have hg' : goodI d = true := by rw [← goodDI]; exact hg
    simp -implicitDefEqProofs [CL_ret (r1 _), hg']
    refine CL_post (acted_run (x := x) (os.ext _) (goodD_facts hg) htn) fun v h1 hv => ?_
    obtain ⟨hp1, vj1, vt1, rfl, D1⟩ := hv
    rw [← hx] at D1 ⊢
    have b4 := boxP2 hp1
    have p1 : h <+: h1 := (List.prefix_append ..).trans hp1
    have hl1 := hp1.length_le
    simp at hl1
    obtain ⟨oa5, n5, c5, rfl⟩ : ∃ oa n c, vj1 = .slice oa n c := by obtain ⟨oa, c, e⟩ := D1.j.sees.shapeT; exact ⟨_, _, _, e⟩
    obtain ⟨oa6, n6, c6, rfl⟩ : ∃ oa n c, vt1 = .slice oa n c := by obtain ⟨oa, c, e⟩ := D1.t.sees.shapeT; exact ⟨_, _, _, e⟩
    obtain ⟨h6, hs6, b66, k6⟩ := dset_all (m' := (outD (actD d x)).m) (p' := (outD (actD d x)).p) (w' := (outD (actD d x)).now) (oj := oa5) (nj := n5) (cj := c5) (ot := oa6) (nt := n6) (ct := c6) b4
    have p6 : h <+: h6 := k6.pre p1 (fun j hj => by cases hj; omega)
    simp -implicitDefEqProofs [hs6, dbox b66]
    rw [gc_np (by simp [plain, plainC])]
    exact ⟨p6, _, _, ⟨rfl, rfl⟩, (D1.j.keepsB b4 k6 (by omega)).low (by simp), (D1.t.keepsB b4 k6 (by omega)).low (by simp), D1.jn, D1.tn⟩
theorem specActD_run {h : Hp} {vj vt : Value} {d : Disp} {x : Act} (o : DOk h vj vt d) (htn : d.ts.length ≤ 2 ^ 20) :
    RunsC P G n_spec_ActDispatcher [dv d vj vt, av x] h fun v h' => h <+: h' ∧ ∃ vj' vt', v = .tuple #[dv (outD (actD d x)) vj' vt', .bool (actD d x).isSome] ∧ DSt h.length h' vj' vt' (outD (actD d x)) := specAct_run o htn
end Go.Pm.PP

/- FnExactActDispatcher: the law in the small machine. -/
set_option linter.unusedVariables false
set_option linter.unusedSimpArgs false
set_option maxRecDepth 4000
set_option maxHeartbeats 4000000
namespace Go.Pm.PP
open Go.Pm Go.Proofs
theorem toAct_run {h : Hp} {x : Act} : Ret P G n_laws_toAct [av x] h (av x) h := by
  refine enter_run e_laws_toAct (by simp) ?_
  have e1 : ∀ {h0 : Hp} {t w r d : Int}, Ret P G n_laws_toJob [.agg #[.int .i64 t, .int .i64 w, .int .i64 r, .int .i64 d]] h0 (.agg #[.int .i64 t, .int .i64 w, .int .i64 r, .int .i64 d]) h0 := fun {h0 t w r d} => toJob_run (h := h0) (j := ⟨t, w, r, d⟩)
  simp -implicitDefEqProofs [CL_ret e1]
  refine gc_app _ _ _ (by simp [plain, plainC])
theorem labox {h : Hp} {r : Nat} {x : Act} (b : BoxAt h r [.int .i64 x.k, .int .i64 x.a, .int .i64 x.b, .int .i64 x.job.t, .int .i64 x.job.w, .int .i64 x.job.r, .int .i64 x.job.d]) :
    loadP P h t_laws_Act (.pointer (some ⟨r, 0, some 7⟩)) = some (av x) := by
  rw [loadP_eq, b.row (n := 7) rfl]; simp
theorem szD_le {d : Disp} (h2 : ¬ szD 1048576 d < 0) : (d.js.length : Int) ≤ 1048576 ∧ (d.ts.length : Int) ≤ 1048576 := by
  unfold szD at h2
  have e1 : szL 1048576 d.js.length < 0 ∨ szL 1048576 d.js.length = 1048576 - d.js.length := by unfold szL; split <;> omega
  rcases e1 with e1 | e1
  · rw [if_pos e1] at h2; omega
  · by_cases e2 : szL 1048576 d.js.length < 0
    · rw [if_pos e2] at h2; omega
    · rw [if_neg e2, e1] at h2
      have e3 : szL (1048576 - d.js.length) d.ts.length < 0 ∨ szL (1048576 - d.js.length) d.ts.length = 1048576 - d.js.length - d.ts.length := by unfold szL; split <;> omega
      rcases e3 with e3 | e3
      · rw [if_pos e3] at h2; omega
      · by_cases e4 : szL (1048576 - d.js.length) d.ts.length < 0
        · rw [if_pos e4] at h2; omega
        · omega
theorem law_ActDispatcher {h : Hp} {vj vt : Value} {d : Disp} {x : Act} (hj : Jobs h vj d.js) (ht : Tasks h vt d.ts) (hjn : d.js.length < 2 ^ 63) (htn : d.ts.length < 2 ^ 63) :
    Ret P G n_laws_FnExactActDispatcher [dv d vj vt, av x] h (.bool true) h := by
  refine enter_run e_laws_FnExactActDispatcher (by simp) ?_
  have hjs := hj
  have hts := ht
  obtain ⟨oj, cj, ej⟩ := hj.shapeT
  obtain ⟨ot, ct, et⟩ := ht.shapeT
  subst ej; subst et
  have c1 := fun l => szDispatcher_run (h := h ++ l) (d := d) (left := 1048576) (hjs.ext l) (hts.ext l) hjn htn (by omega) (by omega)
  by_cases h2 : szD 1048576 d < 0
  · simp -implicitDefEqProofs [CL_ret (c1 _), h2]
  · have hl := szD_le h2
    have o0 : DOk h (.slice oj d.js.length cj) (.slice ot d.ts.length ct) d := ⟨hjs, hts, by omega, by omega⟩
    simp -implicitDefEqProofs [CL_ret (c1 _), h2]
    -- the reference
    refine CH_post (toDispatcher_run (o0.ext _)).new fun v h1 hv => ?_
    obtain ⟨⟨p1, aj, at', rfl, D1⟩, hnew⟩ := hv
    refine ⟨hnew p1, ?_⟩
    have x1 := boxP p1
    have y1 := boxP1 p1
    simp -implicitDefEqProofs [labox y1, CH_ret toAct_run]
    refine CH_post (specActD_run (x := x) D1.ok (by omega)).new fun v h2 hv => ?_
    obtain ⟨⟨p2, wj, wt, rfl, D2⟩, hnew⟩ := hv
    refine ⟨hnew p2, ?_⟩
    have x2 := x1.pre p2
    have y2 := y1.pre p2
    obtain ⟨⟨owj, cwj, ewj⟩, owt, cwt, ewt⟩ := D2.ok.shapes
    subst ewj; subst ewt
    have p02 : h <+: h2 := (List.prefix_append ..).trans (p1.trans p2)
    have hfl : (outD (actD d x)).js.length ≤ 2 ^ 40 ∧ (outD (actD d x)).ts.length ≤ 2 ^ 40 := ⟨D2.jn, D2.tn⟩
    simp -implicitDefEqProofs [dbox x2, ldbox x2, ldbox (x2.ext _)]
    have b4 := boxP (h := h2) (t := []) (cs := [.int .i64 (outD (actD d x)).m, .int .i64 (outD (actD d x)).p, .int .i64 (outD (actD d x)).now, .slice owj (outD (actD d x)).js.length cwj, .slice owt (outD (actD d x)).ts.length cwt]) List.prefix_rfl
    have D2' := D2.pre (List.prefix_append h2 [some ⟨[.int .i64 (outD (actD d x)).m, .int .i64 (outD (actD d x)).p, .int .i64 (outD (actD d x)).now, .slice owj (outD (actD d x)).js.length cwj, .slice owt (outD (actD d x)).ts.length cwt], 0, false⟩])
    -- the copy
    refine CL_post (toDispatcher_run ((o0.pre p02).ext _)) fun v h3 hv => ?_
    obtain ⟨p3, xj, xt, rfl, D3⟩ := hv
    obtain ⟨⟨oxj, cxj, exj⟩, oxt, cxt, ext⟩ := D3.ok.shapes
    subst exj; subst ext
    generalize hF : outD (actD d x) = F at *
    generalize hok : (actD d x).isSome = ok at *
    have x3 := x2.pre ((List.prefix_append ..).trans p3)
    have y3 := y2.pre ((List.prefix_append ..).trans p3)
    have b4' := b4.pre p3
    have D2b := D2'.pre p3
    have q3 : h <+: h3 := p02.trans ((List.prefix_append ..).trans p3)
    have b6 := boxP (h := h3) (t := []) (cs := [.int .i64 d.m, .int .i64 d.p, .int .i64 d.now, .slice oxj d.js.length cxj, .slice oxt d.ts.length cxt]) List.prefix_rfl
    have D3' := D3.pre (List.prefix_append h3 [some ⟨[.int .i64 d.m, .int .i64 d.p, .int .i64 d.now, .slice oxj d.js.length cxj, .slice oxt d.ts.length cxt], 0, false⟩])
    simp -implicitDefEqProofs [dbox b6, labox (y3.ext _), CH_ret toAct_run]
    -- the program
    refine CH_post (ActDispatcher_run (x := x) D3'.ok (by omega)).new fun v h4 hv => ?_
    obtain ⟨⟨p4, gj, gt, rfl, D4⟩, hnew⟩ := hv
    refine ⟨hnew p4, ?_⟩
    rw [hF] at D4 ⊢
    rw [hok]
    obtain ⟨⟨ogj, cgj, egj⟩, ogt, cgt, egt⟩ := D4.ok.shapes
    subst egj; subst egt
    have p34 : h3 <+: h4 := (List.prefix_append ..).trans p4
    have x4 := x3.pre p34
    have y4 := y3.pre p34
    have b4'' := b4'.pre p34
    have D2c := D2b.pre p34
    have b6' := b6.pre p4
    have D3b := D3'.pre p4
    have q4 := q3.trans p34
    have b7 := boxP (h := h4) (t := []) (cs := [.int .i64 F.m, .int .i64 F.p, .int .i64 F.now, .slice ogj F.js.length cgj, .slice ogt F.ts.length cgt]) List.prefix_rfl
    have e1 := fun l => eqDispatcher_run (D4.ok.ext l) (D2c.ok.ext l)
    simp -implicitDefEqProofs [dbox (b4''.ext _), CL_ret (e1 _), dbox b7, dbox (b6'.ext _), ldbox (x4.ext _)]
    -- the copy is as it was
    refine CH_post (toDispatcher_run ((o0.pre q4).ext _)).new fun v h5 hv => ?_
    obtain ⟨⟨p5, yj, yt, rfl, D5⟩, hnew⟩ := hv
    refine ⟨hnew p5, ?_⟩
    have p45 : h4 <+: h5 := (List.prefix_append ..).trans p5
    have x5 := x4.pre p45
    have y5 := y4.pre p45
    have c4 := b4''.pre p45
    have c6 := b6'.pre p45
    have c7 := b7.pre p5
    have D2d := D2c.pre p45
    have D3c := D3b.pre p45
    have D4b := D4.pre p45
    have q5 := q4.trans p45
    have e2 := eqDispatcher_run D3c.ok D5.ok
    simp -implicitDefEqProofs [CL_ret e2, dbox c6]
    -- marks in the copy
    refine CL_post (markDispatcher_run D3c (k := 1) (by omega) (by omega)) fun v h6 hv => ?_
    obtain ⟨rfl, D3d, k6⟩ := hv
    have l2 := D2.ok
    have hne26 : ∀ i j, (rowV (.slice owj F.js.length cwj) = some i ∨ rowV (.slice owt F.ts.length cwt) = some i) → (rowV (.slice oxj d.js.length cxj) = some j ∨ rowV (.slice oxt d.ts.length cxt) = some j) → i ≠ j := fun i j hi hj => by
      have h1 := D2.lt hi
      have h2 := D3.ge hj
      simp at h2
      omega
    have hne46 : ∀ i j, (rowV (.slice ogj F.js.length cgj) = some i ∨ rowV (.slice ogt F.ts.length cgt) = some i) → (rowV (.slice oxj d.js.length cxj) = some j ∨ rowV (.slice oxt d.ts.length cxt) = some j) → i ≠ j := fun i j hi hj => by
      have h1 := D4.ge hi
      have h2 := D3.lt hj
      simp at h1
      omega
    have hne27 : ∀ i j, (rowV (.slice owj F.js.length cwj) = some i ∨ rowV (.slice owt F.ts.length cwt) = some i) → (rowV (.slice ogj F.js.length cgj) = some j ∨ rowV (.slice ogt F.ts.length cgt) = some j) → i ≠ j := fun i j hi hj => by
      have h1 := D2.lt hi
      have h2 := D4.ge hj
      have h3 := p3.length_le
      simp at h2 h3
      omega
    have x6 := x5.keepsD D3c k6
    have y6 := y5.keepsD D3c k6
    have d4 := c4.keepsD D3c k6
    have d6 := c6.keepsD D3c k6
    have d7 := c7.keepsD D3c k6
    have D2e := D2d.keeps2 D3c k6 hne26
    have D4c := D4b.keeps2 D3c k6 hne46
    have q6 : h <+: h6 := k6.pre q5 (fun j hj => by have g1 := D3.ge (.inl hj); have g2 := p02.length_le; simp at g1; omega) (fun j hj => by have g1 := D3.ge (.inr hj); have g2 := p02.length_le; simp at g1; omega)
    have e3 := eqDispatcher_run D4c.ok D2e.ok
    have hk0 : ¬ (1 + 4 * (d.js.length : Int) + 3 * d.ts.length < 0) := by omega
    simp -implicitDefEqProofs [hk0, dbox d7, dbox d4, CL_ret e3]
    -- marks in the result
    refine CL_post (markDispatcher_run D4c (k := 1) (by omega) (by omega)) fun v h7 hv => ?_
    obtain ⟨rfl, D4d, k7⟩ := hv
    have x7 := x6.keepsD D4c k7
    have y7 := y6.keepsD D4c k7
    have f4 := d4.keepsD D4c k7
    have f7 := d7.keepsD D4c k7
    have D2f := D2e.keeps2 D4c k7 hne27
    have q7 : h <+: h7 := k7.pre q6 (fun j hj => by have g1 := D4.ge (.inl hj); have g2 := q3.length_le; simp at g1; omega) (fun j hj => by have g1 := D4.ge (.inr hj); have g2 := q3.length_le; simp at g1; omega)
    have hld : ∀ {h' : Hp}, DOk h' (.slice ogj F.js.length cgj) (.slice ogt F.ts.length cgt) (markD F 1) → Ret P G n_laws_heldDispatcher [.agg #[.int .i64 F.m, .int .i64 F.p, .int .i64 F.now, .slice ogj F.js.length cgj, .slice ogt F.ts.length cgt], .int .i64 1] h' (.int .i64 (1 + 4 * F.js.length + 3 * F.ts.length)) h' := fun {h'} o => by
      have := heldDispatcher_run (k := 1) o
      rw [heldD_mark (by omega) (by omega)] at this
      exact this
    have hk1 : ¬ (1 + 4 * (F.js.length : Int) + 3 * F.ts.length < 0) := by omega
    simp -implicitDefEqProofs [dbox f7, CL_ret (hld D4d.ok), hk1, ldbox x7]
    -- once more
    refine CH_post (toDispatcher_run (o0.pre q7)).new fun v h8 hv => ?_
    obtain ⟨⟨p8, zj, zt, rfl, D8⟩, hnew⟩ := hv
    refine ⟨hnew p8, ?_⟩
    have y8 := y7.pre p8
    simp -implicitDefEqProofs [labox y8, CH_ret toAct_run]
    refine CH_post (ActDispatcher_run (x := x) D8.ok (by omega)).new fun v h9 hv => ?_
    obtain ⟨⟨p9, uj, ut, rfl, D9⟩, hnew⟩ := hv
    refine ⟨hnew p9, ?_⟩
    rw [hF] at D9 ⊢
    rw [hok]
    have p79 : h7 <+: h9 := p8.trans p9
    obtain ⟨⟨ouj, cuj, euj⟩, out, cut, eut⟩ := D9.ok.shapes
    subst euj; subst eut
    have g4 := f4.pre p79
    have g7 := f7.pre p79
    have D2g := D2f.pre p79
    have D4e := D4d.pre p79
    have e4 := fun l => eqDispatcher_run (D9.ok.ext l) (D2g.ok.ext l)
    have b12 := boxP (h := h9) (t := []) (cs := [.int .i64 F.m, .int .i64 F.p, .int .i64 F.now, .slice ouj F.js.length cuj, .slice out F.ts.length cut]) List.prefix_rfl
    simp -implicitDefEqProofs [dbox b12, dbox (g4.ext _), CL_ret (e4 _), dbox (g7.ext _), CL_ret (hld (D4e.ok.ext _)), hk1]
    exact gcB' (q7.trans p79)
end Go.Pm.PP

/- Acts one after the other: data. -/
set_option linter.unusedVariables false
set_option linter.unusedSimpArgs false
set_option maxRecDepth 4000
set_option maxHeartbeats 1000000
namespace Go.Pm.PP
open Go.Pm Go.Proofs
theorem nodup_lt : ∀ {n : Nat} {l : List Int}, l.Nodup → (∀ x ∈ l, 0 ≤ x ∧ x < n) → l.length ≤ n
  | 0, l, _, h => by
    cases l with
    | nil => exact Nat.le_refl _
    | cons x r => have := h x (List.mem_cons_self ..); omega
  | n + 1, l, hn, h => by
    by_cases hm : (n : Int) ∈ l
    · have h1 := nodup_lt (n := n) (hn.erase (n : Int)) (fun x hx => by
        have := (hn.mem_erase_iff).1 hx
        have := h x this.2
        omega)
      rw [List.length_erase_of_mem hm] at h1
      omega
    · have := nodup_lt (n := n) hn (fun x hx => by
        have h2 := h x hx
        have : x ≠ n := fun e => hm (by rw [← e]; exact hx)
        omega)
      omega
theorem tasksS_nodup {d : Disp} : ∀ {l pre : List Task}, tasksS d pre l = true → (pre.map (·.j)).Nodup → ((pre ++ l).map (·.j)).Nodup
  | [], pre, _, h => by simpa using h
  | x :: r, pre, e, h => by
    simp only [tasksS, Bool.and_eq_true, Bool.not_eq_true'] at e
    obtain ⟨⟨⟨_, h1⟩, _⟩, h2⟩ := e
    have := tasksS_nodup h2 (by
      rw [List.map_append, List.nodup_append]
      refine ⟨h, by simp, fun a ha b hb => ?_⟩
      simp at hb
      subst hb
      obtain ⟨y, hy, rfl⟩ := List.mem_map.1 ha
      intro e
      have h3 := List.any_eq_false.1 h1 y hy
      simp [clash, e] at h3)
    simpa using this
theorem goodD_ts {d : Disp} (h : goodD d = true) : d.ts.length ≤ 8 := by
  have F := goodD_facts h
  simp only [goodD, Bool.and_eq_true] at h
  have h1 := tasksS_nodup h.2 (by simp)
  rw [List.nil_append] at h1
  have h2 := nodup_lt (n := d.js.length) h1 (fun x hx => by
    obtain ⟨t, ht, rfl⟩ := List.mem_map.1 hx
    have := inB_spec (F.ins t ht)
    omega)
  rw [List.length_map] at h2
  have := F.js8
  omega
/-- Acts one after the other, until one is refused; how many were done. -/
def playGo : Disp → Nat → List Act → Disp × Nat
  | d, i, [] => (d, i)
  | d, i, x :: r => match actR d x with
    | none => (d, i)
    | some y => playGo y (i + 1) r
theorem actR_good {d y : Disp} {x : Act} (h : actR d x = some y) : goodD y = true := by
  unfold actR at h
  split at h
  · split at h
    · rename_i hg; cases h; exact hg
    · cases h
  · cases h
abbrev Acts (h : Hp) (v : Value) (xs : List Act) : Prop := Sees h v 7 (xs.map encA)
end Go.Pm.PP
