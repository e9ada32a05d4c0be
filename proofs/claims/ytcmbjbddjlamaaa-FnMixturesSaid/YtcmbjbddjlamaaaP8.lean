/- The texts Pv4, Pv5, Pv6, Pv7, Pv8, Pv9, PvSb, PvSc, PvSd, PvSe, PvQa, PvTa, PvTb, PvTc of this work: Draws: jobs and orders. -/
import Derived.Test.YtcmbjbddjlamaaaP7
import Derived.Test.YtcmbjbddjlamaaaP6
/- Draws: jobs and orders. -/
set_option linter.unusedVariables false
set_option linter.unusedSimpArgs false
set_option maxRecDepth 4000
set_option maxHeartbeats 8000000
namespace Go.Pm.PP
open Go.Pm Go.Proofs Go.Pm.PE
section
variable {h0 h : Hp} {r n : Nat} {vc : Value} {L : List Asn}
theorem Cur.alloc (C : Cur h0 h r vc n L) (cs : List Value) : Cur h0 (h ++ [some ⟨cs, 0, false⟩]) r vc n (L ++ [.box h.length cs]) := by
  obtain ⟨a, s, h1, h2, H⟩ := C
  exact ⟨a, s, h1, h2, H.alloc cs⟩
abbrev zJ : List Value := [.int .i64 0, .int .i64 0, .int .i64 0, .int .i64 0]
theorem job_run (B : By h0 vc) (C : Cur h0 h r vc n L) (hn : n ≤ 2 ^ 30) {b : Bool} : RunsC P G n_spec_l1Cur_job [.pointer (some ⟨r, 0, some 3⟩), .bool b] h fun v h' => ∃ j : Job, v = jv j ∧ Cur h0 h' r vc (n + 8) L := by
  refine hideC fun K hK => enter_run e_spec_l1Cur_job (by simp) ?_
  have C0 := C.alloc zJ
  have C1 : Cur h0 (h ++ [some ⟨zJ, 0, false⟩, some ⟨([1, 2, 3, 4, 5, 7, 9] : List Int).map fun x => .int .i64 x, 1, false⟩]) r vc n ((L ++ [.box h.length zJ]) ++ [.own (.slice (some ⟨h.length + 1, 0, some 7⟩) 7 7) 1 (([1, 2, 3, 4, 5, 7, 9] : List Int).map encI)]) := by
    have := C0.lit [1, 2, 3, 4, 5, 7, 9]
    rw [List.append_assoc h, List.length_append] at this
    exact this
  simp -implicitDefEqProofs
  refine CL_post (among_run B C1 (by omega) snoc_get (xs := [1, 2, 3, 4, 5, 7, 9]) (by simp) (by simp)) fun v h1 ⟨x, ev, _, C2⟩ => ?_
  subst ev
  have C3 := C2.weak.lit [0, 1, 1, 2, 3, 5, 8]
  simp -implicitDefEqProofs
  refine CL_post (among_run B C3 (by omega) snoc_get (xs := [0, 1, 1, 2, 3, 5, 8]) (by simp) (by simp)) fun v h2 ⟨y, ev, _, C4⟩ => ?_
  subst ev
  simp -implicitDefEqProofs
  refine CL_post (pick_run B C4.weak (by omega) (k := 24) (by omega)) fun v h3 ⟨z, ev, _, _, _, C5⟩ => ?_
  subst ev
  have C6 := C5.alloc [.int .i64 x, .int .i64 y, .int .i64 0, .int .i64 z]
  have g4 : ∀ {A : Asn} {x : List Value} {T : List Asn}, (A :: ((L ++ [.box h.length x]) ++ T))[L.length + 1]? = some (.box h.length x) := by
    intro A x T
    rw [List.getElem?_cons_succ, List.append_assoc, List.getElem?_append_right (Nat.le_refl _), Nat.sub_self]; rfl
  cases b
  · obtain ⟨a, s, g1, g2, H⟩ := C6
    obtain ⟨h4, s4, H4, _⟩ := H.set (P := P) (L.length + 1) (n := 4) (o := 0) (ty := t_impl_Job) (w := jv ⟨x, y, 0, z⟩) (r := h.length) (cs := zJ) g4 rfl e_t_impl_Job (by simp) (by simp) (by simp)
    have e4 : (cu r vc a s :: ((L ++ [.box h.length zJ]) ++ [.box h3.length [.int .i64 x, .int .i64 y, .int .i64 0, .int .i64 z]])).set (L.length + 1) (.box h.length (splice zJ 0 (jv ⟨x, y, 0, z⟩).cells.toList)) = cu r vc a s :: ((L ++ [.box h.length [.int .i64 x, .int .i64 y, .int .i64 0, .int .i64 z]]) ++ [.box h3.length [.int .i64 x, .int .i64 y, .int .i64 0, .int .i64 z]]) := by
      rw [List.set_cons_succ, List.append_assoc, List.set_append_right (h := Nat.le_refl _), Nat.sub_self, List.append_assoc]; rfl
    rw [e4] at H4
    have s4' : storeP P (h3 ++ [some ⟨[.int .i64 x, .int .i64 y, .int .i64 0, .int .i64 z], 0, false⟩]) 85 (.agg #[.int .i64 x, .int .i64 y, .int .i64 0, .int .i64 z]) (.pointer (some ⟨h.length, 0, some 4⟩)) = some h4 := s4
    have l4 := H4.bl (P := P) (L.length + 1) 4 g4 rfl
    simp -implicitDefEqProofs
    simp -implicitDefEqProofs [-storeP_app0, s4', l4]
    exact onK hK ⟨⟨x, y, 0, z⟩, rfl, C.gc (Cur.weak (T := [.box h.length [.int .i64 x, .int .i64 y, .int .i64 0, .int .i64 z]] ++ [.box h3.length [.int .i64 x, .int .i64 y, .int .i64 0, .int .i64 z]]) ⟨a, s, g1, by omega, by rw [← List.append_assoc]; exact H4⟩)⟩
  · simp -implicitDefEqProofs
    refine CL_post (pick_run B C6 (by omega) (k := 12) (by omega)) fun v h4 ⟨q, ev, _, _, _, C7⟩ => ?_
    subst ev
    obtain ⟨a, s, g1, g2, H⟩ := C7
    have g5 : ∀ {A : Asn} {x : List Value} {B : Asn}, (A :: ((L ++ [B]) ++ [.box h3.length x]))[L.length + 1 + 1]? = some (.box h3.length x) := by
      intro A x B
      rw [List.getElem?_cons_succ, List.append_assoc, List.getElem?_append_right (by omega), Nat.add_sub_cancel_left]; rfl
    obtain ⟨h5, s5, H5, _⟩ := H.set (P := P) (L.length + 1 + 1) (n := 4) (o := 2) (ty := t_int) (w := .int .i64 q) g5 rfl e_t_int (by simp) (by simp) (by simp)
    have e5 : (cu r vc a s :: ((L ++ [.box h.length zJ]) ++ [.box h3.length [.int .i64 x, .int .i64 y, .int .i64 0, .int .i64 z]])).set (L.length + 1 + 1) (.box h3.length (splice [.int .i64 x, .int .i64 y, .int .i64 0, .int .i64 z] 2 (Value.int .i64 q).cells.toList)) = cu r vc a s :: ((L ++ [.box h.length zJ]) ++ [.box h3.length [.int .i64 x, .int .i64 y, .int .i64 q, .int .i64 z]]) := by
      rw [List.set_cons_succ, List.append_assoc, List.set_append_right (h := by omega), Nat.add_sub_cancel_left, List.append_assoc]; rfl
    rw [e5] at H5
    have l5 := H5.bl (P := P) (L.length + 1 + 1) 4 g5 rfl
    obtain ⟨h6, s6, H6, _⟩ := H5.set (P := P) (L.length + 1) (n := 4) (o := 0) (ty := t_impl_Job) (w := jv ⟨x, y, q, z⟩) (r := h.length) (cs := zJ) g4 rfl e_t_impl_Job (by simp) (by simp) (by simp)
    have e6 : (cu r vc a s :: ((L ++ [.box h.length zJ]) ++ [.box h3.length [.int .i64 x, .int .i64 y, .int .i64 q, .int .i64 z]])).set (L.length + 1) (.box h.length (splice zJ 0 (jv ⟨x, y, q, z⟩).cells.toList)) = cu r vc a s :: ((L ++ [.box h.length [.int .i64 x, .int .i64 y, .int .i64 q, .int .i64 z]]) ++ [.box h3.length [.int .i64 x, .int .i64 y, .int .i64 q, .int .i64 z]]) := by
      rw [List.set_cons_succ, List.append_assoc, List.set_append_right (h := Nat.le_refl _), Nat.sub_self, List.append_assoc]; rfl
    rw [e6] at H6
    have s6' : storeP P h5 85 (.agg #[.int .i64 x, .int .i64 y, .int .i64 q, .int .i64 z]) (.pointer (some ⟨h.length, 0, some 4⟩)) = some h6 := s6
    have l6 := H6.bl (P := P) (L.length + 1) 4 g4 rfl
    simp -implicitDefEqProofs [-storeP_app0, s5, l5, s6', l6]
    exact onK hK ⟨⟨x, y, q, z⟩, rfl, C.gc (Cur.weak (T := [.box h.length [.int .i64 x, .int .i64 y, .int .i64 q, .int .i64 z]] ++ [.box h3.length [.int .i64 x, .int .i64 y, .int .i64 q, .int .i64 z]]) ⟨a, s, g1, by omega, by rw [← List.append_assoc]; exact H6⟩)⟩
end
end Go.Pm.PP

/- Draws: spoilt jobs, lists of jobs. -/
set_option linter.unusedVariables false
set_option linter.unusedSimpArgs false
set_option maxRecDepth 4000
set_option maxHeartbeats 8000000
namespace Go.Pm.PP
open Go.Pm Go.Proofs Go.Pm.PE
section
variable {h0 h : Hp} {r n : Nat} {vc : Value} {L : List Asn}
theorem spoiltJob_run (B : By h0 vc) (C : Cur h0 h r vc n L) (hn : n ≤ 2 ^ 30) {j : Job} : RunsC P G n_spec_l1Cur_spoiltJob [.pointer (some ⟨r, 0, some 3⟩), jv j] h fun v h' => ∃ j' : Job, v = jv j' ∧ Cur h0 h' r vc (n + 4) L := by
  refine hideC fun K hK => enter_run e_spec_l1Cur_spoiltJob (by simp) ?_
  have C1 : Cur h0 (h ++ [some ⟨[.int .i64 j.t, .int .i64 j.w, .int .i64 j.r, .int .i64 j.d], 0, false⟩, some ⟨zJ, 0, false⟩]) r vc n ((L ++ [.box h.length (encJ j)]) ++ [.box (h.length + 1) zJ]) := by
    have := (C.alloc (encJ j)).alloc zJ
    rw [List.append_assoc h, List.length_append] at this
    exact this
  have g3 : ∀ {A : Asn} {x : List Value} {T : List Asn}, (A :: ((L ++ [.box h.length x]) ++ T))[L.length + 1]? = some (.box h.length x) := by
    intro A x T
    rw [List.getElem?_cons_succ, List.append_assoc, List.getElem?_append_right (Nat.le_refl _), Nat.sub_self]; rfl
  have g4 : ∀ {A : Asn} {x : List Value} {B : Asn}, (A :: ((L ++ [B]) ++ [.box (h.length + 1) x]))[L.length + 1 + 1]? = some (.box (h.length + 1) x) := by
    intro A x B
    rw [List.getElem?_cons_succ, List.append_assoc, List.getElem?_append_right (by omega), Nat.add_sub_cancel_left]; rfl
  have fin : ∀ (fo : Nat) (q : Int) (j' : Job) (h5 : Hp), fo + 1 ≤ 4 → splice (encJ j) fo [.int .i64 q] = encJ j' → Cur h0 h5 r vc (n + 4) ((L ++ [.box h.length (encJ j)]) ++ [.box (h.length + 1) zJ]) →
      ∃ h6 h7, storeP P h5 t_int (.int .i64 q) (.pointer (some ⟨h.length, fo, some 4⟩)) = some h6 ∧ loadP P h6 85 (.pointer (some ⟨h.length, 0, some 4⟩)) = some (.agg #[.int .i64 j'.t, .int .i64 j'.w, .int .i64 j'.r, .int .i64 j'.d]) ∧
        storeP P h6 85 (.agg #[.int .i64 j'.t, .int .i64 j'.w, .int .i64 j'.r, .int .i64 j'.d]) (.pointer (some ⟨h.length + 1, 0, some 4⟩)) = some h7 ∧ loadP P h7 85 (.pointer (some ⟨h.length + 1, 0, some 4⟩)) = some (.agg #[.int .i64 j'.t, .int .i64 j'.w, .int .i64 j'.r, .int .i64 j'.d]) ∧ ∀ u, K (jv j') (gc h h7 u) := by
    intro fo q j' h5 hfo he ⟨a, s, a0, a1, H⟩
    obtain ⟨h6, s6, H6, _⟩ := H.set (P := P) (L.length + 1) (n := 4) (o := fo) (ty := t_int) (w := .int .i64 q) g3 rfl e_t_int (by simp) (by simpa [encJ] using hfo) (by simp)
    rw [show (Value.int .i64 q).cells.toList = [.int .i64 q] from rfl, he] at H6
    have e6 : (cu r vc a s :: ((L ++ [.box h.length (encJ j)]) ++ [.box (h.length + 1) zJ])).set (L.length + 1) (.box h.length (encJ j')) = cu r vc a s :: ((L ++ [.box h.length (encJ j')]) ++ [.box (h.length + 1) zJ]) := by
      rw [List.set_cons_succ, List.append_assoc, List.set_append_right (h := Nat.le_refl _), Nat.sub_self, List.append_assoc]; rfl
    rw [e6] at H6
    have l6 := H6.bl (P := P) (L.length + 1) 4 g3 rfl t_impl_Job 0
    obtain ⟨h7, s7, H7, _⟩ := H6.set (P := P) (L.length + 1 + 1) (n := 4) (o := 0) (ty := t_impl_Job) (w := jv j') g4 rfl e_t_impl_Job (by simp) (by simp) (by simp)
    have e7 : (cu r vc a s :: ((L ++ [.box h.length (encJ j')]) ++ [.box (h.length + 1) zJ])).set (L.length + 1 + 1) (.box (h.length + 1) (splice zJ 0 (jv j').cells.toList)) = cu r vc a s :: ((L ++ [.box h.length (encJ j')]) ++ [.box (h.length + 1) (encJ j')]) := by
      rw [List.set_cons_succ, List.append_assoc, List.set_append_right (h := by omega), Nat.add_sub_cancel_left, List.append_assoc]; rfl
    rw [e7] at H7
    have l7 := H7.bl (P := P) (L.length + 1 + 1) 4 g4 rfl t_impl_Job 0
    refine ⟨h6, h7, s6, by rw [l6]; simp [encJ], s7, by rw [l7]; simp [encJ], fun u => onK hK ⟨j', rfl, C.gc (Cur.weak (T := [.box h.length (encJ j')] ++ [.box (h.length + 1) (encJ j')]) ⟨a, s, a0, by omega, by rw [← List.append_assoc]; exact H7⟩)⟩⟩
  simp -implicitDefEqProofs
  refine CL_post (pick_run B C1 (by omega) (k := 4) (by omega)) fun v h2 ⟨x, ev, x0, _, _, C2⟩ => ?_
  subst ev
  by_cases c0 : x = 0
  · subst c0
    simp -implicitDefEqProofs
    refine CL_post (among_run B (C2.lit [0, 50, 51, -1, 4611686018427387904]) (by omega) snoc_get (by simp) (by simp)) fun v h3 ⟨q, ev, _, C3⟩ => ?_
    subst ev
    obtain ⟨h6, h7, s6, l6, s7, l7, f⟩ := fin 0 q ⟨q, j.w, j.r, j.d⟩ h3 (by omega) rfl C3.weak
    simp -implicitDefEqProofs [s6, l6, s7, l7]
    exact f _
  · by_cases c1 : x = 1
    · subst c1
      simp -implicitDefEqProofs
      refine CL_post (among_run B (C2.lit [-1, 50, 51]) (by omega) snoc_get (by simp) (by simp)) fun v h3 ⟨q, ev, _, C3⟩ => ?_
      subst ev
      obtain ⟨h6, h7, s6, l6, s7, l7, f⟩ := fin 1 q ⟨j.t, q, j.r, j.d⟩ h3 (by omega) rfl C3.weak
      simp -implicitDefEqProofs [s6, l6, s7, l7]
      exact f _
    · by_cases c2 : x = 2
      · subst c2
        simp -implicitDefEqProofs
        refine CL_post (among_run B (C2.lit [-1, 500, 501]) (by omega) snoc_get (by simp) (by simp)) fun v h3 ⟨q, ev, _, C3⟩ => ?_
        subst ev
        obtain ⟨h6, h7, s6, l6, s7, l7, f⟩ := fin 2 q ⟨j.t, j.w, q, j.d⟩ h3 (by omega) rfl C3.weak
        simp -implicitDefEqProofs [s6, l6, s7, l7]
        exact f _
      · simp -implicitDefEqProofs [nb c0, nb c1, nb c2]
        refine CL_post (among_run B (C2.lit [-1, 500, 501, -9223372036854775808]) (by omega) snoc_get (by simp) (by simp)) fun v h3 ⟨q, ev, _, C3⟩ => ?_
        subst ev
        obtain ⟨h6, h7, s6, l6, s7, l7, f⟩ := fin 3 q ⟨j.t, j.w, j.r, q⟩ h3 (by omega) rfl C3.weak
        simp -implicitDefEqProofs [s6, l6, s7, l7]
        exact f _
end
end Go.Pm.PP

/- Draws: lists of jobs. -/
set_option linter.unusedVariables false
set_option linter.unusedSimpArgs false
set_option maxRecDepth 4000
set_option maxHeartbeats 16000000
namespace Go.Pm.PP
open Go.Pm Go.Proofs Go.Pm.PE
section
variable {h0 h : Hp} {r n : Nat} {vc : Value} {L : List Asn}
/-- Something is put at the end of a list of one's own that is drawn. -/
theorem Cur.pushJ {u : Value} {js : List Job} (C : Cur h0 h r vc n (L ++ [.own u 4 (js.map encJ)])) (j : Job) (hl : js.length ≤ 2 ^ 40) : ∃ u' h', appendP P (h ++ [some ⟨[.int .i64 j.t, .int .i64 j.w, .int .i64 j.r, .int .i64 j.d], 4, false⟩]) t_S_impl_Job u (.slice (some ⟨h.length, 0, some 4⟩) 1 1) = some (u', h') ∧ Cur h0 h' r vc n (L ++ [.own u' 4 ((js ++ [j]).map encJ)]) := by
  obtain ⟨a, s, h1, h2, H⟩ := C
  obtain ⟨u', h', g1, g2, _⟩ := push_J0 H (L.length + 1) (by rw [List.getElem?_cons_succ]; exact snoc_get) j hl
  refine ⟨u', h', g1, a, s, h1, h2, ?_⟩
  rw [List.set_cons_succ, List.set_append_right (h := Nat.le_refl _), Nat.sub_self] at g2
  exact g2
theorem Cur.seesJ {u : Value} {js : List Job} (C : Cur h0 h r vc n (L ++ [.own u 4 (js.map encJ)])) : Jobs h u js := by
  obtain ⟨a, s, h1, h2, H⟩ := C
  exact H.sees (L.length + 1) (by rw [List.getElem?_cons_succ]; exact snoc_get)
theorem Cur.putJ {u : Value} {js : List Job} (C : Cur h0 h r vc n (L ++ [.own u 4 (js.map encJ)])) {k : Nat} (hk : k < js.length) (j : Job) : ∃ h', storeP P h t_impl_Job (jv j) (.pointer (some (addP (base u) (k * 4)))) = some h' ∧ Cur h0 h' r vc n (L ++ [.own u 4 ((js.set k j).map encJ)]) := by
  obtain ⟨a, s, h1, h2, H⟩ := C
  obtain ⟨h', g1, g2, _⟩ := put_J H (L.length + 1) (by rw [List.getElem?_cons_succ]; exact snoc_get) hk j
  refine ⟨h', g1, a, s, h1, h2, ?_⟩
  rw [List.set_cons_succ, List.set_append_right (h := Nat.le_refl _), Nat.sub_self] at g2
  exact g2
theorem Cur.nil (C : Cur h0 h r vc n L) (α : Type) (enc : α → List Value) (sz : Nat) : Cur h0 h r vc n (L ++ [.own (.slice none 0 0) sz (([] : List α).map enc)]) := by
  obtain ⟨a, s, h1, h2, H⟩ := C
  exact ⟨a, s, h1, h2, H.call List.prefix_rfl (by simpa using Own.nil)⟩
theorem someJobs_run (B : By h0 vc) (C : Cur h0 h r vc n L) (hn : n ≤ 2 ^ 20) {b : Bool} {most : Nat} (hm : most ≤ 8) : RunsC P G n_spec_l1Cur_someJobs [.pointer (some ⟨r, 0, some 3⟩), .bool b, .int .i64 most] h fun v h' => ∃ js : List Job, js.length ≤ 9 ∧ Cur h0 h' r vc (n + 200) (L ++ [.own v 4 (js.map encJ)]) := by
  refine hideC fun K hK => enter_run e_spec_l1Cur_someJobs (by simp) ?_
  simp -implicitDefEqProofs
  refine CL_post (among_run B (C.lit [3, 4, 5, 2, 6, 1, 0]) (by omega) snoc_get (by simp) (by simp)) fun v h1 ⟨x, ev, hx, C1'⟩ => ?_
  subst ev
  have hx2 : 0 ≤ x ∧ x ≤ 6 := by
    simp only [List.mem_cons, List.not_mem_nil, or_false] at hx
    omega
  have C1 := C1'.weak
  obtain ⟨X, hX, hX2⟩ : ∃ X : Int, X = x ∧ 0 ≤ X ∧ X ≤ 9 := ⟨x, rfl, by omega, by omega⟩
  by_cases c : (6 : Int) < most
  case' neg =>
    rw [← hX]
    clear hX
    have C2 : Cur h0 h1 r vc (n + 6) L := C1.mono (by omega)
    obtain ⟨h2, hh2⟩ : ∃ h2, h2 = h1 := ⟨_, rfl⟩
    have c' : ¬ 6 < most := by omega
    simp -implicitDefEqProofs [c, c']
    rw [← hh2] at C2 ⊢
  case' pos =>
    clear hX hX2
    have c' : 6 < most := by omega
    simp -implicitDefEqProofs [c, c']
    refine CL_post (one_run B C1 (by omega) (k := 6) (by omega)) fun v h2 ⟨b2, ev, C1''⟩ => ?_
    subst ev
    clear X
    cases b2
    case' false =>
      obtain ⟨X, hX, hX2⟩ : ∃ X : Int, X = x ∧ 0 ≤ X ∧ X ≤ 9 := ⟨x, rfl, by omega, by omega⟩
      rw [← hX]
      clear hX
      have C2 : Cur h0 h2 r vc (n + 6) L := C1''.mono (by omega)
      simp -implicitDefEqProofs
    case' true =>
      simp -implicitDefEqProofs
      refine CL_post (pick_run B C1'' (by omega) (k := 2) (by omega)) fun v h2 ⟨y, ev, y0, _, y1, C2'⟩ => ?_
      subst ev
      have y2 := y1 (by omega)
      have w7 : IntKind.i64.wrap (7 + y) = 7 + y := by rw [wrap_ok] <;> omega
      obtain ⟨X, hX, hX2⟩ : ∃ X : Int, X = 7 + y ∧ 0 ≤ X ∧ X ≤ 9 := ⟨7 + y, rfl, by omega, by omega⟩
      have C2 : Cur h0 h2 r vc (n + 6) L := C2'.mono (by omega)
      simp -implicitDefEqProofs [w7]
      rw [← hX]
  all_goals
    refine R_loopO (fun m st h' => ∃ (js : List Job) (u : Value), st = [(0, .pointer (some ⟨r, 0, some 3⟩)), (1, .bool b), (2, .int .i64 most), (7, u), (8, .int .i64 m)] ∧ js.length + m ≤ 9 ∧ Cur h0 h' r vc (n + 6 + 8 * js.length) (L ++ [.own u 4 (js.map encJ)])) (fun I hI m st h' => ?_) (n := X.toNat) ⟨[], .slice none 0 0, by simp; omega, by simp; omega, C2.nil Job encJ 4⟩
    rintro ⟨js, u, rfl, hj, C3⟩
    obtain ⟨ua, uc, rfl⟩ : ∃ a c, u = .slice a js.length c := C3.seesJ.shapeT
    by_cases c1 : 0 < m
    case' pos =>
      by_cases c2 : js.length < most
      case pos =>
        have w1 : IntKind.i64.wrap ((m : Int) - 1) = ((m - 1 : Nat) : Int) := by rw [wrap_ok] <;> omega
        have c1' : (0 : Int) < m := by omega
        have c2' : (js.length : Int) < most := by omega
        simp -implicitDefEqProofs [c1, c1', c2, c2']
        refine CL_post (job_run B C3 (by omega) (b := b)) fun v h4 ⟨j, ev, C4⟩ => ?_
        subst ev
        obtain ⟨u', h5, ha, C5⟩ := C4.pushJ j (by omega)
        simp -implicitDefEqProofs [ha, w1]
        exact ⟨m - 1, by omega, on hI ⟨js ++ [j], u', rfl, by simp; omega, by
          have e : n + 6 + 8 * (js ++ [j]).length = n + 6 + 8 * js.length + 8 := by simp; omega
          rw [e]; exact C5⟩⟩
      case' neg =>
        have c1' : (0 : Int) < m := by omega
        have c2' : ¬ (js.length : Int) < most := by omega
        simp -implicitDefEqProofs [c1, c1', c2, c2']
    case' neg =>
      have c1' : ¬ (0 : Int) < m := by omega
      simp -implicitDefEqProofs [c1, c1']
    all_goals
      by_cases c3 : 0 < js.length
      case' neg =>
        have c3' : ¬ (0 : Int) < js.length := by omega
        have C5 : Cur h0 h' r vc (n + 86) (L ++ [.own (.slice ua js.length uc) 4 (js.map encJ)]) := C3.mono (by omega)
        have hl5 : js.length ≤ 9 := by omega
        simp -implicitDefEqProofs [c3, c3']
      case' pos =>
        have c3' : (0 : Int) < js.length := by omega
        simp -implicitDefEqProofs [c3, c3']
        refine CL_post (one_run B C3 (by omega) (k := 20) (by omega)) fun v h4 ⟨b3, ev, C4⟩ => ?_
        subst ev
        cases b3
        case' false =>
          have C5 : Cur h0 h4 r vc (n + 86) (L ++ [.own (.slice ua js.length uc) 4 (js.map encJ)]) := C4.mono (by omega)
          have hl5 : js.length ≤ 9 := by omega
          simp -implicitDefEqProofs
        case' true =>
          simp -implicitDefEqProofs
          refine CL_post (pick_run B C4 (by omega) (k := js.length) (by omega)) fun v h5 ⟨q, ev, q0, _, q1, C5'⟩ => ?_
          subst ev
          obtain ⟨k, rfl⟩ : ∃ k : Nat, q = k := ⟨q.toNat, by omega⟩
          have hk : k < js.length := by have := q1 (by omega); omega
          obtain ⟨y, hy, _⟩ := drop_at hk
          have ly := load_J C5'.seesJ hy
          simp -implicitDefEqProofs [-indexAddrP_some, ly]
          refine CL_post (spoiltJob_run B C5' (by omega) (j := y)) fun v h6 ⟨j', ev, C6'⟩ => ?_
          subst ev
          have ix := (load_J C6'.seesJ hy).1
          obtain ⟨h7, s7, C7⟩ := C6'.putJ hk j'
          have C5 : Cur h0 h7 r vc (n + 86) (L ++ [.own (.slice ua js.length uc) 4 ((js.set k j').map encJ)]) := C7.mono (by omega)
          have hl5 : (js.set k j').length ≤ 9 := by rw [List.length_set]; omega
          simp -implicitDefEqProofs [-indexAddrP_some, ix, s7]
      all_goals
        refine CL_post (one_run B C5 (by omega) (k := 60) (by omega)) fun v h8 ⟨b4, ev, C8⟩ => ?_
        subst ev
        cases b4
        case false =>
          simp -implicitDefEqProofs
          exact onK hK ⟨_, hl5, C.gcO (C8.mono (by omega)) (fun h => h)⟩
        case true =>
          simp -implicitDefEqProofs
          refine R_loopO (fun m st h' => ∃ (js : List Job) (u : Value), st = [(0, .pointer (some ⟨r, 0, some 3⟩)), (1, .bool b), (7, u)] ∧ js.length + m = 9 ∧ Cur h0 h' r vc (n + 88 + 8 * js.length) (L ++ [.own u 4 (js.map encJ)])) (fun I2 hI2 m2 st h' => ?_) (n := 9 - js.length) ⟨_, _, by simp, ?_, C8.mono (by omega)⟩
          · rintro ⟨js2, u2, rfl, hj2, C9⟩
            obtain ⟨ub, ud, rfl⟩ : ∃ a c, u2 = .slice a js2.length c := C9.seesJ.shapeT
            by_cases c9 : js2.length < 9
            · have c9' : (js2.length : Int) < 9 := by omega
              simp -implicitDefEqProofs [c9, c9']
              refine CL_post (job_run B C9 (by omega) (b := b)) fun v h10 ⟨j, ev, C10⟩ => ?_
              subst ev
              obtain ⟨u', h11, ha, C11⟩ := C10.pushJ j (by omega)
              simp -implicitDefEqProofs [ha]
              exact ⟨m2 - 1, by omega, on hI2 ⟨js2 ++ [j], u', rfl, by simp; omega, by
                have e : n + 88 + 8 * (js2 ++ [j]).length = n + 88 + 8 * js2.length + 8 := by simp; omega
                rw [e]; exact C11⟩⟩
            · have c9' : ¬ (js2.length : Int) < 9 := by omega
              simp -implicitDefEqProofs [c9, c9']
              exact onK hK ⟨js2, by omega, C.gcO (C9.mono (by omega)) (fun h => h)⟩
          · first | omega | (rw [List.length_set]; omega)
end
end Go.Pm.PP

/- Draws: orders; the draw of jobs, an order and an objective. -/
set_option linter.unusedVariables false
set_option linter.unusedSimpArgs false
set_option maxRecDepth 4000
set_option maxHeartbeats 16000000
namespace Go.Pm.PP
open Go.Pm Go.Proofs Go.Pm.PE
theorem newOk_of {h h' : Hp} (hp : h <+: h') (n : NR h.length h') : newOk h h' := by
  refine ⟨hp, ?_⟩
  rw [List.all_eq_true]
  intro x hx
  cases x with
  | none => rfl
  | some x =>
    obtain ⟨k, hk⟩ := List.getElem?_of_mem hx
    rw [List.getElem?_drop] at hk
    simp [n.2 _ x (by omega) hk]
theorem own_plain {b : Nat} {h : Hp} {w : Value} {sz : Nat} {els : List (List Value)} (ho : Own b h w sz els) (hw : plainC w = true) : els = [] ∧ w = nilV := by
  have hn : els = [] := by
    rcases ho.2 with ⟨_, h2⟩ | ⟨_, _, _, _, _, h2, _⟩
    · exact h2
    · rw [h2] at hw; cases hw
  subst hn
  refine ⟨rfl, ?_⟩
  obtain ⟨a, c, e⟩ := ho.sees.shape
  rw [e] at hw ⊢
  simp only [List.length_nil] at hw ⊢
  match a, c, hw with
  | none, 0, _ => rfl
section
variable {h0 h : Hp} {r n : Nat} {vc : Value} {L : List Asn}
theorem jobs_run (B : By h0 vc) (C : Cur h0 h r vc n L) (hn : n ≤ 2 ^ 19) : RunsC P G n_spec_l1Cur_jobs [.pointer (some ⟨r, 0, some 3⟩)] h fun v h' => ∃ js : List Job, js.length ≤ 9 ∧ Cur h0 h' r vc (n + 202) (L ++ [.own v 4 (js.map encJ)]) := by
  refine hideC fun K hK => enter_run e_spec_l1Cur_jobs (by simp) ?_
  simp -implicitDefEqProofs
  refine CL_post (one_run B C (by omega) (k := 2) (by omega)) fun v h1 ⟨b, ev, C1⟩ => ?_
  subst ev
  simp -implicitDefEqProofs
  refine CL_post (someJobs_run B C1 (by omega) (b := b) (most := 6) (by omega)) fun v h2 ⟨js, hl, C2⟩ => ?_
  obtain ⟨ua, uc, rfl⟩ : ∃ a c, v = .slice a js.length c := C2.seesJ.shapeT
  simp -implicitDefEqProofs
  exact onK hK ⟨js, hl, C.gcO (C2.mono (by omega)) (fun h => h)⟩
theorem Cur.seesI {u : Value} {xs : List Int} (C : Cur h0 h r vc n (L ++ [.own u 1 (xs.map encI)])) : Ints h u xs := by
  obtain ⟨a, s, h1, h2, H⟩ := C
  exact H.sees (L.length + 1) (by rw [List.getElem?_cons_succ]; exact snoc_get)
theorem Cur.join {h1 : Hp} {A : Asn} (C : Cur h0 h r vc n L) (D : Holds h h1 [A]) : Cur h0 h1 r vc n (L ++ [A]) := by
  obtain ⟨a, s, g1, g2, H⟩ := C
  exact ⟨a, s, g1, g2, H.join D⟩
theorem Cur.swapW {A B : Asn} (C : Cur h0 h r vc n ((L ++ [A]) ++ [B])) : Cur h0 h r vc n (L ++ [B]) := by
  obtain ⟨a, s, g1, g2, H⟩ := C
  refine ⟨a, s, g1, g2, ?_⟩
  have : Holds h0 h (((cu r vc a s :: L) ++ [A]) ++ [B]) := H
  exact this.cut
theorem order_run (B : By h0 vc) (C : Cur h0 h r vc n L) (hn : n ≤ 2 ^ 19) {N : Nat} (hN : N ≤ 2 ^ 10) : RunsC P G n_spec_l1Cur_order [.pointer (some ⟨r, 0, some 3⟩), .int .i64 N] h fun v h' => ∃ xs : List Int, xs.length ≤ N + 1 ∧ Cur h0 h' r vc (n + 2 * N + 4) (L ++ [.own v 1 (xs.map encI)]) := by
  refine hideC fun K hK => enter_run e_spec_l1Cur_order (by simp) ?_
  simp -implicitDefEqProofs
  refine R_loopO (fun m st h' => ∃ (i : Nat) (xs : List Int) (u : Value), i + m = N ∧ st = [(0, .pointer (some ⟨r, 0, some 3⟩)), (1, .int .i64 N), (5, u), (6, .int .i64 i)] ∧ xs.length = i ∧ Cur h0 h' r vc (n + 2 * i) (L ++ [.own u 1 (xs.map encI)])) (fun I hI m st h' => ?_) (n := N) ⟨0, [], .slice none 0 0, by omega, by simp, rfl, C.nil Int encI 1⟩
  rintro ⟨i, xs, u, hi, rfl, hl, C1⟩
  obtain ⟨ua, uc, rfl⟩ : ∃ a c, u = .slice a xs.length c := C1.seesI.shapeT
  by_cases hlt : i < N
  · have hlt' : (i : Int) < N := by omega
    have w1 : IntKind.i64.wrap ((xs.length : Int) + 1) = (xs.length : Int) + 1 := by rw [wrap_ok] <;> omega
    have wi : IntKind.i64.wrap ((i : Int) + 1) = (i : Int) + 1 := by rw [wrap_ok] <;> omega
    simp -implicitDefEqProofs [hlt, hlt', w1]
    refine CL_post (pick_run B C1 (by omega) (k := (xs.length : Int) + 1) (by omega)) fun v h2 ⟨q, ev, q0, _, q1, C2⟩ => ?_
    subst ev
    have q2 := q1 (by omega)
    obtain ⟨k, rfl⟩ : ∃ k : Nat, q = k := ⟨q.toNat, by omega⟩
    have S2 := C2.seesI
    obtain ⟨v3, s3, f3⟩ := S2.front (P := P) u_S_int i_int (k := .i64) (j := (k : Int)) (by omega) (by simp; omega)
    rw [Int.toNat_natCast, ← List.map_take] at f3
    have H0 := own_nil (Holds.start (h := h2)) Int encI 1
    obtain ⟨v4, h4, ha4, H4', _⟩ := app_I H0 0 rfl f3 (by simp; omega)
    have H4 : Holds h2 h4 [.own v4 1 ((xs.take k).map encI)] := H4'
    have n4 : NR h2.length h4 := append_nr nr_self ha4
    have no4 := newOk_of H4.pre n4
    obtain ⟨v5, h5, ha5, H5', k5, _⟩ := push_I0 H4 0 rfl (i : Int) (by simp; omega)
    have H5 : Holds h2 h5 [.own v5 1 ((xs.take k ++ [(i : Int)]).map encI)] := H5'
    have n5 : NR h2.length (h4 ++ [some ⟨[.int .i64 (i : Int)], 1, false⟩]) := n4.new [.int .i64 (i : Int)] 1
    have md := app_mod (b := h2.length) rfl n5 ha5 (H4.pre.trans (List.prefix_append ..)) H5.pre
    obtain ⟨v6, s6, f6, _⟩ := (S2.pre H5.pre).back (P := P) u_S_int i_int (k := .i64) (j := (k : Int)) (by omega) (by simp; omega)
    rw [Int.toNat_natCast, ← List.map_drop] at f6
    obtain ⟨v7, h7, ha7, H7', _⟩ := app_I H5 0 rfl f6 (by simp; omega)
    have H7 : Holds h2 h7 [.own v7 1 ((xs.take k ++ [(i : Int)] ++ xs.drop k).map encI)] := H7'
    have C7 := (C2.join H7).swapW
    obtain ⟨a3, b3, c3, rfl⟩ : ∃ a n c, v3 = .slice a n c := by obtain ⟨a, c, e⟩ := f3.shape; exact ⟨_, _, _, e⟩
    obtain ⟨a4, b4, c4, rfl⟩ : ∃ a n c, v4 = .slice a n c := by obtain ⟨a, c, e⟩ := (H4.sees 0 rfl).shape; exact ⟨_, _, _, e⟩
    obtain ⟨a5, b5, c5, rfl⟩ : ∃ a n c, v5 = .slice a n c := by obtain ⟨a, c, e⟩ := (H5.sees 0 rfl).shape; exact ⟨_, _, _, e⟩
    obtain ⟨a6, b6, c6, rfl⟩ : ∃ a n c, v6 = .slice a n c := by obtain ⟨a, c, e⟩ := f6.shape; exact ⟨_, _, _, e⟩
    simp -implicitDefEqProofs [s3, ha4, no4, ha5, md, s6, ha7, wi]
    exact ⟨m - 1, by omega, on hI ⟨i + 1, _, v7, by omega, rfl, by simp; omega, C7.mono (by omega)⟩⟩
  · have hlt' : ¬ (i : Int) < N := by omega
    simp -implicitDefEqProofs [hlt, hlt']
    refine CL_post (one_run B C1 (by omega) (k := 30) (by omega)) fun v h2 ⟨b, ev, C2⟩ => ?_
    subst ev
    cases b
    · simp -implicitDefEqProofs
      exact onK hK ⟨xs, by omega, C.gcO (C2.mono (by omega)) (fun h => h)⟩
    · have C3 := C2.lit [0, (N : Int), -1]
      simp -implicitDefEqProofs
      refine CL_post (among_run B C3 (by omega) snoc_get (xs := [0, (N : Int), -1]) (by simp) (by simp)) fun v h3 ⟨x, ev, _, C4⟩ => ?_
      subst ev
      obtain ⟨a, s, g1, g2, H⟩ := C4.weak
      obtain ⟨u', h5, g3, g4, _⟩ := push_I0 H (L.length + 1) (by rw [List.getElem?_cons_succ]; exact snoc_get) x (by omega)
      rw [List.set_cons_succ, List.set_append_right (h := Nat.le_refl _), Nat.sub_self] at g4
      have C5 : Cur h0 h5 r vc (n + 2 * N + 4) (L ++ [.own u' 1 ((xs ++ [x]).map encI)]) := ⟨a, s, g1, by omega, g4⟩
      obtain ⟨ub, ud, rfl⟩ : ∃ a c, u' = .slice a (xs.length + 1) c := by
        obtain ⟨a, c, e⟩ := C5.seesI.shapeT
        exact ⟨a, c, by rw [e]; simp⟩
      simp -implicitDefEqProofs [g3]
      exact onK hK ⟨xs ++ [x], by simp; omega, C.gcO C5 (fun h => h)⟩
end
end Go.Pm.PP

/- Values, best orders and exchanges, as the programs export them. -/
set_option linter.unusedVariables false
set_option linter.unusedSimpArgs false
set_option maxRecDepth 4000
set_option maxHeartbeats 8000000
namespace Go.Pm.PP
open Go.Pm Go.Proofs Go.Pm.PE
/-! ### bounds -/
theorem val_bd {o : Int} : ∀ {js : List Job} {es : List Int} {f : Bool} {a B : Int}, goodL js = true → (∀ e, e ∈ es → 0 ≤ e ∧ e ≤ 2 ^ 20) → -B ≤ a → a ≤ B → 0 ≤ B → -(B + js.length * 2 ^ 27) ≤ valGo o f a js es ∧ valGo o f a js es ≤ B + js.length * 2 ^ 27
  | [], es, f, a, B, _, _, h1, h2, _ => by simp [valGo]; omega
  | j :: js, [], f, a, B, _, _, h1, h2, hB => by simp only [valGo, List.length_cons]; omega
  | j :: js, e :: es, f, a, B, hg, he, h1, h2, hB => by
    rw [goodL_cons, Bool.and_eq_true] at hg
    have e1 := he e (List.mem_cons_self ..)
    have s := step_bd (o := o) (f := f) hg.1 e1.1 e1.2 ⟨h1, h2⟩ hB
    have := @val_bd o js es false (stepV o f a j e) (B + 2 ^ 27) hg.2 (fun x hx => he x (List.mem_cons_of_mem _ hx)) s.1 s.2 (by omega)
    rw [valGo, List.length_cons]
    omega
theorem endGo_bd {js : List Job} (hg : goodL js = true) : ∀ {xs : List Int} {now : Int} {E : List Int} {k : Nat}, inN js.length xs → 0 ≤ now → now ≤ 550 * k → (∀ e, e ∈ E → 0 ≤ e ∧ e ≤ 550 * (k + xs.length : Nat)) → ∀ e, e ∈ endGo js xs now E → 0 ≤ e ∧ e ≤ 550 * (k + xs.length : Nat)
  | [], now, E, k, _, _, _, hE, e, he => hE e he
  | x :: r, now, E, k, hin, h0, h1, hE, e, he => by
    obtain ⟨i, hi, hil, hy⟩ := jA_get rfl (hin x (List.mem_cons_self ..))
    have jb := job_of (job_at hg hy)
    rw [endGo] at he
    have := endGo_bd hg (xs := r) (now := max now (jA js x).r + (jA js x).t) (k := k + 1) (fun y hy => hin y (List.mem_cons_of_mem _ hy)) (by omega) (by omega) (fun e he => by
      rcases List.mem_or_eq_of_mem_set he with g | g
      · have := hE e g
        simp only [List.length_cons] at this
        omega
      · omega) e he
    simp only [List.length_cons]
    omega
theorem valX_bd {o : Int} {js : List Job} {xs : List Int} (hg : goodL js = true) (hn : js.length ≤ 8) (hx : Ord js.length xs) : -(2 ^ 30) ≤ valX o js xs ∧ valX o js xs ≤ 2 ^ 30 := by
  have := @val_bd o js (endsL js xs) true 0 0 hg (fun e he => by
    have := endGo_bd hg (k := 0) hx.inn (Int.le_refl 0) (by omega) (fun e he => by rw [List.eq_of_mem_replicate he]; omega) e he
    have := hx.len
    omega) (by omega) (by omega) (by omega)
  unfold valX valE
  omega
theorem valX_bd8 {o : Int} {js : List Job} {xs : List Int} (hg : goodL js = true) (hn : js.length ≤ 8) (hx : Ord js.length xs) : -(2 ^ 30) ≤ valX o js xs ∧ valX o js xs ≤ 2 ^ 30 := valX_bd hg hn hx
def jOk (js : List Job) : Bool := decide (js.length ≤ 8) && goodL js
def okV (js : List Job) (xs : List Int) (o : Int) : Bool := (jOk js && l2OrderL js.length xs) && inB o 1 8
def okB (js : List Job) (o : Int) : Bool := jOk js && inB o 1 8
theorem jOk_of {js : List Job} (h : jOk js = true) : js.length ≤ 8 ∧ goodL js = true := by
  rw [jOk, Bool.and_eq_true, decide_eq_true_eq] at h; exact h
theorem inB_of {o : Int} (h : inB o 1 8 = true) : 1 ≤ o ∧ o ≤ 8 := by simpa [inB] using h
theorem ord_of {n : Nat} {xs : List Int} (hf : l2OrderL n xs = true) : Ord n xs := by
  rw [l2OrderL, Bool.and_eq_true, Bool.and_eq_true] at hf
  obtain ⟨⟨h1, h2⟩, h3⟩ := hf
  have hl : n ≤ 8 := by simp only [inB, Bool.and_eq_true, decide_eq_true_eq] at h1; omega
  have := order_eq (n := n) (xs := xs) hl
  rw [h2, h3, Bool.true_and, Bool.true_and] at this
  have wn : w64 ((n : Int) - 1) = (n : Int) - 1 := by unfold w64; rw [wrap_ok] <;> omega
  obtain ⟨g1, g2, _⟩ := (arGo_iff wn).1 this
  exact ⟨by have := beq_iff_eq.1 h2; omega, g1, g2⟩
theorem ord_ok {n : Nat} {xs : List Int} (hn : n ≤ 8) (o : Ord n xs) : l2OrderL n xs = true := by
  have := order_eq (n := n) (xs := xs) hn
  have wn : w64 ((n : Int) - 1) = (n : Int) - 1 := by unfold w64; rw [wrap_ok] <;> omega
  have h1 : arGo n [] xs = true := (arGo_iff wn).2 ⟨o.inn, o.nd, by simp⟩
  have h2 : ((xs.length : Int) == n) = true := by rw [beq_iff_eq, o.len]
  rw [h1, h2, Bool.true_and, Bool.true_and] at this
  rw [l2OrderL, h2, ← this]
  simp [inB]; omega
theorem okV_of {js : List Job} {xs : List Int} {o : Int} (h : okV js xs o = true) : js.length ≤ 8 ∧ goodL js = true ∧ Ord js.length xs ∧ (1 ≤ o ∧ o ≤ 8) := by
  rw [okV, Bool.and_eq_true, Bool.and_eq_true] at h
  obtain ⟨⟨h1, h2⟩, h3⟩ := h
  exact ⟨(jOk_of h1).1, (jOk_of h1).2, ord_of h2, inB_of h3⟩
theorem okB_of {js : List Job} {o : Int} (h : okB js o = true) : js.length ≤ 8 ∧ goodL js = true ∧ (1 ≤ o ∧ o ≤ 8) := by
  rw [okB, Bool.and_eq_true] at h
  exact ⟨(jOk_of h.1).1, (jOk_of h.1).2, inB_of h.2⟩
theorem okV_B {js : List Job} {xs : List Int} {o : Int} (h : okV js xs o = true) : okB js o = true := by
  rw [okV, Bool.and_eq_true, Bool.and_eq_true] at h
  rw [okB, h.1.1, h.2]; rfl
theorem okV_ord {js : List Job} {xs ys : List Int} {o : Int} (h : okV js xs o = true) (hy : Ord js.length ys) : okV js ys o = true := by
  have hn := (okV_of h).1
  rw [okV, Bool.and_eq_true, Bool.and_eq_true] at h
  rw [okV, h.1.1, ord_ok hn hy, h.2]; rfl
theorem l2Objective_run {h : Hp} {x : Int} : Ret P G n_spec_l2Objective [.int .i64 x] h (.bool (inB x 1 8)) h := by
  refine enter_run e_spec_l2Objective (by simp) ?_
  simp -implicitDefEqProofs [CL_ret l1In_run]
theorem isObjective_run {h : Hp} {x : Int} : Ret P G n_impl_isObjective [.int .i64 x] h (.bool (inB x 1 8)) h := by
  refine enter_run e_impl_isObjective (by simp) ?_
  simp -implicitDefEqProofs [CL_ret within_run]
section
variable {h : Hp} {v u : Value} {js : List Job} {xs : List Int} {o : Int}
theorem good_run (hj : Jobs h v js) (hl : js.length ≤ 2 ^ 40) : Ret P G n_spec_l2Good [v] h (.bool (jOk js)) h := l2Good_run hj hl
theorem isJobs_run (hj : Jobs h v js) (hl : js.length ≤ 2 ^ 40) : Ret P G n_impl_IsJobs [v] h (.bool (jOk js)) h := IsJobs_run hj hl
theorem l2Two_run (hj : Jobs h v js) (hu : Ints h u xs) (hl : js.length ≤ 2 ^ 40) (hx : xs.length ≤ 2 ^ 40) : Ret P G n_spec_l2Two [v, u] h (.bool (jOk js && l2OrderL js.length xs)) h := by
  refine enter_run e_spec_l2Two (by simp) ?_
  have r1 := good_run hj hl
  have r2 := l2Order_run (n := js.length) hu hx
  obtain ⟨oj, cj, rfl⟩ := hj.shapeT
  cases c1 : jOk js
  · simp -implicitDefEqProofs [CL_ret r1, c1]
  · simp -implicitDefEqProofs [CL_ret r1, c1, CL_ret r2]
theorem isScheduled_run (hj : Jobs h v js) (hu : Ints h u xs) (hl : js.length ≤ 2 ^ 40) (hx : xs.length ≤ 2 ^ 40) : Ret P G n_impl_isScheduled [v, u] h (.bool (jOk js && l2OrderL js.length xs)) h := by
  refine enter_run e_impl_isScheduled (by simp) ?_
  have r1 := isJobs_run hj hl
  have r2 := isOrder_run (n := js.length) hu hx
  obtain ⟨oj, cj, rfl⟩ := hj.shapeT
  cases c1 : jOk js
  · simp -implicitDefEqProofs [CL_ret r1, c1]
  · have hn := (jOk_of c1).1
    have e : (((xs.length : Int) == (js.length : Nat)) && arGo js.length [] xs) = l2OrderL js.length xs := by
      rw [order_eq hn, l2OrderL, show inB js.length 0 8 = true by simp [inB]; omega, Bool.true_and]
    rw [e] at r2
    simp -implicitDefEqProofs [CL_ret r1, c1, CL_ret r2]
theorem isValued_run (hj : Jobs h v js) (hu : Ints h u xs) (hl : js.length ≤ 2 ^ 40) (hx : xs.length ≤ 2 ^ 40) : Ret P G n_impl_isValued [v, u, .int .i64 o] h (.bool (okV js xs o)) h := by
  refine enter_run e_impl_isValued (by simp) ?_
  have r1 := isScheduled_run hj hu hl hx
  obtain ⟨oj, cj, rfl⟩ := hj.shapeT
  obtain ⟨oa, ca, rfl⟩ := hu.shapeT
  cases c1 : (jOk js && l2OrderL js.length xs)
  · rw [c1] at r1
    simp -implicitDefEqProofs [CL_ret r1, okV, c1]
  · rw [c1] at r1
    simp -implicitDefEqProofs [CL_ret r1, okV, c1, CL_ret isObjective_run]
def vOf (js : List Job) (xs : List Int) (o : Int) : Int := if okV js xs o = true then valX o js xs else 0
theorem implValueOf_run (hj : Jobs h v js) (hu : Ints h u xs) (hl : js.length ≤ 2 ^ 40) (hx : xs.length ≤ 2 ^ 40) : Ret P G n_impl_ValueOf [v, u, .int .i64 o] h (.tuple #[.int .i64 (vOf js xs o), .bool (okV js xs o)]) h := by
  refine enter_run e_impl_ValueOf (by simp) ?_
  have r1 := isValued_run (o := o) hj hu hl hx
  have hjs := hj
  have hus := hu
  obtain ⟨oj, cj, rfl⟩ := hj.shapeT
  obtain ⟨oa, ca, rfl⟩ := hu.shapeT
  cases c1 : okV js xs o
  · simp -implicitDefEqProofs [CL_ret r1, c1, vOf]
  · obtain ⟨hn, hg, ox, ho⟩ := okV_of c1
    have rv := valueOf_run (o := o) hjs hus hg hn ho ox
    simp -implicitDefEqProofs [CL_ret r1, c1, CL_ret rv, vOf]
def bR (js : List Job) (o : Int) : Sr := if okB js o = true then bestR (valX o js) js.length else sr0
theorem bR_v {js : List Job} {o : Int} (h : okB js o = true) : (bR js o).v = bestV o js := by rw [bR, if_pos h]; rfl
end
end Go.Pm.PP

/- Best values, counts, and exchanges of neighbours, as the programs export them. -/
set_option linter.unusedVariables false
set_option linter.unusedSimpArgs false
set_option maxRecDepth 4000
set_option maxHeartbeats 8000000
namespace Go.Pm.PP
open Go.Pm Go.Proofs Go.Pm.PE
section
variable {h : Hp} {v u : Value} {js : List Job} {xs ys : List Int} {o : Int}
theorem implBestValue_run (hj : Jobs h v js) (hl : js.length ≤ 2 ^ 40) : Ret P G n_impl_BestValue [v, .int .i64 o] h (.tuple #[.int .i64 (bR js o).v, .bool (okB js o)]) h := by
  refine enter_run e_impl_BestValue (by simp) ?_
  have r1 := isJobs_run hj hl
  have hjs := hj
  obtain ⟨oj, cj, rfl⟩ := hj.shapeT
  cases c1 : jOk js
  · simp -implicitDefEqProofs [CL_ret r1, CH_at r1, c1, bR, okB, sr0]
  · cases c2 : inB o 1 8
    · simp -implicitDefEqProofs [CL_ret r1, CH_at r1, c1, CL_ret isObjective_run, CH_at isObjective_run, c2, bR, okB, sr0]
    · have c3 : okB js o = true := by rw [okB, c1, c2]; rfl
      obtain ⟨hn, hg, ho⟩ := okB_of c3
      simp -implicitDefEqProofs [CL_ret r1, CH_at r1, c1, CL_ret isObjective_run, CH_at isObjective_run, c2]
      refine CL_post (best_run hjs hg hn ho) fun w h1 ⟨hp1, vf, ev, s1⟩ => ?_
      subst ev
      simp -implicitDefEqProofs
      exact ⟨⟨(bR_v c3).symm, c3⟩, gcP hp1 rfl⟩
theorem specBestValue_run (hj : Jobs h v js) (hl : js.length ≤ 2 ^ 40) : Ret P G n_spec_BestValue [v, .int .i64 o] h (.tuple #[.int .i64 (bR js o).v, .bool (okB js o)]) h := by
  refine enter_run e_spec_BestValue (by simp) ?_
  have r1 := good_run hj hl
  have hjs := hj
  obtain ⟨oj, cj, rfl⟩ := hj.shapeT
  cases c1 : jOk js
  · simp -implicitDefEqProofs [CL_ret r1, CH_at r1, c1, bR, okB, sr0]
  · cases c2 : inB o 1 8
    · simp -implicitDefEqProofs [CL_ret r1, CH_at r1, c1, CL_ret l2Objective_run, CH_at l2Objective_run, c2, bR, okB, sr0]
    · have c3 : okB js o = true := by rw [okB, c1, c2]; rfl
      obtain ⟨hn, hg, ho⟩ := okB_of c3
      simp -implicitDefEqProofs [CL_ret r1, CH_at r1, c1, CL_ret l2Objective_run, CH_at l2Objective_run, c2]
      refine CL_post (l2Best_run hjs hg hn ho) fun w h1 ⟨hp1, vf, ev, s1⟩ => ?_
      subst ev
      simp -implicitDefEqProofs
      exact ⟨⟨(bR_v c3).symm, c3⟩, gcP hp1 rfl⟩
theorem bR_c {js : List Job} {o : Int} (h : okB js o = true) : (bR js o).c = (bestR (valX o js) js.length).c := by rw [bR, if_pos h]
theorem IsBestOrder_run (hj : Jobs h v js) (hu : Ints h u xs) (hl : js.length ≤ 2 ^ 40) (hx : xs.length ≤ 2 ^ 40) (hok : okV js xs o = true) : Ret P G n_impl_IsBestOrder [v, u, .int .i64 o] h (.tuple #[.bool (valX o js xs == bestV o js), .bool true]) h := by
  refine enter_run e_impl_IsBestOrder (by simp) ?_
  have r1 := isValued_run (o := o) hj hu hl hx
  have hjs := hj
  have hus := hu
  obtain ⟨oj, cj, rfl⟩ := hj.shapeT
  obtain ⟨oa, ca, rfl⟩ := hu.shapeT
  obtain ⟨hn, hg, ox, ho⟩ := okV_of hok
  simp -implicitDefEqProofs [CL_ret r1, hok]
  refine CL_post (best_run hjs hg hn ho) fun w h1 ⟨hp1, vf, ev, s1⟩ => ?_
  subst ev
  have rv := valueOf_run (o := o) (hjs.pre hp1) (hus.pre hp1) hg hn ho ox
  simp -implicitDefEqProofs [CL_ret rv, CH_at rv]
  exact gcP hp1 rfl
theorem rBest_run (hj : Jobs h v js) (hl : js.length ≤ 2 ^ 40) : Ret P G n_laws_rBest [v, .int .i64 o] h (.tuple #[.int .i64 (bR js o).v, .bool true]) h := by
  refine enter_run e_laws_rBest (by simp) ?_
  have r1 := implBestValue_run (o := o) hj hl
  have r2 := specBestValue_run (o := o) hj hl
  obtain ⟨oj, cj, rfl⟩ := hj.shapeT
  simp -implicitDefEqProofs [CL_ret r1, CL_ret r2]
theorem rBig_run {bs : List Int} (hb : Sees h v 1 (bs.map encU)) : Ret P G n_laws_rBig [v] h (.bool (decide ((65536 : Int) < bs.length))) h := by
  refine enter_run e_laws_rBig (by simp) ?_
  obtain ⟨oa, ca, rfl⟩ := hb.shapeT
  simp -implicitDefEqProofs
  try omega
theorem rInts_run (hv : Ints h v xs) (hu : Ints h u xs) (hx : xs.length ≤ 2 ^ 40) : Ret P G n_laws_rInts [v, u] h (.bool true) h := by
  refine enter_run e_laws_rInts (by simp) ?_
  have hvs := hv
  have hus := hu
  obtain ⟨oa, ca, rfl⟩ := hv.shapeT
  obtain ⟨ob, cb, rfl⟩ := hu.shapeT
  simp -implicitDefEqProofs
  refine R_loopO (fun m s h' => ∃ i : Nat, i + m = xs.length ∧ s = [(0, .slice oa xs.length ca), (1, .slice ob xs.length cb), (5, .int .i64 i)] ∧ h' = h) (fun I hI m s h' => ?_) (n := xs.length) ⟨0, Nat.zero_add _, by simp, rfl⟩
  rintro ⟨i, hi, rfl, rfl⟩
  by_cases hlt : i < xs.length
  · obtain ⟨y, hy, _⟩ := drop_at hlt
    simp -implicitDefEqProofs [-indexAddrP_some, hlt, load_I hvs hy, load_I hus hy, winc hlt hx]
    exact ⟨m - 1, by omega, on hI ⟨i + 1, by omega, rfl, rfl⟩⟩
  · simp -implicitDefEqProofs [hlt]
/-! ### exchanges -/
theorem l2Swap_run {i : Nat} (hu : Ints h u xs) (hx : xs.length ≤ 2 ^ 30) (hi : i + 1 < xs.length) : RunsC P G n_spec_l2Swap [u, .int .i64 i] h fun w h' => h <+: h' ∧ Own h.length h' w 1 ((swp xs i).map encI) := by
  refine hideC fun K hK => enter_run e_spec_l2Swap (by simp) ?_
  have hus := hu
  obtain ⟨oa, ca, rfl⟩ := hu.shapeT
  have wi : IntKind.i64.wrap ((i : Int) + 1) = ((i + 1 : Nat) : Int) := by rw [wrap_ok] <;> omega
  simp -implicitDefEqProofs
  refine CL_post (l1Own_run hus (by omega)) fun v1 h1 ⟨hp1, ho1⟩ => ?_
  have H1 := (Holds.start (h := h)).call hp1 ho1
  obtain ⟨ob, cb, rfl⟩ := ho1.sees.shapeT
  have l1 := load_I (hus.pre H1.pre) (gE_get (l := xs) (i := i + 1) hi)
  have ix1 := (load_I (H1.sees 0 rfl) (gE_get (l := xs) (i := i) (by omega))).1
  obtain ⟨h2, s2, H2, _⟩ := put_I H1 0 rfl (j := i) (by omega) (gE xs (i + 1))
  have l2 := load_I (hus.pre H2.pre) (gE_get (l := xs) (i := i) (by omega))
  have ix2 := (load_I (H2.sees 0 rfl) (gE_get (l := xs.set i (gE xs (i + 1))) (i := i + 1) (by simpa using hi))).1
  obtain ⟨h3, s3, H3, _⟩ := put_I H2 0 rfl (j := i + 1) (by simpa using hi) (gE xs i)
  have wi' : IntKind.i64.wrap ((i : Int) + 1) = (i : Int) + 1 := by rw [wrap_ok] <;> omega
  rw [show (((i + 1 : Nat) : Int)) = (i : Int) + 1 by omega] at l1 ix2
  simp -implicitDefEqProofs [-indexAddrP_some, wi', l1, ix1, s2, l2, ix2, s3]
  exact onK hK (H3.ret 0 rfl)
end
end Go.Pm.PP

/- Plain jobs, sets of digits, due orders, by both. -/
set_option linter.unusedVariables false
set_option linter.unusedSimpArgs false
set_option maxRecDepth 4000
set_option maxHeartbeats 8000000
namespace Go.Pm.PP
open Go.Pm Go.Proofs Go.Pm.PE
/-! ### no releases -/
def freeL (js : List Job) : Bool := js.all fun j => !decide (0 < j.r)
def plainL (js : List Job) : Bool := js.all fun j => j.r == 0
def plOk (js : List Job) : Bool := jOk js && plainL js
theorem free_plain {js : List Job} (hg : goodL js = true) : freeL js = plainL js := by
  induction js with
  | nil => rfl
  | cons j js ih =>
    rw [goodL_cons, Bool.and_eq_true] at hg
    have := job_of hg.1
    have e : (!decide (0 < j.r)) = (j.r == 0) := by
      rw [Bool.eq_iff_iff]
      simp
      omega
    unfold freeL plainL at ih ⊢
    rw [List.all_cons, List.all_cons, ih hg.2, e]
theorem plOk_of {js : List Job} (h : plOk js = true) : js.length ≤ 8 ∧ goodL js = true ∧ plainL js = true := by
  rw [plOk, Bool.and_eq_true] at h
  exact ⟨(jOk_of h.1).1, (jOk_of h.1).2, h.2⟩
theorem jA_in {js : List Job} {x : Int} : jA js x ∈ js ∨ jA js x = ⟨0, 0, 0, 0⟩ := by
  unfold jA
  cases h : js[x.toNat]? with
  | none => right; rfl
  | some j => left; exact List.mem_of_getElem? h
theorem plOk_pl {js : List Job} (h : plOk js = true) : Pl js := by
  obtain ⟨_, hg, hp⟩ := plOk_of h
  constructor
  · intro x
    rcases @jA_in js x with g | g
    · simpa using List.all_eq_true.1 hp _ g
    · rw [g]
  · intro x
    rcases @jA_in js x with g | g
    · have := job_of (List.all_eq_true.1 hg _ g); omega
    · rw [g]; exact Int.le_refl _
theorem good_tm {js : List Job} (hg : goodL js = true) : Tm js := fun x h1 h2 => by
  obtain ⟨i, hi, hil, hy⟩ := jA_get (js := js) (x := x) rfl ⟨h1, h2⟩
  exact (job_of (job_at hg hy)).1.1
theorem load_JX {h : Hp} {v : Value} {js : List Job} {x : Int} (hv : Jobs h v js) (hx : 0 ≤ x ∧ x < js.length) :
    indexAddrP P h t_S_impl_Job v (.int .i64 x) = some (.pointer (some (addP (base v) (x.toNat * 4)))) ∧ loadP P h t_impl_Job (.pointer (some (addP (base v) (x.toNat * 4)))) = some (jv (jA js x)) ∧
    loadP P h t_int (.pointer (some (addP (addP (base v) (x.toNat * 4)) 0))) = some (.int .i64 (jA js x).t) ∧
    loadP P h t_int (.pointer (some (addP (addP (base v) (x.toNat * 4)) 1))) = some (.int .i64 (jA js x).w) ∧
    loadP P h t_int (.pointer (some (addP (addP (base v) (x.toNat * 4)) 2))) = some (.int .i64 (jA js x).r) ∧
    loadP P h t_int (.pointer (some (addP (addP (base v) (x.toNat * 4)) 3))) = some (.int .i64 (jA js x).d) := by
  obtain ⟨k, hk, hkl, hy⟩ := jA_get (js := js) rfl hx
  have := load_J hv hy
  rw [← hk] at this
  rw [show x.toNat = k by omega]
  exact this
section
variable {h : Hp} {v : Value} {js : List Job}
theorem l4Free_run (hj : Jobs h v js) (hn : js.length ≤ 2 ^ 40) : Ret P G n_spec_l4Free [v] h (.bool (freeL js)) h := by
  refine enter_run e_spec_l4Free (by simp) ?_
  have hjs := hj
  obtain ⟨oa, c, rfl⟩ := hj.shapeT
  simp -implicitDefEqProofs
  refine R_loopO (fun m s h' => ∃ i : Nat, i + m = js.length ∧ s = [(0, .slice oa js.length c), (3, .int .i64 i)] ∧ h' = h ∧ freeL js = freeL (js.drop i)) (fun I hI m s h' => ?_) ⟨0, Nat.zero_add _, by simp⟩
  rintro ⟨i, hi, rfl, rfl, hx⟩
  by_cases hlt : i < js.length
  · obtain ⟨y, hy, hd⟩ := drop_at hlt
    have e : freeL (y :: js.drop (i + 1)) = (!decide (0 < y.r) && freeL (js.drop (i + 1))) := rfl
    rw [hd, e] at hx
    have lr := load_J hjs hy
    by_cases c1 : 0 < y.r
    · simp only [c1, decide_true, Bool.not_true, Bool.false_and] at hx
      simp -implicitDefEqProofs [-indexAddrP_some, hlt, lr, c1, hx]
    · simp only [c1, decide_false, Bool.not_false, Bool.true_and] at hx
      simp -implicitDefEqProofs [-indexAddrP_some, hlt, lr, c1, winc hlt hn]
      exact ⟨m - 1, by omega, on hI ⟨i + 1, by omega, rfl, rfl, hx⟩⟩
  · rw [List.drop_eq_nil_of_le (by omega)] at hx
    have hx : freeL js = true := hx
    simp -implicitDefEqProofs [hlt, hx]
theorem isPlain_run (hj : Jobs h v js) (hn : js.length ≤ 2 ^ 40) : Ret P G n_impl_isPlain [v] h (.bool (plainL js)) h := by
  refine enter_run e_impl_isPlain (by simp) ?_
  have hjs := hj
  obtain ⟨oa, c, rfl⟩ := hj.shapeT
  simp -implicitDefEqProofs
  refine R_loopO (fun m s h' => ∃ i : Nat, i + m = js.length ∧ s = [(5, .slice oa js.length c), (6, .int .i64 js.length), (7, .int .i64 i)] ∧ h <+: h' ∧ plainL js = plainL (js.drop i)) (fun I hI m s h' => ?_) ⟨0, Nat.zero_add _, by simp⟩
  rintro ⟨i, hi, rfl, hp, hx⟩
  by_cases hlt : i < js.length
  · obtain ⟨y, hy, hd⟩ := drop_at hlt
    have e : plainL (y :: js.drop (i + 1)) = ((y.r == 0) && plainL (js.drop (i + 1))) := rfl
    rw [hd, e] at hx
    have lr := load_J (hjs.pre hp) hy
    by_cases c1 : y.r = 0
    · rw [show (y.r == 0) = true by simpa using c1, Bool.true_and] at hx
      simp -implicitDefEqProofs [-indexAddrP_some, hlt, lr, c1, winc hlt hn]
      exact ⟨m - 1, by omega, on hI ⟨i + 1, by omega, rfl, hp.trans (List.prefix_append ..), hx⟩⟩
    · rw [nb c1, Bool.false_and] at hx
      simp -implicitDefEqProofs [-indexAddrP_some, hlt, lr, nt c1, hx]
      exact gcP (hp.trans (List.prefix_append ..)) rfl
  · rw [List.drop_eq_nil_of_le (by omega)] at hx
    have hx : plainL js = true := hx
    simp -implicitDefEqProofs [hlt, hx]
    exact gcP hp rfl
theorem IsPlain_run (hj : Jobs h v js) (hn : js.length ≤ 2 ^ 40) : Ret P G n_impl_IsPlain [v] h (.bool (plOk js)) h := by
  refine enter_run e_impl_IsPlain (by simp) ?_
  have r1 := isJobs_run hj hn
  have r2 := isPlain_run hj hn
  obtain ⟨oa, c, rfl⟩ := hj.shapeT
  cases c1 : jOk js
  · simp -implicitDefEqProofs [CL_ret r1, c1, plOk]
  · simp -implicitDefEqProofs [CL_ret r1, c1, plOk, CL_ret r2]
theorem l6Good_run (hj : Jobs h v js) (hn : js.length ≤ 2 ^ 40) : Ret P G n_spec_l6Good [v] h (.bool (plOk js)) h := by
  refine enter_run e_spec_l6Good (by simp) ?_
  have r1 := good_run hj hn
  have r2 := l4Free_run hj hn
  obtain ⟨oa, c, rfl⟩ := hj.shapeT
  cases c1 : jOk js
  · simp -implicitDefEqProofs [CL_ret r1, c1, plOk]
  · rw [free_plain (jOk_of c1).2] at r2
    simp -implicitDefEqProofs [CL_ret r1, c1, plOk, CL_ret r2]
end
/-! ### comparisons -/
section
variable {h : Hp} {vj : Value} {js : List Job} {r : Nat} {a b : Int}
theorem onTime_1_run (J : Jobs h vj js) (hb : h[r]? = some (some ⟨[vj], 0, false⟩)) (ha : 0 ≤ a ∧ a < js.length) (hb' : 0 ≤ b ∧ b < js.length) :
    Ret P G n_impl_onTime_1 [.int .i64 a, .int .i64 b, .pointer (some ⟨r, 0, some 1⟩)] h (.bool (dAh js a b)) h := by
  refine enter_run e_impl_onTime_1 (by simp) ?_
  have Js := J
  obtain ⟨oj, cj, rfl⟩ := J.shapeT
  have lb := load_pre (n := 1) List.prefix_rfl hb rfl
  simp -implicitDefEqProofs [-indexAddrP_some, lb, load_JX Js ha, load_JX Js hb', dAh]
theorem inDue_1_run (J : Jobs h vj js) (hb : h[r]? = some (some ⟨[vj], 0, false⟩)) (ha : 0 ≤ a ∧ a < js.length) (hb' : 0 ≤ b ∧ b < js.length) :
    Ret P G n_impl_inDueOrder_1 [.int .i64 a, .int .i64 b, .pointer (some ⟨r, 0, some 1⟩)] h (.bool (dueAh js a b)) h := by
  refine enter_run e_impl_inDueOrder_1 (by simp) ?_
  have Js := J
  obtain ⟨oj, cj, rfl⟩ := J.shapeT
  have lb := load_pre (n := 1) List.prefix_rfl hb rfl
  by_cases c1 : (jA js a).d < (jA js b).d
  · simp -implicitDefEqProofs [-indexAddrP_some, lb, load_JX Js ha, load_JX Js hb', dueAh, c1]
  · by_cases c2 : (jA js a).d = (jA js b).d
    · simp -implicitDefEqProofs [-indexAddrP_some, lb, load_JX Js ha, load_JX Js hb', dueAh, c2]
    · simp -implicitDefEqProofs [-indexAddrP_some, lb, load_JX Js ha, load_JX Js hb', dueAh, c1, nb c2]
theorem l6Sooner_run (J : Jobs h vj js) (ha : 0 ≤ a ∧ a < js.length) (hb' : 0 ≤ b ∧ b < js.length) : Ret P G n_spec_l6Sooner [vj, .int .i64 a, .int .i64 b] h (.bool (sooner js a b)) h := by
  refine enter_run e_spec_l6Sooner (by simp) ?_
  have Js := J
  obtain ⟨oj, cj, rfl⟩ := J.shapeT
  by_cases c1 : (jA js a).d = (jA js b).d
  · by_cases c2 : (jA js a).t = (jA js b).t
    · simp -implicitDefEqProofs [-indexAddrP_some, load_JX Js ha, load_JX Js hb', sooner, c1, c2]
    · simp -implicitDefEqProofs [-indexAddrP_some, load_JX Js ha, load_JX Js hb', sooner, c1, nt c2, c2]
  · simp -implicitDefEqProofs [-indexAddrP_some, load_JX Js ha, load_JX Js hb', sooner, c1, nt c1]
end
/-! ### digits -/
theorem shr_eq {c i : Nat} (hc : c < 2 ^ 60) : shiftI .shr .i64 c i = some (.int .i64 ((c / 2 ^ i : Nat) : Int)) := by
  have h0 : ¬ (i : Int) < 0 := by omega
  simp only [shiftI, if_neg h0, Int.toNat_natCast]
  congr 2
  have e1 : ((2 : Int) ^ min i IntKind.i64.bits) = ((2 ^ min i IntKind.i64.bits : Nat) : Int) := by simp
  rw [e1, Int.fdiv_eq_ediv_of_nonneg _ (Int.natCast_nonneg _), ← Int.natCast_ediv]
  congr 1
  have hb : IntKind.i64.bits = 64 := rfl
  rw [hb]
  by_cases g : i ≤ 64
  · rw [Nat.min_eq_left g]
  · rw [Nat.min_eq_right (by omega), Nat.div_eq_of_lt (by omega), Nat.div_eq_of_lt]
    have : (2 : Nat) ^ 64 ≤ 2 ^ i := Nat.pow_le_pow_right (by omega) (by omega)
    omega
/-- A digit, as the machine has it. -/
theorem bit_val {c i : Nat} (hc : c < 2 ^ 60) : IntKind.i64.wrap ↑(((c : Int) / 2 ^ i % 2 ^ IntKind.i64.bits).toNat &&& (1 % 2 ^ IntKind.i64.bits : Int).toNat) = if c.testBit i = true then 1 else 0 := by
  have hb : IntKind.i64.bits = 64 := rfl
  have e1 : (1 % 2 ^ IntKind.i64.bits : Int).toNat = 1 := by rw [hb]; decide
  have e2 : ((c : Int) / 2 ^ i % 2 ^ IntKind.i64.bits).toNat = c / 2 ^ i := by
    have e3 : ((c : Int) / 2 ^ i) = ((c / 2 ^ i : Nat) : Int) := by simp
    have e4 : c / 2 ^ i ≤ c := Nat.div_le_self ..
    have e5 : ((c / 2 ^ i : Nat) : Int) < 2 ^ 64 := by have : ((c / 2 ^ i : Nat) : Int) ≤ (c : Int) := Int.ofNat_le.2 e4; omega
    rw [e3, hb, Int.emod_eq_of_lt (Int.natCast_nonneg _) e5, Int.toNat_natCast]
  rw [e1, e2, Nat.and_one_is_mod, ← Nat.shiftRight_eq_div_pow]
  have e5 : c.testBit i = decide (c >>> i % 2 = 1) := by rw [Nat.testBit_eq_decide_div_mod_eq, Nat.shiftRight_eq_div_pow]
  rw [e5]
  have : c >>> i % 2 < 2 := Nat.mod_lt _ (by omega)
  by_cases g : c >>> i % 2 = 1
  · rw [g, wrap_ok (by omega) (by omega)]; simp
  · have : c >>> i % 2 = 0 := by omega
    rw [this, wrap_ok (by omega) (by omega)]; simp
theorem l4Set_run {h : Hp} {n c : Nat} (hn : n ≤ 60) (hc : c < 2 ^ 60) : RunsC P G n_spec_l4Set [.int .i64 n, .int .i64 c] h fun v h' => h <+: h' ∧ Own h.length h' v 1 ((bitsL n c).map encI) := by
  refine hideC fun K hK => enter_run e_spec_l4Set (by simp) ?_
  have H0 := own_nil (Holds.start (h := h)) Int encI 1
  simp -implicitDefEqProofs
  refine R_loopO (fun m s h' => ∃ (i : Nat) (u : Value), i + m = n ∧ s = [(0, .int .i64 n), (1, .int .i64 c), (5, u), (6, .int .i64 i)] ∧ Holds h h' [.own u 1 ((bitsL i c).map encI)]) (fun I hI m s h' => ?_) (n := n) ⟨0, _, Nat.zero_add _, by simp; rfl, by simpa [bitsL] using H0⟩
  rintro ⟨i, u, hi, rfl, H⟩
  by_cases hlt : i < n
  · have hlt' : (i : Int) < n := by omega
    have bl := @bits_len i c
    have bs := @bits_snoc i c
    have bv := bit_val (i := i) hc
    cases ct : c.testBit i
    · rw [ct, if_neg (by simp)] at bs bv
      rw [List.append_nil] at bs
      simp -implicitDefEqProofs [hlt, hlt', shr_eq hc, bv, winc hlt (by omega)]
      exact ⟨m - 1, by omega, on hI ⟨i + 1, _, by omega, rfl, by rw [bs]; exact H⟩⟩
    · rw [ct, if_pos rfl] at bs bv
      obtain ⟨v', h2, ha, H2, _⟩ := push_I0 H 0 rfl (i : Int) (by omega)
      simp -implicitDefEqProofs [hlt, hlt', shr_eq hc, bv, ha, winc hlt (by omega)]
      exact ⟨m - 1, by omega, on hI ⟨i + 1, _, by omega, rfl, by rw [bs]; exact H2⟩⟩
  · have hlt' : ¬ (i : Int) < n := by omega
    have : i = n := by omega
    subst this
    simp -implicitDefEqProofs [hlt']
    exact onK hK (H.ret 0 rfl)
end Go.Pm.PP

/- Due orders and timely sets, by both. -/
set_option linter.unusedVariables false
set_option linter.unusedSimpArgs false
set_option maxRecDepth 4000
set_option maxHeartbeats 8000000
namespace Go.Pm.PP
open Go.Pm Go.Proofs Go.Pm.PE
/-- Times and dates are not too great. -/
structure Bd (js : List Job) : Prop where
  t : ∀ x, 0 ≤ (jA js x).t ∧ (jA js x).t ≤ 2 ^ 20
  d : ∀ x, -(2 ^ 20) ≤ (jA js x).d ∧ (jA js x).d ≤ 2 ^ 20
theorem good_bd {js : List Job} (hg : goodL js = true) : Bd js := by
  constructor
  all_goals
    intro x
    rcases @jA_in js x with g | g
    · have := job_of (List.all_eq_true.1 hg _ g); omega
    · rw [g]; simp
/-- Put into the middle, in a region that draws its order. -/
theorem ins_mid {h0 h : Hp} {L : List Asn} (H : Holds h0 h L) (i : Nat) {u : Value} {xs : List Int} (hi : L[i]? = some (.own u 1 (xs.map encI))) {k : Nat} (hk : k ≤ xs.length) (x : Int) (hn : xs.length ≤ 2 ^ 20) :
    ∃ (a3 : Option Addr) (b3 c3 : Nat) (a4 : Option Addr) (b4 c4 : Nat) (h4 : Hp) (a5 : Option Addr) (b5 c5 : Nat) (h5 : Hp) (a6 : Option Addr) (b6 c6 : Nat) (v7 : Value) (h7 : Hp),
      sliceP P h t_S_int u none (some (.int .i64 k)) = some (.slice a3 b3 c3) ∧ appendP P h t_S_int (.slice none 0 0) (.slice a3 b3 c3) = some (.slice a4 b4 c4, h4) ∧ newOk h h4 ∧
      appendP P (h4 ++ [some ⟨[.int .i64 x], 1, false⟩]) t_S_int (.slice a4 b4 c4) (.slice (some ⟨h4.length, 0, some 1⟩) 1 1) = some (.slice a5 b5 c5, h5) ∧ modOk h.length (h4 ++ [some ⟨[.int .i64 x], 1, false⟩]) h5 ∧ newOk h h5 ∧
      sliceP P h5 t_S_int u (some (.int .i64 k)) none = some (.slice a6 b6 c6) ∧ appendP P h5 t_S_int (.slice a5 b5 c5) (.slice a6 b6 c6) = some (v7, h7) ∧ h <+: h4 ∧ Holds h0 h7 (L.set i (.own v7 1 ((xs.take k ++ x :: xs.drop k).map encI))) ∧ h <+: h7 := by
  have S2 := H.sees i hi
  obtain ⟨v3, s3, f3⟩ := S2.front (P := P) u_S_int i_int (k := .i64) (j := (k : Int)) (by omega) (by simp; omega)
  rw [Int.toNat_natCast, ← List.map_take] at f3
  have H0 := own_nil (Holds.start (h := h)) Int encI 1
  obtain ⟨v4, h4, ha4, H4', _⟩ := app_I H0 0 rfl f3 (by simp; omega)
  have H4 : Holds h h4 [.own v4 1 ((xs.take k).map encI)] := H4'
  have n4 : NR h.length h4 := append_nr nr_self ha4
  have no4 := newOk_of H4.pre n4
  obtain ⟨v5, h5, ha5, H5', k5, _⟩ := push_I0 H4 0 rfl x (by simp; omega)
  have H5 : Holds h h5 [.own v5 1 ((xs.take k ++ [x]).map encI)] := H5'
  have n5 : NR h.length (h4 ++ [some ⟨[.int .i64 x], 1, false⟩]) := n4.new [.int .i64 x] 1
  have md := app_mod (b := h.length) rfl n5 ha5 (H4.pre.trans (List.prefix_append ..)) H5.pre
  have n6 := append_nr n5 ha5
  obtain ⟨v6, s6, f6, _⟩ := (S2.pre H5.pre).back (P := P) u_S_int i_int (k := .i64) (j := (k : Int)) (by omega) (by simp; omega)
  rw [Int.toNat_natCast, ← List.map_drop] at f6
  obtain ⟨v7, h7, ha7, H7', _⟩ := app_I H5 0 rfl f6 (by simp; omega)
  have H7 : Holds h h7 [.own v7 1 ((xs.take k ++ x :: xs.drop k).map encI)] := by
    have : Holds h h7 [.own v7 1 ((xs.take k ++ [x] ++ xs.drop k).map encI)] := H7'
    rw [List.append_assoc] at this
    exact this
  obtain ⟨a3, b3, c3, rfl⟩ : ∃ a n c, v3 = .slice a n c := by obtain ⟨a, c, e⟩ := f3.shape; exact ⟨_, _, _, e⟩
  obtain ⟨a4, b4, c4, rfl⟩ : ∃ a n c, v4 = .slice a n c := by obtain ⟨a, c, e⟩ := (H4.sees 0 rfl).shape; exact ⟨_, _, _, e⟩
  obtain ⟨a5, b5, c5, rfl⟩ : ∃ a n c, v5 = .slice a n c := by obtain ⟨a, c, e⟩ := (H5.sees 0 rfl).shape; exact ⟨_, _, _, e⟩
  obtain ⟨a6, b6, c6, rfl⟩ : ∃ a n c, v6 = .slice a n c := by obtain ⟨a, c, e⟩ := f6.shape; exact ⟨_, _, _, e⟩
  have HJ := H.join H7
  have hil := (List.getElem?_eq_some_iff.1 hi).1
  refine ⟨a3, b3, c3, a4, b4, c4, h4, a5, b5, c5, h5, a6, b6, c6, v7, h7, s3, ha4, no4, ha5, md, newOk_of H5.pre n6, s6, ha7, H4.pre, ?_, H7.pre⟩
  refine HJ.sub (fun j => if j = i then L.length else j) (fun j A e => ?_) fun j1 j2 A B e1 e2 g => ?_
  · rw [List.getElem?_set] at e
    split at e
    · rename_i e2
      subst e2
      cases e
      rw [if_pos rfl, List.getElem?_append_right (Nat.le_refl _), Nat.sub_self]; rfl
    · rename_i e2
      rw [if_neg fun g => e2 g.symm, List.getElem?_append_left (List.getElem?_eq_some_iff.1 e).1]
      exact e
  · have l1 := (List.getElem?_eq_some_iff.1 e1).1
    have l2 := (List.getElem?_eq_some_iff.1 e2).1
    rw [List.length_set] at l1 l2
    split at g <;> split at g <;> omega
section
variable {h : Hp} {vj v : Value} {js : List Job} {xs : List Int}
theorem inDueOrder_run (J : Jobs h vj js) (X : Ints h v xs) (hin : inN js.length xs) (hn : xs.length ≤ 2 ^ 20) : RunsC P G n_impl_inDueOrder [vj, v] h fun w h' => h <+: h' ∧ Own h.length h' w 1 ((dueL js (ascL xs)).map encI) := by
  refine hideC fun K hK => enter_run e_impl_inDueOrder (by simp) ?_
  have Js := J
  obtain ⟨oj, cj, rfl⟩ := J.shapeT
  have H0 := (Holds.start (h := h)).alloc [.slice oj js.length cj]
  simp -implicitDefEqProofs
  refine CL_post (ascending_run (X.pre (List.prefix_append ..)) hn) fun v1 h1 ⟨hp1, ho1⟩ => ?_
  have hp := (List.prefix_append h [some (⟨[.slice oj js.length cj], 0, false⟩ : Row)]).trans hp1
  have pa := sortB_perm (ah := fun a b => decide (a < b)) (l := xs)
  simp -implicitDefEqProofs
  refine CL_post (sortedBy_run (ah := dueAh js) ho1.sees (by rw [ascL, sortB_len]; exact hn) fun h2 hp2 a b ha hb => ?_) fun v2 h2 ⟨hp2, ho2⟩ => ?_
  · exact inDue_1_run (Js.pre (hp.trans hp2)) (((H0.ext hp1).ext hp2).box 0 rfl) (hin a (pa.mem_iff.1 ha)) (hin b (pa.mem_iff.1 hb))
  · simp -implicitDefEqProofs
    have H := (Holds.start (h := h)).call (hp.trans hp2) (ho2.low hp.length_le)
    exact onK hK (H.ret 0 rfl)
theorem onTime_run (J : Jobs h vj js) (X : Ints h v xs) (hin : inN js.length xs) (hn : xs.length ≤ 2 ^ 10) (bd : Bd js) : Ret P G n_impl_onTime [vj, v] h (.bool (timGo js 0 (sortB (dAh js) xs))) h := by
  refine enter_run e_impl_onTime (by simp) ?_
  have Js := J
  obtain ⟨oj, cj, rfl⟩ := J.shapeT
  have H0 := (Holds.start (h := h)).alloc [.slice oj js.length cj]
  have Xs := X
  obtain ⟨ox, cx, rfl⟩ := X.shapeT
  simp -implicitDefEqProofs
  have ps := sortB_perm (ah := dAh js) (l := xs)
  refine CL_post (sortedBy_run (ah := dAh js) (Xs.pre (List.prefix_append ..)) (by omega) fun h2 hp2 a b ha hb => ?_) fun v2 h2 ⟨hp2, ho2⟩ => ?_
  · exact onTime_1_run (Js.pre ((List.prefix_append ..).trans hp2)) ((H0.ext hp2).box 0 rfl) (hin a ha) (hin b hb)
  have hp := (List.prefix_append h [some (⟨[.slice oj js.length cj], 0, false⟩ : Row)]).trans hp2
  have S2 : Ints h2 v2 (sortB (dAh js) xs) := ho2.sees
  have hins : inN js.length (sortB (dAh js) xs) := fun x hx => hin x (ps.mem_iff.1 hx)
  have hl : (sortB (dAh js) xs).length = xs.length := sortB_len
  generalize sortB (dAh js) xs = ys at *
  have S2s := S2
  obtain ⟨oy, cy, rfl⟩ := S2.shapeT
  have lb := (H0.ext hp2).bl (P := P) 0 1 rfl rfl
  simp -implicitDefEqProofs
  refine R_loopO (fun m s h' => ∃ (i : Nat) (now : Int), i + m = ys.length ∧ s = [(2, .pointer (some ⟨h.length, 0, some 1⟩)), (5, .int .i64 now), (10, .slice oy ys.length cy), (11, .int .i64 ys.length), (12, .int .i64 i)] ∧ h' = h2 ∧ 0 ≤ now ∧ now ≤ i * 2 ^ 20 ∧ timGo js 0 ys = timGo js now (ys.drop i)) (fun I hI m s h' => ?_) (n := ys.length)
    ⟨0, 0, Nat.zero_add _, by simp, rfl, by omega, by omega, by simp⟩
  rintro ⟨i, now, hi, rfl, rfl, n0, n1, hx⟩
  by_cases hlt : i < ys.length
  · obtain ⟨y, hy, hd⟩ := drop_at hlt
    rw [hd, timGo] at hx
    have ly := load_I S2s hy
    have bt := bd.t y
    have lj := load_JX (Js.pre hp) (hins y (List.mem_of_getElem? hy))
    have w1 : IntKind.i64.wrap (now + (jA js y).t) = now + (jA js y).t := by rw [wrap_ok] <;> omega
    by_cases c1 : now + (jA js y).t ≤ (jA js y).d
    · have c2 : ¬ (jA js y).d < now + (jA js y).t := by omega
      rw [decide_eq_true c1, Bool.true_and] at hx
      simp -implicitDefEqProofs [-indexAddrP_some, hlt, ly, lb, lj, w1, c1, c2, winc hlt (by omega)]
      exact ⟨m - 1, by omega, on hI ⟨i + 1, _, by omega, rfl, rfl, by omega, by omega, hx⟩⟩
    · have c2 : (jA js y).d < now + (jA js y).t := by omega
      rw [decide_eq_false c1, Bool.false_and] at hx
      simp -implicitDefEqProofs [-indexAddrP_some, hlt, ly, lb, lj, w1, c1, c2, hx]
      exact gcP hp rfl
  · rw [List.drop_eq_nil_of_le (by omega), timGo] at hx
    simp -implicitDefEqProofs [hlt, hx]
    exact gcP hp rfl
theorem l6Due_run (J : Jobs h vj js) (X : Ints h v xs) (hin : inN js.length xs) (hn : xs.length ≤ 2 ^ 10) : RunsC P G n_spec_l6Due [vj, v] h fun w h' => h <+: h' ∧ Own h.length h' w 1 ((dueF js xs).map encI) := by
  refine hideC fun K hK => enter_run e_spec_l6Due (by simp) ?_
  have Js := J
  have Xs := X
  obtain ⟨oj, cj, rfl⟩ := J.shapeT
  obtain ⟨ox, cx, rfl⟩ := X.shapeT
  have H0 := own_nil (Holds.start (h := h)) Int encI 1
  simp -implicitDefEqProofs
  refine R_loopO (fun m s h' => ∃ (i : Nat) (u : Value) (us : List Int), i + m = xs.length ∧ s = [(0, .slice oj js.length cj), (1, .slice ox xs.length cx), (5, u), (6, .int .i64 i)] ∧ us.length = i ∧ (∀ z, z ∈ us → z ∈ xs) ∧
    dueF js xs = (xs.drop i).foldl (fun l x => insF (fun y => sooner js y x) x l) us ∧ Holds h h' [.own u 1 (us.map encI)]) (fun I hI m s h' => ?_) (n := xs.length) ⟨0, _, [], Nat.zero_add _, by simp, rfl, by simp, rfl, H0⟩
  rintro ⟨i, u, us, hi, rfl, hul, hsub, hx, H⟩
  by_cases hlt : i < xs.length
  · obtain ⟨y, hy, hd⟩ := drop_at hlt
    rw [hd, List.foldl_cons] at hx
    have hyx := hin y (List.mem_of_getElem? hy)
    have S := H.sees 0 rfl
    obtain ⟨ou, cu, rfl⟩ : ∃ a c, u = .slice a us.length c := by obtain ⟨a, c, e⟩ := S.shapeT; exact ⟨a, c, e⟩
    simp -implicitDefEqProofs [hlt]
    refine R_loopO (fun m2 s h2 => ∃ (k : Nat), k + m2 = us.length ∧ s = [(0, .slice oj js.length cj), (1, .slice ox xs.length cx), (5, .slice ou us.length cu), (6, .int .i64 i), (7, .int .i64 k)] ∧ h2 = h' ∧ ∀ i z, i < k → us[i]? = some z → sooner js z y = true) (fun I2 hI2 m2 s h2 => ?_) (n := us.length)
      ⟨0, Nat.zero_add _, by simp, rfl, fun i z h => by omega⟩
    rintro ⟨k, hk, rfl, rfl, hall⟩
    have lyx := load_I (Xs.pre H.pre) hy
    have fin : (∀ z, us[k]? = some z → sooner js z y = false) → us.take k ++ y :: us.drop k = insF (fun z => sooner js z y) y us := fun g => (insF_take (by omega) hall g).symm
    have hins : (insF (fun z => sooner js z y) y us).length = i + 1 := by rw [insF_perm.length_eq, List.length_cons, hul]
    have hsub' : ∀ z, z ∈ insF (fun z => sooner js z y) y us → z ∈ xs := fun z hz => by
      rcases List.mem_cons.1 (insF_perm.mem_iff.1 hz) with rfl | g
      · exact List.mem_of_getElem? hy
      · exact hsub z g
    obtain ⟨a3, b3, c3, a4, b4, c4, h4, a5, b5, c5, h5, a6, b6, c6, v7, h7, s3, ha4, no4, ha5, md, no5, s6, ha7, hp4, H7, hp7⟩ := ins_mid H 0 rfl (k := k) (by omega) y (by omega)
    by_cases hlk : k < us.length
    · obtain ⟨z, hz, _⟩ := drop_at hlk
      have lz := load_I S hz
      have rs := l6Sooner_run (Js.pre H.pre) (hin z (hsub z (List.mem_of_getElem? hz))) hyx
      cases c1 : sooner js z y
      · rw [c1] at rs
        rw [fin (fun z' g => by rw [hz] at g; cases g; exact c1)] at H7
        have hlk' : (k : Int) < us.length := by omega
        simp -implicitDefEqProofs [-indexAddrP_some, hlk, hlk', lz, lyx, CL_ret rs, CH_at rs, s3, ha4, no4, ha5, md, no5, s6, ha7, load_I (Xs.pre (H.pre.trans hp4)) hy, winc hlt (by omega)]
        exact ⟨m - 1, by omega, on hI ⟨i + 1, v7, _, by omega, rfl, hins, hsub', hx, H7⟩⟩
      · rw [c1] at rs
        have hlk' : (k : Int) < us.length := by omega
        simp -implicitDefEqProofs [-indexAddrP_some, hlk, hlk', lz, lyx, CL_ret rs, CH_at rs, winc hlk (by omega)]
        exact ⟨m2 - 1, by omega, on hI2 ⟨k + 1, by omega, rfl, rfl, fun i z' h1 h2 => by
          rcases Nat.lt_or_ge i k with g | g
          · exact hall i z' g h2
          · have : i = k := by omega
            subst this
            rw [hz] at h2; cases h2; exact c1⟩⟩
    · rw [fin (fun z' g => by rw [List.getElem?_eq_none (by omega)] at g; cases g)] at H7
      have hlk' : ¬ (k : Int) < us.length := by omega
      simp -implicitDefEqProofs [-indexAddrP_some, hlk, hlk', lyx, s3, ha4, no4, ha5, md, no5, s6, ha7, load_I (Xs.pre (H.pre.trans hp4)) hy, winc hlt (by omega)]
      exact ⟨m - 1, by omega, on hI ⟨i + 1, v7, _, by omega, rfl, hins, hsub', hx, H7⟩⟩
  · rw [List.drop_eq_nil_of_le (by omega), List.foldl_nil] at hx
    rw [hx] at hK
    simp -implicitDefEqProofs [hlt]
    exact onK hK (H.ret 0 rfl)
end
end Go.Pm.PP

/- The greatest lateness and delays, by both; the draw. -/
set_option linter.unusedVariables false
set_option linter.unusedSimpArgs false
set_option maxRecDepth 4000
set_option maxHeartbeats 8000000
namespace Go.Pm.PP
open Go.Pm Go.Proofs Go.Pm.PE
theorem upTo_in {n : Nat} : inN n (upTo n) := fun x hx => mem_upTo.1 hx
theorem up_asc' {n : Nat} : (upTo n).Pairwise (· < ·) := up_asc
theorem bits_up {n : Nat} : bitsL n (2 ^ n - 1) = upTo n := by rw [bits_full, upTo, List.range_eq_range']
/-- All jobs in due order. -/
def dueAll (js : List Job) : List Int := dueL js (upTo js.length)
theorem dueAll_ord {js : List Job} : Ord js.length (dueAll js) := by
  have p : (dueAll js).Perm (upTo js.length) := sortB_perm
  exact ⟨by rw [p.length_eq, upTo_len], fun x hx => mem_upTo.1 (p.mem_iff.1 hx), p.nodup_iff.2 (upTo_nodup _)⟩
theorem ord_perm {n : Nat} {xs : List Int} (o : Ord n xs) : xs.Perm (upTo n) := (List.perm_ext_iff_of_nodup o.nd (upTo_nodup n)).2 fun x => by
  rw [mem_upTo]
  refine ⟨fun hx => o.inn x hx, fun hx => ?_⟩
  have := o.all (i := x.toNat) (by omega)
  rwa [show ((x.toNat : Nat) : Int) = x by omega] at this
theorem ord_prm {n : Nat} {xs : List Int} (o : Ord n xs) : Prm n xs := by
  have := ord_perm o
  rwa [upTo, List.range_eq_range'] at this
section
variable {h : Hp} {vj v : Value} {js : List Job} {xs : List Int}
theorem shl_eq {i : Nat} (hi : i ≤ 60) : shiftI .shl .i64 1 i = some (.int .i64 ((2 ^ i : Nat) : Int)) := by
  have h0 : ¬ (i : Int) < 0 := by omega
  have hb : IntKind.i64.bits = 64 := rfl
  simp only [shiftI, if_neg h0, Int.toNat_natCast]
  rw [hb, Nat.min_eq_left (by omega), Int.one_mul]
  have e1 : ((2 : Int) ^ i) = ((2 ^ i : Nat) : Int) := by simp
  have e2 : 2 ^ i ≤ 2 ^ 60 := Nat.pow_le_pow_right (by omega) hi
  rw [e1]
  generalize 2 ^ i = d at e2 ⊢
  rw [wrap_ok (by omega) (by omega)]
theorem l6All_run (J : Jobs h vj js) (hn : js.length ≤ 58) : RunsC P G n_spec_l6All [vj] h fun w h' => h <+: h' ∧ Own h.length h' w 1 ((upTo js.length).map encI) := by
  refine hideC fun K hK => enter_run e_spec_l6All (by simp) ?_
  obtain ⟨oj, cj, rfl⟩ := J.shapeT
  have e2 : 2 ^ js.length ≤ 2 ^ 58 := Nat.pow_le_pow_right (by omega) hn
  have e3 := Nat.two_pow_pos js.length
  have w1 : IntKind.i64.wrap (((2 ^ js.length : Nat) : Int) - 1) = ((2 ^ js.length - 1 : Nat) : Int) := by rw [wrap_ok] <;> omega
  have rs := l4Set_run (h := h) (n := js.length) (c := 2 ^ js.length - 1) (by omega) (by omega)
  rw [bits_up] at rs
  generalize hc : 2 ^ js.length - 1 = c at *
  generalize hd : 2 ^ js.length = d at *
  have e1 : ((2 : Int) ^ js.length) = (d : Int) := by rw [← hd]; simp
  have sh := shl_eq (i := js.length) (by omega)
  rw [hd] at sh
  simp -implicitDefEqProofs [sh, w1]
  refine CL_post rs fun v1 h1 ⟨hp1, ho1⟩ => ?_
  simp -implicitDefEqProofs
  exact onK hK (((Holds.start (h := h)).call hp1 ho1).ret 0 rfl)
theorem l6Timely_run (J : Jobs h vj js) (X : Ints h v xs) (hin : inN js.length xs) (hn : xs.length ≤ 2 ^ 10) (bd : Bd js) : Ret P G n_spec_l6Timely [vj, v] h (.bool (timGo js 0 (dueF js xs))) h := by
  refine enter_run e_spec_l6Timely (by simp) ?_
  have Js := J
  have Xs := X
  obtain ⟨oj, cj, rfl⟩ := J.shapeT
  obtain ⟨ox, cx, rfl⟩ := X.shapeT
  simp -implicitDefEqProofs
  refine CL_post (l6Due_run Js Xs hin hn) fun v2 h2 ⟨hp, ho2⟩ => ?_
  have S2 : Ints h2 v2 (dueF js xs) := ho2.sees
  have hgo : ∀ {l acc : List Int}, inN js.length l → inN js.length acc → inN js.length (l.foldl (fun l x => insF (fun y => sooner js y x) x l) acc) ∧ (l.foldl (fun l x => insF (fun y => sooner js y x) x l) acc).length = acc.length + l.length := by
    intro l
    induction l with
    | nil => intro acc _ h; exact ⟨h, by simp⟩
    | cons x l ih =>
      intro acc h1 h2
      rw [List.foldl_cons]
      have p : (insF (fun y => sooner js y x) x acc).Perm (x :: acc) := insF_perm
      obtain ⟨g1, g2⟩ := ih (acc := insF (fun y => sooner js y x) x acc) (fun y hy => h1 y (List.mem_cons_of_mem _ hy)) fun y hy => by
        rcases List.mem_cons.1 (p.mem_iff.1 hy) with rfl | g
        · exact h1 y (List.mem_cons_self ..)
        · exact h2 y g
      exact ⟨g1, by rw [g2, p.length_eq]; simp; omega⟩
  obtain ⟨hins, hl⟩ := hgo (l := xs) (acc := []) hin fun y hy => by cases hy
  have hl : (dueF js xs).length = xs.length := by rw [dueF, hl]; simp
  have hins : inN js.length (dueF js xs) := hins
  generalize dueF js xs = ys at *
  have S2s := S2
  obtain ⟨oy, cy, rfl⟩ := S2.shapeT
  simp -implicitDefEqProofs
  refine R_loopO (fun m s h' => ∃ (i : Nat) (now : Int), i + m = ys.length ∧ s = [(0, .slice oj js.length cj), (5, .slice oy ys.length cy), (6, .int .i64 now), (7, .int .i64 i)] ∧ h' = h2 ∧ 0 ≤ now ∧ now ≤ i * 2 ^ 20 ∧ timGo js 0 ys = timGo js now (ys.drop i)) (fun I hI m s h' => ?_) (n := ys.length)
    ⟨0, 0, Nat.zero_add _, by simp, rfl, by omega, by omega, by simp⟩
  rintro ⟨i, now, hi, rfl, rfl, n0, n1, hx⟩
  by_cases hlt : i < ys.length
  · obtain ⟨y, hy, hd⟩ := drop_at hlt
    rw [hd, timGo] at hx
    have ly := load_I S2s hy
    have bt := bd.t y
    have lj := load_JX (Js.pre hp) (hins y (List.mem_of_getElem? hy))
    have w1 : IntKind.i64.wrap (now + (jA js y).t) = now + (jA js y).t := by rw [wrap_ok] <;> omega
    by_cases c1 : now + (jA js y).t ≤ (jA js y).d
    · have c2 : ¬ (jA js y).d < now + (jA js y).t := by omega
      rw [decide_eq_true c1, Bool.true_and] at hx
      simp -implicitDefEqProofs [-indexAddrP_some, hlt, ly, lj, w1, c1, c2, winc hlt (by omega)]
      exact ⟨m - 1, by omega, on hI ⟨i + 1, _, by omega, rfl, rfl, by omega, by omega, hx⟩⟩
    · have c2 : (jA js y).d < now + (jA js y).t := by omega
      rw [decide_eq_false c1, Bool.false_and] at hx
      simp -implicitDefEqProofs [-indexAddrP_some, hlt, ly, lj, w1, c1, c2, hx]
      exact gcP hp rfl
  · rw [List.drop_eq_nil_of_le (by omega), timGo] at hx
    simp -implicitDefEqProofs [hlt, hx]
    exact gcP hp rfl
theorem l6Latest_run (J : Jobs h vj js) (hok : plOk js = true) : Ret P G n_spec_l6Latest [vj] h (.int .i64 (valX 4 js (dueAll js))) h := by
  refine enter_run e_spec_l6Latest (by simp) ?_
  have Js := J
  obtain ⟨hn, hg, _⟩ := plOk_of hok
  obtain ⟨oj, cj, rfl⟩ := J.shapeT
  simp -implicitDefEqProofs
  refine CL_post (l6All_run Js (by omega)) fun v1 h1 ⟨hp1, ho1⟩ => ?_
  simp -implicitDefEqProofs
  refine CL_post (l6Due_run (Js.pre hp1) ho1.sees upTo_in (by rw [upTo_len]; omega)) fun v2 h2 ⟨hp2, ho2⟩ => ?_
  rw [due_eq up_asc'] at ho2
  have rv := l2Value_run (o := 4) (Js.pre (hp1.trans hp2)) ho2.sees hg hn (by omega) dueAll_ord
  simp -implicitDefEqProofs [CL_ret rv]
  exact ⟨rfl, gcP (hp1.trans hp2) rfl⟩
def elV (js : List Job) : Int := if plOk js = true then valX 4 js (dueAll js) else 0
theorem dueOrd_run (J : Jobs h vj js) (hn : js.length ≤ 8) : RunsC P G n_impl_numbersTo [.int .i64 js.length] h fun w h' => h <+: h' ∧ Own h.length h' w 1 ((upTo js.length).map encI) := numbersTo_run (by omega)
theorem implDueOrder_run (J : Jobs h vj js) (hl : js.length ≤ 2 ^ 40) : RunsC P G n_impl_DueOrder [vj] h fun w h' => h <+: h' ∧ ∃ d, w = .tuple #[d, .bool (plOk js)] ∧ (plOk js = true → Ints h' d (dueAll js)) := by
  refine hideC fun K hK => enter_run e_impl_DueOrder (by simp) ?_
  have r1 := IsPlain_run J hl
  have Js := J
  obtain ⟨oj, cj, rfl⟩ := J.shapeT
  cases c1 : plOk js
  · simp -implicitDefEqProofs [CL_ret r1, c1]
    exact onK hK ⟨List.prefix_rfl, _, by rw [c1], fun g => by rw [c1] at g; cases g⟩
  · obtain ⟨hn, hg, _⟩ := plOk_of c1
    simp -implicitDefEqProofs [CL_ret r1, c1]
    refine CL_post (dueOrd_run Js hn) fun v1 h1 ⟨hp1, ho1⟩ => ?_
    simp -implicitDefEqProofs
    refine CL_post (inDueOrder_run (Js.pre hp1) ho1.sees upTo_in (by rw [upTo_len]; omega)) fun v2 h2 ⟨hp2, ho2⟩ => ?_
    rw [ascL_id up_asc'] at ho2
    simp -implicitDefEqProofs
    exact onK hK ⟨pre_gcU (hp1.trans hp2), _, by rw [c1], fun _ => Sees.gcU ho2.sees fun g => plainT (r := [_]) g⟩
/-! ### with a delay -/
def tmOk (js : List Job) (dl : Int) : Bool := plOk js && inB dl 0 400
def laterI (js : List Job) (dl : Int) : List Job := js.map fun j => ⟨j.t, j.w, j.r, j.d + dl⟩
def laterS (js : List Job) (dl : Int) : List Job := js.map fun j => ⟨j.t, 0, 0, j.d + dl⟩
end
/-! ### in plain terms -/
theorem later_at {js : List Job} {dl x : Int} (hx : 0 ≤ x ∧ x < js.length) : jA (laterS js dl) x = ⟨(jA js x).t, 0, 0, (jA js x).d + dl⟩ ∧ jA (laterI js dl) x = ⟨(jA js x).t, (jA js x).w, (jA js x).r, (jA js x).d + dl⟩ := by
  obtain ⟨k, hk, hkl, hy⟩ := jA_get (js := js) rfl hx
  subst hk
  constructor
  · unfold laterS
    conv => lhs; unfold jA
    rw [Int.toNat_natCast, List.getElem?_map, hy]; rfl
  · unfold laterI
    conv => lhs; unfold jA
    rw [Int.toNat_natCast, List.getElem?_map, hy]; rfl
/-- Timely after a delay along an order of jobs. -/
def timD (js : List Job) (dl : Int) : Int → List Int → Bool
  | _, [] => true
  | now, x :: r => decide (now + (jA js x).t ≤ (jA js x).d + dl) && timD js dl (now + (jA js x).t) r
theorem timS_eq {js : List Job} {dl : Int} : ∀ {xs : List Int} {now : Int}, inN js.length xs → timGo (laterS js dl) now xs = timD js dl now xs
  | [], _, _ => rfl
  | x :: r, now, h => by
    have e := (later_at (dl := dl) (h x (List.mem_cons_self ..))).1
    rw [timGo, timD, e]
    simp only
    rw [timS_eq fun y hy => h y (List.mem_cons_of_mem _ hy)]
theorem timI_eq {js : List Job} {dl : Int} : ∀ {xs : List Int} {now : Int}, inN js.length xs → timGo (laterI js dl) now xs = timD js dl now xs
  | [], _, _ => rfl
  | x :: r, now, h => by
    have e := (later_at (dl := dl) (h x (List.mem_cons_self ..))).2
    rw [timGo, timD, e]
    simp only
    rw [timI_eq fun y hy => h y (List.mem_cons_of_mem _ hy)]
theorem timD_lat {js : List Job} (p : Pl js) {dl : Int} : ∀ {xs : List Int} {now m : Int}, 0 ≤ now → m ≤ dl → (timD js dl now xs = true ↔ latGo js now m xs ≤ dl)
  | [], now, m, _, hm => by simp [timD, latGo, hm]
  | x :: r, now, m, h, hm => by
    have := p.t x
    rw [timD, latGo, p.endAt h, Bool.and_eq_true, decide_eq_true_eq]
    have mono : ∀ {xs : List Int} {now m : Int}, m ≤ latGo js now m xs := by
      intro xs
      induction xs with
      | nil => intro now m; exact Int.le_refl _
      | cons x xs ih =>
        intro now m
        rw [latGo]
        exact Int.le_trans (by omega) ih
    constructor
    · rintro ⟨h1, h2⟩
      exact (timD_lat p (by omega) (by omega)).1 h2
    · intro hl
      have h1 := @mono r (now + (jA js x).t) (max m (now + (jA js x).t - (jA js x).d))
      have h2 : now + (jA js x).t ≤ (jA js x).d + dl := by omega
      exact ⟨h2, (timD_lat p (by omega) (by omega)).2 hl⟩
/-- The value of an order for the greatest lateness. -/
theorem valX_lat {js : List Job} (hok : plOk js = true) {xs : List Int} (o : Ord js.length xs) (hne : 0 < js.length) : valX 4 js xs = latGo js 0 (-(2 ^ 20)) xs := by
  obtain ⟨hn, hg, _⟩ := plOk_of hok
  refine val_lat (ord_prm o) ⟨(0 : Nat), o.all hne, ?_⟩
  have e0 : gE (endsL js xs) ((0 : Nat) : Int).toNat ∈ endsL js xs := by
    have : (0 : Nat) < (endsL js xs).length := by rw [endsL_len]; exact hne
    have := gE_get this
    exact List.mem_of_getElem? this
  have := endGo_bd hg (k := 0) o.inn (Int.le_refl 0) (by omega) (fun e he => by rw [List.eq_of_mem_replicate he]; omega) _ e0
  have := (good_bd hg).d ((0 : Nat) : Int)
  omega
theorem due_best {js : List Job} (hok : plOk js = true) {xs : List Int} (o : Ord js.length xs) : valX 4 js (dueAll js) ≤ valX 4 js xs := by
  rcases Nat.eq_zero_or_pos js.length with h0 | h0
  · have e1 : dueAll js = [] := List.eq_nil_of_length_eq_zero (by rw [dueAll_ord.len, h0])
    have e2 : xs = [] := List.eq_nil_of_length_eq_zero (by rw [o.len, h0])
    rw [e1, e2]; exact Int.le_refl _
  · rw [valX_lat hok o h0, valX_lat hok dueAll_ord h0]
    exact lat_best (plOk_pl hok) dueL_d ((ord_perm o).trans (ord_perm dueAll_ord).symm)
theorem el_best {js : List Job} (hok : plOk js = true) : bestV 4 js = valX 4 js (dueAll js) := by
  obtain ⟨hn, hg, _⟩ := plOk_of hok
  obtain ⟨h1, h2, h3, h4⟩ := best_facts (f := valX 4 js) (n := js.length) hn
  have g1 := due_best hok h3
  have g2 := h4 _ (dueAll_ord (js := js))
  have e : bestV 4 js = (bestR (valX 4 js) js.length).v := rfl
  rw [e]
  omega
/-- Both tell the same of a delay, and what the greatest lateness tells. -/
theorem timely_eq {js : List Job} {dl : Int} (hok : tmOk js dl = true) : timGo (laterI js dl) 0 (sortB (dAh (laterI js dl)) (upTo js.length)) = decide (valX 4 js (dueAll js) ≤ dl) ∧ timGo (laterS js dl) 0 (dueF (laterS js dl) (upTo js.length)) = decide (valX 4 js (dueAll js) ≤ dl) := by
  rw [tmOk, Bool.and_eq_true] at hok
  have hp := plOk_pl hok.1
  have hd : 0 ≤ dl ∧ dl ≤ 400 := by simpa [inB] using hok.2
  have key : ∀ ys : List Int, ys.Perm (upTo js.length) → (ys.Pairwise fun a b => (jA js a).d ≤ (jA js b).d) → timD js dl 0 ys = decide (valX 4 js (dueAll js) ≤ dl) := fun ys hy hs => by
    have o : Ord js.length ys := ⟨by rw [hy.length_eq, upTo_len], fun x hx => mem_upTo.1 (hy.mem_iff.1 hx), hy.nodup_iff.2 (upTo_nodup _)⟩
    rcases Nat.eq_zero_or_pos js.length with h0 | h0
    · have e1 : dueAll js = [] := List.eq_nil_of_length_eq_zero (by rw [dueAll_ord.len, h0])
      have e2 : ys = [] := List.eq_nil_of_length_eq_zero (by rw [o.len, h0])
      have e3 : js = [] := List.eq_nil_of_length_eq_zero h0
      subst e3
      rw [e1, e2]
      simp [timD, valX, valE, valGo, endsL, endGo, hd.1]
    · have e := valX_lat hok.1 (dueAll_ord (js := js)) h0
      have l1 := lat_best hp (m := -(2 ^ 20)) hs (hy.trans (ord_perm dueAll_ord).symm).symm
      have l2 := lat_best hp (m := -(2 ^ 20)) (dueL_d (js := js) (xs := upTo js.length)) (hy.trans (ord_perm (dueAll_ord (js := js))).symm)
      have l2 : latGo js 0 (-(2 ^ 20)) (dueAll js) ≤ latGo js 0 (-(2 ^ 20)) ys := l2
      have t := timD_lat hp (dl := dl) (xs := ys) (m := -(2 ^ 20)) (Int.le_refl 0) (by omega)
      rw [Bool.eq_iff_iff, t, decide_eq_true_eq]
      omega
  constructor
  · have p : (sortB (dAh (laterI js dl)) (upTo js.length)).Perm (upTo js.length) := sortB_perm
    have hin : inN js.length (sortB (dAh (laterI js dl)) (upTo js.length)) := fun x hx => upTo_in x (p.mem_iff.1 hx)
    rw [timI_eq hin]
    refine key _ p ?_
    refine List.Pairwise.imp_of_mem (fun {a b} ha hb h => ?_) (dAhL_d (js := laterI js dl) (xs := upTo js.length))
    rw [(later_at (dl := dl) (hin a ha)).2, (later_at (dl := dl) (hin b hb)).2] at h
    simp only at h
    omega
  · rw [due_eq up_asc']
    have p : (dueL (laterS js dl) (upTo js.length)).Perm (upTo js.length) := sortB_perm
    have hin : inN js.length (dueL (laterS js dl) (upTo js.length)) := fun x hx => upTo_in x (p.mem_iff.1 hx)
    rw [timS_eq hin]
    refine key _ p ?_
    refine List.Pairwise.imp_of_mem (fun {a b} ha hb h => ?_) (dueL_d (js := laterS js dl) (xs := upTo js.length))
    rw [(later_at (dl := dl) (hin a ha)).1, (later_at (dl := dl) (hin b hb)).1] at h
    simp only at h
    omega
end Go.Pm.PP

/- FnLateness in the small machine. -/
set_option linter.unusedVariables false
set_option linter.unusedSimpArgs false
set_option maxRecDepth 4000
set_option maxHeartbeats 8000000
namespace Go.Pm.PP
open Go.Pm Go.Proofs Go.Pm.PE
section
variable {h0 h : Hp} {r n : Nat} {vc : Value} {L : List Asn}
theorem plainJobs_run (B : By h0 vc) (C : Cur h0 h r vc n L) (hn : n ≤ 2 ^ 19) {most : Nat} (hm : most ≤ 8) : RunsC P G n_spec_l1Cur_plainJobs [.pointer (some ⟨r, 0, some 3⟩), .int .i64 most] h fun v h' => ∃ js : List Job, js.length ≤ 9 ∧ Cur h0 h' r vc (n + 202) (L ++ [.own v 4 (js.map encJ)]) := by
  refine hideC fun K hK => enter_run e_spec_l1Cur_plainJobs (by simp) ?_
  simp -implicitDefEqProofs
  refine CL_post (one_run B C (by omega) (k := 16) (by omega)) fun v h1 ⟨b, ev, C1⟩ => ?_
  subst ev
  simp -implicitDefEqProofs
  refine CL_post (someJobs_run B C1 (by omega) (b := b) (most := most) hm) fun v h2 ⟨js, hl, C2⟩ => ?_
  obtain ⟨ua, uc, rfl⟩ : ∃ a c, v = .slice a js.length c := C2.seesJ.shapeT
  simp -implicitDefEqProofs
  exact onK hK ⟨js, hl, C.gcO (C2.mono (by omega)) (fun h => h)⟩
/-- A draw of jobs and a number ends. -/
theorem draw_JI {h h1 : Hp} {u v : Value} {x : Int} {js : List Job} (H : Holds h h1 [.own u 4 (js.map encJ)]) : h <+: gc h h1 (.tuple #[u, .int .i64 x]) ∧ Jobs (gc h h1 (.tuple #[u, .int .i64 x])) u js :=
  ⟨pre_gcU H.pre, Sees.gcU (H.sees 0 rfl) fun g => plainT (r := [_]) g⟩
end
end Go.Pm.PP

/- Typed rules for slices: printed by a program of this work (wrap.py). -/
set_option linter.unusedVariables false
set_option linter.unusedSimpArgs false
set_option maxRecDepth 4000
namespace Go.Pm.PP
open Go.Pm Go.Proofs
def encQ (x : Int × Int) : List Value := [.int .i64 x.1, .int .i64 x.2]
theorem load_Q {h : Hp} {v : Value} {xs : List (Int × Int)} {i : Nat} {x : Int × Int} (hv : Sees h v 2 (xs.map encQ)) (hx : xs[i]? = some x) :
    indexAddrP P h t_S_A2_int v (.int .i64 i) = some (.pointer (some (addP (base v) (i * 2)))) ∧ loadP P h t_A2_int (.pointer (some (addP (base v) (i * 2)))) = some (.agg #[.int .i64 x.1, .int .i64 x.2]) ∧
    loadP P h t_int (.pointer (some (addP (addP (base v) (i * 2)) 0))) = some (.int .i64 x.1) ∧
    loadP P h t_int (.pointer (some (addP (addP (base v) (i * 2)) 1))) = some (.int .i64 x.2) := by
  have hi := (List.getElem?_eq_some_iff.1 hx).1
  have h1 := hv.indexT (P := P) u_S_A2_int i_A2_int (k := .i64) (j := i) (by omega) (by omega)
  rw [Int.toNat_natCast] at h1
  have fld : ∀ k, k < 2 → loadP P h t_int (.pointer (some (addP (addP (base v) (i * 2)) k))) = (encQ x)[k]? := by
    intro k hk
    have := hv.cellT (P := P) a_int i_int hx hk
    rw [← this]
    simp only [addP, Nat.add_assoc]
  exact ⟨h1, hv.aggT a_A2_int i_A2_int hx, fld 0 (by omega), fld 1 (by omega)⟩
theorem len_Q (xs : List (Int × Int)) : ∀ e ∈ xs.map encQ, e.length = 2 := by
  intro e he
  obtain ⟨x, _, rfl⟩ := List.mem_map.1 he
  rfl
theorem ones_Q (xs : List (Int × Int)) : (xs.map encQ).flatten.all one = true := by
  induction xs with
  | nil => rfl
  | cons x xs ih => rw [List.map_cons, List.flatten_cons, List.all_append, ih]; rfl
theorem push_Q0 {h0 h : Hp} {L : List Asn} (H : Holds h0 h L) (i : Nat) {v : Value} {xs : List (Int × Int)} (hi : L[i]? = some (.own v 2 (xs.map encQ))) (x : Int × Int) (hn : xs.length ≤ 2 ^ 40) :
    ∃ v' h', appendP P (h ++ [some ⟨[.int .i64 x.1, .int .i64 x.2], 2, false⟩]) t_S_A2_int v (.slice (some ⟨h.length, 0, some 2⟩) 1 1) = some (v', h') ∧ Holds h0 h' (L.set i (.own v' 2 ((xs ++ [x]).map encQ))) ∧ Keeps (rowV v) h h' ∧ (rowV v = none → newOk (h ++ [some ⟨[.int .i64 x.1, .int .i64 x.2], 2, false⟩]) h') := by
  obtain ⟨v', h', g1, g2, g3, g4⟩ := (H.ext (List.prefix_append h [])).push (P := P) i (y := encQ x) (n := 2) hi u_S_A2_int e_t_A2_int z_t_A2_int s_t_A2_int (by omega) (by rw [b_t_A2_int]; omega) rfl rfl (by simp [encQ]) (by rw [b_t_A2_int]; simp; omega)
  rw [show xs.map encQ ++ [encQ x] = (xs ++ [x]).map encQ by simp] at g2
  exact ⟨v', h', by simpa [encQ] using g1, g2, Keeps.app.trans g3, by simpa [encQ] using g4⟩
theorem push_Q1 {h0 h : Hp} {L : List Asn} (H : Holds h0 h L) (i : Nat) {v : Value} {xs : List (Int × Int)} (hi : L[i]? = some (.own v 2 (xs.map encQ))) (x : Int × Int) {a1 : Option Row} (hn : xs.length ≤ 2 ^ 40) :
    ∃ v' h', appendP P (h ++ [a1, some ⟨[.int .i64 x.1, .int .i64 x.2], 2, false⟩]) t_S_A2_int v (.slice (some ⟨h.length + 1, 0, some 2⟩) 1 1) = some (v', h') ∧ Holds h0 h' (L.set i (.own v' 2 ((xs ++ [x]).map encQ))) ∧ Keeps (rowV v) h h' ∧ (rowV v = none → newOk (h ++ [a1, some ⟨[.int .i64 x.1, .int .i64 x.2], 2, false⟩]) h') := by
  obtain ⟨v', h', g1, g2, g3, g4⟩ := (H.ext (List.prefix_append h [a1])).push (P := P) i (y := encQ x) (n := 2) hi u_S_A2_int e_t_A2_int z_t_A2_int s_t_A2_int (by omega) (by rw [b_t_A2_int]; omega) rfl rfl (by simp [encQ]) (by rw [b_t_A2_int]; simp; omega)
  rw [show xs.map encQ ++ [encQ x] = (xs ++ [x]).map encQ by simp] at g2
  exact ⟨v', h', by simpa [encQ] using g1, g2, Keeps.app.trans g3, by simpa [encQ] using g4⟩
theorem push_Q2 {h0 h : Hp} {L : List Asn} (H : Holds h0 h L) (i : Nat) {v : Value} {xs : List (Int × Int)} (hi : L[i]? = some (.own v 2 (xs.map encQ))) (x : Int × Int) {a1 a2 : Option Row} (hn : xs.length ≤ 2 ^ 40) :
    ∃ v' h', appendP P (h ++ [a1, a2, some ⟨[.int .i64 x.1, .int .i64 x.2], 2, false⟩]) t_S_A2_int v (.slice (some ⟨h.length + 2, 0, some 2⟩) 1 1) = some (v', h') ∧ Holds h0 h' (L.set i (.own v' 2 ((xs ++ [x]).map encQ))) ∧ Keeps (rowV v) h h' ∧ (rowV v = none → newOk (h ++ [a1, a2, some ⟨[.int .i64 x.1, .int .i64 x.2], 2, false⟩]) h') := by
  obtain ⟨v', h', g1, g2, g3, g4⟩ := (H.ext (List.prefix_append h [a1, a2])).push (P := P) i (y := encQ x) (n := 2) hi u_S_A2_int e_t_A2_int z_t_A2_int s_t_A2_int (by omega) (by rw [b_t_A2_int]; omega) rfl rfl (by simp [encQ]) (by rw [b_t_A2_int]; simp; omega)
  rw [show xs.map encQ ++ [encQ x] = (xs ++ [x]).map encQ by simp] at g2
  exact ⟨v', h', by simpa [encQ] using g1, g2, Keeps.app.trans g3, by simpa [encQ] using g4⟩
theorem app_Q {h0 h : Hp} {L : List Asn} (H : Holds h0 h L) (i : Nat) {v u : Value} {xs ys : List (Int × Int)} (hi : L[i]? = some (.own v 2 (xs.map encQ))) (s : Sees h u 2 (ys.map encQ)) (hn : xs.length + ys.length ≤ 2 ^ 40) :
    ∃ v' h', appendP P h t_S_A2_int v u = some (v', h') ∧ Holds h0 h' (L.set i (.own v' 2 ((xs ++ ys).map encQ))) ∧ Keeps (rowV v) h h' := by
  obtain ⟨v', h', g1, g2, g3⟩ := H.app (P := P) i hi u_S_A2_int e_t_A2_int z_t_A2_int s_t_A2_int (by omega) (by rw [b_t_A2_int]; omega) s (ones_Q ys) (by rw [b_t_A2_int]; simp; omega)
  rw [← List.map_append] at g2
  exact ⟨v', h', g1, g2, g3⟩
theorem put_Q {h0 h : Hp} {L : List Asn} (H : Holds h0 h L) (i : Nat) {v : Value} {xs : List (Int × Int)} (hi : L[i]? = some (.own v 2 (xs.map encQ))) {j : Nat} (hj : j < xs.length) (x : Int × Int) :
    ∃ h', storeP P h t_A2_int (.agg #[.int .i64 x.1, .int .i64 x.2]) (.pointer (some (addP (base v) (j * 2)))) = some h' ∧ Holds h0 h' (L.set i (.own v 2 ((xs.set j x).map encQ))) ∧ Keeps (rowV v) h h' := by
  have := H.put (P := P) i (t := t_A2_int) (w := .agg #[.int .i64 x.1, .int .i64 x.2]) (j := j) hi i_A2_int (by simpa using hj) rfl (by simp)
  simpa [List.map_set, encQ] using this
theorem fput_Q0 {h0 h : Hp} {L : List Asn} (H : Holds h0 h L) (i : Nat) {v : Value} {xs : List (Int × Int)} (hi : L[i]? = some (.own v 2 (xs.map encQ))) {j : Nat} {y : Int × Int} (hy : xs[j]? = some y) (z : Int) :
    ∃ h', storeP P h t_int (.int .i64 z) (.pointer (some (addP (addP (base v) (j * 2)) 0))) = some h' ∧ Holds h0 h' (L.set i (.own v 2 ((xs.set j ((z, y.2))).map encQ))) ∧ Keeps (rowV v) h h' := by
  have := H.store (P := P) i hi (t := t_int) (w := .int .i64 z) (j := j) (e := encQ y) (l := []) (m := [.int .i64 y.1]) (c := [.int .i64 y.2]) e_t_int (by simp [hy]) rfl (by simp) (by simp) (by simp)
  simpa [List.map_set, encQ, addP, Nat.add_assoc] using this
theorem fput_Q1 {h0 h : Hp} {L : List Asn} (H : Holds h0 h L) (i : Nat) {v : Value} {xs : List (Int × Int)} (hi : L[i]? = some (.own v 2 (xs.map encQ))) {j : Nat} {y : Int × Int} (hy : xs[j]? = some y) (z : Int) :
    ∃ h', storeP P h t_int (.int .i64 z) (.pointer (some (addP (addP (base v) (j * 2)) 1))) = some h' ∧ Holds h0 h' (L.set i (.own v 2 ((xs.set j ((y.1, z))).map encQ))) ∧ Keeps (rowV v) h h' := by
  have := H.store (P := P) i hi (t := t_int) (w := .int .i64 z) (j := j) (e := encQ y) (l := [.int .i64 y.1]) (m := [.int .i64 y.2]) (c := []) e_t_int (by simp [hy]) rfl (by simp) (by simp) (by simp)
  simpa [List.map_set, encQ, addP, Nat.add_assoc] using this
theorem make_Q {h0 h : Hp} {L : List Asn} (H : Holds h0 h L) {n : Nat} (hn : n ≤ 2 ^ 40) :
    ∃ v h', makeP P h t_S_A2_int (.int .i64 n) (.int .i64 n) = some (v, h') ∧ Holds h0 h' (L ++ [.own v 2 ((List.replicate n ((0, 0) : Int × Int)).map encQ)]) ∧ h <+: h' ∧ (∃ oa, v = .slice oa n n) := by
  have mk := make_eq (h := h) u_S_A2_int e_t_A2_int z_t_A2_int rfl (by rw [s_t_A2_int]; omega) (by rw [b_t_A2_int]; omega) (n := n) (by omega) (by rw [b_t_A2_int]; omega)
  rw [s_t_A2_int] at mk
  simp only [Value.cells] at mk
  have hlz : ∀ e ∈ List.replicate n ([.int .i64 0, .int .i64 0] : List Value), e.length = 2 := fun e he => by rw [List.eq_of_mem_replicate he]; rfl
  refine ⟨_, _, mk, ?_, List.prefix_append .., _, rfl⟩
  have := H.lit (els := List.replicate n ([.int .i64 0, .int .i64 0] : List Value)) (sz := 2) (n := n * 2) hlz (by simp)
  simpa [encQ] using this
end Go.Pm.PP

/- Rule differences, ruled orders and inversions, by both. -/
set_option linter.unusedVariables false
set_option linter.unusedSimpArgs false
set_option maxRecDepth 4000
set_option maxHeartbeats 8000000
namespace Go.Pm.PP
open Go.Pm Go.Proofs Go.Pm.PE
def ruOk (js : List Job) (o : Int) : Bool := jOk js && (o == 1 || (inB o 2 4 && plainL js))
theorem ruOk_of {js : List Job} {o : Int} (h : ruOk js o = true) : js.length ≤ 8 ∧ goodL js = true ∧ (1 ≤ o ∧ o ≤ 4) ∧ (o = 1 ∨ plOk js = true) := by
  rw [ruOk, Bool.and_eq_true, Bool.or_eq_true, Bool.and_eq_true, beq_iff_eq] at h
  refine ⟨(jOk_of h.1).1, (jOk_of h.1).2, ?_, ?_⟩
  · rcases h.2 with g | g
    · omega
    · have := g.1; simp [inB] at this; omega
  · rcases h.2 with g | g
    · exact .inl g
    · right; rw [plOk, h.1, g.2]; rfl
theorem gap_bd {o : Int} {a b : Job} (ha : jobOk a = true) (hb : jobOk b = true) : -(2 ^ 12) ≤ gapJ o a b ∧ gapJ o a b ≤ 2 ^ 12 ∧ 0 ≤ a.t * b.w ∧ a.t * b.w ≤ 2500 ∧ 0 ≤ b.t * a.w ∧ b.t * a.w ≤ 2500 := by
  have h1 := job_of ha
  have h2 := job_of hb
  have m1 : 0 ≤ a.t * b.w := Int.mul_nonneg (by omega) (by omega)
  have m2 : 0 ≤ b.t * a.w := Int.mul_nonneg (by omega) (by omega)
  have m3 : a.t * b.w ≤ 50 * 50 := Int.mul_le_mul (by omega) (by omega) (by omega) (by omega)
  have m4 : b.t * a.w ≤ 50 * 50 := Int.mul_le_mul (by omega) (by omega) (by omega) (by omega)
  unfold gapJ
  refine ⟨?_, ?_, m1, by omega, m2, by omega⟩ <;> (split; omega; split; omega; split <;> omega)
theorem difference_run {h : Hp} {a b : Job} {o : Int} (ha : jobOk a = true) (hb : jobOk b = true) : Ret P G n_impl_difference [jv a, jv b, .int .i64 o] h (.int .i64 (gapJ o a b)) h := by
  refine enter_run e_impl_difference (by simp) ?_
  have h1 := job_of ha
  have h2 := job_of hb
  have hb' := gap_bd (o := o) ha hb
  have H := ((Holds.start (h := h)).alloc [.int .i64 a.t, .int .i64 a.w, .int .i64 a.r, .int .i64 a.d]).alloc [.int .i64 b.t, .int .i64 b.w, .int .i64 b.r, .int .i64 b.d]
  simp only [List.append_assoc, List.cons_append, List.nil_append, List.length_append, List.length_cons, List.length_nil, Nat.zero_add] at H
  have l1 := H.bl (P := P) 0 4 rfl rfl
  have l2 := H.bl (P := P) 1 4 rfl rfl
  have w1 : IntKind.i64.wrap (a.r - b.r) = a.r - b.r := by rw [wrap_ok] <;> omega
  have w2 : IntKind.i64.wrap (a.t - b.t) = a.t - b.t := by rw [wrap_ok] <;> omega
  have w3 : IntKind.i64.wrap (a.d - b.d) = a.d - b.d := by rw [wrap_ok] <;> omega
  have w4 : IntKind.i64.wrap (a.t * b.w) = a.t * b.w := by rw [wrap_ok] <;> omega
  have w5 : IntKind.i64.wrap (b.t * a.w) = b.t * a.w := by rw [wrap_ok] <;> omega
  have w6 : IntKind.i64.wrap (a.t * b.w - b.t * a.w) = a.t * b.w - b.t * a.w := by rw [wrap_ok] <;> omega
  have pp := List.prefix_append h [some (⟨[.int .i64 a.t, .int .i64 a.w, .int .i64 a.r, .int .i64 a.d], 0, false⟩ : Row), some ⟨[.int .i64 b.t, .int .i64 b.w, .int .i64 b.r, .int .i64 b.d], 0, false⟩]
  unfold gapJ
  by_cases c1 : o = 1
  · subst c1
    simp -implicitDefEqProofs [w1]
  · by_cases c2 : o = 2
    · subst c2
      simp -implicitDefEqProofs [w2]
    · by_cases c3 : o = 3
      · subst c3
        simp -implicitDefEqProofs [w4, w5, w6]
      · simp -implicitDefEqProofs [nb c1, nb c2, nb c3, c1, c2, c3, w3]
section
variable {h : Hp} {vj v : Value} {js : List Job} {xs : List Int} {o : Int}
theorem jobOk_jA (hg : goodL js = true) {x : Int} (hx : 0 ≤ x ∧ x < js.length) : jobOk (jA js x) = true := by
  obtain ⟨q, hq, hql, hqy⟩ := jA_get (js := js) rfl hx
  exact job_at hg hqy
theorem l3Gap_run {x y : Int} (J : Jobs h vj js) (hg : goodL js = true) (hx : 0 ≤ x ∧ x < js.length) (hy : 0 ≤ y ∧ y < js.length) : Ret P G n_spec_l3Gap [vj, .int .i64 o, .int .i64 x, .int .i64 y] h (.int .i64 (gapX o js x y)) h := by
  refine enter_run e_spec_l3Gap (by simp) ?_
  have Js := J
  obtain ⟨oj, cj, rfl⟩ := J.shapeT
  have ha := jobOk_jA hg hx
  have hb := jobOk_jA hg hy
  have lx := load_JX Js hx
  have ly := load_JX Js hy
  have e : gapX o js x y = gapJ o (jA js x) (jA js y) := rfl
  rw [e]
  generalize jA js x = a at *
  generalize jA js y = b at *
  have h1 := job_of ha
  have h2 := job_of hb
  have hb' := gap_bd (o := o) ha hb
  have w1 : IntKind.i64.wrap (a.r - b.r) = a.r - b.r := by rw [wrap_ok] <;> omega
  have w2 : IntKind.i64.wrap (a.t - b.t) = a.t - b.t := by rw [wrap_ok] <;> omega
  have w3 : IntKind.i64.wrap (a.d - b.d) = a.d - b.d := by rw [wrap_ok] <;> omega
  have w4 : IntKind.i64.wrap (a.t * b.w) = a.t * b.w := by rw [wrap_ok] <;> omega
  have w5 : IntKind.i64.wrap (b.t * a.w) = b.t * a.w := by rw [wrap_ok] <;> omega
  have w6 : IntKind.i64.wrap (a.t * b.w - b.t * a.w) = a.t * b.w - b.t * a.w := by rw [wrap_ok] <;> omega
  unfold gapJ
  by_cases c1 : o = 1
  · subst c1
    simp -implicitDefEqProofs [-indexAddrP_some, lx, ly, w1]
  · by_cases c2 : o = 2
    · subst c2
      simp -implicitDefEqProofs [-indexAddrP_some, lx, ly, w2]
    · by_cases c3 : o = 3
      · subst c3
        simp -implicitDefEqProofs [-indexAddrP_some, lx, ly, w4, w5, w6]
      · simp -implicitDefEqProofs [-indexAddrP_some, lx, ly, nb c1, nb c2, nb c3, c1, c2, c3, w3]
theorem l3Plain_run (hj : Jobs h v js) (hn : js.length ≤ 2 ^ 40) : Ret P G n_spec_l3Plain [v] h (.bool (plainL js)) h := by
  refine enter_run e_spec_l3Plain (by simp) ?_
  have hjs := hj
  obtain ⟨oa, c, rfl⟩ := hj.shapeT
  simp -implicitDefEqProofs
  refine R_loopO (fun m s h' => ∃ i : Nat, i + m = js.length ∧ s = [(0, .slice oa js.length c), (3, .int .i64 i)] ∧ h' = h ∧ plainL js = plainL (js.drop i)) (fun I hI m s h' => ?_) ⟨0, Nat.zero_add _, by simp⟩
  rintro ⟨i, hi, rfl, rfl, hx⟩
  by_cases hlt : i < js.length
  · obtain ⟨y, hy, hd⟩ := drop_at hlt
    have e : plainL (y :: js.drop (i + 1)) = ((y.r == 0) && plainL (js.drop (i + 1))) := rfl
    rw [hd, e] at hx
    have lr := load_J hjs hy
    by_cases c1 : y.r = 0
    · rw [show (y.r == 0) = true by simpa using c1, Bool.true_and] at hx
      simp -implicitDefEqProofs [-indexAddrP_some, hlt, lr, c1, winc hlt hn]
      exact ⟨m - 1, by omega, on hI ⟨i + 1, by omega, rfl, rfl, hx⟩⟩
    · rw [nb c1, Bool.false_and] at hx
      simp -implicitDefEqProofs [-indexAddrP_some, hlt, lr, nt c1, hx]
  · rw [List.drop_eq_nil_of_le (by omega)] at hx
    have hx : plainL js = true := hx
    simp -implicitDefEqProofs [hlt, hx]
theorem isRuled_run (hj : Jobs h v js) (hn : js.length ≤ 2 ^ 40) : Ret P G n_impl_isRuled [v, .int .i64 o] h (.bool (ruOk js o)) h := by
  refine enter_run e_impl_isRuled (by simp) ?_
  have r1 := isJobs_run hj hn
  have r2 := isPlain_run hj hn
  obtain ⟨oa, c, rfl⟩ := hj.shapeT
  cases c1 : jOk js
  · simp -implicitDefEqProofs [CL_ret r1, c1, ruOk]
  · by_cases c2 : o = 1
    · subst c2
      simp -implicitDefEqProofs [CL_ret r1, c1, ruOk]
    · cases c3 : inB o 2 4
      · simp -implicitDefEqProofs [CL_ret r1, c1, nb c2, CL_ret within_run, c3, ruOk]
      · simp -implicitDefEqProofs [CL_ret r1, c1, nb c2, CL_ret within_run, c3, CL_ret r2, ruOk]
theorem l3Ruled_run (hj : Jobs h v js) (hn : js.length ≤ 2 ^ 40) : Ret P G n_spec_l3Ruled [v, .int .i64 o] h (.bool (ruOk js o)) h := by
  refine enter_run e_spec_l3Ruled (by simp) ?_
  have r1 := good_run hj hn
  have r2 := l3Plain_run hj hn
  obtain ⟨oa, c, rfl⟩ := hj.shapeT
  cases c1 : jOk js
  · simp -implicitDefEqProofs [CL_ret r1, c1, ruOk]
  · by_cases c2 : o = 1
    · subst c2
      simp -implicitDefEqProofs [CL_ret r1, c1, ruOk, CL_ret l1In_run, inB]
    · cases c3 : inB o 1 4
      · have : inB o 2 4 = false := by
          simp only [inB, Bool.and_eq_false_iff, decide_eq_false_iff_not] at c3 ⊢; omega
        simp -implicitDefEqProofs [CL_ret r1, c1, nb c2, CL_ret l1In_run, c3, ruOk, this]
      · have : inB o 2 4 = true := by
          simp only [inB, Bool.and_eq_true, decide_eq_true_eq] at c3 ⊢; omega
        simp -implicitDefEqProofs [CL_ret r1, c1, nb c2, CL_ret l1In_run, c3, ruOk, this, CL_ret r2]
def ruAll (js : List Job) (xs : List Int) (o : Int) : Bool := ruOk js o && l2OrderL js.length xs
theorem isRuledAndOrdered_run (hj : Jobs h vj js) (hu : Ints h v xs) (hl : js.length ≤ 2 ^ 40) (hx : xs.length ≤ 2 ^ 40) : Ret P G n_impl_isRuledAndOrdered [vj, v, .int .i64 o] h (.bool (ruAll js xs o)) h := by
  refine enter_run e_impl_isRuledAndOrdered (by simp) ?_
  have r1 := isRuled_run (o := o) hj hl
  have r2 := isOrder_run (n := js.length) hu hx
  obtain ⟨oj, cj, rfl⟩ := hj.shapeT
  cases c1 : ruOk js o
  · simp -implicitDefEqProofs [CL_ret r1, c1, ruAll]
  · have hn := (ruOk_of c1).1
    have e : (((xs.length : Int) == (js.length : Nat)) && arGo js.length [] xs) = l2OrderL js.length xs := by
      rw [order_eq hn, l2OrderL, show inB js.length 0 8 = true by simp [inB]; omega, Bool.true_and]
    rw [e] at r2
    simp -implicitDefEqProofs [CL_ret r1, c1, CL_ret r2, ruAll]
theorem l3Both_run (hj : Jobs h vj js) (hu : Ints h v xs) (hl : js.length ≤ 2 ^ 40) (hx : xs.length ≤ 2 ^ 40) : Ret P G n_spec_l3Both [vj, v, .int .i64 o] h (.bool (ruAll js xs o)) h := by
  refine enter_run e_spec_l3Both (by simp) ?_
  have r1 := l3Ruled_run (o := o) hj hl
  have r2 := l2Order_run (n := js.length) hu hx
  obtain ⟨oj, cj, rfl⟩ := hj.shapeT
  cases c1 : ruOk js o
  · simp -implicitDefEqProofs [CL_ret r1, c1, ruAll]
  · simp -implicitDefEqProofs [CL_ret r1, c1, CL_ret r2, ruAll]
theorem ruAll_of {js : List Job} {xs : List Int} {o : Int} (h : ruAll js xs o = true) : ruOk js o = true ∧ Ord js.length xs := by
  rw [ruAll, Bool.and_eq_true] at h
  exact ⟨h.1, ord_of h.2⟩
end
end Go.Pm.PP

/- Inversions, losses, ruled orders, exchanges, by both. -/
set_option linter.unusedVariables false
set_option linter.unusedSimpArgs false
set_option maxRecDepth 4000
set_option maxHeartbeats 8000000
namespace Go.Pm.PP
open Go.Pm Go.Proofs Go.Pm.PE
abbrev Prs (h : Hp) (v : Value) (xs : List (Int × Int)) : Prop := Sees h v 2 (xs.map encQ)
theorem inv1_len {o : Int} {js : List Job} {x : Int} {r : List Int} : (invL1 o js x r).length ≤ r.length := by
  unfold invL1; rw [List.length_map]; exact List.length_filter_le ..
theorem inv_len {o : Int} {js : List Job} : ∀ {l : List Int}, (invL o js l).length ≤ l.length * l.length
  | [] => by simp [invL]
  | x :: r => by
    rw [invL, List.length_append, List.length_cons]
    have := @inv1_len o js x r
    have := inv_len (o := o) (js := js) (l := r)
    have e : (r.length + 1) * (r.length + 1) = r.length * r.length + r.length + r.length + 1 := by rw [Nat.add_mul, Nat.mul_add]; omega
    omega
theorem inv1_snoc {o : Int} {js : List Job} {x y : Int} {r : List Int} {k : Nat} (hy : r[k]? = some y) : invL1 o js x (r.take (k + 1)) = invL1 o js x (r.take k) ++ if 0 < gapX o js x y then [(x, y)] else [] := by
  unfold invL1
  rw [take_succ' hy, List.filter_append, List.map_append]
  congr 1
  rw [List.filter_cons]
  by_cases g : 0 < gapX o js x y <;> simp [g]
theorem inv_in {o : Int} {js : List Job} : ∀ {l : List Int} {p : Int × Int}, p ∈ invL o js l → p.1 ∈ l ∧ p.2 ∈ l
  | [], p, h => by cases h
  | x :: r, p, h => by
    rw [invL, List.mem_append] at h
    rcases h with h | h
    · unfold invL1 at h
      obtain ⟨y, hy, rfl⟩ := List.mem_map.1 h
      exact ⟨List.mem_cons_self .., List.mem_cons_of_mem _ (List.mem_filter.1 hy).1⟩
    · have := inv_in h
      exact ⟨List.mem_cons_of_mem _ this.1, List.mem_cons_of_mem _ this.2⟩
theorem sliceP_pre {h h' : Hp} {v : Value} {sz : Nat} {els : List (List Value)} (s : Sees h v sz els) (hp : h <+: h') {ty e : TypeId} (hu : P.underlying ty = some (.slice e)) {lo hi : Option Value} : sliceP P h' ty v lo hi = sliceP P h ty v lo hi := by
  obtain ⟨_, oa, c, rfl, h3⟩ := s
  rcases h3 with ⟨rfl, rfl, rfl⟩ | ⟨r, o, x, rfl, h5, _⟩
  · simp only [sliceP, hu, List.length_nil]
  · have h5' : h'[r]? = some (some x) := by
      obtain ⟨l, rfl⟩ := hp
      rw [List.getElem?_append_left (List.getElem?_eq_some_iff.1 h5).1]; exact h5
    have h5 : h[r]? = some (some x) := h5
    simp only [sliceP, hu, rowAt, h5, h5']
/-- What lies behind a place, cut later, is seen as before. -/
theorem back_pre {h h' : Hp} {v : Value} {xs : List Int} (s : Ints h v xs) (hp : h <+: h') {j : Nat} (hj : j ≤ xs.length) : ∃ v', sliceP P h' t_S_int v (some (.int .i64 (j : Int))) none = some v' ∧ Ints h v' (xs.drop j) := by
  obtain ⟨v6, s6, f6, _⟩ := s.back (P := P) u_S_int i_int (k := .i64) (j := (j : Int)) (by omega) (by simp; omega)
  rw [Int.toNat_natCast, ← List.map_drop] at f6
  exact ⟨v6, by rw [sliceP_pre s hp u_S_int]; exact s6, f6⟩
section
variable {h : Hp} {vj v : Value} {js : List Job} {xs : List Int} {o : Int}
def invF (js : List Job) (xs : List Int) (o : Int) : List (Int × Int) := if ruAll js xs o = true then invL o js xs else []
/-! ### losses -/
def lossG (js : List Job) (ps : List (Int × Int)) : Int := (ps.map fun p => gapX 3 js p.1 p.2).sum
theorem loss_take {js : List Job} {ps : List (Int × Int)} {i : Nat} {p : Int × Int} (hy : ps[i]? = some p) : lossG js (ps.take (i + 1)) = lossG js (ps.take i) + gapX 3 js p.1 p.2 := by
  unfold lossG; rw [take_succ' hy, List.map_append, List.sum_append]; simp
theorem loss_bd {js : List Job} (hg : goodL js = true) : ∀ {ps : List (Int × Int)}, (∀ p, p ∈ ps → (0 ≤ p.1 ∧ p.1 < js.length) ∧ 0 ≤ p.2 ∧ p.2 < js.length) → -(ps.length * 2 ^ 12) ≤ lossG js ps ∧ lossG js ps ≤ ps.length * 2 ^ 12
  | [], _ => by simp [lossG]
  | p :: ps, hp => by
    have ih := loss_bd hg (ps := ps) fun q hq => hp q (List.mem_cons_of_mem _ hq)
    have h1 := hp p (List.mem_cons_self ..)
    have hb := gap_bd (o := 3) (jobOk_jA hg h1.1) (jobOk_jA hg h1.2)
    have e : lossG js (p :: ps) = gapX 3 js p.1 p.2 + lossG js ps := rfl
    have e2 : gapX 3 js p.1 p.2 = gapJ 3 (jA js p.1) (jA js p.2) := rfl
    rw [e, e2, List.length_cons]; omega
def plV (js : List Job) (xs : List Int) : Int := if ruAll js xs 3 = true then lossG js (invL 3 js xs) else 0
end
end Go.Pm.PP

/- Whether an order is ruled, exchanges, codes that are cut, pairs that are the same. -/
set_option linter.unusedVariables false
set_option linter.unusedSimpArgs false
set_option maxRecDepth 4000
set_option maxHeartbeats 8000000
namespace Go.Pm.PP
open Go.Pm Go.Proofs Go.Pm.PE
section
variable {h : Hp} {vj v u : Value} {js : List Job} {xs : List Int} {o : Int}
theorem ruled_drop {o : Int} {js : List Job} {l : List Int} {k : Nat} {x y : Int} (hx : l[k]? = some x) (hy : l[k + 1]? = some y) : ruledB o js (l.drop k) = (decide (gapX o js x y ≤ 0) && ruledB o js (l.drop (k + 1))) := by
  obtain ⟨x', hx', hd⟩ := drop_at (List.getElem?_eq_some_iff.1 hx).1
  obtain ⟨y', hy', hd'⟩ := drop_at (List.getElem?_eq_some_iff.1 hy).1
  rw [hx] at hx'; cases hx'
  rw [hy] at hy'; cases hy'
  rw [hd, hd', ruledB]
theorem implIsRuledOrder_run (J : Jobs h vj js) (X : Ints h v xs) (hl : js.length ≤ 2 ^ 40) (hx : xs.length ≤ 2 ^ 40) : Ret P G n_impl_IsRuledOrder [vj, v, .int .i64 o] h (.tuple #[.bool (ruAll js xs o && ruledB o js xs), .bool (ruAll js xs o)]) h := by
  refine enter_run e_impl_IsRuledOrder (by simp) ?_
  have r1 := isRuledAndOrdered_run (o := o) J X hl hx
  have Js := J
  have Xs := X
  obtain ⟨oj, cj, rfl⟩ := J.shapeT
  obtain ⟨ox', cx, rfl⟩ := X.shapeT
  cases c1 : ruAll js xs o
  · simp -implicitDefEqProofs [CL_ret r1, c1]
  · obtain ⟨g1, ox⟩ := ruAll_of c1
    obtain ⟨hn, hg, _⟩ := ruOk_of g1
    have hxl := ox.len
    simp -implicitDefEqProofs [CL_ret r1, c1]
    refine R_loopO (fun m s h' => ∃ (k : Nat), (k + 1 + m = xs.length ∨ (xs.length ≤ k + 1 ∧ m = 0)) ∧ s = [(0, .slice oj js.length cj), (1, .slice ox' xs.length cx), (2, .int .i64 o), (8, .int .i64 ((k : Int) + 1))] ∧ h' = h ∧ ruledB o js xs = ruledB o js (xs.drop k)) (fun I hI m s h' => ?_) (n := xs.length - 1)
      ⟨0, by omega, by simp, rfl, by simp⟩
    rintro ⟨k, hk, rfl, rfl, hr⟩
    by_cases hlt : k + 1 < xs.length
    · have hlt' : (k : Int) + 1 < xs.length := by omega
      obtain ⟨x, hx1, _⟩ := drop_at (show k < xs.length by omega)
      obtain ⟨y, hy1, _⟩ := drop_at hlt
      rw [ruled_drop hx1 hy1] at hr
      have hxr := ox.inn x (List.mem_of_getElem? hx1)
      have hyr := ox.inn y (List.mem_of_getElem? hy1)
      have lx := load_I Xs hx1
      have ly := load_I Xs hy1
      rw [show ((k + 1 : Nat) : Int) = (k : Int) + 1 by omega] at ly
      have jx := load_JX Js hxr
      have jy := load_JX Js hyr
      have rd := fun {hh : Hp} => difference_run (h := hh) (o := o) (jobOk_jA hg hyr) (jobOk_jA hg hxr)
      have eg : gapJ o (jA js y) (jA js x) = - gapX o js x y := gapJ_swap
      rw [eg] at rd
      have w1 : IntKind.i64.wrap (k : Int) = (k : Int) := by rw [wrap_ok] <;> omega
      have w2 : IntKind.i64.wrap ((k : Int) + 1 + 1) = ((k + 1 : Nat) : Int) + 1 := by rw [wrap_ok] <;> omega
      by_cases g : gapX o js x y ≤ 0
      · have g' : ¬ - gapX o js x y < 0 := by omega
        have g'' : ¬ 0 < gapX o js x y := by omega
        rw [decide_eq_true g, Bool.true_and] at hr
        simp -implicitDefEqProofs [-indexAddrP_some, hlt', lx, ly, jx, jy, w1, CL_ret rd, CH_at rd, g', g'', w2]
        exact ⟨m - 1, by omega, on hI ⟨k + 1, by omega, by simp, rfl, hr⟩⟩
      · have g' : - gapX o js x y < 0 := by omega
        have g'' : 0 < gapX o js x y := by omega
        rw [decide_eq_false g, Bool.false_and] at hr
        simp -implicitDefEqProofs [-indexAddrP_some, hlt', lx, ly, jx, jy, w1, CL_ret rd, CH_at rd, g', g'', hr]
    · have hlt' : ¬ (k : Int) + 1 < xs.length := by omega
      have : ruledB o js (xs.drop k) = true := by
        have : (xs.drop k).length ≤ 1 := by simp; omega
        match hq : xs.drop k, this with
        | [], _ => rfl
        | [a], _ => rfl
      rw [this] at hr
      simp -implicitDefEqProofs [hlt', hr]
theorem implRuleDifference_run {x y : Int} (J : Jobs h vj js) (hl : js.length ≤ 2 ^ 40) (hok : ruOk js o = true) (hx : 0 ≤ x ∧ x < js.length) (hy : 0 ≤ y ∧ y < js.length) : Ret P G n_impl_RuleDifference [vj, .int .i64 o, .int .i64 x, .int .i64 y] h (.tuple #[.int .i64 (gapX o js x y), .bool true]) h := by
  refine enter_run e_impl_RuleDifference (by simp) ?_
  have r1 := isRuled_run (o := o) J hl
  rw [hok] at r1
  have Js := J
  obtain ⟨hn, hg, _⟩ := ruOk_of hok
  obtain ⟨oj, cj, rfl⟩ := J.shapeT
  have wn : w64 ((js.length : Int) - 1) = (js.length : Int) - 1 := by unfold w64; rw [wrap_ok] <;> omega
  have i1 : inB x 0 (w64 ((js.length : Int) - 1)) = true := by rw [wn]; simp [inB]; omega
  have i2 : inB y 0 (w64 ((js.length : Int) - 1)) = true := by rw [wn]; simp [inB]; omega
  have jx := load_JX Js hx
  have jy := load_JX Js hy
  have rd := fun {hh : Hp} => difference_run (h := hh) (o := o) (jobOk_jA hg hx) (jobOk_jA hg hy)
  have eg : gapJ o (jA js x) (jA js y) = gapX o js x y := rfl
  rw [eg] at rd
  simp -implicitDefEqProofs [-indexAddrP_some, CL_ret r1, CL_ret isNumber_run, i1, i2, jx, jy, CL_ret rd, CH_at rd]
theorem vBig_run {bs : List Int} (hb : Sees h v 1 (bs.map encU)) : Ret P G n_laws_vBig [v] h (.bool (decide ((65536 : Int) < bs.length))) h := by
  refine enter_run e_laws_vBig (by simp) ?_
  obtain ⟨oa, c, rfl⟩ := hb.shapeT
  simp -implicitDefEqProofs
theorem vCut_run {n : Nat} {bs : List Int} (hb : Sees h v 1 (bs.map encU)) (hr : ∀ b, b ∈ bs → 0 ≤ b ∧ b ≤ 255) (hl : bs.length ≤ 65536) (hn : n ≤ 200) : RunsC P G n_laws_vCut [v, .int .i64 n] h fun w h' => h <+: h' ∧ By h' w := by
  refine hideC fun K hK => enter_run e_laws_vCut (by simp) ?_
  have Bs := hb
  obtain ⟨oa, c, rfl⟩ := hb.shapeT
  have cvU : ∀ {x : Int}, convP P t_int t_u8 (.int .i64 x) = some (.int .u8 (IntKind.u8.wrap x)) := by intro x; unfold convP; rw [u_int, u_u8]
  have wr : ∀ k : Nat, k ≤ 200 → IntKind.u8.wrap (k : Int) = (k : Int) := fun k hk => by
    unfold IntKind.wrap; simp [IntKind.signed, IntKind.bits]; omega
  have H0 := own_nil (Holds.start (h := h)) Int encU 1
  have fin : ∀ k : Nat, k ≤ n → k ≤ bs.length → ∃ v3 v4 h4 v5 h5, sliceP P h t_S_u8 (.slice oa bs.length c) (some (.int .i64 (k : Int))) none = some v3 ∧ appendP P h t_S_u8 (.slice none 0 0) v3 = some (v4, h4) ∧ appendP P (h4 ++ [some ⟨[.int .u8 (k : Int)], 1, false⟩]) t_S_u8 v4 (.slice (some ⟨h4.length, 0, some 1⟩) 1 1) = some (v5, h5) ∧ K v5 (gc h h5 v5) := fun k hk hkl => by
    obtain ⟨v3, s3, f3, _⟩ := Bs.back (P := P) u_S_u8 i_u8 (k := .i64) (j := (k : Int)) (by omega) (by simp; omega)
    rw [Int.toNat_natCast, ← List.map_drop] at f3
    obtain ⟨v4, h4, a4, H4, _⟩ := app_U H0 0 rfl f3 (by simp; omega)
    have H4 : Holds h h4 [.own v4 1 ((bs.drop k).map encU)] := H4
    obtain ⟨v5, h5, a5, H5, _⟩ := push_U0 H4 0 rfl (k : Int) (by simp; omega)
    refine ⟨v3, v4, h4, v5, h5, s3, a4, a5, onK hK ⟨(H5.ret 0 rfl).1, ⟨bs.drop k ++ [(k : Int)], (H5.ret 0 rfl).2.sees, fun b hb => ?_, by simp; omega⟩⟩⟩
    rcases List.mem_append.1 hb with g | g
    · exact hr b (List.mem_of_mem_drop g)
    · rw [List.mem_singleton.1 g]; omega
  by_cases c1 : bs.length < n
  · have c1' : (bs.length : Int) < n := by omega
    obtain ⟨v3, v4, h4, v5, h5, s3, a4, a5, f⟩ := fin bs.length (by omega) (Nat.le_refl _)
    simp -implicitDefEqProofs [c1, c1', s3, a4, cvU, wr bs.length (by omega), a5]
    exact f
  · have c1' : ¬ (bs.length : Int) < n := by omega
    obtain ⟨v3, v4, h4, v5, h5, s3, a4, a5, f⟩ := fin n (Nat.le_refl _) (by omega)
    simp -implicitDefEqProofs [c1, c1', s3, a4, cvU, wr n hn, a5]
    exact f
theorem eqA2 {a b c d : Int} : eqAgg P t_A2_int (.agg #[.int .i64 a, .int .i64 b]) (.agg #[.int .i64 c, .int .i64 d]) = some (a == c && b == d) := by
  unfold eqAgg
  rw [if_neg (by rw [show P.eqGuardType P.depth t_A2_int = false by kernel_rfl]; simp)]
  have hc : P.cellsOf t_int = 1 := by kernel_rfl
  simp [eqV, u_A2_int, eqE, partP, List.range, List.range.loop, u_int, hc]
def natI (n : Nat) : Int := n
theorem vPairs_run {ps : List (Int × Int)} (hv : Prs h v ps) (hu : Prs h u ps) (hx : ps.length ≤ 2 ^ 40) : Ret P G n_laws_vPairs [v, u] h (.bool true) h := by
  refine enter_run e_laws_vPairs (by simp) ?_
  have hvs := hv
  have hus := hu
  obtain ⟨oa, c, rfl⟩ := hv.shapeT
  obtain ⟨ob, c', rfl⟩ := hu.shapeT
  simp -implicitDefEqProofs
  refine R_loopO (fun m s h' => ∃ i : Nat, i + m = ps.length ∧ s = [(0, .slice oa ps.length c), (1, .slice ob ps.length c'), (5, .int .i64 i)] ∧ h' = h) (fun I hI m s h' => ?_) (n := ps.length) ⟨0, Nat.zero_add _, by simp, rfl⟩
  rintro ⟨i, hi, rfl, rfl⟩
  by_cases hlt : i < ps.length
  · obtain ⟨p, hp, _⟩ := drop_at hlt
    simp -implicitDefEqProofs [-indexAddrP_some, hlt, load_Q hvs hp, load_Q hus hp, eqA2, winc hlt hx]
    exact ⟨m - 1, by omega, on hI ⟨i + 1, by omega, rfl, rfl⟩⟩
  · simp -implicitDefEqProofs [hlt]
end
end Go.Pm.PP
