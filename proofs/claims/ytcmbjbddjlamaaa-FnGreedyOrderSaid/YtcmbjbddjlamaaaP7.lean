/- The texts Pv5, Pv6, Pv7, Pv8, Pv9, Ps1, Ps2, Ps3, Ps4, Ps5, Ps6, Ps7, Ps8, Ps9, PsA, PsB, PsC, PvXa, PvXb, PvXc, PsD, PsE, PsF of this work: Draws: spoilt jobs, lists of jobs. -/
import Derived.Test.YtcmbjbddjlamaaaP6
/- Draws: spoilt jobs, lists of jobs. -/
set_option linter.unusedVariables false
set_option linter.unusedSimpArgs false
set_option maxRecDepth 4000
set_option maxHeartbeats 8000000
namespace Go.Pm.PP
open Go.Pm Go.Proofs Go.Pm.PE
section
variable {h0 h : Hp} {r n : Nat} {vc : Value} {L : List Asn}
theorem spoiltJob_run (B : By h0 vc) (C : Cur h0 h r vc n L) (hn : n ≤ 2 ^ 30) {j : Job} : RunsC P G n_spec_l1Cur_spoiltJob [.pointer (some ⟨r, 0, some 3⟩), jv j] h fun v h' => ∃ j' : Job, v = jv j' ∧ Cur h0 h' r vc (n + 4) L := by
  refine hideC fun K hK => enter_run e_spec_l1Cur_spoiltJob (by simp) ?_
  have C1 : Cur h0 (h ++ [some ⟨[.int .i64 j.t, .int .i64 j.w, .int .i64 j.r, .int .i64 j.d], 0, false⟩, some ⟨zJ, 0, false⟩]) r vc n ((L ++ [.box h.length (encJ j)]) ++ [.box (h.length + 1) zJ]) := by
    have := (C.alloc (encJ j)).alloc zJ
    rw [List.append_assoc h, List.length_append] at this
    exact this
  have g3 : ∀ {A : Asn} {x : List Value} {T : List Asn}, (A :: ((L ++ [.box h.length x]) ++ T))[L.length + 1]? = some (.box h.length x) := by
    intro A x T
    rw [List.getElem?_cons_succ, List.append_assoc, List.getElem?_append_right (Nat.le_refl _), Nat.sub_self]; rfl
  have g4 : ∀ {A : Asn} {x : List Value} {B : Asn}, (A :: ((L ++ [B]) ++ [.box (h.length + 1) x]))[L.length + 1 + 1]? = some (.box (h.length + 1) x) := by
    intro A x B
    rw [List.getElem?_cons_succ, List.append_assoc, List.getElem?_append_right (by omega), Nat.add_sub_cancel_left]; rfl
  have fin : ∀ (fo : Nat) (q : Int) (j' : Job) (h5 : Hp), fo + 1 ≤ 4 → splice (encJ j) fo [.int .i64 q] = encJ j' → Cur h0 h5 r vc (n + 4) ((L ++ [.box h.length (encJ j)]) ++ [.box (h.length + 1) zJ]) →
      ∃ h6 h7, storeP P h5 t_int (.int .i64 q) (.pointer (some ⟨h.length, fo, some 4⟩)) = some h6 ∧ loadP P h6 85 (.pointer (some ⟨h.length, 0, some 4⟩)) = some (.agg #[.int .i64 j'.t, .int .i64 j'.w, .int .i64 j'.r, .int .i64 j'.d]) ∧
        storeP P h6 85 (.agg #[.int .i64 j'.t, .int .i64 j'.w, .int .i64 j'.r, .int .i64 j'.d]) (.pointer (some ⟨h.length + 1, 0, some 4⟩)) = some h7 ∧ loadP P h7 85 (.pointer (some ⟨h.length + 1, 0, some 4⟩)) = some (.agg #[.int .i64 j'.t, .int .i64 j'.w, .int .i64 j'.r, .int .i64 j'.d]) ∧ ∀ u, K (jv j') (gc h h7 u) := by
    intro fo q j' h5 hfo he ⟨a, s, a0, a1, H⟩
    obtain ⟨h6, s6, H6, _⟩ := H.set (P := P) (L.length + 1) (n := 4) (o := fo) (ty := t_int) (w := .int .i64 q) g3 rfl e_t_int (by simp) (by simpa [encJ] using hfo) (by simp)
    rw [show (Value.int .i64 q).cells.toList = [.int .i64 q] from rfl, he] at H6
    have e6 : (cu r vc a s :: ((L ++ [.box h.length (encJ j)]) ++ [.box (h.length + 1) zJ])).set (L.length + 1) (.box h.length (encJ j')) = cu r vc a s :: ((L ++ [.box h.length (encJ j')]) ++ [.box (h.length + 1) zJ]) := by
      rw [List.set_cons_succ, List.append_assoc, List.set_append_right (h := Nat.le_refl _), Nat.sub_self, List.append_assoc]; rfl
    rw [e6] at H6
    have l6 := H6.bl (P := P) (L.length + 1) 4 g3 rfl t_impl_Job 0
    obtain ⟨h7, s7, H7, _⟩ := H6.set (P := P) (L.length + 1 + 1) (n := 4) (o := 0) (ty := t_impl_Job) (w := jv j') g4 rfl e_t_impl_Job (by simp) (by simp) (by simp)
    have e7 : (cu r vc a s :: ((L ++ [.box h.length (encJ j')]) ++ [.box (h.length + 1) zJ])).set (L.length + 1 + 1) (.box (h.length + 1) (splice zJ 0 (jv j').cells.toList)) = cu r vc a s :: ((L ++ [.box h.length (encJ j')]) ++ [.box (h.length + 1) (encJ j')]) := by
      rw [List.set_cons_succ, List.append_assoc, List.set_append_right (h := by omega), Nat.add_sub_cancel_left, List.append_assoc]; rfl
    rw [e7] at H7
    have l7 := H7.bl (P := P) (L.length + 1 + 1) 4 g4 rfl t_impl_Job 0
    refine ⟨h6, h7, s6, by rw [l6]; simp [encJ], s7, by rw [l7]; simp [encJ], fun u => onK hK ⟨j', rfl, C.gc (Cur.weak (T := [.box h.length (encJ j')] ++ [.box (h.length + 1) (encJ j')]) ⟨a, s, a0, by omega, by rw [← List.append_assoc]; exact H7⟩)⟩⟩
  simp -implicitDefEqProofs
  refine CL_post (pick_run B C1 (by omega) (k := 4) (by omega)) fun v h2 ⟨x, ev, x0, _, _, C2⟩ => ?_
  subst ev
  by_cases c0 : x = 0
  · subst c0
    simp -implicitDefEqProofs
    refine CL_post (among_run B (C2.lit [0, 50, 51, -1, 4611686018427387904]) (by omega) snoc_get (by simp) (by simp)) fun v h3 ⟨q, ev, _, C3⟩ => ?_
    subst ev
    obtain ⟨h6, h7, s6, l6, s7, l7, f⟩ := fin 0 q ⟨q, j.w, j.r, j.d⟩ h3 (by omega) rfl C3.weak
    simp -implicitDefEqProofs [s6, l6, s7, l7]
    exact f _
  · by_cases c1 : x = 1
    · subst c1
      simp -implicitDefEqProofs
      refine CL_post (among_run B (C2.lit [-1, 50, 51]) (by omega) snoc_get (by simp) (by simp)) fun v h3 ⟨q, ev, _, C3⟩ => ?_
      subst ev
      obtain ⟨h6, h7, s6, l6, s7, l7, f⟩ := fin 1 q ⟨j.t, q, j.r, j.d⟩ h3 (by omega) rfl C3.weak
      simp -implicitDefEqProofs [s6, l6, s7, l7]
      exact f _
    · by_cases c2 : x = 2
      · subst c2
        simp -implicitDefEqProofs
        refine CL_post (among_run B (C2.lit [-1, 500, 501]) (by omega) snoc_get (by simp) (by simp)) fun v h3 ⟨q, ev, _, C3⟩ => ?_
        subst ev
        obtain ⟨h6, h7, s6, l6, s7, l7, f⟩ := fin 2 q ⟨j.t, j.w, q, j.d⟩ h3 (by omega) rfl C3.weak
        simp -implicitDefEqProofs [s6, l6, s7, l7]
        exact f _
      · simp -implicitDefEqProofs [nb c0, nb c1, nb c2]
        refine CL_post (among_run B (C2.lit [-1, 500, 501, -9223372036854775808]) (by omega) snoc_get (by simp) (by simp)) fun v h3 ⟨q, ev, _, C3⟩ => ?_
        subst ev
        obtain ⟨h6, h7, s6, l6, s7, l7, f⟩ := fin 3 q ⟨j.t, j.w, j.r, q⟩ h3 (by omega) rfl C3.weak
        simp -implicitDefEqProofs [s6, l6, s7, l7]
        exact f _
end
end Go.Pm.PP

/- Draws: lists of jobs. -/
set_option linter.unusedVariables false
set_option linter.unusedSimpArgs false
set_option maxRecDepth 4000
set_option maxHeartbeats 16000000
namespace Go.Pm.PP
open Go.Pm Go.Proofs Go.Pm.PE
section
variable {h0 h : Hp} {r n : Nat} {vc : Value} {L : List Asn}
/-- Something is put at the end of a list of one's own that is drawn. -/
theorem Cur.pushJ {u : Value} {js : List Job} (C : Cur h0 h r vc n (L ++ [.own u 4 (js.map encJ)])) (j : Job) (hl : js.length ≤ 2 ^ 40) : ∃ u' h', appendP P (h ++ [some ⟨[.int .i64 j.t, .int .i64 j.w, .int .i64 j.r, .int .i64 j.d], 4, false⟩]) t_S_impl_Job u (.slice (some ⟨h.length, 0, some 4⟩) 1 1) = some (u', h') ∧ Cur h0 h' r vc n (L ++ [.own u' 4 ((js ++ [j]).map encJ)]) := by
  obtain ⟨a, s, h1, h2, H⟩ := C
  obtain ⟨u', h', g1, g2, _⟩ := push_J0 H (L.length + 1) (by rw [List.getElem?_cons_succ]; exact snoc_get) j hl
  refine ⟨u', h', g1, a, s, h1, h2, ?_⟩
  rw [List.set_cons_succ, List.set_append_right (h := Nat.le_refl _), Nat.sub_self] at g2
  exact g2
theorem Cur.seesJ {u : Value} {js : List Job} (C : Cur h0 h r vc n (L ++ [.own u 4 (js.map encJ)])) : Jobs h u js := by
  obtain ⟨a, s, h1, h2, H⟩ := C
  exact H.sees (L.length + 1) (by rw [List.getElem?_cons_succ]; exact snoc_get)
theorem Cur.putJ {u : Value} {js : List Job} (C : Cur h0 h r vc n (L ++ [.own u 4 (js.map encJ)])) {k : Nat} (hk : k < js.length) (j : Job) : ∃ h', storeP P h t_impl_Job (jv j) (.pointer (some (addP (base u) (k * 4)))) = some h' ∧ Cur h0 h' r vc n (L ++ [.own u 4 ((js.set k j).map encJ)]) := by
  obtain ⟨a, s, h1, h2, H⟩ := C
  obtain ⟨h', g1, g2, _⟩ := put_J H (L.length + 1) (by rw [List.getElem?_cons_succ]; exact snoc_get) hk j
  refine ⟨h', g1, a, s, h1, h2, ?_⟩
  rw [List.set_cons_succ, List.set_append_right (h := Nat.le_refl _), Nat.sub_self] at g2
  exact g2
theorem Cur.nil (C : Cur h0 h r vc n L) (α : Type) (enc : α → List Value) (sz : Nat) : Cur h0 h r vc n (L ++ [.own (.slice none 0 0) sz (([] : List α).map enc)]) := by
  obtain ⟨a, s, h1, h2, H⟩ := C
  exact ⟨a, s, h1, h2, H.call List.prefix_rfl (by simpa using Own.nil)⟩
theorem someJobs_run (B : By h0 vc) (C : Cur h0 h r vc n L) (hn : n ≤ 2 ^ 20) {b : Bool} {most : Nat} (hm : most ≤ 8) : RunsC P G n_spec_l1Cur_someJobs [.pointer (some ⟨r, 0, some 3⟩), .bool b, .int .i64 most] h fun v h' => ∃ js : List Job, js.length ≤ 9 ∧ Cur h0 h' r vc (n + 200) (L ++ [.own v 4 (js.map encJ)]) := by
  refine hideC fun K hK => enter_run e_spec_l1Cur_someJobs (by simp) ?_
  simp -implicitDefEqProofs
  refine CL_post (among_run B (C.lit [3, 4, 5, 2, 6, 1, 0]) (by omega) snoc_get (by simp) (by simp)) fun v h1 ⟨x, ev, hx, C1'⟩ => ?_
  subst ev
  have hx2 : 0 ≤ x ∧ x ≤ 6 := by
    simp only [List.mem_cons, List.not_mem_nil, or_false] at hx
    omega
  have C1 := C1'.weak
  obtain ⟨X, hX, hX2⟩ : ∃ X : Int, X = x ∧ 0 ≤ X ∧ X ≤ 9 := ⟨x, rfl, by omega, by omega⟩
  by_cases c : (6 : Int) < most
  case' neg =>
    rw [← hX]
    clear hX
    have C2 : Cur h0 h1 r vc (n + 6) L := C1.mono (by omega)
    obtain ⟨h2, hh2⟩ : ∃ h2, h2 = h1 := ⟨_, rfl⟩
    have c' : ¬ 6 < most := by omega
    simp -implicitDefEqProofs [c, c']
    rw [← hh2] at C2 ⊢
  case' pos =>
    clear hX hX2
    have c' : 6 < most := by omega
    simp -implicitDefEqProofs [c, c']
    refine CL_post (one_run B C1 (by omega) (k := 6) (by omega)) fun v h2 ⟨b2, ev, C1''⟩ => ?_
    subst ev
    clear X
    cases b2
    case' false =>
      obtain ⟨X, hX, hX2⟩ : ∃ X : Int, X = x ∧ 0 ≤ X ∧ X ≤ 9 := ⟨x, rfl, by omega, by omega⟩
      rw [← hX]
      clear hX
      have C2 : Cur h0 h2 r vc (n + 6) L := C1''.mono (by omega)
      simp -implicitDefEqProofs
    case' true =>
      simp -implicitDefEqProofs
      refine CL_post (pick_run B C1'' (by omega) (k := 2) (by omega)) fun v h2 ⟨y, ev, y0, _, y1, C2'⟩ => ?_
      subst ev
      have y2 := y1 (by omega)
      have w7 : IntKind.i64.wrap (7 + y) = 7 + y := by rw [wrap_ok] <;> omega
      obtain ⟨X, hX, hX2⟩ : ∃ X : Int, X = 7 + y ∧ 0 ≤ X ∧ X ≤ 9 := ⟨7 + y, rfl, by omega, by omega⟩
      have C2 : Cur h0 h2 r vc (n + 6) L := C2'.mono (by omega)
      simp -implicitDefEqProofs [w7]
      rw [← hX]
  all_goals
    refine R_loopO (fun m st h' => ∃ (js : List Job) (u : Value), st = [(0, .pointer (some ⟨r, 0, some 3⟩)), (1, .bool b), (2, .int .i64 most), (7, u), (8, .int .i64 m)] ∧ js.length + m ≤ 9 ∧ Cur h0 h' r vc (n + 6 + 8 * js.length) (L ++ [.own u 4 (js.map encJ)])) (fun I hI m st h' => ?_) (n := X.toNat) ⟨[], .slice none 0 0, by simp; omega, by simp; omega, C2.nil Job encJ 4⟩
    rintro ⟨js, u, rfl, hj, C3⟩
    obtain ⟨ua, uc, rfl⟩ : ∃ a c, u = .slice a js.length c := C3.seesJ.shapeT
    by_cases c1 : 0 < m
    case' pos =>
      by_cases c2 : js.length < most
      case pos =>
        have w1 : IntKind.i64.wrap ((m : Int) - 1) = ((m - 1 : Nat) : Int) := by rw [wrap_ok] <;> omega
        have c1' : (0 : Int) < m := by omega
        have c2' : (js.length : Int) < most := by omega
        simp -implicitDefEqProofs [c1, c1', c2, c2']
        refine CL_post (job_run B C3 (by omega) (b := b)) fun v h4 ⟨j, ev, C4⟩ => ?_
        subst ev
        obtain ⟨u', h5, ha, C5⟩ := C4.pushJ j (by omega)
        simp -implicitDefEqProofs [ha, w1]
        exact ⟨m - 1, by omega, on hI ⟨js ++ [j], u', rfl, by simp; omega, by
          have e : n + 6 + 8 * (js ++ [j]).length = n + 6 + 8 * js.length + 8 := by simp; omega
          rw [e]; exact C5⟩⟩
      case' neg =>
        have c1' : (0 : Int) < m := by omega
        have c2' : ¬ (js.length : Int) < most := by omega
        simp -implicitDefEqProofs [c1, c1', c2, c2']
    case' neg =>
      have c1' : ¬ (0 : Int) < m := by omega
      simp -implicitDefEqProofs [c1, c1']
    all_goals
      by_cases c3 : 0 < js.length
      case' neg =>
        have c3' : ¬ (0 : Int) < js.length := by omega
        have C5 : Cur h0 h' r vc (n + 86) (L ++ [.own (.slice ua js.length uc) 4 (js.map encJ)]) := C3.mono (by omega)
        have hl5 : js.length ≤ 9 := by omega
        simp -implicitDefEqProofs [c3, c3']
      case' pos =>
        have c3' : (0 : Int) < js.length := by omega
        simp -implicitDefEqProofs [c3, c3']
        refine CL_post (one_run B C3 (by omega) (k := 20) (by omega)) fun v h4 ⟨b3, ev, C4⟩ => ?_
        subst ev
        cases b3
        case' false =>
          have C5 : Cur h0 h4 r vc (n + 86) (L ++ [.own (.slice ua js.length uc) 4 (js.map encJ)]) := C4.mono (by omega)
          have hl5 : js.length ≤ 9 := by omega
          simp -implicitDefEqProofs
        case' true =>
          simp -implicitDefEqProofs
          refine CL_post (pick_run B C4 (by omega) (k := js.length) (by omega)) fun v h5 ⟨q, ev, q0, _, q1, C5'⟩ => ?_
          subst ev
          obtain ⟨k, rfl⟩ : ∃ k : Nat, q = k := ⟨q.toNat, by omega⟩
          have hk : k < js.length := by have := q1 (by omega); omega
          obtain ⟨y, hy, _⟩ := drop_at hk
          have ly := load_J C5'.seesJ hy
          simp -implicitDefEqProofs [-indexAddrP_some, ly]
          refine CL_post (spoiltJob_run B C5' (by omega) (j := y)) fun v h6 ⟨j', ev, C6'⟩ => ?_
          subst ev
          have ix := (load_J C6'.seesJ hy).1
          obtain ⟨h7, s7, C7⟩ := C6'.putJ hk j'
          have C5 : Cur h0 h7 r vc (n + 86) (L ++ [.own (.slice ua js.length uc) 4 ((js.set k j').map encJ)]) := C7.mono (by omega)
          have hl5 : (js.set k j').length ≤ 9 := by rw [List.length_set]; omega
          simp -implicitDefEqProofs [-indexAddrP_some, ix, s7]
      all_goals
        refine CL_post (one_run B C5 (by omega) (k := 60) (by omega)) fun v h8 ⟨b4, ev, C8⟩ => ?_
        subst ev
        cases b4
        case false =>
          simp -implicitDefEqProofs
          exact onK hK ⟨_, hl5, C.gcO (C8.mono (by omega)) (fun h => h)⟩
        case true =>
          simp -implicitDefEqProofs
          refine R_loopO (fun m st h' => ∃ (js : List Job) (u : Value), st = [(0, .pointer (some ⟨r, 0, some 3⟩)), (1, .bool b), (7, u)] ∧ js.length + m = 9 ∧ Cur h0 h' r vc (n + 88 + 8 * js.length) (L ++ [.own u 4 (js.map encJ)])) (fun I2 hI2 m2 st h' => ?_) (n := 9 - js.length) ⟨_, _, by simp, ?_, C8.mono (by omega)⟩
          · rintro ⟨js2, u2, rfl, hj2, C9⟩
            obtain ⟨ub, ud, rfl⟩ : ∃ a c, u2 = .slice a js2.length c := C9.seesJ.shapeT
            by_cases c9 : js2.length < 9
            · have c9' : (js2.length : Int) < 9 := by omega
              simp -implicitDefEqProofs [c9, c9']
              refine CL_post (job_run B C9 (by omega) (b := b)) fun v h10 ⟨j, ev, C10⟩ => ?_
              subst ev
              obtain ⟨u', h11, ha, C11⟩ := C10.pushJ j (by omega)
              simp -implicitDefEqProofs [ha]
              exact ⟨m2 - 1, by omega, on hI2 ⟨js2 ++ [j], u', rfl, by simp; omega, by
                have e : n + 88 + 8 * (js2 ++ [j]).length = n + 88 + 8 * js2.length + 8 := by simp; omega
                rw [e]; exact C11⟩⟩
            · have c9' : ¬ (js2.length : Int) < 9 := by omega
              simp -implicitDefEqProofs [c9, c9']
              exact onK hK ⟨js2, by omega, C.gcO (C9.mono (by omega)) (fun h => h)⟩
          · first | omega | (rw [List.length_set]; omega)
end
end Go.Pm.PP

/- Draws: orders; the draw of jobs, an order and an objective. -/
set_option linter.unusedVariables false
set_option linter.unusedSimpArgs false
set_option maxRecDepth 4000
set_option maxHeartbeats 16000000
namespace Go.Pm.PP
open Go.Pm Go.Proofs Go.Pm.PE
section
variable {h0 h : Hp} {r n : Nat} {vc : Value} {L : List Asn}
theorem Cur.join {h1 : Hp} {A : Asn} (C : Cur h0 h r vc n L) (D : Holds h h1 [A]) : Cur h0 h1 r vc n (L ++ [A]) := by
  obtain ⟨a, s, g1, g2, H⟩ := C
  exact ⟨a, s, g1, g2, H.join D⟩
end
end Go.Pm.PP

/- Values, best orders and exchanges, as the programs export them. -/
set_option linter.unusedVariables false
set_option linter.unusedSimpArgs false
set_option maxRecDepth 4000
set_option maxHeartbeats 8000000
namespace Go.Pm.PP
open Go.Pm Go.Proofs Go.Pm.PE
/-! ### bounds -/
theorem endGo_bd {js : List Job} (hg : goodL js = true) : ∀ {xs : List Int} {now : Int} {E : List Int} {k : Nat}, inN js.length xs → 0 ≤ now → now ≤ 550 * k → (∀ e, e ∈ E → 0 ≤ e ∧ e ≤ 550 * (k + xs.length : Nat)) → ∀ e, e ∈ endGo js xs now E → 0 ≤ e ∧ e ≤ 550 * (k + xs.length : Nat)
  | [], now, E, k, _, _, _, hE, e, he => hE e he
  | x :: r, now, E, k, hin, h0, h1, hE, e, he => by
    obtain ⟨i, hi, hil, hy⟩ := jA_get rfl (hin x (List.mem_cons_self ..))
    have jb := job_of (job_at hg hy)
    rw [endGo] at he
    have := endGo_bd hg (xs := r) (now := max now (jA js x).r + (jA js x).t) (k := k + 1) (fun y hy => hin y (List.mem_cons_of_mem _ hy)) (by omega) (by omega) (fun e he => by
      rcases List.mem_or_eq_of_mem_set he with g | g
      · have := hE e g
        simp only [List.length_cons] at this
        omega
      · omega) e he
    simp only [List.length_cons]
    omega
def jOk (js : List Job) : Bool := decide (js.length ≤ 8) && goodL js
def okV (js : List Job) (xs : List Int) (o : Int) : Bool := (jOk js && l2OrderL js.length xs) && inB o 1 8
def okB (js : List Job) (o : Int) : Bool := jOk js && inB o 1 8
theorem jOk_of {js : List Job} (h : jOk js = true) : js.length ≤ 8 ∧ goodL js = true := by
  rw [jOk, Bool.and_eq_true, decide_eq_true_eq] at h; exact h
theorem inB_of {o : Int} (h : inB o 1 8 = true) : 1 ≤ o ∧ o ≤ 8 := by simpa [inB] using h
theorem ord_of {n : Nat} {xs : List Int} (hf : l2OrderL n xs = true) : Ord n xs := by
  rw [l2OrderL, Bool.and_eq_true, Bool.and_eq_true] at hf
  obtain ⟨⟨h1, h2⟩, h3⟩ := hf
  have hl : n ≤ 8 := by simp only [inB, Bool.and_eq_true, decide_eq_true_eq] at h1; omega
  have := order_eq (n := n) (xs := xs) hl
  rw [h2, h3, Bool.true_and, Bool.true_and] at this
  have wn : w64 ((n : Int) - 1) = (n : Int) - 1 := by unfold w64; rw [wrap_ok] <;> omega
  obtain ⟨g1, g2, _⟩ := (arGo_iff wn).1 this
  exact ⟨by have := beq_iff_eq.1 h2; omega, g1, g2⟩
theorem ord_ok {n : Nat} {xs : List Int} (hn : n ≤ 8) (o : Ord n xs) : l2OrderL n xs = true := by
  have := order_eq (n := n) (xs := xs) hn
  have wn : w64 ((n : Int) - 1) = (n : Int) - 1 := by unfold w64; rw [wrap_ok] <;> omega
  have h1 : arGo n [] xs = true := (arGo_iff wn).2 ⟨o.inn, o.nd, by simp⟩
  have h2 : ((xs.length : Int) == n) = true := by rw [beq_iff_eq, o.len]
  rw [h1, h2, Bool.true_and, Bool.true_and] at this
  rw [l2OrderL, h2, ← this]
  simp [inB]; omega
theorem okV_of {js : List Job} {xs : List Int} {o : Int} (h : okV js xs o = true) : js.length ≤ 8 ∧ goodL js = true ∧ Ord js.length xs ∧ (1 ≤ o ∧ o ≤ 8) := by
  rw [okV, Bool.and_eq_true, Bool.and_eq_true] at h
  obtain ⟨⟨h1, h2⟩, h3⟩ := h
  exact ⟨(jOk_of h1).1, (jOk_of h1).2, ord_of h2, inB_of h3⟩
theorem isObjective_run {h : Hp} {x : Int} : Ret P G n_impl_isObjective [.int .i64 x] h (.bool (inB x 1 8)) h := by
  refine enter_run e_impl_isObjective (by simp) ?_
  simp -implicitDefEqProofs [CL_ret within_run]
section
variable {h : Hp} {v u : Value} {js : List Job} {xs : List Int} {o : Int}
theorem good_run (hj : Jobs h v js) (hl : js.length ≤ 2 ^ 40) : Ret P G n_spec_l2Good [v] h (.bool (jOk js)) h := l2Good_run hj hl
theorem isJobs_run (hj : Jobs h v js) (hl : js.length ≤ 2 ^ 40) : Ret P G n_impl_IsJobs [v] h (.bool (jOk js)) h := IsJobs_run hj hl
theorem isScheduled_run (hj : Jobs h v js) (hu : Ints h u xs) (hl : js.length ≤ 2 ^ 40) (hx : xs.length ≤ 2 ^ 40) : Ret P G n_impl_isScheduled [v, u] h (.bool (jOk js && l2OrderL js.length xs)) h := by
  refine enter_run e_impl_isScheduled (by simp) ?_
  have r1 := isJobs_run hj hl
  have r2 := isOrder_run (n := js.length) hu hx
  obtain ⟨oj, cj, rfl⟩ := hj.shapeT
  cases c1 : jOk js
  · simp -implicitDefEqProofs [CL_ret r1, c1]
  · have hn := (jOk_of c1).1
    have e : (((xs.length : Int) == (js.length : Nat)) && arGo js.length [] xs) = l2OrderL js.length xs := by
      rw [order_eq hn, l2OrderL, show inB js.length 0 8 = true by simp [inB]; omega, Bool.true_and]
    rw [e] at r2
    simp -implicitDefEqProofs [CL_ret r1, c1, CL_ret r2]
theorem isValued_run (hj : Jobs h v js) (hu : Ints h u xs) (hl : js.length ≤ 2 ^ 40) (hx : xs.length ≤ 2 ^ 40) : Ret P G n_impl_isValued [v, u, .int .i64 o] h (.bool (okV js xs o)) h := by
  refine enter_run e_impl_isValued (by simp) ?_
  have r1 := isScheduled_run hj hu hl hx
  obtain ⟨oj, cj, rfl⟩ := hj.shapeT
  obtain ⟨oa, ca, rfl⟩ := hu.shapeT
  cases c1 : (jOk js && l2OrderL js.length xs)
  · rw [c1] at r1
    simp -implicitDefEqProofs [CL_ret r1, okV, c1]
  · rw [c1] at r1
    simp -implicitDefEqProofs [CL_ret r1, okV, c1, CL_ret isObjective_run]
def vOf (js : List Job) (xs : List Int) (o : Int) : Int := if okV js xs o = true then valX o js xs else 0
theorem implValueOf_run (hj : Jobs h v js) (hu : Ints h u xs) (hl : js.length ≤ 2 ^ 40) (hx : xs.length ≤ 2 ^ 40) : Ret P G n_impl_ValueOf [v, u, .int .i64 o] h (.tuple #[.int .i64 (vOf js xs o), .bool (okV js xs o)]) h := by
  refine enter_run e_impl_ValueOf (by simp) ?_
  have r1 := isValued_run (o := o) hj hu hl hx
  have hjs := hj
  have hus := hu
  obtain ⟨oj, cj, rfl⟩ := hj.shapeT
  obtain ⟨oa, ca, rfl⟩ := hu.shapeT
  cases c1 : okV js xs o
  · simp -implicitDefEqProofs [CL_ret r1, c1, vOf]
  · obtain ⟨hn, hg, ox, ho⟩ := okV_of c1
    have rv := valueOf_run (o := o) hjs hus hg hn ho ox
    simp -implicitDefEqProofs [CL_ret r1, c1, CL_ret rv, vOf]
def bR (js : List Job) (o : Int) : Sr := if okB js o = true then bestR (valX o js) js.length else sr0
end
end Go.Pm.PP

/- Best values, counts, and exchanges of neighbours, as the programs export them. -/
set_option linter.unusedVariables false
set_option linter.unusedSimpArgs false
set_option maxRecDepth 4000
set_option maxHeartbeats 8000000
namespace Go.Pm.PP
open Go.Pm Go.Proofs Go.Pm.PE
section
variable {h : Hp} {v u : Value} {js : List Job} {xs ys : List Int} {o : Int}
theorem IsBestOrder_run (hj : Jobs h v js) (hu : Ints h u xs) (hl : js.length ≤ 2 ^ 40) (hx : xs.length ≤ 2 ^ 40) (hok : okV js xs o = true) : Ret P G n_impl_IsBestOrder [v, u, .int .i64 o] h (.tuple #[.bool (valX o js xs == bestV o js), .bool true]) h := by
  refine enter_run e_impl_IsBestOrder (by simp) ?_
  have r1 := isValued_run (o := o) hj hu hl hx
  have hjs := hj
  have hus := hu
  obtain ⟨oj, cj, rfl⟩ := hj.shapeT
  obtain ⟨oa, ca, rfl⟩ := hu.shapeT
  obtain ⟨hn, hg, ox, ho⟩ := okV_of hok
  simp -implicitDefEqProofs [CL_ret r1, hok]
  refine CL_post (best_run hjs hg hn ho) fun w h1 ⟨hp1, vf, ev, s1⟩ => ?_
  subst ev
  have rv := valueOf_run (o := o) (hjs.pre hp1) (hus.pre hp1) hg hn ho ox
  simp -implicitDefEqProofs [CL_ret rv, CH_at rv]
  exact gcP hp1 rfl
/-! ### exchanges -/
end
end Go.Pm.PP

/- Exchanges of neighbours in plain terms; the value of an order, told along the order. -/
set_option linter.unusedVariables false
set_option linter.unusedSimpArgs false
namespace Go.Pm.PE
/-! ### exchanges -/
/-! ### sums -/
theorem sum_perm {l l' : List Int} (h : l.Perm l') : l.sum = l'.sum := by
  induction h with
  | nil => rfl
  | cons x _ ih => rw [List.sum_cons, List.sum_cons, ih]
  | swap x y l => simp only [List.sum_cons]; omega
  | trans _ _ h1 h2 => rw [h1, h2]
end Go.Pm.PE
namespace Go.Pm.PP
open Go.Pm Go.Pm.PE
/-! ### along an order -/
def endAt (j : Job) (now : Int) : Int := max now j.r + j.t
def nowGo (js : List Job) : Int → List Int → Int
  | now, [] => now
  | now, x :: r => nowGo js (endAt (jA js x) now) r
def sumGo (o : Int) (js : List Job) : Int → List Int → Int
  | _, [] => 0
  | now, x :: r => costV o (jA js x) (endAt (jA js x) now) + sumGo o js (endAt (jA js x) now) r
/-- The greatest one of a number and the latenesses. -/
def latGo (js : List Job) : Int → Int → List Int → Int
  | _, m, [] => m
  | now, m, x :: r => latGo js (endAt (jA js x) now) (max m (endAt (jA js x) now - (jA js x).d)) r
/-- Costs by the jobs' numbers. -/
def sumE (o : Int) (js : List Job) (E : List Int) (l : List Int) : Int := (l.map fun x => costV o (jA js x) (gE E x.toNat)).sum
theorem end_out {js : List Job} {i : Nat} : ∀ {xs : List Int} {now : Int} {E : List Int}, (∀ y, y ∈ xs → 0 ≤ y) → (i : Int) ∉ xs → gE (endGo js xs now E) i = gE E i
  | [], _, _, _, _ => rfl
  | x :: r, now, E, h0, hi => by
    have hx := h0 x (List.mem_cons_self ..)
    rw [endGo, end_out (fun y hy => h0 y (List.mem_cons_of_mem _ hy)) (fun g => hi (List.mem_cons_of_mem _ g))]
    have : ¬ x.toNat = i := fun g => hi (by rw [← g, show ((x.toNat : Nat) : Int) = x by omega]; exact List.mem_cons_self ..)
    unfold gE
    rw [List.getElem?_set_ne this]
/-- The costs along an order are those of the ends. -/
theorem sum_order {o : Int} {js : List Job} : ∀ {xs : List Int} {now : Int} {E : List Int}, inN E.length xs → xs.Nodup → sumE o js (endGo js xs now E) xs = sumGo o js now xs
  | [], _, _, _, _ => rfl
  | x :: r, now, E, hin, hnd => by
    have hx := hin x (List.mem_cons_self ..)
    have hnd := List.nodup_cons.1 hnd
    have h0 : ∀ y, y ∈ r → 0 ≤ y := fun y hy => (hin y (List.mem_cons_of_mem _ hy)).1
    have ih := sum_order (o := o) (js := js) (xs := r) (now := endAt (jA js x) now) (E := E.set x.toNat (endAt (jA js x) now)) (by rw [List.length_set]; exact fun y hy => hin y (List.mem_cons_of_mem _ hy)) hnd.2
    have he : gE (endGo js r (endAt (jA js x) now) (E.set x.toNat (endAt (jA js x) now))) x.toNat = endAt (jA js x) now := by
      rw [end_out h0 (by rw [show ((x.toNat : Nat) : Int) = x by omega]; exact hnd.1), gE_set (by omega), if_pos rfl]
    have e1 : endGo js (x :: r) now E = endGo js r (endAt (jA js x) now) (E.set x.toNat (endAt (jA js x) now)) := rfl
    rw [e1, sumGo, ← ih]
    show (List.map _ (x :: r)).sum = _
    rw [List.map_cons, List.sum_cons, he]
    rfl
theorem valGo_sum {o : Int} (h1 : ¬ o = 1) (h4 : ¬ o = 4) : ∀ {js : List Job} {es : List Int} {f : Bool} {a : Int}, js.length = es.length → valGo o f a js es = a + ((List.range' 0 js.length).map fun i => costV o ((js[i]?).getD ⟨0, 0, 0, 0⟩) (gE es i)).sum
  | [], [], f, a, _ => by simp [valGo]
  | [], e :: es, f, a, h => by simp at h
  | j :: js, [], f, a, h => by simp at h
  | j :: js, e :: es, f, a, h => by
    rw [valGo, valGo_sum h1 h4 (by simpa using h), List.length_cons, List.range'_succ, List.map_cons, List.sum_cons]
    have e1 : List.range' (0 + 1) js.length = (List.range' 0 js.length).map (1 + ·) := by rw [List.map_add_range' (a := 1)]
    have e2 : stepV o f a j e = a + costV o j e := by unfold stepV; rw [if_neg h1, if_neg h4]
    rw [e1, List.map_map, e2, Int.add_assoc]
    congr 1
    congr 1
    congr 1
    apply List.map_congr_left
    intro i _
    simp [gE, Nat.add_comm 1 i]
/-- An order of n jobs. -/
def Prm (n : Nat) (xs : List Int) : Prop := xs.Perm ((List.range' 0 n).map fun i : Nat => (i : Int))
theorem Prm.inn {n : Nat} {xs : List Int} (h : Prm n xs) : inN n xs := fun x hx => by
  have := h.mem_iff.1 hx
  obtain ⟨i, hi, rfl⟩ := List.mem_map.1 this
  simp [List.mem_range'_1] at hi
  omega
theorem Prm.nd {n : Nat} {xs : List Int} (h : Prm n xs) : xs.Nodup := h.nodup_iff.2 (List.Pairwise.map _ (fun a b h e => h (by omega)) List.nodup_range')
theorem Prm.len {n : Nat} {xs : List Int} (h : Prm n xs) : xs.length = n := by rw [h.length_eq]; simp
/-- Sums along an order. -/
theorem val_sum {o : Int} {js : List Job} {xs : List Int} (h1 : ¬ o = 1) (h4 : ¬ o = 4) (h : Prm js.length xs) : valE o js (endsL js xs) = sumGo o js 0 xs := by
  have hl : (List.replicate js.length (0 : Int)).length = js.length := by simp
  have e1 := sum_order (o := o) (js := js) (xs := xs) (now := 0) (E := List.replicate js.length 0) (by rw [hl]; exact h.inn) h.nd
  unfold valE
  rw [valGo_sum h1 h4 endsL_len.symm, Int.zero_add, ← e1]
  unfold sumE
  rw [sum_perm (h.map fun x => costV o (jA js x) (gE (endGo js xs 0 (List.replicate js.length 0)) x.toNat)), List.map_map]
  rfl
/-! ### the greatest lateness -/
def mxE (js : List Job) (E : List Int) (m : Int) (l : List Int) : Int := l.foldl (fun m x => max m (gE E x.toNat - (jA js x).d)) m
theorem mxE_perm {js : List Job} {E : List Int} {l l' : List Int} (h : l.Perm l') : ∀ {m : Int}, mxE js E m l = mxE js E m l' := by
  induction h with
  | nil => intro m; rfl
  | cons x _ ih => intro m; exact ih
  | swap x y l => intro m; unfold mxE; simp only [List.foldl_cons]; congr 1; omega
  | trans _ _ h1 h2 => intro m; rw [h1, h2]
theorem lat_order {js : List Job} : ∀ {xs : List Int} {now m : Int} {E : List Int}, inN E.length xs → xs.Nodup → mxE js (endGo js xs now E) m xs = latGo js now m xs
  | [], _, _, _, _, _ => rfl
  | x :: r, now, m, E, hin, hnd => by
    have hx := hin x (List.mem_cons_self ..)
    have hnd := List.nodup_cons.1 hnd
    have h0 : ∀ y, y ∈ r → 0 ≤ y := fun y hy => (hin y (List.mem_cons_of_mem _ hy)).1
    have ih := lat_order (js := js) (xs := r) (now := endAt (jA js x) now) (m := max m (endAt (jA js x) now - (jA js x).d)) (E := E.set x.toNat (endAt (jA js x) now)) (by rw [List.length_set]; exact fun y hy => hin y (List.mem_cons_of_mem _ hy)) hnd.2
    have he : gE (endGo js r (endAt (jA js x) now) (E.set x.toNat (endAt (jA js x) now))) x.toNat = endAt (jA js x) now := by
      rw [end_out h0 (by rw [show ((x.toNat : Nat) : Int) = x by omega]; exact hnd.1), gE_set (by omega), if_pos rfl]
    have e1 : endGo js (x :: r) now E = endGo js r (endAt (jA js x) now) (E.set x.toNat (endAt (jA js x) now)) := rfl
    rw [e1, latGo, ← ih]
    unfold mxE
    rw [List.foldl_cons, he]
theorem valGo_lat : ∀ {js : List Job} {es : List Int} {a : Int}, js.length = es.length → valGo 4 false a js es = (List.range' 0 js.length).foldl (fun m i => max m (gE es i - ((js[i]?).getD ⟨0, 0, 0, 0⟩).d)) a
  | [], [], a, _ => by simp [valGo]
  | [], e :: es, a, h => by simp at h
  | j :: js, [], a, h => by simp at h
  | j :: js, e :: es, a, h => by
    rw [valGo, valGo_lat (by simpa using h), List.length_cons, List.range'_succ, List.foldl_cons]
    have e1 : List.range' (0 + 1) js.length = (List.range' 0 js.length).map (1 + ·) := by rw [List.map_add_range' (a := 1)]
    rw [e1, List.foldl_map]
    have e2 : stepV 4 false a j e = max a (gE (e :: es) 0 - (((j :: js)[0]?).getD (⟨0, 0, 0, 0⟩ : Job)).d) := rfl
    rw [e2]
    exact fold_congr fun i _ m => by simp [gE, Nat.add_comm 1 i]
/-- The greatest lateness along an order: no number below all of them changes it. -/
theorem val_lat {js : List Job} {xs : List Int} (h : Prm js.length xs) {m : Int} (hm : ∃ x, x ∈ xs ∧ m ≤ gE (endsL js xs) x.toNat - (jA js x).d) : valE 4 js (endsL js xs) = latGo js 0 m xs := by
  have hl : (List.replicate js.length (0 : Int)).length = js.length := by simp
  have e1 := lat_order (js := js) (xs := xs) (now := 0) (m := m) (E := List.replicate js.length 0) (by rw [hl]; exact h.inn) h.nd
  rw [← e1, mxE_perm h]
  unfold valE
  have hel : (endsL js xs).length = js.length := endsL_len
  obtain ⟨x, hx, hmx⟩ := hm
  have hxm := h.mem_iff.1 hx
  show _ = mxE js (endsL js xs) m _
  generalize endsL js xs = es at *
  cases js with
  | nil => simp at hxm
  | cons j js =>
    cases es with
    | nil => simp at hel
    | cons e es =>
      have hmax : ∀ {l : List Int} {a b : Int}, (b ≤ a ∨ ∃ x, x ∈ l ∧ b ≤ gE (e :: es) x.toNat - (jA (j :: js) x).d) → mxE (j :: js) (e :: es) (max b a) l = mxE (j :: js) (e :: es) a l := by
        intro l
        induction l with
        | nil => intro a b g; rcases g with g | ⟨x, g, _⟩; (show max b a = a; omega); cases g
        | cons y l ih =>
          intro a b g
          unfold mxE at ih ⊢
          rw [List.foldl_cons, List.foldl_cons]
          rw [show max (max b a) (gE (e :: es) y.toNat - (jA (j :: js) y).d) = max b (max a (gE (e :: es) y.toNat - (jA (j :: js) y).d)) by omega]
          refine ih ?_
          rcases g with g | ⟨x, g, hb⟩
          · left; omega
          · rcases List.mem_cons.1 g with rfl | g
            · left; omega
            · exact .inr ⟨x, g, hb⟩
      rw [valGo, valGo_lat (by simpa using hel.symm)]
      rw [List.length_cons, List.range'_succ, List.map_cons]
      have e2 : stepV 4 true 0 j e = gE (e :: es) 0 - (jA (j :: js) 0).d := by simp [stepV, gE, jA]
      have e3 : List.foldl (fun m i => max m (gE es i - ((js[i]?).getD ⟨0, 0, 0, 0⟩).d)) (gE (e :: es) 0 - (jA (j :: js) 0).d) (List.range' 0 js.length) = mxE (j :: js) (e :: es) (gE (e :: es) 0 - (jA (j :: js) 0).d) ((List.range' (0 + 1) js.length).map fun i : Nat => (i : Int)) := by
        have e1 : List.range' (0 + 1) js.length = (List.range' 0 js.length).map (1 + ·) := by rw [List.map_add_range' (a := 1)]
        unfold mxE
        rw [e1, List.map_map, List.foldl_map]
        exact fold_congr fun i _ m => by simp [Function.comp, jA, Int.toNat_natCast, gE, Nat.add_comm 1 i]
      rw [e2, e3]
      show mxE _ _ _ _ = mxE _ _ (max m (gE (e :: es) ((0 : Nat) : Int).toNat - (jA (j :: js) ((0 : Nat) : Int)).d)) _
      rw [hmax]
      · rfl
      · rw [List.length_cons, List.range'_succ, List.map_cons] at hxm
        rcases List.mem_cons.1 hxm with g | g
        · left; rw [g] at hmx; exact hmx
        · exact .inr ⟨x, g, hmx⟩
end Go.Pm.PP

/- Exchanges of neighbours for jobs without releases: sums, weighted sums, lateness; losses by inversions. -/
set_option linter.unusedVariables false
set_option linter.unusedSimpArgs false
namespace Go.Pm.PP
open Go.Pm Go.Pm.PE
/-- Jobs without releases. -/
structure Pl (js : List Job) : Prop where
  r : ∀ x, (jA js x).r = 0
  t : ∀ x, 0 ≤ (jA js x).t
theorem Pl.endAt {js : List Job} (p : Pl js) {x now : Int} (h : 0 ≤ now) : endAt (jA js x) now = now + (jA js x).t := by
  unfold PP.endAt; rw [p.r]; omega
theorem Pl.now {js : List Job} (p : Pl js) : ∀ {A : List Int} {now : Int}, 0 ≤ now → 0 ≤ nowGo js now A
  | [], _, h => h
  | x :: A, now, h => by
    rw [nowGo, p.endAt h]
    exact p.now (by have := p.t x; omega)
/-! ### inversions -/
end Go.Pm.PP

/- Sorting in plain terms: the program's from behind, the reference's from the front. -/
set_option linter.unusedVariables false
set_option linter.unusedSimpArgs false
namespace Go.Pm.PE
variable {ah : Int → Int → Bool}
/-- A relation by which x goes ahead. -/
structure Weak (ah : Int → Int → Bool) : Prop where
  asy : ∀ {a b}, ah a b = true → ah b a = false
  tr : ∀ {a b c}, ah a b = false → ah b c = false → ah a c = false
/-! ### from the front -/
end Go.Pm.PE

/- Sets as binary digits, in plain terms. -/
set_option linter.unusedVariables false
set_option linter.unusedSimpArgs false
namespace Go.Pm.PE
end Go.Pm.PE

/- The table of the least values of sets, in plain terms. -/
set_option linter.unusedVariables false
set_option linter.unusedSimpArgs false
namespace Go.Pm.PP
open Go.Pm Go.Pm.PE
/-- Costs are bounded, and no less for later ends. -/
structure Cb (o : Int) (js : List Job) : Prop where
  lo : ∀ x e, 0 ≤ e → 0 ≤ costV o (jA js x) e
  hi : ∀ x e, 0 ≤ e → e ≤ 2 ^ 20 → costV o (jA js x) e ≤ 2 ^ 27
  mo : ∀ x e e', 0 ≤ e → e ≤ e' → costV o (jA js x) e ≤ costV o (jA js x) e'
end Go.Pm.PP

/- Ruled orders, due orders, inversions, in plain terms. -/
set_option linter.unusedVariables false
set_option linter.unusedSimpArgs false
namespace Go.Pm.PP
open Go.Pm Go.Pm.PE
/-! ### the list of inversions -/
/-! ### due order -/
/-! ### timely -/
end Go.Pm.PP

/- The last end of an order; sets of digits of any length. -/
set_option linter.unusedVariables false
set_option linter.unusedSimpArgs false
namespace Go.Pm.PE
end Go.Pm.PE
namespace Go.Pm.PP
open Go.Pm Go.Pm.PE
end Go.Pm.PP

/- Ruled orders are best, in plain terms: the last end too. -/
set_option linter.unusedVariables false
set_option linter.unusedSimpArgs false
namespace Go.Pm.PP
open Go.Pm Go.Pm.PE
end Go.Pm.PP

/- Fronts of points, in plain terms. -/
set_option linter.unusedVariables false
set_option linter.unusedSimpArgs false
namespace Go.Pm.PE
abbrev Pt := Int × Int
def domB (p q : Pt) : Bool := !(p.1 == q.1 && p.2 == q.2) && decide (p.1 ≤ q.1) && decide (p.2 ≤ q.2)
def sameB (p q : Pt) : Bool := p.1 == q.1 && p.2 == q.2
theorem sameB_iff {p q : Pt} : sameB p q = true ↔ p = q := by
  unfold sameB; rw [Bool.and_eq_true, beq_iff_eq, beq_iff_eq]
  constructor
  · rintro ⟨h1, h2⟩; exact Prod.ext h1 h2
  · rintro rfl; exact ⟨rfl, rfl⟩
theorem domB_iff {p q : Pt} : domB p q = true ↔ p ≠ q ∧ p.1 ≤ q.1 ∧ p.2 ≤ q.2 := by
  have := @sameB_iff p q
  unfold sameB at this
  unfold domB
  rw [Bool.and_eq_true, Bool.and_eq_true, Bool.not_eq_true', decide_eq_true_eq, decide_eq_true_eq, ← Bool.not_eq_true, this, and_assoc]
def insP (p : Pt) : List Pt → List Pt
  | [] => [p]
  | q :: l => if p.1 < q.1 then p :: q :: l else q :: insP p l
theorem insP_perm {p : Pt} : ∀ {l : List Pt}, (insP p l).Perm (p :: l)
  | [] => List.Perm.refl _
  | q :: l => by
    rw [insP]; split
    · exact List.Perm.refl _
    · exact (List.Perm.cons q insP_perm).trans (List.Perm.swap ..)
/-- A point or one that dominates it is there. -/
def coverB (F : List Pt) (p : Pt) : Bool := F.any fun q => sameB q p || domB q p
def restF (F : List Pt) (p : Pt) : List Pt := F.filter fun q => !domB p q
def putF (F : List Pt) (p : Pt) : List Pt := if coverB F p = true then F else insP p (restF F p)
def Srt (F : List Pt) : Prop := F.Pairwise fun a b => a.1 < b.1 ∧ b.2 < a.2
theorem rest_srt {F : List Pt} {p : Pt} (h : Srt F) : Srt (restF F p) := h.sublist List.filter_sublist
theorem rest_mem {F : List Pt} {p q : Pt} : q ∈ restF F p ↔ q ∈ F ∧ domB p q = false := by
  unfold restF; rw [List.mem_filter]; simp
theorem cover_iff {F : List Pt} {p : Pt} : coverB F p = true ↔ ∃ q, q ∈ F ∧ q.1 ≤ p.1 ∧ q.2 ≤ p.2 := by
  unfold coverB
  rw [List.any_eq_true]
  constructor
  · rintro ⟨q, hq, h⟩
    rw [Bool.or_eq_true, sameB_iff, domB_iff] at h
    refine ⟨q, hq, ?_⟩
    rcases h with rfl | h
    · exact ⟨Int.le_refl _, Int.le_refl _⟩
    · exact h.2
  · rintro ⟨q, hq, h1, h2⟩
    refine ⟨q, hq, ?_⟩
    rw [Bool.or_eq_true, sameB_iff, domB_iff]
    by_cases e : q = p
    · exact .inl e
    · exact .inr ⟨e, h1, h2⟩
/-- What is left and the new point part in both numbers. -/
theorem rest_part {F : List Pt} {p q : Pt} (hc : coverB F p = false) (hq : q ∈ restF F p) : (q.1 < p.1 ∧ p.2 < q.2) ∨ (p.1 < q.1 ∧ q.2 < p.2) := by
  obtain ⟨h1, h2⟩ := rest_mem.1 hq
  have h3 : ¬ (q.1 ≤ p.1 ∧ q.2 ≤ p.2) := fun g => by
    have := cover_iff.2 ⟨q, h1, g⟩
    rw [this] at hc; cases hc
  have h4 : ¬ (p ≠ q ∧ p.1 ≤ q.1 ∧ p.2 ≤ q.2) := fun g => by
    rw [domB_iff.2 g] at h2; cases h2
  have h5 : ¬ (p.1 ≤ q.1 ∧ p.2 ≤ q.2) := fun g => h4 ⟨fun e => h3 (by rw [e]; exact ⟨Int.le_refl _, Int.le_refl _⟩), g⟩
  omega
theorem insP_srt {p : Pt} : ∀ {l : List Pt}, Srt l → (∀ q, q ∈ l → (q.1 < p.1 ∧ p.2 < q.2) ∨ (p.1 < q.1 ∧ q.2 < p.2)) → Srt (insP p l)
  | [], _, _ => by rw [insP]; exact List.pairwise_singleton ..
  | q :: l, h, hp => by
    have h := List.pairwise_cons.1 h
    have hq := hp q (List.mem_cons_self ..)
    rw [insP]; split
    · rename_i g
      refine List.pairwise_cons.2 ⟨fun z hz => ?_, List.pairwise_cons.2 h⟩
      rcases List.mem_cons.1 hz with rfl | hz
      · omega
      · have := h.1 z hz; omega
    · rename_i g
      refine List.pairwise_cons.2 ⟨fun z hz => ?_, insP_srt h.2 fun z hz => hp z (List.mem_cons_of_mem _ hz)⟩
      rcases List.mem_cons.1 (insP_perm.mem_iff.1 hz) with rfl | hz
      · omega
      · exact h.1 z hz
theorem putF_srt {F : List Pt} {p : Pt} (h : Srt F) : Srt (putF F p) := by
  unfold putF; split
  · exact h
  · rename_i hc
    exact insP_srt (rest_srt h) fun q hq => rest_part (by simpa using hc) hq
theorem putF_mem {F : List Pt} {p q : Pt} (h : q ∈ putF F p) : q = p ∨ q ∈ F := by
  unfold putF at h; split at h
  · exact .inr h
  · rcases List.mem_cons.1 (insP_perm.mem_iff.1 h) with g | g
    · exact .inl g
    · exact .inr (rest_mem.1 g).1
theorem putF_cover {F : List Pt} {p r : Pt} (h : r = p ∨ ∃ q, q ∈ F ∧ q.1 ≤ r.1 ∧ q.2 ≤ r.2) : ∃ q, q ∈ putF F p ∧ q.1 ≤ r.1 ∧ q.2 ≤ r.2 := by
  unfold putF; split
  · rename_i hc
    rcases h with rfl | h
    · exact cover_iff.1 hc
    · exact h
  · have hp : p ∈ insP p (restF F p) := insP_perm.mem_iff.2 (List.mem_cons_self ..)
    rcases h with rfl | ⟨q, hq, h1, h2⟩
    · exact ⟨r, hp, Int.le_refl _, Int.le_refl _⟩
    · cases hd : domB p q with
      | true =>
        have := domB_iff.1 hd
        exact ⟨p, hp, by omega, by omega⟩
      | false => exact ⟨q, insP_perm.mem_iff.2 (List.mem_cons_of_mem _ (rest_mem.2 ⟨hq, hd⟩)), h1, h2⟩
/-- A front of the points of some things. -/
theorem front_fold {α : Type} {pt : α → Pt} : ∀ {l : List α} {F : List Pt} {S : Pt → Prop}, Srt F → (∀ q, q ∈ F → S q) → (∀ x, x ∈ l → S (pt x)) →
    Srt (l.foldl (fun F x => putF F (pt x)) F) ∧ (∀ q, q ∈ l.foldl (fun F x => putF F (pt x)) F → S q) ∧ ∀ r, ((∃ x, x ∈ l ∧ r = pt x) ∨ ∃ q, q ∈ F ∧ q.1 ≤ r.1 ∧ q.2 ≤ r.2) → ∃ q, q ∈ l.foldl (fun F x => putF F (pt x)) F ∧ q.1 ≤ r.1 ∧ q.2 ≤ r.2
  | [], F, S, h, hS, _ => ⟨h, hS, fun r hr => by
      rcases hr with ⟨x, hx, _⟩ | g
      · cases hx
      · exact g⟩
  | x :: l, F, S, h, hS, hl => by
    rw [List.foldl_cons]
    obtain ⟨h1, h2, h3⟩ := front_fold (l := l) (F := putF F (pt x)) (S := S) (putF_srt h) (fun q hq => by
      rcases putF_mem hq with rfl | g
      · exact hl x (List.mem_cons_self ..)
      · exact hS q g) fun y hy => hl y (List.mem_cons_of_mem _ hy)
    refine ⟨h1, h2, fun r hr => h3 r ?_⟩
    rcases hr with ⟨y, hy, e⟩ | g
    · rcases List.mem_cons.1 hy with rfl | hy
      · exact .inr (putF_cover (.inl e))
      · exact .inl ⟨y, hy, e⟩
    · exact .inr (putF_cover (.inr g))
/-! ### the first one that fits -/
end Go.Pm.PE
namespace Go.Pm.PP
open Go.Pm Go.Pm.PE
end Go.Pm.PP
namespace Go.Pm.PE
/-- A front with bounded first numbers is not long. -/
def FOk (F : List Pt) : Prop := Srt F ∧ ∀ q, q ∈ F → -(2 ^ 30) ≤ q.1 ∧ q.1 ≤ 2 ^ 30
theorem srt_len : ∀ {F : List Pt} {a : Int}, Srt F → (∀ q, q ∈ F → a ≤ q.1 ∧ q.1 ≤ 2 ^ 30) → a ≤ 2 ^ 30 + 1 → (F.length : Int) ≤ 2 ^ 30 + 1 - a
  | [], a, _, _, ha => by simp; omega
  | q :: F, a, h, hb, ha => by
    have h := List.pairwise_cons.1 h
    have hq := hb q (List.mem_cons_self ..)
    have := srt_len (F := F) (a := q.1 + 1) h.2 (fun z hz => by have := h.1 z hz; have := hb z (List.mem_cons_of_mem _ hz); omega) (by omega)
    rw [List.length_cons]; omega
theorem FOk.len {F : List Pt} (h : FOk F) : F.length ≤ 2 ^ 32 := by
  have := srt_len h.1 h.2 (by omega); omega
theorem FOk.put {F : List Pt} (h : FOk F) {p : Pt} (hp : -(2 ^ 30) ≤ p.1 ∧ p.1 ≤ 2 ^ 30) : FOk (putF F p) := ⟨putF_srt h.1, fun q hq => by
  rcases putF_mem hq with rfl | g
  · exact hp
  · exact h.2 q g⟩
theorem FOk.nil : FOk [] := ⟨List.Pairwise.nil, fun q hq => by cases hq⟩
end Go.Pm.PE

/- Tables of truth values and their closures, in plain terms. -/
set_option linter.unusedVariables false
set_option linter.unusedSimpArgs false
namespace Go.Pm.PE
def tG (T : List (List Bool)) (a b : Nat) : Bool := (((T[a]?).getD [])[b]?).getD false
def tS (T : List (List Bool)) (a b : Nat) (x : Bool) : List (List Bool) := T.set a (((T[a]?).getD []).set b x)
structure TOk (n : Nat) (T : List (List Bool)) : Prop where
  len : T.length = n
  row : ∀ r, r ∈ T → r.length = n
theorem TOk.at {n : Nat} {T : List (List Bool)} (k : TOk n T) {a : Nat} (ha : a < n) : ∃ r, T[a]? = some r ∧ r.length = n := by
  obtain ⟨r, hr, _⟩ := drop_at (show a < T.length by rw [k.len]; exact ha)
  exact ⟨r, hr, k.row r (List.mem_of_getElem? hr)⟩
theorem TOk.cell {n : Nat} {T : List (List Bool)} (k : TOk n T) {a b : Nat} (ha : a < n) (hb : b < n) : ∃ r, T[a]? = some r ∧ r.length = n ∧ r[b]? = some (tG T a b) := by
  obtain ⟨r, hr, hl⟩ := k.at ha
  obtain ⟨x, hx, _⟩ := drop_at (show b < r.length by omega)
  exact ⟨r, hr, hl, by simp [tG, hr, hx]⟩
theorem TOk.set {n : Nat} {T : List (List Bool)} (k : TOk n T) {a b : Nat} {x : Bool} (ha : a < n) : TOk n (tS T a b x) := by
  obtain ⟨r, hr, hl⟩ := k.at ha
  refine ⟨by unfold tS; rw [List.length_set, k.len], fun q hq => ?_⟩
  unfold tS at hq
  rw [hr, Option.getD_some] at hq
  rcases List.mem_or_eq_of_mem_set hq with g | g
  · exact k.row q g
  · rw [g, List.length_set, hl]
/-! ### closures -/
def falT (n : Nat) : List (List Bool) := List.replicate n (List.replicate n false)
def edT (T : List (List Bool)) (es : List (Int × Int)) : List (List Bool) := es.foldl (fun T e => tS T e.1.toNat e.2.toNat true) T
def cst (k i : Nat) (T : List (List Bool)) (j : Nat) : List (List Bool) := tS T i j (tG T i j || (tG T i k && tG T k j))
def cJ (k i : Nat) (T : List (List Bool)) (l : List Nat) : List (List Bool) := l.foldl (cst k i) T
def cI (n k : Nat) (T : List (List Bool)) (l : List Nat) : List (List Bool) := l.foldl (fun T i => cJ k i T (List.range' 0 n)) T
def cK (n : Nat) (T : List (List Bool)) (l : List Nat) : List (List Bool) := l.foldl (fun T k => cI n k T (List.range' 0 n)) T
def clo (n : Nat) (es : List (Int × Int)) : List (List Bool) := cK n (edT (falT n) es) (List.range' 0 n)
end Go.Pm.PE

/- Orders by a vector of ends, in plain terms. -/
set_option linter.unusedVariables false
set_option linter.unusedSimpArgs false
namespace Go.Pm.PE
open Go.Pm.PP
end Go.Pm.PE

/- The order that is found from its end under a limit of lateness, in plain terms: it is there if any order keeps to the limit, and then it has the least sum of ends of all these. -/
set_option linter.unusedVariables false
set_option linter.unusedSimpArgs false
namespace Go.Pm.PE
open Go.Pm.PP
section
variable (t d : Int → Int) (lim : Int)
def smG : Int → List Int → Int
  | _, [] => 0
  | now, x :: r => (now + t x) + smG (now + t x) r
def okG : Int → List Int → Bool
  | _, [] => true
  | now, x :: r => decide (now + t x ≤ d x + lim) && okG (now + t x) r
def tsm (l : List Int) : Int := (l.map t).sum
def bkP (e : Int) (left : List Int) : Int := left.foldl (fun b i => if e ≤ d i + lim ∧ (b < 0 ∨ t b ≤ t i) then i else b) (-1)
def bkF : Nat → List Int → Option (List Int)
  | 0, _ => some []
  | n + 1, left => if bkP t d lim (tsm t left) left < 0 then none else (bkF n (left.filter fun x => !(x == bkP t d lim (tsm t left) left))).map (· ++ [bkP t d lim (tsm t left) left])
end
section
variable {t d : Int → Int} {lim : Int}
theorem tsm_app {A C : List Int} : tsm t (A ++ C) = tsm t A + tsm t C := by simp [tsm]
theorem tsm_cons {x : Int} {C : List Int} : tsm t (x :: C) = t x + tsm t C := by simp [tsm]
theorem tsm_perm {l l' : List Int} (h : l.Perm l') : tsm t l = tsm t l' := sum_perm (h.map _)
theorem smG_app : ∀ {A C : List Int} {now : Int}, smG t now (A ++ C) = smG t now A + smG t (now + tsm t A) C
  | [], C, now => by simp [smG, tsm]
  | x :: A, C, now => by
    simp only [List.cons_append, smG, tsm_cons]
    rw [smG_app, show now + t x + tsm t A = now + (t x + tsm t A) by omega]; omega
theorem okG_app : ∀ {A C : List Int} {now : Int}, okG t d lim now (A ++ C) = (okG t d lim now A && okG t d lim (now + tsm t A) C)
  | [], C, now => by simp [okG, tsm]
  | x :: A, C, now => by
    simp only [List.cons_append, okG, tsm_cons]
    rw [okG_app, show now + t x + tsm t A = now + (t x + tsm t A) by omega, Bool.and_assoc]
theorem smG_mono : ∀ {C : List Int} {a b : Int}, a ≤ b → smG t a C ≤ smG t b C
  | [], _, _, _ => by simp [smG]
  | x :: C, a, b, h => by
    have := smG_mono (C := C) (a := a + t x) (b := b + t x) (by omega)
    simp only [smG]; omega
theorem okG_mono : ∀ {C : List Int} {a b : Int}, a ≤ b → okG t d lim b C = true → okG t d lim a C = true
  | [], _, _, _, _ => rfl
  | x :: C, a, b, h, e => by
    simp only [okG, Bool.and_eq_true, decide_eq_true_eq] at e ⊢
    exact ⟨by omega, okG_mono (by omega) e.2⟩
theorem bkP_go {e : Int} : ∀ {l : List Int} {b : Int}, (∀ x, x ∈ l → 0 ≤ x) → (b < 0 ∨ e ≤ d b + lim) → let q := l.foldl (fun b i => if e ≤ d i + lim ∧ (b < 0 ∨ t b ≤ t i) then i else b) b
    (q < 0 → b < 0 ∧ ∀ x, x ∈ l → ¬ e ≤ d x + lim) ∧ (0 ≤ q → (q = b ∨ q ∈ l) ∧ e ≤ d q + lim ∧ (0 ≤ b → t b ≤ t q) ∧ ∀ x, x ∈ l → e ≤ d x + lim → t x ≤ t q)
  | [], b, _, hb => by
    refine ⟨fun h => ⟨h, fun x hx => by cases hx⟩, fun h => ⟨.inl rfl, ?_, fun _ => Int.le_refl _, fun x hx => by cases hx⟩⟩
    simp only [List.foldl_nil] at h ⊢
    omega
  | y :: l, b, hl, hb => by
    simp only [List.foldl_cons]
    have hy := hl y (List.mem_cons_self ..)
    by_cases c : e ≤ d y + lim ∧ (b < 0 ∨ t b ≤ t y)
    · rw [if_pos c]
      obtain ⟨g1, g2⟩ := bkP_go (e := e) (l := l) (b := y) (fun x hx => hl x (List.mem_cons_of_mem _ hx)) (.inr c.1)
      refine ⟨fun h => by have := (g1 h).1; omega, fun h => ?_⟩
      obtain ⟨k1, k2, k3, k4⟩ := g2 h
      refine ⟨.inr ?_, k2, fun h0 => ?_, fun x hx hd => ?_⟩
      · rcases k1 with k1 | k1
        · rw [k1]; exact List.mem_cons_self ..
        · exact List.mem_cons_of_mem _ k1
      · have := k3 hy; omega
      · rcases List.mem_cons.1 hx with rfl | hx
        · exact k3 hy
        · exact k4 x hx hd
    · rw [if_neg c]
      obtain ⟨g1, g2⟩ := bkP_go (e := e) (l := l) (b := b) (fun x hx => hl x (List.mem_cons_of_mem _ hx)) hb
      refine ⟨fun h => ⟨(g1 h).1, fun x hx hd => ?_⟩, fun h => ?_⟩
      · rcases List.mem_cons.1 hx with rfl | hx
        · exact c ⟨hd, .inl (g1 h).1⟩
        · exact (g1 h).2 x hx hd
      · obtain ⟨k1, k2, k3, k4⟩ := g2 h
        refine ⟨?_, k2, k3, fun x hx hd => ?_⟩
        · rcases k1 with k1 | k1
          · exact .inl k1
          · exact .inr (List.mem_cons_of_mem _ k1)
        · rcases List.mem_cons.1 hx with rfl | hx
          · have : ¬ (b < 0 ∨ t b ≤ t x) := fun g => c ⟨hd, g⟩
            have := k3 (by omega)
            omega
          · exact k4 x hx hd
theorem bkP_neg {e : Int} {l : List Int} (hl : ∀ x, x ∈ l → 0 ≤ x) (h : bkP t d lim e l < 0) : ∀ x, x ∈ l → ¬ e ≤ d x + lim := ((bkP_go (t := t) hl (.inl (by omega))).1 h).2
theorem bkP_pos {e : Int} {l : List Int} (hl : ∀ x, x ∈ l → 0 ≤ x) (h : ¬ bkP t d lim e l < 0) : bkP t d lim e l ∈ l ∧ e ≤ d (bkP t d lim e l) + lim ∧ ∀ x, x ∈ l → e ≤ d x + lim → t x ≤ t (bkP t d lim e l) := by
  obtain ⟨k1, k2, _, k4⟩ := (bkP_go (t := t) (d := d) (lim := lim) (e := e) (b := -1) hl (.inl (by omega))).2 (by unfold bkP at h; omega)
  refine ⟨?_, k2, k4⟩
  rcases k1 with k1 | k1
  · unfold bkP at h; omega
  · exact k1
theorem filter_del {l : List Int} {b : Int} (hn : l.Nodup) (hb : b ∈ l) : l.Perm (b :: l.filter fun x => !(x == b)) := by
  induction l with
  | nil => cases hb
  | cons y l ih =>
    obtain ⟨h1, h2⟩ := List.nodup_cons.1 hn
    by_cases c : y = b
    · subst c
      rw [List.filter_cons]
      simp only [BEq.rfl, Bool.not_true, Bool.false_eq_true, if_false]
      rw [List.filter_eq_self.2]
      intro a ha
      have : ¬ a = y := fun g => h1 (g ▸ ha)
      simpa using this
    · rw [List.filter_cons, if_pos (by simpa using c)]
      have hb' : b ∈ l := by
        rcases List.mem_cons.1 hb with g | g
        · exact absurd g.symm c
        · exact g
      exact ((ih h2 hb').cons y).trans (List.Perm.swap ..)
/-- What is exchanged: the one that is chosen takes the last place. -/
theorem back_exch (ht : ∀ x, 0 ≤ t x) {r : List Int} {l b : Int} (hb : b ∈ r ++ [l]) (hle : t l ≤ t b) (hok : okG t d lim 0 (r ++ [l]) = true) : ∃ r', (b :: r').Perm (r ++ [l]) ∧ okG t d lim 0 r' = true ∧ smG t 0 r' ≤ smG t 0 r := by
  rw [okG_app, Bool.and_eq_true] at hok
  by_cases c : b = l
  · subst c
    exact ⟨r, List.perm_append_comm (l₁ := [b]), hok.1, Int.le_refl _⟩
  · have hbr : b ∈ r := by
      rcases List.mem_append.1 hb with g | g
      · exact g
      · exact absurd (by simpa using g) c
    obtain ⟨A, B, rfl⟩ := List.append_of_mem hbr
    refine ⟨A ++ l :: B, ?_, ?_, ?_⟩
    · have e1 : (A ++ l :: B).Perm (l :: (A ++ B)) := List.perm_middle
      have e2 : (A ++ b :: B ++ [l]).Perm (b :: (A ++ (B ++ [l]))) := by
        rw [List.append_assoc, List.cons_append]; exact List.perm_middle
      refine ((e1.trans ?_).cons b).trans e2.symm
      rw [← List.append_assoc]
      exact List.perm_append_comm (l₁ := [l]) (l₂ := A ++ B)
    · obtain ⟨h1, h2⟩ := hok
      rw [okG_app, Bool.and_eq_true] at h1 ⊢
      refine ⟨h1.1, ?_⟩
      have h3 := h1.2
      simp only [okG, Bool.and_eq_true, decide_eq_true_eq, tsm_app, tsm_cons, Bool.and_true] at h2 h3 ⊢
      have hB : 0 ≤ tsm t B := by
        have : ∀ C : List Int, 0 ≤ tsm t C := fun C => by
          induction C with
          | nil => simp [tsm]
          | cons y C ih => rw [tsm_cons]; have := ht y; omega
        exact this B
      have := ht b
      exact ⟨by omega, okG_mono (by omega) h3.2⟩
    · rw [smG_app, smG_app]
      simp only [smG]
      have := smG_mono (t := t) (C := B) (a := 0 + tsm t A + t l) (b := 0 + tsm t A + t b) (by omega)
      omega
theorem snoc_of {α : Type} {xs : List α} (h : xs ≠ []) : ∃ r x, xs = r ++ [x] := ⟨xs.dropLast, xs.getLast h, (List.dropLast_concat_getLast h).symm⟩
theorem bkF_spec (ht : ∀ x, 0 ≤ t x) : ∀ {n : Nat} {left : List Int}, left.length = n → left.Nodup → (∀ x, x ∈ left → 0 ≤ x) →
    (bkF t d lim n left = none → ∀ s, s.Perm left → okG t d lim 0 s = false) ∧
    ∀ o, bkF t d lim n left = some o → o.Perm left ∧ okG t d lim 0 o = true ∧ ∀ s, s.Perm left → okG t d lim 0 s = true → smG t 0 o ≤ smG t 0 s
  | 0, left, hl, _, _ => by
    obtain rfl : left = [] := List.length_eq_zero_iff.1 hl
    refine ⟨fun h => by simp [bkF] at h, fun o ho => ?_⟩
    simp only [bkF, Option.some.injEq] at ho
    subst ho
    refine ⟨List.Perm.refl _, rfl, fun s hs _ => ?_⟩
    rw [hs.eq_nil]; exact Int.le_refl _
  | n + 1, left, hl, hnd, h0 => by
    generalize hb : bkP t d lim (tsm t left) left = b
    generalize hL : left.filter (fun x => !(x == b)) = left'
    have hF : bkF t d lim (n + 1) left = if b < 0 then none else (bkF t d lim n left').map (· ++ [b]) := by simp only [bkF, hb, hL]
    rw [hF]
    have last : ∀ s, s.Perm left → okG t d lim 0 s = true → ∃ r l, s = r ++ [l] ∧ tsm t left ≤ d l + lim ∧ l ∈ left := fun s hs hok => by
      obtain ⟨r, l, rfl⟩ := snoc_of (xs := s) (by rintro rfl; have := hs.length_eq; simp at this; omega)
      refine ⟨r, l, rfl, ?_, hs.subset (by simp)⟩
      rw [okG_app, Bool.and_eq_true] at hok
      have h2 := hok.2
      simp only [okG, Bool.and_true, decide_eq_true_eq] at h2
      rw [← tsm_perm hs, tsm_app]
      simp only [tsm_cons, show tsm t [] = 0 from rfl]
      omega
    by_cases c : b < 0
    · rw [if_pos c]
      refine ⟨fun _ s hs => ?_, fun o ho => by cases ho⟩
      cases hok : okG t d lim 0 s
      · rfl
      obtain ⟨r, l, rfl, h2, hm⟩ := last s hs hok
      exact absurd h2 (bkP_neg h0 (by rw [hb]; exact c) l hm)
    · rw [if_neg c]
      obtain ⟨p1, p2, p3⟩ := bkP_pos (t := t) (d := d) (lim := lim) (e := tsm t left) h0 (by rw [hb]; exact c)
      rw [hb] at p1 p2 p3
      have hp : left.Perm (b :: left') := by rw [← hL]; exact filter_del hnd p1
      have hl' : left'.length = n := by have := hp.length_eq; simp at this; omega
      have hnd' : left'.Nodup := by rw [← hL]; exact hnd.sublist List.filter_sublist
      have h0' : ∀ x, x ∈ left' → 0 ≤ x := fun x hx => h0 x (by rw [← hL] at hx; exact (List.mem_filter.1 hx).1)
      obtain ⟨i1, i2⟩ := bkF_spec ht hl' hnd' h0'
      have key : ∀ s, s.Perm left → okG t d lim 0 s = true → ∃ r', r'.Perm left' ∧ okG t d lim 0 r' = true ∧ smG t 0 r' + tsm t left ≤ smG t 0 s := fun s hs hok => by
        obtain ⟨r, l, rfl, h2, hm⟩ := last s hs hok
        obtain ⟨r', q1, q2, q3⟩ := back_exch ht (hs.symm.subset p1) (p3 l hm h2) hok
        refine ⟨r', List.Perm.cons_inv (a := b) ((q1.trans hs).trans hp), q2, ?_⟩
        rw [← tsm_perm hs, smG_app, tsm_app]
        simp only [smG, tsm_cons, show tsm t [] = 0 from rfl]
        omega
      refine ⟨fun h s hs => ?_, fun o ho => ?_⟩
      · cases hok : okG t d lim 0 s
        · rfl
        obtain ⟨r', q1, q2, _⟩ := key s hs hok
        have := i1 (by cases g : bkF t d lim n left' with
          | none => rfl
          | some o => rw [g] at h; cases h) r' q1
        rw [this] at q2; cases q2
      · obtain ⟨o', ho', rfl⟩ := Option.map_eq_some_iff.1 ho
        obtain ⟨j1, j2, j3⟩ := i2 o' ho'
        have hpo : (o' ++ [b]).Perm left := (List.perm_append_comm.trans ((j1.cons b : (b :: o').Perm (b :: left')) : ([b] ++ o').Perm (b :: left'))).trans hp.symm
        have ht' : tsm t o' + t b = tsm t left := by rw [← tsm_perm hpo, tsm_app, tsm_cons]; simp [tsm]
        refine ⟨hpo, ?_, fun s hs hok => ?_⟩
        · rw [okG_app, j2]
          simp only [okG, Bool.and_true, Bool.true_and, decide_eq_true_eq]
          omega
        · obtain ⟨r', q1, q2, q3⟩ := key s hs hok
          have := j3 r' q1 q2
          rw [smG_app]
          simp only [smG]
          omega
end
/-- Two lists without dominated points that cover each other are the same. -/
theorem sorted_eqP {R : Pt → Pt → Prop} (hR : ∀ a b, R a b → R b a → False) : ∀ {l l' : List Pt}, l.Pairwise R → l'.Pairwise R → l.Perm l' → l = l'
  | [], l', _, _, h => (h.symm.eq_nil).symm
  | x :: l, [], _, _, h => by have := h.length_eq; simp at this
  | x :: l, y :: l', h1, h2, h => by
    obtain ⟨a1, a2⟩ := List.pairwise_cons.1 h1
    obtain ⟨b1, b2⟩ := List.pairwise_cons.1 h2
    have e : x = y := by
      rcases List.mem_cons.1 (h.subset (List.mem_cons_self ..)) with g | g
      · exact g
      · rcases List.mem_cons.1 (h.symm.subset (List.mem_cons_self ..)) with k | k
        · exact k.symm
        · exact (hR _ _ (a1 _ k) (b1 _ g)).elim
    subst e
    rw [sorted_eqP hR a2 b2 h.cons_inv]
theorem front_uniq {F F' : List Pt} (s : Srt F) (s' : Srt F') (h : ∀ q, q ∈ F → ∃ r, r ∈ F' ∧ r.1 ≤ q.1 ∧ r.2 ≤ q.2) (h' : ∀ q, q ∈ F' → ∃ r, r ∈ F ∧ r.1 ≤ q.1 ∧ r.2 ≤ q.2) : F = F' := by
  have nd : ∀ {G : List Pt}, Srt G → G.Nodup := fun sg => sg.imp fun {a b} g e => by subst e; omega
  have anti : ∀ {G : List Pt}, Srt G → ∀ a b, a ∈ G → b ∈ G → a.1 ≤ b.1 → a.2 ≤ b.2 → a = b := by
    intro G sg a b ha hb h1 h2
    obtain ⟨i, hi⟩ := List.getElem?_of_mem ha
    obtain ⟨j, hj⟩ := List.getElem?_of_mem hb
    obtain ⟨hi', ei⟩ := List.getElem?_eq_some_iff.1 hi
    obtain ⟨hj', ej⟩ := List.getElem?_eq_some_iff.1 hj
    have P := List.pairwise_iff_getElem.1 sg
    rcases Nat.lt_trichotomy i j with g | g | g
    · have := P i j hi' hj' g; rw [ei, ej] at this; omega
    · subst g; rw [← ei, ← ej]
    · have := P j i hj' hi' g; rw [ei, ej] at this; omega
  have sub : ∀ {F F' : List Pt}, Srt F → (∀ q, q ∈ F → ∃ r, r ∈ F' ∧ r.1 ≤ q.1 ∧ r.2 ≤ q.2) → (∀ q, q ∈ F' → ∃ r, r ∈ F ∧ r.1 ≤ q.1 ∧ r.2 ≤ q.2) → ∀ q, q ∈ F → q ∈ F' := by
    intro F F' s h h' q hq
    obtain ⟨r, hr, r1, r2⟩ := h q hq
    obtain ⟨u, hu, u1, u2⟩ := h' r hr
    have e := anti s u q hu hq (by omega) (by omega)
    subst e
    have : r = u := Prod.ext (by omega) (by omega)
    rw [← this]; exact hr
  exact sorted_eqP (R := fun a b => a.1 < b.1 ∧ b.2 < a.2) (fun a b h1 h2 => by omega) s s' ((List.perm_ext_iff_of_nodup (nd s) (nd s')).2 fun q => ⟨sub s h h' q, sub s' h' h q⟩)
end Go.Pm.PE

/- The choice by time and bounds of prefixes, in plain terms. -/
set_option linter.unusedVariables false
set_option linter.unusedSimpArgs false
namespace Go.Pm.PP
open Go.Pm Go.Pm.PE
structure Sp where
  j : Int
  a : Int
  b : Int
def encS (s : Sp) : List Value := [.int .i64 s.j, .int .i64 s.a, .int .i64 s.b]
/-! ### sums -/
def sumL : List Int → Int
  | [] => 0
  | x :: r => x + sumL r
theorem sumL_append : ∀ {l r : List Int}, sumL (l ++ r) = sumL l + sumL r
  | [], r => by simp [sumL]
  | x :: l, r => by rw [List.cons_append, sumL, sumL, sumL_append]; omega
theorem sumL_set : ∀ {l : List Int} {i : Nat} {y : Int}, i < l.length → sumL (l.set i y) = sumL l - gE l i + y
  | x :: l, 0, y, _ => by simp [sumL, gE]; omega
  | x :: l, i + 1, y, h => by
    have := @sumL_set l i y (by simpa using h)
    rw [List.set_cons_succ, sumL, sumL, this]
    simp [gE]; omega
theorem sumL_nn : ∀ {l : List Int}, (∀ x, x ∈ l → 0 ≤ x ∧ x ≤ 50) → 0 ≤ sumL l ∧ sumL l ≤ 50 * l.length
  | [], _ => by simp [sumL]
  | x :: l, h => by
    have h1 := h x (List.mem_cons_self ..)
    have h2 := sumL_nn fun y hy => h y (List.mem_cons_of_mem _ hy)
    rw [sumL, List.length_cons]; omega
theorem sumL_pos : ∀ {l : List Int}, (∀ x, x ∈ l → 0 ≤ x ∧ x ≤ 50) → 0 < sumL l → ∃ i, i < l.length ∧ 0 < gE l i
  | [], _, h => by simp [sumL] at h
  | x :: l, h, hs => by
    have h1 := h x (List.mem_cons_self ..)
    by_cases c : 0 < x
    · exact ⟨0, by simp, by simpa [gE] using c⟩
    · rw [sumL] at hs
      obtain ⟨i, h3, h4⟩ := sumL_pos (fun y hy => h y (List.mem_cons_of_mem _ hy)) (by omega)
      exact ⟨i + 1, by simpa using h3, by simpa [gE] using h4⟩
theorem gE_mem {l : List Int} {i : Nat} (h : i < l.length) : gE l i ∈ l := List.mem_of_getElem? (gE_get h)
/-! ### rests -/
def inP (B : List Int) (i : Nat) : Bool := B.any (· == (i : Int))
def restL (js : List Job) (B : List Int) : List Int := (List.range js.length).map fun i => if inP B i = true then 0 else (jA js i).t
theorem restL_len {js : List Job} {B : List Int} : (restL js B).length = js.length := by simp [restL]
theorem restL_at {js : List Job} {B : List Int} {i : Nat} (hi : i < js.length) : (restL js B)[i]? = some (if inP B i = true then 0 else (jA js i).t) := by
  unfold restL; rw [List.getElem?_map, List.getElem?_range hi]; rfl
theorem restL_bd {js : List Job} {B : List Int} (hg : goodL js = true) : ∀ x, x ∈ restL js B → 0 ≤ x ∧ x ≤ 50 := by
  intro x hx
  obtain ⟨i, hi, rfl⟩ := List.mem_map.1 hx
  have hi := List.mem_range.1 hi
  split
  · omega
  · obtain ⟨y, hy, _⟩ := drop_at hi
    have e : jA js i = y := by unfold jA; rw [Int.toNat_natCast, hy]; rfl
    rw [e]
    have := job_of (job_at hg hy)
    omega
theorem jA_bd {js : List Job} (hg : goodL js = true) {i : Nat} (hi : i < js.length) : (1 ≤ (jA js i).t ∧ (jA js i).t ≤ 50) ∧ (0 ≤ (jA js i).r ∧ (jA js i).r ≤ 500) ∧ 0 ≤ (jA js i).d ∧ (jA js i).d ≤ 500 := by
  obtain ⟨y, hy, _⟩ := drop_at hi
  have e : jA js i = y := by unfold jA; rw [Int.toNat_natCast, hy]; rfl
  rw [e]
  have := job_of (job_at hg hy)
  omega
/-! ### the choice -/
def betB (o : Int) (js : List Job) (rs : List Int) (i b : Nat) : Bool := if o = 2 then decide (gE rs i < gE rs b) else decide ((jA js i).d < (jA js b).d)
def pickF (o : Int) (js : List Job) (rs : List Int) (now : Int) (b : Int) (i : Nat) : Int := if gE rs i = 0 ∨ now < (jA js i).r then b else if b < 0 ∨ betB o js rs i b.toNat = true then i else b
def pickL (o : Int) (js : List Job) (rs : List Int) (now : Int) : Int := (List.range' 0 js.length).foldl (pickF o js rs now) (-1)
def pkOk (js : List Job) (rs : List Int) (b : Int) : Prop := 0 ≤ b ∧ b < js.length ∧ gE rs b.toNat ≠ 0
theorem pick_fact {o : Int} {js : List Job} {rs : List Int} {now : Int} : ∀ {m i : Nat} {b : Int}, i + m = js.length → (b = -1 ∨ pkOk js rs b) →
    ((List.range' i m).foldl (pickF o js rs now) b = -1 ∧ b = -1 ∧ ∀ k, i ≤ k → k < js.length → gE rs k = 0 ∨ now < (jA js k).r) ∨ pkOk js rs ((List.range' i m).foldl (pickF o js rs now) b)
  | 0, i, b, him, hb => by
    rw [List.range'_zero, List.foldl_nil]
    rcases hb with rfl | hb
    · exact .inl ⟨rfl, rfl, fun k h1 h2 => by omega⟩
    · exact .inr hb
  | m + 1, i, b, him, hb => by
    rw [List.range'_succ, List.foldl_cons]
    by_cases c1 : gE rs i = 0 ∨ now < (jA js i).r
    · have e : pickF o js rs now b i = b := by unfold pickF; rw [if_pos c1]
      rw [e]
      rcases pick_fact (o := o) (now := now) (m := m) (i := i + 1) (by omega) hb with ⟨h1, h2, h3⟩ | h
      · refine .inl ⟨h1, h2, fun k hk1 hk2 => ?_⟩
        by_cases e : k = i
        · subst e; exact c1
        · exact h3 k (by omega) hk2
      · exact .inr h
    · by_cases c2 : b < 0 ∨ betB o js rs i b.toNat = true
      · have e : pickF o js rs now b i = i := by unfold pickF; rw [if_neg c1, if_pos c2]
        rw [e]
        have ok : pkOk js rs (i : Int) := ⟨by omega, by omega, fun g => c1 (.inl g)⟩
        rcases pick_fact (o := o) (now := now) (m := m) (i := i + 1) (by omega) (.inr ok) with ⟨h1, h2, h3⟩ | h
        · omega
        · exact .inr h
      · have e : pickF o js rs now b i = b := by unfold pickF; rw [if_neg c1, if_neg c2]
        have hb' : pkOk js rs b := by rcases hb with rfl | hb; exact absurd (.inl (by omega)) c2; exact hb
        rw [e]
        rcases pick_fact (o := o) (now := now) (m := m) (i := i + 1) (by omega) (.inr hb') with ⟨h1, h2, h3⟩ | h
        · subst h2; exact absurd hb'.1 (by omega)
        · exact .inr h
theorem pick_cases {o : Int} {js : List Job} {rs : List Int} {now : Int} : (pickL o js rs now = -1 ∧ ∀ k, k < js.length → gE rs k = 0 ∨ now < (jA js k).r) ∨ ∃ b : Nat, pickL o js rs now = b ∧ b < js.length ∧ gE rs b ≠ 0 := by
  rcases pick_fact (o := o) (js := js) (rs := rs) (now := now) (m := js.length) (i := 0) (b := -1) (by omega) (.inl rfl) with ⟨h1, _, h3⟩ | ⟨h1, h2, h3⟩
  · exact .inl ⟨h1, fun k hk => h3 k (Nat.zero_le _) hk⟩
  · refine .inr ⟨(pickL o js rs now).toNat, ?_, ?_, h3⟩
    · unfold pickL; omega
    · unfold pickL; omega
def picks (o : Int) (js : List Job) : Nat → Int → List Int → List (Int × Int)
  | 0, _, _ => []
  | m + 1, now, rs => if sumL rs ≤ 0 then [] else if pickL o js rs now < 0 then picks o js m (now + 1) rs
      else (pickL o js rs now, now) :: picks o js m (now + 1) (rs.set (pickL o js rs now).toNat (gE rs (pickL o js rs now).toNat - 1))
def apS (E : List Int) (ps : List (Int × Int)) : List Int := ps.foldl (fun E p => E.set p.1.toNat (p.2 + 1)) E
theorem apS_len : ∀ {ps : List (Int × Int)} {E : List Int}, (apS E ps).length = E.length
  | [], E => rfl
  | p :: ps, E => by
    have := @apS_len ps (E.set p.1.toNat (p.2 + 1))
    unfold apS at this ⊢
    rw [List.foldl_cons, this, List.length_set]
theorem apS_mem {lo hi : Int} : ∀ {ps : List (Int × Int)} {E : List Int}, (∀ e, e ∈ E → lo ≤ e ∧ e ≤ hi) → (∀ p, p ∈ ps → lo ≤ p.2 + 1 ∧ p.2 + 1 ≤ hi) → ∀ e, e ∈ apS E ps → lo ≤ e ∧ e ≤ hi
  | [], E, hE, _, e, he => hE e he
  | p :: ps, E, hE, hp, e, he => by
    refine @apS_mem lo hi ps (E.set p.1.toNat (p.2 + 1)) (fun e he => ?_) (fun q hq => hp q (List.mem_cons_of_mem _ hq)) e he
    rcases List.mem_or_eq_of_mem_set he with g | g
    · exact hE e g
    · rw [g]; exact hp p (List.mem_cons_self ..)
theorem picks_mem {o : Int} {js : List Job} : ∀ {m : Nat} {now : Int} {rs : List Int}, ∀ p, p ∈ picks o js m now rs → now ≤ p.2 ∧ p.2 < now + m
  | 0, now, rs, p, hp => by simp [picks] at hp
  | m + 1, now, rs, p, hp => by
    rw [picks] at hp
    split at hp
    · cases hp
    · split at hp
      · have := picks_mem p hp; omega
      · rcases List.mem_cons.1 hp with rfl | hp
        · dsimp only; omega
        · have := picks_mem p hp; omega
/-- What the choice at a time asks. -/
structure Ch (js : List Job) (rs : List Int) (now : Int) (m : Nat) : Prop where
  l : rs.length = js.length
  b : ∀ x, x ∈ rs → 0 ≤ x ∧ x ≤ 50
  m : sumL rs + (501 - now).toNat ≤ m
theorem Ch.skip {o : Int} {js : List Job} {rs : List Int} {now : Int} {m : Nat} (hg : goodL js = true) (C : Ch js rs now m) (hs : 0 < sumL rs) (hp : pickL o js rs now < 0) : now < 500 ∧ Ch js rs (now + 1) (m - 1) ∧ 0 < m := by
  have h5 : now < 500 := by
    rcases pick_cases (o := o) (js := js) (rs := rs) (now := now) with ⟨_, h2⟩ | ⟨b, h1, _⟩
    · obtain ⟨i, h3, h4⟩ := sumL_pos C.b hs
      have h5 := C.l
      have h6 := jA_bd hg (show i < js.length by omega)
      rcases h2 i (by omega) with h7 | h7 <;> omega
    · omega
  have := C.m
  exact ⟨h5, ⟨C.l, C.b, by omega⟩, by omega⟩
theorem Ch.take {js : List Job} {rs : List Int} {now : Int} {m b : Nat} (C : Ch js rs now m) (hs : 0 < sumL rs) (hb : b < js.length) (h0 : gE rs b ≠ 0) : Ch js (rs.set b (gE rs b - 1)) (now + 1) (m - 1) ∧ 0 < m ∧ sumL (rs.set b (gE rs b - 1)) = sumL rs - 1 := by
  have h1 := C.b _ (gE_mem (show b < rs.length by rw [C.l]; exact hb))
  have h2 := sumL_set (l := rs) (i := b) (y := gE rs b - 1) (by rw [C.l]; exact hb)
  have := C.m
  refine ⟨⟨by rw [List.length_set]; exact C.l, fun x hx => ?_, by omega⟩, by omega, by omega⟩
  rcases List.mem_or_eq_of_mem_set hx with g | g
  · exact C.b x g
  · omega
/-! ### bounds of prefixes -/
def nwGo (js : List Job) : List Int → Int → Int
  | [], now => now
  | x :: r, now => nwGo js r (max now (jA js x).r + (jA js x).t)
def FU : Nat := 1000
def bdE (o : Int) (js : List Job) (B : List Int) : List Int := apS (endsL js B) (picks o js FU (nwGo js B 0) (restL js B))
theorem jA_b {js : List Job} (hg : goodL js = true) {x : Int} (hx : 0 ≤ x ∧ x < js.length) : (1 ≤ (jA js x).t ∧ (jA js x).t ≤ 50) ∧ 0 ≤ (jA js x).r ∧ (jA js x).r ≤ 500 := by
  have := jA_bd hg (show x.toNat < js.length by omega)
  rw [show ((x.toNat : Nat) : Int) = x by omega] at this
  exact ⟨this.1, this.2.1⟩
theorem nwGo_bd {js : List Job} (hg : goodL js = true) : ∀ {B : List Int} {now : Int} {k : Nat}, inN js.length B → 0 ≤ now → now ≤ 550 * k → 0 ≤ nwGo js B now ∧ nwGo js B now ≤ 550 * (k + B.length : Nat)
  | [], now, k, _, h1, h2 => by simp [nwGo]; omega
  | x :: r, now, k, hin, h1, h2 => by
    have hx := jA_b hg (hin x (List.mem_cons_self ..))
    have := @nwGo_bd js hg r (max now (jA js x).r + (jA js x).t) (k + 1) (fun y hy => hin y (List.mem_cons_of_mem _ hy)) (by omega) (by omega)
    rw [nwGo, List.length_cons]
    omega
theorem bdE_bd {o : Int} {js : List Job} {B : List Int} (hg : goodL js = true) (hB : B.length ≤ 8) (hin : inN js.length B) : ∀ e, e ∈ bdE o js B → 0 ≤ e ∧ e ≤ 2 ^ 20 := by
  have nb := @nwGo_bd js hg B 0 0 hin (by omega) (by omega)
  refine apS_mem (fun e he => ?_) (fun p hp => ?_)
  · have := endGo_bd hg (k := 0) hin (Int.le_refl 0) (by omega) (fun e he => by rw [List.eq_of_mem_replicate he]; omega) e he
    omega
  · have := picks_mem p hp
    unfold FU at this
    omega
theorem bd_ch {js : List Job} {B : List Int} (hg : goodL js = true) (hn : js.length ≤ 8) (hin : inN js.length B) : Ch js (restL js B) (nwGo js B 0) FU := by
  have nb := @nwGo_bd js hg B 0 0 hin (by omega) (by omega)
  have s := sumL_nn (restL_bd (B := B) hg)
  rw [restL_len] at s
  exact ⟨restL_len, restL_bd hg, by unfold FU; omega⟩
end Go.Pm.PP

/- The spans of the choice by time, and its greatest lateness, in plain terms: it is the greatest bound of a set. -/
set_option linter.unusedVariables false
set_option linter.unusedSimpArgs false
namespace Go.Pm.PP
open Go.Pm Go.Pm.PE
/-! ### spans -/
def mgS (S : List Sp) (p : Int × Int) : List Sp := match S.getLast? with
  | some l => if l.j = p.1 ∧ l.b = p.2 then S.set (S.length - 1) { l with b := p.2 + 1 } else S ++ [⟨p.1, p.2, p.2 + 1⟩]
  | none => S ++ [⟨p.1, p.2, p.2 + 1⟩]
theorem mgS_nil {p : Int × Int} : mgS [] p = [⟨p.1, p.2, p.2 + 1⟩] := rfl
theorem mgS_eq {S : List Sp} {l : Sp} {p : Int × Int} (h1 : l.j = p.1) (h2 : l.b = p.2) : mgS (S ++ [l]) p = S ++ [{ l with b := p.2 + 1 }] := by
  unfold mgS
  rw [List.getLast?_concat]
  simp only [h1, h2, and_self, if_true, List.length_append, List.length_singleton, Nat.add_sub_cancel]
  rw [List.set_append_right (h := Nat.le_refl _), Nat.sub_self]; rfl
theorem mgS_ne {S : List Sp} {l : Sp} {p : Int × Int} (h : ¬ (l.j = p.1 ∧ l.b = p.2)) : mgS (S ++ [l]) p = (S ++ [l]) ++ [⟨p.1, p.2, p.2 + 1⟩] := by
  unfold mgS
  rw [List.getLast?_concat]
  simp only
  rw [if_neg h]
def foldS (E : List Int) (S : List Sp) : List Int := S.foldl (fun E s => E.set s.j.toNat s.b) E
theorem foldS_snoc {E : List Int} {S : List Sp} {s : Sp} : foldS E (S ++ [s]) = (foldS E S).set s.j.toNat s.b := by unfold foldS; rw [List.foldl_append]; rfl
theorem apS_cons {E : List Int} {p : Int × Int} {ps : List (Int × Int)} : apS E (p :: ps) = apS (E.set p.1.toNat (p.2 + 1)) ps := rfl
theorem foldS_mg {E : List Int} {S : List Sp} {p : Int × Int} : foldS E (mgS S p) = (foldS E S).set p.1.toNat (p.2 + 1) := by
  rcases List.eq_nil_or_concat S with rfl | ⟨S1, l, rfl⟩
  · rfl
  · rw [List.concat_eq_append]
    by_cases c : l.j = p.1 ∧ l.b = p.2
    · rw [mgS_eq c.1 c.2, foldS_snoc, foldS_snoc, ← c.1, List.set_set]
    · rw [mgS_ne c, foldS_snoc]
theorem foldS_mgs {E : List Int} : ∀ {ps : List (Int × Int)} {S : List Sp}, foldS E (ps.foldl mgS S) = apS (foldS E S) ps
  | [], S => rfl
  | p :: ps, S => by rw [List.foldl_cons, foldS_mgs, foldS_mg, apS_cons]
def spanL (o : Int) (js : List Job) (now : Int) (rs : List Int) : List Sp := (picks o js FU now rs).foldl mgS []
theorem foldS_span {o : Int} {js : List Job} {now : Int} {rs E : List Int} : foldS E (spanL o js now rs) = apS E (picks o js FU now rs) := foldS_mgs
theorem mgS_len {S : List Sp} {p : Int × Int} : (mgS S p).length ≤ S.length + 1 := by
  rcases List.eq_nil_or_concat S with rfl | ⟨S1, l, rfl⟩
  · simp [mgS_nil]
  · rw [List.concat_eq_append]
    by_cases c : l.j = p.1 ∧ l.b = p.2
    · rw [mgS_eq c.1 c.2]; simp
    · rw [mgS_ne c]; simp
theorem mgs_len : ∀ {ps : List (Int × Int)} {S : List Sp}, (ps.foldl mgS S).length ≤ S.length + ps.length
  | [], S => by simp
  | p :: ps, S => by
    have h1 := @mgs_len ps (mgS S p)
    have h2 := @mgS_len S p
    rw [List.foldl_cons, List.length_cons]; omega
theorem picks_len {o : Int} {js : List Job} : ∀ {m : Nat} {now : Int} {rs : List Int}, (picks o js m now rs).length ≤ m
  | 0, now, rs => by simp [picks]
  | m + 1, now, rs => by
    rw [picks]
    split
    · simp
    · split
      · have := @picks_len o js m (now + 1) rs; omega
      · rw [List.length_cons]
        have := @picks_len o js m (now + 1) (rs.set (pickL o js rs now).toNat (gE rs (pickL o js rs now).toNat - 1)); omega
theorem spanL_len {o : Int} {js : List Job} {now : Int} {rs : List Int} : (spanL o js now rs).length ≤ 1000 := by
  have h1 := @mgs_len (picks o js FU now rs) []
  have h2 := @picks_len o js FU now rs
  unfold spanL
  rw [List.length_nil] at h1
  unfold FU at *
  omega
/-! ### split schedules -/
def spOk (js : List Job) (now last : Int) (s : Sp) : Bool := decide (0 ≤ s.j ∧ s.j < js.length) && !decide (s.a < now) && !decide (s.a < (jA js s.j).r) && decide (s.a < s.b) && !decide (s.j = last ∧ s.a = now) && decide (s.b ≤ 1000)
def spGo (js : List Job) : Int → Int → List Sp → Bool
  | _, _, [] => true
  | now, last, s :: r => spOk js now last s && spGo js s.b s.j r
def addD (D : List Int) (s : Sp) : List Int := D.set s.j.toNat (gE D s.j.toNat + s.b - s.a)
def doneL (js : List Job) (S : List Sp) : List Int := S.foldl addD (List.replicate js.length 0)
def splB (js : List Job) (S : List Sp) : Bool := spGo js 0 (-1) S && decide (doneL js S = js.map (·.t))
def endOf (now : Int) (S : List Sp) : Int := (S.getLast?.map (·.b)).getD now
def lastOf (last : Int) (S : List Sp) : Int := (S.getLast?.map (·.j)).getD last
theorem endOf_cons {now : Int} {s : Sp} {S : List Sp} : endOf now (s :: S) = endOf s.b S := by
  unfold endOf
  cases S with
  | nil => rfl
  | cons x r => rw [List.getLast?_cons_cons]; rw [List.getLast?_eq_some_getLast (by simp)]; rfl
theorem lastOf_cons {last : Int} {s : Sp} {S : List Sp} : lastOf last (s :: S) = lastOf s.j S := by
  unfold lastOf
  cases S with
  | nil => rfl
  | cons x r => rw [List.getLast?_cons_cons]; rw [List.getLast?_eq_some_getLast (by simp)]; rfl
theorem spGo_snoc {js : List Job} {s : Sp} : ∀ {S : List Sp} {now last : Int}, spGo js now last (S ++ [s]) = (spGo js now last S && spOk js (endOf now S) (lastOf last S) s)
  | [], now, last => by simp [spGo, endOf, lastOf]
  | x :: S, now, last => by
    rw [List.cons_append, spGo, spGo, spGo_snoc, endOf_cons, lastOf_cons, Bool.and_assoc]
theorem doneL_snoc {js : List Job} {S : List Sp} {s : Sp} : doneL js (S ++ [s]) = addD (doneL js S) s := by unfold doneL; rw [List.foldl_append]; rfl
theorem doneL_len {js : List Job} {S : List Sp} : (doneL js S).length = js.length := by
  have go : ∀ (S : List Sp) (D : List Int), (S.foldl addD D).length = D.length := fun S => by
    induction S with
    | nil => intro D; rfl
    | cons s S ih => intro D; rw [List.foldl_cons, ih]; unfold addD; rw [List.length_set]
  unfold doneL; rw [go]; simp
theorem endOf_snoc {now : Int} {S : List Sp} {s : Sp} : endOf now (S ++ [s]) = s.b := by unfold endOf; rw [List.getLast?_concat]; rfl
theorem lastOf_snoc {now : Int} {S : List Sp} {s : Sp} : lastOf now (S ++ [s]) = s.j := by unfold lastOf; rw [List.getLast?_concat]; rfl
/-- One step of time more. -/
theorem sp_step {js : List Job} {S : List Sp} {b : Nat} {now : Int} (hb : b < js.length) (hr : (jA js b).r ≤ now) (h0 : 0 ≤ now) (h1 : now + 1 ≤ 1000) (hS : spGo js 0 (-1) S = true) (he : endOf 0 S ≤ now) :
    spGo js 0 (-1) (mgS S (b, now)) = true ∧ endOf 0 (mgS S (b, now)) ≤ now + 1 ∧ doneL js (mgS S (b, now)) = (doneL js S).set b (gE (doneL js S) b + 1) := by
  have new : ¬ (lastOf (-1) S = b ∧ endOf 0 S = now) → spGo js 0 (-1) (S ++ [⟨b, now, now + 1⟩]) = true ∧ endOf 0 (S ++ [⟨b, now, now + 1⟩]) ≤ now + 1 ∧ doneL js (S ++ [⟨b, now, now + 1⟩]) = (doneL js S).set b (gE (doneL js S) b + 1) := fun hn => by
    refine ⟨?_, ?_, ?_⟩
    · rw [spGo_snoc, hS, Bool.true_and]
      have e1 : decide (now < endOf 0 S) = false := by simpa using he
      have e2 : decide (now < (jA js b).r) = false := by simpa using hr
      have e3 : decide ((b : Int) = lastOf (-1) S ∧ now = endOf 0 S) = false := by
        rw [decide_eq_false_iff_not]; rintro ⟨g1, g2⟩; exact hn ⟨g1.symm, g2.symm⟩
      unfold spOk
      simp only [e1, e2, e3]
      simp; omega
    · rw [endOf_snoc]; exact Int.le_refl _
    · rw [doneL_snoc]; unfold addD; simp only [Int.toNat_natCast]
      congr 1; omega
  rcases List.eq_nil_or_concat S with rfl | ⟨S1, l, rfl⟩
  · exact new fun g => by simp [lastOf] at g
  · rw [List.concat_eq_append] at *
    by_cases c : l.j = (b : Int) ∧ l.b = now
    · rw [mgS_eq c.1 c.2]
      rw [spGo_snoc, Bool.and_eq_true] at hS
      obtain ⟨k1, k2⟩ := hS
      refine ⟨?_, by rw [endOf_snoc]; exact Int.le_refl _, ?_⟩
      · rw [spGo_snoc, k1, Bool.true_and]
        unfold spOk at k2 ⊢
        simp only [Bool.and_eq_true, Bool.not_eq_true', decide_eq_true_eq, decide_eq_false_iff_not] at k2 ⊢
        obtain ⟨⟨⟨⟨⟨a1, a2⟩, a3⟩, a4⟩, a5⟩, a6⟩ := k2
        exact ⟨⟨⟨⟨⟨a1, a2⟩, a3⟩, by omega⟩, a5⟩, by omega⟩
      · rw [doneL_snoc, doneL_snoc]
        unfold addD
        rw [c.1, Int.toNat_natCast, List.set_set, gE_set (by rw [doneL_len]; exact hb), if_pos rfl]
        simp only
        congr 1; omega
    · rw [mgS_ne c]
      exact new fun g => c (by rw [lastOf_snoc, endOf_snoc] at g; exact g)
theorem pick_free {o : Int} {js : List Job} {rs : List Int} {now : Int} : ∀ {m i : Nat} {b : Int}, i + m = js.length → (b = -1 ∨ (jA js b).r ≤ now) → ((List.range' i m).foldl (pickF o js rs now) b = -1 ∨ (jA js ((List.range' i m).foldl (pickF o js rs now) b)).r ≤ now)
  | 0, i, b, h, hb => hb
  | m + 1, i, b, h, hb => by
    rw [List.range'_succ, List.foldl_cons]
    refine pick_free (m := m) (i := i + 1) (by omega) ?_
    unfold pickF
    split
    · exact hb
    · rename_i c
      split
      · right; omega
      · exact hb
theorem pick_r {o : Int} {js : List Job} {rs : List Int} {now : Int} {b : Nat} (h : pickL o js rs now = b) : (jA js b).r ≤ now := by
  have := pick_free (o := o) (js := js) (rs := rs) (now := now) (m := js.length) (i := 0) (b := -1) (by omega) (.inl rfl)
  have e : (List.range' 0 js.length).foldl (pickF o js rs now) (-1) = b := h
  rw [e] at this
  rcases this with g | g
  · omega
  · exact g
theorem spans_ok {o : Int} {js : List Job} (hg : goodL js = true) : ∀ {m : Nat} {now : Int} {rs : List Int} {S : List Sp}, Ch js rs now m → 0 ≤ now → now + m ≤ 1000 → spGo js 0 (-1) S = true → endOf 0 S ≤ now → (∀ i, i < js.length → gE (doneL js S) i + gE rs i = (jA js i).t) →
    splB js ((picks o js m now rs).foldl mgS S) = true := by
  have fin : ∀ {rs : List Int} {S : List Sp} {now : Int} {m : Nat}, Ch js rs now m → sumL rs ≤ 0 → spGo js 0 (-1) S = true → (∀ i, i < js.length → gE (doneL js S) i + gE rs i = (jA js i).t) → splB js S = true := fun {rs S now m} C hs hS hd => by
    unfold splB
    rw [hS, Bool.true_and, decide_eq_true_eq]
    apply List.ext_getElem?
    intro i
    rcases Nat.lt_or_ge i js.length with g | g
    · have h1 := hd i g
      have h2 : gE rs i = 0 := by
        have hb := C.b _ (gE_mem (show i < rs.length by rw [C.l]; exact g))
        by_cases c : gE rs i = 0
        · exact c
        · exfalso
          have h3 := sumL_set (l := rs) (i := i) (y := gE rs i - 1) (by rw [C.l]; exact g)
          have h4 := sumL_nn (l := rs.set i (gE rs i - 1)) (fun x hx => by
            rcases List.mem_or_eq_of_mem_set hx with q | q
            · exact C.b x q
            · omega)
          omega
      rw [gE_get (by rw [doneL_len]; exact g), List.getElem?_map]
      obtain ⟨y, hy, _⟩ := drop_at g
      rw [hy]
      have : jA js i = y := by unfold jA; rw [Int.toNat_natCast, hy]; rfl
      simp only [Option.map_some]
      rw [← this]; congr 1; omega
    · rw [List.getElem?_eq_none (by rw [doneL_len]; exact g), List.getElem?_eq_none (by simpa using g)]
  intro m
  induction m with
  | zero =>
    intro now rs S C h0 h1 hS he hd
    have := C.m
    exact fin C (by omega) hS hd
  | succ m ih =>
    intro now rs S C h0 h1 hS he hd
    rw [picks]
    split
    · rename_i hs
      exact fin C hs hS hd
    · rename_i hs
      rcases pick_cases (o := o) (js := js) (rs := rs) (now := now) with ⟨hp, _⟩ | ⟨b, hp, hb, hb0⟩
      · obtain ⟨_, C2, _⟩ := C.skip hg (by omega) (o := o) (by omega)
        rw [hp, if_pos (by omega)]
        exact ih C2 (by omega) (by omega) hS (by omega) hd
      · obtain ⟨C2, _, _⟩ := C.take (by omega) hb hb0
        rw [hp, if_neg (by omega), Int.toNat_natCast, List.foldl_cons]
        obtain ⟨g1, g2, g3⟩ := sp_step hb (pick_r hp) h0 (by omega) hS he
        refine ih C2 (by omega) (by omega) g1 (by omega) fun i hi => ?_
        rw [g3, gE_set (by rw [doneL_len]; exact hb), gE_set (by rw [C.l]; exact hb)]
        have := hd i hi
        by_cases e : i = b
        · subst e; rw [if_pos rfl, if_pos rfl]; omega
        · rw [if_neg e, if_neg e]; exact this
theorem nil_ch {js : List Job} (hg : goodL js = true) (hn : js.length ≤ 8) : Ch js (restL js []) 0 FU := bd_ch (B := []) hg hn fun x hx => by cases hx
theorem restL_gE {js : List Job} {i : Nat} (hi : i < js.length) : gE (restL js []) i = (jA js i).t := by
  unfold gE; rw [restL_at hi]; rfl
theorem split_span {o : Int} {js : List Job} (hg : goodL js = true) (hn : js.length ≤ 8) : splB js (spanL o js 0 (restL js [])) = true := by
  refine spans_ok hg (nil_ch hg hn) (Int.le_refl _) (by unfold FU; omega) rfl (by simp [endOf]) fun i hi => ?_
  rw [restL_gE hi]
  have : gE (doneL js []) i = 0 := by unfold doneL gE; simp [hi]
  omega
end Go.Pm.PP

/- The greatest lateness of the choice by dates is the greatest bound of a set, and bounds all orders, in plain terms. -/
set_option linter.unusedVariables false
set_option linter.unusedSimpArgs false
namespace Go.Pm.PP
open Go.Pm Go.Pm.PE
def rsF (rs : List Int) (x : Int) : Int := gE rs x.toNat
/-! ### picks -/
theorem picks_done {o : Int} {js : List Job} {k : Nat} : ∀ {m : Nat} {now : Int} {rs E : List Int}, rs.length = js.length → E.length = js.length → gE rs k = 0 → gE (apS E (picks o js m now rs)) k = gE E k
  | 0, now, rs, E, _, _, h => rfl
  | m + 1, now, rs, E, hl, hE, h => by
    rw [picks]
    split
    · rfl
    · rcases pick_cases (o := o) (js := js) (rs := rs) (now := now) with ⟨hp, _⟩ | ⟨b, hp, hb, hb0⟩
      · rw [hp, if_pos (by omega)]; exact picks_done hl hE h
      · have hne : k ≠ b := fun e => hb0 (e ▸ h)
        rw [hp, if_neg (by omega), Int.toNat_natCast, apS_cons, Int.toNat_natCast, picks_done (by rw [List.length_set]; exact hl) (by rw [List.length_set]; exact hE) (by rw [gE_set (by omega), if_neg hne]; exact h), gE_set (by omega), if_neg hne]
theorem tsm_same {t u : Int → Int} {S : List Int} (h : ∀ x, x ∈ S → t x = u x) : tsm t S = tsm u S := by unfold tsm; rw [List.map_congr_left h]
theorem tsm_erase {t : Int → Int} {S : List Int} {x : Int} (h : x ∈ S) : tsm t S = t x + tsm t (S.erase x) := by rw [tsm_perm (List.perm_cons_erase h), tsm_cons]
/-- The rests of a set behind one step. -/
theorem rs_step {js : List Job} {rs S : List Int} {b : Nat} (hl : rs.length = js.length) (hb : b < js.length) (hin : inN js.length S) (hnd : S.Nodup) :
    tsm (rsF (rs.set b (gE rs b - 1))) S = tsm (rsF rs) S - (if (b : Int) ∈ S then 1 else 0) := by
  have ne : ∀ x, x ∈ S → x ≠ (b : Int) → rsF (rs.set b (gE rs b - 1)) x = rsF rs x := fun x hx hne => by
    have := hin x hx
    unfold rsF; rw [gE_set (by omega), if_neg (by omega)]
  split
  · rename_i h
    have h2 := hnd.erase (b : Int)
    rw [tsm_erase h, tsm_erase (t := rsF rs) h, tsm_same (u := rsF rs) fun x hx => ne x (List.mem_of_mem_erase hx) fun e => ?_]
    · unfold rsF; rw [Int.toNat_natCast, gE_set (by omega), if_pos rfl]; omega
    · exact (List.Nodup.mem_erase_iff hnd).1 hx |>.1 e
  · rename_i h
    rw [tsm_same (u := rsF rs) fun x hx => ne x hx fun e => h (e ▸ hx)]; omega
/-- Of each set some job ends no earlier than its bound. -/
theorem split_lower {o : Int} {js : List Job} (hg : goodL js = true) : ∀ {m : Nat} {now ρ : Int} {rs E S : List Int}, Ch js rs now m → E.length = js.length → S.Nodup → S ≠ [] → (∀ x, x ∈ S → (0 ≤ x ∧ x < js.length) ∧ 0 < rsF rs x ∧ (ρ ≤ now ∨ ρ ≤ (jA js x).r)) →
    ∃ k, k ∈ S ∧ ρ + tsm (rsF rs) S ≤ gE (apS E (picks o js m now rs)) k.toNat := by
  intro m
  induction m with
  | zero =>
    intro now ρ rs E S C hE h1 h2 h3
    obtain ⟨x, hx⟩ := List.exists_mem_of_ne_nil S h2
    obtain ⟨a1, a2, _⟩ := h3 x hx
    have := C.m
    have h3 := sumL_set (l := rs) (i := x.toNat) (y := gE rs x.toNat - 1) (by rw [C.l]; omega)
    have h4 := sumL_nn (l := rs.set x.toNat (gE rs x.toNat - 1)) (fun y hy => by
      have hb := C.b _ (gE_mem (show x.toNat < rs.length by rw [C.l]; omega))
      rcases List.mem_or_eq_of_mem_set hy with q | q
      · exact C.b y q
      · unfold rsF at a2; omega)
    unfold rsF at a2
    omega
  | succ m ih =>
    intro now ρ rs E S C hE h1 h2 h3
    have hl := C.l
    have hs : 0 < sumL rs := by
      obtain ⟨x, hx⟩ := List.exists_mem_of_ne_nil S h2
      obtain ⟨a1, a2, _⟩ := h3 x hx
      have h3 := sumL_set (l := rs) (i := x.toNat) (y := gE rs x.toNat - 1) (by rw [C.l]; omega)
      have h4 := sumL_nn (l := rs.set x.toNat (gE rs x.toNat - 1)) (fun y hy => by
        have hb := C.b _ (gE_mem (show x.toNat < rs.length by rw [C.l]; omega))
        rcases List.mem_or_eq_of_mem_set hy with q | q
        · exact C.b y q
        · unfold rsF at a2; omega)
      unfold rsF at a2
      omega
    rw [picks, if_neg (by omega)]
    rcases pick_cases (o := o) (js := js) (rs := rs) (now := now) with ⟨hp, hfree⟩ | ⟨b, hp, hb, hb0⟩
    · obtain ⟨_, C2, _⟩ := C.skip hg hs (o := o) (by omega)
      rw [hp, if_pos (by omega)]
      exact ih C2 hE h1 h2 fun x hx => ⟨(h3 x hx).1, (h3 x hx).2.1, (h3 x hx).2.2.imp (fun g => by omega) id⟩
    · obtain ⟨C2, _, hsum⟩ := C.take hs hb hb0
      have bb := C.b _ (gE_mem (show b < rs.length by rw [hl]; exact hb))
      have br := pick_r hp
      rw [hp, if_neg (by omega), Int.toNat_natCast, apS_cons, Int.toNat_natCast]
      dsimp only
      have hE2 : (E.set b (now + 1)).length = js.length := by rw [List.length_set]; exact hE
      have hset : ∀ i, gE (rs.set b (gE rs b - 1)) i = if i = b then gE rs b - 1 else gE rs i := fun i => gE_set (by omega)
      have hin : inN js.length S := fun x hx => (h3 x hx).1
      have oth : ∀ x, x ∈ S → x ≠ (b : Int) → 0 < rsF (rs.set b (gE rs b - 1)) x := fun x hx hne => by
        have a2 := (h3 x hx).2.1
        have a1 := hin x hx
        unfold rsF at a2 ⊢
        rw [hset, if_neg (by omega)]; exact a2
      by_cases cb : (b : Int) ∈ S
      · have hρ : ρ ≤ now := by
          rcases (h3 _ cb).2.2 with g | g <;> omega
        by_cases c1 : 1 < gE rs b
        · obtain ⟨k, hk, e⟩ := ih (ρ := now + 1) (E := E.set b (now + 1)) C2 hE2 h1 h2 fun x hx => ⟨hin x hx, by
            by_cases q : x = (b : Int)
            · subst q; unfold rsF; rw [Int.toNat_natCast, hset, if_pos rfl]; omega
            · exact oth x hx q, .inl (Int.le_refl _)⟩
          rw [rs_step hl hb hin h1, if_pos cb] at e
          exact ⟨k, hk, by omega⟩
        · have eb : gE rs b = 1 := by omega
          have et := tsm_erase (t := rsF rs) cb
          have erb : rsF rs (b : Int) = 1 := by unfold rsF; rw [Int.toNat_natCast]; exact eb
          have hnb : (b : Int) ∉ S.erase (b : Int) := fun g => ((List.Nodup.mem_erase_iff h1).1 g).1 rfl
          by_cases ce : S.erase (b : Int) = []
          · refine ⟨(b : Int), cb, ?_⟩
            rw [Int.toNat_natCast, picks_done C2.l hE2 (by rw [hset, if_pos rfl]; omega), gE_set (by omega), if_pos rfl]
            rw [ce] at et
            have : tsm (rsF rs) [] = 0 := rfl
            omega
          · have hin2 : inN js.length (S.erase (b : Int)) := fun x hx => hin x (List.mem_of_mem_erase hx)
            obtain ⟨k, hk, e⟩ := ih (ρ := now + 1) (E := E.set b (now + 1)) C2 hE2 (h1.erase _) ce fun x hx => ⟨hin2 x hx, oth x (List.mem_of_mem_erase hx) fun q => hnb (q ▸ hx), .inl (Int.le_refl _)⟩
            rw [rs_step hl hb hin2 (h1.erase _), if_neg hnb] at e
            exact ⟨k, List.mem_of_mem_erase hk, by omega⟩
      · obtain ⟨k, hk, e⟩ := ih (ρ := ρ) (E := E.set b (now + 1)) C2 hE2 h1 h2 fun x hx => ⟨hin x hx, oth x hx fun q => cb (q ▸ hx), (h3 x hx).2.2.imp (fun g => by omega) id⟩
        rw [rs_step hl hb hin h1, if_neg cb] at e
        exact ⟨k, hk, by omega⟩
/-- The same for an order. -/
theorem order_lower {js : List Job} (ht : ∀ x, 0 ≤ (jA js x).t) : ∀ {xs : List Int} {now ρ : Int} {E S : List Int}, inN js.length xs → xs.Nodup → E.length = js.length → S.Nodup → S ≠ [] → (∀ x, x ∈ S → x ∈ xs ∧ (ρ ≤ now ∨ ρ ≤ (jA js x).r)) →
    ∃ k, k ∈ S ∧ ρ + tsm (fun x => (jA js x).t) S ≤ gE (endGo js xs now E) k.toNat
  | [], now, ρ, E, S, _, _, _, _, h2, h3 => by
    obtain ⟨x, hx⟩ := List.exists_mem_of_ne_nil S h2
    cases (h3 x hx).1
  | x :: xs, now, ρ, E, S, hin, hnd, hE, h1, h2, h3 => by
    have hx := hin x (List.mem_cons_self ..)
    have hnd := List.nodup_cons.1 hnd
    have hin' : inN js.length xs := fun y hy => hin y (List.mem_cons_of_mem _ hy)
    have tx := ht x
    rw [endGo]
    have hE2 : (E.set x.toNat (max now (jA js x).r + (jA js x).t)).length = js.length := by rw [List.length_set]; exact hE
    by_cases cb : x ∈ S
    · have et := tsm_erase (t := fun x => (jA js x).t) cb
      have hnb : x ∉ S.erase x := fun g => ((List.Nodup.mem_erase_iff h1).1 g).1 rfl
      have hρ := (h3 _ cb).2
      by_cases ce : S.erase x = []
      · refine ⟨x, cb, ?_⟩
        rw [end_out (fun y hy => (hin' y hy).1) (by rw [show ((x.toNat : Nat) : Int) = x by omega]; exact hnd.1), gE_set (by omega), if_pos rfl]
        rw [ce] at et
        have : tsm (fun x => (jA js x).t) [] = 0 := rfl
        omega
      · obtain ⟨k, hk, e⟩ := order_lower ht (ρ := max now (jA js x).r + (jA js x).t) hin' hnd.2 hE2 (h1.erase _) ce fun y hy => by
          have hm := List.mem_of_mem_erase hy
          rcases List.mem_cons.1 (h3 y hm).1 with q | q
          · exact absurd hy (q ▸ hnb)
          · exact ⟨q, .inl (Int.le_refl _)⟩
        exact ⟨k, List.mem_of_mem_erase hk, by omega⟩
    · exact order_lower ht hin' hnd.2 hE2 h1 h2 fun y hy => by
        rcases List.mem_cons.1 (h3 y hy).1 with q | q
        · exact absurd hy (q ▸ cb)
        · exact ⟨q, (h3 y hy).2.imp (fun g => by omega) id⟩
/-! ### the greatest lateness of a list of ends -/
theorem valGo4_le {js : List Job} : ∀ {es : List Int} {a : Int}, js.length = es.length → a ≤ valGo 4 false a js es ∧ (∀ i, i < js.length → gE es i - ((js[i]?).getD ⟨0, 0, 0, 0⟩).d ≤ valGo 4 false a js es) ∧ (valGo 4 false a js es = a ∨ ∃ i, i < js.length ∧ valGo 4 false a js es = gE es i - ((js[i]?).getD ⟨0, 0, 0, 0⟩).d) := by
  induction js with
  | nil => intro es a h; cases es with
    | nil => exact ⟨Int.le_refl _, fun i hi => by simp at hi, .inl rfl⟩
    | cons e es => simp at h
  | cons j js ih =>
    intro es a h
    cases es with
    | nil => simp at h
    | cons e es =>
      obtain ⟨h1, h2, h3⟩ := @ih es (max a (e - j.d)) (by simpa using h)
      have ev : valGo 4 false a (j :: js) (e :: es) = valGo 4 false (max a (e - j.d)) js es := by rw [valGo]; simp [stepV]
      rw [ev]
      refine ⟨by omega, fun i hi => ?_, ?_⟩
      · cases i with
        | zero => simp [gE]; omega
        | succ i => simpa [gE] using h2 i (by simpa using hi)
      · rcases h3 with h3 | ⟨i, hi, h3⟩
        · rw [h3]
          by_cases c : a ≤ e - j.d
          · right; exact ⟨0, by simp, by simp [gE]; omega⟩
          · left; omega
        · right; exact ⟨i + 1, by simpa using hi, by simpa [gE] using h3⟩
theorem val4_facts {js : List Job} {es : List Int} (h : es.length = js.length) (h0 : js ≠ []) : (∀ i, i < js.length → gE es i - (jA js i).d ≤ valE 4 js es) ∧ ∃ i, i < js.length ∧ valE 4 js es = gE es i - (jA js i).d := by
  have ej : ∀ i : Nat, jA js i = (js[i]?).getD ⟨0, 0, 0, 0⟩ := fun i => by unfold jA; rw [Int.toNat_natCast]
  cases js with
  | nil => exact absurd rfl h0
  | cons j js =>
    cases es with
    | nil => simp at h
    | cons e es =>
      obtain ⟨h1, h2, h3⟩ := @valGo4_le js es (e - j.d) (by simpa using h.symm)
      have ev : valE 4 (j :: js) (e :: es) = valGo 4 false (e - j.d) js es := by unfold valE; rw [valGo]; simp [stepV]
      rw [ev]
      refine ⟨fun i hi => ?_, ?_⟩
      · rw [ej]
        cases i with
        | zero => simpa [gE] using h1
        | succ i => simpa [gE] using h2 i (by simpa using hi)
      · rcases h3 with h3 | ⟨i, hi, h3⟩
        · exact ⟨0, by simp, by rw [h3, ej]; simp [gE]⟩
        · exact ⟨i + 1, by simpa using hi, by rw [h3, ej]; simp [gE]⟩
/-! ### bounds of sets -/
/-- S: a set with a release and a date that bound it. -/
structure Bset (js : List Job) (S : List Int) (ρ δ : Int) : Prop where
  nd : S.Nodup
  ne : S ≠ []
  inn : inN js.length S
  r : ∀ x, x ∈ S → ρ ≤ (jA js x).r
  d : ∀ x, x ∈ S → (jA js x).d ≤ δ
theorem rest_tsm {js : List Job} {S : List Int} (hin : inN js.length S) : tsm (rsF (restL js [])) S = tsm (fun x => (jA js x).t) S := tsm_same fun x hx => by
  have := hin x hx
  unfold rsF; rw [restL_gE (by omega), show ((x.toNat : Nat) : Int) = x by omega]
/-- The bounds of sets are at most the greatest lateness of the choice by dates, or of any order. -/
theorem bd_split {o : Int} {js : List Job} {S : List Int} {ρ δ : Int} (hg : goodL js = true) (hn : js.length ≤ 8) (B : Bset js S ρ δ) : ρ + tsm (fun x => (jA js x).t) S - δ ≤ valE 4 js (bdE o js []) := by
  have h0 : js ≠ [] := by
    obtain ⟨x, hx⟩ := List.exists_mem_of_ne_nil S B.ne
    have := B.inn x hx
    intro e; subst e; simp at this; omega
  have hl : (List.replicate js.length (0 : Int)).length = js.length := by simp
  obtain ⟨k, hk, e⟩ := split_lower (o := o) hg (nil_ch hg hn) hl B.nd B.ne (ρ := ρ) fun x hx => ⟨B.inn x hx, by
    have hx' := B.inn x hx
    unfold rsF; rw [restL_gE (by omega)]
    have := jA_bd hg (show x.toNat < js.length by omega); omega, .inr (B.r x hx)⟩
  rw [rest_tsm B.inn] at e
  have ik := B.inn k hk
  have v := (val4_facts (js := js) (es := bdE o js []) (by unfold bdE; rw [apS_len, endsL_len]) h0).1 k.toNat (by omega)
  have d := B.d k hk
  rw [show ((k.toNat : Nat) : Int) = k by omega] at v
  have eE : bdE o js [] = apS (List.replicate js.length 0) (picks o js FU 0 (restL js [])) := rfl
  rw [eE] at v ⊢
  omega
theorem bd_order {js : List Job} {S xs : List Int} {ρ δ : Int} (hg : goodL js = true) (hp : Prm js.length xs) (B : Bset js S ρ δ) (h0 : 0 ≤ ρ) : ρ + tsm (fun x => (jA js x).t) S - δ ≤ valE 4 js (endsL js xs) := by
  have hne : js ≠ [] := by
    obtain ⟨x, hx⟩ := List.exists_mem_of_ne_nil S B.ne
    have := B.inn x hx
    intro e; subst e; simp at this; omega
  have ht : ∀ x, 0 ≤ (jA js x).t := fun x => by
    by_cases h : 0 ≤ x ∧ x < js.length
    · have := jA_b hg h; omega
    · by_cases c : x.toNat < js.length
      · have := jA_bd hg c
        have e : jA js x = jA js (x.toNat : Nat) := by unfold jA; rw [Int.toNat_natCast]
        rw [e]; omega
      · have e : jA js x = ⟨0, 0, 0, 0⟩ := by unfold jA; rw [List.getElem?_eq_none (by omega)]; rfl
        rw [e]; simp
  obtain ⟨k, hk, e⟩ := order_lower (js := js) ht (xs := xs) (now := 0) (ρ := ρ) (E := List.replicate js.length 0) hp.inn hp.nd (by simp) B.nd B.ne fun x hx => ⟨hp.mem_iff.2 (by
    have := B.inn x hx
    exact List.mem_map.2 ⟨x.toNat, by simp [List.mem_range'_1]; omega, by omega⟩), .inr (B.r x hx)⟩
  have ik := B.inn k hk
  have v := (val4_facts (js := js) (es := endsL js xs) endsL_len hne).1 k.toNat (by omega)
  have d := B.d k hk
  rw [show ((k.toNat : Nat) : Int) = k by omega] at v
  have eE : endsL js xs = endGo js xs 0 (List.replicate js.length 0) := rfl
  rw [eE] at v ⊢
  omega
end Go.Pm.PP

/- Tables of the greatest weights of timely sets, in plain terms: by sets, and by jobs in due order. -/
set_option linter.unusedVariables false
set_option linter.unusedSimpArgs false
namespace Go.Pm.PE
open Go.Pm.PP
/-- A table that tells for each sum of times the greatest weight of a class of sets, -1 where there is none. -/
structure TabK (t w : Int → Int) (N : Nat) (cls : List Int → Prop) (T : List Int) : Prop where
  len : T.length = N + 1
  low : ∀ k, k ≤ N → -1 ≤ gE T k
  up : ∀ S, cls S → ∀ k : Nat, k ≤ N → tsm t S = k → tsm w S ≤ gE T k
  att : ∀ k : Nat, k ≤ N → 0 ≤ gE T k → ∃ S, cls S ∧ tsm t S = k ∧ tsm w S = gE T k
section
variable {t w d : Int → Int} {N : Nat}
theorem tsm_nonneg (hw : ∀ x, 0 ≤ w x) : ∀ {S : List Int}, 0 ≤ tsm w S
  | [] => by simp [tsm]
  | x :: S => by rw [tsm_cons]; have := hw x; have := tsm_nonneg hw (S := S); omega
/-! ### by sets -/
def upT (T : List Int) (k : Int) (x : Int) : List Int := T.set k.toNat (max (gE T k.toNat) x)
theorem TabK.nil : TabK t w N (fun _ => False) (List.replicate (N + 1) (-1)) := by
  have e : ∀ k, k ≤ N → gE (List.replicate (N + 1) (-1 : Int)) k = -1 := fun k hk => by simp [gE, List.getElem?_replicate, show k < N + 1 by omega]
  exact ⟨by simp, fun k hk => by rw [e k hk]; omega, fun S h => h.elim, fun k hk h => by rw [e k hk] at h; omega⟩
theorem TabK.add {cls : List Int → Prop} {T S0 : List Int} (h : TabK t w N cls T) (hw : ∀ x, 0 ≤ w x) (h0 : 0 ≤ tsm t S0) (h1 : tsm t S0 ≤ N) : TabK t w N (fun S => cls S ∨ S = S0) (upT T (tsm t S0) (tsm w S0)) := by
  obtain ⟨m, hm⟩ : ∃ m : Nat, (m : Int) = tsm t S0 := ⟨(tsm t S0).toNat, by omega⟩
  have hl : m < T.length := by rw [h.len]; omega
  have e : ∀ k : Nat, gE (upT T (tsm t S0) (tsm w S0)) k = if k = m then max (gE T m) (tsm w S0) else gE T k := fun k => by
    unfold upT
    rw [← hm, Int.toNat_natCast, gE_set hl]
  have hw0 := tsm_nonneg hw (S := S0)
  refine ⟨by unfold upT; rw [List.length_set, h.len], fun k hk => ?_, fun S hS k hk hs => ?_, fun k hk hg => ?_⟩
  · have := h.low k hk
    rw [e]; split
    · have := h.low m (by omega); omega
    · exact this
  · rw [e]
    rcases hS with g | rfl
    · have := h.up S g k hk hs
      split
      · rename_i c; subst c; omega
      · exact this
    · rw [if_pos (by omega)]; omega
  · rw [e] at hg ⊢
    split
    · rename_i c
      subst c
      rw [if_pos rfl] at hg
      by_cases g : gE T k ≤ tsm w S0
      · exact ⟨S0, .inr rfl, hm.symm, by omega⟩
      · obtain ⟨S, hS, a1, a2⟩ := h.att k hk (by omega)
        exact ⟨S, .inl hS, a1, by omega⟩
    · rename_i c
      rw [if_neg c] at hg
      obtain ⟨S, hS, a1, a2⟩ := h.att k hk hg
      exact ⟨S, .inl hS, a1, a2⟩
theorem TabK.weak {cls cls' : List Int → Prop} {T : List Int} (h : TabK t w N cls T) (e : ∀ S, cls S ↔ cls' S) : TabK t w N cls' T :=
  ⟨h.len, h.low, fun S hS => h.up S ((e S).2 hS), fun k hk hg => by obtain ⟨S, hS, a⟩ := h.att k hk hg; exact ⟨S, (e S).1 hS, a⟩⟩
/-! ### by jobs -/
def clsP (t d : Int → Int) (D : List Int) (S : List Int) : Prop := S.Sublist D ∧ okG t d 0 0 S = true
theorem sub_snoc {D S : List Int} {x : Int} : S.Sublist (D ++ [x]) ↔ S.Sublist D ∨ ∃ S', S = S' ++ [x] ∧ S'.Sublist D := by
  constructor
  · intro h
    obtain ⟨A, B, rfl, hA, hB⟩ := List.sublist_append_iff.1 h
    rcases List.sublist_cons_iff.1 hB with g | ⟨r, rfl, g⟩
    · left; rw [List.sublist_nil.1 g, List.append_nil]; exact hA
    · right; rw [List.sublist_nil.1 g]; exact ⟨A, rfl, hA⟩
  · rintro (h | ⟨S', rfl, h⟩)
    · exact h.trans (List.sublist_append_left ..)
    · exact h.append (List.Sublist.refl _)
theorem TabK.one (hw : ∀ x, 0 ≤ w x) : TabK t w N (clsP t d []) (0 :: List.replicate N (-1)) := by
  have e : ∀ k : Nat, k ≤ N → gE ((0 : Int) :: List.replicate N (-1 : Int)) k = if k = 0 then 0 else -1 := fun k hk => by
    cases k with
    | zero => rfl
    | succ k => simp [gE, List.getElem?_replicate, show k < N by omega]
  have hn : ∀ {S}, clsP t d [] S → S = [] := fun h => List.sublist_nil.1 h.1
  refine ⟨by simp, fun k hk => by rw [e k hk]; split <;> omega, fun S hS k hk hs => ?_, fun k hk h => ?_⟩
  · rw [hn hS] at hs ⊢
    have hs : (0 : Int) = k := hs
    rw [e k hk, if_pos (by omega)]
    exact Int.le_refl _
  · rw [e k hk] at h ⊢
    split at h
    · rename_i c
      subst c
      exact ⟨[], ⟨List.Sublist.refl _, rfl⟩, rfl, rfl⟩
    · omega
end
end Go.Pm.PE

/- Sets ordered by their numbers of jobs and then lexicographically, in plain terms. -/
set_option linter.unusedVariables false
set_option linter.unusedSimpArgs false
namespace Go.Pm.PE
open Go.Pm.PP
end Go.Pm.PE

/- The late rule, in plain terms: what is left is a largest part of the jobs taken that can be on time, with the least sum of times. -/
set_option linter.unusedVariables false
set_option linter.unusedSimpArgs false
namespace Go.Pm.PE
open Go.Pm.PP
section
variable (t d : Int → Int)
/-- The index of the first one of the longest. -/
def lgS (l : List Int) (b i : Nat) : Nat := if t (gE l b) < t (gE l i) then i else b
def lgI (l : List Int) : Nat := (List.range' 0 l.length).foldl (lgS t l) 0
end
section
variable {t d : Int → Int}
theorem lg_go {l : List Int} : ∀ {m i b : Nat}, b < l.length → i + m ≤ l.length → let q := (List.range' i m).foldl (lgS t l) b
    q < l.length ∧ t (gE l b) ≤ t (gE l q) ∧ (∀ j, i ≤ j → j < i + m → t (gE l j) ≤ t (gE l q)) ∧ (q = b ∨ t (gE l b) < t (gE l q)) ∧ (q = b ∨ i ≤ q)
  | 0, i, b, hb, _ => ⟨hb, Int.le_refl _, fun j h1 h2 => by omega, .inl rfl, .inl rfl⟩
  | m + 1, i, b, hb, h => by
    rw [List.range'_succ, List.foldl_cons]
    by_cases c : t (gE l b) < t (gE l i)
    · have e : lgS t l b i = i := by unfold lgS; rw [if_pos c]
      rw [e]
      obtain ⟨h1, h2, h3, h4, h5⟩ := lg_go (l := l) (m := m) (i := i + 1) (b := i) (by omega) (by omega)
      refine ⟨h1, by omega, fun j j1 j2 => ?_, .inr (by omega), .inr (by omega)⟩
      rcases Nat.lt_or_ge i j with g | g
      · exact h3 j g (by omega)
      · have : j = i := by omega
        subst this; exact h2
    · have e : lgS t l b i = b := by unfold lgS; rw [if_neg c]
      rw [e]
      obtain ⟨h1, h2, h3, h4, h5⟩ := lg_go (l := l) (m := m) (i := i + 1) (b := b) hb (by omega)
      refine ⟨h1, h2, fun j j1 j2 => ?_, h4, by omega⟩
      rcases Nat.lt_or_ge i j with g | g
      · exact h3 j g (by omega)
      · have : j = i := by omega
        subst this; omega
theorem lg_spec {l : List Int} (h : l ≠ []) : lgI t l < l.length ∧ ∀ x, x ∈ l → t x ≤ t (gE l (lgI t l)) := by
  have hp : 0 < l.length := List.length_pos_iff.2 h
  obtain ⟨h1, h2, h3, _⟩ := lg_go (t := t) (l := l) (m := l.length) (i := 0) (b := 0) hp (by omega)
  refine ⟨h1, fun x hx => ?_⟩
  obtain ⟨j, hj⟩ := List.getElem?_of_mem hx
  have hjl := (List.getElem?_eq_some_iff.1 hj).1
  have := h3 j (by omega) (by omega)
  have e : gE l j = x := by unfold gE; rw [hj]; rfl
  rw [e] at this
  exact this
theorem erase_perm {l : List Int} {k : Nat} (h : k < l.length) : l.Perm (gE l k :: l.eraseIdx k) := by
  have e : l = l.take k ++ gE l k :: l.drop (k + 1) := by
    have h1 : l[k]? = some (gE l k) := gE_get h
    have := List.take_append_drop k l
    rw [List.drop_eq_getElem_cons h] at this
    have e2 : l[k] = gE l k := by have := List.getElem?_eq_some_iff.1 h1; exact this.2
    rw [e2] at this
    exact this.symm
  rw [List.eraseIdx_eq_take_drop_succ]
  conv => lhs; rw [e]
  exact List.perm_middle
theorem okG_drop {A B : List Int} {x : Int} (ht : ∀ x, 0 ≤ t x) {now : Int} (h : okG t d 0 now (A ++ x :: B) = true) : okG t d 0 now (A ++ B) = true := by
  rw [okG_app, Bool.and_eq_true] at h ⊢
  refine ⟨h.1, ?_⟩
  have h2 := h.2
  rw [okG, Bool.and_eq_true] at h2
  have := ht x
  exact okG_mono (by omega) h2.2
theorem okG_erase {l : List Int} {k : Nat} (ht : ∀ x, 0 ≤ t x) (hk : k < l.length) {now : Int} (h : okG t d 0 now l = true) : okG t d 0 now (l.eraseIdx k) = true := by
  have e : l = l.take k ++ l[k] :: l.drop (k + 1) := by
    have := List.take_append_drop k l
    rw [List.drop_eq_getElem_cons hk] at this
    exact this.symm
  rw [List.eraseIdx_eq_take_drop_succ]
  rw [e] at h
  exact okG_drop ht h
/-- The end of a list that is on time: its sum is no greater than the date of its last one. -/
theorem ok_last {l : List Int} {x : Int} (h : okG t d 0 0 (l ++ [x]) = true) : tsm t (l ++ [x]) ≤ d x := by
  rw [okG_app, Bool.and_eq_true] at h
  have h2 := h.2
  simp only [okG, Bool.and_true, decide_eq_true_eq] at h2
  rw [tsm_app, tsm_cons]
  simp only [show tsm t [] = 0 from rfl]
  omega
theorem nd_le {s l : List Int} (h : s.Nodup) (hm : ∀ x, x ∈ s → x ∈ l) : s.length ≤ l.length := by
  induction s generalizing l with
  | nil => simp
  | cons x s ih =>
    obtain ⟨h1, h2⟩ := List.nodup_cons.1 h
    have hx := hm x (List.mem_cons_self ..)
    have p := List.perm_cons_erase hx
    have := ih (l := l.erase x) h2 fun y hy => by
      have := p.mem_iff.1 (hm y (List.mem_cons_of_mem _ hy))
      rcases List.mem_cons.1 this with rfl | g
      · exact absurd hy h1
      · exact g
    have := p.length_eq
    simp only [List.length_cons] at this ⊢
    omega
theorem nd_perm {s l : List Int} (h : s.Nodup) (hm : ∀ x, x ∈ s → x ∈ l) (hl : l.length ≤ s.length) (hn : l.Nodup) : s.Perm l := by
  refine (List.perm_ext_iff_of_nodup h hn).2 fun x => ⟨hm x, fun hx => ?_⟩
  refine Classical.byContradiction fun g => ?_
  have := nd_le (s := x :: s) (l := l) (List.nodup_cons.2 ⟨g, h⟩) fun y hy => by
    rcases List.mem_cons.1 hy with rfl | k
    · exact hx
    · exact hm y k
  simp only [List.length_cons] at this
  omega
/-- What holds of the jobs that are left. -/
structure LRI (t d : Int → Int) (D E : List Int) : Prop where
  sub : E.Sublist D
  ok : okG t d 0 0 E = true
  dom : ∀ S, S.Sublist D → okG t d 0 0 S = true → ∃ S', S'.Nodup ∧ (∀ x, x ∈ S' → x ∈ E) ∧ S'.length = S.length ∧ tsm t S' ≤ tsm t S
theorem LRI.nil : LRI t d [] [] := ⟨List.Sublist.refl _, rfl, fun S hS _ => ⟨[], List.nodup_nil, fun x h => (by cases h), by rw [List.sublist_nil.1 hS], by rw [List.sublist_nil.1 hS]; exact Int.le_refl _⟩⟩
theorem LRI.step (ht : ∀ x, 0 ≤ t x) {D E : List Int} {x : Int} (I : LRI t d D E) (hnd : (D ++ [x]).Nodup) (hd : ∀ y, y ∈ D → d y ≤ d x) : LRI t d (D ++ [x]) (if tsm t (E ++ [x]) ≤ d x then E ++ [x] else (E ++ [x]).eraseIdx (lgI t (E ++ [x]))) := by
  have hxD : x ∉ D := fun g => by
    have := (List.nodup_append.1 hnd).2.2 x g x (List.mem_singleton.2 rfl)
    exact this rfl
  have hxE : x ∉ E := fun g => hxD (I.sub.subset g)
  have hsub : (E ++ [x]).Sublist (D ++ [x]) := I.sub.append (List.Sublist.refl _)
  have hndE : (E ++ [x]).Nodup := hnd.sublist hsub
  have last : ∀ S, S.Sublist (D ++ [x]) → okG t d 0 0 S = true → S ≠ [] → tsm t S ≤ d x := fun S hS ho hne => by
    obtain ⟨r, y, rfl⟩ := snoc_of hne
    have h1 := ok_last ho
    have hy : y ∈ D ++ [x] := hS.subset (by simp)
    rcases List.mem_append.1 hy with g | g
    · have := hd y g; omega
    · rw [List.mem_singleton.1 g] at h1 ⊢; exact h1
  -- some part of what was left, and of the one that is taken
  have wide : ∀ S, S.Sublist (D ++ [x]) → okG t d 0 0 S = true → ∃ S', S'.Nodup ∧ (∀ y, y ∈ S' → y ∈ E ++ [x]) ∧ S'.length = S.length ∧ tsm t S' ≤ tsm t S := fun S hS ho => by
    rcases sub_snoc.1 hS with g | ⟨S0, rfl, g⟩
    · obtain ⟨S', a, b, c, e⟩ := I.dom S g ho
      exact ⟨S', a, fun y hy => List.mem_append_left _ (b y hy), c, e⟩
    · rw [okG_app, Bool.and_eq_true] at ho
      obtain ⟨S', a, b, c, e⟩ := I.dom S0 g ho.1
      refine ⟨S' ++ [x], List.nodup_append.2 ⟨a, by simp, fun u hu v hv e => ?_⟩, fun y hy => ?_, by simp [c], ?_⟩
      · rw [List.mem_singleton.1 hv] at e
        exact hxE (e ▸ b u hu)
      · rcases List.mem_append.1 hy with g | g
        · exact List.mem_append_left _ (b y g)
        · exact List.mem_append_right _ g
      · rw [tsm_app, tsm_app]; omega
  by_cases c : tsm t (E ++ [x]) ≤ d x
  · rw [if_pos c]
    refine ⟨hsub, ?_, wide⟩
    rw [okG_app, I.ok]
    rw [tsm_app, tsm_cons] at c
    simp only [show tsm t [] = 0 from rfl] at c
    simp only [okG, Bool.and_true, Bool.true_and, decide_eq_true_eq]
    omega
  · rw [if_neg c]
    obtain ⟨k1, k2⟩ := lg_spec (t := t) (l := E ++ [x]) (by simp)
    generalize lgI t (E ++ [x]) = k at *
    have hp := erase_perm k1
    obtain ⟨l, hl⟩ : ∃ l, l = gE (E ++ [x]) k := ⟨_, rfl⟩
    rw [← hl] at hp k2
    have hndp := hp.nodup_iff.1 hndE
    obtain ⟨n1, n2⟩ := List.nodup_cons.1 hndp
    refine ⟨(List.eraseIdx_sublist ..).trans hsub, ?_, fun S hS ho => ?_⟩
    · -- still on time
      rcases Nat.lt_or_ge k E.length with g | g
      · rw [List.eraseIdx_append_of_lt_length g, okG_app, okG_erase ht g I.ok]
        have hpE := erase_perm g
        have e1 : gE E k = l := by
          rw [hl]; unfold gE; rw [List.getElem?_append_left g]
        rw [e1] at hpE
        have s1 := tsm_perm (t := t) hpE
        rw [tsm_cons] at s1
        have s2 := k2 x (by simp)
        have hne : E ≠ [] := List.length_pos_iff.1 (by omega)
        have s3 := last E (I.sub.trans (List.sublist_append_left ..)) I.ok hne
        simp only [okG, Bool.and_true, Bool.true_and, decide_eq_true_eq]
        omega
      · have : k = E.length := by simp at k1; omega
        subst this
        rw [List.eraseIdx_append_of_length_le (Nat.le_refl _), Nat.sub_self]
        simpa using I.ok
    · obtain ⟨S', a, b, c', e⟩ := wide S hS ho
      by_cases hlS : l ∈ S'
      · -- some one of them is not in it
        have : ∃ z, z ∈ E ++ [x] ∧ z ∉ S' := by
          refine Classical.byContradiction fun g => ?_
          have hall : ∀ z, z ∈ E ++ [x] → z ∈ S' := fun z hz => Classical.byContradiction fun k => g ⟨z, hz, k⟩
          have hpm := nd_perm a b (nd_le hndE hall) hndE
          have h1 := tsm_perm (t := t) hpm
          have h2 := last S hS ho (fun k => by
            rw [k] at c'
            have : S' = [] := List.length_eq_zero_iff.1 (by simpa using c')
            rw [this] at hlS; cases hlS)
          omega
        obtain ⟨z, hz, hzS⟩ := this
        have hpl := List.perm_cons_erase hlS
        have hne : z ≠ l := fun g => hzS (g ▸ hlS)
        have ndl := List.nodup_cons.1 (hpl.nodup_iff.1 a)
        refine ⟨z :: S'.erase l, List.nodup_cons.2 ⟨fun g => hzS (hpl.mem_iff.2 (List.mem_cons_of_mem _ g)), ndl.2⟩, fun y hy => ?_, ?_, ?_⟩
        · rcases List.mem_cons.1 hy with rfl | g
          · rcases List.mem_cons.1 (hp.mem_iff.1 hz) with g | g
            · exact absurd g hne
            · exact g
          · have h1 := b y (hpl.mem_iff.2 (List.mem_cons_of_mem _ g))
            rcases List.mem_cons.1 (hp.mem_iff.1 h1) with k | k
            · exact absurd (k ▸ g) ndl.1
            · exact k
        · have := hpl.length_eq
          simp only [List.length_cons] at this ⊢
          omega
        · have s1 := tsm_perm (t := t) hpl
          rw [tsm_cons] at s1 ⊢
          have := k2 z hz
          omega
      · refine ⟨S', a, fun y hy => ?_, c', e⟩
        rcases List.mem_cons.1 (hp.mem_iff.1 (b y hy)) with g | g
        · exact absurd (g ▸ hy) hlS
        · exact g
theorem LRI.most {D E S : List Int} (I : LRI t d D E) (hE : E.Nodup) (hS : S.Sublist D) (ho : okG t d 0 0 S = true) : S.length ≤ E.length ∧ (S.length = E.length → tsm t E ≤ tsm t S) := by
  obtain ⟨S', a, b, c, e⟩ := I.dom S hS ho
  have := nd_le a b
  refine ⟨by omega, fun h => ?_⟩
  have := tsm_perm (t := t) (nd_perm a b (by omega) hE)
  omega
/-! ### the steps -/
def gone (s : List (Int × Int)) : List Int := (s.map Prod.snd).filter fun x => decide (0 ≤ x)
end
end Go.Pm.PE
