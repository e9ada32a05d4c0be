/- The texts Pv6, Pv7, Pv8, Pv9, PvSb, PvSc, PvSd, PvSe, PvQa, PvTa, PvTb, PvTc, Ps8, PvTd, PvTe, PvRa, Ps9, PvFa, PvFb, PvFc, PvFd, PvFe, PvFh, PvFi, PvFk, PvFl, PvFj, PvSf, PvSg, PvSh, PvSi, PvFf, PvFg, PvFm, PvFn, PvFo, PsA, PsB, PsC, PvLa, PvLb, PsD of this work: Draws: lists of jobs. -/
import Derived.Test.YtcmbjbddjlamaaaP6
/- Draws: lists of jobs. -/
set_option linter.unusedVariables false
set_option linter.unusedSimpArgs false
set_option maxRecDepth 4000
set_option maxHeartbeats 16000000
namespace Go.Pm.PP
open Go.Pm Go.Proofs Go.Pm.PE
section
variable {h0 h : Hp} {r n : Nat} {vc : Value} {L : List Asn}
/-- Something is put at the end of a list of one's own that is drawn. -/
theorem Cur.pushJ {u : Value} {js : List Job} (C : Cur h0 h r vc n (L ++ [.own u 4 (js.map encJ)])) (j : Job) (hl : js.length ≤ 2 ^ 40) : ∃ u' h', appendP P (h ++ [some ⟨[.int .i64 j.t, .int .i64 j.w, .int .i64 j.r, .int .i64 j.d], 4, false⟩]) t_S_impl_Job u (.slice (some ⟨h.length, 0, some 4⟩) 1 1) = some (u', h') ∧ Cur h0 h' r vc n (L ++ [.own u' 4 ((js ++ [j]).map encJ)]) := by
  obtain ⟨a, s, h1, h2, H⟩ := C
  obtain ⟨u', h', g1, g2, _⟩ := push_J0 H (L.length + 1) (by rw [List.getElem?_cons_succ]; exact snoc_get) j hl
  refine ⟨u', h', g1, a, s, h1, h2, ?_⟩
  rw [List.set_cons_succ, List.set_append_right (h := Nat.le_refl _), Nat.sub_self] at g2
  exact g2
theorem Cur.seesJ {u : Value} {js : List Job} (C : Cur h0 h r vc n (L ++ [.own u 4 (js.map encJ)])) : Jobs h u js := by
  obtain ⟨a, s, h1, h2, H⟩ := C
  exact H.sees (L.length + 1) (by rw [List.getElem?_cons_succ]; exact snoc_get)
theorem Cur.putJ {u : Value} {js : List Job} (C : Cur h0 h r vc n (L ++ [.own u 4 (js.map encJ)])) {k : Nat} (hk : k < js.length) (j : Job) : ∃ h', storeP P h t_impl_Job (jv j) (.pointer (some (addP (base u) (k * 4)))) = some h' ∧ Cur h0 h' r vc n (L ++ [.own u 4 ((js.set k j).map encJ)]) := by
  obtain ⟨a, s, h1, h2, H⟩ := C
  obtain ⟨h', g1, g2, _⟩ := put_J H (L.length + 1) (by rw [List.getElem?_cons_succ]; exact snoc_get) hk j
  refine ⟨h', g1, a, s, h1, h2, ?_⟩
  rw [List.set_cons_succ, List.set_append_right (h := Nat.le_refl _), Nat.sub_self] at g2
  exact g2
theorem Cur.nil (C : Cur h0 h r vc n L) (α : Type) (enc : α → List Value) (sz : Nat) : Cur h0 h r vc n (L ++ [.own (.slice none 0 0) sz (([] : List α).map enc)]) := by
  obtain ⟨a, s, h1, h2, H⟩ := C
  exact ⟨a, s, h1, h2, H.call List.prefix_rfl (by simpa using Own.nil)⟩
theorem someJobs_run (B : By h0 vc) (C : Cur h0 h r vc n L) (hn : n ≤ 2 ^ 20) {b : Bool} {most : Nat} (hm : most ≤ 8) : RunsC P G n_spec_l1Cur_someJobs [.pointer (some ⟨r, 0, some 3⟩), .bool b, .int .i64 most] h fun v h' => ∃ js : List Job, js.length ≤ 9 ∧ Cur h0 h' r vc (n + 200) (L ++ [.own v 4 (js.map encJ)]) := by
  refine hideC fun K hK => enter_run e_spec_l1Cur_someJobs (by simp) ?_
  simp -implicitDefEqProofs
  refine CL_post (among_run B (C.lit [3, 4, 5, 2, 6, 1, 0]) (by omega) snoc_get (by simp) (by simp)) fun v h1 ⟨x, ev, hx, C1'⟩ => ?_
  subst ev
  have hx2 : 0 ≤ x ∧ x ≤ 6 := by
    simp only [List.mem_cons, List.not_mem_nil, or_false] at hx
    omega
  have C1 := C1'.weak
  obtain ⟨X, hX, hX2⟩ : ∃ X : Int, X = x ∧ 0 ≤ X ∧ X ≤ 9 := ⟨x, rfl, by omega, by omega⟩
  by_cases c : (6 : Int) < most
  case' neg =>
    rw [← hX]
    clear hX
    have C2 : Cur h0 h1 r vc (n + 6) L := C1.mono (by omega)
    obtain ⟨h2, hh2⟩ : ∃ h2, h2 = h1 := ⟨_, rfl⟩
    have c' : ¬ 6 < most := by omega
    simp -implicitDefEqProofs [c, c']
    rw [← hh2] at C2 ⊢
  case' pos =>
    clear hX hX2
    have c' : 6 < most := by omega
    simp -implicitDefEqProofs [c, c']
    refine CL_post (one_run B C1 (by omega) (k := 6) (by omega)) fun v h2 ⟨b2, ev, C1''⟩ => ?_
    subst ev
    clear X
    cases b2
    case' false =>
      obtain ⟨X, hX, hX2⟩ : ∃ X : Int, X = x ∧ 0 ≤ X ∧ X ≤ 9 := ⟨x, rfl, by omega, by omega⟩
      rw [← hX]
      clear hX
      have C2 : Cur h0 h2 r vc (n + 6) L := C1''.mono (by omega)
      simp -implicitDefEqProofs
    case' true =>
      simp -implicitDefEqProofs
      refine CL_post (pick_run B C1'' (by omega) (k := 2) (by omega)) fun v h2 ⟨y, ev, y0, _, y1, C2'⟩ => ?_
      subst ev
      have y2 := y1 (by omega)
      have w7 : IntKind.i64.wrap (7 + y) = 7 + y := by rw [wrap_ok] <;> omega
      obtain ⟨X, hX, hX2⟩ : ∃ X : Int, X = 7 + y ∧ 0 ≤ X ∧ X ≤ 9 := ⟨7 + y, rfl, by omega, by omega⟩
      have C2 : Cur h0 h2 r vc (n + 6) L := C2'.mono (by omega)
      simp -implicitDefEqProofs [w7]
      rw [← hX]
  all_goals
    refine R_loopO (fun m st h' => ∃ (js : List Job) (u : Value), st = [(0, .pointer (some ⟨r, 0, some 3⟩)), (1, .bool b), (2, .int .i64 most), (7, u), (8, .int .i64 m)] ∧ js.length + m ≤ 9 ∧ Cur h0 h' r vc (n + 6 + 8 * js.length) (L ++ [.own u 4 (js.map encJ)])) (fun I hI m st h' => ?_) (n := X.toNat) ⟨[], .slice none 0 0, by simp; omega, by simp; omega, C2.nil Job encJ 4⟩
    rintro ⟨js, u, rfl, hj, C3⟩
    obtain ⟨ua, uc, rfl⟩ : ∃ a c, u = .slice a js.length c := C3.seesJ.shapeT
    by_cases c1 : 0 < m
    case' pos =>
      by_cases c2 : js.length < most
      case pos =>
        have w1 : IntKind.i64.wrap ((m : Int) - 1) = ((m - 1 : Nat) : Int) := by rw [wrap_ok] <;> omega
        have c1' : (0 : Int) < m := by omega
        have c2' : (js.length : Int) < most := by omega
        simp -implicitDefEqProofs [c1, c1', c2, c2']
        refine CL_post (job_run B C3 (by omega) (b := b)) fun v h4 ⟨j, ev, C4⟩ => ?_
        subst ev
        obtain ⟨u', h5, ha, C5⟩ := C4.pushJ j (by omega)
        simp -implicitDefEqProofs [ha, w1]
        exact ⟨m - 1, by omega, on hI ⟨js ++ [j], u', rfl, by simp; omega, by
          have e : n + 6 + 8 * (js ++ [j]).length = n + 6 + 8 * js.length + 8 := by simp; omega
          rw [e]; exact C5⟩⟩
      case' neg =>
        have c1' : (0 : Int) < m := by omega
        have c2' : ¬ (js.length : Int) < most := by omega
        simp -implicitDefEqProofs [c1, c1', c2, c2']
    case' neg =>
      have c1' : ¬ (0 : Int) < m := by omega
      simp -implicitDefEqProofs [c1, c1']
    all_goals
      by_cases c3 : 0 < js.length
      case' neg =>
        have c3' : ¬ (0 : Int) < js.length := by omega
        have C5 : Cur h0 h' r vc (n + 86) (L ++ [.own (.slice ua js.length uc) 4 (js.map encJ)]) := C3.mono (by omega)
        have hl5 : js.length ≤ 9 := by omega
        simp -implicitDefEqProofs [c3, c3']
      case' pos =>
        have c3' : (0 : Int) < js.length := by omega
        simp -implicitDefEqProofs [c3, c3']
        refine CL_post (one_run B C3 (by omega) (k := 20) (by omega)) fun v h4 ⟨b3, ev, C4⟩ => ?_
        subst ev
        cases b3
        case' false =>
          have C5 : Cur h0 h4 r vc (n + 86) (L ++ [.own (.slice ua js.length uc) 4 (js.map encJ)]) := C4.mono (by omega)
          have hl5 : js.length ≤ 9 := by omega
          simp -implicitDefEqProofs
        case' true =>
          simp -implicitDefEqProofs
          refine CL_post (pick_run B C4 (by omega) (k := js.length) (by omega)) fun v h5 ⟨q, ev, q0, _, q1, C5'⟩ => ?_
          subst ev
          obtain ⟨k, rfl⟩ : ∃ k : Nat, q = k := ⟨q.toNat, by omega⟩
          have hk : k < js.length := by have := q1 (by omega); omega
          obtain ⟨y, hy, _⟩ := drop_at hk
          have ly := load_J C5'.seesJ hy
          simp -implicitDefEqProofs [-indexAddrP_some, ly]
          refine CL_post (spoiltJob_run B C5' (by omega) (j := y)) fun v h6 ⟨j', ev, C6'⟩ => ?_
          subst ev
          have ix := (load_J C6'.seesJ hy).1
          obtain ⟨h7, s7, C7⟩ := C6'.putJ hk j'
          have C5 : Cur h0 h7 r vc (n + 86) (L ++ [.own (.slice ua js.length uc) 4 ((js.set k j').map encJ)]) := C7.mono (by omega)
          have hl5 : (js.set k j').length ≤ 9 := by rw [List.length_set]; omega
          simp -implicitDefEqProofs [-indexAddrP_some, ix, s7]
      all_goals
        refine CL_post (one_run B C5 (by omega) (k := 60) (by omega)) fun v h8 ⟨b4, ev, C8⟩ => ?_
        subst ev
        cases b4
        case false =>
          simp -implicitDefEqProofs
          exact onK hK ⟨_, hl5, C.gcO (C8.mono (by omega)) (fun h => h)⟩
        case true =>
          simp -implicitDefEqProofs
          refine R_loopO (fun m st h' => ∃ (js : List Job) (u : Value), st = [(0, .pointer (some ⟨r, 0, some 3⟩)), (1, .bool b), (7, u)] ∧ js.length + m = 9 ∧ Cur h0 h' r vc (n + 88 + 8 * js.length) (L ++ [.own u 4 (js.map encJ)])) (fun I2 hI2 m2 st h' => ?_) (n := 9 - js.length) ⟨_, _, by simp, ?_, C8.mono (by omega)⟩
          · rintro ⟨js2, u2, rfl, hj2, C9⟩
            obtain ⟨ub, ud, rfl⟩ : ∃ a c, u2 = .slice a js2.length c := C9.seesJ.shapeT
            by_cases c9 : js2.length < 9
            · have c9' : (js2.length : Int) < 9 := by omega
              simp -implicitDefEqProofs [c9, c9']
              refine CL_post (job_run B C9 (by omega) (b := b)) fun v h10 ⟨j, ev, C10⟩ => ?_
              subst ev
              obtain ⟨u', h11, ha, C11⟩ := C10.pushJ j (by omega)
              simp -implicitDefEqProofs [ha]
              exact ⟨m2 - 1, by omega, on hI2 ⟨js2 ++ [j], u', rfl, by simp; omega, by
                have e : n + 88 + 8 * (js2 ++ [j]).length = n + 88 + 8 * js2.length + 8 := by simp; omega
                rw [e]; exact C11⟩⟩
            · have c9' : ¬ (js2.length : Int) < 9 := by omega
              simp -implicitDefEqProofs [c9, c9']
              exact onK hK ⟨js2, by omega, C.gcO (C9.mono (by omega)) (fun h => h)⟩
          · first | omega | (rw [List.length_set]; omega)
end
end Go.Pm.PP

/- Draws: orders; the draw of jobs, an order and an objective. -/
set_option linter.unusedVariables false
set_option linter.unusedSimpArgs false
set_option maxRecDepth 4000
set_option maxHeartbeats 16000000
namespace Go.Pm.PP
open Go.Pm Go.Proofs Go.Pm.PE
theorem newOk_of {h h' : Hp} (hp : h <+: h') (n : NR h.length h') : newOk h h' := by
  refine ⟨hp, ?_⟩
  rw [List.all_eq_true]
  intro x hx
  cases x with
  | none => rfl
  | some x =>
    obtain ⟨k, hk⟩ := List.getElem?_of_mem hx
    rw [List.getElem?_drop] at hk
    simp [n.2 _ x (by omega) hk]
section
variable {h0 h : Hp} {r n : Nat} {vc : Value} {L : List Asn}
theorem Cur.seesI {u : Value} {xs : List Int} (C : Cur h0 h r vc n (L ++ [.own u 1 (xs.map encI)])) : Ints h u xs := by
  obtain ⟨a, s, h1, h2, H⟩ := C
  exact H.sees (L.length + 1) (by rw [List.getElem?_cons_succ]; exact snoc_get)
theorem Cur.join {h1 : Hp} {A : Asn} (C : Cur h0 h r vc n L) (D : Holds h h1 [A]) : Cur h0 h1 r vc n (L ++ [A]) := by
  obtain ⟨a, s, g1, g2, H⟩ := C
  exact ⟨a, s, g1, g2, H.join D⟩
end
end Go.Pm.PP

/- Values, best orders and exchanges, as the programs export them. -/
set_option linter.unusedVariables false
set_option linter.unusedSimpArgs false
set_option maxRecDepth 4000
set_option maxHeartbeats 8000000
namespace Go.Pm.PP
open Go.Pm Go.Proofs Go.Pm.PE
/-! ### bounds -/
theorem endGo_bd {js : List Job} (hg : goodL js = true) : ∀ {xs : List Int} {now : Int} {E : List Int} {k : Nat}, inN js.length xs → 0 ≤ now → now ≤ 550 * k → (∀ e, e ∈ E → 0 ≤ e ∧ e ≤ 550 * (k + xs.length : Nat)) → ∀ e, e ∈ endGo js xs now E → 0 ≤ e ∧ e ≤ 550 * (k + xs.length : Nat)
  | [], now, E, k, _, _, _, hE, e, he => hE e he
  | x :: r, now, E, k, hin, h0, h1, hE, e, he => by
    obtain ⟨i, hi, hil, hy⟩ := jA_get rfl (hin x (List.mem_cons_self ..))
    have jb := job_of (job_at hg hy)
    rw [endGo] at he
    have := endGo_bd hg (xs := r) (now := max now (jA js x).r + (jA js x).t) (k := k + 1) (fun y hy => hin y (List.mem_cons_of_mem _ hy)) (by omega) (by omega) (fun e he => by
      rcases List.mem_or_eq_of_mem_set he with g | g
      · have := hE e g
        simp only [List.length_cons] at this
        omega
      · omega) e he
    simp only [List.length_cons]
    omega
def jOk (js : List Job) : Bool := decide (js.length ≤ 8) && goodL js
def okV (js : List Job) (xs : List Int) (o : Int) : Bool := (jOk js && l2OrderL js.length xs) && inB o 1 8
theorem jOk_of {js : List Job} (h : jOk js = true) : js.length ≤ 8 ∧ goodL js = true := by
  rw [jOk, Bool.and_eq_true, decide_eq_true_eq] at h; exact h
theorem inB_of {o : Int} (h : inB o 1 8 = true) : 1 ≤ o ∧ o ≤ 8 := by simpa [inB] using h
theorem ord_of {n : Nat} {xs : List Int} (hf : l2OrderL n xs = true) : Ord n xs := by
  rw [l2OrderL, Bool.and_eq_true, Bool.and_eq_true] at hf
  obtain ⟨⟨h1, h2⟩, h3⟩ := hf
  have hl : n ≤ 8 := by simp only [inB, Bool.and_eq_true, decide_eq_true_eq] at h1; omega
  have := order_eq (n := n) (xs := xs) hl
  rw [h2, h3, Bool.true_and, Bool.true_and] at this
  have wn : w64 ((n : Int) - 1) = (n : Int) - 1 := by unfold w64; rw [wrap_ok] <;> omega
  obtain ⟨g1, g2, _⟩ := (arGo_iff wn).1 this
  exact ⟨by have := beq_iff_eq.1 h2; omega, g1, g2⟩
theorem ord_ok {n : Nat} {xs : List Int} (hn : n ≤ 8) (o : Ord n xs) : l2OrderL n xs = true := by
  have := order_eq (n := n) (xs := xs) hn
  have wn : w64 ((n : Int) - 1) = (n : Int) - 1 := by unfold w64; rw [wrap_ok] <;> omega
  have h1 : arGo n [] xs = true := (arGo_iff wn).2 ⟨o.inn, o.nd, by simp⟩
  have h2 : ((xs.length : Int) == n) = true := by rw [beq_iff_eq, o.len]
  rw [h1, h2, Bool.true_and, Bool.true_and] at this
  rw [l2OrderL, h2, ← this]
  simp [inB]; omega
theorem okV_of {js : List Job} {xs : List Int} {o : Int} (h : okV js xs o = true) : js.length ≤ 8 ∧ goodL js = true ∧ Ord js.length xs ∧ (1 ≤ o ∧ o ≤ 8) := by
  rw [okV, Bool.and_eq_true, Bool.and_eq_true] at h
  obtain ⟨⟨h1, h2⟩, h3⟩ := h
  exact ⟨(jOk_of h1).1, (jOk_of h1).2, ord_of h2, inB_of h3⟩
theorem isObjective_run {h : Hp} {x : Int} : Ret P G n_impl_isObjective [.int .i64 x] h (.bool (inB x 1 8)) h := by
  refine enter_run e_impl_isObjective (by simp) ?_
  simp -implicitDefEqProofs [CL_ret within_run]
section
variable {h : Hp} {v u : Value} {js : List Job} {xs : List Int} {o : Int}
theorem good_run (hj : Jobs h v js) (hl : js.length ≤ 2 ^ 40) : Ret P G n_spec_l2Good [v] h (.bool (jOk js)) h := l2Good_run hj hl
theorem isJobs_run (hj : Jobs h v js) (hl : js.length ≤ 2 ^ 40) : Ret P G n_impl_IsJobs [v] h (.bool (jOk js)) h := IsJobs_run hj hl
theorem isScheduled_run (hj : Jobs h v js) (hu : Ints h u xs) (hl : js.length ≤ 2 ^ 40) (hx : xs.length ≤ 2 ^ 40) : Ret P G n_impl_isScheduled [v, u] h (.bool (jOk js && l2OrderL js.length xs)) h := by
  refine enter_run e_impl_isScheduled (by simp) ?_
  have r1 := isJobs_run hj hl
  have r2 := isOrder_run (n := js.length) hu hx
  obtain ⟨oj, cj, rfl⟩ := hj.shapeT
  cases c1 : jOk js
  · simp -implicitDefEqProofs [CL_ret r1, c1]
  · have hn := (jOk_of c1).1
    have e : (((xs.length : Int) == (js.length : Nat)) && arGo js.length [] xs) = l2OrderL js.length xs := by
      rw [order_eq hn, l2OrderL, show inB js.length 0 8 = true by simp [inB]; omega, Bool.true_and]
    rw [e] at r2
    simp -implicitDefEqProofs [CL_ret r1, c1, CL_ret r2]
theorem isValued_run (hj : Jobs h v js) (hu : Ints h u xs) (hl : js.length ≤ 2 ^ 40) (hx : xs.length ≤ 2 ^ 40) : Ret P G n_impl_isValued [v, u, .int .i64 o] h (.bool (okV js xs o)) h := by
  refine enter_run e_impl_isValued (by simp) ?_
  have r1 := isScheduled_run hj hu hl hx
  obtain ⟨oj, cj, rfl⟩ := hj.shapeT
  obtain ⟨oa, ca, rfl⟩ := hu.shapeT
  cases c1 : (jOk js && l2OrderL js.length xs)
  · rw [c1] at r1
    simp -implicitDefEqProofs [CL_ret r1, okV, c1]
  · rw [c1] at r1
    simp -implicitDefEqProofs [CL_ret r1, okV, c1, CL_ret isObjective_run]
def vOf (js : List Job) (xs : List Int) (o : Int) : Int := if okV js xs o = true then valX o js xs else 0
theorem implValueOf_run (hj : Jobs h v js) (hu : Ints h u xs) (hl : js.length ≤ 2 ^ 40) (hx : xs.length ≤ 2 ^ 40) : Ret P G n_impl_ValueOf [v, u, .int .i64 o] h (.tuple #[.int .i64 (vOf js xs o), .bool (okV js xs o)]) h := by
  refine enter_run e_impl_ValueOf (by simp) ?_
  have r1 := isValued_run (o := o) hj hu hl hx
  have hjs := hj
  have hus := hu
  obtain ⟨oj, cj, rfl⟩ := hj.shapeT
  obtain ⟨oa, ca, rfl⟩ := hu.shapeT
  cases c1 : okV js xs o
  · simp -implicitDefEqProofs [CL_ret r1, c1, vOf]
  · obtain ⟨hn, hg, ox, ho⟩ := okV_of c1
    have rv := valueOf_run (o := o) hjs hus hg hn ho ox
    simp -implicitDefEqProofs [CL_ret r1, c1, CL_ret rv, vOf]
end
end Go.Pm.PP

/- Best values, counts, and exchanges of neighbours, as the programs export them. -/
set_option linter.unusedVariables false
set_option linter.unusedSimpArgs false
set_option maxRecDepth 4000
set_option maxHeartbeats 8000000
namespace Go.Pm.PP
open Go.Pm Go.Proofs Go.Pm.PE
section
variable {h : Hp} {v u : Value} {js : List Job} {xs ys : List Int} {o : Int}
theorem rBig_run {bs : List Int} (hb : Sees h v 1 (bs.map encU)) : Ret P G n_laws_rBig [v] h (.bool (decide ((65536 : Int) < bs.length))) h := by
  refine enter_run e_laws_rBig (by simp) ?_
  obtain ⟨oa, ca, rfl⟩ := hb.shapeT
  simp -implicitDefEqProofs
  try omega
theorem rInts_run (hv : Ints h v xs) (hu : Ints h u xs) (hx : xs.length ≤ 2 ^ 40) : Ret P G n_laws_rInts [v, u] h (.bool true) h := by
  refine enter_run e_laws_rInts (by simp) ?_
  have hvs := hv
  have hus := hu
  obtain ⟨oa, ca, rfl⟩ := hv.shapeT
  obtain ⟨ob, cb, rfl⟩ := hu.shapeT
  simp -implicitDefEqProofs
  refine R_loopO (fun m s h' => ∃ i : Nat, i + m = xs.length ∧ s = [(0, .slice oa xs.length ca), (1, .slice ob xs.length cb), (5, .int .i64 i)] ∧ h' = h) (fun I hI m s h' => ?_) (n := xs.length) ⟨0, Nat.zero_add _, by simp, rfl⟩
  rintro ⟨i, hi, rfl, rfl⟩
  by_cases hlt : i < xs.length
  · obtain ⟨y, hy, _⟩ := drop_at hlt
    simp -implicitDefEqProofs [-indexAddrP_some, hlt, load_I hvs hy, load_I hus hy, winc hlt hx]
    exact ⟨m - 1, by omega, on hI ⟨i + 1, by omega, rfl, rfl⟩⟩
  · simp -implicitDefEqProofs [hlt]
/-! ### exchanges -/
end
end Go.Pm.PP

/- Plain jobs, sets of digits, due orders, by both. -/
set_option linter.unusedVariables false
set_option linter.unusedSimpArgs false
set_option maxRecDepth 4000
set_option maxHeartbeats 8000000
namespace Go.Pm.PP
open Go.Pm Go.Proofs Go.Pm.PE
/-! ### no releases -/
def freeL (js : List Job) : Bool := js.all fun j => !decide (0 < j.r)
def plainL (js : List Job) : Bool := js.all fun j => j.r == 0
def plOk (js : List Job) : Bool := jOk js && plainL js
theorem free_plain {js : List Job} (hg : goodL js = true) : freeL js = plainL js := by
  induction js with
  | nil => rfl
  | cons j js ih =>
    rw [goodL_cons, Bool.and_eq_true] at hg
    have := job_of hg.1
    have e : (!decide (0 < j.r)) = (j.r == 0) := by
      rw [Bool.eq_iff_iff]
      simp
      omega
    unfold freeL plainL at ih ⊢
    rw [List.all_cons, List.all_cons, ih hg.2, e]
theorem plOk_of {js : List Job} (h : plOk js = true) : js.length ≤ 8 ∧ goodL js = true ∧ plainL js = true := by
  rw [plOk, Bool.and_eq_true] at h
  exact ⟨(jOk_of h.1).1, (jOk_of h.1).2, h.2⟩
theorem jA_in {js : List Job} {x : Int} : jA js x ∈ js ∨ jA js x = ⟨0, 0, 0, 0⟩ := by
  unfold jA
  cases h : js[x.toNat]? with
  | none => right; rfl
  | some j => left; exact List.mem_of_getElem? h
theorem plOk_pl {js : List Job} (h : plOk js = true) : Pl js := by
  obtain ⟨_, hg, hp⟩ := plOk_of h
  constructor
  · intro x
    rcases @jA_in js x with g | g
    · simpa using List.all_eq_true.1 hp _ g
    · rw [g]
  · intro x
    rcases @jA_in js x with g | g
    · have := job_of (List.all_eq_true.1 hg _ g); omega
    · rw [g]; exact Int.le_refl _
theorem load_JX {h : Hp} {v : Value} {js : List Job} {x : Int} (hv : Jobs h v js) (hx : 0 ≤ x ∧ x < js.length) :
    indexAddrP P h t_S_impl_Job v (.int .i64 x) = some (.pointer (some (addP (base v) (x.toNat * 4)))) ∧ loadP P h t_impl_Job (.pointer (some (addP (base v) (x.toNat * 4)))) = some (jv (jA js x)) ∧
    loadP P h t_int (.pointer (some (addP (addP (base v) (x.toNat * 4)) 0))) = some (.int .i64 (jA js x).t) ∧
    loadP P h t_int (.pointer (some (addP (addP (base v) (x.toNat * 4)) 1))) = some (.int .i64 (jA js x).w) ∧
    loadP P h t_int (.pointer (some (addP (addP (base v) (x.toNat * 4)) 2))) = some (.int .i64 (jA js x).r) ∧
    loadP P h t_int (.pointer (some (addP (addP (base v) (x.toNat * 4)) 3))) = some (.int .i64 (jA js x).d) := by
  obtain ⟨k, hk, hkl, hy⟩ := jA_get (js := js) rfl hx
  have := load_J hv hy
  rw [← hk] at this
  rw [show x.toNat = k by omega]
  exact this
section
variable {h : Hp} {v : Value} {js : List Job}
theorem l4Free_run (hj : Jobs h v js) (hn : js.length ≤ 2 ^ 40) : Ret P G n_spec_l4Free [v] h (.bool (freeL js)) h := by
  refine enter_run e_spec_l4Free (by simp) ?_
  have hjs := hj
  obtain ⟨oa, c, rfl⟩ := hj.shapeT
  simp -implicitDefEqProofs
  refine R_loopO (fun m s h' => ∃ i : Nat, i + m = js.length ∧ s = [(0, .slice oa js.length c), (3, .int .i64 i)] ∧ h' = h ∧ freeL js = freeL (js.drop i)) (fun I hI m s h' => ?_) ⟨0, Nat.zero_add _, by simp⟩
  rintro ⟨i, hi, rfl, rfl, hx⟩
  by_cases hlt : i < js.length
  · obtain ⟨y, hy, hd⟩ := drop_at hlt
    have e : freeL (y :: js.drop (i + 1)) = (!decide (0 < y.r) && freeL (js.drop (i + 1))) := rfl
    rw [hd, e] at hx
    have lr := load_J hjs hy
    by_cases c1 : 0 < y.r
    · simp only [c1, decide_true, Bool.not_true, Bool.false_and] at hx
      simp -implicitDefEqProofs [-indexAddrP_some, hlt, lr, c1, hx]
    · simp only [c1, decide_false, Bool.not_false, Bool.true_and] at hx
      simp -implicitDefEqProofs [-indexAddrP_some, hlt, lr, c1, winc hlt hn]
      exact ⟨m - 1, by omega, on hI ⟨i + 1, by omega, rfl, rfl, hx⟩⟩
  · rw [List.drop_eq_nil_of_le (by omega)] at hx
    have hx : freeL js = true := hx
    simp -implicitDefEqProofs [hlt, hx]
theorem isPlain_run (hj : Jobs h v js) (hn : js.length ≤ 2 ^ 40) : Ret P G n_impl_isPlain [v] h (.bool (plainL js)) h := by
  refine enter_run e_impl_isPlain (by simp) ?_
  have hjs := hj
  obtain ⟨oa, c, rfl⟩ := hj.shapeT
  simp -implicitDefEqProofs
  refine R_loopO (fun m s h' => ∃ i : Nat, i + m = js.length ∧ s = [(5, .slice oa js.length c), (6, .int .i64 js.length), (7, .int .i64 i)] ∧ h <+: h' ∧ plainL js = plainL (js.drop i)) (fun I hI m s h' => ?_) ⟨0, Nat.zero_add _, by simp⟩
  rintro ⟨i, hi, rfl, hp, hx⟩
  by_cases hlt : i < js.length
  · obtain ⟨y, hy, hd⟩ := drop_at hlt
    have e : plainL (y :: js.drop (i + 1)) = ((y.r == 0) && plainL (js.drop (i + 1))) := rfl
    rw [hd, e] at hx
    have lr := load_J (hjs.pre hp) hy
    by_cases c1 : y.r = 0
    · rw [show (y.r == 0) = true by simpa using c1, Bool.true_and] at hx
      simp -implicitDefEqProofs [-indexAddrP_some, hlt, lr, c1, winc hlt hn]
      exact ⟨m - 1, by omega, on hI ⟨i + 1, by omega, rfl, hp.trans (List.prefix_append ..), hx⟩⟩
    · rw [nb c1, Bool.false_and] at hx
      simp -implicitDefEqProofs [-indexAddrP_some, hlt, lr, nt c1, hx]
      exact gcP (hp.trans (List.prefix_append ..)) rfl
  · rw [List.drop_eq_nil_of_le (by omega)] at hx
    have hx : plainL js = true := hx
    simp -implicitDefEqProofs [hlt, hx]
    exact gcP hp rfl
theorem IsPlain_run (hj : Jobs h v js) (hn : js.length ≤ 2 ^ 40) : Ret P G n_impl_IsPlain [v] h (.bool (plOk js)) h := by
  refine enter_run e_impl_IsPlain (by simp) ?_
  have r1 := isJobs_run hj hn
  have r2 := isPlain_run hj hn
  obtain ⟨oa, c, rfl⟩ := hj.shapeT
  cases c1 : jOk js
  · simp -implicitDefEqProofs [CL_ret r1, c1, plOk]
  · simp -implicitDefEqProofs [CL_ret r1, c1, plOk, CL_ret r2]
theorem l6Good_run (hj : Jobs h v js) (hn : js.length ≤ 2 ^ 40) : Ret P G n_spec_l6Good [v] h (.bool (plOk js)) h := by
  refine enter_run e_spec_l6Good (by simp) ?_
  have r1 := good_run hj hn
  have r2 := l4Free_run hj hn
  obtain ⟨oa, c, rfl⟩ := hj.shapeT
  cases c1 : jOk js
  · simp -implicitDefEqProofs [CL_ret r1, c1, plOk]
  · rw [free_plain (jOk_of c1).2] at r2
    simp -implicitDefEqProofs [CL_ret r1, c1, plOk, CL_ret r2]
end
/-! ### comparisons -/
section
variable {h : Hp} {vj : Value} {js : List Job} {r : Nat} {a b : Int}
theorem onTime_1_run (J : Jobs h vj js) (hb : h[r]? = some (some ⟨[vj], 0, false⟩)) (ha : 0 ≤ a ∧ a < js.length) (hb' : 0 ≤ b ∧ b < js.length) :
    Ret P G n_impl_onTime_1 [.int .i64 a, .int .i64 b, .pointer (some ⟨r, 0, some 1⟩)] h (.bool (dAh js a b)) h := by
  refine enter_run e_impl_onTime_1 (by simp) ?_
  have Js := J
  obtain ⟨oj, cj, rfl⟩ := J.shapeT
  have lb := load_pre (n := 1) List.prefix_rfl hb rfl
  simp -implicitDefEqProofs [-indexAddrP_some, lb, load_JX Js ha, load_JX Js hb', dAh]
theorem inDue_1_run (J : Jobs h vj js) (hb : h[r]? = some (some ⟨[vj], 0, false⟩)) (ha : 0 ≤ a ∧ a < js.length) (hb' : 0 ≤ b ∧ b < js.length) :
    Ret P G n_impl_inDueOrder_1 [.int .i64 a, .int .i64 b, .pointer (some ⟨r, 0, some 1⟩)] h (.bool (dueAh js a b)) h := by
  refine enter_run e_impl_inDueOrder_1 (by simp) ?_
  have Js := J
  obtain ⟨oj, cj, rfl⟩ := J.shapeT
  have lb := load_pre (n := 1) List.prefix_rfl hb rfl
  by_cases c1 : (jA js a).d < (jA js b).d
  · simp -implicitDefEqProofs [-indexAddrP_some, lb, load_JX Js ha, load_JX Js hb', dueAh, c1]
  · by_cases c2 : (jA js a).d = (jA js b).d
    · simp -implicitDefEqProofs [-indexAddrP_some, lb, load_JX Js ha, load_JX Js hb', dueAh, c2]
    · simp -implicitDefEqProofs [-indexAddrP_some, lb, load_JX Js ha, load_JX Js hb', dueAh, c1, nb c2]
theorem l6Sooner_run (J : Jobs h vj js) (ha : 0 ≤ a ∧ a < js.length) (hb' : 0 ≤ b ∧ b < js.length) : Ret P G n_spec_l6Sooner [vj, .int .i64 a, .int .i64 b] h (.bool (sooner js a b)) h := by
  refine enter_run e_spec_l6Sooner (by simp) ?_
  have Js := J
  obtain ⟨oj, cj, rfl⟩ := J.shapeT
  by_cases c1 : (jA js a).d = (jA js b).d
  · by_cases c2 : (jA js a).t = (jA js b).t
    · simp -implicitDefEqProofs [-indexAddrP_some, load_JX Js ha, load_JX Js hb', sooner, c1, c2]
    · simp -implicitDefEqProofs [-indexAddrP_some, load_JX Js ha, load_JX Js hb', sooner, c1, nt c2, c2]
  · simp -implicitDefEqProofs [-indexAddrP_some, load_JX Js ha, load_JX Js hb', sooner, c1, nt c1]
end
/-! ### digits -/
theorem shr_eq {c i : Nat} (hc : c < 2 ^ 60) : shiftI .shr .i64 c i = some (.int .i64 ((c / 2 ^ i : Nat) : Int)) := by
  have h0 : ¬ (i : Int) < 0 := by omega
  simp only [shiftI, if_neg h0, Int.toNat_natCast]
  congr 2
  have e1 : ((2 : Int) ^ min i IntKind.i64.bits) = ((2 ^ min i IntKind.i64.bits : Nat) : Int) := by simp
  rw [e1, Int.fdiv_eq_ediv_of_nonneg _ (Int.natCast_nonneg _), ← Int.natCast_ediv]
  congr 1
  have hb : IntKind.i64.bits = 64 := rfl
  rw [hb]
  by_cases g : i ≤ 64
  · rw [Nat.min_eq_left g]
  · rw [Nat.min_eq_right (by omega), Nat.div_eq_of_lt (by omega), Nat.div_eq_of_lt]
    have : (2 : Nat) ^ 64 ≤ 2 ^ i := Nat.pow_le_pow_right (by omega) (by omega)
    omega
/-- A digit, as the machine has it. -/
theorem bit_val {c i : Nat} (hc : c < 2 ^ 60) : IntKind.i64.wrap ↑(((c : Int) / 2 ^ i % 2 ^ IntKind.i64.bits).toNat &&& (1 % 2 ^ IntKind.i64.bits : Int).toNat) = if c.testBit i = true then 1 else 0 := by
  have hb : IntKind.i64.bits = 64 := rfl
  have e1 : (1 % 2 ^ IntKind.i64.bits : Int).toNat = 1 := by rw [hb]; decide
  have e2 : ((c : Int) / 2 ^ i % 2 ^ IntKind.i64.bits).toNat = c / 2 ^ i := by
    have e3 : ((c : Int) / 2 ^ i) = ((c / 2 ^ i : Nat) : Int) := by simp
    have e4 : c / 2 ^ i ≤ c := Nat.div_le_self ..
    have e5 : ((c / 2 ^ i : Nat) : Int) < 2 ^ 64 := by have : ((c / 2 ^ i : Nat) : Int) ≤ (c : Int) := Int.ofNat_le.2 e4; omega
    rw [e3, hb, Int.emod_eq_of_lt (Int.natCast_nonneg _) e5, Int.toNat_natCast]
  rw [e1, e2, Nat.and_one_is_mod, ← Nat.shiftRight_eq_div_pow]
  have e5 : c.testBit i = decide (c >>> i % 2 = 1) := by rw [Nat.testBit_eq_decide_div_mod_eq, Nat.shiftRight_eq_div_pow]
  rw [e5]
  have : c >>> i % 2 < 2 := Nat.mod_lt _ (by omega)
  by_cases g : c >>> i % 2 = 1
  · rw [g, wrap_ok (by omega) (by omega)]; simp
  · have : c >>> i % 2 = 0 := by omega
    rw [this, wrap_ok (by omega) (by omega)]; simp
theorem l4Set_run {h : Hp} {n c : Nat} (hn : n ≤ 60) (hc : c < 2 ^ 60) : RunsC P G n_spec_l4Set [.int .i64 n, .int .i64 c] h fun v h' => h <+: h' ∧ Own h.length h' v 1 ((bitsL n c).map encI) := by
  refine hideC fun K hK => enter_run e_spec_l4Set (by simp) ?_
  have H0 := own_nil (Holds.start (h := h)) Int encI 1
  simp -implicitDefEqProofs
  refine R_loopO (fun m s h' => ∃ (i : Nat) (u : Value), i + m = n ∧ s = [(0, .int .i64 n), (1, .int .i64 c), (5, u), (6, .int .i64 i)] ∧ Holds h h' [.own u 1 ((bitsL i c).map encI)]) (fun I hI m s h' => ?_) (n := n) ⟨0, _, Nat.zero_add _, by simp; rfl, by simpa [bitsL] using H0⟩
  rintro ⟨i, u, hi, rfl, H⟩
  by_cases hlt : i < n
  · have hlt' : (i : Int) < n := by omega
    have bl := @bits_len i c
    have bs := @bits_snoc i c
    have bv := bit_val (i := i) hc
    cases ct : c.testBit i
    · rw [ct, if_neg (by simp)] at bs bv
      rw [List.append_nil] at bs
      simp -implicitDefEqProofs [hlt, hlt', shr_eq hc, bv, winc hlt (by omega)]
      exact ⟨m - 1, by omega, on hI ⟨i + 1, _, by omega, rfl, by rw [bs]; exact H⟩⟩
    · rw [ct, if_pos rfl] at bs bv
      obtain ⟨v', h2, ha, H2, _⟩ := push_I0 H 0 rfl (i : Int) (by omega)
      simp -implicitDefEqProofs [hlt, hlt', shr_eq hc, bv, ha, winc hlt (by omega)]
      exact ⟨m - 1, by omega, on hI ⟨i + 1, _, by omega, rfl, by rw [bs]; exact H2⟩⟩
  · have hlt' : ¬ (i : Int) < n := by omega
    have : i = n := by omega
    subst this
    simp -implicitDefEqProofs [hlt']
    exact onK hK (H.ret 0 rfl)
end Go.Pm.PP

/- Due orders and timely sets, by both. -/
set_option linter.unusedVariables false
set_option linter.unusedSimpArgs false
set_option maxRecDepth 4000
set_option maxHeartbeats 8000000
namespace Go.Pm.PP
open Go.Pm Go.Proofs Go.Pm.PE
/-- Times and dates are not too great. -/
structure Bd (js : List Job) : Prop where
  t : ∀ x, 0 ≤ (jA js x).t ∧ (jA js x).t ≤ 2 ^ 20
  d : ∀ x, -(2 ^ 20) ≤ (jA js x).d ∧ (jA js x).d ≤ 2 ^ 20
theorem good_bd {js : List Job} (hg : goodL js = true) : Bd js := by
  constructor
  all_goals
    intro x
    rcases @jA_in js x with g | g
    · have := job_of (List.all_eq_true.1 hg _ g); omega
    · rw [g]; simp
/-- Put into the middle, in a region that draws its order. -/
theorem ins_mid {h0 h : Hp} {L : List Asn} (H : Holds h0 h L) (i : Nat) {u : Value} {xs : List Int} (hi : L[i]? = some (.own u 1 (xs.map encI))) {k : Nat} (hk : k ≤ xs.length) (x : Int) (hn : xs.length ≤ 2 ^ 20) :
    ∃ (a3 : Option Addr) (b3 c3 : Nat) (a4 : Option Addr) (b4 c4 : Nat) (h4 : Hp) (a5 : Option Addr) (b5 c5 : Nat) (h5 : Hp) (a6 : Option Addr) (b6 c6 : Nat) (v7 : Value) (h7 : Hp),
      sliceP P h t_S_int u none (some (.int .i64 k)) = some (.slice a3 b3 c3) ∧ appendP P h t_S_int (.slice none 0 0) (.slice a3 b3 c3) = some (.slice a4 b4 c4, h4) ∧ newOk h h4 ∧
      appendP P (h4 ++ [some ⟨[.int .i64 x], 1, false⟩]) t_S_int (.slice a4 b4 c4) (.slice (some ⟨h4.length, 0, some 1⟩) 1 1) = some (.slice a5 b5 c5, h5) ∧ modOk h.length (h4 ++ [some ⟨[.int .i64 x], 1, false⟩]) h5 ∧ newOk h h5 ∧
      sliceP P h5 t_S_int u (some (.int .i64 k)) none = some (.slice a6 b6 c6) ∧ appendP P h5 t_S_int (.slice a5 b5 c5) (.slice a6 b6 c6) = some (v7, h7) ∧ h <+: h4 ∧ Holds h0 h7 (L.set i (.own v7 1 ((xs.take k ++ x :: xs.drop k).map encI))) ∧ h <+: h7 := by
  have S2 := H.sees i hi
  obtain ⟨v3, s3, f3⟩ := S2.front (P := P) u_S_int i_int (k := .i64) (j := (k : Int)) (by omega) (by simp; omega)
  rw [Int.toNat_natCast, ← List.map_take] at f3
  have H0 := own_nil (Holds.start (h := h)) Int encI 1
  obtain ⟨v4, h4, ha4, H4', _⟩ := app_I H0 0 rfl f3 (by simp; omega)
  have H4 : Holds h h4 [.own v4 1 ((xs.take k).map encI)] := H4'
  have n4 : NR h.length h4 := append_nr nr_self ha4
  have no4 := newOk_of H4.pre n4
  obtain ⟨v5, h5, ha5, H5', k5, _⟩ := push_I0 H4 0 rfl x (by simp; omega)
  have H5 : Holds h h5 [.own v5 1 ((xs.take k ++ [x]).map encI)] := H5'
  have n5 : NR h.length (h4 ++ [some ⟨[.int .i64 x], 1, false⟩]) := n4.new [.int .i64 x] 1
  have md := app_mod (b := h.length) rfl n5 ha5 (H4.pre.trans (List.prefix_append ..)) H5.pre
  have n6 := append_nr n5 ha5
  obtain ⟨v6, s6, f6, _⟩ := (S2.pre H5.pre).back (P := P) u_S_int i_int (k := .i64) (j := (k : Int)) (by omega) (by simp; omega)
  rw [Int.toNat_natCast, ← List.map_drop] at f6
  obtain ⟨v7, h7, ha7, H7', _⟩ := app_I H5 0 rfl f6 (by simp; omega)
  have H7 : Holds h h7 [.own v7 1 ((xs.take k ++ x :: xs.drop k).map encI)] := by
    have : Holds h h7 [.own v7 1 ((xs.take k ++ [x] ++ xs.drop k).map encI)] := H7'
    rw [List.append_assoc] at this
    exact this
  obtain ⟨a3, b3, c3, rfl⟩ : ∃ a n c, v3 = .slice a n c := by obtain ⟨a, c, e⟩ := f3.shape; exact ⟨_, _, _, e⟩
  obtain ⟨a4, b4, c4, rfl⟩ : ∃ a n c, v4 = .slice a n c := by obtain ⟨a, c, e⟩ := (H4.sees 0 rfl).shape; exact ⟨_, _, _, e⟩
  obtain ⟨a5, b5, c5, rfl⟩ : ∃ a n c, v5 = .slice a n c := by obtain ⟨a, c, e⟩ := (H5.sees 0 rfl).shape; exact ⟨_, _, _, e⟩
  obtain ⟨a6, b6, c6, rfl⟩ : ∃ a n c, v6 = .slice a n c := by obtain ⟨a, c, e⟩ := f6.shape; exact ⟨_, _, _, e⟩
  have HJ := H.join H7
  have hil := (List.getElem?_eq_some_iff.1 hi).1
  refine ⟨a3, b3, c3, a4, b4, c4, h4, a5, b5, c5, h5, a6, b6, c6, v7, h7, s3, ha4, no4, ha5, md, newOk_of H5.pre n6, s6, ha7, H4.pre, ?_, H7.pre⟩
  refine HJ.sub (fun j => if j = i then L.length else j) (fun j A e => ?_) fun j1 j2 A B e1 e2 g => ?_
  · rw [List.getElem?_set] at e
    split at e
    · rename_i e2
      subst e2
      cases e
      rw [if_pos rfl, List.getElem?_append_right (Nat.le_refl _), Nat.sub_self]; rfl
    · rename_i e2
      rw [if_neg fun g => e2 g.symm, List.getElem?_append_left (List.getElem?_eq_some_iff.1 e).1]
      exact e
  · have l1 := (List.getElem?_eq_some_iff.1 e1).1
    have l2 := (List.getElem?_eq_some_iff.1 e2).1
    rw [List.length_set] at l1 l2
    split at g <;> split at g <;> omega
section
variable {h : Hp} {vj v : Value} {js : List Job} {xs : List Int}
theorem inDueOrder_run (J : Jobs h vj js) (X : Ints h v xs) (hin : inN js.length xs) (hn : xs.length ≤ 2 ^ 20) : RunsC P G n_impl_inDueOrder [vj, v] h fun w h' => h <+: h' ∧ Own h.length h' w 1 ((dueL js (ascL xs)).map encI) := by
  refine hideC fun K hK => enter_run e_impl_inDueOrder (by simp) ?_
  have Js := J
  obtain ⟨oj, cj, rfl⟩ := J.shapeT
  have H0 := (Holds.start (h := h)).alloc [.slice oj js.length cj]
  simp -implicitDefEqProofs
  refine CL_post (ascending_run (X.pre (List.prefix_append ..)) hn) fun v1 h1 ⟨hp1, ho1⟩ => ?_
  have hp := (List.prefix_append h [some (⟨[.slice oj js.length cj], 0, false⟩ : Row)]).trans hp1
  have pa := sortB_perm (ah := fun a b => decide (a < b)) (l := xs)
  simp -implicitDefEqProofs
  refine CL_post (sortedBy_run (ah := dueAh js) ho1.sees (by rw [ascL, sortB_len]; exact hn) fun h2 hp2 a b ha hb => ?_) fun v2 h2 ⟨hp2, ho2⟩ => ?_
  · exact inDue_1_run (Js.pre (hp.trans hp2)) (((H0.ext hp1).ext hp2).box 0 rfl) (hin a (pa.mem_iff.1 ha)) (hin b (pa.mem_iff.1 hb))
  · simp -implicitDefEqProofs
    have H := (Holds.start (h := h)).call (hp.trans hp2) (ho2.low hp.length_le)
    exact onK hK (H.ret 0 rfl)
theorem onTime_run (J : Jobs h vj js) (X : Ints h v xs) (hin : inN js.length xs) (hn : xs.length ≤ 2 ^ 10) (bd : Bd js) : Ret P G n_impl_onTime [vj, v] h (.bool (timGo js 0 (sortB (dAh js) xs))) h := by
  refine enter_run e_impl_onTime (by simp) ?_
  have Js := J
  obtain ⟨oj, cj, rfl⟩ := J.shapeT
  have H0 := (Holds.start (h := h)).alloc [.slice oj js.length cj]
  have Xs := X
  obtain ⟨ox, cx, rfl⟩ := X.shapeT
  simp -implicitDefEqProofs
  have ps := sortB_perm (ah := dAh js) (l := xs)
  refine CL_post (sortedBy_run (ah := dAh js) (Xs.pre (List.prefix_append ..)) (by omega) fun h2 hp2 a b ha hb => ?_) fun v2 h2 ⟨hp2, ho2⟩ => ?_
  · exact onTime_1_run (Js.pre ((List.prefix_append ..).trans hp2)) ((H0.ext hp2).box 0 rfl) (hin a ha) (hin b hb)
  have hp := (List.prefix_append h [some (⟨[.slice oj js.length cj], 0, false⟩ : Row)]).trans hp2
  have S2 : Ints h2 v2 (sortB (dAh js) xs) := ho2.sees
  have hins : inN js.length (sortB (dAh js) xs) := fun x hx => hin x (ps.mem_iff.1 hx)
  have hl : (sortB (dAh js) xs).length = xs.length := sortB_len
  generalize sortB (dAh js) xs = ys at *
  have S2s := S2
  obtain ⟨oy, cy, rfl⟩ := S2.shapeT
  have lb := (H0.ext hp2).bl (P := P) 0 1 rfl rfl
  simp -implicitDefEqProofs
  refine R_loopO (fun m s h' => ∃ (i : Nat) (now : Int), i + m = ys.length ∧ s = [(2, .pointer (some ⟨h.length, 0, some 1⟩)), (5, .int .i64 now), (10, .slice oy ys.length cy), (11, .int .i64 ys.length), (12, .int .i64 i)] ∧ h' = h2 ∧ 0 ≤ now ∧ now ≤ i * 2 ^ 20 ∧ timGo js 0 ys = timGo js now (ys.drop i)) (fun I hI m s h' => ?_) (n := ys.length)
    ⟨0, 0, Nat.zero_add _, by simp, rfl, by omega, by omega, by simp⟩
  rintro ⟨i, now, hi, rfl, rfl, n0, n1, hx⟩
  by_cases hlt : i < ys.length
  · obtain ⟨y, hy, hd⟩ := drop_at hlt
    rw [hd, timGo] at hx
    have ly := load_I S2s hy
    have bt := bd.t y
    have lj := load_JX (Js.pre hp) (hins y (List.mem_of_getElem? hy))
    have w1 : IntKind.i64.wrap (now + (jA js y).t) = now + (jA js y).t := by rw [wrap_ok] <;> omega
    by_cases c1 : now + (jA js y).t ≤ (jA js y).d
    · have c2 : ¬ (jA js y).d < now + (jA js y).t := by omega
      rw [decide_eq_true c1, Bool.true_and] at hx
      simp -implicitDefEqProofs [-indexAddrP_some, hlt, ly, lb, lj, w1, c1, c2, winc hlt (by omega)]
      exact ⟨m - 1, by omega, on hI ⟨i + 1, _, by omega, rfl, rfl, by omega, by omega, hx⟩⟩
    · have c2 : (jA js y).d < now + (jA js y).t := by omega
      rw [decide_eq_false c1, Bool.false_and] at hx
      simp -implicitDefEqProofs [-indexAddrP_some, hlt, ly, lb, lj, w1, c1, c2, hx]
      exact gcP hp rfl
  · rw [List.drop_eq_nil_of_le (by omega), timGo] at hx
    simp -implicitDefEqProofs [hlt, hx]
    exact gcP hp rfl
theorem l6Due_run (J : Jobs h vj js) (X : Ints h v xs) (hin : inN js.length xs) (hn : xs.length ≤ 2 ^ 10) : RunsC P G n_spec_l6Due [vj, v] h fun w h' => h <+: h' ∧ Own h.length h' w 1 ((dueF js xs).map encI) := by
  refine hideC fun K hK => enter_run e_spec_l6Due (by simp) ?_
  have Js := J
  have Xs := X
  obtain ⟨oj, cj, rfl⟩ := J.shapeT
  obtain ⟨ox, cx, rfl⟩ := X.shapeT
  have H0 := own_nil (Holds.start (h := h)) Int encI 1
  simp -implicitDefEqProofs
  refine R_loopO (fun m s h' => ∃ (i : Nat) (u : Value) (us : List Int), i + m = xs.length ∧ s = [(0, .slice oj js.length cj), (1, .slice ox xs.length cx), (5, u), (6, .int .i64 i)] ∧ us.length = i ∧ (∀ z, z ∈ us → z ∈ xs) ∧
    dueF js xs = (xs.drop i).foldl (fun l x => insF (fun y => sooner js y x) x l) us ∧ Holds h h' [.own u 1 (us.map encI)]) (fun I hI m s h' => ?_) (n := xs.length) ⟨0, _, [], Nat.zero_add _, by simp, rfl, by simp, rfl, H0⟩
  rintro ⟨i, u, us, hi, rfl, hul, hsub, hx, H⟩
  by_cases hlt : i < xs.length
  · obtain ⟨y, hy, hd⟩ := drop_at hlt
    rw [hd, List.foldl_cons] at hx
    have hyx := hin y (List.mem_of_getElem? hy)
    have S := H.sees 0 rfl
    obtain ⟨ou, cu, rfl⟩ : ∃ a c, u = .slice a us.length c := by obtain ⟨a, c, e⟩ := S.shapeT; exact ⟨a, c, e⟩
    simp -implicitDefEqProofs [hlt]
    refine R_loopO (fun m2 s h2 => ∃ (k : Nat), k + m2 = us.length ∧ s = [(0, .slice oj js.length cj), (1, .slice ox xs.length cx), (5, .slice ou us.length cu), (6, .int .i64 i), (7, .int .i64 k)] ∧ h2 = h' ∧ ∀ i z, i < k → us[i]? = some z → sooner js z y = true) (fun I2 hI2 m2 s h2 => ?_) (n := us.length)
      ⟨0, Nat.zero_add _, by simp, rfl, fun i z h => by omega⟩
    rintro ⟨k, hk, rfl, rfl, hall⟩
    have lyx := load_I (Xs.pre H.pre) hy
    have fin : (∀ z, us[k]? = some z → sooner js z y = false) → us.take k ++ y :: us.drop k = insF (fun z => sooner js z y) y us := fun g => (insF_take (by omega) hall g).symm
    have hins : (insF (fun z => sooner js z y) y us).length = i + 1 := by rw [insF_perm.length_eq, List.length_cons, hul]
    have hsub' : ∀ z, z ∈ insF (fun z => sooner js z y) y us → z ∈ xs := fun z hz => by
      rcases List.mem_cons.1 (insF_perm.mem_iff.1 hz) with rfl | g
      · exact List.mem_of_getElem? hy
      · exact hsub z g
    obtain ⟨a3, b3, c3, a4, b4, c4, h4, a5, b5, c5, h5, a6, b6, c6, v7, h7, s3, ha4, no4, ha5, md, no5, s6, ha7, hp4, H7, hp7⟩ := ins_mid H 0 rfl (k := k) (by omega) y (by omega)
    by_cases hlk : k < us.length
    · obtain ⟨z, hz, _⟩ := drop_at hlk
      have lz := load_I S hz
      have rs := l6Sooner_run (Js.pre H.pre) (hin z (hsub z (List.mem_of_getElem? hz))) hyx
      cases c1 : sooner js z y
      · rw [c1] at rs
        rw [fin (fun z' g => by rw [hz] at g; cases g; exact c1)] at H7
        have hlk' : (k : Int) < us.length := by omega
        simp -implicitDefEqProofs [-indexAddrP_some, hlk, hlk', lz, lyx, CL_ret rs, CH_at rs, s3, ha4, no4, ha5, md, no5, s6, ha7, load_I (Xs.pre (H.pre.trans hp4)) hy, winc hlt (by omega)]
        exact ⟨m - 1, by omega, on hI ⟨i + 1, v7, _, by omega, rfl, hins, hsub', hx, H7⟩⟩
      · rw [c1] at rs
        have hlk' : (k : Int) < us.length := by omega
        simp -implicitDefEqProofs [-indexAddrP_some, hlk, hlk', lz, lyx, CL_ret rs, CH_at rs, winc hlk (by omega)]
        exact ⟨m2 - 1, by omega, on hI2 ⟨k + 1, by omega, rfl, rfl, fun i z' h1 h2 => by
          rcases Nat.lt_or_ge i k with g | g
          · exact hall i z' g h2
          · have : i = k := by omega
            subst this
            rw [hz] at h2; cases h2; exact c1⟩⟩
    · rw [fin (fun z' g => by rw [List.getElem?_eq_none (by omega)] at g; cases g)] at H7
      have hlk' : ¬ (k : Int) < us.length := by omega
      simp -implicitDefEqProofs [-indexAddrP_some, hlk, hlk', lyx, s3, ha4, no4, ha5, md, no5, s6, ha7, load_I (Xs.pre (H.pre.trans hp4)) hy, winc hlt (by omega)]
      exact ⟨m - 1, by omega, on hI ⟨i + 1, v7, _, by omega, rfl, hins, hsub', hx, H7⟩⟩
  · rw [List.drop_eq_nil_of_le (by omega), List.foldl_nil] at hx
    rw [hx] at hK
    simp -implicitDefEqProofs [hlt]
    exact onK hK (H.ret 0 rfl)
end
end Go.Pm.PP

/- The greatest lateness and delays, by both; the draw. -/
set_option linter.unusedVariables false
set_option linter.unusedSimpArgs false
set_option maxRecDepth 4000
set_option maxHeartbeats 8000000
namespace Go.Pm.PP
open Go.Pm Go.Proofs Go.Pm.PE
theorem bits_up {n : Nat} : bitsL n (2 ^ n - 1) = upTo n := by rw [bits_full, upTo, List.range_eq_range']
theorem ord_perm {n : Nat} {xs : List Int} (o : Ord n xs) : xs.Perm (upTo n) := (List.perm_ext_iff_of_nodup o.nd (upTo_nodup n)).2 fun x => by
  rw [mem_upTo]
  refine ⟨fun hx => o.inn x hx, fun hx => ?_⟩
  have := o.all (i := x.toNat) (by omega)
  rwa [show ((x.toNat : Nat) : Int) = x by omega] at this
theorem ord_prm {n : Nat} {xs : List Int} (o : Ord n xs) : Prm n xs := by
  have := ord_perm o
  rwa [upTo, List.range_eq_range'] at this
section
variable {h : Hp} {vj v : Value} {js : List Job} {xs : List Int}
theorem shl_eq {i : Nat} (hi : i ≤ 60) : shiftI .shl .i64 1 i = some (.int .i64 ((2 ^ i : Nat) : Int)) := by
  have h0 : ¬ (i : Int) < 0 := by omega
  have hb : IntKind.i64.bits = 64 := rfl
  simp only [shiftI, if_neg h0, Int.toNat_natCast]
  rw [hb, Nat.min_eq_left (by omega), Int.one_mul]
  have e1 : ((2 : Int) ^ i) = ((2 ^ i : Nat) : Int) := by simp
  have e2 : 2 ^ i ≤ 2 ^ 60 := Nat.pow_le_pow_right (by omega) hi
  rw [e1]
  generalize 2 ^ i = d at e2 ⊢
  rw [wrap_ok (by omega) (by omega)]
theorem l6All_run (J : Jobs h vj js) (hn : js.length ≤ 58) : RunsC P G n_spec_l6All [vj] h fun w h' => h <+: h' ∧ Own h.length h' w 1 ((upTo js.length).map encI) := by
  refine hideC fun K hK => enter_run e_spec_l6All (by simp) ?_
  obtain ⟨oj, cj, rfl⟩ := J.shapeT
  have e2 : 2 ^ js.length ≤ 2 ^ 58 := Nat.pow_le_pow_right (by omega) hn
  have e3 := Nat.two_pow_pos js.length
  have w1 : IntKind.i64.wrap (((2 ^ js.length : Nat) : Int) - 1) = ((2 ^ js.length - 1 : Nat) : Int) := by rw [wrap_ok] <;> omega
  have rs := l4Set_run (h := h) (n := js.length) (c := 2 ^ js.length - 1) (by omega) (by omega)
  rw [bits_up] at rs
  generalize hc : 2 ^ js.length - 1 = c at *
  generalize hd : 2 ^ js.length = d at *
  have e1 : ((2 : Int) ^ js.length) = (d : Int) := by rw [← hd]; simp
  have sh := shl_eq (i := js.length) (by omega)
  rw [hd] at sh
  simp -implicitDefEqProofs [sh, w1]
  refine CL_post rs fun v1 h1 ⟨hp1, ho1⟩ => ?_
  simp -implicitDefEqProofs
  exact onK hK (((Holds.start (h := h)).call hp1 ho1).ret 0 rfl)
theorem l6Timely_run (J : Jobs h vj js) (X : Ints h v xs) (hin : inN js.length xs) (hn : xs.length ≤ 2 ^ 10) (bd : Bd js) : Ret P G n_spec_l6Timely [vj, v] h (.bool (timGo js 0 (dueF js xs))) h := by
  refine enter_run e_spec_l6Timely (by simp) ?_
  have Js := J
  have Xs := X
  obtain ⟨oj, cj, rfl⟩ := J.shapeT
  obtain ⟨ox, cx, rfl⟩ := X.shapeT
  simp -implicitDefEqProofs
  refine CL_post (l6Due_run Js Xs hin hn) fun v2 h2 ⟨hp, ho2⟩ => ?_
  have S2 : Ints h2 v2 (dueF js xs) := ho2.sees
  have hgo : ∀ {l acc : List Int}, inN js.length l → inN js.length acc → inN js.length (l.foldl (fun l x => insF (fun y => sooner js y x) x l) acc) ∧ (l.foldl (fun l x => insF (fun y => sooner js y x) x l) acc).length = acc.length + l.length := by
    intro l
    induction l with
    | nil => intro acc _ h; exact ⟨h, by simp⟩
    | cons x l ih =>
      intro acc h1 h2
      rw [List.foldl_cons]
      have p : (insF (fun y => sooner js y x) x acc).Perm (x :: acc) := insF_perm
      obtain ⟨g1, g2⟩ := ih (acc := insF (fun y => sooner js y x) x acc) (fun y hy => h1 y (List.mem_cons_of_mem _ hy)) fun y hy => by
        rcases List.mem_cons.1 (p.mem_iff.1 hy) with rfl | g
        · exact h1 y (List.mem_cons_self ..)
        · exact h2 y g
      exact ⟨g1, by rw [g2, p.length_eq]; simp; omega⟩
  obtain ⟨hins, hl⟩ := hgo (l := xs) (acc := []) hin fun y hy => by cases hy
  have hl : (dueF js xs).length = xs.length := by rw [dueF, hl]; simp
  have hins : inN js.length (dueF js xs) := hins
  generalize dueF js xs = ys at *
  have S2s := S2
  obtain ⟨oy, cy, rfl⟩ := S2.shapeT
  simp -implicitDefEqProofs
  refine R_loopO (fun m s h' => ∃ (i : Nat) (now : Int), i + m = ys.length ∧ s = [(0, .slice oj js.length cj), (5, .slice oy ys.length cy), (6, .int .i64 now), (7, .int .i64 i)] ∧ h' = h2 ∧ 0 ≤ now ∧ now ≤ i * 2 ^ 20 ∧ timGo js 0 ys = timGo js now (ys.drop i)) (fun I hI m s h' => ?_) (n := ys.length)
    ⟨0, 0, Nat.zero_add _, by simp, rfl, by omega, by omega, by simp⟩
  rintro ⟨i, now, hi, rfl, rfl, n0, n1, hx⟩
  by_cases hlt : i < ys.length
  · obtain ⟨y, hy, hd⟩ := drop_at hlt
    rw [hd, timGo] at hx
    have ly := load_I S2s hy
    have bt := bd.t y
    have lj := load_JX (Js.pre hp) (hins y (List.mem_of_getElem? hy))
    have w1 : IntKind.i64.wrap (now + (jA js y).t) = now + (jA js y).t := by rw [wrap_ok] <;> omega
    by_cases c1 : now + (jA js y).t ≤ (jA js y).d
    · have c2 : ¬ (jA js y).d < now + (jA js y).t := by omega
      rw [decide_eq_true c1, Bool.true_and] at hx
      simp -implicitDefEqProofs [-indexAddrP_some, hlt, ly, lj, w1, c1, c2, winc hlt (by omega)]
      exact ⟨m - 1, by omega, on hI ⟨i + 1, _, by omega, rfl, rfl, by omega, by omega, hx⟩⟩
    · have c2 : (jA js y).d < now + (jA js y).t := by omega
      rw [decide_eq_false c1, Bool.false_and] at hx
      simp -implicitDefEqProofs [-indexAddrP_some, hlt, ly, lj, w1, c1, c2, hx]
      exact gcP hp rfl
  · rw [List.drop_eq_nil_of_le (by omega), timGo] at hx
    simp -implicitDefEqProofs [hlt, hx]
    exact gcP hp rfl
/-! ### with a delay -/
end
/-! ### in plain terms -/
/-- Timely after a delay along an order of jobs. -/
def timD (js : List Job) (dl : Int) : Int → List Int → Bool
  | _, [] => true
  | now, x :: r => decide (now + (jA js x).t ≤ (jA js x).d + dl) && timD js dl (now + (jA js x).t) r
theorem timD_lat {js : List Job} (p : Pl js) {dl : Int} : ∀ {xs : List Int} {now m : Int}, 0 ≤ now → m ≤ dl → (timD js dl now xs = true ↔ latGo js now m xs ≤ dl)
  | [], now, m, _, hm => by simp [timD, latGo, hm]
  | x :: r, now, m, h, hm => by
    have := p.t x
    rw [timD, latGo, p.endAt h, Bool.and_eq_true, decide_eq_true_eq]
    have mono : ∀ {xs : List Int} {now m : Int}, m ≤ latGo js now m xs := by
      intro xs
      induction xs with
      | nil => intro now m; exact Int.le_refl _
      | cons x xs ih =>
        intro now m
        rw [latGo]
        exact Int.le_trans (by omega) ih
    constructor
    · rintro ⟨h1, h2⟩
      exact (timD_lat p (by omega) (by omega)).1 h2
    · intro hl
      have h1 := @mono r (now + (jA js x).t) (max m (now + (jA js x).t - (jA js x).d))
      have h2 : now + (jA js x).t ≤ (jA js x).d + dl := by omega
      exact ⟨h2, (timD_lat p (by omega) (by omega)).2 hl⟩
/-- The value of an order for the greatest lateness. -/
theorem valX_lat {js : List Job} (hok : plOk js = true) {xs : List Int} (o : Ord js.length xs) (hne : 0 < js.length) : valX 4 js xs = latGo js 0 (-(2 ^ 20)) xs := by
  obtain ⟨hn, hg, _⟩ := plOk_of hok
  refine val_lat (ord_prm o) ⟨(0 : Nat), o.all hne, ?_⟩
  have e0 : gE (endsL js xs) ((0 : Nat) : Int).toNat ∈ endsL js xs := by
    have : (0 : Nat) < (endsL js xs).length := by rw [endsL_len]; exact hne
    have := gE_get this
    exact List.mem_of_getElem? this
  have := endGo_bd hg (k := 0) o.inn (Int.le_refl 0) (by omega) (fun e he => by rw [List.eq_of_mem_replicate he]; omega) _ e0
  have := (good_bd hg).d ((0 : Nat) : Int)
  omega
end Go.Pm.PP

/- FnLateness in the small machine. -/
set_option linter.unusedVariables false
set_option linter.unusedSimpArgs false
set_option maxRecDepth 4000
set_option maxHeartbeats 8000000
namespace Go.Pm.PP
open Go.Pm Go.Proofs Go.Pm.PE
section
variable {h0 h : Hp} {r n : Nat} {vc : Value} {L : List Asn}
theorem plainJobs_run (B : By h0 vc) (C : Cur h0 h r vc n L) (hn : n ≤ 2 ^ 19) {most : Nat} (hm : most ≤ 8) : RunsC P G n_spec_l1Cur_plainJobs [.pointer (some ⟨r, 0, some 3⟩), .int .i64 most] h fun v h' => ∃ js : List Job, js.length ≤ 9 ∧ Cur h0 h' r vc (n + 202) (L ++ [.own v 4 (js.map encJ)]) := by
  refine hideC fun K hK => enter_run e_spec_l1Cur_plainJobs (by simp) ?_
  simp -implicitDefEqProofs
  refine CL_post (one_run B C (by omega) (k := 16) (by omega)) fun v h1 ⟨b, ev, C1⟩ => ?_
  subst ev
  simp -implicitDefEqProofs
  refine CL_post (someJobs_run B C1 (by omega) (b := b) (most := most) hm) fun v h2 ⟨js, hl, C2⟩ => ?_
  obtain ⟨ua, uc, rfl⟩ : ∃ a c, v = .slice a js.length c := C2.seesJ.shapeT
  simp -implicitDefEqProofs
  exact onK hK ⟨js, hl, C.gcO (C2.mono (by omega)) (fun h => h)⟩
end
end Go.Pm.PP

/- Typed rules for slices: printed by a program of this work (wrap.py). -/
set_option linter.unusedVariables false
set_option linter.unusedSimpArgs false
set_option maxRecDepth 4000
namespace Go.Pm.PP
open Go.Pm Go.Proofs
end Go.Pm.PP

/- Rule differences, ruled orders and inversions, by both. -/
set_option linter.unusedVariables false
set_option linter.unusedSimpArgs false
set_option maxRecDepth 4000
set_option maxHeartbeats 8000000
namespace Go.Pm.PP
open Go.Pm Go.Proofs Go.Pm.PE
section
variable {h : Hp} {vj v : Value} {js : List Job} {xs : List Int} {o : Int}
theorem jobOk_jA (hg : goodL js = true) {x : Int} (hx : 0 ≤ x ∧ x < js.length) : jobOk (jA js x) = true := by
  obtain ⟨q, hq, hql, hqy⟩ := jA_get (js := js) rfl hx
  exact job_at hg hqy
end
end Go.Pm.PP

/- Inversions, losses, ruled orders, exchanges, by both. -/
set_option linter.unusedVariables false
set_option linter.unusedSimpArgs false
set_option maxRecDepth 4000
set_option maxHeartbeats 8000000
namespace Go.Pm.PP
open Go.Pm Go.Proofs Go.Pm.PE
section
variable {h : Hp} {vj v : Value} {js : List Job} {xs : List Int} {o : Int}
/-! ### losses -/
end
end Go.Pm.PP

/- Whether an order is ruled, exchanges, codes that are cut, pairs that are the same. -/
set_option linter.unusedVariables false
set_option linter.unusedSimpArgs false
set_option maxRecDepth 4000
set_option maxHeartbeats 8000000
namespace Go.Pm.PP
open Go.Pm Go.Proofs Go.Pm.PE
section
variable {h : Hp} {vj v u : Value} {js : List Job} {xs : List Int} {o : Int}
end
end Go.Pm.PP

/- Ruled orders are best, in plain terms: the last end too. -/
set_option linter.unusedVariables false
set_option linter.unusedSimpArgs false
namespace Go.Pm.PP
open Go.Pm Go.Pm.PE
end Go.Pm.PP

/- Draws: plain jobs, ruled orders, inversions. -/
set_option linter.unusedVariables false
set_option linter.unusedSimpArgs false
set_option maxRecDepth 4000
set_option maxHeartbeats 8000000
namespace Go.Pm.PP
open Go.Pm Go.Proofs Go.Pm.PE
section
variable {h : Hp} {vj v : Value} {js : List Job} {o : Int}
end
/-! ### draws -/
section
variable {h0 h : Hp} {r n : Nat} {vc : Value} {L : List Asn}
end
theorem plain2T {a b : Value} {r : List Value} (h : plain (.tuple (a :: b :: r).toArray) = true) : plainC b = true := by
  have : ((a :: b :: r).toArray : Array Value).toList.all plainC = true := h
  simp only [List.all_cons, Bool.and_eq_true] at this
  exact this.2.1
theorem gc_JX {h h1 : Hp} {u w : Value} {r : List Value} {js : List Job} {xs : List Int} (hp : h <+: h1) (J : Jobs h1 u js) (X : Ints h1 w xs) : h <+: gc h h1 (.tuple (u :: w :: r).toArray) ∧ Jobs (gc h h1 (.tuple (u :: w :: r).toArray)) u js ∧ Ints (gc h h1 (.tuple (u :: w :: r).toArray)) w xs :=
  ⟨pre_gcU hp, Sees.gcU J fun g => plainT (r := w :: r) g, Sees.gcU X fun g => plain2T (r := r) g⟩
end Go.Pm.PP

/- FnPairLoss in the small machine. -/
set_option linter.unusedVariables false
set_option linter.unusedSimpArgs false
set_option maxRecDepth 4000
set_option maxHeartbeats 16000000
namespace Go.Pm.PP
open Go.Pm Go.Proofs Go.Pm.PE
end Go.Pm.PP

/- Ruled orders, by both. -/
set_option linter.unusedVariables false
set_option linter.unusedSimpArgs false
set_option maxRecDepth 4000
set_option maxHeartbeats 8000000
namespace Go.Pm.PP
open Go.Pm Go.Proofs Go.Pm.PE
section
variable {h : Hp} {vj v u : Value} {js : List Job} {xs ys : List Int} {o : Int}
/-! ### rule differences -/
end
/-! ### ruled orders are best -/
end Go.Pm.PP

/- Fronts of points, in plain terms. -/
set_option linter.unusedVariables false
set_option linter.unusedSimpArgs false
namespace Go.Pm.PE
abbrev Pt := Int × Int
def domB (p q : Pt) : Bool := !(p.1 == q.1 && p.2 == q.2) && decide (p.1 ≤ q.1) && decide (p.2 ≤ q.2)
def sameB (p q : Pt) : Bool := p.1 == q.1 && p.2 == q.2
theorem sameB_iff {p q : Pt} : sameB p q = true ↔ p = q := by
  unfold sameB; rw [Bool.and_eq_true, beq_iff_eq, beq_iff_eq]
  constructor
  · rintro ⟨h1, h2⟩; exact Prod.ext h1 h2
  · rintro rfl; exact ⟨rfl, rfl⟩
theorem domB_iff {p q : Pt} : domB p q = true ↔ p ≠ q ∧ p.1 ≤ q.1 ∧ p.2 ≤ q.2 := by
  have := @sameB_iff p q
  unfold sameB at this
  unfold domB
  rw [Bool.and_eq_true, Bool.and_eq_true, Bool.not_eq_true', decide_eq_true_eq, decide_eq_true_eq, ← Bool.not_eq_true, this, and_assoc]
def insP (p : Pt) : List Pt → List Pt
  | [] => [p]
  | q :: l => if p.1 < q.1 then p :: q :: l else q :: insP p l
theorem insP_perm {p : Pt} : ∀ {l : List Pt}, (insP p l).Perm (p :: l)
  | [] => List.Perm.refl _
  | q :: l => by
    rw [insP]; split
    · exact List.Perm.refl _
    · exact (List.Perm.cons q insP_perm).trans (List.Perm.swap ..)
/-- A point or one that dominates it is there. -/
def coverB (F : List Pt) (p : Pt) : Bool := F.any fun q => sameB q p || domB q p
def restF (F : List Pt) (p : Pt) : List Pt := F.filter fun q => !domB p q
def putF (F : List Pt) (p : Pt) : List Pt := if coverB F p = true then F else insP p (restF F p)
def Srt (F : List Pt) : Prop := F.Pairwise fun a b => a.1 < b.1 ∧ b.2 < a.2
theorem rest_srt {F : List Pt} {p : Pt} (h : Srt F) : Srt (restF F p) := h.sublist List.filter_sublist
theorem rest_mem {F : List Pt} {p q : Pt} : q ∈ restF F p ↔ q ∈ F ∧ domB p q = false := by
  unfold restF; rw [List.mem_filter]; simp
theorem cover_iff {F : List Pt} {p : Pt} : coverB F p = true ↔ ∃ q, q ∈ F ∧ q.1 ≤ p.1 ∧ q.2 ≤ p.2 := by
  unfold coverB
  rw [List.any_eq_true]
  constructor
  · rintro ⟨q, hq, h⟩
    rw [Bool.or_eq_true, sameB_iff, domB_iff] at h
    refine ⟨q, hq, ?_⟩
    rcases h with rfl | h
    · exact ⟨Int.le_refl _, Int.le_refl _⟩
    · exact h.2
  · rintro ⟨q, hq, h1, h2⟩
    refine ⟨q, hq, ?_⟩
    rw [Bool.or_eq_true, sameB_iff, domB_iff]
    by_cases e : q = p
    · exact .inl e
    · exact .inr ⟨e, h1, h2⟩
/-- What is left and the new point part in both numbers. -/
theorem rest_part {F : List Pt} {p q : Pt} (hc : coverB F p = false) (hq : q ∈ restF F p) : (q.1 < p.1 ∧ p.2 < q.2) ∨ (p.1 < q.1 ∧ q.2 < p.2) := by
  obtain ⟨h1, h2⟩ := rest_mem.1 hq
  have h3 : ¬ (q.1 ≤ p.1 ∧ q.2 ≤ p.2) := fun g => by
    have := cover_iff.2 ⟨q, h1, g⟩
    rw [this] at hc; cases hc
  have h4 : ¬ (p ≠ q ∧ p.1 ≤ q.1 ∧ p.2 ≤ q.2) := fun g => by
    rw [domB_iff.2 g] at h2; cases h2
  have h5 : ¬ (p.1 ≤ q.1 ∧ p.2 ≤ q.2) := fun g => h4 ⟨fun e => h3 (by rw [e]; exact ⟨Int.le_refl _, Int.le_refl _⟩), g⟩
  omega
theorem insP_srt {p : Pt} : ∀ {l : List Pt}, Srt l → (∀ q, q ∈ l → (q.1 < p.1 ∧ p.2 < q.2) ∨ (p.1 < q.1 ∧ q.2 < p.2)) → Srt (insP p l)
  | [], _, _ => by rw [insP]; exact List.pairwise_singleton ..
  | q :: l, h, hp => by
    have h := List.pairwise_cons.1 h
    have hq := hp q (List.mem_cons_self ..)
    rw [insP]; split
    · rename_i g
      refine List.pairwise_cons.2 ⟨fun z hz => ?_, List.pairwise_cons.2 h⟩
      rcases List.mem_cons.1 hz with rfl | hz
      · omega
      · have := h.1 z hz; omega
    · rename_i g
      refine List.pairwise_cons.2 ⟨fun z hz => ?_, insP_srt h.2 fun z hz => hp z (List.mem_cons_of_mem _ hz)⟩
      rcases List.mem_cons.1 (insP_perm.mem_iff.1 hz) with rfl | hz
      · omega
      · exact h.1 z hz
theorem putF_srt {F : List Pt} {p : Pt} (h : Srt F) : Srt (putF F p) := by
  unfold putF; split
  · exact h
  · rename_i hc
    exact insP_srt (rest_srt h) fun q hq => rest_part (by simpa using hc) hq
theorem putF_mem {F : List Pt} {p q : Pt} (h : q ∈ putF F p) : q = p ∨ q ∈ F := by
  unfold putF at h; split at h
  · exact .inr h
  · rcases List.mem_cons.1 (insP_perm.mem_iff.1 h) with g | g
    · exact .inl g
    · exact .inr (rest_mem.1 g).1
theorem putF_cover {F : List Pt} {p r : Pt} (h : r = p ∨ ∃ q, q ∈ F ∧ q.1 ≤ r.1 ∧ q.2 ≤ r.2) : ∃ q, q ∈ putF F p ∧ q.1 ≤ r.1 ∧ q.2 ≤ r.2 := by
  unfold putF; split
  · rename_i hc
    rcases h with rfl | h
    · exact cover_iff.1 hc
    · exact h
  · have hp : p ∈ insP p (restF F p) := insP_perm.mem_iff.2 (List.mem_cons_self ..)
    rcases h with rfl | ⟨q, hq, h1, h2⟩
    · exact ⟨r, hp, Int.le_refl _, Int.le_refl _⟩
    · cases hd : domB p q with
      | true =>
        have := domB_iff.1 hd
        exact ⟨p, hp, by omega, by omega⟩
      | false => exact ⟨q, insP_perm.mem_iff.2 (List.mem_cons_of_mem _ (rest_mem.2 ⟨hq, hd⟩)), h1, h2⟩
/-- A front of the points of some things. -/
theorem front_fold {α : Type} {pt : α → Pt} : ∀ {l : List α} {F : List Pt} {S : Pt → Prop}, Srt F → (∀ q, q ∈ F → S q) → (∀ x, x ∈ l → S (pt x)) →
    Srt (l.foldl (fun F x => putF F (pt x)) F) ∧ (∀ q, q ∈ l.foldl (fun F x => putF F (pt x)) F → S q) ∧ ∀ r, ((∃ x, x ∈ l ∧ r = pt x) ∨ ∃ q, q ∈ F ∧ q.1 ≤ r.1 ∧ q.2 ≤ r.2) → ∃ q, q ∈ l.foldl (fun F x => putF F (pt x)) F ∧ q.1 ≤ r.1 ∧ q.2 ≤ r.2
  | [], F, S, h, hS, _ => ⟨h, hS, fun r hr => by
      rcases hr with ⟨x, hx, _⟩ | g
      · cases hx
      · exact g⟩
  | x :: l, F, S, h, hS, hl => by
    rw [List.foldl_cons]
    obtain ⟨h1, h2, h3⟩ := front_fold (l := l) (F := putF F (pt x)) (S := S) (putF_srt h) (fun q hq => by
      rcases putF_mem hq with rfl | g
      · exact hl x (List.mem_cons_self ..)
      · exact hS q g) fun y hy => hl y (List.mem_cons_of_mem _ hy)
    refine ⟨h1, h2, fun r hr => h3 r ?_⟩
    rcases hr with ⟨y, hy, e⟩ | g
    · rcases List.mem_cons.1 hy with rfl | hy
      · exact .inr (putF_cover (.inl e))
      · exact .inl ⟨y, hy, e⟩
    · exact .inr (putF_cover (.inr g))
/-! ### the first one that fits -/
end Go.Pm.PE
namespace Go.Pm.PP
open Go.Pm Go.Pm.PE
end Go.Pm.PP
namespace Go.Pm.PE
/-- A front with bounded first numbers is not long. -/
def FOk (F : List Pt) : Prop := Srt F ∧ ∀ q, q ∈ F → -(2 ^ 30) ≤ q.1 ∧ q.1 ≤ 2 ^ 30
theorem srt_len : ∀ {F : List Pt} {a : Int}, Srt F → (∀ q, q ∈ F → a ≤ q.1 ∧ q.1 ≤ 2 ^ 30) → a ≤ 2 ^ 30 + 1 → (F.length : Int) ≤ 2 ^ 30 + 1 - a
  | [], a, _, _, ha => by simp; omega
  | q :: F, a, h, hb, ha => by
    have h := List.pairwise_cons.1 h
    have hq := hb q (List.mem_cons_self ..)
    have := srt_len (F := F) (a := q.1 + 1) h.2 (fun z hz => by have := h.1 z hz; have := hb z (List.mem_cons_of_mem _ hz); omega) (by omega)
    rw [List.length_cons]; omega
theorem FOk.len {F : List Pt} (h : FOk F) : F.length ≤ 2 ^ 32 := by
  have := srt_len h.1 h.2 (by omega); omega
theorem FOk.put {F : List Pt} (h : FOk F) {p : Pt} (hp : -(2 ^ 30) ≤ p.1 ∧ p.1 ≤ 2 ^ 30) : FOk (putF F p) := ⟨putF_srt h.1, fun q hq => by
  rcases putF_mem hq with rfl | g
  · exact hp
  · exact h.2 q g⟩
theorem FOk.nil : FOk [] := ⟨List.Pairwise.nil, fun q hq => by cases hq⟩
end Go.Pm.PE

/- Points of orders, by both. -/
set_option linter.unusedVariables false
set_option linter.unusedSimpArgs false
set_option maxRecDepth 4000
set_option maxHeartbeats 8000000
namespace Go.Pm.PP
open Go.Pm Go.Proofs Go.Pm.PE
abbrev ptv (p : Pt) : Value := .agg #[.int .i64 p.1, .int .i64 p.2]
def ptX (f g : Int) (js : List Job) (xs : List Int) : Pt := (valX f js xs, valX g js xs)
theorem ia2 {h : Hp} {a : Addr} {j : Nat} (hj : j < 2) : indexAddrP P h t_A2_int (.pointer (some a)) (.int .i64 j) = some (.pointer (some (addP a j))) := ix_arr u_A2_int e_t_int rfl hj
theorem ia20 {h : Hp} {a : Addr} : indexAddrP P h t_A2_int (.pointer (some a)) (.int .i64 0) = some (.pointer (some (addP a 0))) := ia2 (j := 0) (by omega)
theorem ia21 {h : Hp} {a : Addr} : indexAddrP P h t_A2_int (.pointer (some a)) (.int .i64 1) = some (.pointer (some (addP a 1))) := ia2 (j := 1) (by omega)
section
variable {h : Hp} {vj v u : Value} {js : List Job} {xs : List Int} {f g : Int}
end
end Go.Pm.PP

/- Fronts by the reference. -/
set_option linter.unusedVariables false
set_option linter.unusedSimpArgs false
set_option maxRecDepth 4000
set_option maxHeartbeats 8000000
namespace Go.Pm.PP
open Go.Pm Go.Proofs Go.Pm.PE
theorem Sees.pl {h : Hp} {v : Value} {sz : Nat} {els : List (List Value)} (s : Sees h v sz els) (g : plain v = true) : plainC v = true := by
  obtain ⟨_, oa, c, rfl, _⟩ := s
  exact g
section
variable {h : Hp} {vj v u : Value} {js : List Job} {xs : List Int} {f g : Int}
def upF (f g : Int) (js : List Job) (F : List Pt) (xs : List Int) : List Pt := putF F (ptX f g js xs)
def frontR (f g : Int) (js : List Job) : List Pt := (ordsL js.length).foldl (upF f g js) []
end
end Go.Pm.PP

/- Fronts by the program; what both export. -/
set_option linter.unusedVariables false
set_option linter.unusedSimpArgs false
set_option maxRecDepth 4000
set_option maxHeartbeats 16000000
namespace Go.Pm.PP
open Go.Pm Go.Proofs Go.Pm.PE
section
variable {h : Hp} {vj v u : Value} {js : List Job} {xs : List Int} {f g : Int}
end
end Go.Pm.PP

/- Fronts: what both export. -/
set_option linter.unusedVariables false
set_option linter.unusedSimpArgs false
set_option maxRecDepth 4000
set_option maxHeartbeats 16000000
namespace Go.Pm.PP
open Go.Pm Go.Proofs Go.Pm.PE
section
variable {h : Hp} {vj v u : Value} {js : List Job} {xs : List Int} {f g : Int}
/-! ### the first order with a point -/
end
end Go.Pm.PP

/- The first order with a point of a front, by both; the draw. -/
set_option linter.unusedVariables false
set_option linter.unusedSimpArgs false
set_option maxRecDepth 4000
set_option maxHeartbeats 16000000
namespace Go.Pm.PP
open Go.Pm Go.Proofs Go.Pm.PE
/-! ### a search for the first one -/
section
variable {h : Hp} {vj v u : Value} {js : List Job} {xs : List Int} {f g : Int}
end
/-! ### in plain terms -/
theorem front_facts {f g : Int} {js : List Job} (hn : js.length ≤ 8) : Srt (frontR f g js) ∧ (∀ q, q ∈ frontR f g js → ∃ xs, Ord js.length xs ∧ ptX f g js xs = q) ∧ (∀ xs, Ord js.length xs → ∃ q, q ∈ frontR f g js ∧ q.1 ≤ valX f js xs ∧ q.2 ≤ valX g js xs) := by
  obtain ⟨h1, h2, h3⟩ := front_fold (pt := ptX f g js) (l := ordsL js.length) (F := []) (S := fun q => ∃ xs, Ord js.length xs ∧ ptX f g js xs = q) List.Pairwise.nil (fun q hq => by cases hq) fun xs hx => ⟨xs, ords_ord hx, rfl⟩
  exact ⟨h1, h2, fun xs ox => h3 (ptX f g js xs) (.inl ⟨xs, ord_mem ox, rfl⟩)⟩
end Go.Pm.PP

/- Searches of least mixtures and under limits, by the reference. -/
set_option linter.unusedVariables false
set_option linter.unusedSimpArgs false
set_option maxRecDepth 4000
set_option maxHeartbeats 16000000
namespace Go.Pm.PP
open Go.Pm Go.Proofs Go.Pm.PE
end Go.Pm.PP

/- Least mixtures, by both. -/
set_option linter.unusedVariables false
set_option linter.unusedSimpArgs false
set_option maxRecDepth 4000
set_option maxHeartbeats 16000000
namespace Go.Pm.PP
open Go.Pm Go.Proofs Go.Pm.PE
section
variable {h : Hp} {vj v u : Value} {js : List Job} {xs : List Int} {f g x y : Int}
end
end Go.Pm.PP

/- Supported points, by both. -/
set_option linter.unusedVariables false
set_option linter.unusedSimpArgs false
set_option maxRecDepth 4000
set_option maxHeartbeats 16000000
namespace Go.Pm.PP
open Go.Pm Go.Proofs Go.Pm.PE
section
variable {h : Hp} {vj v u vf : Value} {js : List Job} {F : List Pt} {f g : Int}
end
end Go.Pm.PP

/- Supported points: what both export. -/
set_option linter.unusedVariables false
set_option linter.unusedSimpArgs false
set_option maxRecDepth 4000
set_option maxHeartbeats 16000000
namespace Go.Pm.PP
open Go.Pm Go.Proofs Go.Pm.PE
section
variable {h : Hp} {vj v u vf : Value} {js : List Job} {F : List Pt} {f g : Int}
end
end Go.Pm.PP

/- Best orders under a limit, by both. -/
set_option linter.unusedVariables false
set_option linter.unusedSimpArgs false
set_option maxRecDepth 4000
set_option maxHeartbeats 16000000
namespace Go.Pm.PP
open Go.Pm Go.Proofs Go.Pm.PE
section
variable {h : Hp} {vj v u : Value} {js : List Job} {xs : List Int} {f g lim : Int}
end
end Go.Pm.PP

/- Tables of the least values of sets, by both. -/
set_option linter.unusedVariables false
set_option linter.unusedSimpArgs false
set_option maxRecDepth 4000
set_option maxHeartbeats 8000000
namespace Go.Pm.PP
open Go.Pm Go.Proofs Go.Pm.PE
/-! ### digits in the machine -/
theorem listOf_run {h : Hp} {n c : Nat} (hn : n ≤ 50) (hc : c < 2 ^ n) : RunsC P G n_impl_listOf [.int .i64 c] h fun v h' => h <+: h' ∧ Own h.length h' v 1 ((bitsL n c).map encI) := by
  refine hideC fun K hK => enter_run e_impl_listOf (by simp) ?_
  have H0 := own_nil (Holds.start (h := h)) Int encI 1
  have hc60 : c < 2 ^ 60 := by have : 2 ^ n ≤ 2 ^ 50 := Nat.pow_le_pow_right (by omega) hn; omega
  simp -implicitDefEqProofs
  refine R_loopO (fun m s h' => ∃ (i : Nat) (u : Value), i + m = n ∧ s = [(0, .int .i64 c), (3, u), (4, .int .i64 i)] ∧ Holds h h' [.own u 1 ((bitsL i c).map encI)]) (fun I hI m s h' => ?_) (n := n) ⟨0, _, Nat.zero_add _, by simp; rfl, by simpa [bitsL] using H0⟩
  rintro ⟨i, u, hi, rfl, H⟩
  by_cases hlt : 0 < c / 2 ^ i
  · have hin : i < n := by
      have h1 : 2 ^ i ≤ c := (Nat.div_pos_iff.1 hlt).2
      exact (Nat.pow_lt_pow_iff_right (by omega : 1 < 2)).1 (Nat.lt_of_le_of_lt h1 hc)
    have hlt' : (0 : Int) < (c : Int) / 2 ^ i := by
      have : ((c : Int) / 2 ^ i) = ((c / 2 ^ i : Nat) : Int) := by simp
      omega
    have bl := @bits_len i c
    have bs := @bits_snoc i c
    have bv := bit_val (i := i) hc60
    cases ct : c.testBit i
    · rw [ct, if_neg (by simp)] at bs bv
      rw [List.append_nil] at bs
      simp -implicitDefEqProofs [hlt', shr_eq hc60, bv, winc hin (by omega)]
      exact ⟨m - 1, by omega, on hI ⟨i + 1, _, by omega, rfl, by rw [bs]; exact H⟩⟩
    · rw [ct, if_pos rfl] at bs bv
      obtain ⟨v', h2, ha, H2, _⟩ := push_I0 H 0 rfl (i : Int) (by omega)
      simp -implicitDefEqProofs [hlt', shr_eq hc60, bv, ha, winc hin (by omega)]
      exact ⟨m - 1, by omega, on hI ⟨i + 1, _, by omega, rfl, by rw [bs]; exact H2⟩⟩
  · have h1 : c < 2 ^ i := by
      rcases Nat.lt_or_ge c (2 ^ i) with g | g
      · exact g
      · exact absurd (Nat.div_pos g (Nat.two_pow_pos i)) hlt
    rw [bits_any h1 hc] at H
    have hlt' : ¬ (0 : Int) < (c : Int) / 2 ^ i := by
      have : ((c : Int) / 2 ^ i) = ((c / 2 ^ i : Nat) : Int) := by simp
      omega
    simp -implicitDefEqProofs [hlt', shr_eq hc60]
    exact onK hK (H.ret 0 rfl)
section
variable {h : Hp} {vj v : Value} {js : List Job} {xs : List Int}
/-! ### objectives that are sums -/
end
end Go.Pm.PP

/- Tables of the least values of sets, by both: the tables. -/
set_option linter.unusedVariables false
set_option linter.unusedSimpArgs false
set_option maxRecDepth 4000
set_option maxHeartbeats 8000000
namespace Go.Pm.PP
open Go.Pm Go.Proofs Go.Pm.PE
theorem good_t50 {js : List Job} (hg : goodL js = true) (x : Int) : (jA js x).t ≤ 50 := by
  rcases @jA_in js x with g | g
  · exact (job_of (List.all_eq_true.1 hg _ g)).1.2
  · rw [g]; simp
section
variable {h : Hp} {vj v : Value} {js : List Job} {xs : List Int} {o : Int}
/-! ### by the reference -/
end
end Go.Pm.PP

/- The order that is found from its end, by both; total times. -/
set_option linter.unusedVariables false
set_option linter.unusedSimpArgs false
set_option maxRecDepth 4000
set_option maxHeartbeats 8000000
namespace Go.Pm.PP
open Go.Pm Go.Proofs Go.Pm.PE
section
variable {h : Hp} {vj v : Value} {js : List Job} {xs : List Int} {o : Int}
/-! ### total times -/
def totT (js : List Job) : Int := (js.map (·.t)).sum
theorem tot_bd {js : List Job} (hg : goodL js = true) : 0 ≤ totT js ∧ totT js ≤ js.length * 50 := by
  induction js with
  | nil => simp [totT]
  | cons j js ih =>
    rw [goodL_cons, Bool.and_eq_true] at hg
    have := job_of hg.1
    have ih := ih hg.2
    have e : totT (j :: js) = j.t + totT js := rfl
    rw [e, List.length_cons]; omega
theorem tot_take {js : List Job} {i : Nat} {y : Job} (hy : js[i]? = some y) : totT (js.take (i + 1)) = totT (js.take i) + y.t := by
  unfold totT; rw [take_succ' hy, List.map_append, List.sum_append]; simp
theorem good_take {js : List Job} (hg : goodL js = true) {i : Nat} : goodL (js.take i) = true := by
  rw [goodL, List.all_eq_true] at hg ⊢
  exact fun x hx => hg x (List.mem_of_mem_take hx)
theorem l2Times_run (J : Jobs h vj js) (hn : js.length ≤ 8) (hg : goodL js = true) : Ret P G n_spec_l2Times [vj] h (.int .i64 (totT js)) h := by
  refine enter_run e_spec_l2Times (by simp) ?_
  have Js := J
  obtain ⟨oj, cj, rfl⟩ := J.shapeT
  simp -implicitDefEqProofs
  refine R_loopO (fun m s h' => ∃ (i : Nat), i + m = js.length ∧ s = [(0, .slice oj js.length cj), (3, .int .i64 (totT (js.take i))), (4, .int .i64 i)] ∧ h' = h) (fun I hI m s h' => ?_) (n := js.length)
    ⟨0, Nat.zero_add _, by simp [totT], rfl⟩
  rintro ⟨i, hi, rfl, rfl⟩
  by_cases hlt : i < js.length
  · obtain ⟨y, hy, _⟩ := drop_at hlt
    have lj := load_J Js hy
    have tb := tot_bd (good_take hg (i := i))
    have jb := job_of (job_at hg hy)
    have tl : (js.take i).length ≤ 8 := by rw [List.length_take]; omega
    have w1 : IntKind.i64.wrap (totT (js.take i) + y.t) = totT (js.take (i + 1)) := by rw [tot_take hy, wrap_ok] <;> omega
    simp -implicitDefEqProofs [-indexAddrP_some, hlt, lj, w1, winc hlt (by omega)]
    exact ⟨m - 1, by omega, on hI ⟨i + 1, by omega, rfl, rfl⟩⟩
  · rw [List.take_of_length_le (by omega)]
    simp -implicitDefEqProofs [hlt]
theorem totalOf_run (J : Jobs h vj js) (hn : js.length ≤ 8) (hg : goodL js = true) : Ret P G n_impl_totalOf [vj] h (.int .i64 (totT js)) h := by
  refine enter_run e_impl_totalOf (by simp) ?_
  have Js := J
  obtain ⟨oj, cj, rfl⟩ := J.shapeT
  simp -implicitDefEqProofs
  refine R_loopO (fun m s h' => ∃ (i : Nat), i + m = js.length ∧ s = [(3, .int .i64 (totT (js.take i))), (6, .slice oj js.length cj), (7, .int .i64 js.length), (8, .int .i64 i)] ∧ h <+: h') (fun I hI m s h' => ?_) (n := js.length)
    ⟨0, Nat.zero_add _, by simp [totT], List.prefix_rfl⟩
  rintro ⟨i, hi, rfl, hp⟩
  by_cases hlt : i < js.length
  · obtain ⟨y, hy, _⟩ := drop_at hlt
    have lj := load_J (Js.pre hp) hy
    have tb := tot_bd (good_take hg (i := i))
    have jb := job_of (job_at hg hy)
    have tl : (js.take i).length ≤ 8 := by rw [List.length_take]; omega
    have w1 : IntKind.i64.wrap (totT (js.take i) + y.t) = totT (js.take (i + 1)) := by rw [tot_take hy, wrap_ok] <;> omega
    simp -implicitDefEqProofs [-indexAddrP_some, hlt, lj, w1, winc hlt (by omega)]
    exact ⟨m - 1, by omega, on hI ⟨i + 1, by omega, rfl, hp.trans (List.prefix_append ..)⟩⟩
  · rw [List.take_of_length_le (by omega)]
    simp -implicitDefEqProofs [hlt]
    exact gcP hp rfl
end
end Go.Pm.PP

/- FnSetValues in the small machine. -/
set_option linter.unusedVariables false
set_option linter.unusedSimpArgs false
set_option maxRecDepth 4000
set_option maxHeartbeats 16000000
namespace Go.Pm.PP
open Go.Pm Go.Proofs Go.Pm.PE
section
variable {h0 h : Hp} {r n : Nat} {vc : Value} {L : List Asn}
end
/-! ### in plain terms -/
theorem ord_of_perm {n : Nat} {xs : List Int} (h : xs.Perm (upTo n)) : Ord n xs := ⟨by rw [h.length_eq, upTo_len], fun x hx => mem_upTo.1 (h.mem_iff.1 hx), h.nodup_iff.2 (upTo_nodup _)⟩
theorem tot_sum {js : List Job} : totT js = ((upTo js.length).map fun x => (jA js x).t).sum := by
  unfold totT upTo
  rw [List.map_map]
  have : js = (List.range js.length).map fun i => (js[i]?).getD ⟨0, 0, 0, 0⟩ := by
    apply List.ext_getElem?
    intro i
    rw [List.getElem?_map]
    rcases Nat.lt_or_ge i js.length with g | g
    · rw [List.getElem?_range g]; simp [List.getElem?_eq_getElem g]
    · rw [List.getElem?_eq_none g, List.getElem?_eq_none (by simpa using g)]; rfl
  conv => lhs; rw [this]
  rw [List.map_map]
  rfl
end Go.Pm.PP

/- FnFronts in the small machine. -/
set_option linter.unusedVariables false
set_option linter.unusedSimpArgs false
set_option maxRecDepth 4000
set_option maxHeartbeats 16000000
namespace Go.Pm.PP
open Go.Pm Go.Proofs Go.Pm.PE
section
variable {h0 h : Hp} {r n : Nat} {vc : Value} {L : List Asn}
end
end Go.Pm.PP

/- FnFronts. -/
set_option linter.unusedVariables false
set_option linter.unusedSimpArgs false
set_option maxRecDepth 4000
set_option maxHeartbeats 16000000
namespace Go.Pm.PP
open Go.Pm Go.Proofs Go.Pm.PE
/-! ### in plain terms -/
end Go.Pm.PP

/- Mixtures and limits, in plain terms. -/
set_option linter.unusedVariables false
set_option linter.unusedSimpArgs false
set_option maxRecDepth 4000
set_option maxHeartbeats 4000000
namespace Go.Pm.PP
open Go.Pm Go.Proofs Go.Pm.PE
end Go.Pm.PP

/- FnMixtures: its draws. -/
set_option linter.unusedVariables false
set_option linter.unusedSimpArgs false
set_option maxRecDepth 4000
set_option maxHeartbeats 16000000
namespace Go.Pm.PP
open Go.Pm Go.Proofs Go.Pm.PE
end Go.Pm.PP

/- FnMixtures, from the program's BestUnder. -/
set_option linter.unusedVariables false
set_option linter.unusedSimpArgs false
set_option maxRecDepth 4000
set_option maxHeartbeats 16000000
namespace Go.Pm.PP
open Go.Pm Go.Proofs Go.Pm.PE
end Go.Pm.PP

/- Tables of truth values and their closures, in plain terms. -/
set_option linter.unusedVariables false
set_option linter.unusedSimpArgs false
namespace Go.Pm.PE
def tG (T : List (List Bool)) (a b : Nat) : Bool := (((T[a]?).getD [])[b]?).getD false
def tS (T : List (List Bool)) (a b : Nat) (x : Bool) : List (List Bool) := T.set a (((T[a]?).getD []).set b x)
structure TOk (n : Nat) (T : List (List Bool)) : Prop where
  len : T.length = n
  row : ∀ r, r ∈ T → r.length = n
theorem TOk.at {n : Nat} {T : List (List Bool)} (k : TOk n T) {a : Nat} (ha : a < n) : ∃ r, T[a]? = some r ∧ r.length = n := by
  obtain ⟨r, hr, _⟩ := drop_at (show a < T.length by rw [k.len]; exact ha)
  exact ⟨r, hr, k.row r (List.mem_of_getElem? hr)⟩
theorem TOk.cell {n : Nat} {T : List (List Bool)} (k : TOk n T) {a b : Nat} (ha : a < n) (hb : b < n) : ∃ r, T[a]? = some r ∧ r.length = n ∧ r[b]? = some (tG T a b) := by
  obtain ⟨r, hr, hl⟩ := k.at ha
  obtain ⟨x, hx, _⟩ := drop_at (show b < r.length by omega)
  exact ⟨r, hr, hl, by simp [tG, hr, hx]⟩
theorem TOk.set {n : Nat} {T : List (List Bool)} (k : TOk n T) {a b : Nat} {x : Bool} (ha : a < n) : TOk n (tS T a b x) := by
  obtain ⟨r, hr, hl⟩ := k.at ha
  refine ⟨by unfold tS; rw [List.length_set, k.len], fun q hq => ?_⟩
  unfold tS at hq
  rw [hr, Option.getD_some] at hq
  rcases List.mem_or_eq_of_mem_set hq with g | g
  · exact k.row q g
  · rw [g, List.length_set, hl]
/-! ### closures -/
def falT (n : Nat) : List (List Bool) := List.replicate n (List.replicate n false)
def edT (T : List (List Bool)) (es : List (Int × Int)) : List (List Bool) := es.foldl (fun T e => tS T e.1.toNat e.2.toNat true) T
def cst (k i : Nat) (T : List (List Bool)) (j : Nat) : List (List Bool) := tS T i j (tG T i j || (tG T i k && tG T k j))
def cJ (k i : Nat) (T : List (List Bool)) (l : List Nat) : List (List Bool) := l.foldl (cst k i) T
def cI (n k : Nat) (T : List (List Bool)) (l : List Nat) : List (List Bool) := l.foldl (fun T i => cJ k i T (List.range' 0 n)) T
def cK (n : Nat) (T : List (List Bool)) (l : List Nat) : List (List Bool) := l.foldl (fun T k => cI n k T (List.range' 0 n)) T
def clo (n : Nat) (es : List (Int × Int)) : List (List Bool) := cK n (edT (falT n) es) (List.range' 0 n)
end Go.Pm.PE

/- Orders by a vector of ends, in plain terms. -/
set_option linter.unusedVariables false
set_option linter.unusedSimpArgs false
namespace Go.Pm.PE
open Go.Pm.PP
end Go.Pm.PE

/- The order that is found from its end under a limit of lateness, in plain terms: it is there if any order keeps to the limit, and then it has the least sum of ends of all these. -/
set_option linter.unusedVariables false
set_option linter.unusedSimpArgs false
namespace Go.Pm.PE
open Go.Pm.PP
section
variable (t d : Int → Int) (lim : Int)
def smG : Int → List Int → Int
  | _, [] => 0
  | now, x :: r => (now + t x) + smG (now + t x) r
def okG : Int → List Int → Bool
  | _, [] => true
  | now, x :: r => decide (now + t x ≤ d x + lim) && okG (now + t x) r
def tsm (l : List Int) : Int := (l.map t).sum
def bkP (e : Int) (left : List Int) : Int := left.foldl (fun b i => if e ≤ d i + lim ∧ (b < 0 ∨ t b ≤ t i) then i else b) (-1)
def bkF : Nat → List Int → Option (List Int)
  | 0, _ => some []
  | n + 1, left => if bkP t d lim (tsm t left) left < 0 then none else (bkF n (left.filter fun x => !(x == bkP t d lim (tsm t left) left))).map (· ++ [bkP t d lim (tsm t left) left])
end
section
variable {t d : Int → Int} {lim : Int}
theorem tsm_app {A C : List Int} : tsm t (A ++ C) = tsm t A + tsm t C := by simp [tsm]
theorem tsm_cons {x : Int} {C : List Int} : tsm t (x :: C) = t x + tsm t C := by simp [tsm]
theorem tsm_perm {l l' : List Int} (h : l.Perm l') : tsm t l = tsm t l' := sum_perm (h.map _)
theorem smG_app : ∀ {A C : List Int} {now : Int}, smG t now (A ++ C) = smG t now A + smG t (now + tsm t A) C
  | [], C, now => by simp [smG, tsm]
  | x :: A, C, now => by
    simp only [List.cons_append, smG, tsm_cons]
    rw [smG_app, show now + t x + tsm t A = now + (t x + tsm t A) by omega]; omega
theorem okG_app : ∀ {A C : List Int} {now : Int}, okG t d lim now (A ++ C) = (okG t d lim now A && okG t d lim (now + tsm t A) C)
  | [], C, now => by simp [okG, tsm]
  | x :: A, C, now => by
    simp only [List.cons_append, okG, tsm_cons]
    rw [okG_app, show now + t x + tsm t A = now + (t x + tsm t A) by omega, Bool.and_assoc]
theorem smG_mono : ∀ {C : List Int} {a b : Int}, a ≤ b → smG t a C ≤ smG t b C
  | [], _, _, _ => by simp [smG]
  | x :: C, a, b, h => by
    have := smG_mono (C := C) (a := a + t x) (b := b + t x) (by omega)
    simp only [smG]; omega
theorem okG_mono : ∀ {C : List Int} {a b : Int}, a ≤ b → okG t d lim b C = true → okG t d lim a C = true
  | [], _, _, _, _ => rfl
  | x :: C, a, b, h, e => by
    simp only [okG, Bool.and_eq_true, decide_eq_true_eq] at e ⊢
    exact ⟨by omega, okG_mono (by omega) e.2⟩
theorem bkP_go {e : Int} : ∀ {l : List Int} {b : Int}, (∀ x, x ∈ l → 0 ≤ x) → (b < 0 ∨ e ≤ d b + lim) → let q := l.foldl (fun b i => if e ≤ d i + lim ∧ (b < 0 ∨ t b ≤ t i) then i else b) b
    (q < 0 → b < 0 ∧ ∀ x, x ∈ l → ¬ e ≤ d x + lim) ∧ (0 ≤ q → (q = b ∨ q ∈ l) ∧ e ≤ d q + lim ∧ (0 ≤ b → t b ≤ t q) ∧ ∀ x, x ∈ l → e ≤ d x + lim → t x ≤ t q)
  | [], b, _, hb => by
    refine ⟨fun h => ⟨h, fun x hx => by cases hx⟩, fun h => ⟨.inl rfl, ?_, fun _ => Int.le_refl _, fun x hx => by cases hx⟩⟩
    simp only [List.foldl_nil] at h ⊢
    omega
  | y :: l, b, hl, hb => by
    simp only [List.foldl_cons]
    have hy := hl y (List.mem_cons_self ..)
    by_cases c : e ≤ d y + lim ∧ (b < 0 ∨ t b ≤ t y)
    · rw [if_pos c]
      obtain ⟨g1, g2⟩ := bkP_go (e := e) (l := l) (b := y) (fun x hx => hl x (List.mem_cons_of_mem _ hx)) (.inr c.1)
      refine ⟨fun h => by have := (g1 h).1; omega, fun h => ?_⟩
      obtain ⟨k1, k2, k3, k4⟩ := g2 h
      refine ⟨.inr ?_, k2, fun h0 => ?_, fun x hx hd => ?_⟩
      · rcases k1 with k1 | k1
        · rw [k1]; exact List.mem_cons_self ..
        · exact List.mem_cons_of_mem _ k1
      · have := k3 hy; omega
      · rcases List.mem_cons.1 hx with rfl | hx
        · exact k3 hy
        · exact k4 x hx hd
    · rw [if_neg c]
      obtain ⟨g1, g2⟩ := bkP_go (e := e) (l := l) (b := b) (fun x hx => hl x (List.mem_cons_of_mem _ hx)) hb
      refine ⟨fun h => ⟨(g1 h).1, fun x hx hd => ?_⟩, fun h => ?_⟩
      · rcases List.mem_cons.1 hx with rfl | hx
        · exact c ⟨hd, .inl (g1 h).1⟩
        · exact (g1 h).2 x hx hd
      · obtain ⟨k1, k2, k3, k4⟩ := g2 h
        refine ⟨?_, k2, k3, fun x hx hd => ?_⟩
        · rcases k1 with k1 | k1
          · exact .inl k1
          · exact .inr (List.mem_cons_of_mem _ k1)
        · rcases List.mem_cons.1 hx with rfl | hx
          · have : ¬ (b < 0 ∨ t b ≤ t x) := fun g => c ⟨hd, g⟩
            have := k3 (by omega)
            omega
          · exact k4 x hx hd
theorem bkP_neg {e : Int} {l : List Int} (hl : ∀ x, x ∈ l → 0 ≤ x) (h : bkP t d lim e l < 0) : ∀ x, x ∈ l → ¬ e ≤ d x + lim := ((bkP_go (t := t) hl (.inl (by omega))).1 h).2
theorem bkP_pos {e : Int} {l : List Int} (hl : ∀ x, x ∈ l → 0 ≤ x) (h : ¬ bkP t d lim e l < 0) : bkP t d lim e l ∈ l ∧ e ≤ d (bkP t d lim e l) + lim ∧ ∀ x, x ∈ l → e ≤ d x + lim → t x ≤ t (bkP t d lim e l) := by
  obtain ⟨k1, k2, _, k4⟩ := (bkP_go (t := t) (d := d) (lim := lim) (e := e) (b := -1) hl (.inl (by omega))).2 (by unfold bkP at h; omega)
  refine ⟨?_, k2, k4⟩
  rcases k1 with k1 | k1
  · unfold bkP at h; omega
  · exact k1
theorem filter_del {l : List Int} {b : Int} (hn : l.Nodup) (hb : b ∈ l) : l.Perm (b :: l.filter fun x => !(x == b)) := by
  induction l with
  | nil => cases hb
  | cons y l ih =>
    obtain ⟨h1, h2⟩ := List.nodup_cons.1 hn
    by_cases c : y = b
    · subst c
      rw [List.filter_cons]
      simp only [BEq.rfl, Bool.not_true, Bool.false_eq_true, if_false]
      rw [List.filter_eq_self.2]
      intro a ha
      have : ¬ a = y := fun g => h1 (g ▸ ha)
      simpa using this
    · rw [List.filter_cons, if_pos (by simpa using c)]
      have hb' : b ∈ l := by
        rcases List.mem_cons.1 hb with g | g
        · exact absurd g.symm c
        · exact g
      exact ((ih h2 hb').cons y).trans (List.Perm.swap ..)
/-- What is exchanged: the one that is chosen takes the last place. -/
theorem back_exch (ht : ∀ x, 0 ≤ t x) {r : List Int} {l b : Int} (hb : b ∈ r ++ [l]) (hle : t l ≤ t b) (hok : okG t d lim 0 (r ++ [l]) = true) : ∃ r', (b :: r').Perm (r ++ [l]) ∧ okG t d lim 0 r' = true ∧ smG t 0 r' ≤ smG t 0 r := by
  rw [okG_app, Bool.and_eq_true] at hok
  by_cases c : b = l
  · subst c
    exact ⟨r, List.perm_append_comm (l₁ := [b]), hok.1, Int.le_refl _⟩
  · have hbr : b ∈ r := by
      rcases List.mem_append.1 hb with g | g
      · exact g
      · exact absurd (by simpa using g) c
    obtain ⟨A, B, rfl⟩ := List.append_of_mem hbr
    refine ⟨A ++ l :: B, ?_, ?_, ?_⟩
    · have e1 : (A ++ l :: B).Perm (l :: (A ++ B)) := List.perm_middle
      have e2 : (A ++ b :: B ++ [l]).Perm (b :: (A ++ (B ++ [l]))) := by
        rw [List.append_assoc, List.cons_append]; exact List.perm_middle
      refine ((e1.trans ?_).cons b).trans e2.symm
      rw [← List.append_assoc]
      exact List.perm_append_comm (l₁ := [l]) (l₂ := A ++ B)
    · obtain ⟨h1, h2⟩ := hok
      rw [okG_app, Bool.and_eq_true] at h1 ⊢
      refine ⟨h1.1, ?_⟩
      have h3 := h1.2
      simp only [okG, Bool.and_eq_true, decide_eq_true_eq, tsm_app, tsm_cons, Bool.and_true] at h2 h3 ⊢
      have hB : 0 ≤ tsm t B := by
        have : ∀ C : List Int, 0 ≤ tsm t C := fun C => by
          induction C with
          | nil => simp [tsm]
          | cons y C ih => rw [tsm_cons]; have := ht y; omega
        exact this B
      have := ht b
      exact ⟨by omega, okG_mono (by omega) h3.2⟩
    · rw [smG_app, smG_app]
      simp only [smG]
      have := smG_mono (t := t) (C := B) (a := 0 + tsm t A + t l) (b := 0 + tsm t A + t b) (by omega)
      omega
theorem snoc_of {α : Type} {xs : List α} (h : xs ≠ []) : ∃ r x, xs = r ++ [x] := ⟨xs.dropLast, xs.getLast h, (List.dropLast_concat_getLast h).symm⟩
theorem bkF_spec (ht : ∀ x, 0 ≤ t x) : ∀ {n : Nat} {left : List Int}, left.length = n → left.Nodup → (∀ x, x ∈ left → 0 ≤ x) →
    (bkF t d lim n left = none → ∀ s, s.Perm left → okG t d lim 0 s = false) ∧
    ∀ o, bkF t d lim n left = some o → o.Perm left ∧ okG t d lim 0 o = true ∧ ∀ s, s.Perm left → okG t d lim 0 s = true → smG t 0 o ≤ smG t 0 s
  | 0, left, hl, _, _ => by
    obtain rfl : left = [] := List.length_eq_zero_iff.1 hl
    refine ⟨fun h => by simp [bkF] at h, fun o ho => ?_⟩
    simp only [bkF, Option.some.injEq] at ho
    subst ho
    refine ⟨List.Perm.refl _, rfl, fun s hs _ => ?_⟩
    rw [hs.eq_nil]; exact Int.le_refl _
  | n + 1, left, hl, hnd, h0 => by
    generalize hb : bkP t d lim (tsm t left) left = b
    generalize hL : left.filter (fun x => !(x == b)) = left'
    have hF : bkF t d lim (n + 1) left = if b < 0 then none else (bkF t d lim n left').map (· ++ [b]) := by simp only [bkF, hb, hL]
    rw [hF]
    have last : ∀ s, s.Perm left → okG t d lim 0 s = true → ∃ r l, s = r ++ [l] ∧ tsm t left ≤ d l + lim ∧ l ∈ left := fun s hs hok => by
      obtain ⟨r, l, rfl⟩ := snoc_of (xs := s) (by rintro rfl; have := hs.length_eq; simp at this; omega)
      refine ⟨r, l, rfl, ?_, hs.subset (by simp)⟩
      rw [okG_app, Bool.and_eq_true] at hok
      have h2 := hok.2
      simp only [okG, Bool.and_true, decide_eq_true_eq] at h2
      rw [← tsm_perm hs, tsm_app]
      simp only [tsm_cons, show tsm t [] = 0 from rfl]
      omega
    by_cases c : b < 0
    · rw [if_pos c]
      refine ⟨fun _ s hs => ?_, fun o ho => by cases ho⟩
      cases hok : okG t d lim 0 s
      · rfl
      obtain ⟨r, l, rfl, h2, hm⟩ := last s hs hok
      exact absurd h2 (bkP_neg h0 (by rw [hb]; exact c) l hm)
    · rw [if_neg c]
      obtain ⟨p1, p2, p3⟩ := bkP_pos (t := t) (d := d) (lim := lim) (e := tsm t left) h0 (by rw [hb]; exact c)
      rw [hb] at p1 p2 p3
      have hp : left.Perm (b :: left') := by rw [← hL]; exact filter_del hnd p1
      have hl' : left'.length = n := by have := hp.length_eq; simp at this; omega
      have hnd' : left'.Nodup := by rw [← hL]; exact hnd.sublist List.filter_sublist
      have h0' : ∀ x, x ∈ left' → 0 ≤ x := fun x hx => h0 x (by rw [← hL] at hx; exact (List.mem_filter.1 hx).1)
      obtain ⟨i1, i2⟩ := bkF_spec ht hl' hnd' h0'
      have key : ∀ s, s.Perm left → okG t d lim 0 s = true → ∃ r', r'.Perm left' ∧ okG t d lim 0 r' = true ∧ smG t 0 r' + tsm t left ≤ smG t 0 s := fun s hs hok => by
        obtain ⟨r, l, rfl, h2, hm⟩ := last s hs hok
        obtain ⟨r', q1, q2, q3⟩ := back_exch ht (hs.symm.subset p1) (p3 l hm h2) hok
        refine ⟨r', List.Perm.cons_inv (a := b) ((q1.trans hs).trans hp), q2, ?_⟩
        rw [← tsm_perm hs, smG_app, tsm_app]
        simp only [smG, tsm_cons, show tsm t [] = 0 from rfl]
        omega
      refine ⟨fun h s hs => ?_, fun o ho => ?_⟩
      · cases hok : okG t d lim 0 s
        · rfl
        obtain ⟨r', q1, q2, _⟩ := key s hs hok
        have := i1 (by cases g : bkF t d lim n left' with
          | none => rfl
          | some o => rw [g] at h; cases h) r' q1
        rw [this] at q2; cases q2
      · obtain ⟨o', ho', rfl⟩ := Option.map_eq_some_iff.1 ho
        obtain ⟨j1, j2, j3⟩ := i2 o' ho'
        have hpo : (o' ++ [b]).Perm left := (List.perm_append_comm.trans ((j1.cons b : (b :: o').Perm (b :: left')) : ([b] ++ o').Perm (b :: left'))).trans hp.symm
        have ht' : tsm t o' + t b = tsm t left := by rw [← tsm_perm hpo, tsm_app, tsm_cons]; simp [tsm]
        refine ⟨hpo, ?_, fun s hs hok => ?_⟩
        · rw [okG_app, j2]
          simp only [okG, Bool.and_true, Bool.true_and, decide_eq_true_eq]
          omega
        · obtain ⟨r', q1, q2, q3⟩ := key s hs hok
          have := j3 r' q1 q2
          rw [smG_app]
          simp only [smG]
          omega
end
/-- Two lists without dominated points that cover each other are the same. -/
theorem sorted_eqP {R : Pt → Pt → Prop} (hR : ∀ a b, R a b → R b a → False) : ∀ {l l' : List Pt}, l.Pairwise R → l'.Pairwise R → l.Perm l' → l = l'
  | [], l', _, _, h => (h.symm.eq_nil).symm
  | x :: l, [], _, _, h => by have := h.length_eq; simp at this
  | x :: l, y :: l', h1, h2, h => by
    obtain ⟨a1, a2⟩ := List.pairwise_cons.1 h1
    obtain ⟨b1, b2⟩ := List.pairwise_cons.1 h2
    have e : x = y := by
      rcases List.mem_cons.1 (h.subset (List.mem_cons_self ..)) with g | g
      · exact g
      · rcases List.mem_cons.1 (h.symm.subset (List.mem_cons_self ..)) with k | k
        · exact k.symm
        · exact (hR _ _ (a1 _ k) (b1 _ g)).elim
    subst e
    rw [sorted_eqP hR a2 b2 h.cons_inv]
theorem front_uniq {F F' : List Pt} (s : Srt F) (s' : Srt F') (h : ∀ q, q ∈ F → ∃ r, r ∈ F' ∧ r.1 ≤ q.1 ∧ r.2 ≤ q.2) (h' : ∀ q, q ∈ F' → ∃ r, r ∈ F ∧ r.1 ≤ q.1 ∧ r.2 ≤ q.2) : F = F' := by
  have nd : ∀ {G : List Pt}, Srt G → G.Nodup := fun sg => sg.imp fun {a b} g e => by subst e; omega
  have anti : ∀ {G : List Pt}, Srt G → ∀ a b, a ∈ G → b ∈ G → a.1 ≤ b.1 → a.2 ≤ b.2 → a = b := by
    intro G sg a b ha hb h1 h2
    obtain ⟨i, hi⟩ := List.getElem?_of_mem ha
    obtain ⟨j, hj⟩ := List.getElem?_of_mem hb
    obtain ⟨hi', ei⟩ := List.getElem?_eq_some_iff.1 hi
    obtain ⟨hj', ej⟩ := List.getElem?_eq_some_iff.1 hj
    have P := List.pairwise_iff_getElem.1 sg
    rcases Nat.lt_trichotomy i j with g | g | g
    · have := P i j hi' hj' g; rw [ei, ej] at this; omega
    · subst g; rw [← ei, ← ej]
    · have := P j i hj' hi' g; rw [ei, ej] at this; omega
  have sub : ∀ {F F' : List Pt}, Srt F → (∀ q, q ∈ F → ∃ r, r ∈ F' ∧ r.1 ≤ q.1 ∧ r.2 ≤ q.2) → (∀ q, q ∈ F' → ∃ r, r ∈ F ∧ r.1 ≤ q.1 ∧ r.2 ≤ q.2) → ∀ q, q ∈ F → q ∈ F' := by
    intro F F' s h h' q hq
    obtain ⟨r, hr, r1, r2⟩ := h q hq
    obtain ⟨u, hu, u1, u2⟩ := h' r hr
    have e := anti s u q hu hq (by omega) (by omega)
    subst e
    have : r = u := Prod.ext (by omega) (by omega)
    rw [← this]; exact hr
  exact sorted_eqP (R := fun a b => a.1 < b.1 ∧ b.2 < a.2) (fun a b h1 h2 => by omega) s s' ((List.perm_ext_iff_of_nodup (nd s) (nd s')).2 fun q => ⟨sub s h h' q, sub s' h' h q⟩)
end Go.Pm.PE

/- The front of sums and lateness from the ends of orders, in plain terms. -/
set_option linter.unusedVariables false
set_option linter.unusedSimpArgs false
set_option maxRecDepth 4000
namespace Go.Pm.PP
open Go.Pm Go.Proofs Go.Pm.PE
def tJ (js : List Job) (x : Int) : Int := (jA js x).t
def dJ (js : List Job) (x : Int) : Int := (jA js x).d
def backX (js : List Job) (lim : Int) : Option (List Int) := bkF (tJ js) (dJ js) lim js.length (upTo js.length)
theorem sum_smG {js : List Job} (p : Pl js) : ∀ {xs : List Int} {now : Int}, 0 ≤ now → sumGo 2 js now xs = smG (tJ js) now xs
  | [], _, _ => rfl
  | x :: r, now, h => by
    have := p.t x
    rw [sumGo, smG, p.endAt h, sum_smG p (by omega)]
    simp [costV, tJ]
theorem okG_timD {js : List Job} {lim : Int} : ∀ {xs : List Int} {now : Int}, okG (tJ js) (dJ js) lim now xs = timD js lim now xs
  | [], _ => rfl
  | x :: r, now => by rw [okG, timD, okG_timD]; rfl
theorem val_smG {js : List Job} (hok : plOk js = true) {xs : List Int} (o : Ord js.length xs) : valX 2 js xs = smG (tJ js) 0 xs := by
  unfold valX
  rw [val_sum (by omega) (by omega) (ord_prm o), sum_smG (plOk_pl hok) (Int.le_refl 0)]
theorem val_okG {js : List Job} (hok : plOk js = true) {xs : List Int} (o : Ord js.length xs) (hne : 0 < js.length) {lim : Int} (hl : -(2 ^ 20) ≤ lim) : okG (tJ js) (dJ js) lim 0 xs = true ↔ valX 4 js xs ≤ lim := by
  rw [valX_lat hok o hne, okG_timD]
  exact timD_lat (plOk_pl hok) (Int.le_refl 0) hl
theorem back_facts {js : List Job} (hok : plOk js = true) (hne : 0 < js.length) {lim : Int} (hl : -(2 ^ 20) ≤ lim) :
    (backX js lim = none → ∀ xs, Ord js.length xs → lim < valX 4 js xs) ∧
    ∀ o, backX js lim = some o → Ord js.length o ∧ valX 4 js o ≤ lim ∧ ∀ xs, Ord js.length xs → valX 4 js xs ≤ lim → valX 2 js o ≤ valX 2 js xs := by
  obtain ⟨h1, h2⟩ := bkF_spec (t := tJ js) (d := dJ js) (lim := lim) (plOk_pl hok).t (n := js.length) (left := upTo js.length) (upTo_len _) (upTo_nodup _) fun x hx => (mem_upTo.1 hx).1
  refine ⟨fun h xs ox => ?_, fun o ho => ?_⟩
  · have := h1 h xs (ord_perm ox)
    refine Int.not_le.1 fun g => ?_
    rw [(val_okG hok ox hne hl).2 g] at this
    cases this
  · obtain ⟨p1, p2, p3⟩ := h2 o ho
    have oo := ord_of_perm p1
    refine ⟨oo, (val_okG hok oo hne hl).1 p2, fun xs ox hx => ?_⟩
    rw [val_smG hok oo, val_smG hok ox]
    exact p3 xs (ord_perm ox) ((val_okG hok ox hne hl).2 hx)
/-- What holds of the front that has been found down to a limit. -/
structure LInv (js : List Job) (lim : Int) (F : List Pt) : Prop where
  srt : Srt F
  pt : ∀ q, q ∈ F → ∃ xs, Ord js.length xs ∧ ptX 2 4 js xs = q
  cov : ∀ xs, Ord js.length xs → lim < valX 4 js xs → ∃ q, q ∈ F ∧ q.1 ≤ valX 2 js xs ∧ q.2 ≤ valX 4 js xs
theorem LInv.step {js : List Job} {lim : Int} {F : List Pt} (hok : plOk js = true) (hne : 0 < js.length) (hl : -(2 ^ 20) ≤ lim) (I : LInv js lim F) {o : List Int} (ho : backX js lim = some o) : LInv js (valX 4 js o - 1) (putF F (ptX 2 4 js o)) := by
  obtain ⟨oo, h1, h2⟩ := (back_facts hok hne hl).2 o ho
  refine ⟨putF_srt I.srt, fun q hq => ?_, fun xs ox hx => ?_⟩
  · rcases putF_mem hq with rfl | g
    · exact ⟨o, oo, rfl⟩
    · exact I.pt q g
  · by_cases c : lim < valX 4 js xs
    · exact putF_cover (r := ptX 2 4 js xs) (.inr (I.cov xs ox c))
    · obtain ⟨q, hq, q1, q2⟩ := putF_cover (F := F) (p := ptX 2 4 js o) (r := ptX 2 4 js o) (.inl rfl)
      have e1 : (ptX 2 4 js o).1 = valX 2 js o := rfl
      have e2 : (ptX 2 4 js o).2 = valX 4 js o := rfl
      have := h2 xs ox (by omega)
      exact ⟨q, hq, by omega, by omega⟩
theorem LInv.all {js : List Job} {lim : Int} {F : List Pt} (hok : plOk js = true) (I : LInv js lim F) (h : ∀ xs, Ord js.length xs → lim < valX 4 js xs) : F = frontR 2 4 js := by
  obtain ⟨hn, _, _⟩ := plOk_of hok
  obtain ⟨s, m, c⟩ := front_facts (f := 2) (g := 4) (js := js) hn
  refine front_uniq I.srt s (fun q hq => ?_) fun q hq => ?_
  · obtain ⟨xs, ox, rfl⟩ := I.pt q hq
    exact c xs ox
  · obtain ⟨xs, ox, rfl⟩ := m q hq
    exact I.cov xs ox (h xs ox)
theorem LInv.stop {js : List Job} {lim : Int} {F : List Pt} (hok : plOk js = true) (hne : 0 < js.length) (hl : -(2 ^ 20) ≤ lim) (I : LInv js lim F) (hb : backX js lim = none) : F = frontR 2 4 js := I.all hok ((back_facts hok hne hl).1 hb)
end Go.Pm.PP

/- The order that is found from its end, and the front that is found by it, of both. -/
set_option linter.unusedVariables false
set_option linter.unusedSimpArgs false
set_option maxRecDepth 4000
set_option maxHeartbeats 16000000
namespace Go.Pm.PP
open Go.Pm Go.Proofs Go.Pm.PE
def rat1 (js : List Job) (xs : List Int) : Pt := ((xs.map fun x => (jA js x).w).sum, (xs.map fun x => (jA js x).t).sum)
theorem rat_take {js : List Job} {xs : List Int} {i : Nat} {y : Int} (hy : xs[i]? = some y) : rat1 js (xs.take (i + 1)) = ((rat1 js (xs.take i)).1 + (jA js y).w, (rat1 js (xs.take i)).2 + (jA js y).t) := by
  unfold rat1; rw [take_succ' hy]; simp
theorem jw_bd {js : List Job} (hg : goodL js = true) (x : Int) : 0 ≤ (jA js x).w ∧ (jA js x).w ≤ 50 := by
  by_cases h : 0 ≤ x ∧ x < js.length
  · have k := jobOk_jA hg h
    simp only [jobOk, inB, Bool.and_eq_true, decide_eq_true_eq] at k
    omega
  · have e : jA js x = ⟨0, 0, 0, 0⟩ ∨ ∃ i, x.toNat = i ∧ ∃ y, js[i]? = some y ∧ jA js x = y := by
      unfold jA
      cases hx : js[x.toNat]? with
      | none => left; rfl
      | some y => right; exact ⟨_, rfl, y, hx, rfl⟩
    rcases e with e | ⟨i, hi, y, hy, e⟩
    · rw [e]; simp
    · rw [e]
      have k := job_at hg hy
      simp only [jobOk, inB, Bool.and_eq_true, decide_eq_true_eq] at k
      omega
theorem rat_bd {js : List Job} (hg : goodL js = true) : ∀ {xs : List Int}, (0 ≤ (rat1 js xs).1 ∧ (rat1 js xs).1 ≤ xs.length * 50) ∧ 0 ≤ (rat1 js xs).2 ∧ (rat1 js xs).2 ≤ xs.length * 2 ^ 20
  | [] => by simp [rat1]
  | x :: xs => by
    have ih := rat_bd hg (xs := xs)
    have h1 := jw_bd hg x
    have h2 := (good_bd hg).t x
    have e : rat1 js (x :: xs) = ((jA js x).w + (rat1 js xs).1, (jA js x).t + (rat1 js xs).2) := by simp [rat1]
    rw [e, List.length_cons]
    simp only
    omega
theorem _root_.Go.Pm.Holds.litI {h0 h : Hp} {L : List Asn} (H : Holds h0 h L) (xs : List Int) : Holds h0 (h ++ [some ⟨xs.map fun x => .int .i64 x, 1, false⟩]) (L ++ [.own (.slice (some ⟨h.length, 0, some xs.length⟩) xs.length xs.length) 1 (xs.map encI)]) := by
  have e : (xs.map encI).flatten = xs.map fun x => Value.int .i64 x := by
    induction xs with
    | nil => rfl
    | cons x xs ih => rw [List.map_cons, List.flatten_cons, ih]; rfl
  have := H.lit (sz := 1) (n := xs.length) (els := xs.map encI) (len_I xs) (by simp)
  rw [e, List.length_map] at this
  exact this
theorem nil_L {h : Hp} : Ints h (.slice none 0 0) ([] : List Int) := ⟨by simp, none, 0, rfl, .inl ⟨rfl, rfl, rfl⟩⟩
section
variable {h : Hp} {vj v u : Value} {js : List Job} {xs ys : List Int} {lim : Int}
def delF (xs ys : List Int) : List Int := xs.filter fun x => !hasL x ys
theorem del_take {i : Nat} {y : Int} (hy : xs[i]? = some y) : delF (xs.take (i + 1)) ys = delF (xs.take i) ys ++ if hasL y ys = true then [] else [y] := by
  unfold delF
  rw [take_succ' hy, List.filter_append]
  congr 1
  cases g : hasL y ys <;> simp [List.filter_cons, g]
theorem l4Rest_run (X : Ints h v xs) (Y : Ints h u ys) (hx : xs.length ≤ 2 ^ 20) (hy : ys.length ≤ 2 ^ 40) : RunsC P G n_spec_l4Rest [v, u] h fun w h' => h <+: h' ∧ Own h.length h' w 1 ((delF xs ys).map encI) := by
  refine hideC fun K hK => enter_run e_spec_l4Rest (by simp) ?_
  have Xs := X
  have Ys := Y
  obtain ⟨ox, cx, rfl⟩ := X.shapeT
  obtain ⟨oy, cy, rfl⟩ := Y.shapeT
  have H0 := own_nil (Holds.start (h := h)) Int encI 1
  simp -implicitDefEqProofs
  refine R_loopO (fun m s h' => ∃ (i : Nat) (w : Value), i + m = xs.length ∧ s = [(0, .slice ox xs.length cx), (1, .slice oy ys.length cy), (5, w), (6, .int .i64 i)] ∧ Holds h h' [.own w 1 ((delF (xs.take i) ys).map encI)]) (fun I hI m s h' => ?_) (n := xs.length) ⟨0, .slice none 0 0, Nat.zero_add _, by simp, by simpa [delF] using H0⟩
  rintro ⟨i, w, hi, rfl, H⟩
  by_cases hlt : i < xs.length
  · have hlt' : (i : Int) < xs.length := by omega
    obtain ⟨y, hyy, _⟩ := drop_at hlt
    have ly := load_I (Xs.pre H.pre) hyy
    have rh := l1Has_run (x := y) (Ys.pre H.pre) hy
    have e := del_take (ys := ys) hyy
    have hle : (delF (xs.take i) ys).length ≤ xs.length := Nat.le_trans (List.length_filter_le ..) (by rw [List.length_take]; omega)
    cases c1 : hasL y ys
    · rw [c1, if_neg (by simp)] at e
      rw [c1] at rh
      obtain ⟨v', h2, ha, H2, _⟩ := push_I0 H 0 rfl y (by omega)
      rw [← e] at H2
      simp -implicitDefEqProofs [-indexAddrP_some, hlt, hlt', ly, CL_ret rh, ha, winc hlt (by omega)]
      exact ⟨m - 1, by omega, on hI ⟨i + 1, v', by omega, rfl, H2⟩⟩
    · rw [c1, if_pos rfl, List.append_nil] at e
      rw [c1] at rh
      rw [← e] at H
      simp -implicitDefEqProofs [-indexAddrP_some, hlt, hlt', ly, CL_ret rh, winc hlt (by omega)]
      exact ⟨m - 1, by omega, on hI ⟨i + 1, w, by omega, rfl, H⟩⟩
  · have hlt' : ¬ (i : Int) < xs.length := by omega
    rw [List.take_of_length_le (by omega)] at H
    simp -implicitDefEqProofs [hlt, hlt']
    exact onK hK (H.ret 0 rfl)
/-! ### the choice -/
end
end Go.Pm.PP

/- Tables of the greatest weights of timely sets, in plain terms: by sets, and by jobs in due order. -/
set_option linter.unusedVariables false
set_option linter.unusedSimpArgs false
namespace Go.Pm.PE
open Go.Pm.PP
/-- A table that tells for each sum of times the greatest weight of a class of sets, -1 where there is none. -/
structure TabK (t w : Int → Int) (N : Nat) (cls : List Int → Prop) (T : List Int) : Prop where
  len : T.length = N + 1
  low : ∀ k, k ≤ N → -1 ≤ gE T k
  up : ∀ S, cls S → ∀ k : Nat, k ≤ N → tsm t S = k → tsm w S ≤ gE T k
  att : ∀ k : Nat, k ≤ N → 0 ≤ gE T k → ∃ S, cls S ∧ tsm t S = k ∧ tsm w S = gE T k
section
variable {t w d : Int → Int} {N : Nat}
theorem tsm_nonneg (hw : ∀ x, 0 ≤ w x) : ∀ {S : List Int}, 0 ≤ tsm w S
  | [] => by simp [tsm]
  | x :: S => by rw [tsm_cons]; have := hw x; have := tsm_nonneg hw (S := S); omega
theorem TabK.uniq {cls cls' : List Int → Prop} {T T' : List Int} (h : TabK t w N cls T) (h' : TabK t w N cls' T') (hw : ∀ x, 0 ≤ w x) (e : ∀ S, cls S → ∃ S', cls' S' ∧ S'.Perm S) (e' : ∀ S, cls' S → ∃ S', cls S' ∧ S'.Perm S) : T = T' := by
  have half : ∀ {cls cls' : List Int → Prop} {T T' : List Int}, TabK t w N cls T → TabK t w N cls' T' → (∀ S, cls S → ∃ S', cls' S' ∧ S'.Perm S) → ∀ k : Nat, k ≤ N → gE T k ≤ gE T' k := by
    intro cls cls' T T' h h' e k hk
    by_cases c : 0 ≤ gE T k
    · obtain ⟨S, hS, h1, h2⟩ := h.att k hk c
      obtain ⟨S', hS', hp⟩ := e S hS
      have := h'.up S' hS' k hk (by rw [tsm_perm hp, h1])
      rw [tsm_perm hp, h2] at this
      exact this
    · have := h'.low k hk
      have := h.low k hk
      omega
  apply List.ext_getElem?
  intro k
  by_cases hk : k ≤ N
  · rw [gE_get (by rw [h.len]; omega), gE_get (by rw [h'.len]; omega), Int.le_antisymm (half h h' e k hk) (half h' h e' k hk)]
  · rw [List.getElem?_eq_none (by rw [h.len]; omega), List.getElem?_eq_none (by rw [h'.len]; omega)]
/-! ### by sets -/
def upT (T : List Int) (k : Int) (x : Int) : List Int := T.set k.toNat (max (gE T k.toNat) x)
theorem TabK.nil : TabK t w N (fun _ => False) (List.replicate (N + 1) (-1)) := by
  have e : ∀ k, k ≤ N → gE (List.replicate (N + 1) (-1 : Int)) k = -1 := fun k hk => by simp [gE, List.getElem?_replicate, show k < N + 1 by omega]
  exact ⟨by simp, fun k hk => by rw [e k hk]; omega, fun S h => h.elim, fun k hk h => by rw [e k hk] at h; omega⟩
theorem TabK.add {cls : List Int → Prop} {T S0 : List Int} (h : TabK t w N cls T) (hw : ∀ x, 0 ≤ w x) (h0 : 0 ≤ tsm t S0) (h1 : tsm t S0 ≤ N) : TabK t w N (fun S => cls S ∨ S = S0) (upT T (tsm t S0) (tsm w S0)) := by
  obtain ⟨m, hm⟩ : ∃ m : Nat, (m : Int) = tsm t S0 := ⟨(tsm t S0).toNat, by omega⟩
  have hl : m < T.length := by rw [h.len]; omega
  have e : ∀ k : Nat, gE (upT T (tsm t S0) (tsm w S0)) k = if k = m then max (gE T m) (tsm w S0) else gE T k := fun k => by
    unfold upT
    rw [← hm, Int.toNat_natCast, gE_set hl]
  have hw0 := tsm_nonneg hw (S := S0)
  refine ⟨by unfold upT; rw [List.length_set, h.len], fun k hk => ?_, fun S hS k hk hs => ?_, fun k hk hg => ?_⟩
  · have := h.low k hk
    rw [e]; split
    · have := h.low m (by omega); omega
    · exact this
  · rw [e]
    rcases hS with g | rfl
    · have := h.up S g k hk hs
      split
      · rename_i c; subst c; omega
      · exact this
    · rw [if_pos (by omega)]; omega
  · rw [e] at hg ⊢
    split
    · rename_i c
      subst c
      rw [if_pos rfl] at hg
      by_cases g : gE T k ≤ tsm w S0
      · exact ⟨S0, .inr rfl, hm.symm, by omega⟩
      · obtain ⟨S, hS, a1, a2⟩ := h.att k hk (by omega)
        exact ⟨S, .inl hS, a1, by omega⟩
    · rename_i c
      rw [if_neg c] at hg
      obtain ⟨S, hS, a1, a2⟩ := h.att k hk hg
      exact ⟨S, .inl hS, a1, a2⟩
theorem TabK.weak {cls cls' : List Int → Prop} {T : List Int} (h : TabK t w N cls T) (e : ∀ S, cls S ↔ cls' S) : TabK t w N cls' T :=
  ⟨h.len, h.low, fun S hS => h.up S ((e S).2 hS), fun k hk hg => by obtain ⟨S, hS, a⟩ := h.att k hk hg; exact ⟨S, (e S).1 hS, a⟩⟩
/-! ### by jobs -/
def newT (T : List Int) (t w : Int) (k : Nat) : Int := if 0 ≤ gE T (k - t.toNat) then max (gE T k) (gE T (k - t.toNat) + w) else gE T k
/-- The places from k down to t are reckoned anew. -/
def dnT (t w : Int) : Nat → List Int → List Int
  | 0, T => T
  | k + 1, T => if ((k + 1 : Nat) : Int) < t then T else dnT t w k (T.set (k + 1) (newT T t w (k + 1)))
theorem dnT_len {t w : Int} : ∀ {k : Nat} {T : List Int}, (dnT t w k T).length = T.length
  | 0, T => rfl
  | k + 1, T => by
    rw [dnT]
    split
    · rfl
    · rw [dnT_len, List.length_set]
theorem dnT_at {t w : Int} (ht : 1 ≤ t) : ∀ {k : Nat} {T : List Int}, k < T.length → ∀ m, gE (dnT t w k T) m = if t ≤ m ∧ m ≤ k then newT T t w m else gE T m
  | 0, T, _, m => by
    rw [dnT, if_neg (by omega)]
  | k + 1, T, hk, m => by
    rw [dnT]
    split
    · rename_i c
      rw [if_neg (by omega)]
    · rename_i c
      rw [dnT_at ht (by rw [List.length_set]; omega)]
      have e : ∀ j, j ≤ k → gE (T.set (k + 1) (newT T t w (k + 1))) j = gE T j := fun j hj => by rw [gE_set hk, if_neg (by omega)]
      by_cases c1 : t ≤ m ∧ m ≤ k
      · rw [if_pos c1, if_pos ⟨c1.1, by omega⟩]
        generalize newT T t w (k + 1) = X at e ⊢
        unfold newT
        rw [e m c1.2, e (m - t.toNat) (by omega)]
      · rw [if_neg c1]
        by_cases c2 : m = k + 1
        · subst c2
          rw [gE_set hk, if_pos rfl, if_pos ⟨by omega, Nat.le_refl _⟩]
        · rw [gE_set hk, if_neg c2, if_neg (by omega)]
def wstT (T : List Int) (t w d : Int) : List Int := if d < t then T else dnT t w (min d ((T.length : Int) - 1)).toNat T
theorem wstT_len {T : List Int} {t w d : Int} : (wstT T t w d).length = T.length := by
  unfold wstT
  split
  · rfl
  · exact dnT_len
theorem wstT_at {T : List Int} {t w d : Int} (ht : 1 ≤ t) (hT : 0 < T.length) {m : Nat} (hm : m < T.length) : gE (wstT T t w d) m = if t ≤ m ∧ m ≤ d then newT T t w m else gE T m := by
  unfold wstT
  split
  · rw [if_neg (by omega)]
  · rw [dnT_at ht (by omega)]
    by_cases c : t ≤ m ∧ m ≤ d
    · rw [if_pos c, if_pos (by omega)]
    · rw [if_neg c, if_neg (by omega)]
def clsP (t d : Int → Int) (D : List Int) (S : List Int) : Prop := S.Sublist D ∧ okG t d 0 0 S = true
theorem sub_snoc {D S : List Int} {x : Int} : S.Sublist (D ++ [x]) ↔ S.Sublist D ∨ ∃ S', S = S' ++ [x] ∧ S'.Sublist D := by
  constructor
  · intro h
    obtain ⟨A, B, rfl, hA, hB⟩ := List.sublist_append_iff.1 h
    rcases List.sublist_cons_iff.1 hB with g | ⟨r, rfl, g⟩
    · left; rw [List.sublist_nil.1 g, List.append_nil]; exact hA
    · right; rw [List.sublist_nil.1 g]; exact ⟨A, rfl, hA⟩
  · rintro (h | ⟨S', rfl, h⟩)
    · exact h.trans (List.sublist_append_left ..)
    · exact h.append (List.Sublist.refl _)
theorem TabK.one (hw : ∀ x, 0 ≤ w x) : TabK t w N (clsP t d []) (0 :: List.replicate N (-1)) := by
  have e : ∀ k : Nat, k ≤ N → gE ((0 : Int) :: List.replicate N (-1 : Int)) k = if k = 0 then 0 else -1 := fun k hk => by
    cases k with
    | zero => rfl
    | succ k => simp [gE, List.getElem?_replicate, show k < N by omega]
  have hn : ∀ {S}, clsP t d [] S → S = [] := fun h => List.sublist_nil.1 h.1
  refine ⟨by simp, fun k hk => by rw [e k hk]; split <;> omega, fun S hS k hk hs => ?_, fun k hk h => ?_⟩
  · rw [hn hS] at hs ⊢
    have hs : (0 : Int) = k := hs
    rw [e k hk, if_pos (by omega)]
    exact Int.le_refl _
  · rw [e k hk] at h ⊢
    split at h
    · rename_i c
      subst c
      exact ⟨[], ⟨List.Sublist.refl _, rfl⟩, rfl, rfl⟩
    · omega
theorem TabK.more (hw : ∀ x, 0 ≤ w x) {D : List Int} {x : Int} {T : List Int} (h : TabK t w N (clsP t d D) T) (ht0 : ∀ x, 0 ≤ t x) (ht : 1 ≤ t x) : TabK t w N (clsP t d (D ++ [x])) (wstT T (t x) (w x) (d x)) := by
  have hpos : 0 < T.length := by rw [h.len]; omega
  have e : ∀ m : Nat, m ≤ N → gE (wstT T (t x) (w x) (d x)) m = if t x ≤ m ∧ m ≤ d x then newT T (t x) (w x) m else gE T m := fun m hm => wstT_at ht hpos (by rw [h.len]; omega)
  have hx := hw x
  have ge : ∀ m : Nat, m ≤ N → gE T m ≤ gE (wstT T (t x) (w x) (d x)) m := fun m hm => by
    rw [e m hm]
    split
    · unfold newT; split <;> omega
    · exact Int.le_refl _
  refine ⟨by rw [wstT_len, h.len], fun k hk => by have := ge k hk; have := h.low k hk; omega, fun S hS k hk hs => ?_, fun k hk hg => ?_⟩
  · obtain ⟨h1, h2⟩ := hS
    rcases sub_snoc.1 h1 with g | ⟨S', rfl, g⟩
    · exact Int.le_trans (h.up S ⟨g, h2⟩ k hk hs) (ge k hk)
    · rw [okG_app, Bool.and_eq_true] at h2
      have h3 := h2.2
      simp only [okG, Bool.and_true, decide_eq_true_eq, Int.zero_add, Int.add_zero] at h3
      rw [tsm_app, tsm_cons, show tsm t [] = 0 from rfl] at hs
      have hs0 := tsm_nonneg ht0 (S := S')
      have hu := h.up S' ⟨g, h2.1⟩ (k - (t x).toNat) (by omega) (by omega)
      have hw0 := tsm_nonneg hw (S := S')
      rw [e k hk, if_pos (by omega), newT, if_pos (by omega), tsm_app, tsm_cons, show tsm w [] = 0 from rfl]
      omega
  · have old : 0 ≤ gE T k → gE T k = gE (wstT T (t x) (w x) (d x)) k → ∃ S, clsP t d (D ++ [x]) S ∧ tsm t S = k ∧ tsm w S = gE (wstT T (t x) (w x) (d x)) k := fun g1 g2 => by
      obtain ⟨S, hS, a1, a2⟩ := h.att k hk g1
      exact ⟨S, ⟨hS.1.trans (List.sublist_append_left ..), hS.2⟩, a1, by omega⟩
    by_cases c : t x ≤ k ∧ k ≤ d x
    · have e1 := e k hk
      rw [if_pos c] at e1
      by_cases c2 : 0 ≤ gE T (k - (t x).toNat)
      · rw [newT, if_pos c2] at e1
        by_cases c3 : gE T (k - (t x).toNat) + w x ≤ gE T k
        · exact old (by omega) (by omega)
        · obtain ⟨S, hS, a1, a2⟩ := h.att (k - (t x).toNat) (by omega) c2
          refine ⟨S ++ [x], ⟨sub_snoc.2 (.inr ⟨S, rfl, hS.1⟩), ?_⟩, ?_, ?_⟩
          · rw [okG_app, hS.2]
            simp only [okG, Bool.and_true, Bool.true_and, decide_eq_true_eq]
            omega
          · rw [tsm_app, tsm_cons, show tsm t [] = 0 from rfl]; omega
          · rw [tsm_app, tsm_cons, show tsm w [] = 0 from rfl]; omega
      · rw [newT, if_neg c2] at e1
        exact old (by omega) e1.symm
    · have e1 := e k hk
      rw [if_neg c] at e1
      exact old (by omega) e1.symm
theorem TabK.fold (hw : ∀ x, 0 ≤ w x) (ht0 : ∀ x, 0 ≤ t x) : ∀ {l D : List Int} {T : List Int}, (∀ x, x ∈ l → 1 ≤ t x) → TabK t w N (clsP t d D) T → TabK t w N (clsP t d (D ++ l)) (l.foldl (fun T x => wstT T (t x) (w x) (d x)) T)
  | [], D, T, _, h => by rw [List.append_nil]; exact h
  | x :: l, D, T, hl, h => by
    have := TabK.fold hw ht0 (l := l) (fun y hy => hl y (List.mem_cons_of_mem _ hy)) (h.more hw ht0 (hl x (List.mem_cons_self ..)))
    rwa [List.append_assoc] at this
end
end Go.Pm.PE
