/- The texts PvXl, PvXd, PvXe, PvMi, PvXm, PvXn, PvXo, PvL, PvM, PvK of this work: What both export of the greedy order: the order, its critical part, its blocking job. -/
import Derived.ProofKit
import Derived.OpenShut
import Derived.Carry
import Derived.Test.YtcmbjbddjlamaaaP8
import Derived.Test.YtcmbjbddjlamaaaP7
import Derived.Test.YtcmbjbddjlamaaaM4
/- What both export of the greedy order: the order, its critical part, its blocking job. -/
set_option linter.unusedVariables false
set_option linter.unusedSimpArgs false
set_option maxRecDepth 4000
set_option maxHeartbeats 16000000
namespace Go.Pm.PP
open Go.Pm Go.Proofs Go.Pm.PE
def grO (js : List Job) : List Int := if jOk js = true then grL js else []
def cpOk (js : List Job) : Bool := jOk js && !decide (js.length = 0)
def cpO (js : List Job) : List Int := if cpOk js = true then partL js else []
def bjO (js : List Job) : Option Int := if cpOk js = true then blkO js else none
theorem cpOk_of {js : List Job} (h : cpOk js = true) : jOk js = true ∧ js ≠ [] := by
  simp only [cpOk, Bool.and_eq_true, Bool.not_eq_true', decide_eq_false_iff_not] at h
  exact ⟨h.1, fun e => h.2 (by rw [e]; rfl)⟩
section
variable {h : Hp} {vj v u : Value} {js : List Job} {xs : List Int}
theorem implGreedyOrder_run (J : Jobs h vj js) (hl : js.length ≤ 2 ^ 40) : RunsC P G n_impl_GreedyOrder [vj] h fun w h' => h <+: h' ∧ ∃ d, w = .tuple #[d, .bool (jOk js)] ∧ Ints h' d (grO js) := by
  refine hideC fun K hK => enter_run e_impl_GreedyOrder (by simp) ?_
  have Js := J
  obtain ⟨oj, cj, rfl⟩ := J.shapeT
  have r1 := isJobs_run Js hl
  cases c1 : jOk js
  · rw [c1] at r1
    rw [grO, c1] at hK
    simp -implicitDefEqProofs [CL_ret r1]
    exact onK hK ⟨List.prefix_rfl, _, rfl, nil_L⟩
  rw [c1] at r1
  rw [grO, c1, if_pos rfl] at hK
  obtain ⟨hn, hg⟩ := jOk_of c1
  simp -implicitDefEqProofs [CL_ret r1]
  refine CL_post (greedyOrder_run Js hg hn) fun w h1 ⟨hp1, o1⟩ => ?_
  obtain ⟨wa, wn, wc, rfl⟩ : ∃ a n c, w = .slice a n c := by obtain ⟨a, c, e⟩ := o1.sees.shape; exact ⟨_, _, _, e⟩
  simp -implicitDefEqProofs
  exact onK hK ⟨pre_gcU hp1, _, rfl, Sees.gcU o1.sees fun g => plainT (r := [_]) g⟩
theorem specGreedyOrder_run (J : Jobs h vj js) (hl : js.length ≤ 2 ^ 40) : RunsC P G n_spec_GreedyOrder [vj] h fun w h' => h <+: h' ∧ ∃ d, w = .tuple #[d, .bool (jOk js)] ∧ Ints h' d (grO js) := by
  refine hideC fun K hK => enter_run e_spec_GreedyOrder (by simp) ?_
  have Js := J
  obtain ⟨oj, cj, rfl⟩ := J.shapeT
  have r1 := good_run Js hl
  cases c1 : jOk js
  · rw [c1] at r1
    rw [grO, c1] at hK
    simp -implicitDefEqProofs [CL_ret r1]
    exact onK hK ⟨List.prefix_rfl, _, rfl, nil_L⟩
  rw [c1] at r1
  rw [grO, c1, if_pos rfl] at hK
  obtain ⟨hn, hg⟩ := jOk_of c1
  simp -implicitDefEqProofs [CL_ret r1]
  refine CL_post (l5Greedy_run Js hg hn) fun w h1 ⟨hp1, o1⟩ => ?_
  obtain ⟨wa, wn, wc, rfl⟩ : ∃ a n c, w = .slice a n c := by obtain ⟨a, c, e⟩ := o1.sees.shape; exact ⟨_, _, _, e⟩
  simp -implicitDefEqProofs
  exact onK hK ⟨pre_gcU hp1, _, rfl, Sees.gcU o1.sees fun g => plainT (r := [_]) g⟩
theorem implCriticalPart_run (J : Jobs h vj js) (hl : js.length ≤ 2 ^ 40) : RunsC P G n_impl_CriticalPart [vj] h fun w h' => h <+: h' ∧ ∃ d, w = .tuple #[d, .bool (cpOk js)] ∧ Ints h' d (cpO js) := by
  refine hideC fun K hK => enter_run e_impl_CriticalPart (by simp) ?_
  have Js := J
  obtain ⟨oj, cj, rfl⟩ := J.shapeT
  have r1 := isJobs_run Js hl
  cases c1 : jOk js
  · rw [c1] at r1
    rw [cpO, cpOk, c1] at hK
    simp -implicitDefEqProofs [CL_ret r1]
    exact onK hK ⟨List.prefix_rfl, _, rfl, nil_L⟩
  rw [c1] at r1
  by_cases c2 : js.length = 0
  · obtain rfl : js = [] := List.eq_nil_of_length_eq_zero c2
    simp only [List.length_nil] at r1
    rw [cpO, cpOk, c1] at hK
    simp -implicitDefEqProofs [CL_ret r1]
    exact onK hK ⟨List.prefix_rfl, _, rfl, nil_L⟩
  have c2' : ((js.length : Int) == 0) = false := nb (by omega)
  rw [cpO, cpOk, c1, decide_eq_false c2] at hK
  obtain ⟨hn, hg⟩ := jOk_of c1
  simp -implicitDefEqProofs [CL_ret r1, c2, c2']
  refine CL_post (criticalPart_run Js hg hn fun e => c2 (by rw [e]; rfl)) fun w h1 ⟨hp1, o1⟩ => ?_
  obtain ⟨wa, wn, wc, rfl⟩ : ∃ a n c, w = .slice a n c := by obtain ⟨a, c, e⟩ := o1.shape; exact ⟨_, _, _, e⟩
  simp -implicitDefEqProofs
  exact onK hK ⟨pre_gcU hp1, _, rfl, Sees.gcU o1 fun g => plainT (r := [_]) g⟩
theorem specCriticalPart_run (J : Jobs h vj js) (hl : js.length ≤ 2 ^ 40) : RunsC P G n_spec_CriticalPart [vj] h fun w h' => h <+: h' ∧ ∃ d, w = .tuple #[d, .bool (cpOk js)] ∧ Ints h' d (cpO js) := by
  refine hideC fun K hK => enter_run e_spec_CriticalPart (by simp) ?_
  have Js := J
  obtain ⟨oj, cj, rfl⟩ := J.shapeT
  have r1 := good_run Js hl
  cases c1 : jOk js
  · rw [c1] at r1
    rw [cpO, cpOk, c1] at hK
    simp -implicitDefEqProofs [CL_ret r1]
    exact onK hK ⟨List.prefix_rfl, _, rfl, nil_L⟩
  rw [c1] at r1
  by_cases c2 : js.length = 0
  · obtain rfl : js = [] := List.eq_nil_of_length_eq_zero c2
    simp only [List.length_nil] at r1
    rw [cpO, cpOk, c1] at hK
    simp -implicitDefEqProofs [CL_ret r1]
    exact onK hK ⟨List.prefix_rfl, _, rfl, nil_L⟩
  have c2' : ((js.length : Int) == 0) = false := nb (by omega)
  rw [cpO, cpOk, c1, decide_eq_false c2] at hK
  obtain ⟨hn, hg⟩ := jOk_of c1
  simp -implicitDefEqProofs [CL_ret r1, c2, c2']
  refine CL_post (l5Part_run Js hg hn fun e => c2 (by rw [e]; rfl)) fun w h1 ⟨hp1, o1⟩ => ?_
  obtain ⟨wa, wn, wc, rfl⟩ : ∃ a n c, w = .slice a n c := by obtain ⟨a, c, e⟩ := o1.shape; exact ⟨_, _, _, e⟩
  simp -implicitDefEqProofs
  exact onK hK ⟨pre_gcU hp1, _, rfl, Sees.gcU o1 fun g => plainT (r := [_]) g⟩
/-- The search of the blocking job, by both: what is left behind. -/
theorem blk_at {p : List Int} {d : Int} {i : Nat} : blkI js p d (i + 1) = if d < (jA js (gE p i)).d then some (gE p i) else blkI js p d i := rfl
def bjV (o : Option Int) : Value := .tuple #[.int .i64 (o.getD 0), .bool o.isSome]
theorem implBlockingJob_run (J : Jobs h vj js) (hl : js.length ≤ 2 ^ 40) : Ret P G n_impl_BlockingJob [vj] h (bjV (bjO js)) h := by
  refine enter_run e_impl_BlockingJob (by simp) ?_
  have Js := J
  obtain ⟨oj, cj, rfl⟩ := J.shapeT
  have r1 := isJobs_run Js hl
  cases c1 : jOk js
  · rw [c1] at r1
    rw [bjO, cpOk, c1]
    simp -implicitDefEqProofs [CL_ret r1, bjV]
  rw [c1] at r1
  by_cases c2 : js.length = 0
  · obtain rfl : js = [] := List.eq_nil_of_length_eq_zero c2
    simp only [List.length_nil] at r1
    rw [bjO, cpOk, c1]
    simp -implicitDefEqProofs [CL_ret r1, bjV]
  have c2' : ((js.length : Int) == 0) = false := nb (by omega)
  have hne : js ≠ [] := fun e => c2 (by rw [e]; rfl)
  rw [bjO, cpOk, c1, decide_eq_false c2]
  obtain ⟨hn, hg⟩ := jOk_of c1
  simp -implicitDefEqProofs [CL_ret r1, c2, c2']
  refine CL_post (criticalPart_run Js hg hn hne) fun w h1 ⟨hp1, S1⟩ => ?_
  have hpl := part_len hg hn hne
  have hfl := @fir_le js
  have hin : inN js.length (partL js) := fun x hx => (grL_facts hg hn).1.inn x (List.mem_of_mem_drop (List.mem_of_mem_take hx))
  unfold blkO
  have J1 := Js.pre hp1
  generalize partL js = p at *
  obtain ⟨wa, wc, rfl⟩ : ∃ a c, w = .slice a p.length c := S1.shapeT
  have hp : 0 < p.length := by omega
  have hpn : p.length ≤ 2 ^ 30 := by have := las_lt hg hn hne; omega
  have w1 : IntKind.i64.wrap ((p.length : Int) - 1) = ((p.length - 1 : Nat) : Int) := by rw [wrap_ok] <;> omega
  have lp := load_I S1 (gE_get (show p.length - 1 < p.length by omega))
  have il := hin _ (List.mem_of_getElem? (gE_get (show p.length - 1 < p.length by omega)))
  have jl := load_JX J1 il
  generalize gE p (p.length - 1) = l at *
  simp -implicitDefEqProofs [-indexAddrP_some, w1, lp]
  refine R_loopO (fun m s h' => ∃ (q : Int), q + 1 = m ∧ m ≤ p.length ∧ s = [(0, .slice oj js.length cj), (4, .slice wa p.length wc), (5, .int .i64 l), (6, .int .i64 q)] ∧ blkI js p (jA js l).d p.length = blkI js p (jA js l).d m ∧ h' = h1) (fun I hI m s h' => ?_) (n := p.length) ⟨((p.length - 1 : Nat) : Int), by omega, Nat.le_refl _, by simp, rfl, rfl⟩
  rintro ⟨q, hq, hm, rfl, hb, rfl⟩
  by_cases c : 0 ≤ q
  · obtain ⟨i, rfl⟩ : ∃ i : Nat, q = i := ⟨q.toNat, by omega⟩
    obtain rfl : m = i + 1 := by omega
    rw [blk_at] at hb
    have li := load_I S1 (gE_get (show i < p.length by omega))
    have ji := load_JX J1 (hin _ (List.mem_of_getElem? (gE_get (show i < p.length by omega))))
    by_cases c3 : (jA js l).d < (jA js (gE p i)).d
    · rw [if_pos c3] at hb
      simp -implicitDefEqProofs [-indexAddrP_some, c, li, ji, jl, c3, hb, bjV]
      exact gcP hp1 rfl
    · rw [if_neg c3] at hb
      have wi : IntKind.i64.wrap ((i : Int) - 1) = (i : Int) - 1 := by rw [wrap_ok] <;> omega
      simp -implicitDefEqProofs [-indexAddrP_some, c, li, ji, jl, c3, wi]
      exact ⟨i, by omega, on hI ⟨(i : Int) - 1, by omega, by omega, by simp, hb, rfl⟩⟩
  · obtain rfl : m = 0 := by omega
    have hb : blkI js p (jA js l).d p.length = none := hb
    simp -implicitDefEqProofs [c, hb, bjV]
    exact gcP hp1 rfl
theorem specBlockingJob_run (J : Jobs h vj js) (hl : js.length ≤ 2 ^ 40) : Ret P G n_spec_BlockingJob [vj] h (bjV (bjO js)) h := by
  refine enter_run e_spec_BlockingJob (by simp) ?_
  have Js := J
  obtain ⟨oj, cj, rfl⟩ := J.shapeT
  have r1 := good_run Js hl
  cases c1 : jOk js
  · rw [c1] at r1
    rw [bjO, cpOk, c1]
    simp -implicitDefEqProofs [CL_ret r1, bjV]
  rw [c1] at r1
  by_cases c2 : js.length = 0
  · obtain rfl : js = [] := List.eq_nil_of_length_eq_zero c2
    simp only [List.length_nil] at r1
    rw [bjO, cpOk, c1]
    simp -implicitDefEqProofs [CL_ret r1, bjV]
  have c2' : ((js.length : Int) == 0) = false := nb (by omega)
  have hne : js ≠ [] := fun e => c2 (by rw [e]; rfl)
  rw [bjO, cpOk, c1, decide_eq_false c2]
  obtain ⟨hn, hg⟩ := jOk_of c1
  simp -implicitDefEqProofs [CL_ret r1, c2, c2']
  refine CL_post (l5Part_run Js hg hn hne) fun w h1 ⟨hp1, S1⟩ => ?_
  have hpl := part_len hg hn hne
  have hfl := @fir_le js
  have hin : inN js.length (partL js) := fun x hx => (grL_facts hg hn).1.inn x (List.mem_of_mem_drop (List.mem_of_mem_take hx))
  unfold blkO
  have J1 := Js.pre hp1
  generalize partL js = p at *
  obtain ⟨wa, wc, rfl⟩ : ∃ a c, w = .slice a p.length c := S1.shapeT
  have hp : 0 < p.length := by omega
  have hpn : p.length ≤ 2 ^ 30 := by have := las_lt hg hn hne; omega
  have w1 : IntKind.i64.wrap ((p.length : Int) - 1) = ((p.length - 1 : Nat) : Int) := by rw [wrap_ok] <;> omega
  have lp := load_I S1 (gE_get (show p.length - 1 < p.length by omega))
  have il := hin _ (List.mem_of_getElem? (gE_get (show p.length - 1 < p.length by omega)))
  have jl := load_JX J1 il
  generalize gE p (p.length - 1) = l at *
  simp -implicitDefEqProofs [-indexAddrP_some, w1, lp]
  refine R_loopO (fun m s h' => ∃ (q : Int), q + 1 = m ∧ m ≤ p.length ∧ s = [(0, .slice oj js.length cj), (4, .slice wa p.length wc), (5, .int .i64 l), (6, .int .i64 q)] ∧ blkI js p (jA js l).d p.length = blkI js p (jA js l).d m ∧ h' = h1) (fun I hI m s h' => ?_) (n := p.length) ⟨((p.length - 1 : Nat) : Int), by omega, Nat.le_refl _, by simp, rfl, rfl⟩
  rintro ⟨q, hq, hm, rfl, hb, rfl⟩
  by_cases c : 0 ≤ q
  · obtain ⟨i, rfl⟩ : ∃ i : Nat, q = i := ⟨q.toNat, by omega⟩
    obtain rfl : m = i + 1 := by omega
    rw [blk_at] at hb
    have li := load_I S1 (gE_get (show i < p.length by omega))
    have ji := load_JX J1 (hin _ (List.mem_of_getElem? (gE_get (show i < p.length by omega))))
    by_cases c3 : (jA js l).d < (jA js (gE p i)).d
    · rw [if_pos c3] at hb
      simp -implicitDefEqProofs [-indexAddrP_some, c, li, ji, jl, c3, hb, bjV]
      exact gcP hp1 rfl
    · rw [if_neg c3] at hb
      have wi : IntKind.i64.wrap ((i : Int) - 1) = (i : Int) - 1 := by rw [wrap_ok] <;> omega
      simp -implicitDefEqProofs [-indexAddrP_some, c, li, ji, jl, c3, wi]
      exact ⟨i, by omega, on hI ⟨(i : Int) - 1, by omega, by omega, by simp, hb, rfl⟩⟩
  · obtain rfl : m = 0 := by omega
    have hb : blkI js p (jA js l).d p.length = none := hb
    simp -implicitDefEqProofs [c, hb, bjV]
    exact gcP hp1 rfl
end
end Go.Pm.PP

/- Typed rules for slices: printed by a program of this work (wrap.py). -/
set_option linter.unusedVariables false
set_option linter.unusedSimpArgs false
set_option maxRecDepth 4000
namespace Go.Pm.PP
open Go.Pm Go.Proofs
theorem load_S {h : Hp} {v : Value} {xs : List (Sp)} {i : Nat} {x : Sp} (hv : Sees h v 3 (xs.map encS)) (hx : xs[i]? = some x) :
    indexAddrP P h t_S_impl_Span v (.int .i64 i) = some (.pointer (some (addP (base v) (i * 3)))) ∧ loadP P h t_impl_Span (.pointer (some (addP (base v) (i * 3)))) = some (.agg #[.int .i64 x.j, .int .i64 x.a, .int .i64 x.b]) ∧
    loadP P h t_int (.pointer (some (addP (addP (base v) (i * 3)) 0))) = some (.int .i64 x.j) ∧
    loadP P h t_int (.pointer (some (addP (addP (base v) (i * 3)) 1))) = some (.int .i64 x.a) ∧
    loadP P h t_int (.pointer (some (addP (addP (base v) (i * 3)) 2))) = some (.int .i64 x.b) := by
  have hi := (List.getElem?_eq_some_iff.1 hx).1
  have h1 := hv.indexT (P := P) u_S_impl_Span i_impl_Span (k := .i64) (j := i) (by omega) (by omega)
  rw [Int.toNat_natCast] at h1
  have fld : ∀ k, k < 3 → loadP P h t_int (.pointer (some (addP (addP (base v) (i * 3)) k))) = (encS x)[k]? := by
    intro k hk
    have := hv.cellT (P := P) a_int i_int hx hk
    rw [← this]
    simp only [addP, Nat.add_assoc]
  exact ⟨h1, hv.aggT a_impl_Span i_impl_Span hx, fld 0 (by omega), fld 1 (by omega), fld 2 (by omega)⟩
theorem push_S0 {h0 h : Hp} {L : List Asn} (H : Holds h0 h L) (i : Nat) {v : Value} {xs : List (Sp)} (hi : L[i]? = some (.own v 3 (xs.map encS))) (x : Sp) (hn : xs.length ≤ 2 ^ 40) :
    ∃ v' h', appendP P (h ++ [some ⟨[.int .i64 x.j, .int .i64 x.a, .int .i64 x.b], 3, false⟩]) t_S_impl_Span v (.slice (some ⟨h.length, 0, some 3⟩) 1 1) = some (v', h') ∧ Holds h0 h' (L.set i (.own v' 3 ((xs ++ [x]).map encS))) ∧ Keeps (rowV v) h h' ∧ (rowV v = none → newOk (h ++ [some ⟨[.int .i64 x.j, .int .i64 x.a, .int .i64 x.b], 3, false⟩]) h') := by
  obtain ⟨v', h', g1, g2, g3, g4⟩ := (H.ext (List.prefix_append h [])).push (P := P) i (y := encS x) (n := 3) hi u_S_impl_Span e_t_impl_Span z_t_impl_Span s_t_impl_Span (by omega) (by rw [b_t_impl_Span]; omega) rfl rfl (by simp [encS]) (by rw [b_t_impl_Span]; simp; omega)
  rw [show xs.map encS ++ [encS x] = (xs ++ [x]).map encS by simp] at g2
  exact ⟨v', h', by simpa [encS] using g1, g2, Keeps.app.trans g3, by simpa [encS] using g4⟩
theorem fput_S2 {h0 h : Hp} {L : List Asn} (H : Holds h0 h L) (i : Nat) {v : Value} {xs : List (Sp)} (hi : L[i]? = some (.own v 3 (xs.map encS))) {j : Nat} {y : Sp} (hy : xs[j]? = some y) (z : Int) :
    ∃ h', storeP P h t_int (.int .i64 z) (.pointer (some (addP (addP (base v) (j * 3)) 2))) = some h' ∧ Holds h0 h' (L.set i (.own v 3 ((xs.set j ({ y with b := z })).map encS))) ∧ Keeps (rowV v) h h' := by
  have := H.store (P := P) i hi (t := t_int) (w := .int .i64 z) (j := j) (e := encS y) (l := [.int .i64 y.j, .int .i64 y.a]) (m := [.int .i64 y.b]) (c := []) e_t_int (by simp [hy]) rfl (by simp) (by simp) (by simp)
  simpa [List.map_set, encS, addP, Nat.add_assoc] using this
end Go.Pm.PP

/- The choice by time and the bound of a prefix, by the program. -/
set_option linter.unusedVariables false
set_option linter.unusedSimpArgs false
set_option maxRecDepth 4000
set_option maxHeartbeats 16000000
namespace Go.Pm.PP
open Go.Pm Go.Proofs Go.Pm.PE
theorem sumL_take {l : List Int} {i : Nat} {x : Int} (h : l[i]? = some x) : sumL (l.take (i + 1)) = sumL (l.take i) + x := by
  rw [take_succ' h, sumL_append]; simp [sumL]
theorem sumL_tk {l : List Int} {i : Nat} (h : ∀ x, x ∈ l → 0 ≤ x ∧ x ≤ 50) : 0 ≤ sumL (l.take i) ∧ sumL (l.take i) ≤ 50 * l.length := by
  have := sumL_nn (l := l.take i) fun x hx => h x (List.mem_of_mem_take hx)
  have h2 : (l.take i).length ≤ l.length := by rw [List.length_take]; omega
  omega
section
variable {h : Hp} {vj vr : Value} {js : List Job} {B : List Int} {o : Int}
theorem choose_run (hj : Jobs h vj js) (hr : Ints h vr B) (hg : goodL js = true) (hn : js.length ≤ 8) (hB : B.length ≤ 8) (hin : inN js.length B) (ho : o = 2 ∨ o = 4) :
    RunsC P G n_impl_choose [vj, vr, .int .i64 o] h fun v h' => ∃ u w, v = .tuple #[u, w] ∧ h <+: h' ∧ Ints h' w (bdE o js B) ∧ Sees h' u 3 ((spanL o js (nwGo js B 0) (restL js B)).map encS) := by
  refine hideC fun K hK => enter_run e_impl_choose (by simp) ?_
  have hjs := hj
  have hrs := hr
  obtain ⟨oj, cj, rfl⟩ := hj.shapeT
  obtain ⟨oa, c, rfl⟩ := hr.shapeT
  obtain ⟨vx, h1, mk1, H1, hp1, ox, rfl⟩ := make_I (Holds.start (h := h)) (n := js.length) (by omega)
  obtain ⟨vz, h2, mk2, H2, hp2, oz, rfl⟩ := make_I H1 (n := js.length) (by omega)
  have bC := bd_ch hg hn hin
  have bN := @nwGo_bd js hg B 0 0 hin (by omega) (by omega)
  have eE : bdE o js B = apS (endsL js B) (picks o js FU (nwGo js B 0) (restL js B)) := rfl
  generalize bdE o js B = X at eE hK
  have eY : spanL o js (nwGo js B 0) (restL js B) = (picks o js FU (nwGo js B 0) (restL js B)).foldl mgS [] := rfl
  generalize spanL o js (nwGo js B 0) (restL js B) = Y at eY hK
  have hF : FU = 1000 := rfl
  have bR := restL_bd (B := B) hg
  have lR : (restL js B).length = js.length := restL_len
  simp -implicitDefEqProofs [mk1, mk2]
  refine R_loopO (fun m s h' => ∃ (i : Nat) (R : List Int), i + m = js.length ∧ s = [(0, .slice oj js.length cj), (1, .slice oa B.length c), (2, .int .i64 o), (8, .slice ox js.length js.length), (9, .slice oz js.length js.length), (10, .int .i64 (sumL ((restL js B).take i))), (11, .int .i64 0), (27, .slice oj js.length cj), (28, .int .i64 js.length), (29, .int .i64 i)] ∧
    R.length = js.length ∧ (∀ k, k < js.length → gE R k = if k < i then gE (restL js B) k else 0) ∧ Holds h h' [.own (.slice ox js.length js.length) 1 (R.map encI), .own (.slice oz js.length js.length) 1 ((List.replicate js.length (0 : Int)).map encI)]) (fun I hI m s h' => ?_) (n := js.length)
    ⟨0, List.replicate js.length 0, Nat.zero_add _, by simp [sumL], by simp, fun k hk => by rw [if_neg (by omega)]; simp [gE, hk], H2⟩
  rintro ⟨i, R, hi, rfl, hR, hRk, H⟩
  by_cases hlt : i < js.length
  · obtain ⟨y, hy, _⟩ := drop_at hlt
    have ey : jA js i = y := by unfold jA; rw [Int.toNat_natCast, hy]; rfl
    have jb := job_of (job_at hg hy)
    have ly := load_J (hjs.pre H.pre) hy
    have hlt' : (i : Int) < js.length := by omega
    have rx := restL_at (B := B) hlt
    have bs := sumL_tk (i := i) bR
    rw [lR] at bs
    have HB := H.ext (List.prefix_append h' [some (⟨[.int .i64 y.t, .int .i64 y.w, .int .i64 y.r, .int .i64 y.d], 0, false⟩ : Row)])
    have rh := has_run (x := (i : Int)) (hrs.pre HB.pre) (by omega)
    cases c1 : hasL (i : Int) B
    · rw [if_neg (by rw [show inP B i = false from c1]; simp), ey] at rx
      have ix := (load_I (HB.sees 0 rfl) (gE_get (l := R) (i := i) (by omega))).1
      obtain ⟨h3, s3, H3, _⟩ := put_I HB 0 rfl (j := i) (by omega) y.t
      have bx : loadP P h3 t_int (.pointer (some ⟨h'.length, 0, some 4⟩)) = some (.int .i64 y.t) := by
        have HBx := (H.alloc [.int .i64 y.t, .int .i64 y.w, .int .i64 y.r, .int .i64 y.d])
        obtain ⟨h3', s3', H3', _⟩ := put_I HBx 0 rfl (j := i) (by omega) y.t
        rw [s3] at s3'; cases s3'
        exact H3'.bl (P := P) 2 4 rfl rfl t_int 0
      have ws : IntKind.i64.wrap (sumL ((restL js B).take i) + y.t) = sumL ((restL js B).take (i + 1)) := by rw [sumL_take rx, wrap_ok] <;> omega
      simp -implicitDefEqProofs [-indexAddrP_some, hlt, hlt', ly, CL_ret rh, c1, ix, s3, bx, ws, winc hlt (show js.length ≤ 2 ^ 40 by omega)]
      refine ⟨m - 1, by omega, on hI ⟨i + 1, R.set i y.t, by omega, rfl, by rw [List.length_set]; exact hR, fun k hk => ?_, H3⟩⟩
      rw [gE_set (by omega)]
      by_cases g : k = i
      · subst g
        rw [if_pos rfl, if_pos (by omega)]
        unfold gE; rw [rx]; rfl
      · rw [if_neg g, hRk k hk]
        by_cases g2 : k < i
        · rw [if_pos g2, if_pos (by omega)]
        · rw [if_neg g2, if_neg (by omega)]
    · rw [if_pos (show inP B i = true from c1)] at rx
      have ws : sumL ((restL js B).take i) = sumL ((restL js B).take (i + 1)) := by rw [sumL_take rx, Int.add_zero]
      simp -implicitDefEqProofs [-indexAddrP_some, hlt, hlt', ly, CL_ret rh, c1, winc hlt (show js.length ≤ 2 ^ 40 by omega)]
      refine ⟨m - 1, by omega, on hI ⟨i + 1, R, by omega, by rw [ws]; rfl, hR, fun k hk => ?_, HB⟩⟩
      rw [hRk k hk]
      by_cases g : k = i
      · subst g
        rw [if_neg (by omega), if_pos (by omega)]
        unfold gE; rw [rx]; rfl
      · by_cases g2 : k < i
        · rw [if_pos g2, if_pos (by omega)]
        · rw [if_neg g2, if_neg (by omega)]
  have hlt' : ¬ (i : Int) < js.length := by omega
  have hRX : R = restL js B := by
    apply List.ext_getElem?
    intro k
    rcases Nat.lt_or_ge k js.length with g | g
    · have := hRk k g
      rw [if_pos (by omega)] at this
      rw [gE_get (by omega), gE_get (by rw [lR]; omega), this]
    · rw [List.getElem?_eq_none (by omega), List.getElem?_eq_none (by rw [lR]; omega)]
  subst hRX
  rw [List.take_of_length_le (by omega)]
  simp -implicitDefEqProofs [hlt, hlt']
  refine R_loopO (fun m s h' => ∃ (i : Nat) (now : Int) (E : List Int), i + m = B.length ∧ s = [(0, .slice oj js.length cj), (2, .int .i64 o), (8, .slice ox js.length js.length), (9, .slice oz js.length js.length), (10, .int .i64 (sumL (restL js B))), (11, .int .i64 now), (48, .slice oa B.length c), (49, .int .i64 B.length), (50, .int .i64 i)] ∧
    Holds h h' [.own (.slice ox js.length js.length) 1 ((restL js B).map encI), .own (.slice oz js.length js.length) 1 (E.map encI)] ∧ endsL js B = endGo js (B.drop i) now E ∧ nwGo js B 0 = nwGo js (B.drop i) now ∧ E.length = js.length ∧ 0 ≤ now ∧ now ≤ 550 * i) (fun I2 hI2 m2 s h' => ?_) (n := B.length) ⟨0, 0, List.replicate js.length 0, Nat.zero_add _, by simp, H, rfl, rfl, by simp, by omega, by omega⟩
  rintro ⟨i2, nw, E, hi2, rfl, H2, hx, hw, hE, n0, n1⟩
  by_cases hlt2 : i2 < B.length
  · have hlt2' : (i2 : Int) < B.length := by omega
    obtain ⟨x, hxx, hd⟩ := drop_at hlt2
    rw [hd, endGo] at hx
    rw [hd, nwGo] at hw
    obtain ⟨k, hk, hkl, hky⟩ := jA_get rfl (hin x (List.mem_of_getElem? hxx))
    have jb := job_of (job_at hg hky)
    generalize hJ : jA js x = y at hx hw hky jb
    subst hk
    rw [Int.toNat_natCast] at hx
    have lx := load_I (hrs.pre H2.pre) hxx
    have ly := load_J (hjs.pre H2.pre) hky
    obtain ⟨M, hM⟩ : ∃ M, M = max nw y.r := ⟨_, rfl⟩
    rw [← hM] at hx hw
    have wM : IntKind.i64.wrap (max nw y.r + y.t) = M + y.t := by rw [← hM, wrap_ok] <;> omega
    have ix := (load_I (H2.sees 1 rfl) (gE_get (l := E) (i := k) (by omega))).1
    obtain ⟨h3, s3, H3, _⟩ := put_I H2 1 rfl (j := k) (by omega) (M + y.t)
    simp -implicitDefEqProofs [-indexAddrP_some, hlt2, hlt2', lx, ly, foldI, mx_if, wM, ix, s3, winc hlt2 (by omega)]
    exact ⟨m2 - 1, by omega, on hI2 ⟨i2 + 1, M + y.t, E.set k (M + y.t), by omega, rfl, H3, hx, hw, by rw [List.length_set]; exact hE, by omega, by omega⟩⟩
  have hlt2' : ¬ (i2 : Int) < B.length := by omega
  rw [List.drop_eq_nil_of_le (by omega)] at hx hw
  rw [endGo] at hx
  rw [nwGo] at hw
  rw [hx, hw] at eE
  rw [hw] at eY
  rw [hw] at bC bN
  simp -implicitDefEqProofs [hlt2, hlt2']
  have H3 := own_nil H2 Sp encS 3
  refine R_loopO (fun m s h' => ∃ (now' : Int) (rs' E' : List Int) (S : List Sp) (u : Value), s = [(0, .slice oj js.length cj), (2, .int .i64 o), (8, .slice ox js.length js.length), (9, .slice oz js.length js.length), (10, .int .i64 (sumL rs')), (11, .int .i64 now'), (16, u)] ∧ Ch js rs' now' m ∧ 0 ≤ now' ∧ now' + m ≤ 2 ^ 31 ∧ S.length + m ≤ FU ∧ E'.length = js.length ∧
    X = apS E' (picks o js m now' rs') ∧ Y = (picks o js m now' rs').foldl mgS S ∧ Holds h h' [.own (.slice ox js.length js.length) 1 (rs'.map encI), .own (.slice oz js.length js.length) 1 (E'.map encI), .own u 3 (S.map encS)]) (fun I3 hI3 m3 s h' => ?_) (n := FU) ⟨nw, restL js B, E, [], .slice none 0 0, by simp, bC, n0, by omega, by simp, hE, eE, eY, H3⟩
  rintro ⟨now', rs', E', S, u, rfl, C', n0', n1', hSl, hE', hX, hY, H'⟩
  have hl' := C'.l
  by_cases hs : 0 < sumL rs'
  · have wn : IntKind.i64.wrap (now' + 1) = now' + 1 := by rw [wrap_ok] <;> omega
    simp -implicitDefEqProofs [hs]
    refine R_loopO (fun m s h'' => ∃ (i : Nat) (b : Int), i + m = js.length ∧ s = [(0, .slice oj js.length cj), (2, .int .i64 o), (8, .slice ox js.length js.length), (9, .slice oz js.length js.length), (10, .int .i64 (sumL rs')), (11, .int .i64 now'), (16, u), (17, .int .i64 b), (76, .slice oj js.length cj), (77, .int .i64 js.length), (78, .int .i64 i)] ∧ h' <+: h'' ∧ (b = -1 ∨ pkOk js rs' b) ∧ pickL o js rs' now' = (List.range' i m).foldl (pickF o js rs' now') b) (fun I4 hI4 m4 s h'' => ?_) (n := js.length) ⟨0, -1, Nat.zero_add _, by simp, List.prefix_rfl, .inl rfl, rfl⟩
    rintro ⟨i4, b, hi4, rfl, hp4, hb, hx4⟩
    by_cases hlt4 : i4 < js.length
    · have hlt4' : (i4 : Int) < js.length := by omega
      obtain ⟨m', rfl⟩ : ∃ m', m4 = m' + 1 := ⟨m4 - 1, by omega⟩
      rw [List.range'_succ, List.foldl_cons] at hx4
      obtain ⟨y, hy, _⟩ := drop_at hlt4
      have ey : jA js i4 = y := by unfold jA; rw [Int.toNat_natCast, hy]; rfl
      have hp5 := hp4.trans (List.prefix_append h'' [some (⟨[.int .i64 y.t, .int .i64 y.w, .int .i64 y.r, .int .i64 y.d], 0, false⟩ : Row)])
      have ly := load_J (hjs.pre (H'.pre.trans hp4)) hy
      have lr := load_I ((H'.sees 0 rfl).pre hp5) (gE_get (l := rs') (i := i4) (by omega))
      have wi := winc hlt4 (show js.length ≤ 2 ^ 40 by omega)
      by_cases c1 : gE rs' i4 = 0
      · have e : pickF o js rs' now' b i4 = b := by unfold pickF; rw [if_pos (.inl c1)]
        rw [e] at hx4
        rw [c1] at lr
        simp -implicitDefEqProofs [-indexAddrP_some, hlt4, hlt4', ly, lr, wi]
        exact ⟨m', by omega, on hI4 ⟨i4 + 1, b, by omega, rfl, hp5, hb, hx4⟩⟩
      · by_cases c2 : now' < y.r
        · have e : pickF o js rs' now' b i4 = b := by unfold pickF; rw [ey, if_pos (.inr c2)]
          rw [e] at hx4
          simp -implicitDefEqProofs [-indexAddrP_some, hlt4, hlt4', ly, lr, nb c1, c2, wi]
          exact ⟨m', by omega, on hI4 ⟨i4 + 1, b, by omega, rfl, hp5, hb, hx4⟩⟩
        · have okI : pkOk js rs' (i4 : Int) := ⟨by omega, by omega, c1⟩
          rcases hb with rfl | hb
          · have e : pickF o js rs' now' (-1) i4 = i4 := by unfold pickF; rw [ey, if_neg (by omega), if_pos (.inl (by omega))]
            rw [e] at hx4
            simp -implicitDefEqProofs [-indexAddrP_some, hlt4, hlt4', ly, lr, nb c1, c2, wi]
            exact ⟨m', by omega, on hI4 ⟨i4 + 1, i4, by omega, rfl, hp5, .inr okI, hx4⟩⟩
          · obtain ⟨k, rfl⟩ : ∃ k : Nat, b = k := ⟨b.toNat, by have := hb.1; omega⟩
            have hkl : k < js.length := by have := hb.2.1; omega
            obtain ⟨z, hz, _⟩ := drop_at hkl
            have ez : jA js k = z := by unfold jA; rw [Int.toNat_natCast, hz]; rfl
            have lz := load_J (hjs.pre (H'.pre.trans hp5)) hz
            have lk := load_I ((H'.sees 0 rfl).pre hp5) (gE_get (l := rs') (i := k) (by omega))
            have hk0 : ¬ (k : Int) < 0 := by omega
            rcases ho with rfl | rfl
            · by_cases c3 : gE rs' i4 < gE rs' k
              · have e : pickF 2 js rs' now' k i4 = i4 := by unfold pickF; rw [ey, if_neg (by omega), if_pos (.inr (by simp [betB, c3]))]
                rw [e] at hx4
                simp -implicitDefEqProofs [-indexAddrP_some, hlt4, hlt4', ly, lr, nb c1, c2, wi, hk0, lk, c3]
                exact ⟨m', by omega, on hI4 ⟨i4 + 1, i4, by omega, rfl, hp5, .inr okI, hx4⟩⟩
              · have e : pickF 2 js rs' now' k i4 = k := by unfold pickF; rw [ey, if_neg (by omega), if_neg (by simp [betB, c3, hk0])]
                rw [e] at hx4
                simp -implicitDefEqProofs [-indexAddrP_some, hlt4, hlt4', ly, lr, nb c1, c2, wi, hk0, lk, c3]
                exact ⟨m', by omega, on hI4 ⟨i4 + 1, k, by omega, rfl, hp5, .inr hb, hx4⟩⟩
            · by_cases c3 : y.d < z.d
              · have e : pickF 4 js rs' now' k i4 = i4 := by unfold pickF; rw [ey, if_neg (by omega), if_pos (.inr (by simp [betB, ey, ez, c3]))]
                rw [e] at hx4
                simp -implicitDefEqProofs [-indexAddrP_some, hlt4, hlt4', ly, lr, nb c1, c2, wi, hk0, lz, c3]
                exact ⟨m', by omega, on hI4 ⟨i4 + 1, i4, by omega, rfl, hp5, .inr okI, hx4⟩⟩
              · have e : pickF 4 js rs' now' k i4 = k := by unfold pickF; rw [ey, if_neg (by omega), if_neg (by simp [betB, ey, ez, c3, hk0])]
                rw [e] at hx4
                simp -implicitDefEqProofs [-indexAddrP_some, hlt4, hlt4', ly, lr, nb c1, c2, wi, hk0, lz, c3]
                exact ⟨m', by omega, on hI4 ⟨i4 + 1, k, by omega, rfl, hp5, .inr hb, hx4⟩⟩
    have hlt4' : ¬ (i4 : Int) < js.length := by omega
    have hm4 : m4 = 0 := by omega
    subst hm4
    rw [List.range'_zero, List.foldl_nil] at hx4
    subst hx4
    have H4 := H'.ext hp4
    rcases pick_cases (o := o) (js := js) (rs := rs') (now := now') with ⟨hp, _⟩ | ⟨b, hp, hbl, hb0⟩
    · obtain ⟨_, C2, hm⟩ := C'.skip hg hs (o := o) (by omega)
      obtain ⟨m', rfl⟩ : ∃ m', m3 = m' + 1 := ⟨m3 - 1, by omega⟩
      rw [picks, if_neg (by omega), hp, if_pos (by omega)] at hX hY
      simp -implicitDefEqProofs [hlt4, hlt4', hp, wn]
      exact ⟨m', by omega, on hI3 ⟨now' + 1, rs', E', S, u, by simp, C2, by omega, by omega, by omega, hE', hX, hY, H4⟩⟩
    · obtain ⟨C2, hm, hsum⟩ := C'.take hs hbl hb0
      obtain ⟨m', rfl⟩ : ∃ m', m3 = m' + 1 := ⟨m3 - 1, by omega⟩
      rw [picks, if_neg (by omega), hp, if_neg (by omega), apS_cons, Int.toNat_natCast] at hX
      rw [picks, if_neg (by omega), hp, if_neg (by omega), List.foldl_cons, Int.toNat_natCast] at hY
      have bs := sumL_nn C'.b
      have bx := C'.b _ (gE_mem (l := rs') (i := b) (by omega))
      have wl : IntKind.i64.wrap (sumL rs' - 1) = sumL (rs'.set b (gE rs' b - 1)) := by rw [hsum, wrap_ok] <;> omega
      have wr : IntKind.i64.wrap (gE rs' b - 1) = gE rs' b - 1 := by rw [wrap_ok] <;> omega
      have hb1 : ¬ (b : Int) < 0 := by omega
      have put2 : ∀ {h2 : Hp} {u' : Value} {S' : List Sp}, S'.length + m' ≤ FU → mgS S (b, now') = S' → Holds h h2 [.own (.slice ox js.length js.length) 1 (rs'.map encI), .own (.slice oz js.length js.length) 1 (E'.map encI), .own u' 3 (S'.map encS)] →
          ∃ h3 h4, (indexAddrP P h2 t_S_int (.slice ox js.length js.length) (.int .i64 b) = some (.pointer (some (addP (base (.slice ox js.length js.length)) b))) ∧ loadP P h2 t_int (.pointer (some (addP (base (.slice ox js.length js.length)) b))) = some (.int .i64 (gE rs' b)) ∧
            storeP P h2 t_int (.int .i64 (gE rs' b - 1)) (.pointer (some (addP (base (.slice ox js.length js.length)) b))) = some h3) ∧
            (indexAddrP P h3 t_S_int (.slice oz js.length js.length) (.int .i64 b) = some (.pointer (some (addP (base (.slice oz js.length js.length)) b))) ∧ storeP P h3 t_int (.int .i64 (now' + 1)) (.pointer (some (addP (base (.slice oz js.length js.length)) b))) = some h4) ∧
            I3 m' [(0, .slice oj js.length cj), (2, .int .i64 o), (8, .slice ox js.length js.length), (9, .slice oz js.length js.length), (10, .int .i64 (sumL (rs'.set b (gE rs' b - 1)))), (11, .int .i64 (now' + 1)), (16, u')] h4 := fun {h2 u' S'} hS' hm HH => by
        have lr := load_I (HH.sees 0 rfl) (gE_get (l := rs') (i := b) (by omega))
        obtain ⟨h3, s3, H3, _⟩ := put_I HH 0 rfl (j := b) (by omega) (gE rs' b - 1)
        have ix := (load_I (H3.sees 1 rfl) (gE_get (l := E') (i := b) (by omega))).1
        obtain ⟨h4, s4, H4, _⟩ := put_I H3 1 rfl (j := b) (by omega) (now' + 1)
        exact ⟨h3, h4, ⟨lr.1, lr.2, s3⟩, ⟨ix, s4⟩, on hI3 ⟨now' + 1, _, E'.set b (now' + 1), S', u', rfl, C2, by omega, by omega, hS', by rw [List.length_set]; exact hE', hX, by rw [← hm]; exact hY, H4⟩⟩
      have new : mgS S (b, now') = S ++ [⟨b, now', now' + 1⟩] → ∃ u' h2 h3 h4, appendP P (h'' ++ [some ⟨[.int .i64 b, .int .i64 now', .int .i64 (now' + 1)], 3, false⟩]) t_S_impl_Span u (.slice (some ⟨h''.length, 0, some 3⟩) 1 1) = some (u', h2) ∧
          (indexAddrP P h2 t_S_int (.slice ox js.length js.length) (.int .i64 b) = some (.pointer (some (addP (base (.slice ox js.length js.length)) b))) ∧ loadP P h2 t_int (.pointer (some (addP (base (.slice ox js.length js.length)) b))) = some (.int .i64 (gE rs' b)) ∧
            storeP P h2 t_int (.int .i64 (gE rs' b - 1)) (.pointer (some (addP (base (.slice ox js.length js.length)) b))) = some h3) ∧
          (indexAddrP P h3 t_S_int (.slice oz js.length js.length) (.int .i64 b) = some (.pointer (some (addP (base (.slice oz js.length js.length)) b))) ∧ storeP P h3 t_int (.int .i64 (now' + 1)) (.pointer (some (addP (base (.slice oz js.length js.length)) b))) = some h4) ∧
          I3 m' [(0, .slice oj js.length cj), (2, .int .i64 o), (8, .slice ox js.length js.length), (9, .slice oz js.length js.length), (10, .int .i64 (sumL (rs'.set b (gE rs' b - 1)))), (11, .int .i64 (now' + 1)), (16, u')] h4 := fun hm => by
        obtain ⟨u', h2, ha, H2, _⟩ := push_S0 H4 2 rfl (⟨b, now', now' + 1⟩ : Sp) (by omega)
        obtain ⟨h3, h4, g1, g2, g3⟩ := put2 (by simp; omega) hm H2
        exact ⟨u', h2, h3, h4, ha, g1, g2, g3⟩
      rcases List.eq_nil_or_concat S with rfl | ⟨S1, l, rfl⟩
      · obtain ⟨ua, uc, rfl⟩ : ∃ a c, u = .slice a 0 c := (H'.sees 2 rfl).shapeT
        obtain ⟨u', h2, h3, h4, ha, ⟨i2, l2, s3⟩, ⟨i3, s4⟩, hf⟩ := new mgS_nil
        simp -implicitDefEqProofs [-indexAddrP_some, hlt4, hlt4', hp, hb1, show IntKind.i64.wrap (-1) = -1 by decide, wn, ha, i2, l2, wr, s3, wl, i3, s4]
        exact ⟨m', by omega, hf⟩
      · rw [List.concat_eq_append] at *
        obtain ⟨ua, uc, rfl⟩ : ∃ a c, u = .slice a (S1.length + 1) c := by obtain ⟨a, c, e⟩ := (H'.sees 2 rfl).shapeT; exact ⟨a, c, by rw [e]; simp⟩
        have hS1 : S1.length + 1 + (m' + 1) ≤ FU := by simpa using hSl
        have wS : IntKind.i64.wrap (S1.length : Int) = S1.length := by rw [wrap_ok] <;> omega
        have hS0 : (0 : Int) ≤ S1.length := by omega
        have lS := load_S (H4.sees 2 rfl) (i := S1.length) (x := l) (by simp)
        by_cases c1 : l.j = b
        · have c1' : (l.j == (b : Int)) = true := by simpa using c1
          by_cases c2 : l.b = now'
          · have c2' : (l.b == now') = true := by simpa using c2
            obtain ⟨h2, s2, H2, _⟩ := fput_S2 H4 2 rfl (j := S1.length) (y := l) (by simp) (now' + 1)
            have eset : (S1 ++ [l]).set S1.length { l with b := now' + 1 } = S1 ++ [{ l with b := now' + 1 }] := by rw [List.set_append_right (h := Nat.le_refl _), Nat.sub_self]; rfl
            rw [eset] at H2
            obtain ⟨h3, h4, ⟨i2, l2, s3⟩, ⟨i3, s4⟩, hf⟩ := put2 (S' := S1 ++ [({ l with b := now' + 1 } : Sp)]) (by simp; omega) (mgS_eq c1 c2) H2
            have w2 : IntKind.i64.wrap (l.b + 1) = now' + 1 := by rw [c2]; exact wn
            simp -implicitDefEqProofs [-indexAddrP_some, hlt4, hlt4', hp, hb1, wS, hS0, lS, c1', c2', wn, w2, s2, i2, l2, wr, s3, wl, i3, s4]
            exact ⟨m', by omega, hf⟩
          · obtain ⟨u', h2, h3, h4, ha, ⟨i2, l2, s3⟩, ⟨i3, s4⟩, hf⟩ := new (mgS_ne fun g => c2 g.2)
            simp -implicitDefEqProofs [-indexAddrP_some, hlt4, hlt4', hp, hb1, wS, hS0, lS, c1', nb c2, wn, ha, i2, l2, wr, s3, wl, i3, s4]
            exact ⟨m', by omega, hf⟩
        · obtain ⟨u', h2, h3, h4, ha, ⟨i2, l2, s3⟩, ⟨i3, s4⟩, hf⟩ := new (mgS_ne fun g => c1 g.1)
          simp -implicitDefEqProofs [-indexAddrP_some, hlt4, hlt4', hp, hb1, wS, hS0, lS, nb c1, wn, ha, i2, l2, wr, s3, wl, i3, s4]
          exact ⟨m', by omega, hf⟩
  · have hX2 : X = E' := by
      rw [hX]
      cases m3 with
      | zero => rfl
      | succ k => rw [picks, if_pos (by omega)]; rfl
    subst hX2
    have hY2 : Y = S := by
      rw [hY]
      cases m3 with
      | zero => rfl
      | succ k => rw [picks, if_pos (by omega)]; rfl
    subst hY2
    simp -implicitDefEqProofs [hs]
    refine onK hK ⟨_, _, rfl, pre_gcU H'.pre, Sees.gcU (H'.sees 1 rfl) fun g => ?_, Sees.gcU (H'.sees 2 rfl) fun g => plainT (r := [_]) g⟩
    have g' : (#[u, Value.slice oz js.length js.length] : Array Value).toList.all plainC = true := g
    simp only [List.all_cons, Bool.and_eq_true] at g'
    exact g'.2.1
end
end Go.Pm.PP

/- FnTimely: its draw; sets in plain terms. -/
set_option linter.unusedVariables false
set_option linter.unusedSimpArgs false
set_option maxRecDepth 4000
set_option maxHeartbeats 16000000
namespace Go.Pm.PP
open Go.Pm Go.Proofs Go.Pm.PE
/-! ### sets -/
end Go.Pm.PP

/- Split schedules by the program: which they are, their ends and values; the choice by dates; bounds of sets. -/
set_option linter.unusedVariables false
set_option linter.unusedSimpArgs false
set_option maxRecDepth 4000
set_option maxHeartbeats 16000000
namespace Go.Pm.PP
open Go.Pm Go.Proofs Go.Pm.PE
abbrev Spns (h : Hp) (v : Value) (S : List Sp) : Prop := Sees h v 3 (S.map encS)
theorem spGo_false {js : List Job} {now last : Int} {s : Sp} {S : List Sp} (h : spOk js now last s = false) : spGo js now last (s :: S) = false := by rw [spGo, h, Bool.false_and]
theorem spGo_true {js : List Job} {now last : Int} {s : Sp} {S : List Sp} (h : spOk js now last s = true) : spGo js now last (s :: S) = spGo js s.b s.j S := by rw [spGo, h, Bool.true_and]
theorem endOf_take {S : List Sp} {i : Nat} {s : Sp} (hs : S[i]? = some s) : endOf 0 (S.take (i + 1)) = s.b ∧ lastOf (-1) (S.take (i + 1)) = s.j := by
  rw [take_succ' hs, endOf_snoc, lastOf_snoc]; exact ⟨rfl, rfl⟩
theorem spOk_iff {js : List Job} {now last : Int} {s : Sp} : spOk js now last s = true ↔ (0 ≤ s.j ∧ s.j < js.length) ∧ now ≤ s.a ∧ (jA js s.j).r ≤ s.a ∧ s.a < s.b ∧ ¬ (s.j = last ∧ s.a = now) ∧ s.b ≤ 1000 := by
  unfold spOk
  simp only [Bool.and_eq_true, Bool.not_eq_true', decide_eq_true_eq, decide_eq_false_iff_not]
  constructor
  · rintro ⟨⟨⟨⟨⟨a1, a2⟩, a3⟩, a4⟩, a5⟩, a6⟩; exact ⟨a1, by omega, by omega, a4, a5, a6⟩
  · rintro ⟨a1, a2, a3, a4, a5, a6⟩; exact ⟨⟨⟨⟨⟨a1, by omega⟩, by omega⟩, a4⟩, a5⟩, a6⟩
theorem spOk_no {js : List Job} {now last : Int} {s : Sp} (h : ¬ ((0 ≤ s.j ∧ s.j < js.length) ∧ now ≤ s.a ∧ (jA js s.j).r ≤ s.a ∧ s.a < s.b ∧ ¬ (s.j = last ∧ s.a = now) ∧ s.b ≤ 1000)) : spOk js now last s = false := by
  cases g : spOk js now last s
  · rfl
  · exact absurd (spOk_iff.1 g) h
section
variable {h : Hp} {vj v u vs : Value} {js : List Job} {xs : List Int} {S : List Sp}
theorem isSplit_run (J : Jobs h vj js) (X : Spns h vs S) (hg : goodL js = true) (hn : js.length ≤ 8) (hS : S.length ≤ 2 ^ 20) : Ret P G n_impl_isSplit [vj, vs] h (.bool (splB js S)) h := by
  refine enter_run e_impl_isSplit (by simp) ?_
  have Js := J
  have Xs := X
  obtain ⟨oj, cj, rfl⟩ := J.shapeT
  obtain ⟨oa, ca, rfl⟩ := X.shapeT
  obtain ⟨vz, h1, mk, H1, hp1, oz, rfl⟩ := make_I (Holds.start (h := h)) (n := js.length) (by omega)
  simp -implicitDefEqProofs [mk]
  refine R_loopO (fun m s h' => ∃ (i : Nat) (D : List Int), i + m = S.length ∧ s = [(0, .slice oj js.length cj), (1, .slice oa S.length ca), (5, .slice oz js.length js.length), (13, .slice oa S.length ca), (14, .int .i64 S.length), (15, .int .i64 i)] ∧ Holds h h' [.own (.slice oz js.length js.length) 1 (D.map encI)] ∧
    D = doneL js (S.take i) ∧ (∀ x, x ∈ D → 0 ≤ x ∧ x ≤ 1000 * i) ∧ spGo js 0 (-1) S = spGo js (endOf 0 (S.take i)) (lastOf (-1) (S.take i)) (S.drop i) ∧ (0 < i → ∃ p : Sp, S[i - 1]? = some p ∧ endOf 0 (S.take i) = p.b ∧ lastOf (-1) (S.take i) = p.j)) (fun I hI m s h' => ?_) (n := S.length)
    ⟨0, List.replicate js.length 0, Nat.zero_add _, by simp, H1, rfl, fun x hx => by rw [List.eq_of_mem_replicate hx]; omega, by simp [endOf, lastOf], fun g => by omega⟩
  rintro ⟨i, D, hi, rfl, H, hD, hDb, he, hpv⟩
  by_cases hlt : i < S.length
  · have hlt' : (i : Int) < S.length := by omega
    obtain ⟨s, hs, hd⟩ := drop_at hlt
    have ls := load_S (Xs.pre H.pre) hs
    have HB := H.ext (List.prefix_append h' [some (⟨[.int .i64 s.j, .int .i64 s.a, .int .i64 s.b], 0, false⟩ : Row)])
    rw [hd] at he
    have nope : spOk js (endOf 0 (S.take i)) (lastOf (-1) (S.take i)) s = false → splB js S = false := fun g => by unfold splB; rw [he, spGo_false g, Bool.false_and]
    have ex := fun (g : splB js S = false) => g
    have hp9 : h <+: h' ++ [some (⟨[.int .i64 s.j, .int .i64 s.a, .int .i64 s.b], 0, false⟩ : Row)] := HB.pre
    have w8 : w64 ((js.length : Int) - 1) = (js.length : Int) - 1 := by unfold w64; rw [wrap_ok] <;> omega
    by_cases c1 : 0 ≤ s.j ∧ s.j < js.length
    case neg =>
      have b1 : inB s.j 0 (w64 ((js.length : Int) - 1)) = false := by rw [w8]; simp [inB]; omega
      have n1 := nope (spOk_no fun g => c1 g.1)
      simp -implicitDefEqProofs [-indexAddrP_some, hlt, hlt', ls, CL_ret isNumber_run, CH_at isNumber_run, b1, n1]
      try exact gcP hp9 rfl
    have b1 : inB s.j 0 (w64 ((js.length : Int) - 1)) = true := by rw [w8]; simp [inB]; omega
    have lj := load_JX (Js.pre HB.pre) c1
    by_cases c2 : s.a < (jA js s.j).r
    · have n1 := nope (spOk_no fun g => by omega)
      simp -implicitDefEqProofs [-indexAddrP_some, hlt, hlt', ls, CL_ret isNumber_run, CH_at isNumber_run, b1, lj, c2, n1]
      try exact gcP hp9 rfl
    by_cases c3 : s.b ≤ s.a
    · have n1 := nope (spOk_no fun g => by omega)
      simp -implicitDefEqProofs [-indexAddrP_some, hlt, hlt', ls, CL_ret isNumber_run, CH_at isNumber_run, b1, lj, c2, c3, n1]
      try exact gcP hp9 rfl
    by_cases c4 : 1000 < s.b
    · have n1 := nope (spOk_no fun g => by omega)
      simp -implicitDefEqProofs [-indexAddrP_some, hlt, hlt', ls, CL_ret isNumber_run, CH_at isNumber_run, b1, lj, c2, c3, c4, n1]
      try exact gcP hp9 rfl
    have jb := jA_b hg c1
    have fin : spOk js (endOf 0 (S.take i)) (lastOf (-1) (S.take i)) s = true → ∃ h2, storeP P (h' ++ [some (⟨[.int .i64 s.j, .int .i64 s.a, .int .i64 s.b], 0, false⟩ : Row)]) t_int (.int .i64 (gE D s.j.toNat + s.b - s.a)) (.pointer (some (addP (base (.slice oz js.length js.length)) s.j.toNat))) = some h2 ∧
        I (m - 1) [(0, .slice oj js.length cj), (1, .slice oa S.length ca), (5, .slice oz js.length js.length), (13, .slice oa S.length ca), (14, .int .i64 S.length), (15, .int .i64 ((i + 1 : Nat) : Int))] h2 := fun g => by
      have dl : D.length = js.length := by rw [hD, doneL_len]
      obtain ⟨h2, s2, H2, _⟩ := put_I HB 0 rfl (j := s.j.toNat) (by omega) (gE D s.j.toNat + s.b - s.a)
      obtain ⟨q1, q2⟩ := endOf_take hs
      refine ⟨h2, s2, on hI ⟨i + 1, _, by omega, rfl, H2, ?_, fun x hx => ?_, ?_, fun _ => ⟨s, by simpa using hs, q1, q2⟩⟩⟩
      · rw [take_succ' hs, doneL_snoc, ← hD]; rfl
      · have dj := hDb _ (gE_mem (show s.j.toNat < D.length by omega))
        rcases List.mem_or_eq_of_mem_set hx with q | q
        · have := hDb x q; omega
        · omega
      · rw [he, spGo_true g, q1, q2]
    have ld := load_EX (x := s.j) (HB.sees 0 rfl : Ints _ _ D) (by rw [hD, doneL_len]; exact c1)
    have dj := hDb _ (gE_mem (show s.j.toNat < D.length by rw [hD, doneL_len]; omega))
    have w1 : IntKind.i64.wrap (s.b - s.a) = s.b - s.a := by rw [wrap_ok] <;> omega
    have w2 : IntKind.i64.wrap (gE D s.j.toNat + (s.b - s.a)) = gE D s.j.toNat + s.b - s.a := by rw [wrap_ok] <;> omega
    rcases Nat.eq_zero_or_pos i with e0 | e0
    · have i0 : ¬ (0 : Int) < i := by omega
      have i1 : ¬ 0 < i := by omega
      obtain ⟨h2, s2, k2⟩ := fin (spOk_iff.2 ⟨c1, by simp [e0, endOf]; omega, by omega, by omega, by simp [e0, lastOf]; omega, by omega⟩)
      simp -implicitDefEqProofs [-indexAddrP_some, hlt, hlt', ls, CL_ret isNumber_run, CH_at isNumber_run, b1, lj, c2, c3, c4, i0, i1, ld, w1, w2, s2, winc hlt (by omega)]
      exact ⟨m - 1, by omega, by simpa using k2⟩
    · obtain ⟨p, hp, ep1, ep2⟩ := hpv e0
      rw [ep1, ep2] at nope fin
      have lp := load_S ((Xs.pre H.pre).pre (List.prefix_append h' [some (⟨[.int .i64 s.j, .int .i64 s.a, .int .i64 s.b], 0, false⟩ : Row)])) hp
      have wi : IntKind.i64.wrap ((i : Int) - 1) = ((i - 1 : Nat) : Int) := by rw [wrap_ok] <;> omega
      have i0 : (0 : Int) < i := by omega
      by_cases c5 : s.a < p.b
      · have n1 := nope (spOk_no fun g => by omega)
        simp -implicitDefEqProofs [-indexAddrP_some, hlt, hlt', ls, CL_ret isNumber_run, CH_at isNumber_run, b1, lj, c2, c3, c4, i0, e0, wi, lp, c5, n1]
        try exact gcP hp9 rfl
      · by_cases c6 : s.a = p.b
        · have c6' : (s.a == p.b) = true := by rw [beq_iff_eq]; exact c6
          by_cases c7 : s.j = p.j
          · have c7' : (s.j == p.j) = true := by rw [beq_iff_eq]; exact c7
            have n1 := nope (spOk_no fun g => g.2.2.2.2.1 ⟨c7, c6⟩)
            simp -implicitDefEqProofs [-indexAddrP_some, hlt, hlt', ls, CL_ret isNumber_run, CH_at isNumber_run, b1, lj, c2, c3, c4, i0, e0, wi, lp, c5, c6', c7', n1]
            try exact gcP hp9 rfl
          · obtain ⟨h2, s2, k2⟩ := fin (spOk_iff.2 ⟨c1, by omega, by omega, by omega, fun g => c7 g.1, by omega⟩)
            simp -implicitDefEqProofs [-indexAddrP_some, hlt, hlt', ls, CL_ret isNumber_run, CH_at isNumber_run, b1, lj, c2, c3, c4, i0, e0, wi, lp, c5, c6', nb c7, ld, w1, w2, s2, winc hlt (by omega)]
            exact ⟨m - 1, by omega, by simpa using k2⟩
        · obtain ⟨h2, s2, k2⟩ := fin (spOk_iff.2 ⟨c1, by omega, by omega, by omega, fun g => c6 g.2, by omega⟩)
          simp -implicitDefEqProofs [-indexAddrP_some, hlt, hlt', ls, CL_ret isNumber_run, CH_at isNumber_run, b1, lj, c2, c3, c4, i0, e0, wi, lp, c5, nb c6, ld, w1, w2, s2, winc hlt (by omega)]
          exact ⟨m - 1, by omega, by simpa using k2⟩
  have hlt' : ¬ (i : Int) < S.length := by omega
  rw [List.drop_eq_nil_of_le (by omega)] at he
  have he : spGo js 0 (-1) S = true := he
  rw [List.take_of_length_le (by omega)] at hD
  have dl : D.length = js.length := by rw [hD, doneL_len]
  have esp : splB js S = decide (D = js.map (·.t)) := by unfold splB; rw [he, Bool.true_and, hD]
  rw [esp]
  simp -implicitDefEqProofs [hlt, hlt']
  refine R_loopO (fun m s h2 => ∃ (k : Nat), k + m = js.length ∧ s = [(5, .slice oz js.length js.length), (97, .slice oj js.length cj), (98, .int .i64 js.length), (99, .int .i64 k)] ∧ h' <+: h2 ∧ ∀ q, q < k → gE D q = (jA js q).t) (fun I2 hI2 m2 s2 h2 => ?_) (n := js.length) ⟨0, Nat.zero_add _, by simp, List.prefix_rfl, fun q hq => by omega⟩
  rintro ⟨k, hk, rfl, hpk, hq⟩
  by_cases hlk : k < js.length
  · have hlk' : (k : Int) < js.length := by omega
    have lj := load_JX (x := (k : Int)) (Js.pre (H.pre.trans hpk)) ⟨by omega, by omega⟩
    simp only [Int.toNat_natCast] at lj
    have hpb := List.prefix_append h2 [some (⟨[.int .i64 (jA js k).t, .int .i64 (jA js k).w, .int .i64 (jA js k).r, .int .i64 (jA js k).d], 0, false⟩ : Row)]
    have ld := load_I ((H.sees 0 rfl : Ints h' _ D).pre (hpk.trans hpb)) (gE_get (show k < D.length by omega))
    by_cases c : gE D k = (jA js k).t
    · have c' : (gE D k != (jA js k).t) = false := by rw [bne_eq_false_iff_eq]; exact c
      simp -implicitDefEqProofs [-indexAddrP_some, hlk, hlk', lj, ld, c', winc hlk (by omega)]
      refine ⟨m2 - 1, by omega, on hI2 ⟨k + 1, by omega, by simp, hpk.trans hpb, fun q hqk => ?_⟩⟩
      by_cases e : q = k
      · subst e; exact c
      · exact hq q (by omega)
    · have ne : decide (D = js.map (·.t)) = false := by
        rw [decide_eq_false_iff_not]
        intro e
        apply c
        obtain ⟨y, hy, _⟩ := drop_at hlk
        have ey : jA js k = y := by unfold jA; rw [Int.toNat_natCast, hy]; rfl
        rw [e, ey]; unfold gE; rw [List.getElem?_map, hy]; rfl
      have hp8 := (H.pre.trans hpk).trans hpb
      simp -implicitDefEqProofs [-indexAddrP_some, hlk, hlk', lj, ld, nt c, ne]
      try exact gcP hp8 rfl
  · have hlk' : ¬ (k : Int) < js.length := by omega
    have yes : decide (D = js.map (·.t)) = true := by
      rw [decide_eq_true_eq]
      apply List.ext_getElem?
      intro q
      rcases Nat.lt_or_ge q js.length with g | g
      · obtain ⟨y, hy, _⟩ := drop_at g
        have ey : jA js q = y := by unfold jA; rw [Int.toNat_natCast, hy]; rfl
        rw [gE_get (by omega), hq q (by omega), ey, List.getElem?_map, hy]; rfl
      · rw [List.getElem?_eq_none (by omega), List.getElem?_eq_none (by simpa using g)]
    simp -implicitDefEqProofs [hlk, hlk', yes]
    exact gcP (H.pre.trans hpk) rfl
theorem splitEnds_run (J : Jobs h vj js) (X : Spns h vs S) (hn : js.length ≤ 8) (hS : S.length ≤ 2 ^ 20) (hin : ∀ s, s ∈ S → 0 ≤ s.j ∧ s.j < js.length) : RunsC P G n_impl_splitEnds [vj, vs] h fun v h' => h <+: h' ∧ Own h.length h' v 1 ((foldS (List.replicate js.length 0) S).map encI) := by
  refine hideC fun K hK => enter_run e_impl_splitEnds (by simp) ?_
  have Js := J
  have Xs := X
  obtain ⟨oj, cj, rfl⟩ := J.shapeT
  obtain ⟨oa, ca, rfl⟩ := X.shapeT
  obtain ⟨vz, h1, mk, H1, hp1, oz, rfl⟩ := make_I (Holds.start (h := h)) (n := js.length) (by omega)
  have fl : ∀ (T : List Sp) (E : List Int), (foldS E T).length = E.length := fun T => by
    induction T with
    | nil => intro E; rfl
    | cons s T ih => intro E; have := ih (E.set s.j.toNat s.b); rw [List.length_set] at this; exact this
  simp -implicitDefEqProofs [mk]
  refine R_loopO (fun m s h' => ∃ (i : Nat), i + m = S.length ∧ s = [(5, .slice oz js.length js.length), (11, .slice oa S.length ca), (12, .int .i64 S.length), (13, .int .i64 i)] ∧ Holds h h' [.own (.slice oz js.length js.length) 1 ((foldS (List.replicate js.length 0) (S.take i)).map encI)]) (fun I hI m s h' => ?_) (n := S.length)
    ⟨0, Nat.zero_add _, by simp, H1⟩
  rintro ⟨i, hi, rfl, H⟩
  have dl : (foldS (List.replicate js.length 0) (S.take i)).length = js.length := by rw [fl]; simp
  by_cases hlt : i < S.length
  · have hlt' : (i : Int) < S.length := by omega
    obtain ⟨s, hs, hd⟩ := drop_at hlt
    have is := hin s (List.mem_of_getElem? hs)
    have ls := load_S (Xs.pre H.pre) hs
    have HB := H.ext (List.prefix_append h' [some (⟨[.int .i64 s.j, .int .i64 s.a, .int .i64 s.b], 0, false⟩ : Row)])
    have ix := (load_EX (x := s.j) (HB.sees 0 rfl : Ints _ _ _) (by rw [dl]; exact is)).1
    obtain ⟨h2, s2, H2, _⟩ := put_I HB 0 rfl (j := s.j.toNat) (by omega) s.b
    simp -implicitDefEqProofs [-indexAddrP_some, hlt, hlt', ls, ix, s2, winc hlt (by omega)]
    exact ⟨m - 1, by omega, on hI ⟨i + 1, by omega, by simp, by rw [take_succ' hs, foldS_snoc]; exact H2⟩⟩
  · have hlt' : ¬ (i : Int) < S.length := by omega
    rw [List.take_of_length_le (by omega)] at H
    simp -implicitDefEqProofs [hlt, hlt']
    exact onK hK (H.ret 0 rfl)
def spE (js : List Job) (S : List Sp) : List Int := foldS (List.replicate js.length 0) S
def svOk (js : List Job) (S : List Sp) (o : Int) : Bool := (jOk js && splB js S) && inB o 1 8
def svV (js : List Job) (S : List Sp) (o : Int) : Int := if svOk js S o = true then valE o js (spE js S) else 0
theorem spGo_all {js : List Job} : ∀ {S : List Sp} {now last : Int}, spGo js now last S = true → ∀ s, s ∈ S → (0 ≤ s.j ∧ s.j < js.length) ∧ (jA js s.j).r ≤ s.a ∧ s.a < s.b ∧ s.b ≤ 1000
  | [], _, _, _, s, hs => by cases hs
  | x :: S, now, last, h, s, hs => by
    rw [spGo, Bool.and_eq_true] at h
    rcases List.mem_cons.1 hs with rfl | hs
    · have := spOk_iff.1 h.1
      exact ⟨this.1, this.2.2.1, this.2.2.2.1, this.2.2.2.2.2⟩
    · exact spGo_all h.2 s hs
theorem spl_all {js : List Job} {S : List Sp} (h : splB js S = true) : ∀ s, s ∈ S → (0 ≤ s.j ∧ s.j < js.length) ∧ (jA js s.j).r ≤ s.a ∧ s.a < s.b ∧ s.b ≤ 1000 := by
  unfold splB at h
  rw [Bool.and_eq_true] at h
  exact spGo_all h.1
theorem spE_bd {js : List Job} {S : List Sp} (hg : goodL js = true) (h : splB js S = true) : ∀ e, e ∈ spE js S → 0 ≤ e ∧ e ≤ 2 ^ 20 := by
  have go : ∀ (T : List Sp) (E : List Int), (∀ s, s ∈ T → 0 ≤ s.b ∧ s.b ≤ 1000) → (∀ e, e ∈ E → 0 ≤ e ∧ e ≤ 2 ^ 20) → ∀ e, e ∈ foldS E T → 0 ≤ e ∧ e ≤ 2 ^ 20 := fun T => by
    induction T with
    | nil => intro E _ hE e he; exact hE e he
    | cons s T ih =>
      intro E hT hE e he
      refine ih (E.set s.j.toNat s.b) (fun t ht => hT t (List.mem_cons_of_mem _ ht)) (fun e he => ?_) e he
      have := hT s (List.mem_cons_self ..)
      rcases List.mem_or_eq_of_mem_set he with g | g
      · exact hE e g
      · omega
  refine go S _ (fun s hs => ?_) fun e he => by rw [List.eq_of_mem_replicate he]; omega
  obtain ⟨a, b, c, d⟩ := spl_all h s hs
  have := jA_b hg a
  omega
theorem spE_len {js : List Job} {S : List Sp} : (spE js S).length = js.length := by
  have fl : ∀ (T : List Sp) (E : List Int), (foldS E T).length = E.length := fun T => by
    induction T with
    | nil => intro E; rfl
    | cons s T ih => intro E; have := ih (E.set s.j.toNat s.b); rw [List.length_set] at this; exact this
  unfold spE; rw [fl]; simp
theorem implSplitValue_run {o : Int} (J : Jobs h vj js) (X : Spns h vs S) (hl : js.length ≤ 2 ^ 40) (hS : S.length ≤ 2 ^ 20) : Ret P G n_impl_SplitValue [vj, vs, .int .i64 o] h (.tuple #[.int .i64 (svV js S o), .bool (svOk js S o)]) h := by
  refine enter_run e_impl_SplitValue (by simp) ?_
  have Js := J
  have Xs := X
  obtain ⟨oj, cj, rfl⟩ := J.shapeT
  obtain ⟨oa, ca, rfl⟩ := X.shapeT
  have r1 := isJobs_run Js hl
  cases c1 : jOk js
  · rw [c1] at r1
    simp -implicitDefEqProofs [CL_ret r1, svV, svOk, c1]
  rw [c1] at r1
  obtain ⟨hn, hg⟩ := jOk_of c1
  have r2 := isSplit_run Js Xs hg hn hS
  cases c2 : splB js S
  · rw [c2] at r2
    simp -implicitDefEqProofs [CL_ret r1, CL_ret r2, svV, svOk, c1, c2]
  rw [c2] at r2
  cases c3 : inB o 1 8
  · simp -implicitDefEqProofs [CL_ret r1, CL_ret r2, CL_ret isObjective_run, svV, svOk, c1, c2, c3]
  simp -implicitDefEqProofs [CL_ret r1, CL_ret r2, CL_ret isObjective_run, svV, svOk, c1, c2, c3]
  refine CL_post (splitEnds_run Js Xs hn hS fun s hs => (spl_all c2 s hs).1) fun w h1 ⟨hp1, o1⟩ => ?_
  have r4 := valueOfEnds_run (o := o) (Js.pre hp1) (o1.sees : Ints h1 w (spE js S)) hg hn spE_len (spE_bd hg c2) (inB_of c3)
  obtain ⟨wa, wn, wc, rfl⟩ : ∃ a n c, w = .slice a n c := by obtain ⟨a, c, e⟩ := o1.sees.shape; exact ⟨_, _, _, e⟩
  simp -implicitDefEqProofs [CL_ret r4]
  exact ⟨rfl, gcP hp1 rfl⟩
def edL (js : List Job) : List Sp := if jOk js = true then spanL 4 js 0 (restL js []) else []
theorem implByEarliestDate_run (J : Jobs h vj js) (hl : js.length ≤ 2 ^ 40) : RunsC P G n_impl_ByEarliestDate [vj] h fun w h' => h <+: h' ∧ ∃ d, w = .tuple #[d, .bool (jOk js)] ∧ Spns h' d (edL js) := by
  refine hideC fun K hK => enter_run e_impl_ByEarliestDate (by simp) ?_
  have Js := J
  obtain ⟨oj, cj, rfl⟩ := J.shapeT
  have r1 := isJobs_run Js hl
  cases c1 : jOk js
  · rw [c1] at r1
    rw [edL, c1] at hK
    simp -implicitDefEqProofs [CL_ret r1]
    exact onK hK ⟨List.prefix_rfl, _, rfl, by simp, none, 0, rfl, .inl ⟨rfl, rfl, rfl⟩⟩
  rw [c1] at r1
  rw [edL, c1, if_pos rfl] at hK
  obtain ⟨hn, hg⟩ := jOk_of c1
  simp -implicitDefEqProofs [CL_ret r1]
  refine CL_post (choose_run Js nil_L hg hn (by simp) (fun x hx => by cases hx) (.inr rfl)) fun w h1 ⟨u, z, ew, hp1, Sz, Su⟩ => ?_
  subst ew
  have Su : Spns h1 u (spanL 4 js 0 (restL js [])) := Su
  obtain ⟨ua, un, uc, rfl⟩ : ∃ a n c, u = .slice a n c := by obtain ⟨a, c, e⟩ := Su.shape; exact ⟨_, _, _, e⟩
  simp -implicitDefEqProofs
  exact onK hK ⟨pre_gcU hp1, _, rfl, Sees.gcU Su fun g => plainT (r := [_]) g⟩
def lbO (js : List Job) (xs : List Int) : Bool := (jOk js && setB js.length xs) && !decide (xs.length = 0)
def lbV (js : List Job) (xs : List Int) : Int := if lbO js xs = true then lbG js xs else 0
theorem set_len {n : Nat} {xs : List Int} (h : setB n xs = true) : xs.length ≤ n := by
  obtain ⟨hin, hs⟩ := setB_iff.1 h
  have hnd : xs.Nodup := hs.imp fun h => by omega
  have := nd_le (l := upTo _) hnd (fun x hx => mem_upTo.2 (hin x hx))
  simpa [upTo] using this
theorem implLatenessBound_run (J : Jobs h vj js) (X : Ints h v xs) (hl : js.length ≤ 2 ^ 40) (hx : xs.length ≤ 2 ^ 40) : Ret P G n_impl_LatenessBound [vj, v] h (.tuple #[.int .i64 (lbV js xs), .bool (lbO js xs)]) h := by
  refine enter_run e_impl_LatenessBound (by simp) ?_
  have Js := J
  have Xs := X
  obtain ⟨oj, cj, rfl⟩ := J.shapeT
  obtain ⟨oa, ca, rfl⟩ := X.shapeT
  have r1 := isJobs_run Js hl
  have r2 := isSetG_run (n := js.length) Xs hx hl
  cases c1 : jOk js
  · rw [c1] at r1
    simp -implicitDefEqProofs [CL_ret r1, lbV, lbO, c1]
  rw [c1] at r1
  obtain ⟨hn, hg⟩ := jOk_of c1
  cases c2 : setB js.length xs
  · rw [c2] at r2
    simp -implicitDefEqProofs [CL_ret r1, CL_ret r2, lbV, lbO, c1, c2]
  rw [c2] at r2
  by_cases c3 : xs.length = 0
  · obtain rfl : xs = [] := List.eq_nil_of_length_eq_zero c3
    simp only [List.length_nil] at r2
    simp -implicitDefEqProofs [CL_ret r1, CL_ret r2, lbV, lbO, c1, c2]
  have c3' : ((xs.length : Int) == 0) = false := nb (by omega)
  have sl := set_len c2
  have r3 := latenessBound_run Js Xs (setB_iff.1 c2).1 hg (by omega)
  simp -implicitDefEqProofs [CL_ret r1, CL_ret r2, lbV, lbO, c1, c2, c3, c3', CL_ret r3]
end
end Go.Pm.PP

/- Draws of jobs with releases and dates close together. -/
set_option linter.unusedVariables false
set_option linter.unusedSimpArgs false
set_option maxRecDepth 4000
set_option maxHeartbeats 16000000
namespace Go.Pm.PP
open Go.Pm Go.Proofs Go.Pm.PE
section
variable {h0 h : Hp} {r n : Nat} {vc : Value} {L : List Asn}
theorem Cur.putT {u : Value} {js : List Job} (C : Cur h0 h r vc n (L ++ [.own u 4 (js.map encJ)])) {k : Nat} {y : Job} (hy : js[k]? = some y) (z : Int) : ∃ h', storeP P h t_int (.int .i64 z) (.pointer (some (addP (addP (base u) (k * 4)) 0))) = some h' ∧ Cur h0 h' r vc n (L ++ [.own u 4 ((js.set k { y with t := z }).map encJ)]) := by
  obtain ⟨a, s, h1, h2, H⟩ := C
  obtain ⟨h', g1, g2, _⟩ := fput_J0 H (L.length + 1) (by rw [List.getElem?_cons_succ]; exact snoc_get) hy z
  refine ⟨h', g1, a, s, h1, h2, ?_⟩
  rw [List.set_cons_succ, List.set_append_right (h := Nat.le_refl _), Nat.sub_self] at g2
  exact g2
theorem Cur.putR {u : Value} {js : List Job} (C : Cur h0 h r vc n (L ++ [.own u 4 (js.map encJ)])) {k : Nat} {y : Job} (hy : js[k]? = some y) (z : Int) : ∃ h', storeP P h t_int (.int .i64 z) (.pointer (some (addP (addP (base u) (k * 4)) 2))) = some h' ∧ Cur h0 h' r vc n (L ++ [.own u 4 ((js.set k { y with r := z }).map encJ)]) := by
  obtain ⟨a, s, h1, h2, H⟩ := C
  obtain ⟨h', g1, g2, _⟩ := fput_J2 H (L.length + 1) (by rw [List.getElem?_cons_succ]; exact snoc_get) hy z
  refine ⟨h', g1, a, s, h1, h2, ?_⟩
  rw [List.set_cons_succ, List.set_append_right (h := Nat.le_refl _), Nat.sub_self] at g2
  exact g2
theorem some5_run (B : By h0 vc) (C : Cur h0 h r vc n L) (hn : n ≤ 2 ^ 17) : RunsC P G n_spec_l1Cur_some5 [.pointer (some ⟨r, 0, some 3⟩)] h fun v h' => ∃ js : List Job, js.length ≤ 9 ∧ Cur h0 h' r vc (n + 400) (L ++ [.own v 4 (js.map encJ)]) := by
  refine hideC fun K hK => enter_run e_spec_l1Cur_some5 (by simp) ?_
  simp -implicitDefEqProofs
  refine CL_post (someJobs_run B C (by omega) (b := true) (most := 6) (by omega)) fun u h1 ⟨js0, hl0, C1⟩ => ?_
  simp -implicitDefEqProofs
  refine R_loopO (fun m st h' => ∃ (i : Nat) (js : List Job), i + m = js.length ∧ js.length ≤ 9 ∧ st = [(0, .pointer (some ⟨r, 0, some 3⟩)), (3, u), (4, .int .i64 i)] ∧ Cur h0 h' r vc (n + 200 + 8 * i) (L ++ [.own u 4 (js.map encJ)])) (fun I hI m st h' => ?_) (n := js0.length) ⟨0, js0, by omega, hl0, by simp, C1.mono (by omega)⟩
  rintro ⟨i, js, hi, hl, rfl, C2⟩
  obtain ⟨ua, uc, rfl⟩ : ∃ a c, u = .slice a js.length c := C2.seesJ.shapeT
  by_cases hlt : i < js.length
  case' pos =>
    have hlt' : (i : Int) < js.length := by omega
    simp -implicitDefEqProofs [hlt, hlt']
    refine CL_post (one_run B C2 (by omega) (k := 6) (by omega)) fun v h3 ⟨b, ev, C3'⟩ => ?_
    subst ev
    cases b
    case' true =>
      have C3 : Cur h0 h3 r vc (n + 300) (L ++ [.own (.slice ua js.length uc) 4 (js.map encJ)]) := C3'.mono (by omega)
      simp -implicitDefEqProofs
    case' false =>
      obtain ⟨y, hy, _⟩ := drop_at hlt
      simp -implicitDefEqProofs
      refine CL_post (pick_run B C3' (by omega) (k := 14) (by omega)) fun v h4 ⟨x1, ev, _, _, _, C4⟩ => ?_
      subst ev
      have ix4 := (load_J C4.seesJ hy).1
      obtain ⟨h5, s5, C5⟩ := C4.putR hy x1
      have hy5 : (js.set i { y with r := x1 })[i]? = some { y with r := x1 } := by rw [List.getElem?_set_self hlt]
      simp -implicitDefEqProofs [-indexAddrP_some, ix4, s5]
      refine CL_post (pick_run B C5 (by omega) (k := 30) (by omega)) fun v h6 ⟨x2, ev, _, _, _, C6⟩ => ?_
      subst ev
      have ix6 := (load_J C6.seesJ hy5).1
      obtain ⟨h7, s7, C7⟩ := C6.putD hy5 x2
      have hy7 : ((js.set i { y with r := x1 }).set i { y with r := x1, d := x2 })[i]? = some { y with r := x1, d := x2 } := by rw [List.getElem?_set_self (by rw [List.length_set]; exact hlt)]
      simp -implicitDefEqProofs [-indexAddrP_some, ix6, s7]
      refine CL_post (pick_run B C7 (by omega) (k := 7) (by omega)) fun v h8 ⟨x3, ev, a3, b3, _, C8⟩ => ?_
      subst ev
      have ix8 := (load_J C8.seesJ hy7).1
      have w8 : IntKind.i64.wrap (1 + x3) = 1 + x3 := by rw [wrap_ok] <;> omega
      obtain ⟨h9, s9, C9⟩ := C8.putT hy7 (1 + x3)
      simp -implicitDefEqProofs [-indexAddrP_some, ix8, w8, s9, winc hlt (by omega)]
      exact ⟨m - 1, by omega, on hI ⟨i + 1, _, by simp only [List.length_set]; omega, by simp only [List.length_set]; omega, by simp, C9.mono (by omega)⟩⟩
  case' neg =>
    have hlt' : ¬ (i : Int) < js.length := by omega
    obtain ⟨h3, hh⟩ : ∃ h3, h3 = h' := ⟨_, rfl⟩
    have C3 : Cur h0 h3 r vc (n + 300) (L ++ [.own (.slice ua js.length uc) 4 (js.map encJ)]) := by rw [hh]; exact C2.mono (by omega)
    simp -implicitDefEqProofs [hlt, hlt']
    rw [← hh]
    clear hh
  all_goals
    by_cases c3 : 0 < js.length
    case neg =>
      have c3' : ¬ (0 : Int) < js.length := by omega
      simp -implicitDefEqProofs [c3, c3']
      exact onK hK ⟨js, hl, C.gcO (C3.mono (by omega)) fun h => h⟩
    case pos =>
      have c3' : (0 : Int) < js.length := by omega
      simp -implicitDefEqProofs [c3, c3']
      refine CL_post (one_run B C3 (by omega) (k := 40) (by omega)) fun v h4 ⟨b3, ev, C4⟩ => ?_
      subst ev
      cases b3
      case false =>
        simp -implicitDefEqProofs
        exact onK hK ⟨js, hl, C.gcO (C4.mono (by omega)) fun h => h⟩
      case true =>
        obtain ⟨y, hy, _⟩ := drop_at c3
        have ly := load_J C4.seesJ hy
        simp only [Nat.zero_mul, Int.natCast_zero] at ly
        simp -implicitDefEqProofs [-indexAddrP_some, ly]
        refine CL_post (spoiltJob_run B C4 (by omega) (j := y)) fun v h6 ⟨j', ev, C6⟩ => ?_
        subst ev
        have ix := (load_J C6.seesJ hy).1
        obtain ⟨h7, s7, C7⟩ := C6.putJ c3 j'
        simp only [Nat.zero_mul, Int.natCast_zero] at ix s7
        simp -implicitDefEqProofs [-indexAddrP_some, ix, s7]
        exact onK hK ⟨js.set 0 j', by rw [List.length_set]; exact hl, C.gcO (C7.mono (by omega)) fun h => h⟩
end
theorem DrawByLeastRest_run {h : Hp} {vc : Value} (B : By h vc) : RunsC P G n_spec_DrawByLeastRest [vc] h fun v h' => h <+: h' ∧ ∃ js : List Job, js.length ≤ 9 ∧ Jobs h' v js := by
  refine hideC fun K hK => enter_run e_spec_DrawByLeastRest (by simp) ?_
  have C0 : Cur h (h ++ [some ⟨[vc, .int .i64 0, .int .u64 0], 0, false⟩]) h.length vc 0 [] := ⟨0, 0, by omega, by omega, (Holds.start (h := h)).alloc _⟩
  obtain ⟨bs, Sb, hb, hbl⟩ := B
  have Bs : By h vc := ⟨bs, Sb, hb, hbl⟩
  obtain ⟨ob, cb, rfl⟩ := Sb.shapeT
  simp -implicitDefEqProofs
  refine CL_post (some5_run Bs C0 (by omega)) fun u h2 ⟨js, hl, C2⟩ => ?_
  obtain ⟨ua, uc, rfl⟩ : ∃ a c, u = .slice a js.length c := C2.seesJ.shapeT
  simp -implicitDefEqProofs
  exact onK hK ⟨pre_gcU C2.pre, js, hl, Sees.gcU C2.seesJ fun g => g⟩
theorem DrawGreedyOrder_run {h : Hp} {vc : Value} (B : By h vc) : RunsC P G n_spec_DrawGreedyOrder [vc] h fun v h' => h <+: h' ∧ ∃ js : List Job, js.length ≤ 9 ∧ Jobs h' v js := by
  refine hideC fun K hK => enter_run e_spec_DrawGreedyOrder (by simp) ?_
  have Bs := B
  obtain ⟨bs, Sb, hb, hbl⟩ := B
  obtain ⟨ob, cb, rfl⟩ := Sb.shapeT
  simp -implicitDefEqProofs
  refine CL_post (DrawByLeastRest_run Bs) fun u h2 ⟨hp2, js, hl, J⟩ => ?_
  obtain ⟨ua, uc, rfl⟩ : ∃ a c, u = .slice a js.length c := J.shapeT
  simp -implicitDefEqProofs
  exact onK hK ⟨pre_gcU hp2, js, hl, Sees.gcU J fun g => g⟩
end Go.Pm.PP

/- FnGreedyOrder in the small machine. -/
set_option linter.unusedVariables false
set_option linter.unusedSimpArgs false
set_option maxRecDepth 4000
set_option maxHeartbeats 16000000
namespace Go.Pm.PP
open Go.Pm Go.Proofs Go.Pm.PE
theorem prm_ord {n : Nat} {xs : List Int} (h : Prm n xs) : Ord n xs := ⟨h.len, h.inn, h.nd⟩
theorem spE_bdE {js : List Job} {o : Int} : spE js (spanL o js 0 (restL js [])) = bdE o js [] := foldS_span
/-- The set of the critical part. -/
def psL (js : List Job) : List Int := (upTo js.length).filter fun x => hasL x (partL js)
theorem psL_facts {js : List Job} (hg : goodL js = true) (hn : js.length ≤ 8) (h0 : js ≠ []) : (psL js).Perm (partL js) ∧ setB js.length (psL js) = true ∧ psL js ≠ [] := by
  obtain ⟨hp, _⟩ := grL_facts hg hn
  have pn : (partL js).Nodup := (hp.nd.sublist (List.drop_sublist ..)).sublist (List.take_sublist ..)
  have hin : inN js.length (partL js) := fun x hx => hp.inn x (List.mem_of_mem_drop (List.mem_of_mem_take hx))
  have ua : (upTo js.length).Pairwise (· < ·) := up_asc
  have q : (psL js).Perm (partL js) := by
    refine (List.perm_ext_iff_of_nodup ((ua.imp fun h => by omega : (upTo js.length).Nodup).sublist List.filter_sublist) pn).2 fun x => ?_
    rw [List.mem_filter, hasL_iff, mem_upTo]
    exact ⟨fun h => h.2, fun h => ⟨hin x h, h⟩⟩
  refine ⟨q, setB_iff.2 ⟨fun x hx => hin x (q.mem_iff.1 hx), ua.sublist List.filter_sublist⟩, fun e => ?_⟩
  have := q.length_eq
  rw [e, part_len hg hn h0] at this
  have := @fir_le js
  simp at *; omega
theorem ps_bound {js : List Job} (hg : goodL js = true) (hn : js.length ≤ 8) (h0 : js ≠ []) (hb : blkO js = none) : lbG js (psL js) = valX 4 js (grL js) ∧ ∀ xs, Ord js.length xs → valX 4 js (grL js) ≤ valX 4 js xs := by
  obtain ⟨q, qs, qn⟩ := psL_facts hg hn h0
  obtain ⟨ρ, δ, B, r0, ⟨x, hx, ex⟩, ⟨y, hy, ey⟩, e⟩ := part_proof hg hn h0 hb
  have B2 : Bset js (psL js) ρ δ := ⟨q.nodup_iff.2 B.nd, qn, fun z hz => B.inn z (q.mem_iff.1 hz), fun z hz => B.r z (q.mem_iff.1 hz), fun z hz => B.d z (q.mem_iff.1 hz)⟩
  refine ⟨?_, fun xs o => ?_⟩
  · rw [lb_eq hg B2 ⟨x, q.mem_iff.2 hx, ex⟩ ⟨y, q.mem_iff.2 hy, ey⟩, tsm_perm q]; exact e
  · have := bd_order hg (ord_prm o) B r0
    unfold valX; omega
theorem grO_len {js : List Job} (hl : js.length ≤ 9) : (grO js).length ≤ 2 ^ 10 := by
  unfold grO
  split
  · rename_i c
    obtain ⟨hn, hg⟩ := jOk_of c
    have := (grL_facts hg hn).1.len; omega
  · simp
theorem cpO_len {js : List Job} (hl : js.length ≤ 9) : (cpO js).length ≤ 2 ^ 10 := by
  unfold cpO
  split
  · rename_i c
    obtain ⟨c1, c2⟩ := cpOk_of c
    obtain ⟨hn, hg⟩ := jOk_of c1
    have := part_len hg hn c2
    have := las_lt hg hn c2; omega
  · simp
theorem law_GreedyOrder {h : Hp} {vc : Value} {bs : List Int} (Sb : Sees h vc 1 (bs.map encU)) (hb : ∀ b, b ∈ bs → 0 ≤ b ∧ b ≤ 255) : Ret P G n_laws_FnGreedyOrder [vc] h (.bool true) h := by
  refine enter_run e_laws_FnGreedyOrder (by simp) ?_
  have r0 := vBig_run Sb
  by_cases c0 : (65536 : Int) < bs.length
  · simp -implicitDefEqProofs [CL_ret r0, c0]
  have B : By h vc := ⟨bs, Sb, hb, by omega⟩
  have Sbs := Sb
  obtain ⟨ob, cb, rfl⟩ := Sb.shapeT
  simp -implicitDefEqProofs [CL_ret r0, c0]
  refine CL_post (DrawGreedyOrder_run B) fun u h1 ⟨hp1, js, hjl, J⟩ => ?_
  have l1 : js.length ≤ 2 ^ 40 := by omega
  have Js := J
  obtain ⟨ja, jc, rfl⟩ := J.shapeT
  simp -implicitDefEqProofs
  refine CL_post (implGreedyOrder_run Js l1) fun v h2 ⟨hp2, d2, ev, D2⟩ => ?_
  subst ev
  obtain ⟨da, dc, e2⟩ : ∃ a c, d2 = .slice a (grO js).length c := D2.shapeT
  subst e2
  simp -implicitDefEqProofs
  refine CL_post (specGreedyOrder_run (Js.pre hp2) l1) fun v h3 ⟨hp3, d3, ev, D3⟩ => ?_
  subst ev
  obtain ⟨ea, en, ec, rfl⟩ : ∃ a n c, d3 = .slice a n c := by obtain ⟨a, c, e⟩ := D3.shape; exact ⟨_, _, _, e⟩
  have p13 := hp2.trans hp3
  simp -implicitDefEqProofs
  refine CL_post (implCriticalPart_run (Js.pre p13) l1) fun v h4 ⟨hp4, d4, ev, D4⟩ => ?_
  subst ev
  obtain ⟨fa, fc, e4⟩ : ∃ a c, d4 = .slice a (cpO js).length c := D4.shapeT
  subst e4
  simp -implicitDefEqProofs
  refine CL_post (specCriticalPart_run (Js.pre (p13.trans hp4)) l1) fun v h5 ⟨hp5, d5, ev, D5⟩ => ?_
  subst ev
  obtain ⟨ga, gn, gc', rfl⟩ : ∃ a n c, d5 = .slice a n c := by obtain ⟨a, c, e⟩ := D5.shape; exact ⟨_, _, _, e⟩
  have p15 := p13.trans (hp4.trans hp5)
  have J5 := Js.pre p15
  have r6 := implBlockingJob_run J5 l1
  have r7 := specBlockingJob_run J5 l1
  unfold bjV at r6 r7
  have D2' : Ints h5 (.slice da (grO js).length dc) (grO js) := D2.pre (hp3.trans (hp4.trans hp5))
  have D3' := D3.pre (hp4.trans hp5)
  have D4' : Ints h5 (.slice fa (cpO js).length fc) (cpO js) := D4.pre hp5
  have r8 := vInts_run D2' D3' (by have := grO_len hjl; omega)
  have r9 := vInts_run D4' D5 (by have := cpO_len hjl; omega)
  have p0 := hp1.trans p15
  cases c1 : cpOk js
  · simp -implicitDefEqProofs [CL_ret r6, CL_ret r7, CL_ret r8, CL_ret r9, c1]
    exact gcP p0 rfl
  obtain ⟨k1, hne⟩ := cpOk_of c1
  obtain ⟨hn, hg⟩ := jOk_of k1
  have hp := (grL_facts hg hn).1
  have eg : grO js = grL js := by unfold grO; rw [if_pos k1]
  have ep : cpO js = partL js := by unfold cpO; rw [if_pos c1]
  have eb : bjO js = blkO js := by unfold bjO; rw [if_pos c1]
  rw [eb] at r6 r7
  have okv : okV js (grL js) 4 = true := by
    unfold okV
    rw [k1, ord_ok hn (prm_ord hp)]; rfl
  have r10 := implValueOf_run (o := 4) J5 D2' l1 (by have := grO_len hjl; omega)
  have ev : vOf js (grL js) 4 = valX 4 js (grL js) := by unfold vOf; rw [if_pos okv]
  rw [eg] at r8 r10 D2'
  rw [ep] at r9 D4'
  rw [ev, okv] at r10
  have hpl := part_len hg hn hne
  have hpl8 : (partL js).length ≤ 8 := by have := las_lt hg hn hne; omega
  cases cb : blkO js with
  | none =>
    rw [cb] at r6 r7
    obtain ⟨q1, q2⟩ := ps_bound hg hn hne cb
    obtain ⟨s1, s2, s3⟩ := psL_facts hg hn hne
    have bf := best_facts (f := valX 4 js) hn
    have ebest : (valX 4 js (grL js) == bestV 4 js) = true := by
      rw [beq_iff_eq]
      have h1 := bf.2.2.2 _ (prm_ord hp)
      have h2 := q2 _ bf.2.2.1
      rw [bf.2.1] at h2
      unfold bestV; omega
    have hpsl : (psL js).length ≤ 8 := by rw [s1.length_eq]; exact hpl8
    have hups : psL js = (upTo js.length).filter fun x => hasL x (partL js) := rfl
    have H0 := own_nil (Holds.start (h := h5)) Int encI 1
    rw [eg, ep]
    simp -implicitDefEqProofs [CL_ret r6, CL_ret r7, CL_ret r8, CL_ret r9, c1, CL_ret r10]
    refine R_loopO (fun m s h' => ∃ (i : Nat) (w : Value), i + m = js.length ∧ s = [(3, .slice ja js.length jc), (4, .slice da (grL js).length dc), (8, .slice fa (partL js).length fc), (16, .int .i64 (valX 4 js (grL js))), (18, w), (19, .int .i64 i)] ∧ Holds h5 h' [.own w 1 (((upTo i).filter fun x => hasL x (partL js)).map encI)]) (fun I hI m s h6 => ?_) (n := js.length) ⟨0, .slice none 0 0, Nat.zero_add _, by simp, by simpa [upTo] using H0⟩
    rintro ⟨i, w, hi, rfl, H⟩
    by_cases hlt : i < js.length
    · have hlt' : (i : Int) < js.length := by omega
      have rh := vHas_run (x := (i : Int)) (D4'.pre H.pre) (by omega)
      have e : (upTo (i + 1)).filter (fun x => hasL x (partL js)) = (upTo i).filter (fun x => hasL x (partL js)) ++ if hasL (i : Int) (partL js) = true then [(i : Int)] else [] := by
        rw [up_snoc, List.filter_append]
        congr 1
        cases g : hasL (i : Int) (partL js) <;> simp [List.filter_cons, g]
      have fl : ((upTo i).filter fun x => hasL x (partL js)).length ≤ i := by
        have := List.length_filter_le (fun x => hasL x (partL js)) (upTo i)
        simpa [upTo] using this
      cases c3 : hasL (i : Int) (partL js)
      · rw [c3] at rh
        rw [c3, if_neg (by simp), List.append_nil] at e
        simp -implicitDefEqProofs [hlt, hlt', CL_ret rh, winc hlt (by omega)]
        exact ⟨m - 1, by omega, on hI ⟨i + 1, w, by omega, by simp, by rw [e]; exact H⟩⟩
      · rw [c3] at rh
        rw [c3, if_pos rfl] at e
        obtain ⟨v', h7, a7, H7, _⟩ := push_I0 H 0 rfl (i : Int) (by omega)
        simp -implicitDefEqProofs [hlt, hlt', CL_ret rh, a7, winc hlt (by omega)]
        exact ⟨m - 1, by omega, on hI ⟨i + 1, v', by omega, by simp, by rw [e]; exact H7⟩⟩
    · have hlt' : ¬ (i : Int) < js.length := by omega
      obtain rfl : i = js.length := by omega
      rw [← hups] at H
      have J6 := J5.pre H.pre
      have r11 := implLatenessBound_run J6 (H.sees 0 rfl : Ints h6 w (psL js)) l1 (by omega)
      have lo : lbO js (psL js) = true := by
        unfold lbO
        rw [k1, s2, decide_eq_false (fun e => s3 (List.eq_nil_of_length_eq_zero e))]; rfl
      have lv : lbV js (psL js) = valX 4 js (grL js) := by unfold lbV; rw [if_pos lo]; exact q1
      rw [lo, lv] at r11
      have r12 := IsBestOrder_run (o := 4) J6 (D2'.pre H.pre) l1 (by have := hp.len; omega) okv
      rw [ebest] at r12
      obtain ⟨wa, wn, wc, rfl⟩ : ∃ a n c, w = .slice a n c := by obtain ⟨a, c, e⟩ := (H.sees 0 rfl).shape; exact ⟨_, _, _, e⟩
      simp -implicitDefEqProofs [hlt, hlt', CL_ret r11, CL_ret r12]
      exact gcP (p0.trans H.pre) rfl
  | some b =>
    rw [cb] at r6 r7
    obtain ⟨q1, q2⟩ := part_block hg hn hne cb
    have ib : 0 ≤ b ∧ b < js.length := hp.inn b (List.mem_of_mem_drop (List.mem_of_mem_take q1))
    rw [eg, ep]
    simp -implicitDefEqProofs [CL_ret r6, CL_ret r7, CL_ret r8, CL_ret r9, c1, CL_ret r10]
    refine CL_post (implByEarliestDate_run J5 l1) fun w h6 ⟨hp6, d6, ev6, D6⟩ => ?_
    subst ev6
    have ed : edL js = spanL 4 js 0 (restL js []) := by unfold edL; rw [if_pos k1]
    rw [ed] at D6
    have sp := split_span (o := 4) hg hn
    have so : svOk js (spanL 4 js 0 (restL js [])) 4 = true := by unfold svOk; rw [k1, sp]; rfl
    have sv : svV js (spanL 4 js 0 (restL js [])) 4 = valE 4 js (bdE 4 js []) := by unfold svV; rw [if_pos so, spE_bdE]
    have r13 := implSplitValue_run (o := 4) (J5.pre hp6) D6 l1 (by have := @spanL_len 4 js 0 (restL js []); omega)
    rw [so, sv] at r13
    obtain ⟨wa, wn, wc, rfl⟩ : ∃ a n c, d6 = .slice a n c := by obtain ⟨a, c, e⟩ := D6.shape; exact ⟨_, _, _, e⟩
    have r14 := vHas_run (x := b) (D4'.pre hp6) (by omega)
    rw [hasL_iff.2 q1] at r14
    have lj := load_JX (J5.pre hp6) ib
    have tb := jA_b hg ib
    have vb := bdE_bd (o := 4) (B := []) hg (by simp) (fun x hx => by cases hx)
    have v1 : -(2 ^ 20) ≤ valE 4 js (bdE 4 js []) ∧ valE 4 js (bdE 4 js []) ≤ 2 ^ 20 := by
      obtain ⟨k, hk, e⟩ := (val4_facts (js := js) (es := bdE 4 js []) (by unfold bdE; rw [apS_len, endsL_len]) hne).2
      have := vb _ (gE_mem (show k < (bdE 4 js []).length by unfold bdE; rw [apS_len, endsL_len]; exact hk))
      have := jA_bd hg hk
      rw [e]; omega
    have w1 : IntKind.i64.wrap (valE 4 js (bdE 4 js []) + (jA js b).t) = valE 4 js (bdE 4 js []) + (jA js b).t := by rw [wrap_ok] <;> omega
    have q2' : valX 4 js (grL js) < valE 4 js (bdE 4 js []) + (jA js b).t := q2
    simp -implicitDefEqProofs [-indexAddrP_some, CL_ret r13, CL_ret r14, lj, w1, q2']
    exact gcP (p0.trans hp6) rfl
end Go.Pm.PP

/- Best orders: exchanging downwards. -/
set_option linter.unusedVariables false
set_option linter.unusedSimpArgs false
set_option maxRecDepth 4000
set_option maxHeartbeats 8000000
namespace Go.Pm.PP
open Go.Pm Go.Proofs Go.Pm.PE
section
variable {h : Hp} {v u : Value} {js : List Job} {xs : List Int} {o : Int}
end
end Go.Pm.PP

/- FnBestOrders in the small machine. -/
set_option linter.unusedVariables false
set_option linter.unusedSimpArgs false
set_option maxRecDepth 4000
set_option maxHeartbeats 8000000
namespace Go.Pm.PP
open Go.Pm Go.Proofs Go.Pm.PE
end Go.Pm.PP

/- A code of bytes as an argument, opened as a row. -/
set_option linter.unusedVariables false
set_option linter.unusedSimpArgs false
set_option maxRecDepth 4000
namespace Go.Pm
open Go.ChangeShapes Go.WideShapes
section
variable {P : Program} {H : Type} {enc : TypeId × Value → H} {w : World} {base : Nat} {held : Bool}
theorem flat_encU (xs : List Int) : (xs.map PP.encU).flatten = xs.map fun x => .int .u8 x := by
  induction xs with
  | nil => rfl
  | cons x xs ih => rw [List.map_cons, List.flatten_cons, ih]; rfl
/-- A slice of bytes. -/
theorem shows_bytes {t e : TypeId} {fuel : Nat} {v : Value} {x : DataW H × List MemPlace} (ht : P.underlying t = some (.slice e)) (he : P.underlying e = some (.int .u8)) (hc : P.cellsOf e = 1)
    (hd : DataW.trod enc P w base (fun _ => true) held fuel t [v] = some x) : ∃ xs : List Int, xs.length ≤ maxLen ∧ (∀ b, b ∈ xs → (Lit.int .u8 b).wf = true) ∧ ∀ (ρ : Mp) (h : Hp), Shows ρ h w 1 (xs.map PP.encU) v := by
  rcases open_ints ht he hc hd with ⟨h1, _⟩ | ⟨a, len, cap, zs, h1, _, hl, hm, hz, _, hcell, hwf⟩
  · cases h1
    exact ⟨[], by simp, by simp, fun ρ h => .inl ⟨rfl, rfl⟩⟩
  · cases h1
    simp only [if_true] at hz
    have hlen : (zs.take len).length = len := by rw [List.length_take]; omega
    refine ⟨zs.take len, by omega, fun b hb => hwf b (List.mem_of_mem_take hb), fun ρ h => .inr ⟨a, cap, by rw [List.length_map, hlen], by rw [List.length_map, hlen]; exact hl, ?_, fun k c hk => ?_⟩⟩
    · rcases Nat.eq_zero_or_pos cap with h0 | h0
      · exact .inl h0
      · right
        have := hcell 0 (by omega)
        unfold World.cell? at this
        simp only [Addr.add, if_true] at this
        cases hs : a.spot with
        | none => rfl
        | some s =>
          rw [hs] at this
          split at this <;> simp at this
    · rw [flat_encU, List.getElem?_map] at hk
      obtain ⟨z, hz2, rfl⟩ := Option.map_eq_some_iff.1 hk
      have hk1 := (List.getElem?_eq_some_iff.1 hz2).1
      rw [List.getElem?_take, if_pos (by omega)] at hz2
      refine ⟨_, hcell k (by omega), ?_⟩
      rw [List.getD_eq_getElem?_getD, hz2]
      exact .int _ _
end
end Go.Pm
namespace Go.Pm.PP
open Go.Pm Go.Proofs
theorem follows : P.follows .mixedOrders = true := by kernel_rfl
theorem cells_u8 : P.cellsOf t_u8 = 1 := by kernel_rfl
theorem byte_of {b : Int} (h : (Lit.int .u8 b).wf = true) : 0 ≤ b ∧ b ≤ 255 := by
  simp [Lit.wf, IntKind.min, IntKind.max, IntKind.signed, IntKind.bits] at h
  omega
section
variable {H : Type} {enc : TypeId × Value → H} {W : World} {ρ : Mp} {h : Hp} {v : Value} {n0 : Nat} {x0 : DataW H × List MemPlace}
theorem open_bytes (R : Rel ρ h W) (ha : AllRo h) (d0 : DataW.trod enc P W 0 (fun _ => true) true n0 t_S_u8 [v] = some x0) :
    ∃ (h2 : Hp) (ρ2 : Mp) (p : Value) (xs : List Int), h <+: h2 ∧ Rel ρ2 h2 W ∧ AllRo h2 ∧ Step ρ h ρ2 h2 ∧ VR ρ2 h2 p v ∧ Sees h2 p 1 (xs.map encU) ∧ ∀ b, b ∈ xs → 0 ≤ b ∧ b ≤ 255 := by
  obtain ⟨xs, l0, hw, s0⟩ := shows_bytes (P := P) (v := v) u_S_u8 u_u8 cells_u8 d0
  obtain ⟨h2, ρ2, p, q, R2, a2, t, r, N⟩ := add_slice (w := W) (len_U xs) R ha (s0 ρ h)
  exact ⟨h2, ρ2, p, xs, q, R2, a2, t, r, N, fun b hb => byte_of (hw b hb)⟩
end
end Go.Pm.PP
