/- The texts PvSb, PvSc, PvSd, PvSe, PvQa, PvTa, PvTb, PvTc, Ps8, PvTd, PvTe, PvRa, Ps9, PvFa, PvFb, PvFc, PvFd, PvFe, PvFh, PvFi, PvFk, PvFl, PvFj, PvSf, PvSg, PvSh, PvSi, PvFf, PvFg, PvFm, PvFn, PvFo, PsA, PsB, PsC, PvLa, PvLb, PsD, PsE, PvMa, PvCa, PvMb of this work: Plain jobs, sets of digits, due orders, by both. -/
import Derived.Test.YtcmbjbddjlamaaaP6
/- Plain jobs, sets of digits, due orders, by both. -/
set_option linter.unusedVariables false
set_option linter.unusedSimpArgs false
set_option maxRecDepth 4000
set_option maxHeartbeats 8000000
namespace Go.Pm.PP
open Go.Pm Go.Proofs Go.Pm.PE
/-! ### no releases -/
def freeL (js : List Job) : Bool := js.all fun j => !decide (0 < j.r)
def plainL (js : List Job) : Bool := js.all fun j => j.r == 0
def plOk (js : List Job) : Bool := jOk js && plainL js
theorem free_plain {js : List Job} (hg : goodL js = true) : freeL js = plainL js := by
  induction js with
  | nil => rfl
  | cons j js ih =>
    rw [goodL_cons, Bool.and_eq_true] at hg
    have := job_of hg.1
    have e : (!decide (0 < j.r)) = (j.r == 0) := by
      rw [Bool.eq_iff_iff]
      simp
      omega
    unfold freeL plainL at ih ⊢
    rw [List.all_cons, List.all_cons, ih hg.2, e]
theorem plOk_of {js : List Job} (h : plOk js = true) : js.length ≤ 8 ∧ goodL js = true ∧ plainL js = true := by
  rw [plOk, Bool.and_eq_true] at h
  exact ⟨(jOk_of h.1).1, (jOk_of h.1).2, h.2⟩
theorem jA_in {js : List Job} {x : Int} : jA js x ∈ js ∨ jA js x = ⟨0, 0, 0, 0⟩ := by
  unfold jA
  cases h : js[x.toNat]? with
  | none => right; rfl
  | some j => left; exact List.mem_of_getElem? h
theorem plOk_pl {js : List Job} (h : plOk js = true) : Pl js := by
  obtain ⟨_, hg, hp⟩ := plOk_of h
  constructor
  · intro x
    rcases @jA_in js x with g | g
    · simpa using List.all_eq_true.1 hp _ g
    · rw [g]
  · intro x
    rcases @jA_in js x with g | g
    · have := job_of (List.all_eq_true.1 hg _ g); omega
    · rw [g]; exact Int.le_refl _
theorem load_JX {h : Hp} {v : Value} {js : List Job} {x : Int} (hv : Jobs h v js) (hx : 0 ≤ x ∧ x < js.length) :
    indexAddrP P h t_S_impl_Job v (.int .i64 x) = some (.pointer (some (addP (base v) (x.toNat * 4)))) ∧ loadP P h t_impl_Job (.pointer (some (addP (base v) (x.toNat * 4)))) = some (jv (jA js x)) ∧
    loadP P h t_int (.pointer (some (addP (addP (base v) (x.toNat * 4)) 0))) = some (.int .i64 (jA js x).t) ∧
    loadP P h t_int (.pointer (some (addP (addP (base v) (x.toNat * 4)) 1))) = some (.int .i64 (jA js x).w) ∧
    loadP P h t_int (.pointer (some (addP (addP (base v) (x.toNat * 4)) 2))) = some (.int .i64 (jA js x).r) ∧
    loadP P h t_int (.pointer (some (addP (addP (base v) (x.toNat * 4)) 3))) = some (.int .i64 (jA js x).d) := by
  obtain ⟨k, hk, hkl, hy⟩ := jA_get (js := js) rfl hx
  have := load_J hv hy
  rw [← hk] at this
  rw [show x.toNat = k by omega]
  exact this
section
variable {h : Hp} {v : Value} {js : List Job}
theorem l4Free_run (hj : Jobs h v js) (hn : js.length ≤ 2 ^ 40) : Ret P G n_spec_l4Free [v] h (.bool (freeL js)) h := by
  refine enter_run e_spec_l4Free (by simp) ?_
  have hjs := hj
  obtain ⟨oa, c, rfl⟩ := hj.shapeT
  simp -implicitDefEqProofs
  refine R_loopO (fun m s h' => ∃ i : Nat, i + m = js.length ∧ s = [(0, .slice oa js.length c), (3, .int .i64 i)] ∧ h' = h ∧ freeL js = freeL (js.drop i)) (fun I hI m s h' => ?_) ⟨0, Nat.zero_add _, by simp⟩
  rintro ⟨i, hi, rfl, rfl, hx⟩
  by_cases hlt : i < js.length
  · obtain ⟨y, hy, hd⟩ := drop_at hlt
    have e : freeL (y :: js.drop (i + 1)) = (!decide (0 < y.r) && freeL (js.drop (i + 1))) := rfl
    rw [hd, e] at hx
    have lr := load_J hjs hy
    by_cases c1 : 0 < y.r
    · simp only [c1, decide_true, Bool.not_true, Bool.false_and] at hx
      simp -implicitDefEqProofs [-indexAddrP_some, hlt, lr, c1, hx]
    · simp only [c1, decide_false, Bool.not_false, Bool.true_and] at hx
      simp -implicitDefEqProofs [-indexAddrP_some, hlt, lr, c1, winc hlt hn]
      exact ⟨m - 1, by omega, on hI ⟨i + 1, by omega, rfl, rfl, hx⟩⟩
  · rw [List.drop_eq_nil_of_le (by omega)] at hx
    have hx : freeL js = true := hx
    simp -implicitDefEqProofs [hlt, hx]
theorem isPlain_run (hj : Jobs h v js) (hn : js.length ≤ 2 ^ 40) : Ret P G n_impl_isPlain [v] h (.bool (plainL js)) h := by
  refine enter_run e_impl_isPlain (by simp) ?_
  have hjs := hj
  obtain ⟨oa, c, rfl⟩ := hj.shapeT
  simp -implicitDefEqProofs
  refine R_loopO (fun m s h' => ∃ i : Nat, i + m = js.length ∧ s = [(5, .slice oa js.length c), (6, .int .i64 js.length), (7, .int .i64 i)] ∧ h <+: h' ∧ plainL js = plainL (js.drop i)) (fun I hI m s h' => ?_) ⟨0, Nat.zero_add _, by simp⟩
  rintro ⟨i, hi, rfl, hp, hx⟩
  by_cases hlt : i < js.length
  · obtain ⟨y, hy, hd⟩ := drop_at hlt
    have e : plainL (y :: js.drop (i + 1)) = ((y.r == 0) && plainL (js.drop (i + 1))) := rfl
    rw [hd, e] at hx
    have lr := load_J (hjs.pre hp) hy
    by_cases c1 : y.r = 0
    · rw [show (y.r == 0) = true by simpa using c1, Bool.true_and] at hx
      simp -implicitDefEqProofs [-indexAddrP_some, hlt, lr, c1, winc hlt hn]
      exact ⟨m - 1, by omega, on hI ⟨i + 1, by omega, rfl, hp.trans (List.prefix_append ..), hx⟩⟩
    · rw [nb c1, Bool.false_and] at hx
      simp -implicitDefEqProofs [-indexAddrP_some, hlt, lr, nt c1, hx]
      exact gcP (hp.trans (List.prefix_append ..)) rfl
  · rw [List.drop_eq_nil_of_le (by omega)] at hx
    have hx : plainL js = true := hx
    simp -implicitDefEqProofs [hlt, hx]
    exact gcP hp rfl
theorem IsPlain_run (hj : Jobs h v js) (hn : js.length ≤ 2 ^ 40) : Ret P G n_impl_IsPlain [v] h (.bool (plOk js)) h := by
  refine enter_run e_impl_IsPlain (by simp) ?_
  have r1 := isJobs_run hj hn
  have r2 := isPlain_run hj hn
  obtain ⟨oa, c, rfl⟩ := hj.shapeT
  cases c1 : jOk js
  · simp -implicitDefEqProofs [CL_ret r1, c1, plOk]
  · simp -implicitDefEqProofs [CL_ret r1, c1, plOk, CL_ret r2]
theorem l6Good_run (hj : Jobs h v js) (hn : js.length ≤ 2 ^ 40) : Ret P G n_spec_l6Good [v] h (.bool (plOk js)) h := by
  refine enter_run e_spec_l6Good (by simp) ?_
  have r1 := good_run hj hn
  have r2 := l4Free_run hj hn
  obtain ⟨oa, c, rfl⟩ := hj.shapeT
  cases c1 : jOk js
  · simp -implicitDefEqProofs [CL_ret r1, c1, plOk]
  · rw [free_plain (jOk_of c1).2] at r2
    simp -implicitDefEqProofs [CL_ret r1, c1, plOk, CL_ret r2]
end
/-! ### comparisons -/
section
variable {h : Hp} {vj : Value} {js : List Job} {r : Nat} {a b : Int}
theorem onTime_1_run (J : Jobs h vj js) (hb : h[r]? = some (some ⟨[vj], 0, false⟩)) (ha : 0 ≤ a ∧ a < js.length) (hb' : 0 ≤ b ∧ b < js.length) :
    Ret P G n_impl_onTime_1 [.int .i64 a, .int .i64 b, .pointer (some ⟨r, 0, some 1⟩)] h (.bool (dAh js a b)) h := by
  refine enter_run e_impl_onTime_1 (by simp) ?_
  have Js := J
  obtain ⟨oj, cj, rfl⟩ := J.shapeT
  have lb := load_pre (n := 1) List.prefix_rfl hb rfl
  simp -implicitDefEqProofs [-indexAddrP_some, lb, load_JX Js ha, load_JX Js hb', dAh]
theorem l6Sooner_run (J : Jobs h vj js) (ha : 0 ≤ a ∧ a < js.length) (hb' : 0 ≤ b ∧ b < js.length) : Ret P G n_spec_l6Sooner [vj, .int .i64 a, .int .i64 b] h (.bool (sooner js a b)) h := by
  refine enter_run e_spec_l6Sooner (by simp) ?_
  have Js := J
  obtain ⟨oj, cj, rfl⟩ := J.shapeT
  by_cases c1 : (jA js a).d = (jA js b).d
  · by_cases c2 : (jA js a).t = (jA js b).t
    · simp -implicitDefEqProofs [-indexAddrP_some, load_JX Js ha, load_JX Js hb', sooner, c1, c2]
    · simp -implicitDefEqProofs [-indexAddrP_some, load_JX Js ha, load_JX Js hb', sooner, c1, nt c2, c2]
  · simp -implicitDefEqProofs [-indexAddrP_some, load_JX Js ha, load_JX Js hb', sooner, c1, nt c1]
end
/-! ### digits -/
theorem shr_eq {c i : Nat} (hc : c < 2 ^ 60) : shiftI .shr .i64 c i = some (.int .i64 ((c / 2 ^ i : Nat) : Int)) := by
  have h0 : ¬ (i : Int) < 0 := by omega
  simp only [shiftI, if_neg h0, Int.toNat_natCast]
  congr 2
  have e1 : ((2 : Int) ^ min i IntKind.i64.bits) = ((2 ^ min i IntKind.i64.bits : Nat) : Int) := by simp
  rw [e1, Int.fdiv_eq_ediv_of_nonneg _ (Int.natCast_nonneg _), ← Int.natCast_ediv]
  congr 1
  have hb : IntKind.i64.bits = 64 := rfl
  rw [hb]
  by_cases g : i ≤ 64
  · rw [Nat.min_eq_left g]
  · rw [Nat.min_eq_right (by omega), Nat.div_eq_of_lt (by omega), Nat.div_eq_of_lt]
    have : (2 : Nat) ^ 64 ≤ 2 ^ i := Nat.pow_le_pow_right (by omega) (by omega)
    omega
/-- A digit, as the machine has it. -/
theorem bit_val {c i : Nat} (hc : c < 2 ^ 60) : IntKind.i64.wrap ↑(((c : Int) / 2 ^ i % 2 ^ IntKind.i64.bits).toNat &&& (1 % 2 ^ IntKind.i64.bits : Int).toNat) = if c.testBit i = true then 1 else 0 := by
  have hb : IntKind.i64.bits = 64 := rfl
  have e1 : (1 % 2 ^ IntKind.i64.bits : Int).toNat = 1 := by rw [hb]; decide
  have e2 : ((c : Int) / 2 ^ i % 2 ^ IntKind.i64.bits).toNat = c / 2 ^ i := by
    have e3 : ((c : Int) / 2 ^ i) = ((c / 2 ^ i : Nat) : Int) := by simp
    have e4 : c / 2 ^ i ≤ c := Nat.div_le_self ..
    have e5 : ((c / 2 ^ i : Nat) : Int) < 2 ^ 64 := by have : ((c / 2 ^ i : Nat) : Int) ≤ (c : Int) := Int.ofNat_le.2 e4; omega
    rw [e3, hb, Int.emod_eq_of_lt (Int.natCast_nonneg _) e5, Int.toNat_natCast]
  rw [e1, e2, Nat.and_one_is_mod, ← Nat.shiftRight_eq_div_pow]
  have e5 : c.testBit i = decide (c >>> i % 2 = 1) := by rw [Nat.testBit_eq_decide_div_mod_eq, Nat.shiftRight_eq_div_pow]
  rw [e5]
  have : c >>> i % 2 < 2 := Nat.mod_lt _ (by omega)
  by_cases g : c >>> i % 2 = 1
  · rw [g, wrap_ok (by omega) (by omega)]; simp
  · have : c >>> i % 2 = 0 := by omega
    rw [this, wrap_ok (by omega) (by omega)]; simp
theorem l4Set_run {h : Hp} {n c : Nat} (hn : n ≤ 60) (hc : c < 2 ^ 60) : RunsC P G n_spec_l4Set [.int .i64 n, .int .i64 c] h fun v h' => h <+: h' ∧ Own h.length h' v 1 ((bitsL n c).map encI) := by
  refine hideC fun K hK => enter_run e_spec_l4Set (by simp) ?_
  have H0 := own_nil (Holds.start (h := h)) Int encI 1
  simp -implicitDefEqProofs
  refine R_loopO (fun m s h' => ∃ (i : Nat) (u : Value), i + m = n ∧ s = [(0, .int .i64 n), (1, .int .i64 c), (5, u), (6, .int .i64 i)] ∧ Holds h h' [.own u 1 ((bitsL i c).map encI)]) (fun I hI m s h' => ?_) (n := n) ⟨0, _, Nat.zero_add _, by simp; rfl, by simpa [bitsL] using H0⟩
  rintro ⟨i, u, hi, rfl, H⟩
  by_cases hlt : i < n
  · have hlt' : (i : Int) < n := by omega
    have bl := @bits_len i c
    have bs := @bits_snoc i c
    have bv := bit_val (i := i) hc
    cases ct : c.testBit i
    · rw [ct, if_neg (by simp)] at bs bv
      rw [List.append_nil] at bs
      simp -implicitDefEqProofs [hlt, hlt', shr_eq hc, bv, winc hlt (by omega)]
      exact ⟨m - 1, by omega, on hI ⟨i + 1, _, by omega, rfl, by rw [bs]; exact H⟩⟩
    · rw [ct, if_pos rfl] at bs bv
      obtain ⟨v', h2, ha, H2, _⟩ := push_I0 H 0 rfl (i : Int) (by omega)
      simp -implicitDefEqProofs [hlt, hlt', shr_eq hc, bv, ha, winc hlt (by omega)]
      exact ⟨m - 1, by omega, on hI ⟨i + 1, _, by omega, rfl, by rw [bs]; exact H2⟩⟩
  · have hlt' : ¬ (i : Int) < n := by omega
    have : i = n := by omega
    subst this
    simp -implicitDefEqProofs [hlt']
    exact onK hK (H.ret 0 rfl)
end Go.Pm.PP

/- Due orders and timely sets, by both. -/
set_option linter.unusedVariables false
set_option linter.unusedSimpArgs false
set_option maxRecDepth 4000
set_option maxHeartbeats 8000000
namespace Go.Pm.PP
open Go.Pm Go.Proofs Go.Pm.PE
/-- Times and dates are not too great. -/
structure Bd (js : List Job) : Prop where
  t : ∀ x, 0 ≤ (jA js x).t ∧ (jA js x).t ≤ 2 ^ 20
  d : ∀ x, -(2 ^ 20) ≤ (jA js x).d ∧ (jA js x).d ≤ 2 ^ 20
theorem good_bd {js : List Job} (hg : goodL js = true) : Bd js := by
  constructor
  all_goals
    intro x
    rcases @jA_in js x with g | g
    · have := job_of (List.all_eq_true.1 hg _ g); omega
    · rw [g]; simp
/-- Put into the middle, in a region that draws its order. -/
theorem ins_mid {h0 h : Hp} {L : List Asn} (H : Holds h0 h L) (i : Nat) {u : Value} {xs : List Int} (hi : L[i]? = some (.own u 1 (xs.map encI))) {k : Nat} (hk : k ≤ xs.length) (x : Int) (hn : xs.length ≤ 2 ^ 20) :
    ∃ (a3 : Option Addr) (b3 c3 : Nat) (a4 : Option Addr) (b4 c4 : Nat) (h4 : Hp) (a5 : Option Addr) (b5 c5 : Nat) (h5 : Hp) (a6 : Option Addr) (b6 c6 : Nat) (v7 : Value) (h7 : Hp),
      sliceP P h t_S_int u none (some (.int .i64 k)) = some (.slice a3 b3 c3) ∧ appendP P h t_S_int (.slice none 0 0) (.slice a3 b3 c3) = some (.slice a4 b4 c4, h4) ∧ newOk h h4 ∧
      appendP P (h4 ++ [some ⟨[.int .i64 x], 1, false⟩]) t_S_int (.slice a4 b4 c4) (.slice (some ⟨h4.length, 0, some 1⟩) 1 1) = some (.slice a5 b5 c5, h5) ∧ modOk h.length (h4 ++ [some ⟨[.int .i64 x], 1, false⟩]) h5 ∧ newOk h h5 ∧
      sliceP P h5 t_S_int u (some (.int .i64 k)) none = some (.slice a6 b6 c6) ∧ appendP P h5 t_S_int (.slice a5 b5 c5) (.slice a6 b6 c6) = some (v7, h7) ∧ h <+: h4 ∧ Holds h0 h7 (L.set i (.own v7 1 ((xs.take k ++ x :: xs.drop k).map encI))) ∧ h <+: h7 := by
  have S2 := H.sees i hi
  obtain ⟨v3, s3, f3⟩ := S2.front (P := P) u_S_int i_int (k := .i64) (j := (k : Int)) (by omega) (by simp; omega)
  rw [Int.toNat_natCast, ← List.map_take] at f3
  have H0 := own_nil (Holds.start (h := h)) Int encI 1
  obtain ⟨v4, h4, ha4, H4', _⟩ := app_I H0 0 rfl f3 (by simp; omega)
  have H4 : Holds h h4 [.own v4 1 ((xs.take k).map encI)] := H4'
  have n4 : NR h.length h4 := append_nr nr_self ha4
  have no4 := newOk_of H4.pre n4
  obtain ⟨v5, h5, ha5, H5', k5, _⟩ := push_I0 H4 0 rfl x (by simp; omega)
  have H5 : Holds h h5 [.own v5 1 ((xs.take k ++ [x]).map encI)] := H5'
  have n5 : NR h.length (h4 ++ [some ⟨[.int .i64 x], 1, false⟩]) := n4.new [.int .i64 x] 1
  have md := app_mod (b := h.length) rfl n5 ha5 (H4.pre.trans (List.prefix_append ..)) H5.pre
  have n6 := append_nr n5 ha5
  obtain ⟨v6, s6, f6, _⟩ := (S2.pre H5.pre).back (P := P) u_S_int i_int (k := .i64) (j := (k : Int)) (by omega) (by simp; omega)
  rw [Int.toNat_natCast, ← List.map_drop] at f6
  obtain ⟨v7, h7, ha7, H7', _⟩ := app_I H5 0 rfl f6 (by simp; omega)
  have H7 : Holds h h7 [.own v7 1 ((xs.take k ++ x :: xs.drop k).map encI)] := by
    have : Holds h h7 [.own v7 1 ((xs.take k ++ [x] ++ xs.drop k).map encI)] := H7'
    rw [List.append_assoc] at this
    exact this
  obtain ⟨a3, b3, c3, rfl⟩ : ∃ a n c, v3 = .slice a n c := by obtain ⟨a, c, e⟩ := f3.shape; exact ⟨_, _, _, e⟩
  obtain ⟨a4, b4, c4, rfl⟩ : ∃ a n c, v4 = .slice a n c := by obtain ⟨a, c, e⟩ := (H4.sees 0 rfl).shape; exact ⟨_, _, _, e⟩
  obtain ⟨a5, b5, c5, rfl⟩ : ∃ a n c, v5 = .slice a n c := by obtain ⟨a, c, e⟩ := (H5.sees 0 rfl).shape; exact ⟨_, _, _, e⟩
  obtain ⟨a6, b6, c6, rfl⟩ : ∃ a n c, v6 = .slice a n c := by obtain ⟨a, c, e⟩ := f6.shape; exact ⟨_, _, _, e⟩
  have HJ := H.join H7
  have hil := (List.getElem?_eq_some_iff.1 hi).1
  refine ⟨a3, b3, c3, a4, b4, c4, h4, a5, b5, c5, h5, a6, b6, c6, v7, h7, s3, ha4, no4, ha5, md, newOk_of H5.pre n6, s6, ha7, H4.pre, ?_, H7.pre⟩
  refine HJ.sub (fun j => if j = i then L.length else j) (fun j A e => ?_) fun j1 j2 A B e1 e2 g => ?_
  · rw [List.getElem?_set] at e
    split at e
    · rename_i e2
      subst e2
      cases e
      rw [if_pos rfl, List.getElem?_append_right (Nat.le_refl _), Nat.sub_self]; rfl
    · rename_i e2
      rw [if_neg fun g => e2 g.symm, List.getElem?_append_left (List.getElem?_eq_some_iff.1 e).1]
      exact e
  · have l1 := (List.getElem?_eq_some_iff.1 e1).1
    have l2 := (List.getElem?_eq_some_iff.1 e2).1
    rw [List.length_set] at l1 l2
    split at g <;> split at g <;> omega
section
variable {h : Hp} {vj v : Value} {js : List Job} {xs : List Int}
theorem onTime_run (J : Jobs h vj js) (X : Ints h v xs) (hin : inN js.length xs) (hn : xs.length ≤ 2 ^ 10) (bd : Bd js) : Ret P G n_impl_onTime [vj, v] h (.bool (timGo js 0 (sortB (dAh js) xs))) h := by
  refine enter_run e_impl_onTime (by simp) ?_
  have Js := J
  obtain ⟨oj, cj, rfl⟩ := J.shapeT
  have H0 := (Holds.start (h := h)).alloc [.slice oj js.length cj]
  have Xs := X
  obtain ⟨ox, cx, rfl⟩ := X.shapeT
  simp -implicitDefEqProofs
  have ps := sortB_perm (ah := dAh js) (l := xs)
  refine CL_post (sortedBy_run (ah := dAh js) (Xs.pre (List.prefix_append ..)) (by omega) fun h2 hp2 a b ha hb => ?_) fun v2 h2 ⟨hp2, ho2⟩ => ?_
  · exact onTime_1_run (Js.pre ((List.prefix_append ..).trans hp2)) ((H0.ext hp2).box 0 rfl) (hin a ha) (hin b hb)
  have hp := (List.prefix_append h [some (⟨[.slice oj js.length cj], 0, false⟩ : Row)]).trans hp2
  have S2 : Ints h2 v2 (sortB (dAh js) xs) := ho2.sees
  have hins : inN js.length (sortB (dAh js) xs) := fun x hx => hin x (ps.mem_iff.1 hx)
  have hl : (sortB (dAh js) xs).length = xs.length := sortB_len
  generalize sortB (dAh js) xs = ys at *
  have S2s := S2
  obtain ⟨oy, cy, rfl⟩ := S2.shapeT
  have lb := (H0.ext hp2).bl (P := P) 0 1 rfl rfl
  simp -implicitDefEqProofs
  refine R_loopO (fun m s h' => ∃ (i : Nat) (now : Int), i + m = ys.length ∧ s = [(2, .pointer (some ⟨h.length, 0, some 1⟩)), (5, .int .i64 now), (10, .slice oy ys.length cy), (11, .int .i64 ys.length), (12, .int .i64 i)] ∧ h' = h2 ∧ 0 ≤ now ∧ now ≤ i * 2 ^ 20 ∧ timGo js 0 ys = timGo js now (ys.drop i)) (fun I hI m s h' => ?_) (n := ys.length)
    ⟨0, 0, Nat.zero_add _, by simp, rfl, by omega, by omega, by simp⟩
  rintro ⟨i, now, hi, rfl, rfl, n0, n1, hx⟩
  by_cases hlt : i < ys.length
  · obtain ⟨y, hy, hd⟩ := drop_at hlt
    rw [hd, timGo] at hx
    have ly := load_I S2s hy
    have bt := bd.t y
    have lj := load_JX (Js.pre hp) (hins y (List.mem_of_getElem? hy))
    have w1 : IntKind.i64.wrap (now + (jA js y).t) = now + (jA js y).t := by rw [wrap_ok] <;> omega
    by_cases c1 : now + (jA js y).t ≤ (jA js y).d
    · have c2 : ¬ (jA js y).d < now + (jA js y).t := by omega
      rw [decide_eq_true c1, Bool.true_and] at hx
      simp -implicitDefEqProofs [-indexAddrP_some, hlt, ly, lb, lj, w1, c1, c2, winc hlt (by omega)]
      exact ⟨m - 1, by omega, on hI ⟨i + 1, _, by omega, rfl, rfl, by omega, by omega, hx⟩⟩
    · have c2 : (jA js y).d < now + (jA js y).t := by omega
      rw [decide_eq_false c1, Bool.false_and] at hx
      simp -implicitDefEqProofs [-indexAddrP_some, hlt, ly, lb, lj, w1, c1, c2, hx]
      exact gcP hp rfl
  · rw [List.drop_eq_nil_of_le (by omega), timGo] at hx
    simp -implicitDefEqProofs [hlt, hx]
    exact gcP hp rfl
theorem l6Due_run (J : Jobs h vj js) (X : Ints h v xs) (hin : inN js.length xs) (hn : xs.length ≤ 2 ^ 10) : RunsC P G n_spec_l6Due [vj, v] h fun w h' => h <+: h' ∧ Own h.length h' w 1 ((dueF js xs).map encI) := by
  refine hideC fun K hK => enter_run e_spec_l6Due (by simp) ?_
  have Js := J
  have Xs := X
  obtain ⟨oj, cj, rfl⟩ := J.shapeT
  obtain ⟨ox, cx, rfl⟩ := X.shapeT
  have H0 := own_nil (Holds.start (h := h)) Int encI 1
  simp -implicitDefEqProofs
  refine R_loopO (fun m s h' => ∃ (i : Nat) (u : Value) (us : List Int), i + m = xs.length ∧ s = [(0, .slice oj js.length cj), (1, .slice ox xs.length cx), (5, u), (6, .int .i64 i)] ∧ us.length = i ∧ (∀ z, z ∈ us → z ∈ xs) ∧
    dueF js xs = (xs.drop i).foldl (fun l x => insF (fun y => sooner js y x) x l) us ∧ Holds h h' [.own u 1 (us.map encI)]) (fun I hI m s h' => ?_) (n := xs.length) ⟨0, _, [], Nat.zero_add _, by simp, rfl, by simp, rfl, H0⟩
  rintro ⟨i, u, us, hi, rfl, hul, hsub, hx, H⟩
  by_cases hlt : i < xs.length
  · obtain ⟨y, hy, hd⟩ := drop_at hlt
    rw [hd, List.foldl_cons] at hx
    have hyx := hin y (List.mem_of_getElem? hy)
    have S := H.sees 0 rfl
    obtain ⟨ou, cu, rfl⟩ : ∃ a c, u = .slice a us.length c := by obtain ⟨a, c, e⟩ := S.shapeT; exact ⟨a, c, e⟩
    simp -implicitDefEqProofs [hlt]
    refine R_loopO (fun m2 s h2 => ∃ (k : Nat), k + m2 = us.length ∧ s = [(0, .slice oj js.length cj), (1, .slice ox xs.length cx), (5, .slice ou us.length cu), (6, .int .i64 i), (7, .int .i64 k)] ∧ h2 = h' ∧ ∀ i z, i < k → us[i]? = some z → sooner js z y = true) (fun I2 hI2 m2 s h2 => ?_) (n := us.length)
      ⟨0, Nat.zero_add _, by simp, rfl, fun i z h => by omega⟩
    rintro ⟨k, hk, rfl, rfl, hall⟩
    have lyx := load_I (Xs.pre H.pre) hy
    have fin : (∀ z, us[k]? = some z → sooner js z y = false) → us.take k ++ y :: us.drop k = insF (fun z => sooner js z y) y us := fun g => (insF_take (by omega) hall g).symm
    have hins : (insF (fun z => sooner js z y) y us).length = i + 1 := by rw [insF_perm.length_eq, List.length_cons, hul]
    have hsub' : ∀ z, z ∈ insF (fun z => sooner js z y) y us → z ∈ xs := fun z hz => by
      rcases List.mem_cons.1 (insF_perm.mem_iff.1 hz) with rfl | g
      · exact List.mem_of_getElem? hy
      · exact hsub z g
    obtain ⟨a3, b3, c3, a4, b4, c4, h4, a5, b5, c5, h5, a6, b6, c6, v7, h7, s3, ha4, no4, ha5, md, no5, s6, ha7, hp4, H7, hp7⟩ := ins_mid H 0 rfl (k := k) (by omega) y (by omega)
    by_cases hlk : k < us.length
    · obtain ⟨z, hz, _⟩ := drop_at hlk
      have lz := load_I S hz
      have rs := l6Sooner_run (Js.pre H.pre) (hin z (hsub z (List.mem_of_getElem? hz))) hyx
      cases c1 : sooner js z y
      · rw [c1] at rs
        rw [fin (fun z' g => by rw [hz] at g; cases g; exact c1)] at H7
        have hlk' : (k : Int) < us.length := by omega
        simp -implicitDefEqProofs [-indexAddrP_some, hlk, hlk', lz, lyx, CL_ret rs, CH_at rs, s3, ha4, no4, ha5, md, no5, s6, ha7, load_I (Xs.pre (H.pre.trans hp4)) hy, winc hlt (by omega)]
        exact ⟨m - 1, by omega, on hI ⟨i + 1, v7, _, by omega, rfl, hins, hsub', hx, H7⟩⟩
      · rw [c1] at rs
        have hlk' : (k : Int) < us.length := by omega
        simp -implicitDefEqProofs [-indexAddrP_some, hlk, hlk', lz, lyx, CL_ret rs, CH_at rs, winc hlk (by omega)]
        exact ⟨m2 - 1, by omega, on hI2 ⟨k + 1, by omega, rfl, rfl, fun i z' h1 h2 => by
          rcases Nat.lt_or_ge i k with g | g
          · exact hall i z' g h2
          · have : i = k := by omega
            subst this
            rw [hz] at h2; cases h2; exact c1⟩⟩
    · rw [fin (fun z' g => by rw [List.getElem?_eq_none (by omega)] at g; cases g)] at H7
      have hlk' : ¬ (k : Int) < us.length := by omega
      simp -implicitDefEqProofs [-indexAddrP_some, hlk, hlk', lyx, s3, ha4, no4, ha5, md, no5, s6, ha7, load_I (Xs.pre (H.pre.trans hp4)) hy, winc hlt (by omega)]
      exact ⟨m - 1, by omega, on hI ⟨i + 1, v7, _, by omega, rfl, hins, hsub', hx, H7⟩⟩
  · rw [List.drop_eq_nil_of_le (by omega), List.foldl_nil] at hx
    rw [hx] at hK
    simp -implicitDefEqProofs [hlt]
    exact onK hK (H.ret 0 rfl)
end
end Go.Pm.PP

/- The greatest lateness and delays, by both; the draw. -/
set_option linter.unusedVariables false
set_option linter.unusedSimpArgs false
set_option maxRecDepth 4000
set_option maxHeartbeats 8000000
namespace Go.Pm.PP
open Go.Pm Go.Proofs Go.Pm.PE
theorem ord_perm {n : Nat} {xs : List Int} (o : Ord n xs) : xs.Perm (upTo n) := (List.perm_ext_iff_of_nodup o.nd (upTo_nodup n)).2 fun x => by
  rw [mem_upTo]
  refine ⟨fun hx => o.inn x hx, fun hx => ?_⟩
  have := o.all (i := x.toNat) (by omega)
  rwa [show ((x.toNat : Nat) : Int) = x by omega] at this
theorem ord_prm {n : Nat} {xs : List Int} (o : Ord n xs) : Prm n xs := by
  have := ord_perm o
  rwa [upTo, List.range_eq_range'] at this
section
variable {h : Hp} {vj v : Value} {js : List Job} {xs : List Int}
theorem shl_eq {i : Nat} (hi : i ≤ 60) : shiftI .shl .i64 1 i = some (.int .i64 ((2 ^ i : Nat) : Int)) := by
  have h0 : ¬ (i : Int) < 0 := by omega
  have hb : IntKind.i64.bits = 64 := rfl
  simp only [shiftI, if_neg h0, Int.toNat_natCast]
  rw [hb, Nat.min_eq_left (by omega), Int.one_mul]
  have e1 : ((2 : Int) ^ i) = ((2 ^ i : Nat) : Int) := by simp
  have e2 : 2 ^ i ≤ 2 ^ 60 := Nat.pow_le_pow_right (by omega) hi
  rw [e1]
  generalize 2 ^ i = d at e2 ⊢
  rw [wrap_ok (by omega) (by omega)]
theorem l6Timely_run (J : Jobs h vj js) (X : Ints h v xs) (hin : inN js.length xs) (hn : xs.length ≤ 2 ^ 10) (bd : Bd js) : Ret P G n_spec_l6Timely [vj, v] h (.bool (timGo js 0 (dueF js xs))) h := by
  refine enter_run e_spec_l6Timely (by simp) ?_
  have Js := J
  have Xs := X
  obtain ⟨oj, cj, rfl⟩ := J.shapeT
  obtain ⟨ox, cx, rfl⟩ := X.shapeT
  simp -implicitDefEqProofs
  refine CL_post (l6Due_run Js Xs hin hn) fun v2 h2 ⟨hp, ho2⟩ => ?_
  have S2 : Ints h2 v2 (dueF js xs) := ho2.sees
  have hgo : ∀ {l acc : List Int}, inN js.length l → inN js.length acc → inN js.length (l.foldl (fun l x => insF (fun y => sooner js y x) x l) acc) ∧ (l.foldl (fun l x => insF (fun y => sooner js y x) x l) acc).length = acc.length + l.length := by
    intro l
    induction l with
    | nil => intro acc _ h; exact ⟨h, by simp⟩
    | cons x l ih =>
      intro acc h1 h2
      rw [List.foldl_cons]
      have p : (insF (fun y => sooner js y x) x acc).Perm (x :: acc) := insF_perm
      obtain ⟨g1, g2⟩ := ih (acc := insF (fun y => sooner js y x) x acc) (fun y hy => h1 y (List.mem_cons_of_mem _ hy)) fun y hy => by
        rcases List.mem_cons.1 (p.mem_iff.1 hy) with rfl | g
        · exact h1 y (List.mem_cons_self ..)
        · exact h2 y g
      exact ⟨g1, by rw [g2, p.length_eq]; simp; omega⟩
  obtain ⟨hins, hl⟩ := hgo (l := xs) (acc := []) hin fun y hy => by cases hy
  have hl : (dueF js xs).length = xs.length := by rw [dueF, hl]; simp
  have hins : inN js.length (dueF js xs) := hins
  generalize dueF js xs = ys at *
  have S2s := S2
  obtain ⟨oy, cy, rfl⟩ := S2.shapeT
  simp -implicitDefEqProofs
  refine R_loopO (fun m s h' => ∃ (i : Nat) (now : Int), i + m = ys.length ∧ s = [(0, .slice oj js.length cj), (5, .slice oy ys.length cy), (6, .int .i64 now), (7, .int .i64 i)] ∧ h' = h2 ∧ 0 ≤ now ∧ now ≤ i * 2 ^ 20 ∧ timGo js 0 ys = timGo js now (ys.drop i)) (fun I hI m s h' => ?_) (n := ys.length)
    ⟨0, 0, Nat.zero_add _, by simp, rfl, by omega, by omega, by simp⟩
  rintro ⟨i, now, hi, rfl, rfl, n0, n1, hx⟩
  by_cases hlt : i < ys.length
  · obtain ⟨y, hy, hd⟩ := drop_at hlt
    rw [hd, timGo] at hx
    have ly := load_I S2s hy
    have bt := bd.t y
    have lj := load_JX (Js.pre hp) (hins y (List.mem_of_getElem? hy))
    have w1 : IntKind.i64.wrap (now + (jA js y).t) = now + (jA js y).t := by rw [wrap_ok] <;> omega
    by_cases c1 : now + (jA js y).t ≤ (jA js y).d
    · have c2 : ¬ (jA js y).d < now + (jA js y).t := by omega
      rw [decide_eq_true c1, Bool.true_and] at hx
      simp -implicitDefEqProofs [-indexAddrP_some, hlt, ly, lj, w1, c1, c2, winc hlt (by omega)]
      exact ⟨m - 1, by omega, on hI ⟨i + 1, _, by omega, rfl, rfl, by omega, by omega, hx⟩⟩
    · have c2 : (jA js y).d < now + (jA js y).t := by omega
      rw [decide_eq_false c1, Bool.false_and] at hx
      simp -implicitDefEqProofs [-indexAddrP_some, hlt, ly, lj, w1, c1, c2, hx]
      exact gcP hp rfl
  · rw [List.drop_eq_nil_of_le (by omega), timGo] at hx
    simp -implicitDefEqProofs [hlt, hx]
    exact gcP hp rfl
/-! ### with a delay -/
end
/-! ### in plain terms -/
/-- Timely after a delay along an order of jobs. -/
def timD (js : List Job) (dl : Int) : Int → List Int → Bool
  | _, [] => true
  | now, x :: r => decide (now + (jA js x).t ≤ (jA js x).d + dl) && timD js dl (now + (jA js x).t) r
theorem timD_lat {js : List Job} (p : Pl js) {dl : Int} : ∀ {xs : List Int} {now m : Int}, 0 ≤ now → m ≤ dl → (timD js dl now xs = true ↔ latGo js now m xs ≤ dl)
  | [], now, m, _, hm => by simp [timD, latGo, hm]
  | x :: r, now, m, h, hm => by
    have := p.t x
    rw [timD, latGo, p.endAt h, Bool.and_eq_true, decide_eq_true_eq]
    have mono : ∀ {xs : List Int} {now m : Int}, m ≤ latGo js now m xs := by
      intro xs
      induction xs with
      | nil => intro now m; exact Int.le_refl _
      | cons x xs ih =>
        intro now m
        rw [latGo]
        exact Int.le_trans (by omega) ih
    constructor
    · rintro ⟨h1, h2⟩
      exact (timD_lat p (by omega) (by omega)).1 h2
    · intro hl
      have h1 := @mono r (now + (jA js x).t) (max m (now + (jA js x).t - (jA js x).d))
      have h2 : now + (jA js x).t ≤ (jA js x).d + dl := by omega
      exact ⟨h2, (timD_lat p (by omega) (by omega)).2 hl⟩
/-- The value of an order for the greatest lateness. -/
theorem valX_lat {js : List Job} (hok : plOk js = true) {xs : List Int} (o : Ord js.length xs) (hne : 0 < js.length) : valX 4 js xs = latGo js 0 (-(2 ^ 20)) xs := by
  obtain ⟨hn, hg, _⟩ := plOk_of hok
  refine val_lat (ord_prm o) ⟨(0 : Nat), o.all hne, ?_⟩
  have e0 : gE (endsL js xs) ((0 : Nat) : Int).toNat ∈ endsL js xs := by
    have : (0 : Nat) < (endsL js xs).length := by rw [endsL_len]; exact hne
    have := gE_get this
    exact List.mem_of_getElem? this
  have := endGo_bd hg (k := 0) o.inn (Int.le_refl 0) (by omega) (fun e he => by rw [List.eq_of_mem_replicate he]; omega) _ e0
  have := (good_bd hg).d ((0 : Nat) : Int)
  omega
end Go.Pm.PP

/- FnLateness in the small machine. -/
set_option linter.unusedVariables false
set_option linter.unusedSimpArgs false
set_option maxRecDepth 4000
set_option maxHeartbeats 8000000
namespace Go.Pm.PP
open Go.Pm Go.Proofs Go.Pm.PE
section
variable {h0 h : Hp} {r n : Nat} {vc : Value} {L : List Asn}
theorem plainJobs_run (B : By h0 vc) (C : Cur h0 h r vc n L) (hn : n ≤ 2 ^ 19) {most : Nat} (hm : most ≤ 8) : RunsC P G n_spec_l1Cur_plainJobs [.pointer (some ⟨r, 0, some 3⟩), .int .i64 most] h fun v h' => ∃ js : List Job, js.length ≤ 9 ∧ Cur h0 h' r vc (n + 202) (L ++ [.own v 4 (js.map encJ)]) := by
  refine hideC fun K hK => enter_run e_spec_l1Cur_plainJobs (by simp) ?_
  simp -implicitDefEqProofs
  refine CL_post (one_run B C (by omega) (k := 16) (by omega)) fun v h1 ⟨b, ev, C1⟩ => ?_
  subst ev
  simp -implicitDefEqProofs
  refine CL_post (someJobs_run B C1 (by omega) (b := b) (most := most) hm) fun v h2 ⟨js, hl, C2⟩ => ?_
  obtain ⟨ua, uc, rfl⟩ : ∃ a c, v = .slice a js.length c := C2.seesJ.shapeT
  simp -implicitDefEqProofs
  exact onK hK ⟨js, hl, C.gcO (C2.mono (by omega)) (fun h => h)⟩
end
end Go.Pm.PP

/- Typed rules for slices: printed by a program of this work (wrap.py). -/
set_option linter.unusedVariables false
set_option linter.unusedSimpArgs false
set_option maxRecDepth 4000
namespace Go.Pm.PP
open Go.Pm Go.Proofs
end Go.Pm.PP

/- Rule differences, ruled orders and inversions, by both. -/
set_option linter.unusedVariables false
set_option linter.unusedSimpArgs false
set_option maxRecDepth 4000
set_option maxHeartbeats 8000000
namespace Go.Pm.PP
open Go.Pm Go.Proofs Go.Pm.PE
section
variable {h : Hp} {vj v : Value} {js : List Job} {xs : List Int} {o : Int}
theorem jobOk_jA (hg : goodL js = true) {x : Int} (hx : 0 ≤ x ∧ x < js.length) : jobOk (jA js x) = true := by
  obtain ⟨q, hq, hql, hqy⟩ := jA_get (js := js) rfl hx
  exact job_at hg hqy
end
end Go.Pm.PP

/- Inversions, losses, ruled orders, exchanges, by both. -/
set_option linter.unusedVariables false
set_option linter.unusedSimpArgs false
set_option maxRecDepth 4000
set_option maxHeartbeats 8000000
namespace Go.Pm.PP
open Go.Pm Go.Proofs Go.Pm.PE
theorem sliceP_pre {h h' : Hp} {v : Value} {sz : Nat} {els : List (List Value)} (s : Sees h v sz els) (hp : h <+: h') {ty e : TypeId} (hu : P.underlying ty = some (.slice e)) {lo hi : Option Value} : sliceP P h' ty v lo hi = sliceP P h ty v lo hi := by
  obtain ⟨_, oa, c, rfl, h3⟩ := s
  rcases h3 with ⟨rfl, rfl, rfl⟩ | ⟨r, o, x, rfl, h5, _⟩
  · simp only [sliceP, hu, List.length_nil]
  · have h5' : h'[r]? = some (some x) := by
      obtain ⟨l, rfl⟩ := hp
      rw [List.getElem?_append_left (List.getElem?_eq_some_iff.1 h5).1]; exact h5
    have h5 : h[r]? = some (some x) := h5
    simp only [sliceP, hu, rowAt, h5, h5']
/-- What lies behind a place, cut later, is seen as before. -/
theorem back_pre {h h' : Hp} {v : Value} {xs : List Int} (s : Ints h v xs) (hp : h <+: h') {j : Nat} (hj : j ≤ xs.length) : ∃ v', sliceP P h' t_S_int v (some (.int .i64 (j : Int))) none = some v' ∧ Ints h v' (xs.drop j) := by
  obtain ⟨v6, s6, f6, _⟩ := s.back (P := P) u_S_int i_int (k := .i64) (j := (j : Int)) (by omega) (by simp; omega)
  rw [Int.toNat_natCast, ← List.map_drop] at f6
  exact ⟨v6, by rw [sliceP_pre s hp u_S_int]; exact s6, f6⟩
section
variable {h : Hp} {vj v : Value} {js : List Job} {xs : List Int} {o : Int}
/-! ### losses -/
end
end Go.Pm.PP

/- Whether an order is ruled, exchanges, codes that are cut, pairs that are the same. -/
set_option linter.unusedVariables false
set_option linter.unusedSimpArgs false
set_option maxRecDepth 4000
set_option maxHeartbeats 8000000
namespace Go.Pm.PP
open Go.Pm Go.Proofs Go.Pm.PE
section
variable {h : Hp} {vj v u : Value} {js : List Job} {xs : List Int} {o : Int}
end
end Go.Pm.PP

/- Ruled orders are best, in plain terms: the last end too. -/
set_option linter.unusedVariables false
set_option linter.unusedSimpArgs false
namespace Go.Pm.PP
open Go.Pm Go.Pm.PE
end Go.Pm.PP

/- Draws: plain jobs, ruled orders, inversions. -/
set_option linter.unusedVariables false
set_option linter.unusedSimpArgs false
set_option maxRecDepth 4000
set_option maxHeartbeats 8000000
namespace Go.Pm.PP
open Go.Pm Go.Proofs Go.Pm.PE
section
variable {h : Hp} {vj v : Value} {js : List Job} {o : Int}
end
/-! ### draws -/
section
variable {h0 h : Hp} {r n : Nat} {vc : Value} {L : List Asn}
theorem Cur.fputJ {u : Value} {js : List Job} (C : Cur h0 h r vc n (L ++ [.own u 4 (js.map encJ)])) {k : Nat} {y : Job} (hy : js[k]? = some y) (z : Int) :
    (∃ h', storeP P h t_int (.int .i64 z) (.pointer (some (addP (addP (base u) (k * 4)) 0))) = some h' ∧ Cur h0 h' r vc n (L ++ [.own u 4 ((js.set k ⟨z, y.w, y.r, y.d⟩).map encJ)])) ∧
    (∃ h', storeP P h t_int (.int .i64 z) (.pointer (some (addP (addP (base u) (k * 4)) 1))) = some h' ∧ Cur h0 h' r vc n (L ++ [.own u 4 ((js.set k ⟨y.t, z, y.r, y.d⟩).map encJ)])) ∧
    (∃ h', storeP P h t_int (.int .i64 z) (.pointer (some (addP (addP (base u) (k * 4)) 2))) = some h' ∧ Cur h0 h' r vc n (L ++ [.own u 4 ((js.set k ⟨y.t, y.w, z, y.d⟩).map encJ)])) ∧
    (∃ h', storeP P h t_int (.int .i64 z) (.pointer (some (addP (addP (base u) (k * 4)) 3))) = some h' ∧ Cur h0 h' r vc n (L ++ [.own u 4 ((js.set k ⟨y.t, y.w, y.r, z⟩).map encJ)])) := by
  obtain ⟨a, s, h1, h2, H⟩ := C
  have hi : (cu r vc a s :: (L ++ [.own u 4 (js.map encJ)]))[L.length + 1]? = some (.own u 4 (js.map encJ)) := by rw [List.getElem?_cons_succ]; exact snoc_get
  have es : ∀ A : Asn, (cu r vc a s :: (L ++ [.own u 4 (js.map encJ)])).set (L.length + 1) A = cu r vc a s :: (L ++ [A]) := fun A => by
    rw [List.set_cons_succ, List.set_append_right (h := Nat.le_refl _), Nat.sub_self]; rfl
  refine ⟨?_, ?_, ?_, ?_⟩
  · obtain ⟨h', g1, g2, _⟩ := fput_J0 H _ hi hy z
    rw [es] at g2
    exact ⟨h', g1, a, s, h1, h2, g2⟩
  · obtain ⟨h', g1, g2, _⟩ := fput_J1 H _ hi hy z
    rw [es] at g2
    exact ⟨h', g1, a, s, h1, h2, g2⟩
  · obtain ⟨h', g1, g2, _⟩ := fput_J2 H _ hi hy z
    rw [es] at g2
    exact ⟨h', g1, a, s, h1, h2, g2⟩
  · obtain ⟨h', g1, g2, _⟩ := fput_J3 H _ hi hy z
    rw [es] at g2
    exact ⟨h', g1, a, s, h1, h2, g2⟩
end
theorem plain2T {a b : Value} {r : List Value} (h : plain (.tuple (a :: b :: r).toArray) = true) : plainC b = true := by
  have : ((a :: b :: r).toArray : Array Value).toList.all plainC = true := h
  simp only [List.all_cons, Bool.and_eq_true] at this
  exact this.2.1
theorem gc_JX {h h1 : Hp} {u w : Value} {r : List Value} {js : List Job} {xs : List Int} (hp : h <+: h1) (J : Jobs h1 u js) (X : Ints h1 w xs) : h <+: gc h h1 (.tuple (u :: w :: r).toArray) ∧ Jobs (gc h h1 (.tuple (u :: w :: r).toArray)) u js ∧ Ints (gc h h1 (.tuple (u :: w :: r).toArray)) w xs :=
  ⟨pre_gcU hp, Sees.gcU J fun g => plainT (r := w :: r) g, Sees.gcU X fun g => plain2T (r := r) g⟩
end Go.Pm.PP

/- FnPairLoss in the small machine. -/
set_option linter.unusedVariables false
set_option linter.unusedSimpArgs false
set_option maxRecDepth 4000
set_option maxHeartbeats 16000000
namespace Go.Pm.PP
open Go.Pm Go.Proofs Go.Pm.PE
end Go.Pm.PP

/- Ruled orders, by both. -/
set_option linter.unusedVariables false
set_option linter.unusedSimpArgs false
set_option maxRecDepth 4000
set_option maxHeartbeats 8000000
namespace Go.Pm.PP
open Go.Pm Go.Proofs Go.Pm.PE
section
variable {h : Hp} {vj v u : Value} {js : List Job} {xs ys : List Int} {o : Int}
/-! ### rule differences -/
end
/-! ### ruled orders are best -/
end Go.Pm.PP

/- Fronts of points, in plain terms. -/
set_option linter.unusedVariables false
set_option linter.unusedSimpArgs false
namespace Go.Pm.PE
abbrev Pt := Int × Int
def domB (p q : Pt) : Bool := !(p.1 == q.1 && p.2 == q.2) && decide (p.1 ≤ q.1) && decide (p.2 ≤ q.2)
def sameB (p q : Pt) : Bool := p.1 == q.1 && p.2 == q.2
theorem sameB_iff {p q : Pt} : sameB p q = true ↔ p = q := by
  unfold sameB; rw [Bool.and_eq_true, beq_iff_eq, beq_iff_eq]
  constructor
  · rintro ⟨h1, h2⟩; exact Prod.ext h1 h2
  · rintro rfl; exact ⟨rfl, rfl⟩
theorem domB_iff {p q : Pt} : domB p q = true ↔ p ≠ q ∧ p.1 ≤ q.1 ∧ p.2 ≤ q.2 := by
  have := @sameB_iff p q
  unfold sameB at this
  unfold domB
  rw [Bool.and_eq_true, Bool.and_eq_true, Bool.not_eq_true', decide_eq_true_eq, decide_eq_true_eq, ← Bool.not_eq_true, this, and_assoc]
def insP (p : Pt) : List Pt → List Pt
  | [] => [p]
  | q :: l => if p.1 < q.1 then p :: q :: l else q :: insP p l
theorem insP_perm {p : Pt} : ∀ {l : List Pt}, (insP p l).Perm (p :: l)
  | [] => List.Perm.refl _
  | q :: l => by
    rw [insP]; split
    · exact List.Perm.refl _
    · exact (List.Perm.cons q insP_perm).trans (List.Perm.swap ..)
/-- A point or one that dominates it is there. -/
def coverB (F : List Pt) (p : Pt) : Bool := F.any fun q => sameB q p || domB q p
def restF (F : List Pt) (p : Pt) : List Pt := F.filter fun q => !domB p q
def putF (F : List Pt) (p : Pt) : List Pt := if coverB F p = true then F else insP p (restF F p)
def Srt (F : List Pt) : Prop := F.Pairwise fun a b => a.1 < b.1 ∧ b.2 < a.2
theorem rest_srt {F : List Pt} {p : Pt} (h : Srt F) : Srt (restF F p) := h.sublist List.filter_sublist
theorem rest_mem {F : List Pt} {p q : Pt} : q ∈ restF F p ↔ q ∈ F ∧ domB p q = false := by
  unfold restF; rw [List.mem_filter]; simp
theorem cover_iff {F : List Pt} {p : Pt} : coverB F p = true ↔ ∃ q, q ∈ F ∧ q.1 ≤ p.1 ∧ q.2 ≤ p.2 := by
  unfold coverB
  rw [List.any_eq_true]
  constructor
  · rintro ⟨q, hq, h⟩
    rw [Bool.or_eq_true, sameB_iff, domB_iff] at h
    refine ⟨q, hq, ?_⟩
    rcases h with rfl | h
    · exact ⟨Int.le_refl _, Int.le_refl _⟩
    · exact h.2
  · rintro ⟨q, hq, h1, h2⟩
    refine ⟨q, hq, ?_⟩
    rw [Bool.or_eq_true, sameB_iff, domB_iff]
    by_cases e : q = p
    · exact .inl e
    · exact .inr ⟨e, h1, h2⟩
/-- What is left and the new point part in both numbers. -/
theorem rest_part {F : List Pt} {p q : Pt} (hc : coverB F p = false) (hq : q ∈ restF F p) : (q.1 < p.1 ∧ p.2 < q.2) ∨ (p.1 < q.1 ∧ q.2 < p.2) := by
  obtain ⟨h1, h2⟩ := rest_mem.1 hq
  have h3 : ¬ (q.1 ≤ p.1 ∧ q.2 ≤ p.2) := fun g => by
    have := cover_iff.2 ⟨q, h1, g⟩
    rw [this] at hc; cases hc
  have h4 : ¬ (p ≠ q ∧ p.1 ≤ q.1 ∧ p.2 ≤ q.2) := fun g => by
    rw [domB_iff.2 g] at h2; cases h2
  have h5 : ¬ (p.1 ≤ q.1 ∧ p.2 ≤ q.2) := fun g => h4 ⟨fun e => h3 (by rw [e]; exact ⟨Int.le_refl _, Int.le_refl _⟩), g⟩
  omega
theorem insP_srt {p : Pt} : ∀ {l : List Pt}, Srt l → (∀ q, q ∈ l → (q.1 < p.1 ∧ p.2 < q.2) ∨ (p.1 < q.1 ∧ q.2 < p.2)) → Srt (insP p l)
  | [], _, _ => by rw [insP]; exact List.pairwise_singleton ..
  | q :: l, h, hp => by
    have h := List.pairwise_cons.1 h
    have hq := hp q (List.mem_cons_self ..)
    rw [insP]; split
    · rename_i g
      refine List.pairwise_cons.2 ⟨fun z hz => ?_, List.pairwise_cons.2 h⟩
      rcases List.mem_cons.1 hz with rfl | hz
      · omega
      · have := h.1 z hz; omega
    · rename_i g
      refine List.pairwise_cons.2 ⟨fun z hz => ?_, insP_srt h.2 fun z hz => hp z (List.mem_cons_of_mem _ hz)⟩
      rcases List.mem_cons.1 (insP_perm.mem_iff.1 hz) with rfl | hz
      · omega
      · exact h.1 z hz
theorem putF_srt {F : List Pt} {p : Pt} (h : Srt F) : Srt (putF F p) := by
  unfold putF; split
  · exact h
  · rename_i hc
    exact insP_srt (rest_srt h) fun q hq => rest_part (by simpa using hc) hq
theorem putF_mem {F : List Pt} {p q : Pt} (h : q ∈ putF F p) : q = p ∨ q ∈ F := by
  unfold putF at h; split at h
  · exact .inr h
  · rcases List.mem_cons.1 (insP_perm.mem_iff.1 h) with g | g
    · exact .inl g
    · exact .inr (rest_mem.1 g).1
theorem putF_cover {F : List Pt} {p r : Pt} (h : r = p ∨ ∃ q, q ∈ F ∧ q.1 ≤ r.1 ∧ q.2 ≤ r.2) : ∃ q, q ∈ putF F p ∧ q.1 ≤ r.1 ∧ q.2 ≤ r.2 := by
  unfold putF; split
  · rename_i hc
    rcases h with rfl | h
    · exact cover_iff.1 hc
    · exact h
  · have hp : p ∈ insP p (restF F p) := insP_perm.mem_iff.2 (List.mem_cons_self ..)
    rcases h with rfl | ⟨q, hq, h1, h2⟩
    · exact ⟨r, hp, Int.le_refl _, Int.le_refl _⟩
    · cases hd : domB p q with
      | true =>
        have := domB_iff.1 hd
        exact ⟨p, hp, by omega, by omega⟩
      | false => exact ⟨q, insP_perm.mem_iff.2 (List.mem_cons_of_mem _ (rest_mem.2 ⟨hq, hd⟩)), h1, h2⟩
/-- A front of the points of some things. -/
theorem front_fold {α : Type} {pt : α → Pt} : ∀ {l : List α} {F : List Pt} {S : Pt → Prop}, Srt F → (∀ q, q ∈ F → S q) → (∀ x, x ∈ l → S (pt x)) →
    Srt (l.foldl (fun F x => putF F (pt x)) F) ∧ (∀ q, q ∈ l.foldl (fun F x => putF F (pt x)) F → S q) ∧ ∀ r, ((∃ x, x ∈ l ∧ r = pt x) ∨ ∃ q, q ∈ F ∧ q.1 ≤ r.1 ∧ q.2 ≤ r.2) → ∃ q, q ∈ l.foldl (fun F x => putF F (pt x)) F ∧ q.1 ≤ r.1 ∧ q.2 ≤ r.2
  | [], F, S, h, hS, _ => ⟨h, hS, fun r hr => by
      rcases hr with ⟨x, hx, _⟩ | g
      · cases hx
      · exact g⟩
  | x :: l, F, S, h, hS, hl => by
    rw [List.foldl_cons]
    obtain ⟨h1, h2, h3⟩ := front_fold (l := l) (F := putF F (pt x)) (S := S) (putF_srt h) (fun q hq => by
      rcases putF_mem hq with rfl | g
      · exact hl x (List.mem_cons_self ..)
      · exact hS q g) fun y hy => hl y (List.mem_cons_of_mem _ hy)
    refine ⟨h1, h2, fun r hr => h3 r ?_⟩
    rcases hr with ⟨y, hy, e⟩ | g
    · rcases List.mem_cons.1 hy with rfl | hy
      · exact .inr (putF_cover (.inl e))
      · exact .inl ⟨y, hy, e⟩
    · exact .inr (putF_cover (.inr g))
/-! ### the first one that fits -/
end Go.Pm.PE
namespace Go.Pm.PP
open Go.Pm Go.Pm.PE
end Go.Pm.PP
namespace Go.Pm.PE
/-- A front with bounded first numbers is not long. -/
def FOk (F : List Pt) : Prop := Srt F ∧ ∀ q, q ∈ F → -(2 ^ 30) ≤ q.1 ∧ q.1 ≤ 2 ^ 30
theorem srt_len : ∀ {F : List Pt} {a : Int}, Srt F → (∀ q, q ∈ F → a ≤ q.1 ∧ q.1 ≤ 2 ^ 30) → a ≤ 2 ^ 30 + 1 → (F.length : Int) ≤ 2 ^ 30 + 1 - a
  | [], a, _, _, ha => by simp; omega
  | q :: F, a, h, hb, ha => by
    have h := List.pairwise_cons.1 h
    have hq := hb q (List.mem_cons_self ..)
    have := srt_len (F := F) (a := q.1 + 1) h.2 (fun z hz => by have := h.1 z hz; have := hb z (List.mem_cons_of_mem _ hz); omega) (by omega)
    rw [List.length_cons]; omega
theorem FOk.len {F : List Pt} (h : FOk F) : F.length ≤ 2 ^ 32 := by
  have := srt_len h.1 h.2 (by omega); omega
theorem FOk.put {F : List Pt} (h : FOk F) {p : Pt} (hp : -(2 ^ 30) ≤ p.1 ∧ p.1 ≤ 2 ^ 30) : FOk (putF F p) := ⟨putF_srt h.1, fun q hq => by
  rcases putF_mem hq with rfl | g
  · exact hp
  · exact h.2 q g⟩
theorem FOk.nil : FOk [] := ⟨List.Pairwise.nil, fun q hq => by cases hq⟩
end Go.Pm.PE

/- Points of orders, by both. -/
set_option linter.unusedVariables false
set_option linter.unusedSimpArgs false
set_option maxRecDepth 4000
set_option maxHeartbeats 8000000
namespace Go.Pm.PP
open Go.Pm Go.Proofs Go.Pm.PE
def ptX (f g : Int) (js : List Job) (xs : List Int) : Pt := (valX f js xs, valX g js xs)
section
variable {h : Hp} {vj v u : Value} {js : List Job} {xs : List Int} {f g : Int}
end
end Go.Pm.PP

/- Fronts by the reference. -/
set_option linter.unusedVariables false
set_option linter.unusedSimpArgs false
set_option maxRecDepth 4000
set_option maxHeartbeats 8000000
namespace Go.Pm.PP
open Go.Pm Go.Proofs Go.Pm.PE
theorem Sees.pl {h : Hp} {v : Value} {sz : Nat} {els : List (List Value)} (s : Sees h v sz els) (g : plain v = true) : plainC v = true := by
  obtain ⟨_, oa, c, rfl, _⟩ := s
  exact g
section
variable {h : Hp} {vj v u : Value} {js : List Job} {xs : List Int} {f g : Int}
def upF (f g : Int) (js : List Job) (F : List Pt) (xs : List Int) : List Pt := putF F (ptX f g js xs)
def frontR (f g : Int) (js : List Job) : List Pt := (ordsL js.length).foldl (upF f g js) []
end
end Go.Pm.PP

/- Fronts by the program; what both export. -/
set_option linter.unusedVariables false
set_option linter.unusedSimpArgs false
set_option maxRecDepth 4000
set_option maxHeartbeats 16000000
namespace Go.Pm.PP
open Go.Pm Go.Proofs Go.Pm.PE
section
variable {h : Hp} {vj v u : Value} {js : List Job} {xs : List Int} {f g : Int}
end
end Go.Pm.PP

/- Fronts: what both export. -/
set_option linter.unusedVariables false
set_option linter.unusedSimpArgs false
set_option maxRecDepth 4000
set_option maxHeartbeats 16000000
namespace Go.Pm.PP
open Go.Pm Go.Proofs Go.Pm.PE
section
variable {h : Hp} {vj v u : Value} {js : List Job} {xs : List Int} {f g : Int}
/-! ### the first order with a point -/
end
end Go.Pm.PP

/- The first order with a point of a front, by both; the draw. -/
set_option linter.unusedVariables false
set_option linter.unusedSimpArgs false
set_option maxRecDepth 4000
set_option maxHeartbeats 16000000
namespace Go.Pm.PP
open Go.Pm Go.Proofs Go.Pm.PE
/-! ### a search for the first one -/
section
variable {h : Hp} {vj v u : Value} {js : List Job} {xs : List Int} {f g : Int}
end
/-! ### in plain terms -/
theorem front_facts {f g : Int} {js : List Job} (hn : js.length ≤ 8) : Srt (frontR f g js) ∧ (∀ q, q ∈ frontR f g js → ∃ xs, Ord js.length xs ∧ ptX f g js xs = q) ∧ (∀ xs, Ord js.length xs → ∃ q, q ∈ frontR f g js ∧ q.1 ≤ valX f js xs ∧ q.2 ≤ valX g js xs) := by
  obtain ⟨h1, h2, h3⟩ := front_fold (pt := ptX f g js) (l := ordsL js.length) (F := []) (S := fun q => ∃ xs, Ord js.length xs ∧ ptX f g js xs = q) List.Pairwise.nil (fun q hq => by cases hq) fun xs hx => ⟨xs, ords_ord hx, rfl⟩
  exact ⟨h1, h2, fun xs ox => h3 (ptX f g js xs) (.inl ⟨xs, ord_mem ox, rfl⟩)⟩
end Go.Pm.PP

/- Searches of least mixtures and under limits, by the reference. -/
set_option linter.unusedVariables false
set_option linter.unusedSimpArgs false
set_option maxRecDepth 4000
set_option maxHeartbeats 16000000
namespace Go.Pm.PP
open Go.Pm Go.Proofs Go.Pm.PE
end Go.Pm.PP

/- Least mixtures, by both. -/
set_option linter.unusedVariables false
set_option linter.unusedSimpArgs false
set_option maxRecDepth 4000
set_option maxHeartbeats 16000000
namespace Go.Pm.PP
open Go.Pm Go.Proofs Go.Pm.PE
section
variable {h : Hp} {vj v u : Value} {js : List Job} {xs : List Int} {f g x y : Int}
end
end Go.Pm.PP

/- Supported points, by both. -/
set_option linter.unusedVariables false
set_option linter.unusedSimpArgs false
set_option maxRecDepth 4000
set_option maxHeartbeats 16000000
namespace Go.Pm.PP
open Go.Pm Go.Proofs Go.Pm.PE
section
variable {h : Hp} {vj v u vf : Value} {js : List Job} {F : List Pt} {f g : Int}
end
end Go.Pm.PP

/- Supported points: what both export. -/
set_option linter.unusedVariables false
set_option linter.unusedSimpArgs false
set_option maxRecDepth 4000
set_option maxHeartbeats 16000000
namespace Go.Pm.PP
open Go.Pm Go.Proofs Go.Pm.PE
section
variable {h : Hp} {vj v u vf : Value} {js : List Job} {F : List Pt} {f g : Int}
end
end Go.Pm.PP

/- Best orders under a limit, by both. -/
set_option linter.unusedVariables false
set_option linter.unusedSimpArgs false
set_option maxRecDepth 4000
set_option maxHeartbeats 16000000
namespace Go.Pm.PP
open Go.Pm Go.Proofs Go.Pm.PE
section
variable {h : Hp} {vj v u : Value} {js : List Job} {xs : List Int} {f g lim : Int}
end
end Go.Pm.PP

/- Tables of the least values of sets, by both. -/
set_option linter.unusedVariables false
set_option linter.unusedSimpArgs false
set_option maxRecDepth 4000
set_option maxHeartbeats 8000000
namespace Go.Pm.PP
open Go.Pm Go.Proofs Go.Pm.PE
/-! ### digits in the machine -/
theorem listOf_run {h : Hp} {n c : Nat} (hn : n ≤ 50) (hc : c < 2 ^ n) : RunsC P G n_impl_listOf [.int .i64 c] h fun v h' => h <+: h' ∧ Own h.length h' v 1 ((bitsL n c).map encI) := by
  refine hideC fun K hK => enter_run e_impl_listOf (by simp) ?_
  have H0 := own_nil (Holds.start (h := h)) Int encI 1
  have hc60 : c < 2 ^ 60 := by have : 2 ^ n ≤ 2 ^ 50 := Nat.pow_le_pow_right (by omega) hn; omega
  simp -implicitDefEqProofs
  refine R_loopO (fun m s h' => ∃ (i : Nat) (u : Value), i + m = n ∧ s = [(0, .int .i64 c), (3, u), (4, .int .i64 i)] ∧ Holds h h' [.own u 1 ((bitsL i c).map encI)]) (fun I hI m s h' => ?_) (n := n) ⟨0, _, Nat.zero_add _, by simp; rfl, by simpa [bitsL] using H0⟩
  rintro ⟨i, u, hi, rfl, H⟩
  by_cases hlt : 0 < c / 2 ^ i
  · have hin : i < n := by
      have h1 : 2 ^ i ≤ c := (Nat.div_pos_iff.1 hlt).2
      exact (Nat.pow_lt_pow_iff_right (by omega : 1 < 2)).1 (Nat.lt_of_le_of_lt h1 hc)
    have hlt' : (0 : Int) < (c : Int) / 2 ^ i := by
      have : ((c : Int) / 2 ^ i) = ((c / 2 ^ i : Nat) : Int) := by simp
      omega
    have bl := @bits_len i c
    have bs := @bits_snoc i c
    have bv := bit_val (i := i) hc60
    cases ct : c.testBit i
    · rw [ct, if_neg (by simp)] at bs bv
      rw [List.append_nil] at bs
      simp -implicitDefEqProofs [hlt', shr_eq hc60, bv, winc hin (by omega)]
      exact ⟨m - 1, by omega, on hI ⟨i + 1, _, by omega, rfl, by rw [bs]; exact H⟩⟩
    · rw [ct, if_pos rfl] at bs bv
      obtain ⟨v', h2, ha, H2, _⟩ := push_I0 H 0 rfl (i : Int) (by omega)
      simp -implicitDefEqProofs [hlt', shr_eq hc60, bv, ha, winc hin (by omega)]
      exact ⟨m - 1, by omega, on hI ⟨i + 1, _, by omega, rfl, by rw [bs]; exact H2⟩⟩
  · have h1 : c < 2 ^ i := by
      rcases Nat.lt_or_ge c (2 ^ i) with g | g
      · exact g
      · exact absurd (Nat.div_pos g (Nat.two_pow_pos i)) hlt
    rw [bits_any h1 hc] at H
    have hlt' : ¬ (0 : Int) < (c : Int) / 2 ^ i := by
      have : ((c : Int) / 2 ^ i) = ((c / 2 ^ i : Nat) : Int) := by simp
      omega
    simp -implicitDefEqProofs [hlt', shr_eq hc60]
    exact onK hK (H.ret 0 rfl)
section
variable {h : Hp} {vj v : Value} {js : List Job} {xs : List Int}
/-! ### objectives that are sums -/
end
end Go.Pm.PP

/- Tables of the least values of sets, by both: the tables. -/
set_option linter.unusedVariables false
set_option linter.unusedSimpArgs false
set_option maxRecDepth 4000
set_option maxHeartbeats 8000000
namespace Go.Pm.PP
open Go.Pm Go.Proofs Go.Pm.PE
section
variable {h : Hp} {vj v : Value} {js : List Job} {xs : List Int} {o : Int}
/-! ### by the reference -/
end
end Go.Pm.PP

/- The order that is found from its end, by both; total times. -/
set_option linter.unusedVariables false
set_option linter.unusedSimpArgs false
set_option maxRecDepth 4000
set_option maxHeartbeats 8000000
namespace Go.Pm.PP
open Go.Pm Go.Proofs Go.Pm.PE
section
variable {h : Hp} {vj v : Value} {js : List Job} {xs : List Int} {o : Int}
/-! ### total times -/
end
end Go.Pm.PP

/- FnSetValues in the small machine. -/
set_option linter.unusedVariables false
set_option linter.unusedSimpArgs false
set_option maxRecDepth 4000
set_option maxHeartbeats 16000000
namespace Go.Pm.PP
open Go.Pm Go.Proofs Go.Pm.PE
section
variable {h0 h : Hp} {r n : Nat} {vc : Value} {L : List Asn}
end
/-! ### in plain terms -/
theorem ord_of_perm {n : Nat} {xs : List Int} (h : xs.Perm (upTo n)) : Ord n xs := ⟨by rw [h.length_eq, upTo_len], fun x hx => mem_upTo.1 (h.mem_iff.1 hx), h.nodup_iff.2 (upTo_nodup _)⟩
end Go.Pm.PP

/- FnFronts in the small machine. -/
set_option linter.unusedVariables false
set_option linter.unusedSimpArgs false
set_option maxRecDepth 4000
set_option maxHeartbeats 16000000
namespace Go.Pm.PP
open Go.Pm Go.Proofs Go.Pm.PE
section
variable {h0 h : Hp} {r n : Nat} {vc : Value} {L : List Asn}
end
end Go.Pm.PP

/- FnFronts. -/
set_option linter.unusedVariables false
set_option linter.unusedSimpArgs false
set_option maxRecDepth 4000
set_option maxHeartbeats 16000000
namespace Go.Pm.PP
open Go.Pm Go.Proofs Go.Pm.PE
/-! ### in plain terms -/
end Go.Pm.PP

/- Mixtures and limits, in plain terms. -/
set_option linter.unusedVariables false
set_option linter.unusedSimpArgs false
set_option maxRecDepth 4000
set_option maxHeartbeats 4000000
namespace Go.Pm.PP
open Go.Pm Go.Proofs Go.Pm.PE
end Go.Pm.PP

/- FnMixtures: its draws. -/
set_option linter.unusedVariables false
set_option linter.unusedSimpArgs false
set_option maxRecDepth 4000
set_option maxHeartbeats 16000000
namespace Go.Pm.PP
open Go.Pm Go.Proofs Go.Pm.PE
end Go.Pm.PP

/- FnMixtures, from the program's BestUnder. -/
set_option linter.unusedVariables false
set_option linter.unusedSimpArgs false
set_option maxRecDepth 4000
set_option maxHeartbeats 16000000
namespace Go.Pm.PP
open Go.Pm Go.Proofs Go.Pm.PE
end Go.Pm.PP

/- Tables of truth values and their closures, in plain terms. -/
set_option linter.unusedVariables false
set_option linter.unusedSimpArgs false
namespace Go.Pm.PE
def tG (T : List (List Bool)) (a b : Nat) : Bool := (((T[a]?).getD [])[b]?).getD false
def tS (T : List (List Bool)) (a b : Nat) (x : Bool) : List (List Bool) := T.set a (((T[a]?).getD []).set b x)
structure TOk (n : Nat) (T : List (List Bool)) : Prop where
  len : T.length = n
  row : ∀ r, r ∈ T → r.length = n
theorem TOk.at {n : Nat} {T : List (List Bool)} (k : TOk n T) {a : Nat} (ha : a < n) : ∃ r, T[a]? = some r ∧ r.length = n := by
  obtain ⟨r, hr, _⟩ := drop_at (show a < T.length by rw [k.len]; exact ha)
  exact ⟨r, hr, k.row r (List.mem_of_getElem? hr)⟩
theorem TOk.cell {n : Nat} {T : List (List Bool)} (k : TOk n T) {a b : Nat} (ha : a < n) (hb : b < n) : ∃ r, T[a]? = some r ∧ r.length = n ∧ r[b]? = some (tG T a b) := by
  obtain ⟨r, hr, hl⟩ := k.at ha
  obtain ⟨x, hx, _⟩ := drop_at (show b < r.length by omega)
  exact ⟨r, hr, hl, by simp [tG, hr, hx]⟩
theorem TOk.set {n : Nat} {T : List (List Bool)} (k : TOk n T) {a b : Nat} {x : Bool} (ha : a < n) : TOk n (tS T a b x) := by
  obtain ⟨r, hr, hl⟩ := k.at ha
  refine ⟨by unfold tS; rw [List.length_set, k.len], fun q hq => ?_⟩
  unfold tS at hq
  rw [hr, Option.getD_some] at hq
  rcases List.mem_or_eq_of_mem_set hq with g | g
  · exact k.row q g
  · rw [g, List.length_set, hl]
/-! ### closures -/
def falT (n : Nat) : List (List Bool) := List.replicate n (List.replicate n false)
def edT (T : List (List Bool)) (es : List (Int × Int)) : List (List Bool) := es.foldl (fun T e => tS T e.1.toNat e.2.toNat true) T
def cst (k i : Nat) (T : List (List Bool)) (j : Nat) : List (List Bool) := tS T i j (tG T i j || (tG T i k && tG T k j))
def cJ (k i : Nat) (T : List (List Bool)) (l : List Nat) : List (List Bool) := l.foldl (cst k i) T
def cI (n k : Nat) (T : List (List Bool)) (l : List Nat) : List (List Bool) := l.foldl (fun T i => cJ k i T (List.range' 0 n)) T
def cK (n : Nat) (T : List (List Bool)) (l : List Nat) : List (List Bool) := l.foldl (fun T k => cI n k T (List.range' 0 n)) T
def clo (n : Nat) (es : List (Int × Int)) : List (List Bool) := cK n (edT (falT n) es) (List.range' 0 n)
end Go.Pm.PE

/- Orders by a vector of ends, in plain terms. -/
set_option linter.unusedVariables false
set_option linter.unusedSimpArgs false
namespace Go.Pm.PE
open Go.Pm.PP
def eAh (es : List Int) (a b : Int) : Bool := decide (gE es a.toNat < gE es b.toNat)
theorem eAh_weak {es : List Int} : Weak (eAh es) := ⟨fun h => by simp only [eAh, decide_eq_true_eq, decide_eq_false_iff_not] at h ⊢; omega, fun h1 h2 => by simp only [eAh, decide_eq_false_iff_not] at h1 h2 ⊢; omega⟩
def eP (es : List Int) (x y : Int) : Bool := decide (gE es y.toNat ≤ gE es x.toNat)
def eF (es : List Int) (xs : List Int) : List Int := xs.foldl (fun l x => insF (eP es x) x l) []
theorem eF_go {es : List Int} : ∀ {xs acc : List Int}, acc.Pairwise (Lex (eAh es)) → xs.Pairwise (· < ·) → (∀ a, a ∈ acc → ∀ x, x ∈ xs → a < x) → (xs.foldl (fun l x => insF (eP es x) x l) acc).Pairwise (Lex (eAh es)) ∧ (xs.foldl (fun l x => insF (eP es x) x l) acc).Perm (acc ++ xs)
  | [], acc, h, _, _ => by rw [List.foldl_nil, List.append_nil]; exact ⟨h, List.Perm.refl _⟩
  | x :: xs, acc, h, hs, ha => by
    rw [List.foldl_cons]
    have hs := List.pairwise_cons.1 hs
    have hp : (insF (eP es x) x acc).Perm (x :: acc) := insF_perm
    have hl : ∀ y, y ∈ acc → y < x := fun y hy => ha y hy x (List.mem_cons_self ..)
    have hr := insF_sorted (R := Lex (eAh es)) (p := eP es x) (x := x) h (fun y hy g => by
      have := hl y hy
      simp only [eP, decide_eq_true_eq] at g
      simp only [Lex, eAh, decide_eq_true_eq, decide_eq_false_iff_not]
      omega) (fun y hy g => by
      simp only [eP, decide_eq_false_iff_not] at g
      simp only [Lex, eAh, decide_eq_true_eq, decide_eq_false_iff_not]
      omega) (fun y z hy hz hr g => by
      simp only [eP, decide_eq_false_iff_not] at g ⊢
      simp only [Lex, eAh, decide_eq_true_eq, decide_eq_false_iff_not] at hr
      omega)
    have hq : (insF (eP es x) x acc ++ xs).Perm (acc ++ x :: xs) := ((hp.append_right xs).trans (by rw [List.cons_append])).trans List.perm_middle.symm
    obtain ⟨r1, r2⟩ := eF_go (xs := xs) hr hs.2 fun a hA y hy => by
      rcases List.mem_cons.1 (hp.mem_iff.1 hA) with rfl | g
      · exact hs.1 y hy
      · exact ha a g y (List.mem_cons_of_mem _ hy)
    exact ⟨r1, r2.trans hq⟩
theorem eF_eq {es xs : List Int} (h : xs.Pairwise (· < ·)) : eF es xs = sortB (eAh es) xs := by
  obtain ⟨h1, h2⟩ := eF_go (es := es) (xs := xs) (acc := []) List.Pairwise.nil h (fun a ha => by cases ha)
  exact sorted_eq (R := Lex (eAh es)) (fun a b => Lex.asymm eAh_weak) h1 (sortB_sorted eAh_weak h) (h2.trans sortB_perm.symm)
/-- Numbers put to their places, once. -/
def putI (l : List Int) (x : Int) : List Int := if l.any (· == x) = true then l else insF (fun y => decide (y < x)) x l
end Go.Pm.PE

/- The order that is found from its end under a limit of lateness, in plain terms: it is there if any order keeps to the limit, and then it has the least sum of ends of all these. -/
set_option linter.unusedVariables false
set_option linter.unusedSimpArgs false
namespace Go.Pm.PE
open Go.Pm.PP
section
variable (t d : Int → Int) (lim : Int)
def smG : Int → List Int → Int
  | _, [] => 0
  | now, x :: r => (now + t x) + smG (now + t x) r
def okG : Int → List Int → Bool
  | _, [] => true
  | now, x :: r => decide (now + t x ≤ d x + lim) && okG (now + t x) r
def tsm (l : List Int) : Int := (l.map t).sum
def bkP (e : Int) (left : List Int) : Int := left.foldl (fun b i => if e ≤ d i + lim ∧ (b < 0 ∨ t b ≤ t i) then i else b) (-1)
def bkF : Nat → List Int → Option (List Int)
  | 0, _ => some []
  | n + 1, left => if bkP t d lim (tsm t left) left < 0 then none else (bkF n (left.filter fun x => !(x == bkP t d lim (tsm t left) left))).map (· ++ [bkP t d lim (tsm t left) left])
end
section
variable {t d : Int → Int} {lim : Int}
theorem tsm_app {A C : List Int} : tsm t (A ++ C) = tsm t A + tsm t C := by simp [tsm]
theorem tsm_cons {x : Int} {C : List Int} : tsm t (x :: C) = t x + tsm t C := by simp [tsm]
theorem tsm_perm {l l' : List Int} (h : l.Perm l') : tsm t l = tsm t l' := sum_perm (h.map _)
theorem smG_app : ∀ {A C : List Int} {now : Int}, smG t now (A ++ C) = smG t now A + smG t (now + tsm t A) C
  | [], C, now => by simp [smG, tsm]
  | x :: A, C, now => by
    simp only [List.cons_append, smG, tsm_cons]
    rw [smG_app, show now + t x + tsm t A = now + (t x + tsm t A) by omega]; omega
theorem okG_app : ∀ {A C : List Int} {now : Int}, okG t d lim now (A ++ C) = (okG t d lim now A && okG t d lim (now + tsm t A) C)
  | [], C, now => by simp [okG, tsm]
  | x :: A, C, now => by
    simp only [List.cons_append, okG, tsm_cons]
    rw [okG_app, show now + t x + tsm t A = now + (t x + tsm t A) by omega, Bool.and_assoc]
theorem smG_mono : ∀ {C : List Int} {a b : Int}, a ≤ b → smG t a C ≤ smG t b C
  | [], _, _, _ => by simp [smG]
  | x :: C, a, b, h => by
    have := smG_mono (C := C) (a := a + t x) (b := b + t x) (by omega)
    simp only [smG]; omega
theorem okG_mono : ∀ {C : List Int} {a b : Int}, a ≤ b → okG t d lim b C = true → okG t d lim a C = true
  | [], _, _, _, _ => rfl
  | x :: C, a, b, h, e => by
    simp only [okG, Bool.and_eq_true, decide_eq_true_eq] at e ⊢
    exact ⟨by omega, okG_mono (by omega) e.2⟩
theorem bkP_go {e : Int} : ∀ {l : List Int} {b : Int}, (∀ x, x ∈ l → 0 ≤ x) → (b < 0 ∨ e ≤ d b + lim) → let q := l.foldl (fun b i => if e ≤ d i + lim ∧ (b < 0 ∨ t b ≤ t i) then i else b) b
    (q < 0 → b < 0 ∧ ∀ x, x ∈ l → ¬ e ≤ d x + lim) ∧ (0 ≤ q → (q = b ∨ q ∈ l) ∧ e ≤ d q + lim ∧ (0 ≤ b → t b ≤ t q) ∧ ∀ x, x ∈ l → e ≤ d x + lim → t x ≤ t q)
  | [], b, _, hb => by
    refine ⟨fun h => ⟨h, fun x hx => by cases hx⟩, fun h => ⟨.inl rfl, ?_, fun _ => Int.le_refl _, fun x hx => by cases hx⟩⟩
    simp only [List.foldl_nil] at h ⊢
    omega
  | y :: l, b, hl, hb => by
    simp only [List.foldl_cons]
    have hy := hl y (List.mem_cons_self ..)
    by_cases c : e ≤ d y + lim ∧ (b < 0 ∨ t b ≤ t y)
    · rw [if_pos c]
      obtain ⟨g1, g2⟩ := bkP_go (e := e) (l := l) (b := y) (fun x hx => hl x (List.mem_cons_of_mem _ hx)) (.inr c.1)
      refine ⟨fun h => by have := (g1 h).1; omega, fun h => ?_⟩
      obtain ⟨k1, k2, k3, k4⟩ := g2 h
      refine ⟨.inr ?_, k2, fun h0 => ?_, fun x hx hd => ?_⟩
      · rcases k1 with k1 | k1
        · rw [k1]; exact List.mem_cons_self ..
        · exact List.mem_cons_of_mem _ k1
      · have := k3 hy; omega
      · rcases List.mem_cons.1 hx with rfl | hx
        · exact k3 hy
        · exact k4 x hx hd
    · rw [if_neg c]
      obtain ⟨g1, g2⟩ := bkP_go (e := e) (l := l) (b := b) (fun x hx => hl x (List.mem_cons_of_mem _ hx)) hb
      refine ⟨fun h => ⟨(g1 h).1, fun x hx hd => ?_⟩, fun h => ?_⟩
      · rcases List.mem_cons.1 hx with rfl | hx
        · exact c ⟨hd, .inl (g1 h).1⟩
        · exact (g1 h).2 x hx hd
      · obtain ⟨k1, k2, k3, k4⟩ := g2 h
        refine ⟨?_, k2, k3, fun x hx hd => ?_⟩
        · rcases k1 with k1 | k1
          · exact .inl k1
          · exact .inr (List.mem_cons_of_mem _ k1)
        · rcases List.mem_cons.1 hx with rfl | hx
          · have : ¬ (b < 0 ∨ t b ≤ t x) := fun g => c ⟨hd, g⟩
            have := k3 (by omega)
            omega
          · exact k4 x hx hd
theorem bkP_neg {e : Int} {l : List Int} (hl : ∀ x, x ∈ l → 0 ≤ x) (h : bkP t d lim e l < 0) : ∀ x, x ∈ l → ¬ e ≤ d x + lim := ((bkP_go (t := t) hl (.inl (by omega))).1 h).2
theorem bkP_pos {e : Int} {l : List Int} (hl : ∀ x, x ∈ l → 0 ≤ x) (h : ¬ bkP t d lim e l < 0) : bkP t d lim e l ∈ l ∧ e ≤ d (bkP t d lim e l) + lim ∧ ∀ x, x ∈ l → e ≤ d x + lim → t x ≤ t (bkP t d lim e l) := by
  obtain ⟨k1, k2, _, k4⟩ := (bkP_go (t := t) (d := d) (lim := lim) (e := e) (b := -1) hl (.inl (by omega))).2 (by unfold bkP at h; omega)
  refine ⟨?_, k2, k4⟩
  rcases k1 with k1 | k1
  · unfold bkP at h; omega
  · exact k1
theorem filter_del {l : List Int} {b : Int} (hn : l.Nodup) (hb : b ∈ l) : l.Perm (b :: l.filter fun x => !(x == b)) := by
  induction l with
  | nil => cases hb
  | cons y l ih =>
    obtain ⟨h1, h2⟩ := List.nodup_cons.1 hn
    by_cases c : y = b
    · subst c
      rw [List.filter_cons]
      simp only [BEq.rfl, Bool.not_true, Bool.false_eq_true, if_false]
      rw [List.filter_eq_self.2]
      intro a ha
      have : ¬ a = y := fun g => h1 (g ▸ ha)
      simpa using this
    · rw [List.filter_cons, if_pos (by simpa using c)]
      have hb' : b ∈ l := by
        rcases List.mem_cons.1 hb with g | g
        · exact absurd g.symm c
        · exact g
      exact ((ih h2 hb').cons y).trans (List.Perm.swap ..)
/-- What is exchanged: the one that is chosen takes the last place. -/
theorem back_exch (ht : ∀ x, 0 ≤ t x) {r : List Int} {l b : Int} (hb : b ∈ r ++ [l]) (hle : t l ≤ t b) (hok : okG t d lim 0 (r ++ [l]) = true) : ∃ r', (b :: r').Perm (r ++ [l]) ∧ okG t d lim 0 r' = true ∧ smG t 0 r' ≤ smG t 0 r := by
  rw [okG_app, Bool.and_eq_true] at hok
  by_cases c : b = l
  · subst c
    exact ⟨r, List.perm_append_comm (l₁ := [b]), hok.1, Int.le_refl _⟩
  · have hbr : b ∈ r := by
      rcases List.mem_append.1 hb with g | g
      · exact g
      · exact absurd (by simpa using g) c
    obtain ⟨A, B, rfl⟩ := List.append_of_mem hbr
    refine ⟨A ++ l :: B, ?_, ?_, ?_⟩
    · have e1 : (A ++ l :: B).Perm (l :: (A ++ B)) := List.perm_middle
      have e2 : (A ++ b :: B ++ [l]).Perm (b :: (A ++ (B ++ [l]))) := by
        rw [List.append_assoc, List.cons_append]; exact List.perm_middle
      refine ((e1.trans ?_).cons b).trans e2.symm
      rw [← List.append_assoc]
      exact List.perm_append_comm (l₁ := [l]) (l₂ := A ++ B)
    · obtain ⟨h1, h2⟩ := hok
      rw [okG_app, Bool.and_eq_true] at h1 ⊢
      refine ⟨h1.1, ?_⟩
      have h3 := h1.2
      simp only [okG, Bool.and_eq_true, decide_eq_true_eq, tsm_app, tsm_cons, Bool.and_true] at h2 h3 ⊢
      have hB : 0 ≤ tsm t B := by
        have : ∀ C : List Int, 0 ≤ tsm t C := fun C => by
          induction C with
          | nil => simp [tsm]
          | cons y C ih => rw [tsm_cons]; have := ht y; omega
        exact this B
      have := ht b
      exact ⟨by omega, okG_mono (by omega) h3.2⟩
    · rw [smG_app, smG_app]
      simp only [smG]
      have := smG_mono (t := t) (C := B) (a := 0 + tsm t A + t l) (b := 0 + tsm t A + t b) (by omega)
      omega
theorem snoc_of {α : Type} {xs : List α} (h : xs ≠ []) : ∃ r x, xs = r ++ [x] := ⟨xs.dropLast, xs.getLast h, (List.dropLast_concat_getLast h).symm⟩
theorem bkF_spec (ht : ∀ x, 0 ≤ t x) : ∀ {n : Nat} {left : List Int}, left.length = n → left.Nodup → (∀ x, x ∈ left → 0 ≤ x) →
    (bkF t d lim n left = none → ∀ s, s.Perm left → okG t d lim 0 s = false) ∧
    ∀ o, bkF t d lim n left = some o → o.Perm left ∧ okG t d lim 0 o = true ∧ ∀ s, s.Perm left → okG t d lim 0 s = true → smG t 0 o ≤ smG t 0 s
  | 0, left, hl, _, _ => by
    obtain rfl : left = [] := List.length_eq_zero_iff.1 hl
    refine ⟨fun h => by simp [bkF] at h, fun o ho => ?_⟩
    simp only [bkF, Option.some.injEq] at ho
    subst ho
    refine ⟨List.Perm.refl _, rfl, fun s hs _ => ?_⟩
    rw [hs.eq_nil]; exact Int.le_refl _
  | n + 1, left, hl, hnd, h0 => by
    generalize hb : bkP t d lim (tsm t left) left = b
    generalize hL : left.filter (fun x => !(x == b)) = left'
    have hF : bkF t d lim (n + 1) left = if b < 0 then none else (bkF t d lim n left').map (· ++ [b]) := by simp only [bkF, hb, hL]
    rw [hF]
    have last : ∀ s, s.Perm left → okG t d lim 0 s = true → ∃ r l, s = r ++ [l] ∧ tsm t left ≤ d l + lim ∧ l ∈ left := fun s hs hok => by
      obtain ⟨r, l, rfl⟩ := snoc_of (xs := s) (by rintro rfl; have := hs.length_eq; simp at this; omega)
      refine ⟨r, l, rfl, ?_, hs.subset (by simp)⟩
      rw [okG_app, Bool.and_eq_true] at hok
      have h2 := hok.2
      simp only [okG, Bool.and_true, decide_eq_true_eq] at h2
      rw [← tsm_perm hs, tsm_app]
      simp only [tsm_cons, show tsm t [] = 0 from rfl]
      omega
    by_cases c : b < 0
    · rw [if_pos c]
      refine ⟨fun _ s hs => ?_, fun o ho => by cases ho⟩
      cases hok : okG t d lim 0 s
      · rfl
      obtain ⟨r, l, rfl, h2, hm⟩ := last s hs hok
      exact absurd h2 (bkP_neg h0 (by rw [hb]; exact c) l hm)
    · rw [if_neg c]
      obtain ⟨p1, p2, p3⟩ := bkP_pos (t := t) (d := d) (lim := lim) (e := tsm t left) h0 (by rw [hb]; exact c)
      rw [hb] at p1 p2 p3
      have hp : left.Perm (b :: left') := by rw [← hL]; exact filter_del hnd p1
      have hl' : left'.length = n := by have := hp.length_eq; simp at this; omega
      have hnd' : left'.Nodup := by rw [← hL]; exact hnd.sublist List.filter_sublist
      have h0' : ∀ x, x ∈ left' → 0 ≤ x := fun x hx => h0 x (by rw [← hL] at hx; exact (List.mem_filter.1 hx).1)
      obtain ⟨i1, i2⟩ := bkF_spec ht hl' hnd' h0'
      have key : ∀ s, s.Perm left → okG t d lim 0 s = true → ∃ r', r'.Perm left' ∧ okG t d lim 0 r' = true ∧ smG t 0 r' + tsm t left ≤ smG t 0 s := fun s hs hok => by
        obtain ⟨r, l, rfl, h2, hm⟩ := last s hs hok
        obtain ⟨r', q1, q2, q3⟩ := back_exch ht (hs.symm.subset p1) (p3 l hm h2) hok
        refine ⟨r', List.Perm.cons_inv (a := b) ((q1.trans hs).trans hp), q2, ?_⟩
        rw [← tsm_perm hs, smG_app, tsm_app]
        simp only [smG, tsm_cons, show tsm t [] = 0 from rfl]
        omega
      refine ⟨fun h s hs => ?_, fun o ho => ?_⟩
      · cases hok : okG t d lim 0 s
        · rfl
        obtain ⟨r', q1, q2, _⟩ := key s hs hok
        have := i1 (by cases g : bkF t d lim n left' with
          | none => rfl
          | some o => rw [g] at h; cases h) r' q1
        rw [this] at q2; cases q2
      · obtain ⟨o', ho', rfl⟩ := Option.map_eq_some_iff.1 ho
        obtain ⟨j1, j2, j3⟩ := i2 o' ho'
        have hpo : (o' ++ [b]).Perm left := (List.perm_append_comm.trans ((j1.cons b : (b :: o').Perm (b :: left')) : ([b] ++ o').Perm (b :: left'))).trans hp.symm
        have ht' : tsm t o' + t b = tsm t left := by rw [← tsm_perm hpo, tsm_app, tsm_cons]; simp [tsm]
        refine ⟨hpo, ?_, fun s hs hok => ?_⟩
        · rw [okG_app, j2]
          simp only [okG, Bool.and_true, Bool.true_and, decide_eq_true_eq]
          omega
        · obtain ⟨r', q1, q2, q3⟩ := key s hs hok
          have := j3 r' q1 q2
          rw [smG_app]
          simp only [smG]
          omega
end
/-- Two lists without dominated points that cover each other are the same. -/
theorem sorted_eqP {R : Pt → Pt → Prop} (hR : ∀ a b, R a b → R b a → False) : ∀ {l l' : List Pt}, l.Pairwise R → l'.Pairwise R → l.Perm l' → l = l'
  | [], l', _, _, h => (h.symm.eq_nil).symm
  | x :: l, [], _, _, h => by have := h.length_eq; simp at this
  | x :: l, y :: l', h1, h2, h => by
    obtain ⟨a1, a2⟩ := List.pairwise_cons.1 h1
    obtain ⟨b1, b2⟩ := List.pairwise_cons.1 h2
    have e : x = y := by
      rcases List.mem_cons.1 (h.subset (List.mem_cons_self ..)) with g | g
      · exact g
      · rcases List.mem_cons.1 (h.symm.subset (List.mem_cons_self ..)) with k | k
        · exact k.symm
        · exact (hR _ _ (a1 _ k) (b1 _ g)).elim
    subst e
    rw [sorted_eqP hR a2 b2 h.cons_inv]
theorem front_uniq {F F' : List Pt} (s : Srt F) (s' : Srt F') (h : ∀ q, q ∈ F → ∃ r, r ∈ F' ∧ r.1 ≤ q.1 ∧ r.2 ≤ q.2) (h' : ∀ q, q ∈ F' → ∃ r, r ∈ F ∧ r.1 ≤ q.1 ∧ r.2 ≤ q.2) : F = F' := by
  have nd : ∀ {G : List Pt}, Srt G → G.Nodup := fun sg => sg.imp fun {a b} g e => by subst e; omega
  have anti : ∀ {G : List Pt}, Srt G → ∀ a b, a ∈ G → b ∈ G → a.1 ≤ b.1 → a.2 ≤ b.2 → a = b := by
    intro G sg a b ha hb h1 h2
    obtain ⟨i, hi⟩ := List.getElem?_of_mem ha
    obtain ⟨j, hj⟩ := List.getElem?_of_mem hb
    obtain ⟨hi', ei⟩ := List.getElem?_eq_some_iff.1 hi
    obtain ⟨hj', ej⟩ := List.getElem?_eq_some_iff.1 hj
    have P := List.pairwise_iff_getElem.1 sg
    rcases Nat.lt_trichotomy i j with g | g | g
    · have := P i j hi' hj' g; rw [ei, ej] at this; omega
    · subst g; rw [← ei, ← ej]
    · have := P j i hj' hi' g; rw [ei, ej] at this; omega
  have sub : ∀ {F F' : List Pt}, Srt F → (∀ q, q ∈ F → ∃ r, r ∈ F' ∧ r.1 ≤ q.1 ∧ r.2 ≤ q.2) → (∀ q, q ∈ F' → ∃ r, r ∈ F ∧ r.1 ≤ q.1 ∧ r.2 ≤ q.2) → ∀ q, q ∈ F → q ∈ F' := by
    intro F F' s h h' q hq
    obtain ⟨r, hr, r1, r2⟩ := h q hq
    obtain ⟨u, hu, u1, u2⟩ := h' r hr
    have e := anti s u q hu hq (by omega) (by omega)
    subst e
    have : r = u := Prod.ext (by omega) (by omega)
    rw [← this]; exact hr
  exact sorted_eqP (R := fun a b => a.1 < b.1 ∧ b.2 < a.2) (fun a b h1 h2 => by omega) s s' ((List.perm_ext_iff_of_nodup (nd s) (nd s')).2 fun q => ⟨sub s h h' q, sub s' h' h q⟩)
end Go.Pm.PE

/- The front of sums and lateness from the ends of orders, in plain terms. -/
set_option linter.unusedVariables false
set_option linter.unusedSimpArgs false
set_option maxRecDepth 4000
namespace Go.Pm.PP
open Go.Pm Go.Proofs Go.Pm.PE
def tJ (js : List Job) (x : Int) : Int := (jA js x).t
def dJ (js : List Job) (x : Int) : Int := (jA js x).d
def backX (js : List Job) (lim : Int) : Option (List Int) := bkF (tJ js) (dJ js) lim js.length (upTo js.length)
theorem sum_smG {js : List Job} (p : Pl js) : ∀ {xs : List Int} {now : Int}, 0 ≤ now → sumGo 2 js now xs = smG (tJ js) now xs
  | [], _, _ => rfl
  | x :: r, now, h => by
    have := p.t x
    rw [sumGo, smG, p.endAt h, sum_smG p (by omega)]
    simp [costV, tJ]
theorem okG_timD {js : List Job} {lim : Int} : ∀ {xs : List Int} {now : Int}, okG (tJ js) (dJ js) lim now xs = timD js lim now xs
  | [], _ => rfl
  | x :: r, now => by rw [okG, timD, okG_timD]; rfl
theorem val_smG {js : List Job} (hok : plOk js = true) {xs : List Int} (o : Ord js.length xs) : valX 2 js xs = smG (tJ js) 0 xs := by
  unfold valX
  rw [val_sum (by omega) (by omega) (ord_prm o), sum_smG (plOk_pl hok) (Int.le_refl 0)]
theorem val_okG {js : List Job} (hok : plOk js = true) {xs : List Int} (o : Ord js.length xs) (hne : 0 < js.length) {lim : Int} (hl : -(2 ^ 20) ≤ lim) : okG (tJ js) (dJ js) lim 0 xs = true ↔ valX 4 js xs ≤ lim := by
  rw [valX_lat hok o hne, okG_timD]
  exact timD_lat (plOk_pl hok) (Int.le_refl 0) hl
theorem back_facts {js : List Job} (hok : plOk js = true) (hne : 0 < js.length) {lim : Int} (hl : -(2 ^ 20) ≤ lim) :
    (backX js lim = none → ∀ xs, Ord js.length xs → lim < valX 4 js xs) ∧
    ∀ o, backX js lim = some o → Ord js.length o ∧ valX 4 js o ≤ lim ∧ ∀ xs, Ord js.length xs → valX 4 js xs ≤ lim → valX 2 js o ≤ valX 2 js xs := by
  obtain ⟨h1, h2⟩ := bkF_spec (t := tJ js) (d := dJ js) (lim := lim) (plOk_pl hok).t (n := js.length) (left := upTo js.length) (upTo_len _) (upTo_nodup _) fun x hx => (mem_upTo.1 hx).1
  refine ⟨fun h xs ox => ?_, fun o ho => ?_⟩
  · have := h1 h xs (ord_perm ox)
    refine Int.not_le.1 fun g => ?_
    rw [(val_okG hok ox hne hl).2 g] at this
    cases this
  · obtain ⟨p1, p2, p3⟩ := h2 o ho
    have oo := ord_of_perm p1
    refine ⟨oo, (val_okG hok oo hne hl).1 p2, fun xs ox hx => ?_⟩
    rw [val_smG hok oo, val_smG hok ox]
    exact p3 xs (ord_perm ox) ((val_okG hok ox hne hl).2 hx)
/-- What holds of the front that has been found down to a limit. -/
structure LInv (js : List Job) (lim : Int) (F : List Pt) : Prop where
  srt : Srt F
  pt : ∀ q, q ∈ F → ∃ xs, Ord js.length xs ∧ ptX 2 4 js xs = q
  cov : ∀ xs, Ord js.length xs → lim < valX 4 js xs → ∃ q, q ∈ F ∧ q.1 ≤ valX 2 js xs ∧ q.2 ≤ valX 4 js xs
theorem LInv.step {js : List Job} {lim : Int} {F : List Pt} (hok : plOk js = true) (hne : 0 < js.length) (hl : -(2 ^ 20) ≤ lim) (I : LInv js lim F) {o : List Int} (ho : backX js lim = some o) : LInv js (valX 4 js o - 1) (putF F (ptX 2 4 js o)) := by
  obtain ⟨oo, h1, h2⟩ := (back_facts hok hne hl).2 o ho
  refine ⟨putF_srt I.srt, fun q hq => ?_, fun xs ox hx => ?_⟩
  · rcases putF_mem hq with rfl | g
    · exact ⟨o, oo, rfl⟩
    · exact I.pt q g
  · by_cases c : lim < valX 4 js xs
    · exact putF_cover (r := ptX 2 4 js xs) (.inr (I.cov xs ox c))
    · obtain ⟨q, hq, q1, q2⟩ := putF_cover (F := F) (p := ptX 2 4 js o) (r := ptX 2 4 js o) (.inl rfl)
      have e1 : (ptX 2 4 js o).1 = valX 2 js o := rfl
      have e2 : (ptX 2 4 js o).2 = valX 4 js o := rfl
      have := h2 xs ox (by omega)
      exact ⟨q, hq, by omega, by omega⟩
theorem LInv.all {js : List Job} {lim : Int} {F : List Pt} (hok : plOk js = true) (I : LInv js lim F) (h : ∀ xs, Ord js.length xs → lim < valX 4 js xs) : F = frontR 2 4 js := by
  obtain ⟨hn, _, _⟩ := plOk_of hok
  obtain ⟨s, m, c⟩ := front_facts (f := 2) (g := 4) (js := js) hn
  refine front_uniq I.srt s (fun q hq => ?_) fun q hq => ?_
  · obtain ⟨xs, ox, rfl⟩ := I.pt q hq
    exact c xs ox
  · obtain ⟨xs, ox, rfl⟩ := m q hq
    exact I.cov xs ox (h xs ox)
theorem LInv.stop {js : List Job} {lim : Int} {F : List Pt} (hok : plOk js = true) (hne : 0 < js.length) (hl : -(2 ^ 20) ≤ lim) (I : LInv js lim F) (hb : backX js lim = none) : F = frontR 2 4 js := I.all hok ((back_facts hok hne hl).1 hb)
end Go.Pm.PP

/- The order that is found from its end, and the front that is found by it, of both. -/
set_option linter.unusedVariables false
set_option linter.unusedSimpArgs false
set_option maxRecDepth 4000
set_option maxHeartbeats 16000000
namespace Go.Pm.PP
open Go.Pm Go.Proofs Go.Pm.PE
def rat1 (js : List Job) (xs : List Int) : Pt := ((xs.map fun x => (jA js x).w).sum, (xs.map fun x => (jA js x).t).sum)
theorem jw_bd {js : List Job} (hg : goodL js = true) (x : Int) : 0 ≤ (jA js x).w ∧ (jA js x).w ≤ 50 := by
  by_cases h : 0 ≤ x ∧ x < js.length
  · have k := jobOk_jA hg h
    simp only [jobOk, inB, Bool.and_eq_true, decide_eq_true_eq] at k
    omega
  · have e : jA js x = ⟨0, 0, 0, 0⟩ ∨ ∃ i, x.toNat = i ∧ ∃ y, js[i]? = some y ∧ jA js x = y := by
      unfold jA
      cases hx : js[x.toNat]? with
      | none => left; rfl
      | some y => right; exact ⟨_, rfl, y, hx, rfl⟩
    rcases e with e | ⟨i, hi, y, hy, e⟩
    · rw [e]; simp
    · rw [e]
      have k := job_at hg hy
      simp only [jobOk, inB, Bool.and_eq_true, decide_eq_true_eq] at k
      omega
theorem rat_bd {js : List Job} (hg : goodL js = true) : ∀ {xs : List Int}, (0 ≤ (rat1 js xs).1 ∧ (rat1 js xs).1 ≤ xs.length * 50) ∧ 0 ≤ (rat1 js xs).2 ∧ (rat1 js xs).2 ≤ xs.length * 2 ^ 20
  | [] => by simp [rat1]
  | x :: xs => by
    have ih := rat_bd hg (xs := xs)
    have h1 := jw_bd hg x
    have h2 := (good_bd hg).t x
    have e : rat1 js (x :: xs) = ((jA js x).w + (rat1 js xs).1, (jA js x).t + (rat1 js xs).2) := by simp [rat1]
    rw [e, List.length_cons]
    simp only
    omega
theorem nil_L {h : Hp} : Ints h (.slice none 0 0) ([] : List Int) := ⟨by simp, none, 0, rfl, .inl ⟨rfl, rfl, rfl⟩⟩
section
variable {h : Hp} {vj v u : Value} {js : List Job} {xs ys : List Int} {lim : Int}
def delF (xs ys : List Int) : List Int := xs.filter fun x => !hasL x ys
theorem del_take {i : Nat} {y : Int} (hy : xs[i]? = some y) : delF (xs.take (i + 1)) ys = delF (xs.take i) ys ++ if hasL y ys = true then [] else [y] := by
  unfold delF
  rw [take_succ' hy, List.filter_append]
  congr 1
  cases g : hasL y ys <;> simp [List.filter_cons, g]
theorem l4Rest_run (X : Ints h v xs) (Y : Ints h u ys) (hx : xs.length ≤ 2 ^ 20) (hy : ys.length ≤ 2 ^ 40) : RunsC P G n_spec_l4Rest [v, u] h fun w h' => h <+: h' ∧ Own h.length h' w 1 ((delF xs ys).map encI) := by
  refine hideC fun K hK => enter_run e_spec_l4Rest (by simp) ?_
  have Xs := X
  have Ys := Y
  obtain ⟨ox, cx, rfl⟩ := X.shapeT
  obtain ⟨oy, cy, rfl⟩ := Y.shapeT
  have H0 := own_nil (Holds.start (h := h)) Int encI 1
  simp -implicitDefEqProofs
  refine R_loopO (fun m s h' => ∃ (i : Nat) (w : Value), i + m = xs.length ∧ s = [(0, .slice ox xs.length cx), (1, .slice oy ys.length cy), (5, w), (6, .int .i64 i)] ∧ Holds h h' [.own w 1 ((delF (xs.take i) ys).map encI)]) (fun I hI m s h' => ?_) (n := xs.length) ⟨0, .slice none 0 0, Nat.zero_add _, by simp, by simpa [delF] using H0⟩
  rintro ⟨i, w, hi, rfl, H⟩
  by_cases hlt : i < xs.length
  · have hlt' : (i : Int) < xs.length := by omega
    obtain ⟨y, hyy, _⟩ := drop_at hlt
    have ly := load_I (Xs.pre H.pre) hyy
    have rh := l1Has_run (x := y) (Ys.pre H.pre) hy
    have e := del_take (ys := ys) hyy
    have hle : (delF (xs.take i) ys).length ≤ xs.length := Nat.le_trans (List.length_filter_le ..) (by rw [List.length_take]; omega)
    cases c1 : hasL y ys
    · rw [c1, if_neg (by simp)] at e
      rw [c1] at rh
      obtain ⟨v', h2, ha, H2, _⟩ := push_I0 H 0 rfl y (by omega)
      rw [← e] at H2
      simp -implicitDefEqProofs [-indexAddrP_some, hlt, hlt', ly, CL_ret rh, ha, winc hlt (by omega)]
      exact ⟨m - 1, by omega, on hI ⟨i + 1, v', by omega, rfl, H2⟩⟩
    · rw [c1, if_pos rfl, List.append_nil] at e
      rw [c1] at rh
      rw [← e] at H
      simp -implicitDefEqProofs [-indexAddrP_some, hlt, hlt', ly, CL_ret rh, winc hlt (by omega)]
      exact ⟨m - 1, by omega, on hI ⟨i + 1, w, by omega, rfl, H⟩⟩
  · have hlt' : ¬ (i : Int) < xs.length := by omega
    rw [List.take_of_length_le (by omega)] at H
    simp -implicitDefEqProofs [hlt, hlt']
    exact onK hK (H.ret 0 rfl)
theorem del_one {b : Int} : delF xs [b] = xs.filter fun x => !(x == b) := by
  unfold delF
  congr 1
  funext x
  have : (b == x) = (x == b) := BEq.comm
  rw [hasL_cons, hasL_nil, Bool.or_false, this]
/-! ### the choice -/
end
end Go.Pm.PP

/- Tables of the greatest weights of timely sets, in plain terms: by sets, and by jobs in due order. -/
set_option linter.unusedVariables false
set_option linter.unusedSimpArgs false
namespace Go.Pm.PE
open Go.Pm.PP
/-- A table that tells for each sum of times the greatest weight of a class of sets, -1 where there is none. -/
structure TabK (t w : Int → Int) (N : Nat) (cls : List Int → Prop) (T : List Int) : Prop where
  len : T.length = N + 1
  low : ∀ k, k ≤ N → -1 ≤ gE T k
  up : ∀ S, cls S → ∀ k : Nat, k ≤ N → tsm t S = k → tsm w S ≤ gE T k
  att : ∀ k : Nat, k ≤ N → 0 ≤ gE T k → ∃ S, cls S ∧ tsm t S = k ∧ tsm w S = gE T k
section
variable {t w d : Int → Int} {N : Nat}
theorem tsm_nonneg (hw : ∀ x, 0 ≤ w x) : ∀ {S : List Int}, 0 ≤ tsm w S
  | [] => by simp [tsm]
  | x :: S => by rw [tsm_cons]; have := hw x; have := tsm_nonneg hw (S := S); omega
/-! ### by sets -/
def upT (T : List Int) (k : Int) (x : Int) : List Int := T.set k.toNat (max (gE T k.toNat) x)
theorem TabK.nil : TabK t w N (fun _ => False) (List.replicate (N + 1) (-1)) := by
  have e : ∀ k, k ≤ N → gE (List.replicate (N + 1) (-1 : Int)) k = -1 := fun k hk => by simp [gE, List.getElem?_replicate, show k < N + 1 by omega]
  exact ⟨by simp, fun k hk => by rw [e k hk]; omega, fun S h => h.elim, fun k hk h => by rw [e k hk] at h; omega⟩
theorem TabK.add {cls : List Int → Prop} {T S0 : List Int} (h : TabK t w N cls T) (hw : ∀ x, 0 ≤ w x) (h0 : 0 ≤ tsm t S0) (h1 : tsm t S0 ≤ N) : TabK t w N (fun S => cls S ∨ S = S0) (upT T (tsm t S0) (tsm w S0)) := by
  obtain ⟨m, hm⟩ : ∃ m : Nat, (m : Int) = tsm t S0 := ⟨(tsm t S0).toNat, by omega⟩
  have hl : m < T.length := by rw [h.len]; omega
  have e : ∀ k : Nat, gE (upT T (tsm t S0) (tsm w S0)) k = if k = m then max (gE T m) (tsm w S0) else gE T k := fun k => by
    unfold upT
    rw [← hm, Int.toNat_natCast, gE_set hl]
  have hw0 := tsm_nonneg hw (S := S0)
  refine ⟨by unfold upT; rw [List.length_set, h.len], fun k hk => ?_, fun S hS k hk hs => ?_, fun k hk hg => ?_⟩
  · have := h.low k hk
    rw [e]; split
    · have := h.low m (by omega); omega
    · exact this
  · rw [e]
    rcases hS with g | rfl
    · have := h.up S g k hk hs
      split
      · rename_i c; subst c; omega
      · exact this
    · rw [if_pos (by omega)]; omega
  · rw [e] at hg ⊢
    split
    · rename_i c
      subst c
      rw [if_pos rfl] at hg
      by_cases g : gE T k ≤ tsm w S0
      · exact ⟨S0, .inr rfl, hm.symm, by omega⟩
      · obtain ⟨S, hS, a1, a2⟩ := h.att k hk (by omega)
        exact ⟨S, .inl hS, a1, by omega⟩
    · rename_i c
      rw [if_neg c] at hg
      obtain ⟨S, hS, a1, a2⟩ := h.att k hk hg
      exact ⟨S, .inl hS, a1, a2⟩
theorem TabK.weak {cls cls' : List Int → Prop} {T : List Int} (h : TabK t w N cls T) (e : ∀ S, cls S ↔ cls' S) : TabK t w N cls' T :=
  ⟨h.len, h.low, fun S hS => h.up S ((e S).2 hS), fun k hk hg => by obtain ⟨S, hS, a⟩ := h.att k hk hg; exact ⟨S, (e S).1 hS, a⟩⟩
/-! ### by jobs -/
def clsP (t d : Int → Int) (D : List Int) (S : List Int) : Prop := S.Sublist D ∧ okG t d 0 0 S = true
theorem sub_snoc {D S : List Int} {x : Int} : S.Sublist (D ++ [x]) ↔ S.Sublist D ∨ ∃ S', S = S' ++ [x] ∧ S'.Sublist D := by
  constructor
  · intro h
    obtain ⟨A, B, rfl, hA, hB⟩ := List.sublist_append_iff.1 h
    rcases List.sublist_cons_iff.1 hB with g | ⟨r, rfl, g⟩
    · left; rw [List.sublist_nil.1 g, List.append_nil]; exact hA
    · right; rw [List.sublist_nil.1 g]; exact ⟨A, rfl, hA⟩
  · rintro (h | ⟨S', rfl, h⟩)
    · exact h.trans (List.sublist_append_left ..)
    · exact h.append (List.Sublist.refl _)
theorem TabK.one (hw : ∀ x, 0 ≤ w x) : TabK t w N (clsP t d []) (0 :: List.replicate N (-1)) := by
  have e : ∀ k : Nat, k ≤ N → gE ((0 : Int) :: List.replicate N (-1 : Int)) k = if k = 0 then 0 else -1 := fun k hk => by
    cases k with
    | zero => rfl
    | succ k => simp [gE, List.getElem?_replicate, show k < N by omega]
  have hn : ∀ {S}, clsP t d [] S → S = [] := fun h => List.sublist_nil.1 h.1
  refine ⟨by simp, fun k hk => by rw [e k hk]; split <;> omega, fun S hS k hk hs => ?_, fun k hk h => ?_⟩
  · rw [hn hS] at hs ⊢
    have hs : (0 : Int) = k := hs
    rw [e k hk, if_pos (by omega)]
    exact Int.le_refl _
  · rw [e k hk] at h ⊢
    split at h
    · rename_i c
      subst c
      exact ⟨[], ⟨List.Sublist.refl _, rfl⟩, rfl, rfl⟩
    · omega
end
end Go.Pm.PE

/- Sets ordered by their numbers of jobs and then lexicographically, in plain terms. -/
set_option linter.unusedVariables false
set_option linter.unusedSimpArgs false
namespace Go.Pm.PE
open Go.Pm.PP
def lexB : List Int → List Int → Bool
  | a :: l, b :: r => if a = b then lexB l r else decide (a < b)
  | _, _ => false
def lessS (a b : List Int) : Bool := if a.length = b.length then lexB a b else decide (a.length < b.length)
theorem lexB_asymm : ∀ {a b : List Int}, lexB a b = true → lexB b a = false
  | [], [], h => by simp [lexB] at h
  | [], _ :: _, h => by simp [lexB] at h
  | _ :: _, [], h => by simp [lexB] at h
  | x :: a, y :: b, h => by
    simp only [lexB] at h ⊢
    by_cases c : x = y
    · subst c
      simp only [if_true] at h ⊢
      exact lexB_asymm h
    · rw [if_neg c] at h
      rw [if_neg (fun g => c g.symm)]
      simp only [decide_eq_true_eq] at h
      simp only [decide_eq_false_iff_not]
      omega
theorem lexB_trans : ∀ {a b c : List Int}, lexB a b = true → lexB b c = true → lexB a c = true
  | [], [], _, h, _ => by simp [lexB] at h
  | [], _ :: _, _, h, _ => by simp [lexB] at h
  | _ :: _, [], _, h, _ => by simp [lexB] at h
  | _ :: _, _ :: _, [], _, h => by simp [lexB] at h
  | x :: a, y :: b, z :: c, h1, h2 => by
    simp only [lexB] at h1 h2 ⊢
    by_cases c1 : x = y
    · subst c1
      simp only [if_true] at h1
      by_cases c2 : x = z
      · subst c2
        simp only [if_true] at h2 ⊢
        exact lexB_trans h1 h2
      · rw [if_neg c2] at h2 ⊢
        exact h2
    · rw [if_neg c1] at h1
      by_cases c2 : y = z
      · subst c2
        rw [if_neg c1]
        exact h1
      · rw [if_neg c2] at h2
        simp only [decide_eq_true_eq] at h1 h2
        rw [if_neg (by omega)]
        simp only [decide_eq_true_eq]
        omega
theorem lexB_total : ∀ {a b : List Int}, a.length = b.length → a ≠ b → lexB a b = true ∨ lexB b a = true
  | [], [], _, h => absurd rfl h
  | [], _ :: _, h, _ => by simp at h
  | _ :: _, [], h, _ => by simp at h
  | x :: a, y :: b, hl, h => by
    simp only [lexB]
    by_cases c : x = y
    · subst c
      simp only [if_true]
      exact lexB_total (by simpa using hl) fun g => h (by rw [g])
    · rw [if_neg c, if_neg (fun g => c g.symm)]
      simp only [decide_eq_true_eq]
      omega
theorem lessS_asymm {a b : List Int} (h : lessS a b = true) : lessS b a = false := by
  unfold lessS at h ⊢
  by_cases c : a.length = b.length
  · rw [if_pos c] at h; rw [if_pos c.symm]; exact lexB_asymm h
  · rw [if_neg c] at h
    rw [if_neg (fun g => c g.symm)]
    simp only [decide_eq_true_eq] at h
    simp only [decide_eq_false_iff_not]
    omega
theorem lessS_trans {a b c : List Int} (h1 : lessS a b = true) (h2 : lessS b c = true) : lessS a c = true := by
  unfold lessS at h1 h2 ⊢
  by_cases c1 : a.length = b.length
  · rw [if_pos c1] at h1
    by_cases c2 : b.length = c.length
    · rw [if_pos c2] at h2
      rw [if_pos (c1.trans c2)]
      exact lexB_trans h1 h2
    · rw [if_neg c2] at h2
      rw [if_neg (by omega)]
      simp only [decide_eq_true_eq] at h2 ⊢
      omega
  · rw [if_neg c1] at h1
    simp only [decide_eq_true_eq] at h1
    by_cases c2 : b.length = c.length
    · rw [if_neg (by omega)]; simp only [decide_eq_true_eq]; omega
    · rw [if_neg c2] at h2
      simp only [decide_eq_true_eq] at h2
      rw [if_neg (by omega)]; simp only [decide_eq_true_eq]; omega
theorem lessS_total {a b : List Int} (h : a ≠ b) : lessS a b = true ∨ lessS b a = true := by
  unfold lessS
  by_cases c : a.length = b.length
  · rw [if_pos c, if_pos c.symm]; exact lexB_total c h
  · rw [if_neg c, if_neg (fun g => c g.symm)]
    simp only [decide_eq_true_eq]
    omega
def insS (x : List Int) : List (List Int) → List (List Int)
  | [] => [x]
  | y :: l => if lessS y x = true then y :: insS x l else x :: y :: l
theorem insS_perm {x : List Int} : ∀ {l : List (List Int)}, (insS x l).Perm (x :: l)
  | [] => List.Perm.refl _
  | y :: l => by
    rw [insS]
    split
    · exact (insS_perm.cons y).trans (List.Perm.swap ..)
    · exact List.Perm.refl _
theorem insS_take {x : List Int} : ∀ {l : List (List Int)} {k : Nat}, k ≤ l.length → (∀ i y, i < k → l[i]? = some y → lessS y x = true) → (∀ y, l[k]? = some y → lessS y x = false) → insS x l = l.take k ++ x :: l.drop k
  | [], k, hk, _, _ => by
    obtain rfl : k = 0 := by simpa using hk
    rfl
  | y :: l, 0, _, _, h => by
    rw [insS, if_neg (by rw [h y rfl]; simp)]
    rfl
  | y :: l, k + 1, hk, h1, h2 => by
    rw [insS, if_pos (h1 0 y (by omega) rfl), insS_take (k := k) (by simpa using hk) (fun i z hi hz => h1 (i + 1) z (by omega) (by simpa using hz)) fun z hz => h2 z (by simpa using hz)]
    rfl
abbrev SrtS (l : List (List Int)) : Prop := l.Pairwise fun a b => lessS a b = true
theorem insS_srt {x : List Int} : ∀ {l : List (List Int)}, SrtS l → x ∉ l → SrtS (insS x l)
  | [], _, _ => List.pairwise_singleton ..
  | y :: l, h, hx => by
    obtain ⟨h1, h2⟩ := List.pairwise_cons.1 h
    have hxy : x ≠ y := fun g => hx (by rw [g]; exact List.mem_cons_self ..)
    rw [insS]
    split
    · rename_i c
      refine List.pairwise_cons.2 ⟨fun z hz => ?_, insS_srt h2 fun g => hx (List.mem_cons_of_mem _ g)⟩
      rcases List.mem_cons.1 (insS_perm.mem_iff.1 hz) with rfl | g
      · exact c
      · exact h1 z g
    · rename_i c
      have hxy' : lessS x y = true := (lessS_total hxy).resolve_right c
      refine List.pairwise_cons.2 ⟨fun z hz => ?_, h⟩
      rcases List.mem_cons.1 hz with rfl | g
      · exact hxy'
      · exact lessS_trans hxy' (h1 z g)
/-- The place that is found from behind is the same one. -/
theorem insS_back {x : List Int} {l : List (List Int)} (hs : SrtS l) (hx : x ∉ l) {k : Nat} (hk : k ≤ l.length) (h1 : ∀ i y, k ≤ i → l[i]? = some y → lessS x y = true) (h2 : ∀ y, 0 < k → l[k - 1]? = some y → lessS x y = false) : insS x l = l.take k ++ x :: l.drop k := by
  refine insS_take hk (fun i y hi hy => ?_) fun y hy => lessS_asymm (h1 k y (Nat.le_refl _) hy)
  have hl : k - 1 < l.length := by omega
  have hz : l[k - 1]? = some l[k - 1] := List.getElem?_eq_getElem hl
  have g := h2 _ (by omega) hz
  have hzx : l[k - 1] ≠ x := fun e => hx (e ▸ List.getElem_mem hl)
  have hzl : lessS l[k - 1] x = true := by
    rcases lessS_total hzx with a | a
    · exact a
    · rw [g] at a; cases a
  rcases Nat.lt_or_ge i (k - 1) with e | e
  · obtain ⟨hi', ey⟩ := List.getElem?_eq_some_iff.1 hy
    have := List.pairwise_iff_getElem.1 hs i (k - 1) hi' hl e
    rw [ey] at this
    exact lessS_trans this hzl
  · have : i = k - 1 := by omega
    subst this
    rw [hz] at hy; cases hy
    exact hzl
theorem foldS_perm : ∀ {l acc : List (List Int)}, (l.foldl (fun l x => insS x l) acc).Perm (acc ++ l)
  | [], acc => by rw [List.foldl_nil, List.append_nil]
  | x :: l, acc => by
    rw [List.foldl_cons]
    refine foldS_perm.trans ?_
    exact (insS_perm.append_right l).trans (List.perm_middle (l₁ := acc)).symm
theorem foldS_srt : ∀ {l acc : List (List Int)}, SrtS acc → (acc ++ l).Nodup → SrtS (l.foldl (fun l x => insS x l) acc)
  | [], acc, h, _ => h
  | x :: l, acc, h, hn => by
    rw [List.foldl_cons]
    have hn' : (x :: (acc ++ l)).Nodup := (List.perm_middle.nodup_iff).1 hn
    refine foldS_srt (insS_srt h fun g => (List.nodup_cons.1 hn').1 (List.mem_append_left _ g)) ?_
    exact ((insS_perm.append_right l).nodup_iff).2 hn'
theorem bits_inj {n c d : Nat} (hc : c < 2 ^ n) (hd : d < 2 ^ n) (h : bitsL n c = bitsL n d) : c = d := by
  apply Nat.eq_of_testBit_eq
  intro i
  by_cases hi : i < n
  · have e : ∀ {c : Nat}, (i : Int) ∈ bitsL n c ↔ c.testBit i = true := fun {c} => by rw [mem_bits]; simp [hi]
    have : c.testBit i = true ↔ d.testBit i = true := by rw [← e, ← e, h]
    cases hx : c.testBit i <;> cases hy : d.testBit i <;> simp_all
  · rw [Nat.testBit_lt_two_pow (Nat.lt_of_lt_of_le hc (Nat.pow_le_pow_right (by omega) (by omega))), Nat.testBit_lt_two_pow (Nat.lt_of_lt_of_le hd (Nat.pow_le_pow_right (by omega) (by omega)))]
/-- Each ascending list of numbers is that of a code. -/
theorem bits_of {n : Nat} : ∀ {m : Nat}, m ≤ n → ∀ {s : List Int}, s.Pairwise (· < ·) → (∀ x, x ∈ s → 0 ≤ x ∧ x < m) → ∃ c, c < 2 ^ m ∧ bitsL n c = s
  | 0, _, s, _, h => by
    have : s = [] := by
      cases s with
      | nil => rfl
      | cons x s => have := h x (List.mem_cons_self ..); omega
    subst this
    exact ⟨0, by simp, bits_zero⟩
  | m + 1, hm, s, hs, h => by
    by_cases g : (m : Int) ∈ s
    · obtain ⟨A, B, rfl⟩ := List.append_of_mem g
      have hB : B = [] := by
        cases B with
        | nil => rfl
        | cons y B =>
          have h1 := (List.pairwise_append.1 hs).2.1
          have := (List.pairwise_cons.1 h1).1 y (List.mem_cons_self ..)
          have := h y (by simp)
          omega
      subst hB
      obtain ⟨h1, _, h3⟩ := List.pairwise_append.1 hs
      obtain ⟨c, hc, e⟩ := bits_of (n := n) (m := m) (by omega) h1 fun x hx => ⟨(h x (List.mem_append_left _ hx)).1, h3 x hx m (by simp)⟩
      refine ⟨c + 2 ^ m, by rw [Nat.pow_succ]; omega, ?_⟩
      have tb : (c + 2 ^ m).testBit m = true := by
        rw [Nat.add_comm, Nat.testBit_two_pow_add_eq, Nat.testBit_lt_two_pow hc]; rfl
      have hp := bits_del (n := n) (c := c + 2 ^ m) (i := m) (by omega) tb
      rw [show c + 2 ^ m - 2 ^ m = c by omega, e] at hp
      exact sorted_eq (R := fun a b => a < b) (fun a b h1 h2 => by omega) bits_asc hs (hp.trans (List.perm_append_comm (l₁ := [(m : Int)])))
    · obtain ⟨c, hc, e⟩ := bits_of (n := n) (m := m) (by omega) hs fun x hx => ⟨(h x hx).1, by
        have := (h x hx).2
        have : x ≠ m := fun k => g (k ▸ hx)
        omega⟩
      exact ⟨c, by rw [Nat.pow_succ]; omega, e⟩
end Go.Pm.PE

/- Sets: guards of both; timely sets and their orders, of both. -/
set_option linter.unusedVariables false
set_option linter.unusedSimpArgs false
set_option maxRecDepth 4000
set_option maxHeartbeats 16000000
namespace Go.Pm.PP
open Go.Pm Go.Proofs Go.Pm.PE
def risL : List Int → Bool
  | a :: b :: r => !decide (b ≤ a) && risL (b :: r)
  | _ => true
theorem ris_iff : ∀ {xs : List Int}, risL xs = true ↔ xs.Pairwise (· < ·)
  | [] => by simp [risL]
  | [a] => by simp [risL]
  | a :: b :: r => by
    rw [risL, Bool.and_eq_true, ris_iff, Bool.not_eq_true', decide_eq_false_iff_not]
    constructor
    · rintro ⟨h1, h2⟩
      refine List.pairwise_cons.2 ⟨fun x hx => ?_, h2⟩
      rcases List.mem_cons.1 hx with rfl | g
      · omega
      · have := (List.pairwise_cons.1 h2).1 x g; omega
    · intro h
      have := (List.pairwise_cons.1 h).1 b (List.mem_cons_self ..)
      exact ⟨by omega, (List.pairwise_cons.1 h).2⟩
def setB (n : Nat) (xs : List Int) : Bool := xs.all (fun x => decide (0 ≤ x) && decide (x < n)) && risL xs
theorem setB_iff {n : Nat} {xs : List Int} : setB n xs = true ↔ inN n xs ∧ xs.Pairwise (· < ·) := by
  rw [setB, Bool.and_eq_true, ris_iff, List.all_eq_true]
  simp only [Bool.and_eq_true, decide_eq_true_eq]
  rfl
theorem arGoN_iff {n : Nat} (hn : n ≤ 2 ^ 40) : ∀ {xs us : List Int}, arGo n us xs = true ↔ inN n xs ∧ xs.Nodup ∧ ∀ x, x ∈ xs → hasL x us = false
  | [], us => by simp [arGo, inN]
  | x :: r, us => by
    have w1 : w64 ((n : Int) - 1) = (n : Int) - 1 := by unfold w64; rw [wrap_ok] <;> omega
    rw [arGo, Bool.and_eq_true, Bool.and_eq_true, w1, arGoN_iff hn, Bool.not_eq_true', List.nodup_cons]
    have hi : inB x 0 ((n : Int) - 1) = true ↔ 0 ≤ x ∧ x < n := by simp [inB]; omega
    have hh : ∀ y, hasL y (us ++ [x]) = (hasL y us || (x == y)) := fun y => by simp [hasL]
    rw [hi]
    constructor
    · rintro ⟨⟨a, b⟩, c, d, e⟩
      refine ⟨fun y hy => ?_, ⟨fun hx => ?_, d⟩, fun y hy => ?_⟩
      · rcases List.mem_cons.1 hy with rfl | g
        · exact a
        · exact c y g
      · have := e x hx
        rw [hh] at this
        simp at this
      · rcases List.mem_cons.1 hy with rfl | g
        · exact b
        · have := e y g
          rw [hh, Bool.or_eq_false_iff] at this
          exact this.1
    · rintro ⟨a, ⟨b, c⟩, d⟩
      refine ⟨⟨a x (List.mem_cons_self ..), d x (List.mem_cons_self ..)⟩, fun y hy => a y (List.mem_cons_of_mem _ hy), c, fun y hy => ?_⟩
      rw [hh, d y (List.mem_cons_of_mem _ hy)]
      have : ¬ x = y := fun g => b (g ▸ hy)
      simpa using this
theorem setB_eq {n : Nat} (hn : n ≤ 2 ^ 40) {xs : List Int} : (risL xs && arGo n [] xs) = setB n xs := by
  rw [Bool.eq_iff_iff, Bool.and_eq_true, ris_iff, arGoN_iff hn, setB_iff]
  constructor
  · rintro ⟨a, b, _⟩; exact ⟨b, a⟩
  · rintro ⟨a, b⟩; exact ⟨b, a, b.imp fun h => by omega, fun x _ => rfl⟩
section
variable {h : Hp} {vj v u : Value} {js : List Job} {xs : List Int}
theorem isRisingG_run (X : Ints h v xs) (hn : xs.length ≤ 2 ^ 40) : Ret P G n_impl_isRising [v] h (.bool (risL xs)) h := by
  refine enter_run e_impl_isRising (by simp) ?_
  have Xs := X
  obtain ⟨oa, c, rfl⟩ := X.shapeT
  simp -implicitDefEqProofs
  refine R_loopO (fun m s h' => ∃ i : Nat, i + m = xs.length ∧ s = [(0, .slice oa xs.length c), (3, .int .i64 ((i : Int) + 1))] ∧ h' = h ∧ risL xs = risL (xs.drop i)) (fun I hI m s h' => ?_) (n := xs.length) ⟨0, Nat.zero_add _, by simp⟩
  rintro ⟨i, hi, rfl, rfl, hx⟩
  by_cases hlt : i + 1 < xs.length
  · obtain ⟨y, hy, hd⟩ := drop_at (show i < xs.length by omega)
    obtain ⟨z, hz, hd2⟩ := drop_at hlt
    rw [hd, hd2, risL, ← hd2] at hx
    have ly := load_I Xs hy
    have lz := load_I Xs hz
    simp only [Int.natCast_add, Int.cast_ofNat_Int] at lz
    have w0 : IntKind.i64.wrap (i : Int) = i := by rw [wrap_ok] <;> omega
    have w2 : IntKind.i64.wrap ((i : Int) + 1 + 1) = (i : Int) + 1 + 1 := by rw [wrap_ok] <;> omega
    have hlt' : (i : Int) + 1 < xs.length := by omega
    by_cases h1 : z ≤ y
    · rw [decide_eq_true h1] at hx
      simp -implicitDefEqProofs [-indexAddrP_some, hlt, hlt', w0, w2, ly, lz, h1]
      simpa using hx
    · rw [decide_eq_false h1] at hx
      simp -implicitDefEqProofs [-indexAddrP_some, hlt, hlt', w0, w2, ly, lz, h1]
      exact ⟨m - 1, by omega, on hI ⟨i + 1, by omega, by simp, rfl, by simpa using hx⟩⟩
  · have hr : risL (xs.drop i) = true := by
      have : (xs.drop i).length ≤ 1 := by simp; omega
      match xs.drop i, this with
      | [], _ => rfl
      | [_], _ => rfl
    have hlt' : ¬ (i : Int) + 1 < xs.length := by omega
    simp -implicitDefEqProofs [hlt, hlt', hx, hr]
theorem isSetG_run {n : Nat} (X : Ints h v xs) (hn : xs.length ≤ 2 ^ 40) (hn2 : n ≤ 2 ^ 40) : Ret P G n_impl_isSet [.int .i64 n, v] h (.bool (setB n xs)) h := by
  refine enter_run e_impl_isSet (by simp) ?_
  have r1 := isRisingG_run X hn
  have r2 := areDifferent_run (n := n) X hn
  rw [← setB_eq hn2]
  obtain ⟨oa, c, rfl⟩ := X.shapeT
  cases h1 : risL xs
  · rw [h1] at r1
    simp -implicitDefEqProofs [CL_ret r1]
  · rw [h1] at r1
    simp -implicitDefEqProofs [CL_ret r1, CL_ret r2]
def upR (lo hi : Int) : List Int → Option Int → Bool
  | [], _ => true
  | x :: r, p => inB x lo hi && (match p with | some a => !decide (x ≤ a) | none => true) && upR lo hi r (some x)
theorem upR_nil {lo hi : Int} {p : Option Int} : upR lo hi [] p = true := rfl
theorem upR_cons0 {lo hi x : Int} {r : List Int} : upR lo hi (x :: r) none = (inB x lo hi && true && upR lo hi r (some x)) := rfl
theorem upR_cons1 {lo hi x a : Int} {r : List Int} : upR lo hi (x :: r) (some a) = (inB x lo hi && (!decide (x ≤ a)) && upR lo hi r (some x)) := rfl
theorem upR_some {lo hi : Int} : ∀ {xs : List Int} {p : Int}, upR lo hi xs (some p) = (xs.all (fun x => inB x lo hi) && risL (p :: xs))
  | [], p => rfl
  | x :: r, p => by
    rw [upR_cons1, upR_some, List.all_cons, risL]
    cases inB x lo hi <;> cases decide (x ≤ p) <;> simp
theorem upR_none {n : Nat} : upR 0 ((n : Int) - 1) xs none = setB n xs := by
  have e : ∀ x, inB x 0 ((n : Int) - 1) = (decide (0 ≤ x) && decide (x < n)) := fun x => by
    rw [Bool.eq_iff_iff]; simp [inB]; omega
  unfold setB
  cases xs with
  | nil => rfl
  | cons x r =>
    rw [upR_cons0, upR_some, List.all_cons]
    simp only [e, Bool.and_true, Bool.and_assoc]
theorem l1RisingG_run {lo hi : Int} (X : Ints h v xs) (hn : xs.length ≤ 2 ^ 40) : Ret P G n_spec_l1Rising [v, .int .i64 lo, .int .i64 hi] h (.bool (upR lo hi xs none)) h := by
  refine enter_run e_spec_l1Rising (by simp) ?_
  have Xs := X
  obtain ⟨oa, c, rfl⟩ := X.shapeT
  simp -implicitDefEqProofs
  refine R_loopO (fun m s h' => ∃ i : Nat, i + m = xs.length ∧ s = [(0, .slice oa xs.length c), (1, .int .i64 lo), (2, .int .i64 hi), (7, .int .i64 i)] ∧ h' = h ∧ upR lo hi xs none = upR lo hi (xs.drop i) (if i = 0 then none else xs[i - 1]?)) (fun I hI m s h' => ?_) (n := xs.length) ⟨0, Nat.zero_add _, by simp⟩
  rintro ⟨i, hi', rfl, rfl, hx⟩
  by_cases hlt : i < xs.length
  · obtain ⟨y, hy, hd⟩ := drop_at hlt
    rw [hd] at hx
    have ly := load_I Xs hy
    have next : upR lo hi (xs.drop (i + 1)) (some y) = upR lo hi (xs.drop (i + 1)) (if i + 1 = 0 then none else xs[i + 1 - 1]?) := by simp [hy]
    by_cases h0 : i = 0
    · subst h0
      rw [if_pos rfl, upR_cons0, next] at hx
      simp only [Int.cast_ofNat_Int] at ly
      have w0 : IntKind.i64.wrap 1 = 1 := by rw [wrap_ok] <;> omega
      have hlt' : (0 : Int) < xs.length := by omega
      cases h1 : inB y lo hi
      · rw [h1] at hx
        simp -implicitDefEqProofs [-indexAddrP_some, hlt, hlt', ly, CH_at l1In_run, CL_ret l1In_run, h1, w0]
        simpa using hx
      · rw [h1] at hx
        simp -implicitDefEqProofs [-indexAddrP_some, hlt, hlt', ly, CH_at l1In_run, CL_ret l1In_run, h1, w0]
        exact ⟨m - 1, by omega, on hI ⟨1, by omega, by simp, rfl, by simpa using hx⟩⟩
    · obtain ⟨k, rfl⟩ : ∃ k, i = k + 1 := ⟨i - 1, by omega⟩
      obtain ⟨z, hz, _⟩ := drop_at (show k < xs.length by omega)
      rw [if_neg h0, Nat.add_sub_cancel, hz, upR_cons1, next] at hx
      have lz := load_I Xs hz
      simp only [Int.natCast_add, Int.cast_ofNat_Int] at ly
      have w0 : IntKind.i64.wrap (k : Int) = k := by rw [wrap_ok] <;> omega
      have w2 : IntKind.i64.wrap ((k : Int) + 1 + 1) = (k : Int) + 1 + 1 := by rw [wrap_ok] <;> omega
      have hlt' : (k : Int) + 1 < xs.length := by omega
      have hp' : (0 : Int) < (k : Int) + 1 := by omega
      cases h1 : inB y lo hi
      · rw [h1] at hx
        simp -implicitDefEqProofs [-indexAddrP_some, hlt, hlt', hp', ly, lz, CH_at l1In_run, CL_ret l1In_run, h1, w0, w2]
        simpa using hx
      · by_cases h2 : y ≤ z
        · rw [h1, decide_eq_true h2] at hx
          simp -implicitDefEqProofs [-indexAddrP_some, hlt, hlt', hp', ly, lz, CH_at l1In_run, CL_ret l1In_run, h1, h2, w0, w2]
          simpa using hx
        · rw [h1, decide_eq_false h2] at hx
          simp -implicitDefEqProofs [-indexAddrP_some, hlt, hlt', hp', ly, lz, CH_at l1In_run, CL_ret l1In_run, h1, h2, w0, w2]
          exact ⟨m - 1, by omega, on hI ⟨k + 1 + 1, by omega, by simp, rfl, by simpa using hx⟩⟩
  · have hlt' : ¬ (i : Int) < xs.length := by omega
    rw [List.drop_eq_nil_of_le (by omega), upR_nil] at hx
    simp -implicitDefEqProofs [hlt, hlt', hx]
theorem l6SetG_run (J : Jobs h vj js) (X : Ints h v xs) (hn : xs.length ≤ 2 ^ 40) (hjn : js.length ≤ 2 ^ 40) : Ret P G n_spec_l6Set [vj, v] h (.bool (setB js.length xs)) h := by
  refine enter_run e_spec_l6Set (by simp) ?_
  have r1 := l1RisingG_run (lo := 0) (hi := (js.length : Int) - 1) X hn
  rw [upR_none] at r1
  obtain ⟨oa, c, rfl⟩ := J.shapeT
  have w : IntKind.i64.wrap ((js.length : Int) - 1) = (js.length : Int) - 1 := by rw [wrap_ok] <;> omega
  simp -implicitDefEqProofs [w, CL_ret r1]
/-! ### timely sets -/
def timB (js : List Job) (xs : List Int) : Bool := timGo js 0 (dueL js xs)
theorem tim_imp {js : List Job} (p : Pl js) {xs : List Int} : timGo js 0 (sortB (dAh js) xs) = timB js xs := tim_sorted p dAhL_d dueL_d (sortB_perm.trans sortB_perm.symm)
theorem tim_spec {js : List Job} {xs : List Int} (hs : xs.Pairwise (· < ·)) : timGo js 0 (dueF js xs) = timB js xs := by rw [due_eq hs]; rfl
def tmlOk (js : List Job) (xs : List Int) : Bool := plOk js && setB js.length xs
theorem implIsTimely_run (J : Jobs h vj js) (X : Ints h v xs) (hl : js.length ≤ 2 ^ 40) (hx : xs.length ≤ 2 ^ 10) : Ret P G n_impl_IsTimely [vj, v] h (.tuple #[.bool (tmlOk js xs && timB js xs), .bool (tmlOk js xs)]) h := by
  have key : Ret P G n_impl_OnTime [vj, v] h (.tuple #[.bool (tmlOk js xs && timB js xs), .bool (tmlOk js xs)]) h := by
    refine enter_run e_impl_OnTime (by simp) ?_
    have r1 := IsPlain_run J hl
    have r2 := isSetG_run (n := js.length) X (by omega) hl
    have Js := J
    have Xs := X
    obtain ⟨oj, cj, rfl⟩ := J.shapeT
    obtain ⟨ox, cx, rfl⟩ := X.shapeT
    cases c1 : plOk js
    · rw [c1] at r1
      simp -implicitDefEqProofs [CL_ret r1, tmlOk, c1]
    · rw [c1] at r1
      cases c2 : setB js.length xs
      · rw [c2] at r2
        simp -implicitDefEqProofs [CL_ret r1, CL_ret r2, tmlOk, c1, c2]
      · rw [c2] at r2
        obtain ⟨hin, hs⟩ := setB_iff.1 c2
        obtain ⟨_, hg, _⟩ := plOk_of c1
        have r3 := onTime_run Js Xs hin hx (good_bd hg)
        rw [tim_imp (plOk_pl c1)] at r3
        simp -implicitDefEqProofs [CL_ret r1, CL_ret r2, CL_ret r3, tmlOk, c1, c2]
  refine enter_run e_impl_IsTimely (by simp) ?_
  obtain ⟨oj, cj, rfl⟩ := J.shapeT
  obtain ⟨ox, cx, rfl⟩ := X.shapeT
  simp -implicitDefEqProofs [CL_ret key]
end
end Go.Pm.PP

/- Tables of truth values in the small machine; the closure of pairs, by both. -/
set_option linter.unusedVariables false
set_option linter.unusedSimpArgs false
set_option maxRecDepth 4000
set_option maxHeartbeats 16000000
namespace Go.Pm.PP
open Go.Pm Go.Proofs Go.Pm.PE
def encB (b : Bool) : List Value := [.bool b]
theorem load_B {h : Hp} {v : Value} {xs : List Bool} {i : Nat} {x : Bool} (hv : Sees h v 1 (xs.map encB)) (hx : xs[i]? = some x) :
    indexAddrP P h t_S_bool v (.int .i64 i) = some (.pointer (some (addP (base v) (i)))) ∧ loadP P h t_bool (.pointer (some (addP (base v) (i)))) = some (.bool x) := by
  have hi := (List.getElem?_eq_some_iff.1 hx).1
  have h1 := hv.indexT (P := P) u_S_bool i_bool (k := .i64) (j := i) (by omega) (by omega)
  rw [Int.toNat_natCast] at h1
  have h2 := hv.cellT (P := P) (ty := t_bool) a_bool i_bool hx (k := 0) (by omega)
  exact ⟨by simpa using h1, by simpa [encB] using h2⟩
theorem put_B {h0 h : Hp} {L : List Asn} (H : Holds h0 h L) (i : Nat) {v : Value} {xs : List Bool} (hi : L[i]? = some (.own v 1 (xs.map encB))) {j : Nat} (hj : j < xs.length) (x : Bool) :
    ∃ h', storeP P h t_bool (.bool x) (.pointer (some (addP (base v) (j)))) = some h' ∧ Holds h0 h' (L.set i (.own v 1 ((xs.set j x).map encB))) ∧ Keeps (rowV v) h h' := by
  have := H.put (P := P) i (t := t_bool) (w := .bool x) (j := j) hi i_bool (by simpa using hj) rfl (by simp)
  simpa [List.map_set, encB] using this
theorem make_B {h0 h : Hp} {L : List Asn} (H : Holds h0 h L) {n : Nat} (hn : n ≤ 2 ^ 40) :
    ∃ v h', makeP P h t_S_bool (.int .i64 n) (.int .i64 n) = some (v, h') ∧ Holds h0 h' (L ++ [.own v 1 ((List.replicate n false).map encB)]) ∧ h <+: h' ∧ (∃ oa, v = .slice oa n n) := by
  have mk := make_eq (h := h) u_S_bool e_t_bool z_t_bool rfl (by rw [s_t_bool]; omega) (by rw [b_t_bool]; omega) (n := n) (by omega) (by rw [b_t_bool]; omega)
  rw [s_t_bool] at mk
  simp only [Value.cells] at mk
  have hlz : ∀ e ∈ List.replicate n ([.bool false] : List Value), e.length = 1 := fun e he => by rw [List.eq_of_mem_replicate he]; rfl
  refine ⟨_, _, mk, ?_, List.prefix_append .., _, rfl⟩
  have := H.lit (els := List.replicate n ([.bool false] : List Value)) (sz := 1) (n := n * 1) hlz (by simp)
  simpa [encB] using this
section
variable {h : Hp} {ve : Value} {es : List (Int × Int)} {n : Nat}
end
end Go.Pm.PP

/- Typed rules for slices: printed by a program of this work (wrap.py). -/
set_option linter.unusedVariables false
set_option linter.unusedSimpArgs false
set_option maxRecDepth 4000
namespace Go.Pm.PP
open Go.Pm Go.Proofs
theorem load_N {h : Hp} {v : Value} {xs : List (Value)} {i : Nat} {x : Value} (hv : Sees h v 1 (xs.map encV)) (hx : xs[i]? = some x) :
    indexAddrP P h t_S_S_int v (.int .i64 i) = some (.pointer (some (addP (base v) (i)))) ∧ loadP P h t_S_int (.pointer (some (addP (base v) (i)))) = some (x) := by
  have hi := (List.getElem?_eq_some_iff.1 hx).1
  have h1 := hv.indexT (P := P) u_S_S_int i_S_int (k := .i64) (j := i) (by omega) (by omega)
  rw [Int.toNat_natCast] at h1
  have h2 := hv.cellT (P := P) (ty := t_S_int) a_S_int i_S_int hx (k := 0) (by omega)
  exact ⟨by simpa using h1, by simpa [encV] using h2⟩
theorem ones_N (xs : List (Value)) (hone : ∀ x ∈ xs, one x = true) : (xs.map encV).flatten.all one = true := by
  induction xs with
  | nil => rfl
  | cons x xs ih => rw [List.map_cons, List.flatten_cons, List.all_append, ih fun y hy => hone y (List.mem_cons_of_mem _ hy)]; simp [encV, -one, hone x (List.mem_cons_self ..)]
theorem push_N0 {h0 h : Hp} {L : List Asn} (H : Holds h0 h L) (i : Nat) {v : Value} {xs : List (Value)} (hi : L[i]? = some (.own v 1 (xs.map encV))) (x : Value) (hone : one x = true) (hn : xs.length ≤ 2 ^ 40) :
    ∃ v' h', appendP P (h ++ [some ⟨[x], 1, false⟩]) t_S_S_int v (.slice (some ⟨h.length, 0, some 1⟩) 1 1) = some (v', h') ∧ Holds h0 h' (L.set i (.own v' 1 ((xs ++ [x]).map encV))) ∧ Keeps (rowV v) h h' ∧ (rowV v = none → newOk (h ++ [some ⟨[x], 1, false⟩]) h') := by
  obtain ⟨v', h', g1, g2, g3, g4⟩ := (H.ext (List.prefix_append h [])).push (P := P) i (y := encV x) (n := 1) hi u_S_S_int e_t_S_int z_t_S_int s_t_S_int (by omega) (by rw [b_t_S_int]; omega) rfl rfl (by simp [encV, -one, hone]) (by rw [b_t_S_int]; simp; omega)
  rw [show xs.map encV ++ [encV x] = (xs ++ [x]).map encV by simp] at g2
  exact ⟨v', h', by simpa [encV] using g1, g2, Keeps.app.trans g3, by simpa [encV] using g4⟩
theorem app_N {h0 h : Hp} {L : List Asn} (H : Holds h0 h L) (i : Nat) {v u : Value} {xs ys : List (Value)} (hi : L[i]? = some (.own v 1 (xs.map encV))) (s : Sees h u 1 (ys.map encV)) (hone : ∀ x ∈ ys, one x = true) (hn : xs.length + ys.length ≤ 2 ^ 40) :
    ∃ v' h', appendP P h t_S_S_int v u = some (v', h') ∧ Holds h0 h' (L.set i (.own v' 1 ((xs ++ ys).map encV))) ∧ Keeps (rowV v) h h' := by
  obtain ⟨v', h', g1, g2, g3⟩ := H.app (P := P) i hi u_S_S_int e_t_S_int z_t_S_int s_t_S_int (by omega) (by rw [b_t_S_int]; omega) s (ones_N ys hone) (by rw [b_t_S_int]; simp; omega)
  rw [← List.map_append] at g2
  exact ⟨v', h', g1, g2, g3⟩
theorem put_N {h0 h : Hp} {L : List Asn} (H : Holds h0 h L) (i : Nat) {v : Value} {xs : List (Value)} (hi : L[i]? = some (.own v 1 (xs.map encV))) {j : Nat} (hj : j < xs.length) (x : Value) (hone : one x = true) :
    ∃ h', storeP P h t_S_int (x) (.pointer (some (addP (base v) (j)))) = some h' ∧ Holds h0 h' (L.set i (.own v 1 ((xs.set j x).map encV))) ∧ Keeps (rowV v) h h' := by
  have := H.put (P := P) i (t := t_S_int) (w := x) (j := j) hi i_S_int (by simpa using hj) (by cases x <;> first | rfl | cases hone) (by cases x <;> first | rfl | cases hone)
  rw [show (x : Value).cells.toList = [x] by cases x <;> first | rfl | cases hone] at this
  simpa [List.map_set, encV] using this
end Go.Pm.PP
