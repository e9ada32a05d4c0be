/- The texts PvXp, PvXo, PvXq, PvL, PvM, PvK of this work: The set with the greatest bound of lateness, by both. -/
import Derived.ProofKit
import Derived.OpenShut
import Derived.Carry
import Derived.Test.YtcmbjbddjlamaaaP8
import Derived.Test.YtcmbjbddjlamaaaP7
import Derived.Test.YtcmbjbddjlamaaaM4
/- The set with the greatest bound of lateness, by both. -/
set_option linter.unusedVariables false
set_option linter.unusedSimpArgs false
set_option maxRecDepth 4000
set_option maxHeartbeats 16000000
namespace Go.Pm.PP
open Go.Pm Go.Proofs Go.Pm.PE
/-! ### comparing lists -/
def lxB : List Int → List Int → Bool
  | x :: xs, y :: ys => if x = y then lxB xs ys else decide (x < y)
  | [], _ :: _ => true
  | _, [] => false
def cmpM : List Int → List Int → Int
  | x :: xs, y :: ys => if x = y then cmpM xs ys else x - y
  | xs, ys => (xs.length : Int) - ys.length
theorem cmp_lx : ∀ {xs ys : List Int}, decide (cmpM xs ys < 0) = lxB xs ys
  | [], [] => rfl
  | [], y :: ys => by simp [cmpM, lxB]
  | x :: xs, [] => by simp [cmpM, lxB]; omega
  | x :: xs, y :: ys => by
    rw [cmpM, lxB]
    by_cases c : x = y
    · rw [if_pos c, if_pos c]; exact cmp_lx
    · rw [if_neg c, if_neg c, Bool.eq_iff_iff, decide_eq_true_eq, decide_eq_true_eq]; omega
theorem cmpM_end {xs ys : List Int} (h : xs = [] ∨ ys = []) : cmpM xs ys = (xs.length : Int) - ys.length := by
  rcases h with rfl | rfl
  · cases ys <;> rfl
  · cases xs <;> rfl
theorem lxB_end {xs ys : List Int} (h : xs = [] ∨ ys = []) : lxB xs ys = decide (xs.length < ys.length) := by
  rcases h with rfl | rfl
  · cases ys <;> simp [lxB]
  · cases xs <;> simp [lxB]
section
variable {h : Hp} {vj v u : Value} {js : List Job} {xs ys : List Int}
theorem compareM_run (X : Ints h v xs) (Y : Ints h u ys) (hx0 : xs.length ≤ 2 ^ 20) (hb : ys.length ≤ 2 ^ 20) (bx : ∀ e, e ∈ xs → 0 ≤ e ∧ e ≤ 2 ^ 20) (byy : ∀ e, e ∈ ys → 0 ≤ e ∧ e ≤ 2 ^ 20) : Ret P G n_impl_compareLists [v, u] h (.int .i64 (cmpM xs ys)) h := by
  have Xs := X
  have Ys := Y
  obtain ⟨ox, cx, rfl⟩ := X.shapeT
  obtain ⟨oy, cy, rfl⟩ := Y.shapeT
  refine enter_run e_impl_compareLists (by simp) ?_
  simp -implicitDefEqProofs
  refine R_loopO (fun m s h' => ∃ (i : Nat), i + m = min xs.length ys.length ∧ s = [(0, .slice ox xs.length cx), (1, .slice oy ys.length cy), (5, .int .i64 i)] ∧ cmpM xs ys = cmpM (xs.drop i) (ys.drop i) ∧ h' = h) (fun I hI m s h' => ?_) (n := min xs.length ys.length) ⟨0, Nat.zero_add _, by simp, rfl, rfl⟩
  rintro ⟨i, hi, rfl, hx, rfl⟩
  have w0 : IntKind.i64.wrap ((xs.length : Int) - ys.length) = (xs.length : Int) - ys.length := by rw [wrap_ok] <;> omega
  by_cases hlx : i < xs.length
  · have hlx' : (i : Int) < xs.length := by omega
    by_cases hlt : i < ys.length
    · have hlt' : (i : Int) < ys.length := by omega
      obtain ⟨a, ha, hda⟩ := drop_at hlx
      obtain ⟨b, hb', hdb⟩ := drop_at hlt
      have ea := bx a (List.mem_of_getElem? ha)
      have eb := byy b (List.mem_of_getElem? hb')
      rw [hda, hdb, cmpM] at hx
      by_cases c : a = b
      · rw [if_pos c] at hx
        subst c
        simp -implicitDefEqProofs [-indexAddrP_some, hlt, hlx, hlt', hlx', load_I Xs ha, load_I Ys hb', winc hlt (by omega)]
        exact ⟨m - 1, by omega, on hI ⟨i + 1, by omega, rfl, hx, rfl⟩⟩
      · rw [if_neg c] at hx
        have w : IntKind.i64.wrap (a - b) = a - b := by rw [wrap_ok] <;> omega
        simp -implicitDefEqProofs [-indexAddrP_some, hlt, hlx, hlt', hlx', load_I Xs ha, load_I Ys hb', nb c, nt c, w]
        rw [hx]
    · have hlt' : ¬ (i : Int) < ys.length := by omega
      rw [cmpM_end (.inr (List.drop_eq_nil_of_le (by omega))), List.length_drop, List.length_drop] at hx
      have hx : cmpM xs ys = (xs.length : Int) - ys.length := by omega
      simp -implicitDefEqProofs [hlt, hlx, hlt', hlx', w0]
      rw [hx]
  · have hlx' : ¬ (i : Int) < xs.length := by omega
    rw [cmpM_end (.inl (List.drop_eq_nil_of_le (by omega))), List.length_drop, List.length_drop] at hx
    have hx : cmpM xs ys = (xs.length : Int) - ys.length := by omega
    simp -implicitDefEqProofs [hlx, hlx', w0]
    rw [hx]
theorem l5Less_run (X : Ints h v xs) (Y : Ints h u ys) (hx0 : xs.length ≤ 2 ^ 20) (hb : ys.length ≤ 2 ^ 20) : Ret P G n_spec_l5Less [v, u] h (.bool (lxB xs ys)) h := by
  have Xs := X
  have Ys := Y
  obtain ⟨ox, cx, rfl⟩ := X.shapeT
  obtain ⟨oy, cy, rfl⟩ := Y.shapeT
  refine enter_run e_spec_l5Less (by simp) ?_
  simp -implicitDefEqProofs
  refine R_loopO (fun m s h' => ∃ (i : Nat), i + m = min xs.length ys.length ∧ s = [(0, .slice ox xs.length cx), (1, .slice oy ys.length cy), (5, .int .i64 i)] ∧ lxB xs ys = lxB (xs.drop i) (ys.drop i) ∧ h' = h) (fun I hI m s h' => ?_) (n := min xs.length ys.length) ⟨0, Nat.zero_add _, by simp, rfl, rfl⟩
  rintro ⟨i, hi, rfl, hx, rfl⟩
  have fin : (xs.drop i = [] ∨ ys.drop i = []) → lxB xs ys = decide (xs.length < ys.length) := fun g => by
    rw [hx, lxB_end g, List.length_drop, List.length_drop, Bool.eq_iff_iff, decide_eq_true_eq, decide_eq_true_eq]; omega
  by_cases hlx : i < xs.length
  · have hlx' : (i : Int) < xs.length := by omega
    by_cases hlt : i < ys.length
    · have hlt' : (i : Int) < ys.length := by omega
      obtain ⟨a, ha, hda⟩ := drop_at hlx
      obtain ⟨b, hb', hdb⟩ := drop_at hlt
      rw [hda, hdb, lxB] at hx
      by_cases c : a = b
      · rw [if_pos c] at hx
        subst c
        simp -implicitDefEqProofs [-indexAddrP_some, hlt, hlx, hlt', hlx', load_I Xs ha, load_I Ys hb', winc hlt (by omega)]
        exact ⟨m - 1, by omega, on hI ⟨i + 1, by omega, rfl, hx, rfl⟩⟩
      · rw [if_neg c] at hx
        simp -implicitDefEqProofs [-indexAddrP_some, hlt, hlx, hlt', hlx', load_I Xs ha, load_I Ys hb', nb c, nt c, hx]
    · have hlt' : ¬ (i : Int) < ys.length := by omega
      have hf := fin (.inr (List.drop_eq_nil_of_le (by omega)))
      simp -implicitDefEqProofs [hlt, hlx, hlt', hlx', hf]
  · have hlx' : ¬ (i : Int) < xs.length := by omega
    have hf := fin (.inl (List.drop_eq_nil_of_le (by omega)))
    simp -implicitDefEqProofs [hlx, hlx', hf]
/-! ### bounds, by the reference -/
theorem leB_first {js : List Job} (hg : goodL js = true) {x : Int} {xs : List Int} : leB js (x :: xs) = (x :: xs).foldl (fun b x => min b (jA js x).r) (jA js x).r := by
  have := jrd_bd hg x
  unfold leB
  rw [List.foldl_cons, List.foldl_cons]
  congr 1; omega
theorem laB_first {js : List Job} (hg : goodL js = true) {x : Int} {xs : List Int} : laB js (x :: xs) = (x :: xs).foldl (fun b x => max b (jA js x).d) (jA js x).d := by
  have := jrd_bd hg x
  unfold laB
  rw [List.foldl_cons, List.foldl_cons]
  congr 1; omega
theorem l5Set_run (J : Jobs h vj js) (X : Ints h v xs) (hin : inN js.length xs) (hg : goodL js = true) (hx : xs.length ≤ 2 ^ 10) (hne : xs ≠ []) : Ret P G n_spec_l5Set [vj, v] h (.int .i64 (lbG js xs)) h := by
  refine enter_run e_spec_l5Set (by simp) ?_
  have Js := J
  have Xs := X
  obtain ⟨oj, cj, rfl⟩ := J.shapeT
  obtain ⟨oa, ca, rfl⟩ := X.shapeT
  obtain ⟨x0, t, ex⟩ : ∃ x0 t, xs = x0 :: t := by cases xs with
    | nil => exact absurd rfl hne
    | cons a b => exact ⟨a, b, rfl⟩
  have h0 : xs[0]? = some x0 := by rw [ex]; rfl
  have i0 := hin x0 (List.mem_of_getElem? h0)
  have l0 := load_I Xs h0
  have j0 := load_JX Js i0
  have e1 : leB js xs = xs.foldl (fun b x => min b (jA js x).r) (jA js x0).r := by rw [ex]; exact leB_first hg
  have e2 : laB js xs = xs.foldl (fun b x => max b (jA js x).d) (jA js x0).d := by rw [ex]; exact laB_first hg
  have b0 := jrd_bd hg x0
  have r0 := l3Total_run Js Xs hin hg hx
  simp only [Int.natCast_zero] at l0
  simp -implicitDefEqProofs [-indexAddrP_some, l0, j0]
  refine R_loopO (fun m s h' => ∃ (i : Nat), i + m = xs.length ∧ s = [(0, .slice oj js.length cj), (1, .slice oa xs.length ca), (5, .int .i64 ((xs.take i).foldl (fun b x => min b (jA js x).r) (jA js x0).r)), (6, .int .i64 ((xs.take i).foldl (fun b x => max b (jA js x).d) (jA js x0).d)), (7, .int .i64 i)] ∧ h' = h) (fun I hI m s h' => ?_) (n := xs.length) ⟨0, Nat.zero_add _, by simp, rfl⟩
  rintro ⟨i, hi, rfl, rfl⟩
  by_cases hlt : i < xs.length
  · have hlt' : (i : Int) < xs.length := by omega
    obtain ⟨y, hy, _⟩ := drop_at hlt
    have ly := load_I Xs hy
    have lj := load_JX Js (hin y (List.mem_of_getElem? hy))
    have q1 : (xs.take (i + 1)).foldl (fun b x => min b (jA js x).r) (jA js x0).r = min ((xs.take i).foldl (fun b x => min b (jA js x).r) (jA js x0).r) (jA js y).r := by rw [take_succ' hy, List.foldl_append]; rfl
    have q2 : (xs.take (i + 1)).foldl (fun b x => max b (jA js x).d) (jA js x0).d = max ((xs.take i).foldl (fun b x => max b (jA js x).d) (jA js x0).d) (jA js y).d := by rw [take_succ' hy, List.foldl_append]; rfl
    simp -implicitDefEqProofs [-indexAddrP_some, hlt, hlt', ly, lj, CL_ret l1Least_run, CL_ret l1Most_run, winc hlt (by omega)]
    exact ⟨m - 1, by omega, on hI ⟨i + 1, by omega, by rw [q1, q2]; simp, rfl⟩⟩
  · have hlt' : ¬ (i : Int) < xs.length := by omega
    rw [List.take_of_length_le (by omega), ← e1, ← e2]
    have b1 := leB_bd hg (xs := xs) (b := 500) (by omega)
    have b2 := laB_bd hg (xs := xs) (b := 0) (by omega)
    have e3 : xs.foldl (fun b x => min b (jA js x).r) 500 = leB js xs := rfl
    have e4 : xs.foldl (fun b x => max b (jA js x).d) 0 = laB js xs := rfl
    rw [e3] at b1
    rw [e4] at b2
    have tb := tj_bd hg (xs := xs)
    have w1 : IntKind.i64.wrap (leB js xs + tsm (tJ js) xs) = leB js xs + tsm (tJ js) xs := by rw [wrap_ok] <;> omega
    have w2 : IntKind.i64.wrap (leB js xs + tsm (tJ js) xs - laB js xs) = lbG js xs := by rw [lbG, wrap_ok] <;> omega
    simp -implicitDefEqProofs [hlt, hlt', CL_ret r0, w1, w2]
theorem l5Subset_run {n c : Nat} (hn : n ≤ 40) (hc : c < 2 ^ n) : RunsC P G n_spec_l5Subset [.int .i64 n, .int .i64 c] h fun v h' => h <+: h' ∧ Own h.length h' v 1 ((bitsL n c).map encI) := by
  refine hideC fun K hK => enter_run e_spec_l5Subset (by simp) ?_
  have H0 := own_nil (Holds.start (h := h)) Int encI 1
  have c62 : (c : Int) < 2 ^ 41 := by
    have h1 : 2 ^ n ≤ 2 ^ 40 := Nat.pow_le_pow_right (by omega) hn
    omega
  simp -implicitDefEqProofs
  refine R_loopO (fun m s h' => ∃ (i : Nat) (u : Value) (q : Nat), i + m = n ∧ q = c / 2 ^ i ∧ s = [(0, .int .i64 n), (1, .int .i64 q), (5, u), (6, .int .i64 i)] ∧ Holds h h' [.own u 1 ((bitsL i c).map encI)]) (fun I hI m s h' => ?_) (n := n) ⟨0, .slice none 0 0, c, Nat.zero_add _, by simp, by simp, by simpa [bitsL] using H0⟩
  rintro ⟨i, u, q, hi, hq, rfl, H⟩
  by_cases hlt : i < n
  · have hlt' : (i : Int) < n := by omega
    have bl := @bits_len i c
    have bs := @bits_snoc i c
    have ql : q ≤ c := by rw [hq]; exact Nat.div_le_self ..
    have tb : c.testBit i = decide (q % 2 = 1) := by rw [hq, Nat.testBit_eq_decide_div_mod_eq]
    have m1 : (q : Int).tmod 2 = (q : Int) % 2 := Int.tmod_eq_emod_of_nonneg (by omega)
    have d1 : IntKind.i64.wrap ((q : Int).tdiv 2) = ((q / 2 : Nat) : Int) := by rw [Int.tdiv_eq_ediv_of_nonneg (by omega), wrap_ok] <;> omega
    have d2 : IntKind.i64.wrap ((q : Int) / 2) = (q : Int) / 2 := by rw [wrap_ok] <;> omega
    have q2 : q / 2 = c / 2 ^ (i + 1) := by rw [hq, Nat.div_div_eq_div_mul, Nat.pow_succ]
    by_cases ct : q % 2 = 1
    · rw [tb, decide_eq_true ct, if_pos rfl] at bs
      obtain ⟨v', h2, ha, H2, _⟩ := push_I0 H 0 rfl (i : Int) (by omega)
      have cc : ((q : Int) % 2 == 1) = true := by rw [beq_iff_eq]; omega
      simp -implicitDefEqProofs [hlt, hlt', m1, cc, ha, d1, winc hlt (by omega)]
      exact ⟨m - 1, by omega, on hI ⟨i + 1, v', q / 2, by omega, q2, by simp [d2], by rw [bs]; exact H2⟩⟩
    · rw [tb, decide_eq_false ct, if_neg (by simp), List.append_nil] at bs
      have cc : ((q : Int) % 2 == 1) = false := nb (by omega)
      simp -implicitDefEqProofs [hlt, hlt', m1, cc, d1, winc hlt (by omega)]
      exact ⟨m - 1, by omega, on hI ⟨i + 1, u, q / 2, by omega, q2, by simp [d2], by rw [bs]; exact H⟩⟩
  · have hlt' : ¬ (i : Int) < n := by omega
    obtain rfl : i = n := by omega
    simp -implicitDefEqProofs [hlt, hlt']
    exact onK hK (H.ret 0 rfl)
end
/-! ### the search -/
def lpU (js : List Job) (b s : List Int) : List Int := if b = [] then s else if lbG js b < lbG js s then s else if lbG js s = lbG js b ∧ lxB s b = true then s else b
def lpF (js : List Job) (k : Nat) : List Int := (List.range' 1 k).foldl (fun b c => lpU js b (bitsL js.length c)) []
theorem lpF_succ {js : List Job} {k : Nat} : lpF js (k + 1) = lpU js (lpF js k) (bitsL js.length (k + 1)) := by
  unfold lpF; rw [List.range'_concat, List.foldl_append]; simp [Nat.add_comm]
theorem bits_ne' {n c : Nat} (hc : 0 < c) (hn : c < 2 ^ n) : bitsL n c ≠ [] := by
  obtain ⟨i, hi, ht⟩ := bits_ne hc hn
  exact List.ne_nil_of_mem (mem_bits.2 ⟨Int.natCast_nonneg i, by omega, by rw [Int.toNat_natCast]; exact ht⟩)
theorem lpF_facts {js : List Job} : ∀ {k : Nat}, k < 2 ^ js.length → (k = 0 ∧ lpF js k = []) ∨ (0 < k ∧ lpF js k ≠ [] ∧ (∃ c, 0 < c ∧ c ≤ k ∧ lpF js k = bitsL js.length c) ∧ ∀ c, 0 < c → c ≤ k → lbG js (bitsL js.length c) ≤ lbG js (lpF js k))
  | 0, _ => .inl ⟨rfl, rfl⟩
  | k + 1, hk => by
    right
    refine ⟨by omega, ?_⟩
    have sn := bits_ne' (n := js.length) (c := k + 1) (by omega) hk
    rw [lpF_succ]
    rcases @lpF_facts js k (by omega) with ⟨rfl, e⟩ | ⟨k0, h1, ⟨c, h2, h3, h4⟩, h5⟩
    · have eu : lpU js (lpF js 0) (bitsL js.length (0 + 1)) = bitsL js.length (0 + 1) := by unfold lpU; rw [if_pos e]
      rw [eu]
      refine ⟨sn, ⟨1, by omega, by omega, rfl⟩, fun c c0 c1 => ?_⟩
      obtain rfl : c = 0 + 1 := by omega
      exact Int.le_refl _
    · have cases_ : (lpU js (lpF js k) (bitsL js.length (k + 1)) = bitsL js.length (k + 1) ∧ lbG js (lpF js k) ≤ lbG js (bitsL js.length (k + 1))) ∨ (lpU js (lpF js k) (bitsL js.length (k + 1)) = lpF js k ∧ lbG js (bitsL js.length (k + 1)) ≤ lbG js (lpF js k)) := by
        unfold lpU
        rw [if_neg h1]
        by_cases c1 : lbG js (lpF js k) < lbG js (bitsL js.length (k + 1))
        · rw [if_pos c1]; exact .inl ⟨rfl, by omega⟩
        · rw [if_neg c1]
          by_cases c2 : lbG js (bitsL js.length (k + 1)) = lbG js (lpF js k) ∧ lxB (bitsL js.length (k + 1)) (lpF js k) = true
          · rw [if_pos c2]; exact .inl ⟨rfl, by omega⟩
          · rw [if_neg c2]; exact .inr ⟨rfl, by omega⟩
      rcases cases_ with ⟨e, l⟩ | ⟨e, l⟩
      · rw [e]
        refine ⟨sn, ⟨k + 1, by omega, by omega, rfl⟩, fun d d0 d1 => ?_⟩
        by_cases q : d = k + 1
        · subst q; exact Int.le_refl _
        · have := h5 d d0 (by omega); omega
      · rw [e]
        refine ⟨h1, ⟨c, h2, by omega, h4⟩, fun d d0 d1 => ?_⟩
        by_cases q : d = k + 1
        · subst q; exact l
        · exact h5 d d0 (by omega)
def lpO (js : List Job) : List Int := if cpOk js = true then lpF js (2 ^ js.length - 1) else []
theorem bits_in {n c : Nat} : inN n (bitsL n c) := fun x hx => by
  obtain ⟨a, b, _⟩ := mem_bits.1 hx
  exact ⟨a, b⟩
section
variable {h : Hp} {vj v u : Value} {js : List Job} {xs ys : List Int}
theorem implLatenessProof_run (J : Jobs h vj js) (hl : js.length ≤ 2 ^ 40) : RunsC P G n_impl_LatenessProof [vj] h fun w h' => h <+: h' ∧ ∃ d, w = .tuple #[d, .bool (cpOk js)] ∧ Ints h' d (lpO js) := by
  refine hideC fun K hK => enter_run e_impl_LatenessProof (by simp) ?_
  have Js := J
  obtain ⟨oj, cj, rfl⟩ := J.shapeT
  have r1 := isJobs_run Js hl
  cases c1 : jOk js
  · rw [c1] at r1
    rw [lpO, cpOk, c1] at hK
    simp -implicitDefEqProofs [CL_ret r1]
    exact onK hK ⟨List.prefix_rfl, _, rfl, nil_L⟩
  rw [c1] at r1
  by_cases c2 : js.length = 0
  · obtain rfl : js = [] := List.eq_nil_of_length_eq_zero c2
    simp only [List.length_nil] at r1
    rw [lpO, cpOk, c1] at hK
    simp -implicitDefEqProofs [CL_ret r1]
    exact onK hK ⟨List.prefix_rfl, _, rfl, nil_L⟩
  have c2' : ((js.length : Int) == 0) = false := nb (by omega)
  rw [lpO, cpOk, c1, decide_eq_false c2] at hK
  obtain ⟨hn, hg⟩ := jOk_of c1
  have sh := shl_eq (i := js.length) (by omega)
  have p8 : 2 ^ js.length ≤ 2 ^ 8 := Nat.pow_le_pow_right (by omega) hn
  have p1 : 2 ^ 1 ≤ 2 ^ js.length := Nat.pow_le_pow_right (by omega) (by omega)
  generalize hN : 2 ^ js.length = N at *
  have bN : ∀ {c : Nat}, c < N → c < 2 ^ js.length := fun hc => by rw [hN]; exact hc
  simp -implicitDefEqProofs [CL_ret r1, c2, c2']
  refine R_loopO (fun m s h' => ∃ (c : Nat) (v : Value), c + m = N ∧ 1 ≤ c ∧ s = [(0, .slice oj js.length cj), (4, v), (5, .int .i64 c)] ∧ h <+: h' ∧ ((c = 1 ∧ v = nilM) ∨ (1 < c ∧ Ints h' v (lpF js (c - 1)) ∧ lpF js (c - 1) ≠ []))) (fun I hI m s h' => ?_) (n := N - 1) ⟨1, nilM, by omega, Nat.le_refl _, by simp, List.prefix_rfl, .inl ⟨rfl, rfl⟩⟩
  rintro ⟨c, v, hc, hc1, rfl, hp, hv⟩
  by_cases hlt : c < N
  case neg =>
    have hlt' : ¬ (c : Int) < N := by omega
    obtain rfl : c = N := by omega
    rcases hv with ⟨e, _⟩ | ⟨_, S, _⟩
    · omega
    obtain ⟨va, vn, vc, rfl⟩ : ∃ a n c', v = .slice a n c' := by obtain ⟨a, c, e⟩ := S.shape; exact ⟨_, _, _, e⟩
    simp -implicitDefEqProofs [sh, hlt, hlt']
    exact onK hK ⟨pre_gcU hp, _, rfl, Sees.gcU S fun g => plainT (r := [_]) g⟩
  have hlt' : (c : Int) < N := by omega
  have hb := bN hlt
  have sn := bits_ne' (n := js.length) (c := c) (by omega) hb
  have bl : (bitsL js.length c).length ≤ js.length := bits_len
  have bi : inN js.length (bitsL js.length c) := bits_in
  have es : lpF js c = lpU js (lpF js (c - 1)) (bitsL js.length c) := by
    have := @lpF_succ js (c - 1)
    rw [show c - 1 + 1 = c by omega] at this
    exact this
  have wc : IntKind.i64.wrap ((c : Int) + 1) = ((c + 1 : Nat) : Int) := by rw [wrap_ok] <;> omega
  simp -implicitDefEqProofs [sh, hlt, hlt']
  refine CL_post (listOf_run (n := js.length) (by omega) hb) fun w h2 ⟨hp2, o2⟩ => ?_
  have S2 : Ints h2 w (bitsL js.length c) := o2.sees
  have fin : ∀ {h3 : Hp} {z : Value}, h2 <+: h3 → Ints h3 z (lpF js c) → lpF js c ≠ [] → I (m - 1) [(0, .slice oj js.length cj), (4, z), (5, .int .i64 ((c + 1 : Nat) : Int))] h3 := fun hp3 Sz hz => on hI ⟨c + 1, _, by omega, by omega, rfl, hp.trans (hp2.trans hp3), .inr ⟨by omega, Sz, hz⟩⟩
  rcases hv with ⟨e1, e2⟩ | ⟨c0, Sv, hvn⟩
  · subst e2
    have eu : lpF js c = bitsL js.length c := by rw [es]; unfold lpU; rw [if_pos (by rw [e1]; rfl)]
    rw [← eu] at S2 sn
    obtain ⟨wa, wn, wc', rfl⟩ : ∃ a n c', w = .slice a n c' := by obtain ⟨a, c, e⟩ := S2.shape; exact ⟨_, _, _, e⟩
    simp -implicitDefEqProofs [nilP_mk u_S_int, wc]
    exact ⟨m - 1, by omega, by simpa using fin List.prefix_rfl S2 sn⟩
  · obtain ⟨d, hd0, hd1, hd⟩ : ∃ d, 0 < d ∧ d ≤ c - 1 ∧ lpF js (c - 1) = bitsL js.length d := by
      rcases @lpF_facts js (c - 1) (by omega) with ⟨e, _⟩ | ⟨_, _, h3, _⟩
      · omega
      · exact h3
    have vi : inN js.length (lpF js (c - 1)) := by rw [hd]; exact bits_in
    have vl : (lpF js (c - 1)).length ≤ js.length := by rw [hd]; exact bits_len
    generalize lpF js (c - 1) = b at *
    generalize bitsL js.length c = t at *
    have J2 := Js.pre (hp.trans hp2)
    have Sv2 := Sv.pre hp2
    have r3 := latenessBound_run J2 S2 bi hg (by omega)
    have r4 := latenessBound_run J2 Sv2 vi hg (by omega)
    have r5 := compareM_run S2 Sv2 (by omega) (by omega) (fun e he => by have := bi e he; omega) (fun e he => by have := vi e he; omega)
    have lb := fun {z : List Int} (hz : inN js.length z) (hl : z.length ≤ js.length) (hne : z ≠ []) => show -(2 ^ 24) ≤ lbG js z ∧ lbG js z ≤ 2 ^ 24 by
      have b1 := leB_bd hg (xs := z) (b := 500) (by omega)
      have b2 := laB_bd hg (xs := z) (b := 0) (by omega)
      have tb := tj_bd hg (xs := z)
      have e3 : z.foldl (fun b x => min b (jA js x).r) 500 = leB js z := rfl
      have e4 : z.foldl (fun b x => max b (jA js x).d) 0 = laB js z := rfl
      have e5 : lbG js z = leB js z + tsm (tJ js) z - laB js z := rfl
      omega
    have lb1 := lb bi bl sn
    have lb2 := lb vi vl hvn
    have w1 : IntKind.i64.wrap (lbG js t - lbG js b) = lbG js t - lbG js b := by rw [wrap_ok] <;> omega
    obtain ⟨va, vn, vc, rfl⟩ : ∃ a n c', v = .slice (some a) n c' := by
      obtain ⟨a, c', e⟩ := Sv.shape
      cases a with
      | none =>
        subst e
        obtain ⟨_, oa, c9, e9, h9⟩ := Sv
        cases e9
        rcases h9 with ⟨_, h10, _⟩ | ⟨r, o, x, h10, _⟩
        · rw [List.map_eq_nil_iff] at h10; exact absurd h10 hvn
        · cases h10
      | some a => exact ⟨a, _, _, e⟩
    obtain ⟨wa, wn, wc', rfl⟩ : ∃ a n c', w = .slice a n c' := by obtain ⟨a, c, e⟩ := S2.shape; exact ⟨_, _, _, e⟩
    have cl := @cmp_lx t b
    by_cases c3 : lbG js b < lbG js t
    · have eu : lpF js c = t := by rw [es]; unfold lpU; rw [if_neg hvn, if_pos c3]
      rw [← eu] at S2 sn
      have c3' : 0 < lbG js t - lbG js b := by omega
      simp -implicitDefEqProofs [nilP_some u_S_int, CL_ret r3, CL_ret r4, w1, c3', c3, wc]
      exact ⟨m - 1, by omega, by simpa using fin List.prefix_rfl S2 sn⟩
    · have c3' : ¬ 0 < lbG js t - lbG js b := by omega
      by_cases c4 : lbG js t = lbG js b
      · have c4' : (lbG js t - lbG js b == 0) = true := by rw [beq_iff_eq]; omega
        by_cases c5 : cmpM t b < 0
        · rw [decide_eq_true c5] at cl
          have eu : lpF js c = t := by rw [es]; unfold lpU; rw [if_neg hvn, if_neg c3, if_pos ⟨c4, cl.symm⟩]
          rw [← eu] at S2 sn
          simp -implicitDefEqProofs [nilP_some u_S_int, CL_ret r3, CL_ret r4, w1, c3', c3, c4', CL_ret r5, c5, wc]
          exact ⟨m - 1, by omega, by simpa using fin List.prefix_rfl S2 sn⟩
        · rw [decide_eq_false c5] at cl
          have eu : lpF js c = b := by rw [es]; unfold lpU; rw [if_neg hvn, if_neg c3, if_neg (fun g => by rw [g.2] at cl; cases cl)]
          rw [← eu] at Sv2 hvn
          simp -implicitDefEqProofs [nilP_some u_S_int, CL_ret r3, CL_ret r4, w1, c3', c3, c4', CL_ret r5, c5, wc]
          exact ⟨m - 1, by omega, by simpa using fin List.prefix_rfl Sv2 hvn⟩
      · have c4' : (lbG js t - lbG js b == 0) = false := nb (by omega)
        have eu : lpF js c = b := by rw [es]; unfold lpU; rw [if_neg hvn, if_neg c3, if_neg (fun g => c4 g.1)]
        rw [← eu] at Sv2 hvn
        simp -implicitDefEqProofs [nilP_some u_S_int, CL_ret r3, CL_ret r4, w1, c3', c3, c4', wc]
        exact ⟨m - 1, by omega, by simpa using fin List.prefix_rfl Sv2 hvn⟩
end
end Go.Pm.PP

/- FnGreedyOrder in the small machine. -/
set_option linter.unusedVariables false
set_option linter.unusedSimpArgs false
set_option maxRecDepth 4000
set_option maxHeartbeats 16000000
namespace Go.Pm.PP
open Go.Pm Go.Proofs Go.Pm.PE
end Go.Pm.PP

/- FnLatenessProof in the small machine. -/
set_option linter.unusedVariables false
set_option linter.unusedSimpArgs false
set_option maxRecDepth 4000
set_option maxHeartbeats 16000000
namespace Go.Pm.PP
open Go.Pm Go.Proofs Go.Pm.PE
section
variable {h : Hp} {vj v u : Value} {js : List Job} {xs ys : List Int}
theorem specLatenessProof_run (J : Jobs h vj js) (hl : js.length ≤ 2 ^ 40) : RunsC P G n_spec_LatenessProof [vj] h fun w h' => h <+: h' ∧ ∃ d, w = .tuple #[d, .bool (cpOk js)] ∧ Ints h' d (lpO js) := by
  refine hideC fun K hK => enter_run e_spec_LatenessProof (by simp) ?_
  have Js := J
  obtain ⟨oj, cj, rfl⟩ := J.shapeT
  have r1 := good_run Js hl
  cases c1 : jOk js
  · rw [c1] at r1
    rw [lpO, cpOk, c1] at hK
    simp -implicitDefEqProofs [CL_ret r1]
    exact onK hK ⟨List.prefix_rfl, _, rfl, nil_L⟩
  rw [c1] at r1
  by_cases c2 : js.length = 0
  · obtain rfl : js = [] := List.eq_nil_of_length_eq_zero c2
    simp only [List.length_nil] at r1
    rw [lpO, cpOk, c1] at hK
    simp -implicitDefEqProofs [CL_ret r1]
    exact onK hK ⟨List.prefix_rfl, _, rfl, nil_L⟩
  have c2' : ((js.length : Int) == 0) = false := nb (by omega)
  rw [lpO, cpOk, c1, decide_eq_false c2] at hK
  obtain ⟨hn, hg⟩ := jOk_of c1
  have sh := shl_eq (i := js.length) (by omega)
  have p8 : 2 ^ js.length ≤ 2 ^ 8 := Nat.pow_le_pow_right (by omega) hn
  have p1 : 2 ^ 1 ≤ 2 ^ js.length := Nat.pow_le_pow_right (by omega) (by omega)
  generalize hN : 2 ^ js.length = N at *
  have bN : ∀ {c : Nat}, c < N → c < 2 ^ js.length := fun hc => by rw [hN]; exact hc
  simp -implicitDefEqProofs [CL_ret r1, c2, c2']
  refine R_loopO (fun m s h' => ∃ (c : Nat) (v : Value), c + m = N ∧ 1 ≤ c ∧ s = [(0, .slice oj js.length cj), (4, v), (5, .int .i64 c)] ∧ h <+: h' ∧ ((c = 1 ∧ v = .slice none 0 0) ∨ (1 < c ∧ Ints h' v (lpF js (c - 1)) ∧ lpF js (c - 1) ≠ []))) (fun I hI m s h' => ?_) (n := N - 1) ⟨1, .slice none 0 0, by omega, Nat.le_refl _, by simp, List.prefix_rfl, .inl ⟨rfl, rfl⟩⟩
  rintro ⟨c, v, hc, hc1, rfl, hp, hv⟩
  by_cases hlt : c < N
  case neg =>
    have hlt' : ¬ (c : Int) < N := by omega
    obtain rfl : c = N := by omega
    rcases hv with ⟨e, _⟩ | ⟨_, S, _⟩
    · omega
    obtain ⟨va, vn, vc, rfl⟩ : ∃ a n c', v = .slice a n c' := by obtain ⟨a, c, e⟩ := S.shape; exact ⟨_, _, _, e⟩
    simp -implicitDefEqProofs [sh, hlt, hlt']
    exact onK hK ⟨pre_gcU hp, _, rfl, Sees.gcU S fun g => plainT (r := [_]) g⟩
  have hlt' : (c : Int) < N := by omega
  have hb := bN hlt
  have sn := bits_ne' (n := js.length) (c := c) (by omega) hb
  have bl : (bitsL js.length c).length ≤ js.length := bits_len
  have bi : inN js.length (bitsL js.length c) := bits_in
  have es : lpF js c = lpU js (lpF js (c - 1)) (bitsL js.length c) := by
    have := @lpF_succ js (c - 1)
    rw [show c - 1 + 1 = c by omega] at this
    exact this
  have wc : IntKind.i64.wrap ((c : Int) + 1) = ((c + 1 : Nat) : Int) := by rw [wrap_ok] <;> omega
  simp -implicitDefEqProofs [sh, hlt, hlt']
  refine CL_post (l5Subset_run (n := js.length) (by omega) hb) fun w h2 ⟨hp2, o2⟩ => ?_
  have S2 : Ints h2 w (bitsL js.length c) := o2.sees
  have fin : ∀ {h3 : Hp} {z : Value}, h2 <+: h3 → Ints h3 z (lpF js c) → lpF js c ≠ [] → I (m - 1) [(0, .slice oj js.length cj), (4, z), (5, .int .i64 ((c + 1 : Nat) : Int))] h3 := fun hp3 Sz hz => on hI ⟨c + 1, _, by omega, by omega, rfl, hp.trans (hp2.trans hp3), .inr ⟨by omega, Sz, hz⟩⟩
  rcases hv with ⟨e1, e2⟩ | ⟨c0, Sv, hvn⟩
  · subst e2
    have eu : lpF js c = bitsL js.length c := by rw [es]; unfold lpU; rw [if_pos (by rw [e1]; rfl)]
    rw [← eu] at S2 sn
    obtain ⟨wa, wn, wc', rfl⟩ : ∃ a n c', w = .slice a n c' := by obtain ⟨a, c, e⟩ := S2.shape; exact ⟨_, _, _, e⟩
    simp -implicitDefEqProofs [wc]
    exact ⟨m - 1, by omega, by simpa using fin List.prefix_rfl S2 sn⟩
  · obtain ⟨d, hd0, hd1, hd⟩ : ∃ d, 0 < d ∧ d ≤ c - 1 ∧ lpF js (c - 1) = bitsL js.length d := by
      rcases @lpF_facts js (c - 1) (by omega) with ⟨e, _⟩ | ⟨_, _, h3, _⟩
      · omega
      · exact h3
    have vi : inN js.length (lpF js (c - 1)) := by rw [hd]; exact bits_in
    have vl : (lpF js (c - 1)).length ≤ js.length := by rw [hd]; exact bits_len
    generalize lpF js (c - 1) = b at *
    generalize bitsL js.length c = t at *
    have J2 := Js.pre (hp.trans hp2)
    have Sv2 := Sv.pre hp2
    have r3 := l5Set_run J2 S2 bi hg (by omega) sn
    have r4 := l5Set_run J2 Sv2 vi hg (by omega) hvn
    have r5 := l5Less_run S2 Sv2 (by omega) (by omega)
    have bl0 : ¬ b.length = 0 := fun e => hvn (List.eq_nil_of_length_eq_zero e)
    have bl0' : ((b.length : Int) == 0) = false := nb (by omega)
    obtain ⟨va, vc, rfl⟩ : ∃ a c', v = .slice a b.length c' := Sv.shapeT
    obtain ⟨wa, wn, wc', rfl⟩ : ∃ a n c', w = .slice a n c' := by obtain ⟨a, c, e⟩ := S2.shape; exact ⟨_, _, _, e⟩
    by_cases c3 : lbG js b < lbG js t
    · have eu : lpF js c = t := by rw [es]; unfold lpU; rw [if_neg hvn, if_pos c3]
      rw [← eu] at S2 sn
      simp -implicitDefEqProofs [bl0, bl0', CL_ret r3, CL_ret r4, c3, wc]
      exact ⟨m - 1, by omega, by simpa using fin List.prefix_rfl S2 sn⟩
    · by_cases c4 : lbG js t = lbG js b
      · have c4' : (lbG js t == lbG js b) = true := by rw [beq_iff_eq]; exact c4
        cases c5 : lxB t b
        · rw [c5] at r5
          have eu : lpF js c = b := by rw [es]; unfold lpU; rw [if_neg hvn, if_neg c3, if_neg (fun g => by rw [c5] at g; exact absurd g.2 (by simp))]
          rw [← eu] at Sv2 hvn
          simp -implicitDefEqProofs [bl0, bl0', CL_ret r3, CL_ret r4, c3, c4', CL_ret r5, wc]
          exact ⟨m - 1, by omega, by rw [eu] at fin Sv2 hvn; simpa using fin List.prefix_rfl Sv2 hvn⟩
        · rw [c5] at r5
          have eu : lpF js c = t := by rw [es]; unfold lpU; rw [if_neg hvn, if_neg c3, if_pos ⟨c4, c5⟩]
          rw [← eu] at S2 sn
          simp -implicitDefEqProofs [bl0, bl0', CL_ret r3, CL_ret r4, c3, c4', CL_ret r5, wc]
          exact ⟨m - 1, by omega, by simpa using fin List.prefix_rfl S2 sn⟩
      · have eu : lpF js c = b := by rw [es]; unfold lpU; rw [if_neg hvn, if_neg c3, if_neg (fun g => c4 g.1)]
        rw [← eu] at Sv2 hvn
        simp -implicitDefEqProofs [bl0, bl0', CL_ret r3, CL_ret r4, c3, nb c4, wc]
        exact ⟨m - 1, by omega, by rw [eu] at fin Sv2 hvn; simpa using fin List.prefix_rfl Sv2 hvn⟩
theorem specLatenessBound_run (J : Jobs h vj js) (X : Ints h v xs) (hl : js.length ≤ 2 ^ 40) (hx : xs.length ≤ 2 ^ 40) : Ret P G n_spec_LatenessBound [vj, v] h (.tuple #[.int .i64 (lbV js xs), .bool (lbO js xs)]) h := by
  refine enter_run e_spec_LatenessBound (by simp) ?_
  have r1 := good_run J hl
  have r2 := l1RisingG_run (lo := 0) (hi := (js.length : Int) - 1) X hx
  rw [upR_none] at r2
  have w : IntKind.i64.wrap ((js.length : Int) - 1) = (js.length : Int) - 1 := by rw [wrap_ok] <;> omega
  have Js := J
  have Xs := X
  obtain ⟨oj, cj, rfl⟩ := J.shapeT
  obtain ⟨oa, ca, rfl⟩ := X.shapeT
  cases c1 : jOk js
  · rw [c1] at r1
    simp -implicitDefEqProofs [CL_ret r1, lbV, lbO, c1]
  rw [c1] at r1
  obtain ⟨hn, hg⟩ := jOk_of c1
  by_cases c3 : xs.length = 0
  · obtain rfl : xs = [] := List.eq_nil_of_length_eq_zero c3
    simp -implicitDefEqProofs [CL_ret r1, lbV, lbO, c1]
  have c3' : ((xs.length : Int) == 0) = false := nb (by omega)
  cases c2 : setB js.length xs
  · rw [c2] at r2
    simp -implicitDefEqProofs [CL_ret r1, CL_ret r2, w, lbV, lbO, c1, c2, c3, c3']
  rw [c2] at r2
  have sl := set_len c2
  have r3 := l5Set_run Js Xs (setB_iff.1 c2).1 hg (by omega) fun e => c3 (by rw [e]; rfl)
  simp -implicitDefEqProofs [CL_ret r1, CL_ret r2, w, lbV, lbO, c1, c2, c3, c3', CL_ret r3]
theorem isSplitObjective_run {o : Int} : Ret P G n_impl_isSplitObjective [.int .i64 o] h (.bool (o == 2 || o == 4)) h := by
  refine enter_run e_impl_isSplitObjective (by simp) ?_
  cases c : (o == 2) <;> simp -implicitDefEqProofs [c]
theorem val4_bd {js : List Job} (hg : goodL js = true) (hne : js ≠ []) {es : List Int} (hl : es.length = js.length) (he : ∀ e, e ∈ es → 0 ≤ e ∧ e ≤ 2 ^ 20) : -(2 ^ 20) ≤ valE 4 js es ∧ valE 4 js es ≤ 2 ^ 20 := by
  obtain ⟨k, hk, e⟩ := (val4_facts (js := js) (es := es) hl hne).2
  have := he _ (gE_mem (show k < es.length by omega))
  have := jA_bd hg hk
  rw [e]; omega
theorem bd4_bd {js : List Job} (hg : goodL js = true) (hne : js ≠ []) : -(2 ^ 20) ≤ valE 4 js (bdE 4 js []) ∧ valE 4 js (bdE 4 js []) ≤ 2 ^ 20 :=
  val4_bd hg hne (by unfold bdE; rw [apS_len, endsL_len]) (bdE_bd hg (by simp) fun x hx => by cases hx)
theorem best4 {js : List Job} (hg : goodL js = true) (hn : js.length ≤ 8) (hne : js ≠ []) : (-(2 ^ 30) ≤ bestV 4 js ∧ bestV 4 js ≤ 2 ^ 30) ∧ valE 4 js (bdE 4 js []) ≤ bestV 4 js := by
  have bf := best_facts (f := valX 4 js) hn
  have vb := valX_bd (o := 4) hg hn bf.2.2.1
  have eb : bestV 4 js = valX 4 js (bestR (valX 4 js) js.length).o := bf.2.1.symm
  refine ⟨by rw [eb]; exact vb, ?_⟩
  obtain ⟨S, ρ, δ, B, r0, e⟩ := bd_some hg hn hne
  have := bd_order hg (ord_prm bf.2.2.1) B r0
  have e9 : valX 4 js (bestR (valX 4 js) js.length).o = valE 4 js (endsL js (bestR (valX 4 js) js.length).o) := rfl
  rw [eb, e9]
  omega
theorem implSplitGain_run (J : Jobs h vj js) (hl : js.length ≤ 2 ^ 40) (hok : cpOk js = true) : Ret P G n_impl_SplitGain [vj, .int .i64 4] h (.tuple #[.int .i64 (bestV 4 js - valE 4 js (bdE 4 js [])), .bool true]) h := by
  refine enter_run e_impl_SplitGain (by simp) ?_
  obtain ⟨c1, hne⟩ := cpOk_of hok
  obtain ⟨hn, hg⟩ := jOk_of c1
  have r1 := isJobs_run J hl
  rw [c1] at r1
  have Js := J
  obtain ⟨oj, cj, rfl⟩ := J.shapeT
  simp -implicitDefEqProofs [CL_ret r1, CL_ret isSplitObjective_run]
  refine CL_post (best_run (o := 4) Js hg hn (by omega)) fun w h1 ⟨hp1, vf, ew, Sf⟩ => ?_
  subst ew
  have r2 := prefixBound_run (o := 4) (Js.pre hp1) nil_L hg hn (by simp) (fun x hx => by cases hx) (.inr rfl)
  have e2 : bdV 4 js [] = valE 4 js (bdE 4 js []) := rfl
  rw [e2] at r2
  have b1 := bd4_bd hg hne
  have b2 := (best4 hg hn hne).1
  have w1 : IntKind.i64.wrap (bestV 4 js - valE 4 js (bdE 4 js [])) = bestV 4 js - valE 4 js (bdE 4 js []) := by rw [wrap_ok] <;> omega
  simp -implicitDefEqProofs [CL_ret r2, w1]
  exact gcP hp1 rfl
end
/-! ### the draw -/
theorem DrawLatenessBound_run {h : Hp} {vc : Value} (B : By h vc) : RunsC P G n_spec_DrawLatenessBound [vc] h fun v h' => h <+: h' ∧ ∃ (js : List Job) (xs : List Int) (u w : Value), v = .tuple #[u, w] ∧ js.length ≤ 9 ∧ xs.length ≤ 10 ∧ Jobs h' u js ∧ Ints h' w xs := by
  refine hideC fun K hK => enter_run e_spec_DrawLatenessBound (by simp) ?_
  have C0 : Cur h (h ++ [some ⟨[vc, .int .i64 0, .int .u64 0], 0, false⟩]) h.length vc 0 [] := ⟨0, 0, by omega, by omega, (Holds.start (h := h)).alloc _⟩
  obtain ⟨bs, Sb, hb, hbl⟩ := B
  have Bs : By h vc := ⟨bs, Sb, hb, hbl⟩
  obtain ⟨ob, cb, rfl⟩ := Sb.shapeT
  simp -implicitDefEqProofs
  refine CL_post (some5_run Bs C0 (by omega)) fun u h2 ⟨js, hl, C2⟩ => ?_
  obtain ⟨ua, uc, rfl⟩ : ∃ a c, u = .slice a js.length c := C2.seesJ.shapeT
  simp -implicitDefEqProofs
  refine R_loopO (fun m s h' => ∃ (i : Nat) (xs : List Int) (w : Value), i + m = js.length ∧ xs.length ≤ i ∧ s = [(4, .pointer (some ⟨h.length, 0, some 3⟩)), (5, .slice ua js.length uc), (6, w), (7, .int .i64 i)] ∧ Cur h h' h.length (.slice ob bs.length cb) (400 + 2 * i) ([.own (.slice ua js.length uc) 4 (js.map encJ)] ++ [.own w 1 (xs.map encI)])) (fun I hI m s h' => ?_) (n := js.length)
    ⟨0, [], .slice none 0 0, Nat.zero_add _, by simp, by simp, (C2.mono (by omega)).nil Int encI 1⟩
  rintro ⟨i, xs, w, hi, hx, rfl, C3⟩
  obtain ⟨wa, wc, rfl⟩ : ∃ a c, w = .slice a xs.length c := C3.seesI.shapeT
  by_cases hlt : i < js.length
  · have hlt' : (i : Int) < js.length := by omega
    simp -implicitDefEqProofs [hlt, hlt']
    refine CL_post (one_run Bs C3 (by omega) (k := 2) (by omega)) fun v h4 ⟨b, ev, C4⟩ => ?_
    subst ev
    cases b
    · simp -implicitDefEqProofs [winc hlt (by omega)]
      exact ⟨m - 1, by omega, on hI ⟨i + 1, xs, _, by omega, by omega, by simp, C4.mono (by omega)⟩⟩
    · obtain ⟨w', h5, a5, C5⟩ := C4.pushI (i : Int) (by omega)
      simp -implicitDefEqProofs [a5, winc hlt (by omega)]
      exact ⟨m - 1, by omega, on hI ⟨i + 1, xs ++ [(i : Int)], w', by omega, by simp; omega, by simp, C5.mono (by omega)⟩⟩
  · have hlt' : ¬ (i : Int) < js.length := by omega
    simp -implicitDefEqProofs [hlt, hlt']
    refine CL_post (one_run Bs C3 (by omega) (k := 16) (by omega)) fun v h6 ⟨b, ev, C6⟩ => ?_
    subst ev
    cases b
    · have J6 : Jobs h6 (.slice ua js.length uc) js := C6.seesAt (i := 0) rfl
      have fin := gc_JX (r := []) C6.pre J6 C6.seesI
      simp -implicitDefEqProofs
      exact onK hK ⟨fin.1, js, xs, _, _, rfl, hl, by omega, fin.2⟩
    · simp -implicitDefEqProofs
      refine CL_post (among_run Bs (C6.lit [0, -1, (js.length : Int)]) (by omega) snoc_get (by simp) (by simp)) fun v h7 ⟨z, ev, _, C7⟩ => ?_
      subst ev
      obtain ⟨u', h8, a8, C8⟩ := C7.weak.pushI z (by omega)
      obtain ⟨ub, ud, rfl⟩ : ∃ a c, u' = .slice a (xs ++ [z]).length c := C8.seesI.shapeT
      have J8 : Jobs h8 (.slice ua js.length uc) js := C8.seesAt (i := 0) rfl
      have fin := gc_JX (r := []) C8.pre J8 C8.seesI
      simp only [List.length_append, List.length_cons, List.length_nil, Nat.zero_add] at a8 C8 fin
      simp -implicitDefEqProofs [a8]
      exact onK hK ⟨fin.1, js, xs ++ [z], _, _, rfl, hl, by simp; omega, fin.2⟩
/-! ### the law -/
theorem lpO_len {js : List Job} (hl : js.length ≤ 9) : (lpO js).length ≤ 9 := by
  unfold lpO
  split
  · rename_i c
    obtain ⟨c1, hne⟩ := cpOk_of c
    have p : 0 < 2 ^ js.length := Nat.two_pow_pos _
    rcases @lpF_facts js (2 ^ js.length - 1) (by omega) with ⟨_, e⟩ | ⟨_, _, ⟨d, _, _, e⟩, _⟩
    · rw [e]; simp
    · rw [e]
      have := @bits_len js.length d
      omega
  · simp
/-- The set that is told, and all others. -/
theorem lp_most {js : List Job} (hok : cpOk js = true) : setB js.length (lpO js) = true ∧ lpO js ≠ [] ∧ (∀ xs, setB js.length xs = true → xs ≠ [] → lbG js xs ≤ lbG js (lpO js)) ∧ lbG js (lpO js) = valE 4 js (bdE 4 js []) := by
  obtain ⟨c1, hne⟩ := cpOk_of hok
  obtain ⟨hn, hg⟩ := jOk_of c1
  have hpos : 0 < js.length := List.length_pos_iff.2 hne
  have p1 : 2 ^ 1 ≤ 2 ^ js.length := Nat.pow_le_pow_right (by omega) (by omega)
  have eO : lpO js = lpF js (2 ^ js.length - 1) := by unfold lpO; rw [if_pos hok]
  rcases @lpF_facts js (2 ^ js.length - 1) (by omega) with ⟨e, _⟩ | ⟨_, h1, ⟨d, h2, h3, h4⟩, h5⟩
  · omega
  rw [← eO] at h1 h4 h5
  have all : ∀ xs, setB js.length xs = true → xs ≠ [] → lbG js xs ≤ lbG js (lpO js) := fun xs hs hx => by
    obtain ⟨hin, ha⟩ := setB_iff.1 hs
    obtain ⟨c, hc, e⟩ := bits_of (n := js.length) (m := js.length) (Nat.le_refl _) ha hin
    have c0 : 0 < c := by
      rcases Nat.eq_zero_or_pos c with g | g
      · rw [g, bits_zero] at e; exact absurd e.symm hx
      · exact g
    rw [← e]
    exact h5 c c0 (by omega)
  have hs : setB js.length (lpO js) = true := by rw [h4]; exact setB_iff.2 ⟨bits_in, bits_asc⟩
  refine ⟨hs, h1, all, ?_⟩
  obtain ⟨hin, ha⟩ := setB_iff.1 hs
  obtain ⟨B, b0, e⟩ := lb_bset hg (ha.imp fun h => by omega) h1 hin
  have le1 := bd_split (o := 4) hg hn B
  obtain ⟨S, ρ, δ, B2, r0, e2⟩ := bd_some hg hn hne
  have ua : (upTo js.length).Pairwise (· < ·) := up_asc
  have q : ((upTo js.length).filter fun x => hasL x S).Perm S := by
    refine (List.perm_ext_iff_of_nodup ((ua.imp fun h => by omega : (upTo js.length).Nodup).sublist List.filter_sublist) B2.nd).2 fun x => ?_
    rw [List.mem_filter, hasL_iff, mem_upTo]
    exact ⟨fun h => h.2, fun h => ⟨B2.inn x h, h⟩⟩
  have B3 : Bset js ((upTo js.length).filter fun x => hasL x S) ρ δ := ⟨q.nodup_iff.2 B2.nd, fun g => B2.ne (by rw [g] at q; exact q.symm.eq_nil), fun z hz => B2.inn z (q.mem_iff.1 hz), fun z hz => B2.r z (q.mem_iff.1 hz), fun z hz => B2.d z (q.mem_iff.1 hz)⟩
  have g1 := lb_ge hg B3
  rw [tsm_perm q] at g1
  have g2 := all _ (setB_iff.2 ⟨B3.inn, ua.sublist List.filter_sublist⟩) B3.ne
  omega
theorem law_LatenessProof {h : Hp} {vc : Value} {bs : List Int} (Sb : Sees h vc 1 (bs.map encU)) (hb : ∀ b, b ∈ bs → 0 ≤ b ∧ b ≤ 255) : Ret P G n_laws_FnLatenessProof [vc] h (.bool true) h := by
  refine enter_run e_laws_FnLatenessProof (by simp) ?_
  have r0 := vBig_run Sb
  by_cases c0 : (65536 : Int) < bs.length
  · simp -implicitDefEqProofs [CL_ret r0, c0]
  have B : By h vc := ⟨bs, Sb, hb, by omega⟩
  have Sbs := Sb
  obtain ⟨ob, cb, rfl⟩ := Sb.shapeT
  simp -implicitDefEqProofs [CL_ret r0, c0]
  refine CL_post (DrawLatenessBound_run B) fun v h1 ⟨hp1, js, xs, u, w, ev, hjl, hxl, J, X⟩ => ?_
  subst ev
  have l1 : js.length ≤ 2 ^ 40 := by omega
  have Js := J
  have Xs := X
  obtain ⟨ja, jc, rfl⟩ := J.shapeT
  obtain ⟨xa, xc, rfl⟩ := X.shapeT
  have r1 := implLatenessBound_run Js Xs l1 (by omega)
  have r2 := specLatenessBound_run Js Xs l1 (by omega)
  simp -implicitDefEqProofs [CL_ret r1, CL_ret r2]
  refine CL_post (implLatenessProof_run Js l1) fun v h2 ⟨hp2, d2, ev, D2⟩ => ?_
  subst ev
  obtain ⟨da, dc, e2⟩ : ∃ a c, d2 = .slice a (lpO js).length c := D2.shapeT
  subst e2
  simp -implicitDefEqProofs
  refine CL_post (specLatenessProof_run (Js.pre hp2) l1) fun v h3 ⟨hp3, d3, ev, D3⟩ => ?_
  subst ev
  obtain ⟨ea, en, ec, rfl⟩ : ∃ a n c, d3 = .slice a n c := by obtain ⟨a, c, e⟩ := D3.shape; exact ⟨_, _, _, e⟩
  have p13 := hp2.trans hp3
  have J3 := Js.pre p13
  have D2' : Ints h3 (.slice da (lpO js).length dc) (lpO js) := D2.pre hp3
  have ll := lpO_len hjl
  have r4 := vInts_run D2' D3 (by omega)
  have p0 := hp1.trans p13
  cases c1 : cpOk js
  · simp -implicitDefEqProofs [CL_ret r4]
    exact gcP p0 rfl
  obtain ⟨k1, hne⟩ := cpOk_of c1
  obtain ⟨hn, hg⟩ := jOk_of k1
  obtain ⟨m1, m2, m3, m4⟩ := lp_most c1
  simp -implicitDefEqProofs [CL_ret r4]
  refine CL_post (implByEarliestDate_run J3 l1) fun w h6 ⟨hp6, d6, ev6, D6⟩ => ?_
  subst ev6
  have ed : edL js = spanL 4 js 0 (restL js []) := by unfold edL; rw [if_pos k1]
  rw [ed] at D6
  have sp := split_span (o := 4) hg hn
  have so : svOk js (spanL 4 js 0 (restL js [])) 4 = true := by unfold svOk; rw [k1, sp]; rfl
  have sv : svV js (spanL 4 js 0 (restL js [])) 4 = valE 4 js (bdE 4 js []) := by unfold svV; rw [if_pos so]; unfold spE; rw [foldS_span]; rfl
  have J6 := J3.pre hp6
  have r5 := implSplitValue_run (o := 4) J6 D6 l1 (by have := @spanL_len 4 js 0 (restL js []); omega)
  rw [so, sv] at r5
  have r6 := implLatenessBound_run J6 (D2'.pre hp6) l1 (by omega)
  have lo : lbO js (lpO js) = true := by
    unfold lbO
    rw [k1, m1, decide_eq_false (fun e => m2 (List.eq_nil_of_length_eq_zero e))]; rfl
  have lv : lbV js (lpO js) = valE 4 js (bdE 4 js []) := by unfold lbV; rw [if_pos lo]; exact m4
  rw [lo, lv] at r6
  have r7 := implSplitGain_run J6 l1 c1
  have r8 := implBestValue_run (o := 4) J6 l1
  have ob4 : okB js 4 = true := by unfold okB; rw [k1]; rfl
  rw [bR_v ob4, ob4] at r8
  obtain ⟨wa, wn, wc, rfl⟩ : ∃ a n c, d6 = .slice a n c := by obtain ⟨a, c, e⟩ := D6.shape; exact ⟨_, _, _, e⟩
  have b1 := bd4_bd hg hne
  obtain ⟨b2, b3⟩ := best4 hg hn hne
  have w1 : IntKind.i64.wrap (bestV 4 js - valE 4 js (bdE 4 js [])) = bestV 4 js - valE 4 js (bdE 4 js []) := by rw [wrap_ok] <;> omega
  have g0 : 0 ≤ bestV 4 js - valE 4 js (bdE 4 js []) := by omega
  have g0' : valE 4 js (bdE 4 js []) ≤ bestV 4 js := b3
  cases c2 : lbO js xs
  · simp -implicitDefEqProofs [CL_ret r5, CL_ret r6, CL_ret r7, CL_ret r8, w1, g0, g0']
    exact gcP (p0.trans hp6) rfl
  · have hl : lbV js xs ≤ valE 4 js (bdE 4 js []) := by
      have e : lbV js xs = lbG js xs := by unfold lbV; rw [if_pos c2]
      unfold lbO at c2
      simp only [Bool.and_eq_true, Bool.not_eq_true', decide_eq_false_iff_not] at c2
      have := m3 xs c2.1.2 fun g => c2.2 (by rw [g]; rfl)
      omega
    simp -implicitDefEqProofs [CL_ret r5, CL_ret r6, CL_ret r7, CL_ret r8, w1, g0, g0', hl]
    exact gcP (p0.trans hp6) rfl
end Go.Pm.PP

/- Best orders: exchanging downwards. -/
set_option linter.unusedVariables false
set_option linter.unusedSimpArgs false
set_option maxRecDepth 4000
set_option maxHeartbeats 8000000
namespace Go.Pm.PP
open Go.Pm Go.Proofs Go.Pm.PE
section
variable {h : Hp} {v u : Value} {js : List Job} {xs : List Int} {o : Int}
end
end Go.Pm.PP

/- FnBestOrders in the small machine. -/
set_option linter.unusedVariables false
set_option linter.unusedSimpArgs false
set_option maxRecDepth 4000
set_option maxHeartbeats 8000000
namespace Go.Pm.PP
open Go.Pm Go.Proofs Go.Pm.PE
end Go.Pm.PP

/- A code of bytes as an argument, opened as a row. -/
set_option linter.unusedVariables false
set_option linter.unusedSimpArgs false
set_option maxRecDepth 4000
namespace Go.Pm
open Go.ChangeShapes Go.WideShapes
section
variable {P : Program} {H : Type} {enc : TypeId × Value → H} {w : World} {base : Nat} {held : Bool}
theorem flat_encU (xs : List Int) : (xs.map PP.encU).flatten = xs.map fun x => .int .u8 x := by
  induction xs with
  | nil => rfl
  | cons x xs ih => rw [List.map_cons, List.flatten_cons, ih]; rfl
/-- A slice of bytes. -/
theorem shows_bytes {t e : TypeId} {fuel : Nat} {v : Value} {x : DataW H × List MemPlace} (ht : P.underlying t = some (.slice e)) (he : P.underlying e = some (.int .u8)) (hc : P.cellsOf e = 1)
    (hd : DataW.trod enc P w base (fun _ => true) held fuel t [v] = some x) : ∃ xs : List Int, xs.length ≤ maxLen ∧ (∀ b, b ∈ xs → (Lit.int .u8 b).wf = true) ∧ ∀ (ρ : Mp) (h : Hp), Shows ρ h w 1 (xs.map PP.encU) v := by
  rcases open_ints ht he hc hd with ⟨h1, _⟩ | ⟨a, len, cap, zs, h1, _, hl, hm, hz, _, hcell, hwf⟩
  · cases h1
    exact ⟨[], by simp, by simp, fun ρ h => .inl ⟨rfl, rfl⟩⟩
  · cases h1
    simp only [if_true] at hz
    have hlen : (zs.take len).length = len := by rw [List.length_take]; omega
    refine ⟨zs.take len, by omega, fun b hb => hwf b (List.mem_of_mem_take hb), fun ρ h => .inr ⟨a, cap, by rw [List.length_map, hlen], by rw [List.length_map, hlen]; exact hl, ?_, fun k c hk => ?_⟩⟩
    · rcases Nat.eq_zero_or_pos cap with h0 | h0
      · exact .inl h0
      · right
        have := hcell 0 (by omega)
        unfold World.cell? at this
        simp only [Addr.add, if_true] at this
        cases hs : a.spot with
        | none => rfl
        | some s =>
          rw [hs] at this
          split at this <;> simp at this
    · rw [flat_encU, List.getElem?_map] at hk
      obtain ⟨z, hz2, rfl⟩ := Option.map_eq_some_iff.1 hk
      have hk1 := (List.getElem?_eq_some_iff.1 hz2).1
      rw [List.getElem?_take, if_pos (by omega)] at hz2
      refine ⟨_, hcell k (by omega), ?_⟩
      rw [List.getD_eq_getElem?_getD, hz2]
      exact .int _ _
end
end Go.Pm
namespace Go.Pm.PP
open Go.Pm Go.Proofs
theorem follows : P.follows .mixedOrders = true := by kernel_rfl
theorem cells_u8 : P.cellsOf t_u8 = 1 := by kernel_rfl
theorem byte_of {b : Int} (h : (Lit.int .u8 b).wf = true) : 0 ≤ b ∧ b ≤ 255 := by
  simp [Lit.wf, IntKind.min, IntKind.max, IntKind.signed, IntKind.bits] at h
  omega
section
variable {H : Type} {enc : TypeId × Value → H} {W : World} {ρ : Mp} {h : Hp} {v : Value} {n0 : Nat} {x0 : DataW H × List MemPlace}
theorem open_bytes (R : Rel ρ h W) (ha : AllRo h) (d0 : DataW.trod enc P W 0 (fun _ => true) true n0 t_S_u8 [v] = some x0) :
    ∃ (h2 : Hp) (ρ2 : Mp) (p : Value) (xs : List Int), h <+: h2 ∧ Rel ρ2 h2 W ∧ AllRo h2 ∧ Step ρ h ρ2 h2 ∧ VR ρ2 h2 p v ∧ Sees h2 p 1 (xs.map encU) ∧ ∀ b, b ∈ xs → 0 ≤ b ∧ b ≤ 255 := by
  obtain ⟨xs, l0, hw, s0⟩ := shows_bytes (P := P) (v := v) u_S_u8 u_u8 cells_u8 d0
  obtain ⟨h2, ρ2, p, q, R2, a2, t, r, N⟩ := add_slice (w := W) (len_U xs) R ha (s0 ρ h)
  exact ⟨h2, ρ2, p, xs, q, R2, a2, t, r, N, fun b hb => byte_of (hw b hb)⟩
end
end Go.Pm.PP
