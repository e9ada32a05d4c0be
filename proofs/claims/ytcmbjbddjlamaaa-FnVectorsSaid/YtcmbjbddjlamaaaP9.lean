/- The texts PvSf, PvSg, PvSh, PvSi, PvFf, PvFg, PvFm, PvFn, PvFo, PvFjx, PvFq, PvL, PvM, PvK, PsA, PsB, PsC, PvLa, PvLb of this work: Tables of the least values of sets, by both. -/
import Derived.ProofKit
import Derived.OpenShut
import Derived.Carry
import Derived.Test.YtcmbjbddjlamaaaP7
import Derived.Test.YtcmbjbddjlamaaaP8
import Derived.Test.YtcmbjbddjlamaaaM4
/- Tables of the least values of sets, by both. -/
set_option linter.unusedVariables false
set_option linter.unusedSimpArgs false
set_option maxRecDepth 4000
set_option maxHeartbeats 8000000
namespace Go.Pm.PP
open Go.Pm Go.Proofs Go.Pm.PE
/-! ### digits in the machine -/
/-- A digit is taken away, as the machine has it. -/
theorem clr_val {k i b z : Nat} (hk : k < 2 ^ 60) (hb : b = 2 ^ i) (ht : k.testBit i = true) (hz : z = k - 2 ^ i) : IntKind.i64.wrap ↑(((k : Int) % 2 ^ IntKind.i64.bits).toNat &&& 2 ^ IntKind.i64.bits - 1 - ((b : Int) % 2 ^ IntKind.i64.bits).toNat) = (z : Int) := by
  have hbits : IntKind.i64.bits = 64 := rfl
  have hle := bit_le ht
  have e1 : ∀ n : Nat, n < 2 ^ 60 → ((n : Int) % 2 ^ IntKind.i64.bits).toNat = n := fun n hn => by
    have h5 : (n : Int) < 2 ^ 64 := by omega
    rw [hbits, Int.emod_eq_of_lt (Int.natCast_nonneg _) h5, Int.toNat_natCast]
  rw [e1 k hk, e1 b (by omega), hbits]
  have e2 : k &&& 2 ^ 64 - 1 - b = z := by
    refine Nat.eq_of_testBit_eq fun j => ?_
    rw [hz, bit_sub ht, Nat.testBit_and, show 2 ^ 64 - 1 - b = 2 ^ 64 - (b + 1) by omega, Nat.testBit_two_pow_sub_succ (by omega), hb, Nat.testBit_two_pow]
    cases hj : k.testBit j with
    | false => rfl
    | true =>
      have := bit_lt hk hj
      rw [Bool.true_and, Bool.true_and, show decide (j < 64) = true by simp; omega, Bool.true_and]
      congr 1
      simp only [decide_eq_decide]
      exact eq_comm
  rw [e2, wrap_ok (by omega) (by omega)]
theorem listOf_run {h : Hp} {n c : Nat} (hn : n ≤ 50) (hc : c < 2 ^ n) : RunsC P G n_impl_listOf [.int .i64 c] h fun v h' => h <+: h' ∧ Own h.length h' v 1 ((bitsL n c).map encI) := by
  refine hideC fun K hK => enter_run e_impl_listOf (by simp) ?_
  have H0 := own_nil (Holds.start (h := h)) Int encI 1
  have hc60 : c < 2 ^ 60 := by have : 2 ^ n ≤ 2 ^ 50 := Nat.pow_le_pow_right (by omega) hn; omega
  simp -implicitDefEqProofs
  refine R_loopO (fun m s h' => ∃ (i : Nat) (u : Value), i + m = n ∧ s = [(0, .int .i64 c), (3, u), (4, .int .i64 i)] ∧ Holds h h' [.own u 1 ((bitsL i c).map encI)]) (fun I hI m s h' => ?_) (n := n) ⟨0, _, Nat.zero_add _, by simp; rfl, by simpa [bitsL] using H0⟩
  rintro ⟨i, u, hi, rfl, H⟩
  by_cases hlt : 0 < c / 2 ^ i
  · have hin : i < n := by
      have h1 : 2 ^ i ≤ c := (Nat.div_pos_iff.1 hlt).2
      exact (Nat.pow_lt_pow_iff_right (by omega : 1 < 2)).1 (Nat.lt_of_le_of_lt h1 hc)
    have hlt' : (0 : Int) < (c : Int) / 2 ^ i := by
      have : ((c : Int) / 2 ^ i) = ((c / 2 ^ i : Nat) : Int) := by simp
      omega
    have bl := @bits_len i c
    have bs := @bits_snoc i c
    have bv := bit_val (i := i) hc60
    cases ct : c.testBit i
    · rw [ct, if_neg (by simp)] at bs bv
      rw [List.append_nil] at bs
      simp -implicitDefEqProofs [hlt', shr_eq hc60, bv, winc hin (by omega)]
      exact ⟨m - 1, by omega, on hI ⟨i + 1, _, by omega, rfl, by rw [bs]; exact H⟩⟩
    · rw [ct, if_pos rfl] at bs bv
      obtain ⟨v', h2, ha, H2, _⟩ := push_I0 H 0 rfl (i : Int) (by omega)
      simp -implicitDefEqProofs [hlt', shr_eq hc60, bv, ha, winc hin (by omega)]
      exact ⟨m - 1, by omega, on hI ⟨i + 1, _, by omega, rfl, by rw [bs]; exact H2⟩⟩
  · have h1 : c < 2 ^ i := by
      rcases Nat.lt_or_ge c (2 ^ i) with g | g
      · exact g
      · exact absurd (Nat.div_pos g (Nat.two_pow_pos i)) hlt
    rw [bits_any h1 hc] at H
    have hlt' : ¬ (0 : Int) < (c : Int) / 2 ^ i := by
      have : ((c : Int) / 2 ^ i) = ((c / 2 ^ i : Nat) : Int) := by simp
      omega
    simp -implicitDefEqProofs [hlt', shr_eq hc60]
    exact onK hK (H.ret 0 rfl)
section
variable {h : Hp} {vj v : Value} {js : List Job} {xs : List Int}
/-- A sum of times, bit by bit. -/
def timeGo (js : List Job) (xs : List Int) : Int := (xs.map fun x => (jA js x).t).sum
theorem time_take {js : List Job} {xs : List Int} {i : Nat} {y : Int} (hy : xs[i]? = some y) : timeGo js (xs.take (i + 1)) = timeGo js (xs.take i) + (jA js y).t := by
  unfold timeGo; rw [take_succ' hy, List.map_append, List.sum_append]; simp
theorem time_bd {js : List Job} (bd : Bd js) : ∀ {xs : List Int}, 0 ≤ timeGo js xs ∧ timeGo js xs ≤ xs.length * 2 ^ 20
  | [] => by simp [timeGo]
  | x :: xs => by
    have ih := time_bd bd (xs := xs)
    have := bd.t x
    have e : timeGo js (x :: xs) = (jA js x).t + timeGo js xs := rfl
    rw [e, List.length_cons]; omega
theorem timeOf_run {c : Nat} (J : Jobs h vj js) (hn : js.length ≤ 8) (hg : goodL js = true) (hc : c < 2 ^ js.length) : Ret P G n_impl_timeOf [vj, .int .i64 c] h (.int .i64 (timeC js c)) h := by
  refine enter_run e_impl_timeOf (by simp) ?_
  have Js := J
  obtain ⟨oj, cj, rfl⟩ := J.shapeT
  have bd := good_bd hg
  simp -implicitDefEqProofs
  refine CL_post (listOf_run (n := js.length) (by omega) hc) fun v1 h1 ⟨hp1, ho1⟩ => ?_
  have S1 : Ints h1 v1 (bitsL js.length c) := ho1.sees
  have e : timeC js c = timeGo js (bitsL js.length c) := rfl
  have hin : inN js.length (bitsL js.length c) := fun x hx => by have := mem_bits.1 hx; omega
  have hl := @bits_len js.length c
  rw [e]
  generalize bitsL js.length c = ys at *
  have S1s := S1
  obtain ⟨oy, cy, rfl⟩ := S1.shapeT
  simp -implicitDefEqProofs
  refine R_loopO (fun m s h' => ∃ (i : Nat), i + m = ys.length ∧ s = [(0, .slice oj js.length cj), (5, .int .i64 (timeGo js (ys.take i))), (9, .slice oy ys.length cy), (10, .int .i64 ys.length), (11, .int .i64 i)] ∧ h' = h1) (fun I hI m s h' => ?_) (n := ys.length)
    ⟨0, Nat.zero_add _, by simp [timeGo], rfl⟩
  rintro ⟨i, hi, rfl, rfl⟩
  by_cases hlt : i < ys.length
  · obtain ⟨y, hy, _⟩ := drop_at hlt
    have ly := load_I S1s hy
    have lj := load_JX (Js.pre hp1) (hin y (List.mem_of_getElem? hy))
    have tb := time_bd bd (xs := ys.take i)
    have bt := bd.t y
    have tl : (ys.take i).length ≤ 8 := by rw [List.length_take]; omega
    have w1 : IntKind.i64.wrap (timeGo js (ys.take i) + (jA js y).t) = timeGo js (ys.take (i + 1)) := by rw [time_take hy, wrap_ok] <;> omega
    simp -implicitDefEqProofs [-indexAddrP_some, hlt, ly, lj, w1, winc hlt (by omega)]
    exact ⟨m - 1, by omega, on hI ⟨i + 1, by omega, rfl, rfl⟩⟩
  · rw [List.take_of_length_le (by omega)]
    simp -implicitDefEqProofs [hlt]
    exact gcP hp1 rfl
theorem good_time {js : List Job} (hg : goodL js = true) (hn : js.length ≤ 8) {c : Nat} : 0 ≤ timeC js c ∧ timeC js c ≤ 2 ^ 23 := by
  have := time_bd (good_bd hg) (xs := bitsL js.length c)
  have := @bits_len js.length c
  have e : timeC js c = timeGo js (bitsL js.length c) := rfl
  rw [e]; omega
/-! ### objectives that are sums -/
end
end Go.Pm.PP

/- Tables of the least values of sets, by both: the tables. -/
set_option linter.unusedVariables false
set_option linter.unusedSimpArgs false
set_option maxRecDepth 4000
set_option maxHeartbeats 8000000
namespace Go.Pm.PP
open Go.Pm Go.Proofs Go.Pm.PE
section
variable {h : Hp} {vj v : Value} {js : List Job} {xs : List Int} {o : Int}
/-! ### by the reference -/
end
end Go.Pm.PP

/- The order that is found from its end, by both; total times. -/
set_option linter.unusedVariables false
set_option linter.unusedSimpArgs false
set_option maxRecDepth 4000
set_option maxHeartbeats 8000000
namespace Go.Pm.PP
open Go.Pm Go.Proofs Go.Pm.PE
section
variable {h : Hp} {vj v : Value} {js : List Job} {xs : List Int} {o : Int}
/-! ### total times -/
def totT (js : List Job) : Int := (js.map (·.t)).sum
theorem tot_bd {js : List Job} (hg : goodL js = true) : 0 ≤ totT js ∧ totT js ≤ js.length * 50 := by
  induction js with
  | nil => simp [totT]
  | cons j js ih =>
    rw [goodL_cons, Bool.and_eq_true] at hg
    have := job_of hg.1
    have ih := ih hg.2
    have e : totT (j :: js) = j.t + totT js := rfl
    rw [e, List.length_cons]; omega
theorem tot_take {js : List Job} {i : Nat} {y : Job} (hy : js[i]? = some y) : totT (js.take (i + 1)) = totT (js.take i) + y.t := by
  unfold totT; rw [take_succ' hy, List.map_append, List.sum_append]; simp
theorem good_take {js : List Job} (hg : goodL js = true) {i : Nat} : goodL (js.take i) = true := by
  rw [goodL, List.all_eq_true] at hg ⊢
  exact fun x hx => hg x (List.mem_of_mem_take hx)
theorem totalOf_run (J : Jobs h vj js) (hn : js.length ≤ 8) (hg : goodL js = true) : Ret P G n_impl_totalOf [vj] h (.int .i64 (totT js)) h := by
  refine enter_run e_impl_totalOf (by simp) ?_
  have Js := J
  obtain ⟨oj, cj, rfl⟩ := J.shapeT
  simp -implicitDefEqProofs
  refine R_loopO (fun m s h' => ∃ (i : Nat), i + m = js.length ∧ s = [(3, .int .i64 (totT (js.take i))), (6, .slice oj js.length cj), (7, .int .i64 js.length), (8, .int .i64 i)] ∧ h <+: h') (fun I hI m s h' => ?_) (n := js.length)
    ⟨0, Nat.zero_add _, by simp [totT], List.prefix_rfl⟩
  rintro ⟨i, hi, rfl, hp⟩
  by_cases hlt : i < js.length
  · obtain ⟨y, hy, _⟩ := drop_at hlt
    have lj := load_J (Js.pre hp) hy
    have tb := tot_bd (good_take hg (i := i))
    have jb := job_of (job_at hg hy)
    have tl : (js.take i).length ≤ 8 := by rw [List.length_take]; omega
    have w1 : IntKind.i64.wrap (totT (js.take i) + y.t) = totT (js.take (i + 1)) := by rw [tot_take hy, wrap_ok] <;> omega
    simp -implicitDefEqProofs [-indexAddrP_some, hlt, lj, w1, winc hlt (by omega)]
    exact ⟨m - 1, by omega, on hI ⟨i + 1, by omega, rfl, hp.trans (List.prefix_append ..)⟩⟩
  · rw [List.take_of_length_le (by omega)]
    simp -implicitDefEqProofs [hlt]
    exact gcP hp rfl
def ttV (js : List Job) : Int := if plOk js = true then totT js else 0
theorem implTotalTime_run (J : Jobs h vj js) (hl : js.length ≤ 2 ^ 40) : Ret P G n_impl_TotalTime [vj] h (.tuple #[.int .i64 (ttV js), .bool (plOk js)]) h := by
  refine enter_run e_impl_TotalTime (by simp) ?_
  have r1 := IsPlain_run J hl
  have Js := J
  obtain ⟨oj, cj, rfl⟩ := J.shapeT
  cases c1 : plOk js
  · simp -implicitDefEqProofs [CL_ret r1, c1, ttV]
  · have r2 := totalOf_run Js (plOk_of c1).1 (plOk_of c1).2.1
    simp -implicitDefEqProofs [CL_ret r1, c1, ttV, CL_ret r2]
end
end Go.Pm.PP

/- FnSetValues in the small machine. -/
set_option linter.unusedVariables false
set_option linter.unusedSimpArgs false
set_option maxRecDepth 4000
set_option maxHeartbeats 16000000
namespace Go.Pm.PP
open Go.Pm Go.Proofs Go.Pm.PE
section
variable {h0 h : Hp} {r n : Nat} {vc : Value} {L : List Asn}
end
/-! ### in plain terms -/
theorem ord_of_perm {n : Nat} {xs : List Int} (h : xs.Perm (upTo n)) : Ord n xs := ⟨by rw [h.length_eq, upTo_len], fun x hx => mem_upTo.1 (h.mem_iff.1 hx), h.nodup_iff.2 (upTo_nodup _)⟩
end Go.Pm.PP

/- FnFronts in the small machine. -/
set_option linter.unusedVariables false
set_option linter.unusedSimpArgs false
set_option maxRecDepth 4000
set_option maxHeartbeats 16000000
namespace Go.Pm.PP
open Go.Pm Go.Proofs Go.Pm.PE
theorem front_ne {f g : Int} {js : List Job} (hn : js.length ≤ 8) : 0 < (frontR f g js).length := by
  obtain ⟨q, hq, _⟩ := (front_facts (f := f) (g := g) hn).2.2 (upTo js.length) (ord_of_perm (List.Perm.refl _))
  exact List.length_pos_of_mem hq
section
variable {h0 h : Hp} {r n : Nat} {vc : Value} {L : List Asn}
end
end Go.Pm.PP

/- FnFronts. -/
set_option linter.unusedVariables false
set_option linter.unusedSimpArgs false
set_option maxRecDepth 4000
set_option maxHeartbeats 16000000
namespace Go.Pm.PP
open Go.Pm Go.Proofs Go.Pm.PE
theorem rPairs_run {h : Hp} {v u : Value} {ps : List (Int × Int)} (hv : Prs h v ps) (hu : Prs h u ps) (hx : ps.length ≤ 2 ^ 40) : Ret P G n_laws_rPairs [v, u] h (.bool true) h := by
  refine enter_run e_laws_rPairs (by simp) ?_
  have hvs := hv
  have hus := hu
  obtain ⟨oa, c, rfl⟩ := hv.shapeT
  obtain ⟨ob, c', rfl⟩ := hu.shapeT
  simp -implicitDefEqProofs
  refine R_loopO (fun m s h' => ∃ i : Nat, i + m = ps.length ∧ s = [(0, .slice oa ps.length c), (1, .slice ob ps.length c'), (5, .int .i64 i)] ∧ h' = h) (fun I hI m s h' => ?_) (n := ps.length) ⟨0, Nat.zero_add _, by simp, rfl⟩
  rintro ⟨i, hi, rfl, rfl⟩
  by_cases hlt : i < ps.length
  · obtain ⟨p, hp, _⟩ := drop_at hlt
    simp -implicitDefEqProofs [-indexAddrP_some, hlt, load_Q hvs hp, load_Q hus hp, eqA2, winc hlt hx]
    exact ⟨m - 1, by omega, on hI ⟨i + 1, by omega, rfl, rfl⟩⟩
  · simp -implicitDefEqProofs [hlt]
/-! ### in plain terms -/
theorem srt_at {F : List Pt} (h : Srt F) {i j : Nat} {p q : Pt} (hi : F[i]? = some p) (hj : F[j]? = some q) (hl : i < j) : p.1 < q.1 ∧ q.2 < p.2 := by
  obtain ⟨a, ea⟩ := List.getElem?_eq_some_iff.1 hi
  obtain ⟨b, eb⟩ := List.getElem?_eq_some_iff.1 hj
  have := List.pairwise_iff_getElem.1 h i j a b hl
  rw [ea, eb] at this
  exact this
end Go.Pm.PP

/- Mixtures and limits, in plain terms. -/
set_option linter.unusedVariables false
set_option linter.unusedSimpArgs false
set_option maxRecDepth 4000
set_option maxHeartbeats 4000000
namespace Go.Pm.PP
open Go.Pm Go.Proofs Go.Pm.PE
def mxP (x y : Int) (q : Pt) : Int := x * q.1 + y * q.2
theorem mixB_facts {js : List Job} {f g x y : Int} (hn : js.length ≤ 8) (hx : 0 ≤ x) (hy : 0 ≤ y) : (∀ q, q ∈ frontR f g js → (mixB js f g x y).v ≤ mxP x y q) ∧ ∃ q, q ∈ frontR f g js ∧ mxP x y q = (mixB js f g x y).v := by
  obtain ⟨hs, hm, hc⟩ := front_facts (f := f) (g := g) hn
  rcases @bestG_facts (fun _ => true) (mixV f g x y js) js.length with ⟨_, h2⟩ | ⟨h1, _, h3, h4, h5⟩
  · have := h2 (upTo js.length) (ord_of_perm (List.Perm.refl _))
    cases this
  · have low : ∀ q, q ∈ frontR f g js → (mixB js f g x y).v ≤ mxP x y q := fun q hq => by
      obtain ⟨xs, ox, e⟩ := hm q hq
      have := h5 xs ox rfl
      rw [← e]
      exact this
    refine ⟨low, ?_⟩
    obtain ⟨q, hq, l1, l2⟩ := hc _ h4
    refine ⟨q, hq, ?_⟩
    have h6 := low q hq
    have u1 := Int.mul_le_mul_of_nonneg_left l1 hx
    have u2 := Int.mul_le_mul_of_nonneg_left l2 hy
    have e3 : (mixB js f g x y).v = x * valX f js (bestG (fun _ => true) (mixV f g x y js) js.length).o + y * valX g js (bestG (fun _ => true) (mixV f g x y js) js.length).o := h3.symm
    unfold mxP at h6 ⊢
    omega
theorem mem_supP {F : List Pt} : ∀ {l : List Pt} {k : Nat} {q : Pt}, q ∈ supP F k l ↔ ∃ i, l[i]? = some q ∧ supAt F (k + i) q = true
  | [], k, q => by simp [supP]
  | p :: l, k, q => by
    have ih := @mem_supP F l (k + 1) q
    rw [supP]
    have key : (∃ i, (p :: l)[i]? = some q ∧ supAt F (k + i) q = true) ↔ ((p = q ∧ supAt F k q = true) ∨ ∃ i, l[i]? = some q ∧ supAt F (k + 1 + i) q = true) := by
      constructor
      · rintro ⟨i, h1, h2⟩
        cases i with
        | zero => exact .inl ⟨by simpa using h1, h2⟩
        | succ i => exact .inr ⟨i, by simpa using h1, by rw [show k + 1 + i = k + (i + 1) by omega]; exact h2⟩
      · rintro (⟨h1, h2⟩ | ⟨i, h1, h2⟩)
        · exact ⟨0, by simpa using h1, h2⟩
        · exact ⟨i + 1, by simpa using h1, by rw [show k + (i + 1) = k + 1 + i by omega]; exact h2⟩
    rw [key, ← ih]
    cases c : supAt F k p
    · rw [if_neg (show ¬ (false = true) by simp)]
      constructor
      · intro h; exact .inr h
      · rintro (⟨rfl, h⟩ | h)
        · rw [c] at h; cases h
        · exact h
    · rw [if_pos rfl, List.mem_cons]
      constructor
      · rintro (rfl | h)
        · exact .inl ⟨rfl, c⟩
        · exact .inr h
      · rintro (⟨rfl, _⟩ | h)
        · exact .inl rfl
        · exact .inr h
theorem sup_sub {F : List Pt} {q : Pt} (h : q ∈ supP F 0 F) : q ∈ F := by
  obtain ⟨i, h1, _⟩ := mem_supP.1 h
  exact List.mem_of_getElem? h1
/-- A point with the least mixture is supported. -/
theorem min_sup {F : List Pt} (hs : Srt F) {x y : Int} (hx : 0 < x) (hy : 0 < y) {p : Pt} (hp : p ∈ F) (hmin : ∀ q, q ∈ F → mxP x y p ≤ mxP x y q) : p ∈ supP F 0 F := by
  obtain ⟨k, hk⟩ := List.getElem?_of_mem hp
  refine mem_supP.2 ⟨k, hk, ?_⟩
  rw [Nat.zero_add]
  unfold supAt
  rw [List.all_eq_true]
  intro r hr
  rw [List.all_eq_true]
  intro q hq
  obtain ⟨i, hi⟩ := List.getElem?_of_mem hr
  obtain ⟨j, hj⟩ := List.getElem?_of_mem hq
  rw [List.getElem?_take] at hi
  split at hi
  case isFalse => cases hi
  rename_i hik
  rw [List.getElem?_drop] at hj
  have s1 := srt_at hs hi hk hik
  have s2 := srt_at hs hk hj (by omega)
  have m1 := hmin r (List.mem_of_getElem? hi)
  have m2 := hmin q (List.mem_of_getElem? hj)
  unfold mxP at m1 m2
  unfold belV
  rw [decide_eq_true_eq]
  have h1 : x * (p.1 - r.1) ≤ y * (r.2 - p.2) := by rw [Int.mul_sub, Int.mul_sub]; omega
  have h2 : y * (p.2 - q.2) ≤ x * (q.1 - p.1) := by rw [Int.mul_sub, Int.mul_sub]; omega
  generalize hA : p.1 - r.1 = A at *
  generalize hB : q.1 - p.1 = B at *
  generalize hC : r.2 - p.2 = C at *
  generalize hD : p.2 - q.2 = D at *
  have d0 : 0 ≤ y * D := Int.mul_nonneg (by omega) (by omega)
  have c0 : 0 ≤ y * C := Int.mul_nonneg (by omega) (by omega)
  have hm := Int.mul_le_mul h1 h2 d0 c0
  have e1 : x * A * (y * D) = (x * y) * (D * A) := by
    rw [Int.mul_assoc, Int.mul_assoc, Int.mul_left_comm A y D, Int.mul_comm A D]
  have e2 : y * C * (x * B) = (x * y) * (C * B) := by
    rw [Int.mul_comm x y, Int.mul_assoc, Int.mul_assoc, Int.mul_left_comm C x B]
  rw [e1, e2] at hm
  exact Int.le_of_mul_le_mul_left hm (Int.mul_pos hx hy)
/-- The best order under a limit has the first number of the first point of the front under it. -/
theorem und_front {js : List Job} {f g lim : Int} (hn : js.length ≤ 8) {k : Nat} {q : Pt} (hk : (frontR f g js)[k]? = some q) (hq : q.2 ≤ lim) (hbefore : ∀ i r, i < k → (frontR f g js)[i]? = some r → lim < r.2) : (undG js f g lim).c = 1 ∧ Ord js.length (undG js f g lim).o ∧ valX g js (undG js f g lim).o ≤ lim ∧ valX f js (undG js f g lim).o = q.1 := by
  obtain ⟨hs, hm, hc⟩ := front_facts (f := f) (g := g) hn
  obtain ⟨xs, ox, e⟩ := hm q (List.mem_of_getElem? hk)
  have ef : valX f js xs = q.1 := by rw [← e]; rfl
  have eg : valX g js xs = q.2 := by rw [← e]; rfl
  rcases @undG_facts js f g lim with ⟨_, h2⟩ | ⟨h1, h2, h3, h4⟩
  · have := h2 xs ox; omega
  · refine ⟨h1, h3, h2, ?_⟩
    have l1 := h4 xs ox (by omega)
    obtain ⟨r, hr, r1, r2⟩ := hc _ h3
    obtain ⟨i, hi⟩ := List.getElem?_of_mem hr
    have : k ≤ i := by
      refine Nat.not_lt.1 fun gt => ?_
      have := hbefore i r gt hi
      omega
    have : q.1 ≤ r.1 := by
      rcases Nat.eq_or_lt_of_le this with e | e
      · subst e; rw [hk] at hi; cases hi; exact Int.le_refl _
      · exact Int.le_of_lt (srt_at hs hk hi e).1
    omega
theorem und_none {js : List Job} {f g lim : Int} (hn : js.length ≤ 8) (h : (undG js f g lim).c = 0) : ∀ q, q ∈ frontR f g js → lim < q.2 := fun q hq => by
  obtain ⟨hs, hm, hc⟩ := front_facts (f := f) (g := g) hn
  obtain ⟨xs, ox, e⟩ := hm q hq
  rcases @undG_facts js f g lim with ⟨_, h2⟩ | ⟨h1, _⟩
  · have := h2 xs ox
    rw [← e]; exact this
  · omega
theorem und_some {js : List Job} {f g lim : Int} (hn : js.length ≤ 8) (h : ¬ (undG js f g lim).c = 0) : ∃ q, q ∈ frontR f g js ∧ q.2 ≤ lim := by
  obtain ⟨hs, hm, hc⟩ := front_facts (f := f) (g := g) hn
  rcases @undG_facts js f g lim with ⟨h1, _⟩ | ⟨_, h2, h3, _⟩
  · rw [h1] at h; exact absurd rfl h
  · obtain ⟨q, hq, _, l2⟩ := hc _ h3
    exact ⟨q, hq, by omega⟩
end Go.Pm.PP

/- FnMixtures: its draws. -/
set_option linter.unusedVariables false
set_option linter.unusedSimpArgs false
set_option maxRecDepth 4000
set_option maxHeartbeats 16000000
namespace Go.Pm.PP
open Go.Pm Go.Proofs Go.Pm.PE
theorem DrawLeastMix_run {h : Hp} {vc : Value} (B : By h vc) : RunsC P G n_spec_DrawLeastMix [vc] h fun v h' => h <+: h' ∧ ∃ (js : List Job) (f g x y : Int) (u : Value), v = .tuple #[u, .int .i64 f, .int .i64 g, .int .i64 x, .int .i64 y] ∧ js.length ≤ 9 ∧ Jobs h' u js := by
  refine hideC fun K hK => enter_run e_spec_DrawLeastMix (by simp) ?_
  have C0 : Cur h (h ++ [some ⟨[vc, .int .i64 0, .int .u64 0], 0, false⟩]) h.length vc 0 [] := ⟨0, 0, by omega, by omega, (Holds.start (h := h)).alloc _⟩
  obtain ⟨bs, Sb, hb, hbl⟩ := B
  have Bs : By h vc := ⟨bs, Sb, hb, hbl⟩
  obtain ⟨ob, cb, rfl⟩ := Sb.shapeT
  simp -implicitDefEqProofs
  refine CL_post (one_run Bs C0 (by omega) (k := 3) (by omega)) fun v h1 ⟨b, ev, C1⟩ => ?_
  subst ev
  simp -implicitDefEqProofs
  refine CL_post (someJobs_run Bs C1 (by omega) (b := b) (most := 5) (by omega)) fun u h2 ⟨js, hl, C2⟩ => ?_
  obtain ⟨ua, uc, rfl⟩ : ∃ a c, u = .slice a js.length c := C2.seesJ.shapeT
  simp -implicitDefEqProofs
  refine CL_post (objective_run Bs C2 (by omega)) fun v h3 ⟨f, ev, C3⟩ => ?_
  subst ev
  simp -implicitDefEqProofs
  refine CL_post (objective_run Bs C3 (by omega)) fun v h4 ⟨g, ev, C4⟩ => ?_
  subst ev
  simp -implicitDefEqProofs
  refine CL_post (among_run Bs (C4.lit [1, 1, 2, 0, 7, 99, 100]) (by omega) snoc_get (by simp) (by simp)) fun v h5 ⟨x, ev, _, C5⟩ => ?_
  subst ev
  have C5 := C5.weak
  simp -implicitDefEqProofs
  refine CL_post (among_run Bs (C5.lit [1, 2, 3, 0, 99, -1]) (by omega) snoc_get (by simp) (by simp)) fun v h6 ⟨y, ev, _, C6⟩ => ?_
  subst ev
  have C6 := C6.weak
  simp -implicitDefEqProofs
  exact onK hK ⟨pre_gcU C6.pre, js, f, g, x, y, _, rfl, hl, Sees.gcU C6.seesJ fun g => plainT (r := [_, _, _, _]) g⟩
theorem DrawBestUnder_run {h : Hp} {vc : Value} (B : By h vc) : RunsC P G n_spec_DrawBestUnder [vc] h fun v h' => h <+: h' ∧ ∃ (js : List Job) (f g lim : Int) (u : Value), v = .tuple #[u, .int .i64 f, .int .i64 g, .int .i64 lim] ∧ js.length ≤ 9 ∧ Jobs h' u js := by
  refine hideC fun K hK => enter_run e_spec_DrawBestUnder (by simp) ?_
  have C0 : Cur h (h ++ [some ⟨[vc, .int .i64 0, .int .u64 0], 0, false⟩]) h.length vc 0 [] := ⟨0, 0, by omega, by omega, (Holds.start (h := h)).alloc _⟩
  obtain ⟨bs, Sb, hb, hbl⟩ := B
  have Bs : By h vc := ⟨bs, Sb, hb, hbl⟩
  obtain ⟨ob, cb, rfl⟩ := Sb.shapeT
  simp -implicitDefEqProofs
  refine CL_post (one_run Bs C0 (by omega) (k := 3) (by omega)) fun v h1 ⟨b, ev, C1⟩ => ?_
  subst ev
  simp -implicitDefEqProofs
  refine CL_post (someJobs_run Bs C1 (by omega) (b := b) (most := 5) (by omega)) fun u h2 ⟨js, hl, C2⟩ => ?_
  obtain ⟨ua, uc, rfl⟩ : ∃ a c, u = .slice a js.length c := C2.seesJ.shapeT
  simp -implicitDefEqProofs
  refine CL_post (objective_run Bs C2 (by omega)) fun v h3 ⟨f, ev, C3⟩ => ?_
  subst ev
  simp -implicitDefEqProofs
  refine CL_post (objective_run Bs C3 (by omega)) fun v h4 ⟨g, ev, C4⟩ => ?_
  subst ev
  simp -implicitDefEqProofs
  refine CL_post (among_run Bs (C4.lit [0, 1, 3, 5, 10, 20, 40, 1000, -4, 4611686018427387904, -9223372036854775808]) (by omega) snoc_get (by simp) (by simp)) fun v h5 ⟨x, ev, _, C5⟩ => ?_
  subst ev
  have C5 := C5.weak
  simp -implicitDefEqProofs
  exact onK hK ⟨pre_gcU C5.pre, js, f, g, x, _, rfl, hl, Sees.gcU C5.seesJ fun g => plainT (r := [_, _, _]) g⟩
end Go.Pm.PP

/- FnMixtures, from the program's BestUnder. -/
set_option linter.unusedVariables false
set_option linter.unusedSimpArgs false
set_option maxRecDepth 4000
set_option maxHeartbeats 16000000
namespace Go.Pm.PP
open Go.Pm Go.Proofs Go.Pm.PE
theorem law_Mixtures_of (hU : @IUnder) {h : Hp} {vc : Value} {bs : List Int} (Sb : Sees h vc 1 (bs.map encU)) (hb : ∀ b, b ∈ bs → 0 ≤ b ∧ b ≤ 255) : Ret P G n_laws_FnMixtures [vc] h (.bool true) h := by
  refine enter_run e_laws_FnMixtures (by simp) ?_
  have r0 := rBig_run Sb
  by_cases c0 : (65536 : Int) < bs.length
  · simp -implicitDefEqProofs [CL_ret r0, c0]
  have B : By h vc := ⟨bs, Sb, hb, by omega⟩
  have Sbs := Sb
  obtain ⟨ob, cb, rfl⟩ := Sb.shapeT
  simp -implicitDefEqProofs [CL_ret r0, c0]
  refine CL_post (DrawLeastMix_run B) fun v h1 ⟨hp1, js, f, g, x, y, u, ev, hjl, J⟩ => ?_
  subst ev
  have l1 : js.length ≤ 2 ^ 40 := by omega
  have Js := J
  obtain ⟨ja, jc, rfl⟩ := J.shapeT
  simp -implicitDefEqProofs
  refine CL_post (implLeastMix_run (f := f) (g := g) (x := x) (y := y) Js l1) fun v h2 ⟨hp2, ev⟩ => ?_
  subst ev
  simp -implicitDefEqProofs
  refine CL_post (specLeastMix_run (f := f) (g := g) (x := x) (y := y) (Js.pre hp2) l1) fun v h3 ⟨hp3, ev⟩ => ?_
  subst ev
  have p13 := hp2.trans hp3
  simp -implicitDefEqProofs
  refine CL_post (implSupportedPoints_run (f := f) (g := g) (Js.pre p13) l1) fun v h4 ⟨hp4, d4, ev, D4⟩ => ?_
  subst ev
  obtain ⟨pa, pc, e4⟩ : ∃ a c, d4 = .slice a (spV js f g).length c := D4.shapeT
  subst e4
  simp -implicitDefEqProofs
  refine CL_post (specSupportedPoints_run (f := f) (g := g) (Js.pre (p13.trans hp4)) l1) fun v h5 ⟨hp5, d5, ev, D5⟩ => ?_
  subst ev
  obtain ⟨pa2, pn2, pc2, rfl⟩ : ∃ a n c, d5 = .slice a n c := by obtain ⟨a, c, e⟩ := D5.shape; exact ⟨_, _, _, e⟩
  have p15 := p13.trans (hp4.trans hp5)
  have hF : FOk (frV js f g) := by
    unfold frV
    split
    · rename_i ca
      obtain ⟨hn, hg, hf, hg8⟩ := aTwo_of ca
      exact ⟨(front_facts (f := f) (g := g) hn).1, fun q hq => (front_bd (f := f) (g := g) hg hn q hq).1⟩
    · exact FOk.nil
  have hFl := hF.len
  have hPl : (spV js f g).length ≤ (frV js f g).length := by
    unfold spV frV
    split
    · exact supP_len
    · simp
  have q1 := rPairs_run (D4.pre hp5) D5 (by omega)
  simp -implicitDefEqProofs [CL_ret q1]
  refine CL_post (implFrontOf_run (f := f) (g := g) (Js.pre p15) l1) fun v h6 ⟨hp6, d6, ev, D6, _⟩ => ?_
  subst ev
  obtain ⟨fa, fc, e6⟩ : ∃ a c, d6 = .slice a (frV js f g).length c := D6.shapeT
  subst e6
  simp -implicitDefEqProofs
  refine CL_post (specFrontOf_run (f := f) (g := g) (Js.pre (p15.trans hp6)) l1) fun v h7 ⟨hp7, d7, ev, D7, _⟩ => ?_
  subst ev
  obtain ⟨fa2, fn2, fc2, rfl⟩ : ∃ a n c, d7 = .slice a n c := by obtain ⟨a, c, e⟩ := D7.shape; exact ⟨_, _, _, e⟩
  have D4' := D4.pre (hp5.trans (hp6.trans hp7))
  have D6' := D6.pre hp7
  have q2 := rPairs_run D6' D7 (by omega)
  have p17 := p15.trans (hp6.trans hp7)
  have hp07 := hp1.trans p17
  have e8 : mixOk js f g x y = true → aTwo js f g = true ∧ (0 ≤ x ∧ x ≤ 99) ∧ 0 ≤ y ∧ y ≤ 99 := fun g1 => by
    rw [mixOk, Bool.and_eq_true, Bool.and_eq_true] at g1
    exact ⟨g1.1.1, in99 g1.1.2, in99 g1.2⟩
  have comb : (mixOk js f g x y = false) ∨ (mixOk js f g x y = true ∧ ((¬ 0 < x) ∨ (0 < x ∧ ((¬ 0 < y) ∨ 0 < y)))) := by
    cases mixOk js f g x y
    · exact .inl rfl
    · right
      refine ⟨rfl, ?_⟩
      by_cases h1 : 0 < x
      · right; exact ⟨h1, (Classical.em _).symm⟩
      · left; exact h1
  rcases comb with hm | ⟨hm, hx | ⟨hx, hy | hy⟩⟩
  case' inl =>
    obtain ⟨h', e', hp'⟩ : ∃ h', h7 = h' ∧ h7 <+: h' := ⟨h7, rfl, List.prefix_rfl⟩
    simp -implicitDefEqProofs [CL_ret q2, hm]
    rw [e']
  case' inr.inl =>
    obtain ⟨h', e', hp'⟩ : ∃ h', h7 = h' ∧ h7 <+: h' := ⟨h7, rfl, List.prefix_rfl⟩
    simp -implicitDefEqProofs [CL_ret q2, hm, hx]
    rw [e']
  case' inr.inr.inl =>
    obtain ⟨h', e', hp'⟩ : ∃ h', h7 = h' ∧ h7 <+: h' := ⟨h7, rfl, List.prefix_rfl⟩
    simp -implicitDefEqProofs [CL_ret q2, hm, hx, hy]
    rw [e']
  case' inr.inr.inr =>
    obtain ⟨ca, x99, y99⟩ := e8 hm
    obtain ⟨hn, hg, hf, hg8⟩ := aTwo_of ca
    obtain ⟨low, ⟨z, hz, ez⟩⟩ := mixB_facts (f := f) (g := g) hn x99.1 y99.1
    have hsrt := (front_facts (f := f) (g := g) hn).1
    have hbd := front_bd (f := f) (g := g) hg hn
    have esp : spV js f g = supP (frontR f g js) 0 (frontR f g js) := by rw [spV, ca, if_pos rfl]
    have efr : frV js f g = frontR f g js := by rw [frV, ca, if_pos rfl]
    have emx : mixR js f g x y = (mixB js f g x y).v := by rw [mixR, hm, if_pos rfl]
    have hzs : z ∈ spV js f g := by rw [esp]; exact min_sup hsrt hx hy hz fun q hq => by rw [ez]; exact low q hq
    have hsup : ∀ q, q ∈ frV js f g → mxP x y q = mixR js f g x y → q ∈ spV js f g := fun q hq e => by
      rw [efr] at hq
      rw [esp]
      exact min_sup hsrt hx hy hq fun r hr => by rw [e, emx]; exact low r hr
    have hlow : ∀ q, q ∈ spV js f g → mixR js f g x y ≤ mxP x y q ∧ PBd q := fun q hq => by
      rw [esp] at hq
      rw [emx]
      exact ⟨low q (sup_sub hq), hbd q (sup_sub hq)⟩
    have hfb : ∀ q, q ∈ frV js f g → PBd q := fun q hq => by rw [efr] at hq; exact hbd q hq
    rw [← emx] at ez
    have arith : ∀ q, PBd q → IntKind.i64.wrap (x * q.1) = x * q.1 ∧ IntKind.i64.wrap (y * q.2) = y * q.2 ∧ IntKind.i64.wrap (x * q.1 + y * q.2) = mxP x y q := fun q hq => by
      have m1 := mul99 x99 hq.1
      have m2 := mul99 y99 hq.2
      refine ⟨by rw [wrap_ok] <;> omega, by rw [wrap_ok] <;> omega, ?_⟩
      unfold mxP
      rw [wrap_ok] <;> omega
    clear low hz hsrt hbd esp efr emx
    generalize spV js f g = Pn at *
    generalize frV js f g = F at *
    generalize mixR js f g x y = least at *
    simp -implicitDefEqProofs [CL_ret q2, hm, hx, hy]
    refine R_loopO (fun m s h' => ∃ (i : Nat) (best : Int), i + m = Pn.length ∧ s = [(0, .slice ob bs.length cb), (6, .int .i64 x), (7, .int .i64 y), (8, .int .i64 least), (12, .slice pa Pn.length pc), (16, .slice fa F.length fc), (20, .int .i64 best), (21, .int .i64 i)] ∧
        ((i = 0 ∧ best = -1) ∨ ∃ (b : Nat) (pb : Pt), best = b ∧ Pn[b]? = some pb ∧ ∀ q, q ∈ Pn.take i → mxP x y pb ≤ mxP x y q) ∧ h' = h7) (fun I hI m s h7 => ?_) (n := Pn.length) ⟨0, -1, Nat.zero_add _, by simp, .inl ⟨rfl, rfl⟩, rfl⟩
    rintro ⟨i, best, hi, rfl, hbest, rfl⟩
    by_cases hlt : i < Pn.length
    case pos =>
      obtain ⟨q, hq, _⟩ := drop_at hlt
      have lq := load_Q D4' hq
      obtain ⟨_, bq⟩ := hlow q (List.mem_of_getElem? hq)
      obtain ⟨a1, a2, a3⟩ := arith q bq
      have hlt' : (i : Int) < Pn.length := by omega
      rcases hbest with ⟨rfl, rfl⟩ | ⟨b, pb, rfl, hpb, hmin⟩
      · have lq0 := lq
        simp only [show ((0 : Nat) : Int) = 0 from rfl] at lq0
        simp -implicitDefEqProofs [-indexAddrP_some, hlt, hlt']
        exact ⟨m - 1, by omega, on hI ⟨1, 0, by omega, by simp; rfl, .inr ⟨0, q, rfl, hq, fun r hr => by
          have e : Pn.take 1 = [q] := by
            have := take_succ' hq
            simpa using this
          rw [e, List.mem_singleton] at hr
          subst hr; exact Int.le_refl _⟩, rfl⟩⟩
      · have lpb := load_Q D4' hpb
        obtain ⟨_, bpb⟩ := hlow pb (List.mem_of_getElem? hpb)
        obtain ⟨b1, b2, b3⟩ := arith pb bpb
        have nb0 : ¬ (b : Int) < 0 := by omega
        have tk := take_succ' hq
        by_cases c : mxP x y q < mxP x y pb
        · simp -implicitDefEqProofs [-indexAddrP_some, hlt, hlt', nb0, lq, lpb, ia20, ia21, a1, a2, a3, b1, b2, b3, c, winc hlt (by omega)]
          exact ⟨m - 1, by omega, on hI ⟨i + 1, i, by omega, rfl, .inr ⟨i, q, rfl, hq, fun r hr => by
            rw [tk, List.mem_append, List.mem_singleton] at hr
            rcases hr with hr | rfl
            · have := hmin r hr; omega
            · exact Int.le_refl _⟩, rfl⟩⟩
        · simp -implicitDefEqProofs [-indexAddrP_some, hlt, hlt', nb0, lq, lpb, ia20, ia21, a1, a2, a3, b1, b2, b3, c, winc hlt (by omega)]
          exact ⟨m - 1, by omega, on hI ⟨i + 1, b, by omega, rfl, .inr ⟨b, pb, rfl, hpb, fun r hr => by
            rw [tk, List.mem_append, List.mem_singleton] at hr
            rcases hr with hr | rfl
            · exact hmin r hr
            · omega⟩, rfl⟩⟩
    case' neg =>
      have hne := List.length_pos_of_mem hzs
      have hlt' : ¬ (i : Int) < Pn.length := by omega
      obtain ⟨b, pb, rfl, hpb, hmin⟩ : ∃ (b : Nat) (pb : Pt), best = b ∧ Pn[b]? = some pb ∧ ∀ q, q ∈ Pn.take i → mxP x y pb ≤ mxP x y q := by
        rcases hbest with ⟨g1, _⟩ | g1
        · omega
        · exact g1
      rw [List.take_of_length_le (by omega)] at hmin
      obtain ⟨g1, bpb⟩ := hlow pb (List.mem_of_getElem? hpb)
      have epb : mxP x y pb = least := by have := hmin z hzs; omega
      obtain ⟨b1, b2, b3⟩ := arith pb bpb
      rw [epb] at b3
      have lpb := load_Q D4' hpb
      have nb0 : ¬ (b : Int) < 0 := by omega
      simp -implicitDefEqProofs [-indexAddrP_some, hlt, hlt', nb0, lpb, ia20, ia21, b1, b2, b3]
      refine R_loopO (fun m s h' => ∃ (i : Nat), i + m = F.length ∧ s = [(0, .slice ob bs.length cb), (6, .int .i64 x), (7, .int .i64 y), (8, .int .i64 least), (12, .slice pa Pn.length pc), (16, .slice fa F.length fc), (22, .int .i64 i)] ∧ h' = h7) (fun I2 hI2 m2 s2 h7 => ?_) (n := F.length) ⟨0, Nat.zero_add _, by simp, rfl⟩
      rintro ⟨k, hk, rfl, rfl⟩
      by_cases hltk : k < F.length
      case pos =>
        obtain ⟨q, hq, _⟩ := drop_at hltk
        have lq := load_Q D6' hq
        obtain ⟨a1, a2, a3⟩ := arith q (hfb q (List.mem_of_getElem? hq))
        have hltk' : (k : Int) < F.length := by omega
        by_cases c : mxP x y q = least
        · have hqs := hsup q (List.mem_of_getElem? hq) c
          rw [c] at a3
          simp -implicitDefEqProofs [-indexAddrP_some, hltk, hltk', lq, ia20, ia21, a1, a2, a3]
          refine R_loopO (fun m s h' => ∃ (j : Nat) (b : Bool), j + m = Pn.length ∧ s = [(0, .slice ob bs.length cb), (6, .int .i64 x), (7, .int .i64 y), (8, .int .i64 least), (12, .slice pa Pn.length pc), (16, .slice fa F.length fc), (22, .int .i64 k), (23, .bool b), (24, .int .i64 j)] ∧ b = (Pn.take j).any (fun r => sameB r q) ∧ h' = h7) (fun I3 hI3 m3 s3 h7 => ?_) (n := Pn.length) ⟨0, false, Nat.zero_add _, by simp, rfl, rfl⟩
          rintro ⟨j, b, hj, rfl, hbq, rfl⟩
          by_cases hltj : j < Pn.length
          · obtain ⟨r, hr, _⟩ := drop_at hltj
            have lr := load_Q D4' hr
            have tk := take_succ' hr
            have hltj' : (j : Int) < Pn.length := by omega
            cases b
            · simp -implicitDefEqProofs [-indexAddrP_some, hltj, hltj', lr, lq, eqPt, winc hltj (by omega)]
              exact ⟨m3 - 1, by omega, on hI3 ⟨j + 1, sameB r q, by omega, rfl, by rw [tk, List.any_append, ← hbq]; simp, rfl⟩⟩
            · simp -implicitDefEqProofs [-indexAddrP_some, hltj, hltj', winc hltj (by omega)]
              exact ⟨m3 - 1, by omega, on hI3 ⟨j + 1, true, by omega, rfl, by rw [tk, List.any_append, ← hbq]; simp, rfl⟩⟩
          · rw [List.take_of_length_le (by omega)] at hbq
            have hbt : b = true := by
              rw [hbq, List.any_eq_true]
              exact ⟨q, hqs, sameB_iff.2 rfl⟩
            subst hbt
            have hltj' : ¬ (j : Int) < Pn.length := by omega
            simp -implicitDefEqProofs [hltj, hltj', winc hltk (by omega)]
            exact ⟨m2 - 1, by omega, on hI2 ⟨k + 1, by omega, rfl, rfl⟩⟩
        · simp -implicitDefEqProofs [-indexAddrP_some, hltk, hltk', lq, ia20, ia21, a1, a2, a3, nb c, winc hltk (by omega)]
          exact ⟨m2 - 1, by omega, on hI2 ⟨k + 1, by omega, rfl, rfl⟩⟩
      case' neg =>
        have hltk' : ¬ (k : Int) < F.length := by omega
        simp -implicitDefEqProofs [hltk, hltk']
        obtain ⟨h', e', hp'⟩ : ∃ h', h7 = h' ∧ h7 <+: h' := ⟨h7, rfl, List.prefix_rfl⟩
        rw [e']
  all_goals
    have ph := hp07.trans hp'
    refine CL_post (DrawBestUnder_run ⟨bs, Sbs.pre ph, hb, by omega⟩) fun v g1 ⟨gp1, ks, a, c, lim, ku, ev, hkl, K1⟩ => ?_
    subst ev
    have k1 : ks.length ≤ 2 ^ 40 := by omega
    have K1s := K1
    obtain ⟨ka, kc, rfl⟩ := K1.shapeT
    simp -implicitDefEqProofs
    refine CL_post (@hU _ _ ks a c lim K1s k1) fun v g2 ⟨gp2, w2, ev, W2⟩ => ?_
    subst ev
    have W2s := W2
    have hul : (undF ks a c lim).length ≤ 2 ^ 40 := by
      unfold undF
      split
      · rename_i ca
        rcases @undG_facts ks a c lim with ⟨e, _⟩ | ⟨_, _, oo, _⟩
        · rw [e]; simp [sr0]
        · rw [oo.len]; omega
      · simp
    obtain ⟨wa, wn, wc, rfl⟩ : ∃ a n c, w2 = .slice a n c := by obtain ⟨a, c, e⟩ := W2.shape; exact ⟨_, _, _, e⟩
    simp -implicitDefEqProofs
    refine CL_post (specBestUnder_run (f := a) (g := c) (lim := lim) (K1s.pre gp2) k1) fun v g3 ⟨gp3, w3, ev, W3⟩ => ?_
    subst ev
    have W2' := W2s.pre gp3
    have q5 := rInts_run W2' W3 hul
    obtain ⟨wa3, wn3, wc3, rfl⟩ : ∃ a n c, w3 = .slice a n c := by obtain ⟨a, c, e⟩ := W3.shape; exact ⟨_, _, _, e⟩
    have gp13 := gp2.trans gp3
    simp -implicitDefEqProofs [CL_ret q5]
    refine CL_post (implFrontOf_run (f := a) (g := c) (K1s.pre gp13) k1) fun v g4 ⟨gp4, d8, ev, D8, hF8⟩ => ?_
    subst ev
    have hFl8 := hF8.len
    obtain ⟨qa, qc, e9⟩ : ∃ a1 c1, d8 = .slice a1 (frV ks a c).length c1 := D8.shapeT
    subst e9
    have pall := ph.trans (gp1.trans (gp13.trans gp4))
    cases ca : aTwo ks a c
    · have eu : undO ks a c lim = false := by rw [undO, ca]; rfl
      rw [eu]
      simp -implicitDefEqProofs
      exact gcP pall rfl
    obtain ⟨kn, kg, kf, kg8⟩ := aTwo_of ca
    have efr : frV ks a c = frontR a c ks := by rw [frV, ca, if_pos rfl]
    have hpos := front_ne (f := a) (g := c) kn
    rw [← efr] at hpos
    by_cases cz : (undG ks a c lim).c = 0
    · have eu : undO ks a c lim = false := by rw [undO, ca, cz]; rfl
      have hall := und_none kn cz
      rw [← efr] at hall
      obtain ⟨z, hz, _⟩ := drop_at (show (frV ks a c).length - 1 < (frV ks a c).length by omega)
      have lz := load_Q D8 hz
      have gz := hall z (List.mem_of_getElem? hz)
      have wl : IntKind.i64.wrap (((frV ks a c).length : Int) - 1) = (((frV ks a c).length - 1 : Nat) : Int) := by rw [wrap_ok] <;> omega
      have hpos' : (0 : Int) < (frV ks a c).length := by omega
      rw [eu]
      simp -implicitDefEqProofs [-indexAddrP_some, hpos, hpos', wl, lz, ia21, gz]
      exact gcP pall rfl
    have eu : undO ks a c lim = true := by rw [undO, ca, nb cz]; rfl
    have euf : undF ks a c lim = (undG ks a c lim).o := by rw [undF, ca, if_pos rfl]
    rw [eu]
    have W2'' := W2'.pre gp4
    rw [euf] at W2'' hul
    simp -implicitDefEqProofs
    refine CL_post (implPointOf_run (f := a) (g := c) (K1s.pre (gp13.trans gp4)) W2'' k1 hul) fun v g5 ⟨gp5, ev⟩ => ?_
    subst ev
    have oo : Ord ks.length (undG ks a c lim).o := by
      rcases @undG_facts ks a c lim with ⟨e, _⟩ | ⟨_, _, oo, _⟩
      · rw [e] at cz; exact absurd rfl cz
      · exact oo
    have ept : ptV ks (undG ks a c lim).o a c = ptX a c ks (undG ks a c lim).o := by rw [ptV, ca, ord_ok kn oo]; rfl
    rw [ca, ord_ok kn oo, ept]
    obtain ⟨pt, hpt⟩ : ∃ pt, pt = ptX a c ks (undG ks a c lim).o := ⟨_, rfl⟩
    rw [← hpt]
    have HB := (Holds.start (h := g5)).alloc [.int .i64 pt.1, .int .i64 pt.2]
    have lpt := HB.bl (P := P) 0 2 rfl rfl
    have D9 := D8.pre (gp5.trans HB.pre)
    simp -implicitDefEqProofs
    refine R_loopO (fun m s h' => ∃ (i : Nat), i + m = (frV ks a c).length ∧ s = [(28, .int .i64 lim), (33, .slice qa (frV ks a c).length qc), (35, .pointer (some ⟨g5.length, 0, some 2⟩)), (36, .bool true), (37, .int .i64 i)] ∧ (∀ j r, j < i → (frV ks a c)[j]? = some r → lim < r.2) ∧ h' = g5 ++ [some ⟨[.int .i64 pt.1, .int .i64 pt.2], 0, false⟩]) (fun I9 hI9 m9 s9 h9 => ?_) (n := (frV ks a c).length) ⟨0, Nat.zero_add _, by simp, fun j r hj => by omega, rfl⟩
    rintro ⟨i9, hi9, rfl, hbf, rfl⟩
    by_cases hlt9 : i9 < (frV ks a c).length
    · obtain ⟨q9, hq9, _⟩ := drop_at hlt9
      have lq9 := load_Q D9 hq9
      have hlt9' : (i9 : Int) < (frV ks a c).length := by omega
      by_cases c9 : q9.2 ≤ lim
      · obtain ⟨_, _, u3, u4⟩ := und_front (lim := lim) kn (k := i9) (q := q9) (by rw [← efr]; exact hq9) c9 (fun j r hj hr => hbf j r hj (by rw [efr]; exact hr))
        have v3 : pt.2 ≤ lim := by rw [hpt]; exact u3
        have v4 : (pt.1 == q9.1) = true := by rw [beq_iff_eq, hpt]; exact u4
        simp -implicitDefEqProofs [-indexAddrP_some, hlt9, hlt9', lq9, lpt, ia20, ia21, c9, v3, v4]
        exact gcP (pall.trans (gp5.trans HB.pre)) rfl
      · simp -implicitDefEqProofs [-indexAddrP_some, hlt9, hlt9', lq9, ia21, c9, winc hlt9 (by omega)]
        exact ⟨m9 - 1, by omega, on hI9 ⟨i9 + 1, by omega, rfl, fun j r hj hr => by
          rcases Nat.lt_or_ge j i9 with g | g
          · exact hbf j r g hr
          · have : j = i9 := by omega
            subst this
            rw [hq9] at hr; cases hr; omega, rfl⟩⟩
    · exfalso
      obtain ⟨q9, hq9, hle⟩ := und_some (lim := lim) kn cz
      rw [← efr] at hq9
      obtain ⟨j, hj⟩ := List.getElem?_of_mem hq9
      have := hbf j q9 (by have := (List.getElem?_eq_some_iff.1 hj).1; omega) hj
      omega
end Go.Pm.PP

/- The program's best order under a limit. -/
set_option linter.unusedVariables false
set_option linter.unusedSimpArgs false
set_option maxRecDepth 4000
set_option maxHeartbeats 16000000
namespace Go.Pm.PP
open Go.Pm Go.Proofs Go.Pm.PE
def bxU (p q r : Nat) (vo : Value) (b : Sr) : List Asn := [.box p [vo], .box q [.int .i64 b.v], .box r [.bool !(b.c == 0)], .own vo 1 (b.o.map encI)]
theorem gcU {hb h h' : Hp} {p q r : Nat} {vo vo' u : Value} {b b' : Sr} {L : List Asn} (HL : Holds hb h (bxU p q r vo b ++ L)) (H' : Holds hb h' (bxU p q r vo' b' ++ L)) : Holds hb (gc h h' u) (bxU p q r vo' b' ++ L) := by
  rcases gc_cases' h h' u with g | ⟨hp, g⟩
  · rw [g]; exact H'
  · have e1 := HL.box (cs := [vo]) (r := p) 0 rfl
    have e2 := H'.box (cs := [vo']) (r := p) 0 rfl
    obtain ⟨t, rfl⟩ := hp
    rw [List.getElem?_append_left (List.getElem?_eq_some_iff.1 e1).1, e1] at e2
    cases e2
    exact HL.gcR H' rfl
theorem tellU_run {hb h : Hp} {p q r rj rf rg rl : Nat} {vj vg vo : Value} {js : List Job} {f g lim : Int} {xs : List Int} {b : Sr} (J : Jobs hb vj js)
    (bj : hb[rj]? = some (some ⟨[vj], 0, false⟩)) (bf : hb[rf]? = some (some ⟨[.int .i64 f], 0, false⟩)) (bg : hb[rg]? = some (some ⟨[.int .i64 g], 0, false⟩)) (bl' : hb[rl]? = some (some ⟨[.int .i64 lim], 0, false⟩))
    (hgd : goodL js = true) (hn : js.length ≤ 8) (hf : 1 ≤ f ∧ f ≤ 8) (hg8 : 1 ≤ g ∧ g ≤ 8) (hx : Ord js.length xs) (H : Holds hb h (bxU p q r vo b ++ [.own vg 1 (xs.map encI)])) :
    RunsC P G n_impl_BestUnder_1 [vg, .pointer (some ⟨rj, 0, some 1⟩), .pointer (some ⟨rf, 0, some 1⟩), .pointer (some ⟨rg, 0, some 1⟩), .pointer (some ⟨rl, 0, some 1⟩), .pointer (some ⟨r, 0, some 1⟩), .pointer (some ⟨q, 0, some 1⟩), .pointer (some ⟨p, 0, some 1⟩)] h fun v h' =>
      ∃ vo', ∀ L, Holds hb h (bxU p q r vo b ++ L) → Holds hb h' (bxU p q r vo' (updG (fun xs => decide (valX g js xs ≤ lim)) (valX f js) b xs) ++ L) := by
  refine hideC fun K hK => enter_run e_impl_BestUnder_1 (by simp) ?_
  have Js := J
  obtain ⟨oj, cj, rfl⟩ := J.shapeT
  have Sg : Ints h vg xs := H.sees 4 rfl
  obtain ⟨g1, g3, rfl⟩ : ∃ a c, vg = .slice a xs.length c := Sg.shapeT
  have lj := load_pre H.pre bj (n := 1) rfl
  have lf := load_pre H.pre bf (n := 1) rfl
  have lg := load_pre H.pre bg (n := 1) rfl
  have rp := pointOf_run (f := f) (g := g) (Js.pre H.pre) Sg hgd hn hf hg8 hx
  generalize hP : ptX f g js xs = pt at *
  have hV : valX f js xs = pt.1 := by rw [← hP]; rfl
  have hW : valX g js xs = pt.2 := by rw [← hP]; rfl
  have N1 := (Holds.start (h := h)).alloc [.int .i64 pt.1, .int .i64 pt.2]
  have pN : h <+: h ++ [some ⟨[.int .i64 pt.1, .int .i64 pt.2], 0, false⟩] := List.prefix_append ..
  have lp := N1.bl (P := P) 0 2 rfl rfl
  have ll := load_pre (H.pre.trans pN) bl' (n := 1) rfl
  have HN := H.alloc [.int .i64 pt.1, .int .i64 pt.2]
  have lv := HN.bl (P := P) 1 1 rfl rfl
  have lc := HN.bl (P := P) 2 1 rfl rfl
  have other : ¬ (pt.2 ≤ lim ∧ (b.c = 0 ∨ pt.1 < b.v)) → ∀ u, K u (gc h (h ++ [some ⟨[.int .i64 pt.1, .int .i64 pt.2], 0, false⟩]) u) := fun c1 u => by
    have e : updG (fun xs => decide (valX g js xs ≤ lim)) (valX f js) b xs = b := by unfold updG; simp only [hV, hW, decide_eq_true_eq]; rw [if_neg c1]
    rw [e] at hK
    exact onK hK ⟨vo, fun L HL => gcU HL (HL.ext pN)⟩
  have self : pt.2 ≤ lim ∧ (b.c = 0 ∨ pt.1 < b.v) → ∀ (v1 : Value) (h1 : Hp), h ++ [some ⟨[.int .i64 pt.1, .int .i64 pt.2], 0, false⟩] <+: h1 → Own (List.length (h ++ ([some ⟨[.int .i64 pt.1, .int .i64 pt.2], 0, false⟩] : Hp))) h1 v1 1 (xs.map encI) → ∃ a c h2 h3 h4, v1 = .slice a xs.length c ∧
      loadP P h1 t_int (.pointer (some ⟨h.length, 0, some 2⟩)) = some (.int .i64 pt.1) ∧
      storeP P h1 t_S_int (.slice a xs.length c) (.pointer (some ⟨p, 0, some 1⟩)) = some h2 ∧ loadP P h2 t_int (.pointer (some ⟨h.length, 0, some 2⟩)) = some (.int .i64 pt.1) ∧ storeP P h2 t_int (.int .i64 pt.1) (.pointer (some ⟨q, 0, some 1⟩)) = some h3 ∧ storeP P h3 t_bool (.bool true) (.pointer (some ⟨r, 0, some 1⟩)) = some h4 ∧ ∀ u, K u (gc h h4 u) := fun c1 v1 h1 hp1 ho1 => by
    have e : updG (fun xs => decide (valX g js xs ≤ lim)) (valX f js) b xs = ⟨xs, pt.1, 1⟩ := by unfold updG; simp only [hV, hW, decide_eq_true_eq]; rw [if_pos c1]
    rw [e] at hK
    obtain ⟨a, c', rfl⟩ := ho1.sees.shapeT
    obtain ⟨h2, s2, H2, _⟩ := (HN.ext hp1).set (P := P) 0 (n := 1) (o := 0) (ty := t_S_int) (w := .slice a xs.length c') rfl rfl e_t_S_int (by simp) (by simp) (by simp)
    obtain ⟨h3, s3, H3, _⟩ := H2.set (P := P) 1 (n := 1) (o := 0) (ty := t_int) (w := .int .i64 pt.1) rfl rfl e_t_int (by simp) (by simp) (by simp)
    obtain ⟨h4, s4, H4, _⟩ := H3.set (P := P) 2 (n := 1) (o := 0) (ty := t_bool) (w := .bool true) rfl rfl e_t_bool (by simp) (by simp) (by simp)
    refine ⟨a, c', h2, h3, h4, rfl, ?_, s2, ?_, s3, s4, fun u => onK hK ⟨.slice a xs.length c', fun L HL => ?_⟩⟩
    · have := (N1.ext hp1).bl (P := P) 0 2 rfl rfl t_int 0
      simpa using this
    · have := H2.bl (P := P) 5 2 rfl rfl t_int 0
      simpa using this
    have HJ := Holds.joinT (L := bxU p q r vo b) (T := L) (A := [.own (.slice a xs.length c') 1 (xs.map encI)]) (M := []) (HL.ext pN) ((Holds.start (h := h ++ [some ⟨[.int .i64 pt.1, .int .i64 pt.2], 0, false⟩])).call hp1 ho1)
    obtain ⟨h2', s2', H2', _⟩ := HJ.set (P := P) 0 (n := 1) (o := 0) (ty := t_S_int) (w := .slice a xs.length c') rfl rfl e_t_S_int (by simp) (by simp) (by simp)
    rw [s2] at s2'; cases s2'
    obtain ⟨h3', s3', H3', _⟩ := H2'.set (P := P) 1 (n := 1) (o := 0) (ty := t_int) (w := .int .i64 pt.1) rfl rfl e_t_int (by simp) (by simp) (by simp)
    rw [s3] at s3'; cases s3'
    obtain ⟨h4', s4', H4', _⟩ := H3'.set (P := P) 2 (n := 1) (o := 0) (ty := t_bool) (w := .bool true) rfl rfl e_t_bool (by simp) (by simp) (by simp)
    rw [s4] at s4'; cases s4'
    have H5 : Holds hb h4 (([.box p [.slice a xs.length c'], .box q [.int .i64 pt.1], .box r [.bool true]] ++ [.own vo 1 (b.o.map encI)]) ++ ([.own (.slice a xs.length c') 1 (xs.map encI)] ++ L)) := H4'
    have H6 : Holds hb h4 (bxU p q r (.slice a xs.length c') ⟨xs, pt.1, 1⟩ ++ L) := H5.cut
    exact gcU HL H6
  have Sn := Sg.pre pN
  by_cases c0 : pt.2 ≤ lim
  · rcases Classical.em (b.c = 0) with c2 | c2
    · simp -implicitDefEqProofs [lj, lf, lg, CL_ret rp, ia20, ia21, lp, ll, lv, lc, c0, show (b.c == 0) = true by simpa using c2]
      refine CG_post (copyInts_run Sn (by rw [hx.len]; omega)).new fun v1 h1 ⟨⟨hp1, ho1⟩, hn1⟩ => ⟨by simpa using hn1 hp1, ?_⟩
      obtain ⟨a, c', h2, h3, h4, rfl, l1, s2, l2, s3, s4, fin⟩ := self ⟨c0, .inl c2⟩ v1 h1 hp1 ho1
      simp -implicitDefEqProofs [RunsO, ia20, l1, s2, l2, s3, s4]
      exact fin _
    · by_cases c3 : pt.1 < b.v
      · simp -implicitDefEqProofs [lj, lf, lg, CL_ret rp, ia20, ia21, lp, ll, lv, lc, c0, nb c2, c3]
        refine CG_post (copyInts_run Sn (by rw [hx.len]; omega)).new fun v1 h1 ⟨⟨hp1, ho1⟩, hn1⟩ => ⟨by simpa using hn1 hp1, ?_⟩
        obtain ⟨a, c', h2, h3, h4, rfl, l1, s2, l2, s3, s4, fin⟩ := self ⟨c0, .inr c3⟩ v1 h1 hp1 ho1
        simp -implicitDefEqProofs [RunsO, ia20, l1, s2, l2, s3, s4]
        exact fin _
      · simp -implicitDefEqProofs [lj, lf, lg, CL_ret rp, ia20, ia21, lp, ll, lv, lc, c0, nb c2, c3]
        exact other (fun q => by rcases q.2 with g | g; exact c2 g; exact c3 g) _
  · simp -implicitDefEqProofs [lj, lf, lg, CL_ret rp, ia20, ia21, lp, ll, lv, lc, c0]
    exact other (fun q => c0 q.1) _
section
variable {h : Hp} {vj v u : Value} {js : List Job} {xs : List Int} {f g lim : Int}
theorem implBestUnder_run (J : Jobs h vj js) (hl : js.length ≤ 2 ^ 40) : RunsC P G n_impl_BestUnder [vj, .int .i64 f, .int .i64 g, .int .i64 lim] h fun w h' => h <+: h' ∧ ∃ d, w = .tuple #[d, .bool (undO js f g lim)] ∧ Ints h' d (undF js f g lim) := by
  refine hideC fun K hK => enter_run e_impl_BestUnder (by simp) ?_
  have Js := J
  obtain ⟨oj, cj, rfl⟩ := J.shapeT
  have H0 := ((((Holds.start (h := h)).alloc [.slice oj js.length cj]).alloc [.int .i64 f]).alloc [.int .i64 g]).alloc [.int .i64 lim]
  simp only [List.append_assoc, List.cons_append, List.nil_append, List.length_append, List.length_cons, List.length_nil, Nat.zero_add] at H0
  have r1 := areTwo_run (f := f) (g := g) (Js.pre H0.pre) hl
  cases c1 : aTwo js f g
  · rw [c1] at r1
    rw [undO, undF, c1] at hK
    simp -implicitDefEqProofs [CL_ret r1]
    exact onK hK ⟨pre_gcU H0.pre, _, rfl, by simp, none, 0, rfl, .inl ⟨rfl, rfl, rfl⟩⟩
  rw [undO, undF, c1, if_pos rfl, Bool.true_and] at hK
  rw [c1] at r1
  obtain ⟨hn, hg, hf, hg8⟩ := aTwo_of c1
  generalize hHb : h ++ [some ⟨[.slice oj js.length cj], 0, false⟩, some ⟨[.int .i64 f], 0, false⟩, some ⟨[.int .i64 g], 0, false⟩, some ⟨[.int .i64 lim], 0, false⟩] = hb at H0
  have hbl : hb.length = h.length + 1 + 1 + 1 + 1 := by rw [← hHb]; simp
  have E : Holds hb (hb ++ [some ⟨[.slice none 0 0], 0, false⟩, some ⟨[.int .i64 0], 0, false⟩, some ⟨[.bool false], 0, false⟩]) (bxU hb.length (hb.length + 1) (hb.length + 1 + 1) (.slice none 0 0) sr0 ++ []) := by
    have := own_nil ((((Holds.start (h := hb)).alloc [.slice none 0 0]).alloc [.int .i64 0]).alloc [.bool false]) Int encI 1
    simp only [List.append_assoc, List.cons_append, List.nil_append, List.length_append, List.length_cons, List.length_nil, Nat.zero_add] at this
    exact this
  have er := eachOrder_run (hb := hb) (g := n_impl_BestUnder_1) (c := #[.pointer (some ⟨h.length, 0, some 1⟩), .pointer (some ⟨h.length + 1, 0, some 1⟩), .pointer (some ⟨h.length + 1 + 1, 0, some 1⟩), .pointer (some ⟨h.length + 1 + 1 + 1, 0, some 1⟩), .pointer (some ⟨hb.length + 1 + 1, 0, some 1⟩), .pointer (some ⟨hb.length + 1, 0, some 1⟩), .pointer (some ⟨hb.length, 0, some 1⟩)]) hn
    (Q := fun i BX => ∃ vo, BX = bxU hb.length (hb.length + 1) (hb.length + 1 + 1) vo (((ordsL js.length).take i).foldl (updG (fun xs => decide (valX g js xs ≤ lim)) (valX f js)) sr0))
    (fun i BX i' BX' h h' L u ⟨vf, e⟩ ⟨vf', e'⟩ HL H' => by
      subst e; subst e'
      exact gcU HL H')
    (fun i xs h BX vg ⟨vf, eBX⟩ hxs HB => by
      subst eBX
      have ox := ords_ord (List.mem_of_getElem? hxs)
      refine RunsC.mono (tellU_run (Js.pre H0.pre) (H0.box 0 rfl) (H0.box 1 rfl) (H0.box 2 rfl) (H0.box 3 rfl) hg hn hf hg8 ox HB) fun v h' ⟨vf', Fx⟩ => ?_
      refine ⟨_, ⟨vf', rfl⟩, fun L HL => ?_⟩
      rw [take_succ' hxs, List.foldl_append, List.foldl_cons, List.foldl_nil]
      exact Fx L HL) ⟨_, rfl⟩ E
  have hcount : hb ++ [some ⟨[.slice none 0 0], 0, false⟩, some ⟨[.int .i64 0], 0, false⟩, some ⟨[.bool false], 0, false⟩] = h ++ [some ⟨[.slice oj js.length cj], 0, false⟩, some ⟨[.int .i64 f], 0, false⟩, some ⟨[.int .i64 g], 0, false⟩, some ⟨[.int .i64 lim], 0, false⟩, some ⟨[.slice none 0 0], 0, false⟩, some ⟨[.int .i64 0], 0, false⟩, some ⟨[.bool false], 0, false⟩] := by rw [← hHb]; simp
  rw [hcount, hbl] at er
  rw [hcount, hbl] at E
  simp -implicitDefEqProofs [CL_ret r1]
  refine CL_post er fun v h4 ⟨BX', ⟨vf, eBX⟩, Fx⟩ => ?_
  subst eBX
  have H4 := Fx [] E
  rw [List.take_length] at H4
  have s4 : Ints h4 vf (undG js f g lim).o := H4.sees 3 rfl
  obtain ⟨a, c, rfl⟩ := s4.shapeT
  have l0 := H4.bl (P := P) 0 1 rfl rfl
  have l2 := H4.bl (P := P) 2 1 rfl rfl
  simp -implicitDefEqProofs [l0, l2]
  exact onK hK ⟨pre_gcU (H0.pre.trans H4.pre), _, rfl, Sees.gcU s4 fun g => plainT (r := [_]) g⟩
end
end Go.Pm.PP

/- FnMixtures in the small machine. -/
set_option linter.unusedVariables false
set_option linter.unusedSimpArgs false
namespace Go.Pm.PP
open Go.Pm Go.Proofs Go.Pm.PE
theorem law_Mixtures {h : Hp} {vc : Value} {bs : List Int} (Sb : Sees h vc 1 (bs.map encU)) (hb : ∀ b, b ∈ bs → 0 ≤ b ∧ b ≤ 255) : Ret P G n_laws_FnMixtures [vc] h (.bool true) h := law_Mixtures_of implBestUnder_run Sb hb
end Go.Pm.PP

/- Best orders: exchanging downwards. -/
set_option linter.unusedVariables false
set_option linter.unusedSimpArgs false
set_option maxRecDepth 4000
set_option maxHeartbeats 8000000
namespace Go.Pm.PP
open Go.Pm Go.Proofs Go.Pm.PE
section
variable {h : Hp} {v u : Value} {js : List Job} {xs : List Int} {o : Int}
end
end Go.Pm.PP

/- FnBestOrders in the small machine. -/
set_option linter.unusedVariables false
set_option linter.unusedSimpArgs false
set_option maxRecDepth 4000
set_option maxHeartbeats 8000000
namespace Go.Pm.PP
open Go.Pm Go.Proofs Go.Pm.PE
end Go.Pm.PP

/- A code of bytes as an argument, opened as a row. -/
set_option linter.unusedVariables false
set_option linter.unusedSimpArgs false
set_option maxRecDepth 4000
namespace Go.Pm
open Go.ChangeShapes Go.WideShapes
section
variable {P : Program} {H : Type} {enc : TypeId × Value → H} {w : World} {base : Nat} {held : Bool}
theorem flat_encU (xs : List Int) : (xs.map PP.encU).flatten = xs.map fun x => .int .u8 x := by
  induction xs with
  | nil => rfl
  | cons x xs ih => rw [List.map_cons, List.flatten_cons, ih]; rfl
/-- A slice of bytes. -/
theorem shows_bytes {t e : TypeId} {fuel : Nat} {v : Value} {x : DataW H × List MemPlace} (ht : P.underlying t = some (.slice e)) (he : P.underlying e = some (.int .u8)) (hc : P.cellsOf e = 1)
    (hd : DataW.trod enc P w base (fun _ => true) held fuel t [v] = some x) : ∃ xs : List Int, xs.length ≤ maxLen ∧ (∀ b, b ∈ xs → (Lit.int .u8 b).wf = true) ∧ ∀ (ρ : Mp) (h : Hp), Shows ρ h w 1 (xs.map PP.encU) v := by
  rcases open_ints ht he hc hd with ⟨h1, _⟩ | ⟨a, len, cap, zs, h1, _, hl, hm, hz, _, hcell, hwf⟩
  · cases h1
    exact ⟨[], by simp, by simp, fun ρ h => .inl ⟨rfl, rfl⟩⟩
  · cases h1
    simp only [if_true] at hz
    have hlen : (zs.take len).length = len := by rw [List.length_take]; omega
    refine ⟨zs.take len, by omega, fun b hb => hwf b (List.mem_of_mem_take hb), fun ρ h => .inr ⟨a, cap, by rw [List.length_map, hlen], by rw [List.length_map, hlen]; exact hl, ?_, fun k c hk => ?_⟩⟩
    · rcases Nat.eq_zero_or_pos cap with h0 | h0
      · exact .inl h0
      · right
        have := hcell 0 (by omega)
        unfold World.cell? at this
        simp only [Addr.add, if_true] at this
        cases hs : a.spot with
        | none => rfl
        | some s =>
          rw [hs] at this
          split at this <;> simp at this
    · rw [flat_encU, List.getElem?_map] at hk
      obtain ⟨z, hz2, rfl⟩ := Option.map_eq_some_iff.1 hk
      have hk1 := (List.getElem?_eq_some_iff.1 hz2).1
      rw [List.getElem?_take, if_pos (by omega)] at hz2
      refine ⟨_, hcell k (by omega), ?_⟩
      rw [List.getD_eq_getElem?_getD, hz2]
      exact .int _ _
end
end Go.Pm
namespace Go.Pm.PP
open Go.Pm Go.Proofs
theorem follows : P.follows .mixedOrders = true := by kernel_rfl
theorem cells_u8 : P.cellsOf t_u8 = 1 := by kernel_rfl
theorem byte_of {b : Int} (h : (Lit.int .u8 b).wf = true) : 0 ≤ b ∧ b ≤ 255 := by
  simp [Lit.wf, IntKind.min, IntKind.max, IntKind.signed, IntKind.bits] at h
  omega
section
variable {H : Type} {enc : TypeId × Value → H} {W : World} {ρ : Mp} {h : Hp} {v : Value} {n0 : Nat} {x0 : DataW H × List MemPlace}
theorem open_bytes (R : Rel ρ h W) (ha : AllRo h) (d0 : DataW.trod enc P W 0 (fun _ => true) true n0 t_S_u8 [v] = some x0) :
    ∃ (h2 : Hp) (ρ2 : Mp) (p : Value) (xs : List Int), h <+: h2 ∧ Rel ρ2 h2 W ∧ AllRo h2 ∧ Step ρ h ρ2 h2 ∧ VR ρ2 h2 p v ∧ Sees h2 p 1 (xs.map encU) ∧ ∀ b, b ∈ xs → 0 ≤ b ∧ b ≤ 255 := by
  obtain ⟨xs, l0, hw, s0⟩ := shows_bytes (P := P) (v := v) u_S_u8 u_u8 cells_u8 d0
  obtain ⟨h2, ρ2, p, q, R2, a2, t, r, N⟩ := add_slice (w := W) (len_U xs) R ha (s0 ρ h)
  exact ⟨h2, ρ2, p, xs, q, R2, a2, t, r, N, fun b hb => byte_of (hw b hb)⟩
end
end Go.Pm.PP

/- Tables of truth values and their closures, in plain terms. -/
set_option linter.unusedVariables false
set_option linter.unusedSimpArgs false
namespace Go.Pm.PE
def tG (T : List (List Bool)) (a b : Nat) : Bool := (((T[a]?).getD [])[b]?).getD false
def tS (T : List (List Bool)) (a b : Nat) (x : Bool) : List (List Bool) := T.set a (((T[a]?).getD []).set b x)
structure TOk (n : Nat) (T : List (List Bool)) : Prop where
  len : T.length = n
  row : ∀ r, r ∈ T → r.length = n
theorem TOk.at {n : Nat} {T : List (List Bool)} (k : TOk n T) {a : Nat} (ha : a < n) : ∃ r, T[a]? = some r ∧ r.length = n := by
  obtain ⟨r, hr, _⟩ := drop_at (show a < T.length by rw [k.len]; exact ha)
  exact ⟨r, hr, k.row r (List.mem_of_getElem? hr)⟩
theorem TOk.cell {n : Nat} {T : List (List Bool)} (k : TOk n T) {a b : Nat} (ha : a < n) (hb : b < n) : ∃ r, T[a]? = some r ∧ r.length = n ∧ r[b]? = some (tG T a b) := by
  obtain ⟨r, hr, hl⟩ := k.at ha
  obtain ⟨x, hx, _⟩ := drop_at (show b < r.length by omega)
  exact ⟨r, hr, hl, by simp [tG, hr, hx]⟩
theorem TOk.set {n : Nat} {T : List (List Bool)} (k : TOk n T) {a b : Nat} {x : Bool} (ha : a < n) : TOk n (tS T a b x) := by
  obtain ⟨r, hr, hl⟩ := k.at ha
  refine ⟨by unfold tS; rw [List.length_set, k.len], fun q hq => ?_⟩
  unfold tS at hq
  rw [hr, Option.getD_some] at hq
  rcases List.mem_or_eq_of_mem_set hq with g | g
  · exact k.row q g
  · rw [g, List.length_set, hl]
/-! ### closures -/
def falT (n : Nat) : List (List Bool) := List.replicate n (List.replicate n false)
def edT (T : List (List Bool)) (es : List (Int × Int)) : List (List Bool) := es.foldl (fun T e => tS T e.1.toNat e.2.toNat true) T
def cst (k i : Nat) (T : List (List Bool)) (j : Nat) : List (List Bool) := tS T i j (tG T i j || (tG T i k && tG T k j))
def cJ (k i : Nat) (T : List (List Bool)) (l : List Nat) : List (List Bool) := l.foldl (cst k i) T
def cI (n k : Nat) (T : List (List Bool)) (l : List Nat) : List (List Bool) := l.foldl (fun T i => cJ k i T (List.range' 0 n)) T
def cK (n : Nat) (T : List (List Bool)) (l : List Nat) : List (List Bool) := l.foldl (fun T k => cI n k T (List.range' 0 n)) T
def clo (n : Nat) (es : List (Int × Int)) : List (List Bool) := cK n (edT (falT n) es) (List.range' 0 n)
end Go.Pm.PE

/- Orders by a vector of ends, in plain terms. -/
set_option linter.unusedVariables false
set_option linter.unusedSimpArgs false
namespace Go.Pm.PE
open Go.Pm.PP
def eAh (es : List Int) (a b : Int) : Bool := decide (gE es a.toNat < gE es b.toNat)
theorem eAh_weak {es : List Int} : Weak (eAh es) := ⟨fun h => by simp only [eAh, decide_eq_true_eq, decide_eq_false_iff_not] at h ⊢; omega, fun h1 h2 => by simp only [eAh, decide_eq_false_iff_not] at h1 h2 ⊢; omega⟩
def eP (es : List Int) (x y : Int) : Bool := decide (gE es y.toNat ≤ gE es x.toNat)
def eF (es : List Int) (xs : List Int) : List Int := xs.foldl (fun l x => insF (eP es x) x l) []
theorem eF_go {es : List Int} : ∀ {xs acc : List Int}, acc.Pairwise (Lex (eAh es)) → xs.Pairwise (· < ·) → (∀ a, a ∈ acc → ∀ x, x ∈ xs → a < x) → (xs.foldl (fun l x => insF (eP es x) x l) acc).Pairwise (Lex (eAh es)) ∧ (xs.foldl (fun l x => insF (eP es x) x l) acc).Perm (acc ++ xs)
  | [], acc, h, _, _ => by rw [List.foldl_nil, List.append_nil]; exact ⟨h, List.Perm.refl _⟩
  | x :: xs, acc, h, hs, ha => by
    rw [List.foldl_cons]
    have hs := List.pairwise_cons.1 hs
    have hp : (insF (eP es x) x acc).Perm (x :: acc) := insF_perm
    have hl : ∀ y, y ∈ acc → y < x := fun y hy => ha y hy x (List.mem_cons_self ..)
    have hr := insF_sorted (R := Lex (eAh es)) (p := eP es x) (x := x) h (fun y hy g => by
      have := hl y hy
      simp only [eP, decide_eq_true_eq] at g
      simp only [Lex, eAh, decide_eq_true_eq, decide_eq_false_iff_not]
      omega) (fun y hy g => by
      simp only [eP, decide_eq_false_iff_not] at g
      simp only [Lex, eAh, decide_eq_true_eq, decide_eq_false_iff_not]
      omega) (fun y z hy hz hr g => by
      simp only [eP, decide_eq_false_iff_not] at g ⊢
      simp only [Lex, eAh, decide_eq_true_eq, decide_eq_false_iff_not] at hr
      omega)
    have hq : (insF (eP es x) x acc ++ xs).Perm (acc ++ x :: xs) := ((hp.append_right xs).trans (by rw [List.cons_append])).trans List.perm_middle.symm
    obtain ⟨r1, r2⟩ := eF_go (xs := xs) hr hs.2 fun a hA y hy => by
      rcases List.mem_cons.1 (hp.mem_iff.1 hA) with rfl | g
      · exact hs.1 y hy
      · exact ha a g y (List.mem_cons_of_mem _ hy)
    exact ⟨r1, r2.trans hq⟩
theorem eF_eq {es xs : List Int} (h : xs.Pairwise (· < ·)) : eF es xs = sortB (eAh es) xs := by
  obtain ⟨h1, h2⟩ := eF_go (es := es) (xs := xs) (acc := []) List.Pairwise.nil h (fun a ha => by cases ha)
  exact sorted_eq (R := Lex (eAh es)) (fun a b => Lex.asymm eAh_weak) h1 (sortB_sorted eAh_weak h) (h2.trans sortB_perm.symm)
/-- Numbers put to their places, once. -/
def putI (l : List Int) (x : Int) : List Int := if l.any (· == x) = true then l else insF (fun y => decide (y < x)) x l
def ascF (xs : List Int) : List Int := xs.foldl putI []
theorem ascF_go : ∀ {xs acc : List Int}, acc.Pairwise (· < ·) → (acc ++ xs).Nodup → (xs.foldl putI acc).Pairwise (· < ·) ∧ (xs.foldl putI acc).Perm (acc ++ xs)
  | [], acc, h, _ => by rw [List.foldl_nil, List.append_nil]; exact ⟨h, List.Perm.refl _⟩
  | x :: xs, acc, h, hnd => by
    have hni : ∀ y, y ∈ acc → y ≠ x := fun y hy e => by
      subst e
      exact (List.nodup_append.1 hnd).2.2 y hy y (List.mem_cons_self ..) rfl
    have hna : acc.any (· == x) = false := by
      rw [List.any_eq_false]
      intro y hy
      simpa using hni y hy
    have e : putI acc x = insF (fun y => decide (y < x)) x acc := by unfold putI; rw [hna, if_neg (by simp)]
    rw [List.foldl_cons, e]
    have hp : (insF (fun y => decide (y < x)) x acc).Perm (x :: acc) := insF_perm
    have hr := insF_sorted (R := (· < ·)) (p := fun y => decide (y < x)) (x := x) h (fun y hy g => by simpa using g) (fun y hy g => by have := hni y hy; simp only [decide_eq_false_iff_not] at g; show x < y; omega) (fun y z hy hz hr g => by simp only [decide_eq_false_iff_not] at g ⊢; have : y < z := hr; omega)
    have hq : (insF (fun y => decide (y < x)) x acc ++ xs).Perm (acc ++ x :: xs) := ((hp.append_right xs).trans (by rw [List.cons_append])).trans List.perm_middle.symm
    obtain ⟨r1, r2⟩ := ascF_go (xs := xs) hr (hq.nodup_iff.2 hnd)
    exact ⟨r1, r2.trans hq⟩
end Go.Pm.PE

/- The order that is found from its end under a limit of lateness, in plain terms: it is there if any order keeps to the limit, and then it has the least sum of ends of all these. -/
set_option linter.unusedVariables false
set_option linter.unusedSimpArgs false
namespace Go.Pm.PE
open Go.Pm.PP
section
variable (t d : Int → Int) (lim : Int)
def smG : Int → List Int → Int
  | _, [] => 0
  | now, x :: r => (now + t x) + smG (now + t x) r
def okG : Int → List Int → Bool
  | _, [] => true
  | now, x :: r => decide (now + t x ≤ d x + lim) && okG (now + t x) r
def tsm (l : List Int) : Int := (l.map t).sum
def bkP (e : Int) (left : List Int) : Int := left.foldl (fun b i => if e ≤ d i + lim ∧ (b < 0 ∨ t b ≤ t i) then i else b) (-1)
def bkF : Nat → List Int → Option (List Int)
  | 0, _ => some []
  | n + 1, left => if bkP t d lim (tsm t left) left < 0 then none else (bkF n (left.filter fun x => !(x == bkP t d lim (tsm t left) left))).map (· ++ [bkP t d lim (tsm t left) left])
end
section
variable {t d : Int → Int} {lim : Int}
theorem tsm_app {A C : List Int} : tsm t (A ++ C) = tsm t A + tsm t C := by simp [tsm]
theorem tsm_cons {x : Int} {C : List Int} : tsm t (x :: C) = t x + tsm t C := by simp [tsm]
theorem tsm_perm {l l' : List Int} (h : l.Perm l') : tsm t l = tsm t l' := sum_perm (h.map _)
theorem smG_app : ∀ {A C : List Int} {now : Int}, smG t now (A ++ C) = smG t now A + smG t (now + tsm t A) C
  | [], C, now => by simp [smG, tsm]
  | x :: A, C, now => by
    simp only [List.cons_append, smG, tsm_cons]
    rw [smG_app, show now + t x + tsm t A = now + (t x + tsm t A) by omega]; omega
theorem okG_app : ∀ {A C : List Int} {now : Int}, okG t d lim now (A ++ C) = (okG t d lim now A && okG t d lim (now + tsm t A) C)
  | [], C, now => by simp [okG, tsm]
  | x :: A, C, now => by
    simp only [List.cons_append, okG, tsm_cons]
    rw [okG_app, show now + t x + tsm t A = now + (t x + tsm t A) by omega, Bool.and_assoc]
theorem smG_mono : ∀ {C : List Int} {a b : Int}, a ≤ b → smG t a C ≤ smG t b C
  | [], _, _, _ => by simp [smG]
  | x :: C, a, b, h => by
    have := smG_mono (C := C) (a := a + t x) (b := b + t x) (by omega)
    simp only [smG]; omega
theorem okG_mono : ∀ {C : List Int} {a b : Int}, a ≤ b → okG t d lim b C = true → okG t d lim a C = true
  | [], _, _, _, _ => rfl
  | x :: C, a, b, h, e => by
    simp only [okG, Bool.and_eq_true, decide_eq_true_eq] at e ⊢
    exact ⟨by omega, okG_mono (by omega) e.2⟩
theorem bkP_go {e : Int} : ∀ {l : List Int} {b : Int}, (∀ x, x ∈ l → 0 ≤ x) → (b < 0 ∨ e ≤ d b + lim) → let q := l.foldl (fun b i => if e ≤ d i + lim ∧ (b < 0 ∨ t b ≤ t i) then i else b) b
    (q < 0 → b < 0 ∧ ∀ x, x ∈ l → ¬ e ≤ d x + lim) ∧ (0 ≤ q → (q = b ∨ q ∈ l) ∧ e ≤ d q + lim ∧ (0 ≤ b → t b ≤ t q) ∧ ∀ x, x ∈ l → e ≤ d x + lim → t x ≤ t q)
  | [], b, _, hb => by
    refine ⟨fun h => ⟨h, fun x hx => by cases hx⟩, fun h => ⟨.inl rfl, ?_, fun _ => Int.le_refl _, fun x hx => by cases hx⟩⟩
    simp only [List.foldl_nil] at h ⊢
    omega
  | y :: l, b, hl, hb => by
    simp only [List.foldl_cons]
    have hy := hl y (List.mem_cons_self ..)
    by_cases c : e ≤ d y + lim ∧ (b < 0 ∨ t b ≤ t y)
    · rw [if_pos c]
      obtain ⟨g1, g2⟩ := bkP_go (e := e) (l := l) (b := y) (fun x hx => hl x (List.mem_cons_of_mem _ hx)) (.inr c.1)
      refine ⟨fun h => by have := (g1 h).1; omega, fun h => ?_⟩
      obtain ⟨k1, k2, k3, k4⟩ := g2 h
      refine ⟨.inr ?_, k2, fun h0 => ?_, fun x hx hd => ?_⟩
      · rcases k1 with k1 | k1
        · rw [k1]; exact List.mem_cons_self ..
        · exact List.mem_cons_of_mem _ k1
      · have := k3 hy; omega
      · rcases List.mem_cons.1 hx with rfl | hx
        · exact k3 hy
        · exact k4 x hx hd
    · rw [if_neg c]
      obtain ⟨g1, g2⟩ := bkP_go (e := e) (l := l) (b := b) (fun x hx => hl x (List.mem_cons_of_mem _ hx)) hb
      refine ⟨fun h => ⟨(g1 h).1, fun x hx hd => ?_⟩, fun h => ?_⟩
      · rcases List.mem_cons.1 hx with rfl | hx
        · exact c ⟨hd, .inl (g1 h).1⟩
        · exact (g1 h).2 x hx hd
      · obtain ⟨k1, k2, k3, k4⟩ := g2 h
        refine ⟨?_, k2, k3, fun x hx hd => ?_⟩
        · rcases k1 with k1 | k1
          · exact .inl k1
          · exact .inr (List.mem_cons_of_mem _ k1)
        · rcases List.mem_cons.1 hx with rfl | hx
          · have : ¬ (b < 0 ∨ t b ≤ t x) := fun g => c ⟨hd, g⟩
            have := k3 (by omega)
            omega
          · exact k4 x hx hd
theorem bkP_neg {e : Int} {l : List Int} (hl : ∀ x, x ∈ l → 0 ≤ x) (h : bkP t d lim e l < 0) : ∀ x, x ∈ l → ¬ e ≤ d x + lim := ((bkP_go (t := t) hl (.inl (by omega))).1 h).2
theorem bkP_pos {e : Int} {l : List Int} (hl : ∀ x, x ∈ l → 0 ≤ x) (h : ¬ bkP t d lim e l < 0) : bkP t d lim e l ∈ l ∧ e ≤ d (bkP t d lim e l) + lim ∧ ∀ x, x ∈ l → e ≤ d x + lim → t x ≤ t (bkP t d lim e l) := by
  obtain ⟨k1, k2, _, k4⟩ := (bkP_go (t := t) (d := d) (lim := lim) (e := e) (b := -1) hl (.inl (by omega))).2 (by unfold bkP at h; omega)
  refine ⟨?_, k2, k4⟩
  rcases k1 with k1 | k1
  · unfold bkP at h; omega
  · exact k1
theorem filter_del {l : List Int} {b : Int} (hn : l.Nodup) (hb : b ∈ l) : l.Perm (b :: l.filter fun x => !(x == b)) := by
  induction l with
  | nil => cases hb
  | cons y l ih =>
    obtain ⟨h1, h2⟩ := List.nodup_cons.1 hn
    by_cases c : y = b
    · subst c
      rw [List.filter_cons]
      simp only [BEq.rfl, Bool.not_true, Bool.false_eq_true, if_false]
      rw [List.filter_eq_self.2]
      intro a ha
      have : ¬ a = y := fun g => h1 (g ▸ ha)
      simpa using this
    · rw [List.filter_cons, if_pos (by simpa using c)]
      have hb' : b ∈ l := by
        rcases List.mem_cons.1 hb with g | g
        · exact absurd g.symm c
        · exact g
      exact ((ih h2 hb').cons y).trans (List.Perm.swap ..)
/-- What is exchanged: the one that is chosen takes the last place. -/
theorem back_exch (ht : ∀ x, 0 ≤ t x) {r : List Int} {l b : Int} (hb : b ∈ r ++ [l]) (hle : t l ≤ t b) (hok : okG t d lim 0 (r ++ [l]) = true) : ∃ r', (b :: r').Perm (r ++ [l]) ∧ okG t d lim 0 r' = true ∧ smG t 0 r' ≤ smG t 0 r := by
  rw [okG_app, Bool.and_eq_true] at hok
  by_cases c : b = l
  · subst c
    exact ⟨r, List.perm_append_comm (l₁ := [b]), hok.1, Int.le_refl _⟩
  · have hbr : b ∈ r := by
      rcases List.mem_append.1 hb with g | g
      · exact g
      · exact absurd (by simpa using g) c
    obtain ⟨A, B, rfl⟩ := List.append_of_mem hbr
    refine ⟨A ++ l :: B, ?_, ?_, ?_⟩
    · have e1 : (A ++ l :: B).Perm (l :: (A ++ B)) := List.perm_middle
      have e2 : (A ++ b :: B ++ [l]).Perm (b :: (A ++ (B ++ [l]))) := by
        rw [List.append_assoc, List.cons_append]; exact List.perm_middle
      refine ((e1.trans ?_).cons b).trans e2.symm
      rw [← List.append_assoc]
      exact List.perm_append_comm (l₁ := [l]) (l₂ := A ++ B)
    · obtain ⟨h1, h2⟩ := hok
      rw [okG_app, Bool.and_eq_true] at h1 ⊢
      refine ⟨h1.1, ?_⟩
      have h3 := h1.2
      simp only [okG, Bool.and_eq_true, decide_eq_true_eq, tsm_app, tsm_cons, Bool.and_true] at h2 h3 ⊢
      have hB : 0 ≤ tsm t B := by
        have : ∀ C : List Int, 0 ≤ tsm t C := fun C => by
          induction C with
          | nil => simp [tsm]
          | cons y C ih => rw [tsm_cons]; have := ht y; omega
        exact this B
      have := ht b
      exact ⟨by omega, okG_mono (by omega) h3.2⟩
    · rw [smG_app, smG_app]
      simp only [smG]
      have := smG_mono (t := t) (C := B) (a := 0 + tsm t A + t l) (b := 0 + tsm t A + t b) (by omega)
      omega
theorem snoc_of {α : Type} {xs : List α} (h : xs ≠ []) : ∃ r x, xs = r ++ [x] := ⟨xs.dropLast, xs.getLast h, (List.dropLast_concat_getLast h).symm⟩
theorem bkF_spec (ht : ∀ x, 0 ≤ t x) : ∀ {n : Nat} {left : List Int}, left.length = n → left.Nodup → (∀ x, x ∈ left → 0 ≤ x) →
    (bkF t d lim n left = none → ∀ s, s.Perm left → okG t d lim 0 s = false) ∧
    ∀ o, bkF t d lim n left = some o → o.Perm left ∧ okG t d lim 0 o = true ∧ ∀ s, s.Perm left → okG t d lim 0 s = true → smG t 0 o ≤ smG t 0 s
  | 0, left, hl, _, _ => by
    obtain rfl : left = [] := List.length_eq_zero_iff.1 hl
    refine ⟨fun h => by simp [bkF] at h, fun o ho => ?_⟩
    simp only [bkF, Option.some.injEq] at ho
    subst ho
    refine ⟨List.Perm.refl _, rfl, fun s hs _ => ?_⟩
    rw [hs.eq_nil]; exact Int.le_refl _
  | n + 1, left, hl, hnd, h0 => by
    generalize hb : bkP t d lim (tsm t left) left = b
    generalize hL : left.filter (fun x => !(x == b)) = left'
    have hF : bkF t d lim (n + 1) left = if b < 0 then none else (bkF t d lim n left').map (· ++ [b]) := by simp only [bkF, hb, hL]
    rw [hF]
    have last : ∀ s, s.Perm left → okG t d lim 0 s = true → ∃ r l, s = r ++ [l] ∧ tsm t left ≤ d l + lim ∧ l ∈ left := fun s hs hok => by
      obtain ⟨r, l, rfl⟩ := snoc_of (xs := s) (by rintro rfl; have := hs.length_eq; simp at this; omega)
      refine ⟨r, l, rfl, ?_, hs.subset (by simp)⟩
      rw [okG_app, Bool.and_eq_true] at hok
      have h2 := hok.2
      simp only [okG, Bool.and_true, decide_eq_true_eq] at h2
      rw [← tsm_perm hs, tsm_app]
      simp only [tsm_cons, show tsm t [] = 0 from rfl]
      omega
    by_cases c : b < 0
    · rw [if_pos c]
      refine ⟨fun _ s hs => ?_, fun o ho => by cases ho⟩
      cases hok : okG t d lim 0 s
      · rfl
      obtain ⟨r, l, rfl, h2, hm⟩ := last s hs hok
      exact absurd h2 (bkP_neg h0 (by rw [hb]; exact c) l hm)
    · rw [if_neg c]
      obtain ⟨p1, p2, p3⟩ := bkP_pos (t := t) (d := d) (lim := lim) (e := tsm t left) h0 (by rw [hb]; exact c)
      rw [hb] at p1 p2 p3
      have hp : left.Perm (b :: left') := by rw [← hL]; exact filter_del hnd p1
      have hl' : left'.length = n := by have := hp.length_eq; simp at this; omega
      have hnd' : left'.Nodup := by rw [← hL]; exact hnd.sublist List.filter_sublist
      have h0' : ∀ x, x ∈ left' → 0 ≤ x := fun x hx => h0 x (by rw [← hL] at hx; exact (List.mem_filter.1 hx).1)
      obtain ⟨i1, i2⟩ := bkF_spec ht hl' hnd' h0'
      have key : ∀ s, s.Perm left → okG t d lim 0 s = true → ∃ r', r'.Perm left' ∧ okG t d lim 0 r' = true ∧ smG t 0 r' + tsm t left ≤ smG t 0 s := fun s hs hok => by
        obtain ⟨r, l, rfl, h2, hm⟩ := last s hs hok
        obtain ⟨r', q1, q2, q3⟩ := back_exch ht (hs.symm.subset p1) (p3 l hm h2) hok
        refine ⟨r', List.Perm.cons_inv (a := b) ((q1.trans hs).trans hp), q2, ?_⟩
        rw [← tsm_perm hs, smG_app, tsm_app]
        simp only [smG, tsm_cons, show tsm t [] = 0 from rfl]
        omega
      refine ⟨fun h s hs => ?_, fun o ho => ?_⟩
      · cases hok : okG t d lim 0 s
        · rfl
        obtain ⟨r', q1, q2, _⟩ := key s hs hok
        have := i1 (by cases g : bkF t d lim n left' with
          | none => rfl
          | some o => rw [g] at h; cases h) r' q1
        rw [this] at q2; cases q2
      · obtain ⟨o', ho', rfl⟩ := Option.map_eq_some_iff.1 ho
        obtain ⟨j1, j2, j3⟩ := i2 o' ho'
        have hpo : (o' ++ [b]).Perm left := (List.perm_append_comm.trans ((j1.cons b : (b :: o').Perm (b :: left')) : ([b] ++ o').Perm (b :: left'))).trans hp.symm
        have ht' : tsm t o' + t b = tsm t left := by rw [← tsm_perm hpo, tsm_app, tsm_cons]; simp [tsm]
        refine ⟨hpo, ?_, fun s hs hok => ?_⟩
        · rw [okG_app, j2]
          simp only [okG, Bool.and_true, Bool.true_and, decide_eq_true_eq]
          omega
        · obtain ⟨r', q1, q2, q3⟩ := key s hs hok
          have := j3 r' q1 q2
          rw [smG_app]
          simp only [smG]
          omega
end
/-- Two lists without dominated points that cover each other are the same. -/
theorem sorted_eqP {R : Pt → Pt → Prop} (hR : ∀ a b, R a b → R b a → False) : ∀ {l l' : List Pt}, l.Pairwise R → l'.Pairwise R → l.Perm l' → l = l'
  | [], l', _, _, h => (h.symm.eq_nil).symm
  | x :: l, [], _, _, h => by have := h.length_eq; simp at this
  | x :: l, y :: l', h1, h2, h => by
    obtain ⟨a1, a2⟩ := List.pairwise_cons.1 h1
    obtain ⟨b1, b2⟩ := List.pairwise_cons.1 h2
    have e : x = y := by
      rcases List.mem_cons.1 (h.subset (List.mem_cons_self ..)) with g | g
      · exact g
      · rcases List.mem_cons.1 (h.symm.subset (List.mem_cons_self ..)) with k | k
        · exact k.symm
        · exact (hR _ _ (a1 _ k) (b1 _ g)).elim
    subst e
    rw [sorted_eqP hR a2 b2 h.cons_inv]
theorem front_uniq {F F' : List Pt} (s : Srt F) (s' : Srt F') (h : ∀ q, q ∈ F → ∃ r, r ∈ F' ∧ r.1 ≤ q.1 ∧ r.2 ≤ q.2) (h' : ∀ q, q ∈ F' → ∃ r, r ∈ F ∧ r.1 ≤ q.1 ∧ r.2 ≤ q.2) : F = F' := by
  have nd : ∀ {G : List Pt}, Srt G → G.Nodup := fun sg => sg.imp fun {a b} g e => by subst e; omega
  have anti : ∀ {G : List Pt}, Srt G → ∀ a b, a ∈ G → b ∈ G → a.1 ≤ b.1 → a.2 ≤ b.2 → a = b := by
    intro G sg a b ha hb h1 h2
    obtain ⟨i, hi⟩ := List.getElem?_of_mem ha
    obtain ⟨j, hj⟩ := List.getElem?_of_mem hb
    obtain ⟨hi', ei⟩ := List.getElem?_eq_some_iff.1 hi
    obtain ⟨hj', ej⟩ := List.getElem?_eq_some_iff.1 hj
    have P := List.pairwise_iff_getElem.1 sg
    rcases Nat.lt_trichotomy i j with g | g | g
    · have := P i j hi' hj' g; rw [ei, ej] at this; omega
    · subst g; rw [← ei, ← ej]
    · have := P j i hj' hi' g; rw [ei, ej] at this; omega
  have sub : ∀ {F F' : List Pt}, Srt F → (∀ q, q ∈ F → ∃ r, r ∈ F' ∧ r.1 ≤ q.1 ∧ r.2 ≤ q.2) → (∀ q, q ∈ F' → ∃ r, r ∈ F ∧ r.1 ≤ q.1 ∧ r.2 ≤ q.2) → ∀ q, q ∈ F → q ∈ F' := by
    intro F F' s h h' q hq
    obtain ⟨r, hr, r1, r2⟩ := h q hq
    obtain ⟨u, hu, u1, u2⟩ := h' r hr
    have e := anti s u q hu hq (by omega) (by omega)
    subst e
    have : r = u := Prod.ext (by omega) (by omega)
    rw [← this]; exact hr
  exact sorted_eqP (R := fun a b => a.1 < b.1 ∧ b.2 < a.2) (fun a b h1 h2 => by omega) s s' ((List.perm_ext_iff_of_nodup (nd s) (nd s')).2 fun q => ⟨sub s h h' q, sub s' h' h q⟩)
end Go.Pm.PE

/- The front of sums and lateness from the ends of orders, in plain terms. -/
set_option linter.unusedVariables false
set_option linter.unusedSimpArgs false
set_option maxRecDepth 4000
namespace Go.Pm.PP
open Go.Pm Go.Proofs Go.Pm.PE
def tJ (js : List Job) (x : Int) : Int := (jA js x).t
def dJ (js : List Job) (x : Int) : Int := (jA js x).d
def backX (js : List Job) (lim : Int) : Option (List Int) := bkF (tJ js) (dJ js) lim js.length (upTo js.length)
theorem sum_smG {js : List Job} (p : Pl js) : ∀ {xs : List Int} {now : Int}, 0 ≤ now → sumGo 2 js now xs = smG (tJ js) now xs
  | [], _, _ => rfl
  | x :: r, now, h => by
    have := p.t x
    rw [sumGo, smG, p.endAt h, sum_smG p (by omega)]
    simp [costV, tJ]
theorem okG_timD {js : List Job} {lim : Int} : ∀ {xs : List Int} {now : Int}, okG (tJ js) (dJ js) lim now xs = timD js lim now xs
  | [], _ => rfl
  | x :: r, now => by rw [okG, timD, okG_timD]; rfl
theorem val_smG {js : List Job} (hok : plOk js = true) {xs : List Int} (o : Ord js.length xs) : valX 2 js xs = smG (tJ js) 0 xs := by
  unfold valX
  rw [val_sum (by omega) (by omega) (ord_prm o), sum_smG (plOk_pl hok) (Int.le_refl 0)]
theorem val_okG {js : List Job} (hok : plOk js = true) {xs : List Int} (o : Ord js.length xs) (hne : 0 < js.length) {lim : Int} (hl : -(2 ^ 20) ≤ lim) : okG (tJ js) (dJ js) lim 0 xs = true ↔ valX 4 js xs ≤ lim := by
  rw [valX_lat hok o hne, okG_timD]
  exact timD_lat (plOk_pl hok) (Int.le_refl 0) hl
theorem back_facts {js : List Job} (hok : plOk js = true) (hne : 0 < js.length) {lim : Int} (hl : -(2 ^ 20) ≤ lim) :
    (backX js lim = none → ∀ xs, Ord js.length xs → lim < valX 4 js xs) ∧
    ∀ o, backX js lim = some o → Ord js.length o ∧ valX 4 js o ≤ lim ∧ ∀ xs, Ord js.length xs → valX 4 js xs ≤ lim → valX 2 js o ≤ valX 2 js xs := by
  obtain ⟨h1, h2⟩ := bkF_spec (t := tJ js) (d := dJ js) (lim := lim) (plOk_pl hok).t (n := js.length) (left := upTo js.length) (upTo_len _) (upTo_nodup _) fun x hx => (mem_upTo.1 hx).1
  refine ⟨fun h xs ox => ?_, fun o ho => ?_⟩
  · have := h1 h xs (ord_perm ox)
    refine Int.not_le.1 fun g => ?_
    rw [(val_okG hok ox hne hl).2 g] at this
    cases this
  · obtain ⟨p1, p2, p3⟩ := h2 o ho
    have oo := ord_of_perm p1
    refine ⟨oo, (val_okG hok oo hne hl).1 p2, fun xs ox hx => ?_⟩
    rw [val_smG hok oo, val_smG hok ox]
    exact p3 xs (ord_perm ox) ((val_okG hok ox hne hl).2 hx)
/-- What holds of the front that has been found down to a limit. -/
structure LInv (js : List Job) (lim : Int) (F : List Pt) : Prop where
  srt : Srt F
  pt : ∀ q, q ∈ F → ∃ xs, Ord js.length xs ∧ ptX 2 4 js xs = q
  cov : ∀ xs, Ord js.length xs → lim < valX 4 js xs → ∃ q, q ∈ F ∧ q.1 ≤ valX 2 js xs ∧ q.2 ≤ valX 4 js xs
theorem LInv.step {js : List Job} {lim : Int} {F : List Pt} (hok : plOk js = true) (hne : 0 < js.length) (hl : -(2 ^ 20) ≤ lim) (I : LInv js lim F) {o : List Int} (ho : backX js lim = some o) : LInv js (valX 4 js o - 1) (putF F (ptX 2 4 js o)) := by
  obtain ⟨oo, h1, h2⟩ := (back_facts hok hne hl).2 o ho
  refine ⟨putF_srt I.srt, fun q hq => ?_, fun xs ox hx => ?_⟩
  · rcases putF_mem hq with rfl | g
    · exact ⟨o, oo, rfl⟩
    · exact I.pt q g
  · by_cases c : lim < valX 4 js xs
    · exact putF_cover (r := ptX 2 4 js xs) (.inr (I.cov xs ox c))
    · obtain ⟨q, hq, q1, q2⟩ := putF_cover (F := F) (p := ptX 2 4 js o) (r := ptX 2 4 js o) (.inl rfl)
      have e1 : (ptX 2 4 js o).1 = valX 2 js o := rfl
      have e2 : (ptX 2 4 js o).2 = valX 4 js o := rfl
      have := h2 xs ox (by omega)
      exact ⟨q, hq, by omega, by omega⟩
theorem LInv.all {js : List Job} {lim : Int} {F : List Pt} (hok : plOk js = true) (I : LInv js lim F) (h : ∀ xs, Ord js.length xs → lim < valX 4 js xs) : F = frontR 2 4 js := by
  obtain ⟨hn, _, _⟩ := plOk_of hok
  obtain ⟨s, m, c⟩ := front_facts (f := 2) (g := 4) (js := js) hn
  refine front_uniq I.srt s (fun q hq => ?_) fun q hq => ?_
  · obtain ⟨xs, ox, rfl⟩ := I.pt q hq
    exact c xs ox
  · obtain ⟨xs, ox, rfl⟩ := m q hq
    exact I.cov xs ox (h xs ox)
theorem LInv.stop {js : List Job} {lim : Int} {F : List Pt} (hok : plOk js = true) (hne : 0 < js.length) (hl : -(2 ^ 20) ≤ lim) (I : LInv js lim F) (hb : backX js lim = none) : F = frontR 2 4 js := I.all hok ((back_facts hok hne hl).1 hb)
/-- No job at all. -/
theorem front_nil {js : List Job} (h0 : js.length = 0) : putF [] (ptX 2 4 js []) = frontR 2 4 js := by
  obtain rfl : js = [] := List.length_eq_zero_iff.1 h0
  obtain ⟨s, m, c⟩ := front_facts (f := 2) (g := 4) (js := []) (by simp)
  have on : Ord (List.length ([] : List Job)) [] := ⟨rfl, fun x hx => (by cases hx), List.nodup_nil⟩
  refine front_uniq (putF_srt List.Pairwise.nil) s (fun q hq => ?_) fun q hq => ?_
  · rcases putF_mem hq with rfl | g
    · exact c [] on
    · cases g
  · obtain ⟨xs, ox, rfl⟩ := m q hq
    obtain rfl : xs = [] := List.length_eq_zero_iff.1 ox.len
    exact putF_cover (F := []) (.inl rfl)
theorem lat_bd {js : List Job} (hok : plOk js = true) (hne : 0 < js.length) {xs : List Int} (ox : Ord js.length xs) : -500 ≤ valX 4 js xs ∧ valX 4 js xs ≤ 400 := by
  obtain ⟨hn, hg, _⟩ := plOk_of hok
  have p := plOk_pl hok
  have up : ∀ {xs : List Int} {now : Int}, inN js.length xs → 0 ≤ now → now + 50 * xs.length ≤ 400 → okG (tJ js) (dJ js) 400 now xs = true := by
    intro xs
    induction xs with
    | nil => intro now _ _ _; rfl
    | cons x r ih =>
      intro now hi h0 h1
      have hx := hi x (List.mem_cons_self ..)
      have k := jobOk_jA hg hx
      simp only [jobOk, inB, Bool.and_eq_true, decide_eq_true_eq] at k
      simp only [List.length_cons] at h1
      rw [okG, Bool.and_eq_true, decide_eq_true_eq]
      have := ih (now := now + (jA js x).t) (fun y hy => hi y (List.mem_cons_of_mem _ hy)) (by omega) (by push_cast at h1; omega)
      refine ⟨?_, this⟩
      push_cast at h1
      show now + (jA js x).t ≤ (jA js x).d + 400
      omega
  refine ⟨?_, (val_okG hok ox hne (by omega)).1 (up ox.inn (Int.le_refl 0) (by rw [ox.len]; omega))⟩
  refine Int.not_lt.1 fun g => ?_
  have := (val_okG hok ox hne (lim := -501) (by omega)).2 (by omega)
  cases xs with
  | nil => have := ox.len; simp at this; omega
  | cons x r =>
    have hx := ox.inn x (List.mem_cons_self ..)
    have k := jobOk_jA hg hx
    simp only [jobOk, inB, Bool.and_eq_true, decide_eq_true_eq] at k
    rw [okG, Bool.and_eq_true, decide_eq_true_eq] at this
    have h1 : 0 + (jA js x).t ≤ (jA js x).d + -501 := this.1
    omega
theorem LInv.init {js : List Job} (hok : plOk js = true) (hne : 0 < js.length) : LInv js 400 [] := ⟨List.Pairwise.nil, fun q hq => (by cases hq), fun xs ox h => by have := (lat_bd hok hne ox).2; omega⟩
/-- The order and the best one under the limit. -/
theorem back_under {js : List Job} (hok : plOk js = true) (hne : 0 < js.length) {lim : Int} (hl : -(2 ^ 20) ≤ lim) :
    (∀ o, backX js lim = some o → Ord js.length o ∧ valX 4 js o ≤ lim ∧ undO js 2 4 lim = true ∧ Ord js.length (undF js 2 4 lim) ∧ valX 2 js o = valX 2 js (undF js 2 4 lim)) ∧ (backX js lim = none → undO js 2 4 lim = false) := by
  obtain ⟨hn, hg, _⟩ := plOk_of hok
  have a2 : aTwo js 2 4 = true := by
    have h1 : jOk js = true := by rw [plOk, Bool.and_eq_true] at hok; exact hok.1
    simp [aTwo, h1, inB]
  obtain ⟨b1, b2⟩ := back_facts hok hne hl
  unfold undO undF
  rw [a2, if_pos rfl, Bool.true_and]
  refine ⟨fun o ho => ?_, fun h => ?_⟩
  · obtain ⟨oo, h1, h2⟩ := b2 o ho
    rcases @undG_facts js 2 4 lim with ⟨_, g⟩ | ⟨g1, g2, g3, g4⟩
    · have := g o oo; omega
    · refine ⟨oo, h1, by rw [g1]; rfl, g3, ?_⟩
      have := h2 _ g3 g2
      have := g4 _ oo h1
      omega
  · rcases @undG_facts js 2 4 lim with ⟨g, _⟩ | ⟨g1, g2, g3, g4⟩
    · rw [g]; rfl
    · have := b1 h _ g3; omega
end Go.Pm.PP

/- The order that is found from its end, and the front that is found by it, of both. -/
set_option linter.unusedVariables false
set_option linter.unusedSimpArgs false
set_option maxRecDepth 4000
set_option maxHeartbeats 16000000
namespace Go.Pm.PP
open Go.Pm Go.Proofs Go.Pm.PE
def rat1 (js : List Job) (xs : List Int) : Pt := ((xs.map fun x => (jA js x).w).sum, (xs.map fun x => (jA js x).t).sum)
theorem rat_take {js : List Job} {xs : List Int} {i : Nat} {y : Int} (hy : xs[i]? = some y) : rat1 js (xs.take (i + 1)) = ((rat1 js (xs.take i)).1 + (jA js y).w, (rat1 js (xs.take i)).2 + (jA js y).t) := by
  unfold rat1; rw [take_succ' hy]; simp
theorem jw_bd {js : List Job} (hg : goodL js = true) (x : Int) : 0 ≤ (jA js x).w ∧ (jA js x).w ≤ 50 := by
  by_cases h : 0 ≤ x ∧ x < js.length
  · have k := jobOk_jA hg h
    simp only [jobOk, inB, Bool.and_eq_true, decide_eq_true_eq] at k
    omega
  · have e : jA js x = ⟨0, 0, 0, 0⟩ ∨ ∃ i, x.toNat = i ∧ ∃ y, js[i]? = some y ∧ jA js x = y := by
      unfold jA
      cases hx : js[x.toNat]? with
      | none => left; rfl
      | some y => right; exact ⟨_, rfl, y, hx, rfl⟩
    rcases e with e | ⟨i, hi, y, hy, e⟩
    · rw [e]; simp
    · rw [e]
      have k := job_at hg hy
      simp only [jobOk, inB, Bool.and_eq_true, decide_eq_true_eq] at k
      omega
theorem rat_bd {js : List Job} (hg : goodL js = true) : ∀ {xs : List Int}, (0 ≤ (rat1 js xs).1 ∧ (rat1 js xs).1 ≤ xs.length * 50) ∧ 0 ≤ (rat1 js xs).2 ∧ (rat1 js xs).2 ≤ xs.length * 2 ^ 20
  | [] => by simp [rat1]
  | x :: xs => by
    have ih := rat_bd hg (xs := xs)
    have h1 := jw_bd hg x
    have h2 := (good_bd hg).t x
    have e : rat1 js (x :: xs) = ((jA js x).w + (rat1 js xs).1, (jA js x).t + (rat1 js xs).2) := by simp [rat1]
    rw [e, List.length_cons]
    simp only
    omega
theorem _root_.Go.Pm.Holds.litI {h0 h : Hp} {L : List Asn} (H : Holds h0 h L) (xs : List Int) : Holds h0 (h ++ [some ⟨xs.map fun x => .int .i64 x, 1, false⟩]) (L ++ [.own (.slice (some ⟨h.length, 0, some xs.length⟩) xs.length xs.length) 1 (xs.map encI)]) := by
  have e : (xs.map encI).flatten = xs.map fun x => Value.int .i64 x := by
    induction xs with
    | nil => rfl
    | cons x xs ih => rw [List.map_cons, List.flatten_cons, ih]; rfl
  have := H.lit (sz := 1) (n := xs.length) (els := xs.map encI) (len_I xs) (by simp)
  rw [e, List.length_map] at this
  exact this
theorem nil_L {h : Hp} : Ints h (.slice none 0 0) ([] : List Int) := ⟨by simp, none, 0, rfl, .inl ⟨rfl, rfl, rfl⟩⟩
section
variable {h : Hp} {vj v u : Value} {js : List Job} {xs ys : List Int} {lim : Int}
theorem l4Sums_run (J : Jobs h vj js) (X : Ints h v xs) (hin : inN js.length xs) (hg : goodL js = true) (hx : xs.length ≤ 2 ^ 10) : Ret P G n_spec_l4Sums [vj, v] h (ptv (rat1 js xs)) h := by
  refine enter_run e_spec_l4Sums (by simp) ?_
  have Js := J
  have Xs := X
  obtain ⟨oj, cj, rfl⟩ := J.shapeT
  obtain ⟨oa, ca, rfl⟩ := X.shapeT
  have H0 := ((Holds.start (h := h)).alloc [.int .i64 0, .int .i64 0]).alloc [.int .i64 0, .int .i64 0]
  simp only [List.append_assoc, List.cons_append, List.nil_append, List.length_append, List.length_cons, List.length_nil, Nat.zero_add] at H0
  simp -implicitDefEqProofs
  refine R_loopO (fun m s h' => ∃ (i : Nat), i + m = xs.length ∧ s = [(0, .slice oj js.length cj), (1, .slice oa xs.length ca), (4, .pointer (some ⟨h.length, 0, some 2⟩)), (5, .pointer (some ⟨h.length + 1, 0, some 2⟩)), (6, .int .i64 i)] ∧ Holds h h' [.box h.length [.int .i64 0, .int .i64 0], .box (h.length + 1) [.int .i64 (rat1 js (xs.take i)).1, .int .i64 (rat1 js (xs.take i)).2]]) (fun I hI m s h' => ?_) (n := xs.length)
    ⟨0, Nat.zero_add _, by simp, by simpa [rat1] using H0⟩
  rintro ⟨i, hi, rfl, H⟩
  have l1 := H.bl (P := P) 1 2 rfl rfl
  by_cases hlt : i < xs.length
  · have hlt' : (i : Int) < xs.length := by omega
    obtain ⟨y, hy, _⟩ := drop_at hlt
    have ly := load_I (Xs.pre H.pre) hy
    have lj := load_JX (Js.pre H.pre) (hin y (List.mem_of_getElem? hy))
    have rt := rat_take (js := js) hy
    have rb := rat_bd hg (xs := xs.take i)
    have b1 := jw_bd hg y
    have b2 := (good_bd hg).t y
    have tl : (xs.take i).length ≤ 2 ^ 10 := by rw [List.length_take]; omega
    obtain ⟨⟨a, b⟩, hab⟩ : ∃ p, p = rat1 js (xs.take i) := ⟨_, rfl⟩
    rw [← hab] at rt rb H l1
    have w1 : IntKind.i64.wrap (a + (jA js y).w) = a + (jA js y).w := by rw [wrap_ok] <;> simp only at rb <;> omega
    have w2 : IntKind.i64.wrap (b + (jA js y).t) = b + (jA js y).t := by rw [wrap_ok] <;> simp only at rb <;> omega
    obtain ⟨h2, s2, H2, _⟩ := H.set (P := P) 1 (n := 2) (o := 0) (ty := t_A2_int) (w := ptv (rat1 js (xs.take (i + 1)))) rfl rfl e_t_A2_int (by simp) (by simp) (by simp)
    have s2' : storeP P h' t_A2_int (.agg #[.int .i64 (a + (jA js y).w), .int .i64 (b + (jA js y).t)]) (.pointer (some ⟨h.length + 1, 0, some 2⟩)) = some h2 := by rw [rt] at s2; exact s2
    simp -implicitDefEqProofs [-indexAddrP_some, hlt, hlt', ly, lj, ia20, ia21, l1, w1, w2, s2', winc hlt (by omega)]
    exact ⟨m - 1, by omega, on hI ⟨i + 1, by omega, rfl, H2⟩⟩
  · have hlt' : ¬ (i : Int) < xs.length := by omega
    rw [List.take_of_length_le (by omega)] at H l1
    obtain ⟨h2, s2, H2, _⟩ := H.set (P := P) 0 (n := 2) (o := 0) (ty := t_A2_int) (w := ptv (rat1 js xs)) rfl rfl e_t_A2_int (by simp) (by simp) (by simp)
    have l2 := H2.bl (P := P) 0 2 rfl rfl
    have s2' : storeP P h' t_A2_int (.agg #[.int .i64 (rat1 js xs).1, .int .i64 (rat1 js xs).2]) (.pointer (some ⟨h.length, 0, some 2⟩)) = some h2 := s2
    simp -implicitDefEqProofs [hlt, hlt', l1, s2', l2]
    exact gcP H2.pre (by simp)
def delF (xs ys : List Int) : List Int := xs.filter fun x => !hasL x ys
theorem del_take {i : Nat} {y : Int} (hy : xs[i]? = some y) : delF (xs.take (i + 1)) ys = delF (xs.take i) ys ++ if hasL y ys = true then [] else [y] := by
  unfold delF
  rw [take_succ' hy, List.filter_append]
  congr 1
  cases g : hasL y ys <;> simp [List.filter_cons, g]
theorem l4Rest_run (X : Ints h v xs) (Y : Ints h u ys) (hx : xs.length ≤ 2 ^ 20) (hy : ys.length ≤ 2 ^ 40) : RunsC P G n_spec_l4Rest [v, u] h fun w h' => h <+: h' ∧ Own h.length h' w 1 ((delF xs ys).map encI) := by
  refine hideC fun K hK => enter_run e_spec_l4Rest (by simp) ?_
  have Xs := X
  have Ys := Y
  obtain ⟨ox, cx, rfl⟩ := X.shapeT
  obtain ⟨oy, cy, rfl⟩ := Y.shapeT
  have H0 := own_nil (Holds.start (h := h)) Int encI 1
  simp -implicitDefEqProofs
  refine R_loopO (fun m s h' => ∃ (i : Nat) (w : Value), i + m = xs.length ∧ s = [(0, .slice ox xs.length cx), (1, .slice oy ys.length cy), (5, w), (6, .int .i64 i)] ∧ Holds h h' [.own w 1 ((delF (xs.take i) ys).map encI)]) (fun I hI m s h' => ?_) (n := xs.length) ⟨0, .slice none 0 0, Nat.zero_add _, by simp, by simpa [delF] using H0⟩
  rintro ⟨i, w, hi, rfl, H⟩
  by_cases hlt : i < xs.length
  · have hlt' : (i : Int) < xs.length := by omega
    obtain ⟨y, hyy, _⟩ := drop_at hlt
    have ly := load_I (Xs.pre H.pre) hyy
    have rh := l1Has_run (x := y) (Ys.pre H.pre) hy
    have e := del_take (ys := ys) hyy
    have hle : (delF (xs.take i) ys).length ≤ xs.length := Nat.le_trans (List.length_filter_le ..) (by rw [List.length_take]; omega)
    cases c1 : hasL y ys
    · rw [c1, if_neg (by simp)] at e
      rw [c1] at rh
      obtain ⟨v', h2, ha, H2, _⟩ := push_I0 H 0 rfl y (by omega)
      rw [← e] at H2
      simp -implicitDefEqProofs [-indexAddrP_some, hlt, hlt', ly, CL_ret rh, ha, winc hlt (by omega)]
      exact ⟨m - 1, by omega, on hI ⟨i + 1, v', by omega, rfl, H2⟩⟩
    · rw [c1, if_pos rfl, List.append_nil] at e
      rw [c1] at rh
      rw [← e] at H
      simp -implicitDefEqProofs [-indexAddrP_some, hlt, hlt', ly, CL_ret rh, winc hlt (by omega)]
      exact ⟨m - 1, by omega, on hI ⟨i + 1, w, by omega, rfl, H⟩⟩
  · have hlt' : ¬ (i : Int) < xs.length := by omega
    rw [List.take_of_length_le (by omega)] at H
    simp -implicitDefEqProofs [hlt, hlt']
    exact onK hK (H.ret 0 rfl)
theorem del_one {b : Int} : delF xs [b] = xs.filter fun x => !(x == b) := by
  unfold delF
  congr 1
  funext x
  have : (b == x) = (x == b) := BEq.comm
  rw [hasL_cons, hasL_nil, Bool.or_false, this]
/-! ### the choice -/
def bkS (js : List Job) (lim e : Int) (b x : Int) : Int := if e ≤ dJ js x + lim ∧ (b < 0 ∨ tJ js b ≤ tJ js x) then x else b
theorem bkP_eq {js : List Job} {lim e : Int} {l : List Int} : bkP (tJ js) (dJ js) lim e l = l.foldl (bkS js lim e) (-1) := rfl
theorem bkS_take {js : List Job} {lim e : Int} {l : List Int} {i : Nat} {y : Int} (hy : l[i]? = some y) : (l.take (i + 1)).foldl (bkS js lim e) (-1) = bkS js lim e ((l.take i).foldl (bkS js lim e) (-1)) y := by
  rw [take_succ' hy, List.foldl_append]; rfl
theorem bkS_in {js : List Job} {lim e : Int} {l : List Int} {n : Nat} (hin : inN n l) (h : ¬ l.foldl (bkS js lim e) (-1) < 0) : 0 ≤ l.foldl (bkS js lim e) (-1) ∧ l.foldl (bkS js lim e) (-1) < n := by
  rw [← bkP_eq] at h ⊢
  exact hin _ (bkP_pos (fun x hx => (hin x hx).1) h).1
theorem bkF_cons {js : List Job} {lim : Int} {m : Nat} {l suf : List Int} : ((bkF (tJ js) (dJ js) lim (m + 1) l).map (· ++ suf)) = if l.foldl (bkS js lim (tsm (tJ js) l)) (-1) < 0 then none else (bkF (tJ js) (dJ js) lim m (l.filter fun x => !(x == l.foldl (bkS js lim (tsm (tJ js) l)) (-1)))).map (· ++ (l.foldl (bkS js lim (tsm (tJ js) l)) (-1) :: suf)) := by
  rw [bkF, bkP_eq]
  split
  · rfl
  · rw [Option.map_map]
    congr 1
    funext o
    simp
theorem l11Back_run (J : Jobs h vj js) (hok : plOk js = true) (hl : -(2 ^ 20) ≤ lim ∧ lim ≤ 2 ^ 20) : RunsC P G n_spec_l11Back [vj, .int .i64 lim] h fun w h' => h <+: h' ∧ ∃ d, w = .tuple #[d, .bool (backX js lim).isSome] ∧ Ints h' d ((backX js lim).getD []) := by
  refine hideC fun K hK => enter_run e_spec_l11Back (by simp) ?_
  have Js := J
  obtain ⟨oj, cj, rfl⟩ := J.shapeT
  obtain ⟨hn, hg, _⟩ := plOk_of hok
  simp -implicitDefEqProofs
  refine CL_post (l6All_run Js (by omega)) fun v1 h1 ⟨hp1, ho1⟩ => ?_
  have H1 := (own_nil (Holds.start (h := h)) Int encI 1).call hp1 ho1
  simp -implicitDefEqProofs
  refine R_loopO (fun m s h' => ∃ (suf left : List Int) (vo vl : Value), s = [(0, .slice oj js.length cj), (1, .int .i64 lim), (6, vo), (7, vl)] ∧ left.length = m ∧ suf.length + m = js.length ∧ inN js.length left ∧ left.Nodup ∧ backX js lim = (bkF (tJ js) (dJ js) lim m left).map (· ++ suf) ∧ Holds h h' [.own vo 1 (suf.map encI), .own vl 1 (left.map encI)]) (fun I hI m s h' => ?_) (n := js.length)
    ⟨[], upTo js.length, _, _, by simp, upTo_len _, by simp, fun x hx => mem_upTo.1 hx, upTo_nodup _, by simp [backX], H1⟩
  rintro ⟨suf, left, vo, vl, rfl, hlm, hsm, hin, hnd, hbk, H⟩
  obtain ⟨oo, co, rfl⟩ : ∃ a c, vo = .slice a suf.length c := (H.sees 0 rfl : Ints h' vo suf).shapeT
  have Sl : Ints h' vl left := H.sees 1 rfl
  obtain ⟨ol, cl, rfl⟩ : ∃ a c, vl = .slice a left.length c := Sl.shapeT
  by_cases hlt : 0 < left.length
  case neg =>
    have hlt' : ¬ (0 : Int) < left.length := by omega
    have hm0 : m = 0 := by omega
    subst hm0
    have e : backX js lim = some suf := by rw [hbk]; simp [bkF]
    rw [e] at hK
    simp -implicitDefEqProofs [hlt, hlt']
    exact onK hK ⟨(H.ret2 0 rfl).1, _, rfl, (H.ret2 0 rfl).2.sees⟩
  case pos =>
    obtain ⟨m', rfl⟩ : ∃ m', m = m' + 1 := ⟨m - 1, by omega⟩
    have hlt' : (0 : Int) < left.length := by omega
    have rs := l4Sums_run (Js.pre H.pre) Sl hin hg (by omega)
    have rb := rat_bd hg (xs := left)
    obtain ⟨e, he⟩ : ∃ e, e = tsm (tJ js) left := ⟨_, rfl⟩
    have he2 : (rat1 js left).2 = e := he.symm
    have he3 : 0 ≤ e ∧ e ≤ 2 ^ 24 := by rw [← he2]; omega
    rw [bkF_cons, ← he] at hbk
    have iag : indexP P t_A2_int (ptv (rat1 js left)) (.int .i64 1) = some (.int .i64 e) := by rw [← he2]; simp [indexP]
    simp -implicitDefEqProofs [hlt, hlt', CL_ret rs, iag]
    refine R_loopO (fun m2 s h2 => ∃ (i : Nat), i + m2 = left.length ∧ s = [(0, .slice oj js.length cj), (1, .int .i64 lim), (6, .slice oo suf.length co), (7, .slice ol left.length cl), (8, .int .i64 e), (9, .int .i64 ((left.take i).foldl (bkS js lim e) (-1))), (10, .int .i64 i)] ∧ Holds h h2 [.own (.slice oo suf.length co) 1 (suf.map encI), .own (.slice ol left.length cl) 1 (left.map encI)]) (fun I2 hI2 m2 s h2 => ?_) (n := left.length)
      ⟨0, Nat.zero_add _, by simp, H⟩
    rintro ⟨i, hi, rfl, H⟩
    have Sl : Ints h2 (.slice ol left.length cl) left := H.sees 1 rfl
    by_cases hli : i < left.length
    · have hli' : (i : Int) < left.length := by omega
      obtain ⟨y, hy, _⟩ := drop_at hli
      have iy := hin y (List.mem_of_getElem? hy)
      have ly := load_I Sl hy
      have lj := load_JX (Js.pre H.pre) iy
      have H2 := H.alloc [.int .i64 (jA js y).t, .int .i64 (jA js y).w, .int .i64 (jA js y).r, .int .i64 (jA js y).d]
      have lb := H2.bl (P := P) 2 4 rfl rfl
      have ly2 := load_I (H2.sees 1 rfl : Ints _ (.slice ol left.length cl) left) hy
      have bd := (good_bd hg).d y
      have w1 : IntKind.i64.wrap ((jA js y).d + lim) = (jA js y).d + lim := by rw [wrap_ok] <;> omega
      have eb := bkS_take (js := js) (lim := lim) (e := e) hy
      have inb := bkS_in (js := js) (lim := lim) (e := e) (l := left.take i) (n := js.length) fun x hx => hin x (List.mem_of_mem_take hx)
      generalize (left.take i).foldl (bkS js lim e) (-1) = b at *
      have nxt : ∀ b', bkS js lim e b y = b' → ∀ h3, Holds h h3 [.own (.slice oo suf.length co) 1 (suf.map encI), .own (.slice ol left.length cl) 1 (left.map encI)] → I2 (m2 - 1) [(0, .slice oj js.length cj), (1, .int .i64 lim), (6, .slice oo suf.length co), (7, .slice ol left.length cl), (8, .int .i64 e), (9, .int .i64 b'), (10, .int .i64 ((i : Int) + 1))] h3 := fun b' hb' h3 H3 =>
        on hI2 ⟨i + 1, by omega, by rw [eb, hb']; push_cast; rfl, H3⟩
      have H2' := H2.take 2
      by_cases c1 : e ≤ (jA js y).d + lim
      · by_cases c2 : b < 0
        · have := nxt y (by unfold bkS; rw [if_pos ⟨c1, .inl c2⟩]) _ H2'
          simp -implicitDefEqProofs [-indexAddrP_some, hli, hli', ly, ly2, lj, lb, w1, c1, c2, winc hli (by omega)]
          exact ⟨m2 - 1, by omega, by simpa using this⟩
        · have lj2 := load_JX (Js.pre H2.pre) (inb c2)
          by_cases c3 : (jA js b).t ≤ (jA js y).t
          · have := nxt y (by unfold bkS; rw [if_pos ⟨c1, .inr c3⟩]) _ H2'
            simp -implicitDefEqProofs [-indexAddrP_some, hli, hli', ly, ly2, lj, lj2, lb, w1, c1, c2, c3, winc hli (by omega)]
            exact ⟨m2 - 1, by omega, by simpa using this⟩
          · have := nxt b (by unfold bkS; rw [if_neg (fun q => q.2.elim c2 c3)]) _ H2'
            simp -implicitDefEqProofs [-indexAddrP_some, hli, hli', ly, ly2, lj, lj2, lb, w1, c1, c2, c3, winc hli (by omega)]
            exact ⟨m2 - 1, by omega, by simpa using this⟩
      · have := nxt b (by unfold bkS; rw [if_neg (fun q => c1 q.1)]) _ H2'
        simp -implicitDefEqProofs [-indexAddrP_some, hli, hli', ly, lj, lb, w1, c1, winc hli (by omega)]
        exact ⟨m2 - 1, by omega, by simpa using this⟩
    · have hli' : ¬ (i : Int) < left.length := by omega
      rw [List.take_of_length_le (by omega)]
      have inb := bkS_in (js := js) (lim := lim) (e := e) hin
      have hmem : ¬ left.foldl (bkS js lim e) (-1) < 0 → left.foldl (bkS js lim e) (-1) ∈ left := fun g => by
        rw [← bkP_eq] at g ⊢
        exact (bkP_pos (fun x hx => (hin x hx).1) g).1
      generalize left.foldl (bkS js lim e) (-1) = b at *
      by_cases c2 : b < 0
      · rw [if_pos c2] at hbk
        rw [hbk] at hK
        simp -implicitDefEqProofs [hli, hli', c2]
        exact onK hK ⟨pre_gcU H.pre, _, rfl, by simp, none, 0, rfl, .inl ⟨rfl, rfl, rfl⟩⟩
      · rw [if_neg c2] at hbk
        have hb := hmem c2
        have H3 : Holds h (h2 ++ [some ⟨[.int .i64 b], 1, false⟩]) [.own (.slice oo suf.length co) 1 (suf.map encI), .own (.slice ol left.length cl) 1 (left.map encI), .own (.slice (some ⟨h2.length, 0, some 1⟩) 1 1) 1 ([b].map encI)] := H.litI [b]
        have S3 : Ints (h2 ++ [some ⟨[.int .i64 b], 1, false⟩]) (.slice oo suf.length co) suf := H3.sees 0 rfl
        obtain ⟨v4, h4, a4, H4, _⟩ := app_I H3 2 rfl S3 (by simp; omega)
        have H4 : Holds h h4 [.own (.slice oo suf.length co) 1 (suf.map encI), .own (.slice ol left.length cl) 1 (left.map encI), .own v4 1 ((b :: suf).map encI)] := H4
        have H5 : Holds h (h4 ++ [some ⟨[.int .i64 b], 1, false⟩]) [.own (.slice ol left.length cl) 1 (left.map encI), .own v4 1 ((b :: suf).map encI), .own (.slice (some ⟨h4.length, 0, some 1⟩) 1 1) 1 ([b].map encI)] := (H4.drop 0).litI [b]
        obtain ⟨a4', c4', rfl⟩ : ∃ a c, v4 = .slice a (b :: suf).length c := (H4.sees 2 rfl : Ints h4 v4 (b :: suf)).shapeT
        simp -implicitDefEqProofs [hli, hli', c2, a4]
        refine CL_post (l4Rest_run (ys := [b]) (H5.sees 0 rfl : Ints _ (.slice ol left.length cl) left) (H5.sees 2 rfl) (by omega) (by simp)) fun w h6 ⟨hp6, o6⟩ => ?_
        have H6 : Holds h h6 [.own (.slice a4' (b :: suf).length c4') 1 ((b :: suf).map encI), .own w 1 ((delF left [b]).map encI)] := (((H5.call hp6 o6).drop 2).drop 0)
        rw [del_one] at H6
        have hpm := filter_del hnd hb
        have hlen : (left.filter fun x => !(x == b)).length = m' := by have := hpm.length_eq; simp only [List.length_cons] at this; omega
        simp -implicitDefEqProofs
        exact ⟨m', by omega, on hI ⟨b :: suf, _, _, w, rfl, hlen, by simp only [List.length_cons]; omega, fun x hx => hin x (List.mem_filter.1 hx).1, hnd.sublist List.filter_sublist, hbk, H6⟩⟩
def boR (js : List Job) (lim : Int) : Option (List Int) := if (plOk js && inB lim (-500) 400) = true then backX js lim else none
theorem boR_of (h : (plOk js && inB lim (-500) 400) = true) : plOk js = true ∧ -500 ≤ lim ∧ lim ≤ 400 := by
  rw [Bool.and_eq_true] at h
  exact ⟨h.1, by simpa [inB] using h.2⟩
theorem specBackwardOrder_run (J : Jobs h vj js) (hl : js.length ≤ 2 ^ 40) : RunsC P G n_spec_BackwardOrder [vj, .int .i64 lim] h fun w h' => h <+: h' ∧ ∃ d, w = .tuple #[d, .bool (boR js lim).isSome] ∧ Ints h' d ((boR js lim).getD []) := by
  refine hideC fun K hK => enter_run e_spec_BackwardOrder (by simp) ?_
  have Js := J
  obtain ⟨oj, cj, rfl⟩ := J.shapeT
  have r1 := l6Good_run Js hl
  cases c : (plOk js && inB lim (-500) 400)
  · have e : boR js lim = none := by unfold boR; rw [c]; rfl
    rw [e] at hK
    cases c1 : plOk js
    · rw [c1] at r1
      simp -implicitDefEqProofs [CL_ret r1]
      exact onK hK ⟨List.prefix_rfl, _, rfl, nil_L⟩
    · rw [c1] at r1
      rw [c1, Bool.true_and] at c
      simp -implicitDefEqProofs [CL_ret r1, CL_ret l1In_run, c]
      exact onK hK ⟨List.prefix_rfl, _, rfl, nil_L⟩
  · have e : boR js lim = backX js lim := by unfold boR; rw [if_pos c]
    rw [e] at hK
    obtain ⟨hok, h1, h2⟩ := boR_of c
    rw [hok] at r1
    rw [hok, Bool.true_and] at c
    simp -implicitDefEqProofs [CL_ret r1, CL_ret l1In_run, c]
    refine CL_post (l11Back_run (lim := lim) Js hok (by omega)) fun w h3 ⟨hp3, d, ew, S3⟩ => ?_
    subst ew
    obtain ⟨da, dn, dc, rfl⟩ : ∃ a n c, d = .slice a n c := by obtain ⟨a, c, e⟩ := S3.shape; exact ⟨_, _, _, e⟩
    simp -implicitDefEqProofs
    exact onK hK ⟨pre_gcU hp3, _, rfl, Sees.gcU S3 fun g => plainT (r := [_]) g⟩
theorem bits_filter {n c i : Nat} (hi : i < n) (h : c.testBit i = true) : (bitsL n c).filter (fun x => !(x == (i : Int))) = bitsL n (c - 2 ^ i) := by
  have h1 := bits_del hi h
  have h2 := filter_del (l := bitsL n c) (b := (i : Int)) bits_nodup (mem_bits.2 ⟨by omega, by omega, by simpa using h⟩)
  exact sorted_eq (R := fun a b => a < b) (fun a b h1 h2 => by omega) (bits_asc.sublist List.filter_sublist) bits_asc ((h2.symm.trans h1).cons_inv)
theorem implBackwardOrder_run (J : Jobs h vj js) (hl : js.length ≤ 2 ^ 40) : RunsC P G n_impl_BackwardOrder [vj, .int .i64 lim] h fun w h' => h <+: h' ∧ ∃ d, w = .tuple #[d, .bool (boR js lim).isSome] ∧ Ints h' d ((boR js lim).getD []) := by
  refine hideC fun K hK => enter_run e_impl_BackwardOrder (by simp) ?_
  have Js := J
  obtain ⟨oj, cj, rfl⟩ := J.shapeT
  have r1 := IsPlain_run Js hl
  cases c : (plOk js && inB lim (-500) 400)
  case false =>
    have e : boR js lim = none := by unfold boR; rw [c]; rfl
    rw [e] at hK
    cases c1 : plOk js
    · rw [c1] at r1
      simp -implicitDefEqProofs [CL_ret r1]
      exact onK hK ⟨List.prefix_rfl, _, rfl, nil_L⟩
    · rw [c1] at r1
      rw [c1, Bool.true_and] at c
      simp -implicitDefEqProofs [CL_ret r1, CL_ret within_run, c]
      exact onK hK ⟨List.prefix_rfl, _, rfl, nil_L⟩
  case true =>
    have e : boR js lim = backX js lim := by unfold boR; rw [if_pos c]
    rw [e] at hK
    obtain ⟨hok, hl1, hl2⟩ := boR_of c
    rw [hok] at r1
    rw [hok, Bool.true_and] at c
    obtain ⟨hn, hg, _⟩ := plOk_of hok
    have p2 := Nat.two_pow_pos js.length
    have p8 : 2 ^ js.length ≤ 2 ^ 8 := Nat.pow_le_pow_right (by omega) hn
    have sh := shl_eq (i := js.length) (by omega)
    have cb := bits_up (n := js.length)
    obtain ⟨d, hd⟩ : ∃ d, d = 2 ^ js.length := ⟨_, rfl⟩
    rw [← hd] at sh cb p2 p8
    have wd : IntKind.i64.wrap ((d : Int) - 1) = ((d - 1 : Nat) : Int) := by rw [wrap_ok] <;> omega
    have wn : IntKind.i64.wrap ((js.length : Int) - 1) = (js.length : Int) - 1 := by rw [wrap_ok] <;> omega
    obtain ⟨v1, h1, mk, H1, hp1, oa, rfl⟩ := make_I (Holds.start (h := h)) (n := js.length) (by omega)
    have H1 : Holds h h1 [.own (.slice oa js.length js.length) 1 ((List.replicate js.length (0 : Int)).map encI)] := H1
    simp -implicitDefEqProofs [CL_ret r1, CL_ret within_run, c, mk, sh, wd, wn]
    refine R_loopO (fun m s h' => ∃ (suf : List Int) (k : Nat), s = [(0, .slice oj js.length cj), (1, .int .i64 lim), (6, .slice oa js.length js.length), (7, .int .i64 k), (8, .int .i64 ((m : Int) - 1))] ∧ k < 2 ^ js.length ∧ (bitsL js.length k).length = m ∧ suf.length + m = js.length ∧ backX js lim = (bkF (tJ js) (dJ js) lim m (bitsL js.length k)).map (· ++ suf) ∧ Holds h h' [.own (.slice oa js.length js.length) 1 ((List.replicate m 0 ++ suf).map encI)]) (fun I hI m s h' => ?_) (n := js.length)
      ⟨[], d - 1, by simp, by omega, by rw [cb, upTo_len], by simp, by rw [cb]; simp [backX], by simpa using H1⟩
    rintro ⟨suf, k, rfl, hkd, hlm, hsm, hbk, H⟩
    by_cases hlt : 0 < m
    case neg =>
      have hm0 : m = 0 := by omega
      subst hm0
      have e : backX js lim = some suf := by rw [hbk]; simp [bkF]
      rw [e] at hK
      have H : Holds h h' [.own (.slice oa js.length js.length) 1 (suf.map encI)] := H
      simp -implicitDefEqProofs
      exact onK hK ⟨(H.ret2 0 rfl).1, _, rfl, (H.ret2 0 rfl).2.sees⟩
    case pos =>
      obtain ⟨m', rfl⟩ : ∃ m', m = m' + 1 := ⟨m - 1, by omega⟩
      have hmm : (0 : Int) ≤ ((m' + 1 : Nat) : Int) - 1 := by omega
      have rl := listOf_run (h := h') (n := js.length) (c := k) (by omega) hkd
      have hin : inN js.length (bitsL js.length k) := fun x hx => by have := mem_bits.1 hx; omega
      have e0 : tsm (tJ js) (bitsL js.length k) = timeC js k := rfl
      have tt := good_time hg hn (c := k)
      rw [bkF_cons, e0] at hbk
      have rt : ∀ {hh : Hp}, Jobs hh (.slice oj js.length cj) js → Ret P G n_impl_timeOf [.slice oj js.length cj, .int .i64 k] hh (.int .i64 (timeC js k)) hh := fun j => timeOf_run j hn hg hkd
      have hmem : ¬ (bitsL js.length k).foldl (bkS js lim (timeC js k)) (-1) < 0 → (bitsL js.length k).foldl (bkS js lim (timeC js k)) (-1) ∈ bitsL js.length k := fun g => by
        rw [← bkP_eq] at g ⊢
        exact (bkP_pos (fun x hx => (hin x hx).1) g).1
      have hbit : ∀ x, x ∈ bitsL js.length k → 0 ≤ x ∧ x < js.length ∧ k.testBit x.toNat = true := fun x hx => mem_bits.1 hx
      have hflt : ∀ b, b ∈ bitsL js.length k → (bitsL js.length k).filter (fun x => !(x == b)) = bitsL js.length (k - 2 ^ b.toNat) := fun b hb => by
        obtain ⟨b0, b1, b2⟩ := hbit b hb
        have := bits_filter (n := js.length) (c := k) (i := b.toNat) (by omega) b2
        rwa [show ((b.toNat : Nat) : Int) = b by omega] at this
      have hflen : ∀ b, b ∈ bitsL js.length k → ((bitsL js.length k).filter (fun x => !(x == b))).length = m' := fun b hb => by
        have := (filter_del (l := bitsL js.length k) (b := b) bits_nodup hb).length_eq
        simp only [List.length_cons] at this; omega
      simp -implicitDefEqProofs [hmm]
      refine CL_post rl fun vl h2 ⟨hp2, o2⟩ => ?_
      have H2 := H.call hp2 o2
      have H2 : Holds h h2 [.own (.slice oa js.length js.length) 1 ((List.replicate (m' + 1) 0 ++ suf).map encI), .own vl 1 ((bitsL js.length k).map encI)] := H2
      generalize bitsL js.length k = left at *
      obtain ⟨e, he⟩ : ∃ e, e = timeC js k := ⟨_, rfl⟩
      rw [← he] at hbk tt rt hmem
      obtain ⟨ol, cl, rfl⟩ : ∃ a c, vl = .slice a left.length c := (H2.sees 1 rfl : Ints h2 vl left).shapeT
      simp -implicitDefEqProofs
      refine R_loopO (fun m2 s h3 => ∃ (i : Nat), i + m2 = left.length ∧ s = [(0, .slice oj js.length cj), (1, .int .i64 lim), (6, .slice oa js.length js.length), (7, .int .i64 k), (8, .int .i64 (((m' + 1 : Nat) : Int) - 1)), (9, .int .i64 ((left.take i).foldl (bkS js lim e) (-1))), (35, .slice ol left.length cl), (36, .int .i64 left.length), (37, .int .i64 i)] ∧ h3 = h2) (fun I2 hI2 m2 s h3 => ?_) (n := left.length)
        ⟨0, Nat.zero_add _, by simp, rfl⟩
      rintro ⟨i, hi, rfl, rfl⟩
      have Sl : Ints h3 (.slice ol left.length cl) left := H2.sees 1 rfl
      by_cases hli : i < left.length
      · have hli' : (i : Int) < left.length := by omega
        obtain ⟨y, hy, _⟩ := drop_at hli
        have iy := hin y (List.mem_of_getElem? hy)
        have ly := load_I Sl hy
        have lj := load_JX (Js.pre H2.pre) iy
        have bd := (good_bd hg).d y
        have w1 : IntKind.i64.wrap ((jA js y).d + lim) = (jA js y).d + lim := by rw [wrap_ok] <;> omega
        have eb := bkS_take (js := js) (lim := lim) (e := e) hy
        have inb := bkS_in (js := js) (lim := lim) (e := e) (l := left.take i) (n := js.length) fun x hx => hin x (List.mem_of_mem_take hx)
        generalize (left.take i).foldl (bkS js lim e) (-1) = b at *
        have rtt := rt (Js.pre H2.pre)
        have nxt : ∀ b', bkS js lim e b y = b' → I2 (m2 - 1) [(0, .slice oj js.length cj), (1, .int .i64 lim), (6, .slice oa js.length js.length), (7, .int .i64 k), (8, .int .i64 (((m' + 1 : Nat) : Int) - 1)), (9, .int .i64 b'), (35, .slice ol left.length cl), (36, .int .i64 left.length), (37, .int .i64 ((i : Int) + 1))] h3 := fun b' hb' =>
          on hI2 ⟨i + 1, by omega, by rw [eb, hb']; push_cast; rfl, rfl⟩
        by_cases c1 : e ≤ (jA js y).d + lim
        · by_cases c2 : b < 0
          · have := nxt y (by unfold bkS; rw [if_pos ⟨c1, .inl c2⟩])
            simp -implicitDefEqProofs [-indexAddrP_some, hli, hli', ly, lj, w1, CH_at rtt, c1, c2, winc hli (by omega)]
            exact ⟨m2 - 1, by omega, by simpa using this⟩
          · have lj2 := load_JX (Js.pre H2.pre) (inb c2)
            by_cases c3 : (jA js b).t ≤ (jA js y).t
            · have := nxt y (by unfold bkS; rw [if_pos ⟨c1, .inr c3⟩])
              simp -implicitDefEqProofs [-indexAddrP_some, hli, hli', ly, lj, lj2, w1, CH_at rtt, c1, c2, c3, winc hli (by omega)]
              exact ⟨m2 - 1, by omega, by simpa using this⟩
            · have := nxt b (by unfold bkS; rw [if_neg (fun q => q.2.elim c2 c3)])
              simp -implicitDefEqProofs [-indexAddrP_some, hli, hli', ly, lj, lj2, w1, CH_at rtt, c1, c2, c3, winc hli (by omega)]
              exact ⟨m2 - 1, by omega, by simpa using this⟩
        · have := nxt b (by unfold bkS; rw [if_neg (fun q => c1 q.1)])
          simp -implicitDefEqProofs [-indexAddrP_some, hli, hli', ly, lj, w1, CH_at rtt, c1, winc hli (by omega)]
          exact ⟨m2 - 1, by omega, by simpa using this⟩
      · have hli' : ¬ (i : Int) < left.length := by omega
        rw [List.take_of_length_le (by omega)]
        generalize left.foldl (bkS js lim e) (-1) = b at *
        by_cases c2 : b < 0
        · rw [if_pos c2] at hbk
          rw [hbk] at hK
          simp -implicitDefEqProofs [hli, hli', c2]
          exact onK hK ⟨pre_gcU H2.pre, _, rfl, nil_L⟩
        · rw [if_neg c2] at hbk
          have hb := hmem c2
          obtain ⟨b0, b1, b2⟩ := hbit b hb
          have hle := bit_le b2
          have hpos := Nat.two_pow_pos b.toNat
          obtain ⟨z, hz⟩ : ∃ z : Nat, z = k - 2 ^ b.toNat := ⟨_, rfl⟩
          obtain ⟨q, hq⟩ : ∃ q : Nat, q = 2 ^ b.toNat := ⟨_, rfl⟩
          have shb := shl_eq (i := b.toNat) (by omega)
          rw [show ((b.toNat : Nat) : Int) = b by omega, ← hq] at shb
          have cv := clr_val (k := k) (by omega) hq b2 hz
          obtain ⟨h4, s4, H4, _⟩ := put_I (H2.take 1) 0 rfl (j := m') (by simp; omega) b
          have e4 : (List.replicate (m' + 1) 0 ++ suf).set m' b = List.replicate m' 0 ++ (b :: suf) := by
            rw [List.set_append_left _ _ (by simp), List.replicate_succ', List.set_append_right _ _ (by simp)]
            simp
          rw [e4] at H4
          have hz0 : (List.replicate (m' + 1) (0 : Int) ++ suf)[m']? = some 0 := by
            rw [List.getElem?_append_left (by simp)]
            simp
          have ix := (load_I (H2.sees 0 rfl : Ints h3 (.slice oa js.length js.length) (List.replicate (m' + 1) 0 ++ suf)) hz0).1
          rw [hflt b hb, ← hz] at hbk
          have hlen := hflen b hb
          rw [hflt b hb, ← hz] at hlen
          have wm : IntKind.i64.wrap ((m' : Int) - 1) = (m' : Int) - 1 := by rw [wrap_ok] <;> omega
          simp -implicitDefEqProofs [-indexAddrP_some, hli, hli', c2, ix, s4, shb, cv, wm]
          exact ⟨m', by omega, on hI ⟨b :: suf, z, rfl, by omega, hlen, by simp only [List.length_cons]; omega, hbk, H4⟩⟩
end
end Go.Pm.PP
