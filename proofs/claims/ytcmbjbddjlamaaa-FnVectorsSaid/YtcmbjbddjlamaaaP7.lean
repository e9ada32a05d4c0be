/- The texts PvN, PvW, PvX, PvY, Pv1, Pv2, Pv3, Pv4, Pv5, Pv6, Pv7, Pv8, Pv9, PvSb, PvSc, PvSd, PvSe, PvQa, PvTa, PvTb, PvTc, Ps8, PvTd, PvTe, PvRa of this work: The next order of a list, in place. -/
import Derived.Test.YtcmbjbddjlamaaaP6
/- The next order of a list, in place. -/
set_option linter.unusedVariables false
set_option linter.unusedSimpArgs false
set_option maxRecDepth 4000
set_option maxHeartbeats 4000000
namespace Go.Pm.PE
theorem next_pre {pre r r' : List Int} (h : nextP r = some r') : nextP (pre ++ r) = some (pre ++ r') := by
  induction pre with
  | nil => exact h
  | cons z pre ih => rw [List.cons_append, nextP, ih]; rfl
/-- A list whose p outermost elements on both sides are turned round. -/
def revP (p : Nat) (t : List Int) : List Int := (List.range t.length).map fun j => if j < p ∨ t.length - p ≤ j then t[t.length - 1 - j]?.getD 0 else t[j]?.getD 0
theorem revP_len {p : Nat} {t : List Int} : (revP p t).length = t.length := by simp [revP]
theorem revP_get {p : Nat} {t : List Int} {j : Nat} (hj : j < t.length) : (revP p t)[j]? = some (if j < p ∨ t.length - p ≤ j then t[t.length - 1 - j]?.getD 0 else t[j]?.getD 0) := by simp [revP, hj]
theorem revP_zero {t : List Int} : revP 0 t = t := by
  apply List.ext_getElem?
  intro j
  rcases Nat.lt_or_ge j t.length with h | h
  · rw [revP_get h, if_neg (by omega), List.getElem?_eq_getElem h]; rfl
  · rw [List.getElem?_eq_none (by rw [revP_len]; omega), List.getElem?_eq_none h]
theorem revP_end {p : Nat} {t : List Int} (h : t.length ≤ 2 * p + 1) : revP p t = t.reverse := by
  apply List.ext_getElem?
  intro j
  rcases Nat.lt_or_ge j t.length with hj | hj
  · rw [revP_get hj, List.getElem?_reverse hj]
    by_cases c : j < p ∨ t.length - p ≤ j
    · rw [if_pos c, List.getElem?_eq_getElem (by omega)]; rfl
    · rw [if_neg c, List.getElem?_eq_getElem hj, show t.length - 1 - j = j by omega, List.getElem?_eq_getElem hj]; rfl
  · rw [List.getElem?_eq_none (by rw [revP_len]; omega), List.getElem?_eq_none (by simpa using hj)]
theorem revP_step {p : Nat} {t : List Int} {x y : Int} (h : 2 * p + 1 < t.length) (hx : t[p]? = some x) (hy : t[t.length - 1 - p]? = some y) : ((revP p t).set p y).set (t.length - 1 - p) x = revP (p + 1) t := by
  apply List.ext_getElem?
  intro j
  rcases Nat.lt_or_ge j t.length with hj | hj
  · rw [revP_get hj, List.getElem?_set]
    by_cases c1 : t.length - 1 - p = j
    · rw [if_pos c1, if_pos (by rw [List.length_set, revP_len]; omega), if_pos (by omega), ← c1, show t.length - 1 - (t.length - 1 - p) = p by omega, hx]; rfl
    · rw [if_neg c1, List.getElem?_set]
      by_cases c2 : p = j
      · rw [if_pos c2, if_pos (by rw [revP_len]; omega), if_pos (by omega), ← c2, hy]; rfl
      · rw [if_neg c2, revP_get hj]
        by_cases c3 : j < p ∨ t.length - p ≤ j
        · rw [if_pos c3, if_pos (by omega)]
        · rw [if_neg c3, if_neg (by omega)]
  · rw [List.getElem?_eq_none (by simp [revP_len]; omega), List.getElem?_eq_none (by rw [revP_len]; omega)]
/-- What the program finds: from the end, the first that is less than the one behind it; the last one greater than this. -/
theorem next_at {xs pre b a : List Int} {x y : Int} (h : xs = pre ++ x :: (a ++ y :: b)) (hd : (a ++ y :: b).Pairwise (· > ·)) (hb : ∀ z, z ∈ b → ¬ x < z) (hy : x < y) : nextP xs = some (pre ++ y :: (a ++ x :: b).reverse) := by
  rw [h]
  refine next_pre ?_
  rw [nextP, desc_next hd, swapL_some hb hy]
end Go.Pm.PE
namespace Go.Pm.PP
open Go.Pm Go.Proofs Go.Pm.PE
theorem keeps_gc {v u : Value} {h h' : Hp} (k : Keeps (rowV v) h h') : Keeps (rowV v) h (gc h h' u) := by
  rcases gc_cases' h h' u with g | ⟨_, g⟩ <;> rw [g]
  · exact k
  · exact .ofPre List.prefix_rfl
theorem nextOrder_run {h0 h : Hp} {v : Value} {xs : List Int} (H0 : Holds h0 h [.own v 1 (xs.map encI)]) (hn : xs.length ≤ 2 ^ 20) (nd : xs.Nodup) :
    RunsC P G n_impl_nextOrder [v] h fun r h' => r = .bool (nextP xs).isSome ∧ Own h0.length h' v 1 (((nextP xs).getD xs).map encI) ∧ Keeps (rowV v) h h' := by
  refine hideC fun K hK => enter_run e_impl_nextOrder (by simp) ?_
  have Hs := H0.sees 0 rfl
  obtain ⟨oa, c, ev⟩ := Hs.shapeT
  subst ev
  have w2 : IntKind.i64.wrap ((xs.length : Int) - 2) = (xs.length : Int) - 2 := by rw [wrap_ok] <;> omega
  have lt_of : ∀ {i j : Nat} {a b : Int}, xs[i]? = some a → xs[j]? = some b → i ≠ j → a ≠ b := fun {i j a b} h1 h2 hne e => by
    subst e
    obtain ⟨g1, e1⟩ := List.getElem?_eq_some_iff.1 h1
    obtain ⟨g2, e2⟩ := List.getElem?_eq_some_iff.1 h2
    exact hne ((List.getElem_inj nd).1 (e1.trans e2.symm))
  simp -implicitDefEqProofs [w2]
  -- from the end
  refine R_loopO (fun m s h' => ((m : Int) ≤ xs.length - 1 ∨ m = 0) ∧ s = [(0, .slice oa xs.length c), (3, .int .i64 (if xs.length = 0 then -2 else (m : Int) - 1))] ∧ h' = h ∧ (xs.drop m).Pairwise (· > ·)) (fun I hI m s h' => ?_) (n := xs.length - 1)
    ⟨by omega, by
      rw [show (if xs.length = 0 then (-2 : Int) else ((xs.length - 1 : Nat) : Int) - 1) = (xs.length : Int) - 2 by split <;> omega]
      simp [w2], rfl, by
      rcases Nat.eq_zero_or_pos xs.length with g | g
      · rw [List.eq_nil_of_length_eq_zero g]; simp
      · obtain ⟨z, hz, hd⟩ := drop_at (show xs.length - 1 < xs.length by omega)
        rw [hd, List.drop_eq_nil_of_le (by omega)]; simp⟩
  rintro ⟨hm, rfl, rfl, hd⟩
  rcases Nat.eq_zero_or_pos m with m0 | m0
  · -- none
    subst m0
    have hnone : nextP xs = none := desc_next (by simpa using hd)
    rw [hnone] at hK
    have i0 : (if xs.length = 0 then (-2 : Int) else ((0 : Nat) : Int) - 1) < 0 := by split <;> omega
    generalize (if xs.length = 0 then (-2 : Int) else ((0 : Nat) : Int) - 1) = iv at i0 ⊢
    have i1 : ¬ 0 ≤ iv := by omega
    simp -implicitDefEqProofs [i0, i1]
    exact onK hK ⟨rfl, H0.own 0 rfl, .ofPre List.prefix_rfl⟩
  · obtain ⟨q, rfl⟩ : ∃ q, m = q + 1 := ⟨m - 1, by omega⟩
    have hql : q + 1 < xs.length := by omega
    rw [if_neg (by omega), show ((q + 1 : Nat) : Int) - 1 = (q : Int) by omega]
    obtain ⟨x, hx, hdx⟩ := drop_at (show q < xs.length by omega)
    obtain ⟨x1, hx1, hdx1⟩ := drop_at hql
    have lx := load_I Hs hx
    have lx1 := load_I Hs hx1
    have q0 : (0 : Int) ≤ (q : Int) := by omega
    have wq := winc (show q < xs.length by omega) (by omega)
    have wd : IntKind.i64.wrap ((q : Int) - 1) = (q : Int) - 1 := by rw [wrap_ok] <;> omega
    rw [show ((q + 1 : Nat) : Int) = (q : Int) + 1 from rfl] at lx1 wq
    by_cases c1 : x1 < x
    · simp -implicitDefEqProofs [-indexAddrP_some, q0, lx, lx1, wq, wd, c1]
      refine ⟨q, by omega, on hI ⟨by omega, ?_, rfl, ?_⟩⟩
      · rw [if_neg (by omega)]
      · rw [hdx]
        refine List.pairwise_cons.2 ⟨fun z hz => ?_, hd⟩
        rw [hdx1] at hz hd
        rcases List.mem_cons.1 hz with rfl | hz
        · exact c1
        · have := (List.pairwise_cons.1 hd).1 z hz; omega
    · have hlt : x < x1 := by have := lt_of hx hx1 (by omega); omega
      have nq0 : ¬ (q : Int) < 0 := by omega
      have w1 : IntKind.i64.wrap ((xs.length : Int) - 1) = (xs.length : Int) - 1 := by rw [wrap_ok] <;> omega
      simp -implicitDefEqProofs [-indexAddrP_some, q0, lx, lx1, wq, c1, nq0, w1]
      -- the last one greater
      refine R_loopO (fun m s h2 => q + 1 ≤ m ∧ m < xs.length ∧ s = [(0, .slice oa xs.length c), (3, .int .i64 q), (4, .int .i64 m)] ∧ h2 = h' ∧ ∀ z, z ∈ xs.drop (m + 1) → ¬ x < z) (fun I2 hI2 m s h2 => ?_) (n := xs.length - 1)
        ⟨by omega, by omega, by simp; omega, rfl, fun z hz => by rw [List.drop_eq_nil_of_le (by omega)] at hz; cases hz⟩
      rintro ⟨hm1, hm2, rfl, rfl, hgt⟩
      obtain ⟨y, hy, hdy⟩ := drop_at hm2
      have ly := load_I Hs hy
      have hne := lt_of hx hy (by omega)
      by_cases c2 : y < x
      · have hmq : q + 1 ≠ m := fun e => by subst e; rw [hx1] at hy; cases hy; omega
        have wm : IntKind.i64.wrap ((m : Int) - 1) = ((m - 1 : Nat) : Int) := by rw [wrap_ok] <;> omega
        simp -implicitDefEqProofs [-indexAddrP_some, lx, ly, c2, wm]
        refine ⟨m - 1, by omega, on hI2 ⟨by omega, by omega, rfl, rfl, fun z hz => ?_⟩⟩
        rw [show m - 1 + 1 = m by omega, hdy] at hz
        rcases List.mem_cons.1 hz with rfl | hz
        · omega
        · exact hgt z hz
      · have hxy : x < y := by omega
        -- the change
        obtain ⟨a, ha⟩ : ∃ a, a = (xs.drop (q + 1)).take (m - (q + 1)) := ⟨_, rfl⟩
        obtain ⟨b, hb⟩ : ∃ b, b = xs.drop (m + 1) := ⟨_, rfl⟩
        have hal : a.length = m - (q + 1) := by rw [ha]; simp; omega
        have e1 : xs.drop (q + 1) = a ++ y :: b := by
          have := List.take_append_drop (m - (q + 1)) (xs.drop (q + 1))
          rw [List.drop_drop, show q + 1 + (m - (q + 1)) = m by omega, hdy] at this
          rw [ha, hb]; exact this.symm
        have e2 : xs = xs.take q ++ x :: (a ++ y :: b) := by
          conv => lhs; rw [← List.take_append_drop q xs, hdx, e1]
        have hres : nextP xs = some (xs.take q ++ y :: (a ++ x :: b).reverse) := next_at e2 (by rw [← e1]; exact hd) (by rw [hb]; exact hgt) hxy
        rw [hres] at hK
        have htq : (xs.take q).length = q := by simp; omega
        have htl : (a ++ x :: b).length = xs.length - (q + 1) := by
          have := congrArg List.length e1
          simp only [List.length_append, List.length_cons, List.length_drop] at this ⊢
          omega
        obtain ⟨h3, s3, H3, k3⟩ := put_I H0 0 rfl (j := q) (by omega) y
        have ixm : indexAddrP P h3 t_S_int (.slice oa xs.length c) (.int .i64 m) = some (.pointer (some (addP (base (.slice oa xs.length c)) m))) := by
          obtain ⟨z, hz, _⟩ := drop_at (show m < (xs.set q y).length by simpa using hm2)
          exact (load_I (H3.sees 0 rfl) hz).1
        obtain ⟨h4, s4, H4, k4⟩ := put_I H3 0 rfl (j := m) (by simpa using hm2) x
        have e3 : (xs.set q y).set m x = xs.take q ++ y :: (a ++ x :: b) := by
          conv => lhs; rw [e2]
          rw [List.set_append_right (h := by omega), htq, Nat.sub_self, List.set_cons_zero, List.set_append_right (h := by omega), htq]
          rw [show m - q = (m - (q + 1)) + 1 by omega, List.set_cons_succ, List.set_append_right (h := by omega), hal, Nat.sub_self, List.set_cons_zero]
        simp only [List.set_cons_zero] at H4
        rw [e3] at H4
        have wm : IntKind.i64.wrap ((xs.length : Int) - 1) = (xs.length : Int) - 1 := by rw [wrap_ok] <;> omega
        simp -implicitDefEqProofs [-indexAddrP_some, lx, ly, c2, s3, ixm, s4, wq, wm]
        -- turning round
        generalize ht : a ++ x :: b = t at hres hK htl H4
        refine R_loopO (fun n s h5 => ∃ p : Nat, 2 * p ≤ t.length + 1 ∧ n = t.length + 1 - 2 * p ∧ s = [(0, .slice oa xs.length c), (5, .int .i64 (q + 1 + p : Nat)), (6, .int .i64 ((xs.length : Int) - 1 - p))] ∧ Keeps (rowV (.slice oa xs.length c)) h2 h5 ∧
          Holds h0 h5 [.own (.slice oa xs.length c) 1 ((xs.take q ++ y :: revP p t).map encI)]) (fun I3 hI3 n s h5 => ?_) (n := t.length + 1)
          ⟨0, by omega, by omega, by simp, k3.trans k4, by rw [revP_zero]; exact H4⟩
        rintro ⟨p, hp, rfl, rfl, k5, H5⟩
        have hrl : (revP p t).length = t.length := revP_len
        by_cases hlt2 : 2 * p + 1 < t.length
        · obtain ⟨u, hu, _⟩ := drop_at (show p < t.length by omega)
          obtain ⟨w, hw, _⟩ := drop_at (show t.length - 1 - p < t.length by omega)
          have gu : (revP p t)[p]? = some u := by rw [revP_get (by omega), if_neg (by omega), hu]; rfl
          have gw : (revP p t)[t.length - 1 - p]? = some w := by rw [revP_get (by omega), if_neg (by omega), hw]; rfl
          have gu' : (xs.take q ++ y :: revP p t)[q + 1 + p]? = some u := by
            rw [List.getElem?_append_right (by omega), htq, show q + 1 + p - q = p + 1 by omega, List.getElem?_cons_succ]; exact gu
          have gw' : (xs.take q ++ y :: revP p t)[q + 1 + (t.length - 1 - p)]? = some w := by
            rw [List.getElem?_append_right (by omega), htq, show q + 1 + (t.length - 1 - p) - q = (t.length - 1 - p) + 1 by omega, List.getElem?_cons_succ]; exact gw
          have lu := load_I (H5.sees 0 rfl) gu'
          have lw := load_I (H5.sees 0 rfl) gw'
          have eb : ((xs.length : Int) - 1 - p) = ((q + 1 + (t.length - 1 - p) : Nat) : Int) := by omega
          rw [eb]
          have hlt3 : ((q + 1 + p : Nat) : Int) < ((q + 1 + (t.length - 1 - p) : Nat) : Int) := by omega
          have hll : (xs.take q ++ y :: revP p t).length = xs.length := by rw [List.length_append, List.length_cons, hrl, htq]; omega
          obtain ⟨h6, s6, H6, k6⟩ := put_I H5 0 rfl (j := q + 1 + p) (by rw [hll]; omega) w
          have ix6 : indexAddrP P h6 t_S_int (.slice oa xs.length c) (.int .i64 (q + 1 + (t.length - 1 - p) : Nat)) = some (.pointer (some (addP (base (.slice oa xs.length c)) (q + 1 + (t.length - 1 - p))))) := by
            obtain ⟨z, hz, _⟩ := drop_at (show q + 1 + (t.length - 1 - p) < ((xs.take q ++ y :: revP p t).set (q + 1 + p) w).length by rw [List.length_set, hll]; omega)
            exact (load_I (H6.sees 0 rfl) hz).1
          obtain ⟨h7, s7, H7, k7⟩ := put_I H6 0 rfl (j := q + 1 + (t.length - 1 - p)) (by rw [List.length_set, hll]; omega) u
          simp only [List.set_cons_zero] at H7
          have e4 : ((xs.take q ++ y :: revP p t).set (q + 1 + p) w).set (q + 1 + (t.length - 1 - p)) u = xs.take q ++ y :: revP (p + 1) t := by
            rw [List.set_append_right (h := by omega), htq, show q + 1 + p - q = p + 1 by omega, List.set_cons_succ, List.set_append_right (h := by omega), htq, show q + 1 + (t.length - 1 - p) - q = (t.length - 1 - p) + 1 by omega, List.set_cons_succ, revP_step hlt2 hu hw]
          rw [e4] at H7
          obtain ⟨A, hA⟩ : ∃ A : Nat, A = q + 1 + p := ⟨_, rfl⟩
          obtain ⟨B, hB⟩ : ∃ B : Nat, B = q + 1 + (t.length - 1 - p) := ⟨_, rfl⟩
          rw [← hA, ← hB] at hlt3
          rw [← hA] at lu s6
          rw [← hB] at lw ix6 s7
          rw [← hA, ← hB]
          have hltN : A < B := by omega
          have wA := winc (show A < xs.length by omega) (by omega)
          have wB : IntKind.i64.wrap ((B : Int) - 1) = (B : Int) - 1 := by rw [wrap_ok] <;> omega
          simp -implicitDefEqProofs [-indexAddrP_some, hltN, lu, lw, s6, ix6, s7, wA, wB]
          refine ⟨t.length + 1 - 2 * (p + 1), by omega, on hI3 ⟨p + 1, by omega, rfl, ?_, k5.trans (k6.trans k7), H7⟩⟩
          simp; omega
        · rw [revP_end (by omega)] at H5
          have hnl : ¬ ((q : Int) + 1 + (p : Int)) < (xs.length : Int) - 1 - p := by omega
          simp -implicitDefEqProofs [hnl]
          refine onK hK ⟨rfl, ?_, keeps_gc k5⟩
          rw [Option.getD_some]
          exact (Holds.gcR H0 H5 rfl).own 0 rfl
end Go.Pm.PP

/- What is seen stands where a box is written; what may be written in a head; numbers up to n. -/
set_option linter.unusedVariables false
set_option linter.unusedSimpArgs false
set_option maxRecDepth 4000
set_option maxHeartbeats 4000000
namespace Go.Pm.PP
open Go.Pm Go.Proofs
theorem Sees.boxK {h h' : Hp} {v : Value} {sz r : Nat} {els : List (List Value)} {cs : List Value} {ro : Bool} (s : Sees h v sz els) (hz : 0 < sz) (hb : h[r]? = some (some ⟨cs, 0, ro⟩)) (k : Keeps (some r) h h') : Sees h' v sz els := by
  refine Go.Pm.Sees.keeps s k fun j hj hv => ?_
  cases hj
  obtain ⟨_, oa, c, rfl, h3⟩ := s
  rcases h3 with ⟨rfl, _, _⟩ | ⟨r', o, x, rfl, h5, h6, _⟩
  · cases hv
  · cases hv
    rw [hb] at h5
    cases h5
    have h7 : (0 : Nat) = sz := h6
    omega
theorem nr_mod {b : Nat} {h h' : Hp} (n : NR b h') (m : NR h.length h') (hp : h.take b <+: h') : modOk b h h' := ⟨m.1, hp, by
  rw [List.all_eq_true]
  intro x hx
  cases x with
  | none => rfl
  | some x =>
    obtain ⟨k, hk⟩ := List.getElem?_of_mem hx
    rw [List.getElem?_drop] at hk
    simp [n.2 _ x (by omega) hk]⟩
theorem nr_self {h : Hp} : NR h.length h := ⟨Nat.le_refl _, fun r x hr hx => by rw [List.getElem?_eq_none hr] at hx; cases hx⟩
theorem app_mod {b : Nat} {h h1 h' : Hp} {t : TypeId} {s x v : Value} (hb : h.length = b) (n : NR b h1) (e : appendP P h1 t s x = some (v, h')) (hp : h <+: h1) (hp' : h <+: h') : modOk b h1 h' :=
  nr_mod (append_nr n e) (append_nr nr_self e) (by
    subst hb
    obtain ⟨l, rfl⟩ := hp
    rw [List.take_left' rfl]
    exact hp')
end Go.Pm.PP
namespace Go.Pm
theorem Holds.one {h0 h : Hp} {L : List Asn} {A : Asn} (H : Holds h0 h L) (i : Nat) (hi : L[i]? = some A) : Holds h0 h [A] :=
  H.sub (fun _ => i) (fun j B hB => by
    match j, hB with
    | 0, hB => cases hB; exact hi
    | j + 1, hB => cases hB) fun j k B C hB hC _ => by
    match j, k, hB, hC with
    | 0, 0, _, _ => rfl
    | j + 1, _, hB, _ => cases hB
    | _, k + 1, _, hC => cases hC
end Go.Pm

/- The best order of jobs: the reference's search. -/
set_option linter.unusedVariables false
set_option linter.unusedSimpArgs false
set_option maxRecDepth 4000
set_option maxHeartbeats 8000000
namespace Go.Pm.PP
open Go.Pm Go.Proofs Go.Pm.PE
/-- What a search has found. -/
structure Sr where
  o : List Int
  v : Int
  c : Int
def valX (o : Int) (js : List Job) (xs : List Int) : Int := valE o js (endsL js xs)
theorem Sees.gcU {h0 h : Hp} {v u : Value} {sz : Nat} {els : List (List Value)} (s : Sees h v sz els) (hu : plain u = true → plainC v = true) : Sees (gc h0 h u) v sz els := by
  rcases gc_cases h0 h u with g | ⟨hp, g⟩ <;> rw [g]
  · exact s
  · have hv := hu hp
    obtain ⟨h1, oa, c, rfl, h3⟩ := s
    rcases h3 with ⟨rfl, rfl, rfl⟩ | ⟨r, o, x, rfl, _⟩
    · exact ⟨by simp, none, 0, rfl, .inl ⟨rfl, rfl, rfl⟩⟩
    · cases hv
/-- An order of all jobs. -/
structure Ord (n : Nat) (xs : List Int) : Prop where
  len : xs.length = n
  inn : inN n xs
  nd : xs.Nodup
theorem Ord.all {n : Nat} {xs : List Int} (o : Ord n xs) {i : Nat} (hi : i < n) : (i : Int) ∈ xs :=
  pigeon xs (upTo n) o.nd (fun x hx => mem_upTo.2 (o.inn x hx)) (by rw [upTo_len, o.len]; omega) i (mem_upTo.2 (by omega))
section
variable {h : Hp} {v u : Value} {js : List Job} {xs : List Int} {o : Int}
theorem l2Value_run (hj : Jobs h v js) (hu : Ints h u xs) (hg : goodL js = true) (hn : js.length ≤ 8) (ho : 1 ≤ o ∧ o ≤ 8) (hx : Ord js.length xs) : Ret P G n_spec_l2Value [v, u, .int .i64 o] h (.int .i64 (valX o js xs)) h := by
  refine enter_run e_spec_l2Value (by simp) ?_
  have hjs := hj
  obtain ⟨oj, cj, rfl⟩ := hj.shapeT
  simp -implicitDefEqProofs
  refine CL_post (l2Ends_run hjs hu hg hn (by rw [hx.len]; exact hn) hx.inn hx.nd fun i hi => hx.all hi) fun v1 h1 ⟨hp1, ho1, hb1⟩ => ?_
  have r := l2Of_run (o := o) (hjs.pre hp1) ho1.sees hg hn endsL_len (fun e he => by have := hb1 e he; omega) ho
  simp -implicitDefEqProofs [CL_ret r]
  exact ⟨rfl, gcP hp1 rfl⟩
theorem valueOf_run (hj : Jobs h v js) (hu : Ints h u xs) (hg : goodL js = true) (hn : js.length ≤ 8) (ho : 1 ≤ o ∧ o ≤ 8) (hx : Ord js.length xs) : Ret P G n_impl_valueOf [v, u, .int .i64 o] h (.int .i64 (valX o js xs)) h := by
  refine enter_run e_impl_valueOf (by simp) ?_
  have hjs := hj
  obtain ⟨oj, cj, rfl⟩ := hj.shapeT
  simp -implicitDefEqProofs
  refine CL_post (endsOf_run hjs hu hg hn (by rw [hx.len]; exact hn) hx.inn) fun v1 h1 ⟨hp1, ho1, hb1⟩ => ?_
  have r := valueOfEnds_run (o := o) (hjs.pre hp1) ho1.sees hg hn endsL_len (fun e he => by have := hb1 e he; omega) ho
  simp -implicitDefEqProofs [CL_ret r]
  exact ⟨rfl, gcP hp1 rfl⟩
end
abbrev sv3 (v : Value) (b : Sr) : Value := .agg #[v, .int .i64 b.v, .int .i64 b.c]
theorem plain3 {v : Value} {b : Sr} (hp : plain (sv3 v b) = true) : plainC v = true := by simpa [plain, plainC] using hp
end Go.Pm.PP

/- The best order of jobs: both. -/
set_option linter.unusedVariables false
set_option linter.unusedSimpArgs false
set_option maxRecDepth 4000
set_option maxHeartbeats 8000000
namespace Go.Pm.PE
theorem perms_perm : ∀ {n : Nat} {l p : List Int}, l.length = n → p ∈ perms l n → p.Perm l
  | 0, l, p, h, hp => by
    rw [List.eq_nil_of_length_eq_zero h]
    simp [perms] at hp
    rw [hp]
  | n + 1, l, p, h, hp => by
    rw [perms, List.mem_flatMap] at hp
    obtain ⟨i, hi, hp⟩ := hp
    have hi : i < l.length := by simpa [List.mem_range'_1] using hi
    obtain ⟨q, hq, rfl⟩ := List.mem_map.1 hp
    have h1 := perms_perm (by rw [List.length_eraseIdx_of_lt hi]; omega) hq
    obtain ⟨x, hx, hd⟩ := drop_at hi
    rw [hx, Option.getD_some]
    refine (List.Perm.cons x h1).trans ?_
    have e : l = l.take i ++ x :: l.drop (i + 1) := by conv => lhs; rw [← List.take_append_drop i l, hd]
    rw [List.eraseIdx_eq_take_drop_succ]
    conv => rhs; rw [e]
    exact List.perm_middle.symm
end Go.Pm.PE
namespace Go.Pm
/-- What stands in between is let go. -/
theorem Holds.cut {h0 h : Hp} {A B C : List Asn} (H : Holds h0 h ((A ++ B) ++ C)) : Holds h0 h (A ++ C) := by
  refine Holds.weak (T := B) (H.perm ?_)
  rw [List.append_assoc, List.append_assoc]
  exact List.Perm.append_left A List.perm_append_comm
end Go.Pm
namespace Go.Pm.PP
open Go.Pm Go.Proofs Go.Pm.PE
def ordsL (n : Nat) : List (List Int) := perms (upTo n) n
theorem up_rem {n : Nat} : rem n [] = upTo n := by rw [rem_nil, upTo, List.range_eq_range']
theorem up_asc {n : Nat} : (upTo n).Pairwise (· < ·) := by
  refine List.Pairwise.map _ (fun a b h => ?_) List.pairwise_lt_range
  omega
theorem ords_ord {n : Nat} {xs : List Int} (h : xs ∈ ordsL n) : Ord n xs := by
  have p := perms_perm (upTo_len n) h
  exact ⟨by rw [p.length_eq, upTo_len], fun x hx => mem_upTo.1 (p.mem_iff.1 hx), p.nodup_iff.2 (upTo_nodup n)⟩
def sr0 : Sr := ⟨[], 0, 0⟩
theorem plainT {vo : Value} {r : List Value} (h : plain (.tuple (vo :: r).toArray) = true) : plainC vo = true := by
  have : ((vo :: r).toArray : Array Value).toList.all plainC = true := h
  simp only [List.all_cons, Bool.and_eq_true] at this
  exact this.1
/-! ### all orders by the program -/
theorem numbersTo_run {h : Hp} {n : Nat} (hn : n ≤ 2 ^ 30) : RunsC P G n_impl_numbersTo [.int .i64 n] h fun v h' => h <+: h' ∧ Own h.length h' v 1 ((upTo n).map encI) := by
  refine hideC fun K hK => enter_run e_impl_numbersTo (by simp) ?_
  have H0 := own_nil (Holds.start (h := h)) Int encI 1
  simp -implicitDefEqProofs
  refine R_loopO (fun m s h' => ∃ (i : Nat) (u : Value), i + m = n ∧ s = [(0, .int .i64 n), (3, u), (4, .int .i64 i)] ∧ Holds h h' [.own u 1 ((upTo i).map encI)]) (fun I hI m s h' => ?_) (n := n) ⟨0, _, Nat.zero_add _, by simp; rfl, by simpa [upTo] using H0⟩
  rintro ⟨i, u, hi, rfl, H⟩
  by_cases hlt : i < n
  · have hlt' : (i : Int) < n := by omega
    obtain ⟨v', h2, ha, H2, _⟩ := push_I0 H 0 rfl (i : Int) (by rw [upTo_len]; omega)
    simp -implicitDefEqProofs [hlt, hlt', ha, winc hlt (by omega)]
    refine ⟨m - 1, by omega, on hI ⟨i + 1, v', by omega, rfl, ?_⟩⟩
    have e : upTo (i + 1) = upTo i ++ [(i : Int)] := by simp [upTo, List.range_succ]
    rw [e]
    exact H2
  · have hlt' : ¬ (i : Int) < n := by omega
    have e : i = n := by omega
    subst e
    simp -implicitDefEqProofs [hlt']
    exact onK hK (H.ret 0 rfl)
theorem eachOrder_run {hb : Hp} {g : FuncId} {c : Array Value} {n : Nat} (hn : n ≤ 8) {Q : Nat → List Asn → Prop} (gq : ∀ i BX i' BX' h h' L u, Q i BX → Q i' BX' → Holds hb h (BX ++ L) → Holds hb h' (BX' ++ L) → Holds hb (gc h h' u) (BX' ++ L))
    (tell : ∀ i xs h BX vg, Q i BX → (ordsL n)[i]? = some xs → Holds hb h (BX ++ [.own vg 1 (xs.map encI)]) → RunsC P G g (vg :: c.toList) h fun v h' => ∃ BX', Q (i + 1) BX' ∧ ∀ L, Holds hb h (BX ++ L) → Holds hb h' (BX' ++ L))
    {h : Hp} {BX : List Asn} (hQ : Q 0 BX) (HB : Holds hb h (BX ++ [])) :
    RunsC P G n_impl_eachOrder [.int .i64 n, .func (.func g) #[] c] h fun v h' => ∃ BX', Q (ordsL n).length BX' ∧ ∀ L, Holds hb h (BX ++ L) → Holds hb h' (BX' ++ L) := by
  refine hideC fun K hK => enter_run e_impl_eachOrder (by simp) ?_
  obtain ⟨pm1, pm2, pm3⟩ := perms_main (upTo_len n) up_asc
  simp -implicitDefEqProofs
  refine CL_post (numbersTo_run (by omega)) fun v0 h0 ⟨hp0, ho0⟩ => ?_
  obtain ⟨o0, n0, c0, rfl⟩ : ∃ a n c, v0 = .slice a n c := by obtain ⟨a, c, e⟩ := ho0.sees.shape; exact ⟨_, _, _, e⟩
  have first : ∀ L, Holds hb h (BX ++ L) → Holds hb h0 (BX ++ ([.own (.slice o0 n0 c0) 1 ((upTo n).map encI)] ++ L)) := fun L HL => by
    have := Holds.joinT (L := BX) (T := L) (A := [.own (.slice o0 n0 c0) 1 ((upTo n).map encI)]) (M := []) HL ((Holds.start (h := h)).call hp0 ho0)
    simpa [List.append_assoc] using this
  simp -implicitDefEqProofs
  refine R_loopO (fun m st hk => ∃ (i : Nat) (xs : List Int) (BXk : List Asn), (ordsL n)[i]? = some xs ∧ i + m = (ordsL n).length ∧ st = [(1, .func (.func g) #[] c), (4, .slice o0 n0 c0)] ∧ Q i BXk ∧
    (∀ L, Holds hb h (BX ++ L) → Holds hb hk (BXk ++ ([.own (.slice o0 n0 c0) 1 (xs.map encI)] ++ L)))) (fun I hI m st hk => ?_) (n := (ordsL n).length)
    ⟨0, upTo n, BX, pm1, Nat.zero_add _, by simp, hQ, first⟩
  rintro ⟨i, xs, BXk, hxs, him, rfl, hQk, I1⟩
  have ox := ords_ord (List.mem_of_getElem? hxs)
  have hil := (List.getElem?_eq_some_iff.1 hxs).1
  have HA : Holds hb hk (BXk ++ [.own (.slice o0 n0 c0) 1 (xs.map encI)]) := by simpa using I1 [] HB
  simp -implicitDefEqProofs
  refine CL_post (tell i xs hk BXk _ hQk hxs HA) fun v h2 ⟨BX', hQ', F2⟩ => ?_
  have H2 := F2 _ HA
  have H2o := H2.one BX'.length (A := .own (.slice o0 n0 c0) 1 (xs.map encI)) (by rw [List.getElem?_append_right (Nat.le_refl _), Nat.sub_self]; rfl)
  simp -implicitDefEqProofs
  refine CL_post (nextOrder_run H2o (by rw [ox.len]; omega) ox.nd) fun r h3 ⟨er, ow3, k3⟩ => ?_
  subst er
  have J1 : ∀ L, Holds hb h (BX ++ L) → Holds hb h3 (BX' ++ ([.own (.slice o0 n0 c0) 1 (((nextP xs).getD xs).map encI)] ++ L)) := fun L HL => by
    have h1 := F2 _ (I1 L HL)
    have h2 := h1.upd (i := BX'.length) (A := .own (.slice o0 n0 c0) 1 (xs.map encI)) (B := .own (.slice o0 n0 c0) 1 (((nextP xs).getD xs).map encI)) (by rw [List.getElem?_append_right (Nat.le_refl _), Nat.sub_self]; rfl) k3 ow3 fun r hr => .inl hr
    rw [List.set_append_right (h := Nat.le_refl _), Nat.sub_self] at h2
    exact h2
  cases hnx : nextP xs with
  | some xs' =>
    rw [hnx] at J1
    have hi1 : (ordsL n)[i + 1]? = some xs' := by rw [← hnx]; exact (pm2 i xs hxs).symm
    simp -implicitDefEqProofs
    exact ⟨m - 1, by omega, on hI ⟨i + 1, xs', BX', hi1, by omega, rfl, hQ', J1⟩⟩
  | none =>
    rw [hnx] at J1
    have hi1 : (ordsL n)[i + 1]? = none := by rw [← hnx]; exact (pm2 i xs hxs).symm
    have hlen : (ordsL n).length = i + 1 := by have := List.getElem?_eq_none_iff.1 hi1; omega
    simp -implicitDefEqProofs
    rw [hlen] at hK
    refine onK hK ⟨BX', hQ', fun L HL => ?_⟩
    have h1 := J1 L HL
    have h2 : Holds hb h3 (BX' ++ L) := by
      refine Holds.weak (T := [.own (.slice o0 n0 c0) 1 (xs.map encI)]) (h1.perm ?_)
      rw [List.append_assoc]
      exact List.Perm.append_left BX' List.perm_append_comm
    exact gq _ _ _ _ _ _ _ _ hQ hQ' HL h2
theorem load_pre {hb h' : Hp} {r n : Nat} {cs : List Value} (hp : hb <+: h') (hr : hb[r]? = some (some ⟨cs, 0, false⟩)) (hn : cs.length = n) (t : TypeId) : loadP P h' t (.pointer (some ⟨r, 0, some n⟩)) = rowLoad P t ⟨cs, 0, false⟩ 0 := by
  have h5 : h'[r]? = some (some ⟨cs, 0, false⟩) := by
    obtain ⟨l, rfl⟩ := hp
    rw [List.getElem?_append_left (List.getElem?_eq_some_iff.1 hr).1]; exact hr
  rw [loadP_eq]
  simp only [rowAt, h5, hn, if_true, Option.bind_some]
end Go.Pm.PP

/- Best orders and exchanges of neighbours, in plain terms. -/
set_option linter.unusedVariables false
set_option linter.unusedSimpArgs false
namespace Go.Pm.PE
theorem perms_all : ∀ {n : Nat} {l xs : List Int}, l.length = n → xs.Perm l → xs ∈ perms l n
  | 0, l, xs, h, hp => by
    have hl : l = [] := List.eq_nil_of_length_eq_zero h
    subst hl
    rw [List.perm_nil.1 hp]; simp [perms]
  | n + 1, l, [], h, hp => by
    have := hp.length_eq
    rw [h] at this; simp at this
  | n + 1, l, x :: r, h, hp => by
    have hx : x ∈ l := hp.mem_iff.1 (List.mem_cons_self ..)
    obtain ⟨i, hi⟩ := List.getElem?_of_mem hx
    have hil := (List.getElem?_eq_some_iff.1 hi).1
    have e : l.Perm (x :: l.eraseIdx i) := by
      have e2 : l = l.take i ++ x :: l.drop (i + 1) := by
        obtain ⟨y, hy, hd⟩ := drop_at hil
        rw [hi] at hy; cases hy
        conv => lhs; rw [← List.take_append_drop i l, hd]
      rw [List.eraseIdx_eq_take_drop_succ]
      conv => lhs; rw [e2]
      exact List.perm_middle
    have hr : r.Perm (l.eraseIdx i) := (List.perm_cons x).1 (hp.trans e)
    rw [perms, List.mem_flatMap]
    refine ⟨i, by simp [List.mem_range'_1, hil], List.mem_map.2 ⟨r, perms_all (by rw [List.length_eraseIdx_of_lt hil]; omega) hr, ?_⟩⟩
    rw [hi, Option.getD_some]
end Go.Pm.PE
namespace Go.Pm.PP
open Go.Pm Go.Pm.PE
theorem ord_mem {n : Nat} {xs : List Int} (h : Ord n xs) : xs ∈ ordsL n := by
  refine perms_all (upTo_len n) ((List.perm_ext_iff_of_nodup h.nd (upTo_nodup n)).2 fun x => ?_)
  rw [mem_upTo]
  refine ⟨fun hx => h.inn x hx, fun hx => ?_⟩
  have := h.all (i := x.toNat) (by omega)
  rwa [show ((x.toNat : Nat) : Int) = x by omega] at this
/-! ### exchanges of neighbours -/
def swp (xs : List Int) (i : Nat) : List Int := (xs.set i (gE xs (i + 1))).set (i + 1) (gE xs i)
def gn (f : List Int → Int) (xs : List Int) (i : Nat) : Int := f xs - f (swp xs i)
/-- The first place from i on, of m places, at which an exchange gains. -/
def nxGo (f : List Int → Int) (xs : List Int) : Nat → Nat → Option Nat
  | i, 0 => none
  | i, m + 1 => if 0 < gn f xs i then some i else nxGo f xs (i + 1) m
def nxt (f : List Int → Int) (xs : List Int) : Option Nat := nxGo f xs 0 (xs.length - 1)
end Go.Pm.PP

/- Typed rules for slices: printed by a program of this work (wrap.py). -/
set_option linter.unusedVariables false
set_option linter.unusedSimpArgs false
set_option maxRecDepth 4000
namespace Go.Pm.PP
def encU (x : Int) : List Value := [.int .u8 x]
open Go.Pm Go.Proofs
theorem load_U {h : Hp} {v : Value} {xs : List (Int)} {i : Nat} {x : Int} (hv : Sees h v 1 (xs.map encU)) (hx : xs[i]? = some x) :
    indexAddrP P h t_S_u8 v (.int .i64 i) = some (.pointer (some (addP (base v) (i)))) ∧ loadP P h t_u8 (.pointer (some (addP (base v) (i)))) = some (.int .u8 x) := by
  have hi := (List.getElem?_eq_some_iff.1 hx).1
  have h1 := hv.indexT (P := P) u_S_u8 i_u8 (k := .i64) (j := i) (by omega) (by omega)
  rw [Int.toNat_natCast] at h1
  have h2 := hv.cellT (P := P) (ty := t_u8) a_u8 i_u8 hx (k := 0) (by omega)
  exact ⟨by simpa using h1, by simpa [encU] using h2⟩
theorem len_U (xs : List (Int)) : ∀ e ∈ xs.map encU, e.length = 1 := by
  intro e he
  obtain ⟨x, _, rfl⟩ := List.mem_map.1 he
  rfl
end Go.Pm.PP

/- Draws: bytes, numbers, one of some. -/
set_option linter.unusedVariables false
set_option linter.unusedSimpArgs false
set_option maxRecDepth 4000
set_option maxHeartbeats 8000000
namespace Go.Pm.PP
open Go.Pm Go.Proofs Go.Pm.PE
/-- A cursor over bytes. -/
abbrev cu (r : Nat) (vc : Value) (at' sd : Int) : Asn := .box r [vc, .int .i64 at', .int .u64 sd]
/-- A code that is read. -/
def By (h0 : Hp) (vc : Value) : Prop := ∃ bs : List Int, Sees h0 vc 1 (bs.map encU) ∧ (∀ b, b ∈ bs → 0 ≤ b ∧ b ≤ 255) ∧ bs.length ≤ 2 ^ 20
def Cur (h0 h : Hp) (r : Nat) (vc : Value) (n : Nat) (L : List Asn) : Prop := ∃ a s : Int, 0 ≤ a ∧ a ≤ n ∧ Holds h0 h (cu r vc a s :: L)
section
variable {h0 h h' : Hp} {r n m : Nat} {vc u w : Value} {L T : List Asn}
theorem Cur.mono (C : Cur h0 h r vc n L) (hm : n ≤ m) : Cur h0 h r vc m L := by
  obtain ⟨a, s, h1, h2, H⟩ := C
  exact ⟨a, s, h1, by omega, H⟩
theorem Cur.weak (C : Cur h0 h r vc n (L ++ T)) : Cur h0 h r vc n L := by
  obtain ⟨a, s, h1, h2, H⟩ := C
  exact ⟨a, s, h1, h2, Holds.weak (T := T) H⟩
theorem Cur.pre (C : Cur h0 h r vc n L) : h0 <+: h := by
  obtain ⟨a, s, h1, h2, H⟩ := C
  exact H.pre
/-- At a function's end. -/
theorem Cur.gc (C : Cur h0 h r vc n L) (C' : Cur h0 h' r vc m L) : Cur h0 (gc h h' u) r vc m L := by
  obtain ⟨a, s, _, _, H⟩ := C
  obtain ⟨a', s', h1, h2, H'⟩ := C'
  exact ⟨a', s', h1, h2, H.gcR H' rfl⟩
theorem Cur.gcO {sz : Nat} {els : List (List Value)} (C : Cur h0 h r vc n L) (C' : Cur h0 h' r vc m (L ++ [.own w sz els])) (hu : plain u = true → plainC w = true) : Cur h0 (Pm.gc h h' u) r vc m (L ++ [.own w sz els]) := by
  obtain ⟨a, s, _, _, H⟩ := C
  obtain ⟨a', s', h1, h2, H'⟩ := C'
  refine ⟨a', s', h1, h2, ?_⟩
  rcases gc_cases h h' u with g | ⟨hp, g⟩
  · rw [g]; exact H'
  · have G := H.gcR (u := u) (L' := cu r vc a' s' :: L) (Holds.weak (L := cu r vc a' s' :: L) (T := [.own w sz els]) H') rfl
    rw [g] at G ⊢
    have hw := hu hp
    have ho := H'.own (L.length + 1) (v := w) (sz := sz) (els := els) (by
      rw [List.getElem?_cons_succ, List.getElem?_append_right (Nat.le_refl _), Nat.sub_self]; rfl)
    have hn : els = [] := by
      rcases ho.2 with ⟨_, h2⟩ | ⟨_, _, _, _, _, h2, _⟩
      · exact h2
      · rw [h2] at hw; cases hw
    subst hn
    have hw2 : w = nilV := by
      obtain ⟨a, c, e⟩ := ho.sees.shape
      rw [e] at hw ⊢
      simp only [List.length_nil] at hw ⊢
      match a, c, hw with
      | none, 0, _ => rfl
    subst hw2
    exact G.call List.prefix_rfl Own.nil
end
theorem wrap_u64 {n : Int} (h1 : 0 ≤ n) (h2 : n ≤ 255) : IntKind.u64.wrap n = n := by
  unfold IntKind.wrap
  simp [IntKind.signed, IntKind.bits]
  omega
theorem and_bd (p : Nat) : 0 ≤ IntKind.i64.wrap (IntKind.u64.wrap ↑(p &&& (255 % 2 ^ IntKind.u64.bits : Int).toNat)) ∧ IntKind.i64.wrap (IntKind.u64.wrap ↑(p &&& (255 % 2 ^ IntKind.u64.bits : Int).toNat)) ≤ 255 := by
  have e : (255 % 2 ^ IntKind.u64.bits : Int).toNat = 255 := by decide
  rw [e]
  have : p &&& 255 ≤ 255 := Nat.and_le_right
  rw [wrap_u64 (by omega) (by omega), wrap_ok (by omega) (by omega)]
  omega
theorem emod_le' {a k : Int} (h : 0 ≤ a) (hk : 0 ≤ k) : a % k ≤ a := by
  obtain ⟨n, rfl⟩ := Int.eq_ofNat_of_zero_le h
  obtain ⟨m, rfl⟩ := Int.eq_ofNat_of_zero_le hk
  have := Nat.mod_le n m
  rw [← Int.natCast_emod]
  exact Int.ofNat_le.2 this
theorem cv1 {b : Int} : convP P t_u8 t_int (.int .u8 b) = some (.int .i64 (IntKind.i64.wrap b)) := by unfold convP; rw [u_u8, u_int]
theorem cv2 {b : Int} : convP P t_int t_u64 (.int .i64 b) = some (.int .u64 (IntKind.u64.wrap b)) := by unfold convP; rw [u_int, u_u64]
theorem cv3 {b : Int} : convP P t_u64 t_int (.int .u64 b) = some (.int .i64 (IntKind.i64.wrap b)) := by unfold convP; rw [u_u64, u_int]
theorem shr40 (a : Int) : ∃ z : Int, shiftI .shr .u64 a 40 = some (.int .u64 z) := ⟨_, rfl⟩
section
variable {h0 h : Hp} {r n : Nat} {vc : Value} {L : List Asn}
theorem next_run (B : By h0 vc) (C : Cur h0 h r vc n L) (hn : n ≤ 2 ^ 50) : RunsC P G n_spec_l1Cur_next [.pointer (some ⟨r, 0, some 3⟩)] h fun v h' => ∃ x : Int, v = .int .i64 x ∧ 0 ≤ x ∧ x ≤ 255 ∧ Cur h0 h' r vc (n + 1) L := by
  refine hideC fun K hK => enter_run e_spec_l1Cur_next (by simp) ?_
  have Cs := C
  obtain ⟨bs, Sb, hb, hl⟩ := B
  obtain ⟨a, s, a0, a1, H⟩ := C
  obtain ⟨ob, cb, rfl⟩ := Sb.shapeT
  have Sb' := Sb.pre H.pre
  have l1 := H.bl (P := P) 0 3 rfl rfl
  obtain ⟨h1, s1, H1, _⟩ := H.set (P := P) 0 (n := 3) (o := 1) (ty := t_int) (w := .int .i64 (a + 1)) rfl rfl e_t_int (by simp) (by simp) (by simp)
  have l2 := H1.bl (P := P) 0 3 rfl rfl
  have wa : IntKind.i64.wrap (a + 1) = a + 1 := by rw [wrap_ok] <;> omega
  by_cases c1 : a < bs.length
  · obtain ⟨b, hbb, _⟩ := drop_at (show a.toNat < bs.length by omega)
    have lb := load_U Sb' hbb
    rw [show ((a.toNat : Nat) : Int) = a by omega] at lb
    have hb' := hb b (List.mem_of_getElem? hbb)
    have wb : IntKind.i64.wrap b = b := by rw [wrap_ok] <;> omega
    have c2 : a + 1 ≤ bs.length := by omega
    obtain ⟨h2, s2, H2, _⟩ := H1.set (P := P) 0 (n := 3) (o := 2) (ty := t_u64) (w := .int .u64 (IntKind.u64.wrap (IntKind.u64.wrap (IntKind.u64.wrap (s * 6364136223846793005) + IntKind.u64.wrap b) + 462197))) rfl rfl e_t_u64 (by simp) (by simp) (by simp)
    have l3 := H2.bl (P := P) 0 3 rfl rfl
    simp -implicitDefEqProofs [-indexAddrP_some, l1, c1, lb, wb, wa, s1, l2, s2, l3, c2, cv1, cv2, cv3]
    exact onK hK ⟨b, rfl, hb'.1, hb'.2, Cs.gc ⟨a + 1, _, by omega, by omega, H2⟩⟩
  · have c2 : ¬ a + 1 ≤ bs.length := by omega
    obtain ⟨h2, s2, H2, _⟩ := H1.set (P := P) 0 (n := 3) (o := 2) (ty := t_u64) (w := .int .u64 (IntKind.u64.wrap (IntKind.u64.wrap (IntKind.u64.wrap (s * 6364136223846793005) + IntKind.u64.wrap 0) + 462197))) rfl rfl e_t_u64 (by simp) (by simp) (by simp)
    have l3 := H2.bl (P := P) 0 3 rfl rfl
    obtain ⟨z, hz⟩ := shr40 (IntKind.u64.wrap (IntKind.u64.wrap (IntKind.u64.wrap (s * 6364136223846793005) + IntKind.u64.wrap 0) + 462197))
    simp -implicitDefEqProofs [-indexAddrP_some, l1, c1, wa, s1, l2, s2, l3, c2, cv1, cv2, cv3, hz]
    exact onK hK ⟨_, rfl, (and_bd _).1, (and_bd _).2, Cs.gc ⟨a + 1, _, by omega, by omega, H2⟩⟩
theorem pick_run (B : By h0 vc) (C : Cur h0 h r vc n L) (hn : n ≤ 2 ^ 40) {k : Int} (hk : k ≤ 2 ^ 40) : RunsC P G n_spec_l1Cur_pick [.pointer (some ⟨r, 0, some 3⟩), .int .i64 k] h fun v h' => ∃ x : Int, v = .int .i64 x ∧ 0 ≤ x ∧ x ≤ 2 ^ 20 ∧ (1 ≤ k → x < k) ∧ Cur h0 h' r vc (n + 2) L := by
  refine hideC fun K hK => enter_run e_spec_l1Cur_pick (by simp) ?_
  by_cases c0 : k ≤ 1
  · simp -implicitDefEqProofs [c0]
    exact onK hK ⟨0, rfl, by omega, by omega, fun h => by omega, C.mono (by omega)⟩
  · simp -implicitDefEqProofs [c0]
    refine CL_post (next_run B C (by omega)) fun v h1 ⟨x, ev, x0, x1, C1⟩ => ?_
    subst ev
    have k0 : ¬ k = 0 := by omega
    by_cases c1 : 200 < k
    · have w1 : IntKind.i64.wrap (x * 256) = x * 256 := by rw [wrap_ok] <;> omega
      simp -implicitDefEqProofs [c1, w1]
      refine CL_post (next_run B C1 (by omega)) fun v h2 ⟨y, ev, y0, y1, C2⟩ => ?_
      subst ev
      have w2 : IntKind.i64.wrap (x * 256 + y) = x * 256 + y := by rw [wrap_ok] <;> omega
      have e : (x * 256 + y).tmod k = (x * 256 + y) % k := Int.tmod_eq_emod_of_nonneg (by omega)
      have m1 := Int.emod_nonneg (x * 256 + y) k0
      have m2 := Int.emod_lt_of_pos (x * 256 + y) (show 0 < k by omega)
      have m3 : (x * 256 + y) % k ≤ x * 256 + y := emod_le' (by omega) (by omega)
      simp -implicitDefEqProofs [w2, k0, e]
      exact onK hK ⟨_, rfl, m1, by omega, fun _ => m2, C.gc C2⟩
    · have e : x.tmod k = x % k := Int.tmod_eq_emod_of_nonneg x0
      have m1 := Int.emod_nonneg x k0
      have m2 := Int.emod_lt_of_pos x (show 0 < k by omega)
      have m3 : x % k ≤ x := emod_le' x0 (by omega)
      simp -implicitDefEqProofs [c1, k0, e]
      exact onK hK ⟨_, rfl, m1, by omega, fun _ => m2, C.gc (C1.mono (by omega))⟩
theorem one_run (B : By h0 vc) (C : Cur h0 h r vc n L) (hn : n ≤ 2 ^ 40) {k : Int} (hk : k ≤ 2 ^ 40) : RunsC P G n_spec_l1Cur_one [.pointer (some ⟨r, 0, some 3⟩), .int .i64 k] h fun v h' => ∃ b : Bool, v = .bool b ∧ Cur h0 h' r vc (n + 2) L := by
  refine hideC fun K hK => enter_run e_spec_l1Cur_one (by simp) ?_
  simp -implicitDefEqProofs
  refine CL_post (pick_run B C hn hk) fun v h1 ⟨x, ev, _, _, _, C1⟩ => ?_
  subst ev
  simp -implicitDefEqProofs
  exact onK hK ⟨_, rfl, C.gc C1⟩
theorem among_run (B : By h0 vc) {xs : List Int} {vl : Value} {i : Nat} (C : Cur h0 h r vc n L) (hn : n ≤ 2 ^ 40) (hi : L[i]? = some (.own vl 1 (xs.map encI))) (h1 : 1 ≤ xs.length) (h2 : xs.length ≤ 2 ^ 40) :
    RunsC P G n_spec_l1Cur_among [.pointer (some ⟨r, 0, some 3⟩), vl] h fun v h' => ∃ x : Int, v = .int .i64 x ∧ x ∈ xs ∧ Cur h0 h' r vc (n + 2) L := by
  refine hideC fun K hK => enter_run e_spec_l1Cur_among (by simp) ?_
  have S0 : Ints h vl xs := by obtain ⟨a, s, _, _, H⟩ := C; exact H.sees (i + 1) (by rw [List.getElem?_cons_succ]; exact hi)
  obtain ⟨oa, ca, rfl⟩ := S0.shapeT
  simp -implicitDefEqProofs
  refine CL_post (pick_run B C hn (k := xs.length) (by omega)) fun v h3 ⟨x, ev, x0, _, xk, C1⟩ => ?_
  subst ev
  have hx := xk (by omega)
  have S1 : Ints h3 (.slice oa xs.length ca) xs := by obtain ⟨a, s, _, _, H⟩ := C1; exact H.sees (i + 1) (by rw [List.getElem?_cons_succ]; exact hi)
  obtain ⟨y, hy, _⟩ := drop_at (show x.toNat < xs.length by omega)
  have ly := load_I S1 hy
  rw [show ((x.toNat : Nat) : Int) = x by omega] at ly
  simp -implicitDefEqProofs [-indexAddrP_some, ly]
  exact onK hK ⟨y, rfl, List.mem_of_getElem? hy, C.gc C1⟩
/-- A list that is told. -/
theorem Cur.lit (C : Cur h0 h r vc n L) (xs : List Int) : Cur h0 (h ++ [some ⟨xs.map fun x => .int .i64 x, 1, false⟩]) r vc n (L ++ [.own (.slice (some ⟨h.length, 0, some xs.length⟩) xs.length xs.length) 1 (xs.map encI)]) := by
  obtain ⟨a, s, h1, h2, H⟩ := C
  refine ⟨a, s, h1, h2, ?_⟩
  have e : (xs.map encI).flatten = xs.map fun x => Value.int .i64 x := by
    induction xs with
    | nil => rfl
    | cons x xs ih => rw [List.map_cons, List.flatten_cons, ih]; rfl
  have := H.lit (sz := 1) (n := xs.length) (els := xs.map encI) (len_I xs) (by simp)
  rw [e, List.length_map] at this
  exact this
theorem snoc_get {A : Asn} : (L ++ [A])[L.length]? = some A := by rw [List.getElem?_append_right (Nat.le_refl _), Nat.sub_self]; rfl
theorem objective_run (B : By h0 vc) (C : Cur h0 h r vc n L) (hn : n ≤ 2 ^ 30) : RunsC P G n_spec_l1Cur_objective [.pointer (some ⟨r, 0, some 3⟩)] h fun v h' => ∃ x : Int, v = .int .i64 x ∧ Cur h0 h' r vc (n + 4) L := by
  refine hideC fun K hK => enter_run e_spec_l1Cur_objective (by simp) ?_
  simp -implicitDefEqProofs
  refine CL_post (one_run B C (by omega) (by omega)) fun v h1 ⟨b, ev, C1⟩ => ?_
  subst ev
  cases b
  · simp -implicitDefEqProofs
    refine CL_post (pick_run B C1 (by omega) (k := 8) (by omega)) fun v h2 ⟨x, ev, x0, x1, _, C2⟩ => ?_
    subst ev
    simp -implicitDefEqProofs
    exact onK hK ⟨_, rfl, C.gc (C2.mono (by omega))⟩
  · have C2 := C1.lit [0, 9, -1]
    simp -implicitDefEqProofs
    refine CL_post (among_run B C2 (by omega) snoc_get (by simp) (by simp)) fun v h2 ⟨x, ev, _, C3⟩ => ?_
    subst ev
    simp -implicitDefEqProofs
    exact onK hK ⟨_, rfl, C.gc (C3.weak.mono (by omega))⟩
end
end Go.Pm.PP

/- Draws: jobs and orders. -/
set_option linter.unusedVariables false
set_option linter.unusedSimpArgs false
set_option maxRecDepth 4000
set_option maxHeartbeats 8000000
namespace Go.Pm.PP
open Go.Pm Go.Proofs Go.Pm.PE
section
variable {h0 h : Hp} {r n : Nat} {vc : Value} {L : List Asn}
theorem Cur.alloc (C : Cur h0 h r vc n L) (cs : List Value) : Cur h0 (h ++ [some ⟨cs, 0, false⟩]) r vc n (L ++ [.box h.length cs]) := by
  obtain ⟨a, s, h1, h2, H⟩ := C
  exact ⟨a, s, h1, h2, H.alloc cs⟩
abbrev zJ : List Value := [.int .i64 0, .int .i64 0, .int .i64 0, .int .i64 0]
theorem job_run (B : By h0 vc) (C : Cur h0 h r vc n L) (hn : n ≤ 2 ^ 30) {b : Bool} : RunsC P G n_spec_l1Cur_job [.pointer (some ⟨r, 0, some 3⟩), .bool b] h fun v h' => ∃ j : Job, v = jv j ∧ Cur h0 h' r vc (n + 8) L := by
  refine hideC fun K hK => enter_run e_spec_l1Cur_job (by simp) ?_
  have C0 := C.alloc zJ
  have C1 : Cur h0 (h ++ [some ⟨zJ, 0, false⟩, some ⟨([1, 2, 3, 4, 5, 7, 9] : List Int).map fun x => .int .i64 x, 1, false⟩]) r vc n ((L ++ [.box h.length zJ]) ++ [.own (.slice (some ⟨h.length + 1, 0, some 7⟩) 7 7) 1 (([1, 2, 3, 4, 5, 7, 9] : List Int).map encI)]) := by
    have := C0.lit [1, 2, 3, 4, 5, 7, 9]
    rw [List.append_assoc h, List.length_append] at this
    exact this
  simp -implicitDefEqProofs
  refine CL_post (among_run B C1 (by omega) snoc_get (xs := [1, 2, 3, 4, 5, 7, 9]) (by simp) (by simp)) fun v h1 ⟨x, ev, _, C2⟩ => ?_
  subst ev
  have C3 := C2.weak.lit [0, 1, 1, 2, 3, 5, 8]
  simp -implicitDefEqProofs
  refine CL_post (among_run B C3 (by omega) snoc_get (xs := [0, 1, 1, 2, 3, 5, 8]) (by simp) (by simp)) fun v h2 ⟨y, ev, _, C4⟩ => ?_
  subst ev
  simp -implicitDefEqProofs
  refine CL_post (pick_run B C4.weak (by omega) (k := 24) (by omega)) fun v h3 ⟨z, ev, _, _, _, C5⟩ => ?_
  subst ev
  have C6 := C5.alloc [.int .i64 x, .int .i64 y, .int .i64 0, .int .i64 z]
  have g4 : ∀ {A : Asn} {x : List Value} {T : List Asn}, (A :: ((L ++ [.box h.length x]) ++ T))[L.length + 1]? = some (.box h.length x) := by
    intro A x T
    rw [List.getElem?_cons_succ, List.append_assoc, List.getElem?_append_right (Nat.le_refl _), Nat.sub_self]; rfl
  cases b
  · obtain ⟨a, s, g1, g2, H⟩ := C6
    obtain ⟨h4, s4, H4, _⟩ := H.set (P := P) (L.length + 1) (n := 4) (o := 0) (ty := t_impl_Job) (w := jv ⟨x, y, 0, z⟩) (r := h.length) (cs := zJ) g4 rfl e_t_impl_Job (by simp) (by simp) (by simp)
    have e4 : (cu r vc a s :: ((L ++ [.box h.length zJ]) ++ [.box h3.length [.int .i64 x, .int .i64 y, .int .i64 0, .int .i64 z]])).set (L.length + 1) (.box h.length (splice zJ 0 (jv ⟨x, y, 0, z⟩).cells.toList)) = cu r vc a s :: ((L ++ [.box h.length [.int .i64 x, .int .i64 y, .int .i64 0, .int .i64 z]]) ++ [.box h3.length [.int .i64 x, .int .i64 y, .int .i64 0, .int .i64 z]]) := by
      rw [List.set_cons_succ, List.append_assoc, List.set_append_right (h := Nat.le_refl _), Nat.sub_self, List.append_assoc]; rfl
    rw [e4] at H4
    have s4' : storeP P (h3 ++ [some ⟨[.int .i64 x, .int .i64 y, .int .i64 0, .int .i64 z], 0, false⟩]) 85 (.agg #[.int .i64 x, .int .i64 y, .int .i64 0, .int .i64 z]) (.pointer (some ⟨h.length, 0, some 4⟩)) = some h4 := s4
    have l4 := H4.bl (P := P) (L.length + 1) 4 g4 rfl
    simp -implicitDefEqProofs
    simp -implicitDefEqProofs [-storeP_app0, s4', l4]
    exact onK hK ⟨⟨x, y, 0, z⟩, rfl, C.gc (Cur.weak (T := [.box h.length [.int .i64 x, .int .i64 y, .int .i64 0, .int .i64 z]] ++ [.box h3.length [.int .i64 x, .int .i64 y, .int .i64 0, .int .i64 z]]) ⟨a, s, g1, by omega, by rw [← List.append_assoc]; exact H4⟩)⟩
  · simp -implicitDefEqProofs
    refine CL_post (pick_run B C6 (by omega) (k := 12) (by omega)) fun v h4 ⟨q, ev, _, _, _, C7⟩ => ?_
    subst ev
    obtain ⟨a, s, g1, g2, H⟩ := C7
    have g5 : ∀ {A : Asn} {x : List Value} {B : Asn}, (A :: ((L ++ [B]) ++ [.box h3.length x]))[L.length + 1 + 1]? = some (.box h3.length x) := by
      intro A x B
      rw [List.getElem?_cons_succ, List.append_assoc, List.getElem?_append_right (by omega), Nat.add_sub_cancel_left]; rfl
    obtain ⟨h5, s5, H5, _⟩ := H.set (P := P) (L.length + 1 + 1) (n := 4) (o := 2) (ty := t_int) (w := .int .i64 q) g5 rfl e_t_int (by simp) (by simp) (by simp)
    have e5 : (cu r vc a s :: ((L ++ [.box h.length zJ]) ++ [.box h3.length [.int .i64 x, .int .i64 y, .int .i64 0, .int .i64 z]])).set (L.length + 1 + 1) (.box h3.length (splice [.int .i64 x, .int .i64 y, .int .i64 0, .int .i64 z] 2 (Value.int .i64 q).cells.toList)) = cu r vc a s :: ((L ++ [.box h.length zJ]) ++ [.box h3.length [.int .i64 x, .int .i64 y, .int .i64 q, .int .i64 z]]) := by
      rw [List.set_cons_succ, List.append_assoc, List.set_append_right (h := by omega), Nat.add_sub_cancel_left, List.append_assoc]; rfl
    rw [e5] at H5
    have l5 := H5.bl (P := P) (L.length + 1 + 1) 4 g5 rfl
    obtain ⟨h6, s6, H6, _⟩ := H5.set (P := P) (L.length + 1) (n := 4) (o := 0) (ty := t_impl_Job) (w := jv ⟨x, y, q, z⟩) (r := h.length) (cs := zJ) g4 rfl e_t_impl_Job (by simp) (by simp) (by simp)
    have e6 : (cu r vc a s :: ((L ++ [.box h.length zJ]) ++ [.box h3.length [.int .i64 x, .int .i64 y, .int .i64 q, .int .i64 z]])).set (L.length + 1) (.box h.length (splice zJ 0 (jv ⟨x, y, q, z⟩).cells.toList)) = cu r vc a s :: ((L ++ [.box h.length [.int .i64 x, .int .i64 y, .int .i64 q, .int .i64 z]]) ++ [.box h3.length [.int .i64 x, .int .i64 y, .int .i64 q, .int .i64 z]]) := by
      rw [List.set_cons_succ, List.append_assoc, List.set_append_right (h := Nat.le_refl _), Nat.sub_self, List.append_assoc]; rfl
    rw [e6] at H6
    have s6' : storeP P h5 85 (.agg #[.int .i64 x, .int .i64 y, .int .i64 q, .int .i64 z]) (.pointer (some ⟨h.length, 0, some 4⟩)) = some h6 := s6
    have l6 := H6.bl (P := P) (L.length + 1) 4 g4 rfl
    simp -implicitDefEqProofs [-storeP_app0, s5, l5, s6', l6]
    exact onK hK ⟨⟨x, y, q, z⟩, rfl, C.gc (Cur.weak (T := [.box h.length [.int .i64 x, .int .i64 y, .int .i64 q, .int .i64 z]] ++ [.box h3.length [.int .i64 x, .int .i64 y, .int .i64 q, .int .i64 z]]) ⟨a, s, g1, by omega, by rw [← List.append_assoc]; exact H6⟩)⟩
end
end Go.Pm.PP

/- Draws: spoilt jobs, lists of jobs. -/
set_option linter.unusedVariables false
set_option linter.unusedSimpArgs false
set_option maxRecDepth 4000
set_option maxHeartbeats 8000000
namespace Go.Pm.PP
open Go.Pm Go.Proofs Go.Pm.PE
section
variable {h0 h : Hp} {r n : Nat} {vc : Value} {L : List Asn}
theorem spoiltJob_run (B : By h0 vc) (C : Cur h0 h r vc n L) (hn : n ≤ 2 ^ 30) {j : Job} : RunsC P G n_spec_l1Cur_spoiltJob [.pointer (some ⟨r, 0, some 3⟩), jv j] h fun v h' => ∃ j' : Job, v = jv j' ∧ Cur h0 h' r vc (n + 4) L := by
  refine hideC fun K hK => enter_run e_spec_l1Cur_spoiltJob (by simp) ?_
  have C1 : Cur h0 (h ++ [some ⟨[.int .i64 j.t, .int .i64 j.w, .int .i64 j.r, .int .i64 j.d], 0, false⟩, some ⟨zJ, 0, false⟩]) r vc n ((L ++ [.box h.length (encJ j)]) ++ [.box (h.length + 1) zJ]) := by
    have := (C.alloc (encJ j)).alloc zJ
    rw [List.append_assoc h, List.length_append] at this
    exact this
  have g3 : ∀ {A : Asn} {x : List Value} {T : List Asn}, (A :: ((L ++ [.box h.length x]) ++ T))[L.length + 1]? = some (.box h.length x) := by
    intro A x T
    rw [List.getElem?_cons_succ, List.append_assoc, List.getElem?_append_right (Nat.le_refl _), Nat.sub_self]; rfl
  have g4 : ∀ {A : Asn} {x : List Value} {B : Asn}, (A :: ((L ++ [B]) ++ [.box (h.length + 1) x]))[L.length + 1 + 1]? = some (.box (h.length + 1) x) := by
    intro A x B
    rw [List.getElem?_cons_succ, List.append_assoc, List.getElem?_append_right (by omega), Nat.add_sub_cancel_left]; rfl
  have fin : ∀ (fo : Nat) (q : Int) (j' : Job) (h5 : Hp), fo + 1 ≤ 4 → splice (encJ j) fo [.int .i64 q] = encJ j' → Cur h0 h5 r vc (n + 4) ((L ++ [.box h.length (encJ j)]) ++ [.box (h.length + 1) zJ]) →
      ∃ h6 h7, storeP P h5 t_int (.int .i64 q) (.pointer (some ⟨h.length, fo, some 4⟩)) = some h6 ∧ loadP P h6 85 (.pointer (some ⟨h.length, 0, some 4⟩)) = some (.agg #[.int .i64 j'.t, .int .i64 j'.w, .int .i64 j'.r, .int .i64 j'.d]) ∧
        storeP P h6 85 (.agg #[.int .i64 j'.t, .int .i64 j'.w, .int .i64 j'.r, .int .i64 j'.d]) (.pointer (some ⟨h.length + 1, 0, some 4⟩)) = some h7 ∧ loadP P h7 85 (.pointer (some ⟨h.length + 1, 0, some 4⟩)) = some (.agg #[.int .i64 j'.t, .int .i64 j'.w, .int .i64 j'.r, .int .i64 j'.d]) ∧ ∀ u, K (jv j') (gc h h7 u) := by
    intro fo q j' h5 hfo he ⟨a, s, a0, a1, H⟩
    obtain ⟨h6, s6, H6, _⟩ := H.set (P := P) (L.length + 1) (n := 4) (o := fo) (ty := t_int) (w := .int .i64 q) g3 rfl e_t_int (by simp) (by simpa [encJ] using hfo) (by simp)
    rw [show (Value.int .i64 q).cells.toList = [.int .i64 q] from rfl, he] at H6
    have e6 : (cu r vc a s :: ((L ++ [.box h.length (encJ j)]) ++ [.box (h.length + 1) zJ])).set (L.length + 1) (.box h.length (encJ j')) = cu r vc a s :: ((L ++ [.box h.length (encJ j')]) ++ [.box (h.length + 1) zJ]) := by
      rw [List.set_cons_succ, List.append_assoc, List.set_append_right (h := Nat.le_refl _), Nat.sub_self, List.append_assoc]; rfl
    rw [e6] at H6
    have l6 := H6.bl (P := P) (L.length + 1) 4 g3 rfl t_impl_Job 0
    obtain ⟨h7, s7, H7, _⟩ := H6.set (P := P) (L.length + 1 + 1) (n := 4) (o := 0) (ty := t_impl_Job) (w := jv j') g4 rfl e_t_impl_Job (by simp) (by simp) (by simp)
    have e7 : (cu r vc a s :: ((L ++ [.box h.length (encJ j')]) ++ [.box (h.length + 1) zJ])).set (L.length + 1 + 1) (.box (h.length + 1) (splice zJ 0 (jv j').cells.toList)) = cu r vc a s :: ((L ++ [.box h.length (encJ j')]) ++ [.box (h.length + 1) (encJ j')]) := by
      rw [List.set_cons_succ, List.append_assoc, List.set_append_right (h := by omega), Nat.add_sub_cancel_left, List.append_assoc]; rfl
    rw [e7] at H7
    have l7 := H7.bl (P := P) (L.length + 1 + 1) 4 g4 rfl t_impl_Job 0
    refine ⟨h6, h7, s6, by rw [l6]; simp [encJ], s7, by rw [l7]; simp [encJ], fun u => onK hK ⟨j', rfl, C.gc (Cur.weak (T := [.box h.length (encJ j')] ++ [.box (h.length + 1) (encJ j')]) ⟨a, s, a0, by omega, by rw [← List.append_assoc]; exact H7⟩)⟩⟩
  simp -implicitDefEqProofs
  refine CL_post (pick_run B C1 (by omega) (k := 4) (by omega)) fun v h2 ⟨x, ev, x0, _, _, C2⟩ => ?_
  subst ev
  by_cases c0 : x = 0
  · subst c0
    simp -implicitDefEqProofs
    refine CL_post (among_run B (C2.lit [0, 50, 51, -1, 4611686018427387904]) (by omega) snoc_get (by simp) (by simp)) fun v h3 ⟨q, ev, _, C3⟩ => ?_
    subst ev
    obtain ⟨h6, h7, s6, l6, s7, l7, f⟩ := fin 0 q ⟨q, j.w, j.r, j.d⟩ h3 (by omega) rfl C3.weak
    simp -implicitDefEqProofs [s6, l6, s7, l7]
    exact f _
  · by_cases c1 : x = 1
    · subst c1
      simp -implicitDefEqProofs
      refine CL_post (among_run B (C2.lit [-1, 50, 51]) (by omega) snoc_get (by simp) (by simp)) fun v h3 ⟨q, ev, _, C3⟩ => ?_
      subst ev
      obtain ⟨h6, h7, s6, l6, s7, l7, f⟩ := fin 1 q ⟨j.t, q, j.r, j.d⟩ h3 (by omega) rfl C3.weak
      simp -implicitDefEqProofs [s6, l6, s7, l7]
      exact f _
    · by_cases c2 : x = 2
      · subst c2
        simp -implicitDefEqProofs
        refine CL_post (among_run B (C2.lit [-1, 500, 501]) (by omega) snoc_get (by simp) (by simp)) fun v h3 ⟨q, ev, _, C3⟩ => ?_
        subst ev
        obtain ⟨h6, h7, s6, l6, s7, l7, f⟩ := fin 2 q ⟨j.t, j.w, q, j.d⟩ h3 (by omega) rfl C3.weak
        simp -implicitDefEqProofs [s6, l6, s7, l7]
        exact f _
      · simp -implicitDefEqProofs [nb c0, nb c1, nb c2]
        refine CL_post (among_run B (C2.lit [-1, 500, 501, -9223372036854775808]) (by omega) snoc_get (by simp) (by simp)) fun v h3 ⟨q, ev, _, C3⟩ => ?_
        subst ev
        obtain ⟨h6, h7, s6, l6, s7, l7, f⟩ := fin 3 q ⟨j.t, j.w, j.r, q⟩ h3 (by omega) rfl C3.weak
        simp -implicitDefEqProofs [s6, l6, s7, l7]
        exact f _
end
end Go.Pm.PP

/- Draws: lists of jobs. -/
set_option linter.unusedVariables false
set_option linter.unusedSimpArgs false
set_option maxRecDepth 4000
set_option maxHeartbeats 16000000
namespace Go.Pm.PP
open Go.Pm Go.Proofs Go.Pm.PE
section
variable {h0 h : Hp} {r n : Nat} {vc : Value} {L : List Asn}
/-- Something is put at the end of a list of one's own that is drawn. -/
theorem Cur.pushJ {u : Value} {js : List Job} (C : Cur h0 h r vc n (L ++ [.own u 4 (js.map encJ)])) (j : Job) (hl : js.length ≤ 2 ^ 40) : ∃ u' h', appendP P (h ++ [some ⟨[.int .i64 j.t, .int .i64 j.w, .int .i64 j.r, .int .i64 j.d], 4, false⟩]) t_S_impl_Job u (.slice (some ⟨h.length, 0, some 4⟩) 1 1) = some (u', h') ∧ Cur h0 h' r vc n (L ++ [.own u' 4 ((js ++ [j]).map encJ)]) := by
  obtain ⟨a, s, h1, h2, H⟩ := C
  obtain ⟨u', h', g1, g2, _⟩ := push_J0 H (L.length + 1) (by rw [List.getElem?_cons_succ]; exact snoc_get) j hl
  refine ⟨u', h', g1, a, s, h1, h2, ?_⟩
  rw [List.set_cons_succ, List.set_append_right (h := Nat.le_refl _), Nat.sub_self] at g2
  exact g2
theorem Cur.seesJ {u : Value} {js : List Job} (C : Cur h0 h r vc n (L ++ [.own u 4 (js.map encJ)])) : Jobs h u js := by
  obtain ⟨a, s, h1, h2, H⟩ := C
  exact H.sees (L.length + 1) (by rw [List.getElem?_cons_succ]; exact snoc_get)
theorem Cur.putJ {u : Value} {js : List Job} (C : Cur h0 h r vc n (L ++ [.own u 4 (js.map encJ)])) {k : Nat} (hk : k < js.length) (j : Job) : ∃ h', storeP P h t_impl_Job (jv j) (.pointer (some (addP (base u) (k * 4)))) = some h' ∧ Cur h0 h' r vc n (L ++ [.own u 4 ((js.set k j).map encJ)]) := by
  obtain ⟨a, s, h1, h2, H⟩ := C
  obtain ⟨h', g1, g2, _⟩ := put_J H (L.length + 1) (by rw [List.getElem?_cons_succ]; exact snoc_get) hk j
  refine ⟨h', g1, a, s, h1, h2, ?_⟩
  rw [List.set_cons_succ, List.set_append_right (h := Nat.le_refl _), Nat.sub_self] at g2
  exact g2
theorem Cur.nil (C : Cur h0 h r vc n L) (α : Type) (enc : α → List Value) (sz : Nat) : Cur h0 h r vc n (L ++ [.own (.slice none 0 0) sz (([] : List α).map enc)]) := by
  obtain ⟨a, s, h1, h2, H⟩ := C
  exact ⟨a, s, h1, h2, H.call List.prefix_rfl (by simpa using Own.nil)⟩
theorem someJobs_run (B : By h0 vc) (C : Cur h0 h r vc n L) (hn : n ≤ 2 ^ 20) {b : Bool} {most : Nat} (hm : most ≤ 8) : RunsC P G n_spec_l1Cur_someJobs [.pointer (some ⟨r, 0, some 3⟩), .bool b, .int .i64 most] h fun v h' => ∃ js : List Job, js.length ≤ 9 ∧ Cur h0 h' r vc (n + 200) (L ++ [.own v 4 (js.map encJ)]) := by
  refine hideC fun K hK => enter_run e_spec_l1Cur_someJobs (by simp) ?_
  simp -implicitDefEqProofs
  refine CL_post (among_run B (C.lit [3, 4, 5, 2, 6, 1, 0]) (by omega) snoc_get (by simp) (by simp)) fun v h1 ⟨x, ev, hx, C1'⟩ => ?_
  subst ev
  have hx2 : 0 ≤ x ∧ x ≤ 6 := by
    simp only [List.mem_cons, List.not_mem_nil, or_false] at hx
    omega
  have C1 := C1'.weak
  obtain ⟨X, hX, hX2⟩ : ∃ X : Int, X = x ∧ 0 ≤ X ∧ X ≤ 9 := ⟨x, rfl, by omega, by omega⟩
  by_cases c : (6 : Int) < most
  case' neg =>
    rw [← hX]
    clear hX
    have C2 : Cur h0 h1 r vc (n + 6) L := C1.mono (by omega)
    obtain ⟨h2, hh2⟩ : ∃ h2, h2 = h1 := ⟨_, rfl⟩
    have c' : ¬ 6 < most := by omega
    simp -implicitDefEqProofs [c, c']
    rw [← hh2] at C2 ⊢
  case' pos =>
    clear hX hX2
    have c' : 6 < most := by omega
    simp -implicitDefEqProofs [c, c']
    refine CL_post (one_run B C1 (by omega) (k := 6) (by omega)) fun v h2 ⟨b2, ev, C1''⟩ => ?_
    subst ev
    clear X
    cases b2
    case' false =>
      obtain ⟨X, hX, hX2⟩ : ∃ X : Int, X = x ∧ 0 ≤ X ∧ X ≤ 9 := ⟨x, rfl, by omega, by omega⟩
      rw [← hX]
      clear hX
      have C2 : Cur h0 h2 r vc (n + 6) L := C1''.mono (by omega)
      simp -implicitDefEqProofs
    case' true =>
      simp -implicitDefEqProofs
      refine CL_post (pick_run B C1'' (by omega) (k := 2) (by omega)) fun v h2 ⟨y, ev, y0, _, y1, C2'⟩ => ?_
      subst ev
      have y2 := y1 (by omega)
      have w7 : IntKind.i64.wrap (7 + y) = 7 + y := by rw [wrap_ok] <;> omega
      obtain ⟨X, hX, hX2⟩ : ∃ X : Int, X = 7 + y ∧ 0 ≤ X ∧ X ≤ 9 := ⟨7 + y, rfl, by omega, by omega⟩
      have C2 : Cur h0 h2 r vc (n + 6) L := C2'.mono (by omega)
      simp -implicitDefEqProofs [w7]
      rw [← hX]
  all_goals
    refine R_loopO (fun m st h' => ∃ (js : List Job) (u : Value), st = [(0, .pointer (some ⟨r, 0, some 3⟩)), (1, .bool b), (2, .int .i64 most), (7, u), (8, .int .i64 m)] ∧ js.length + m ≤ 9 ∧ Cur h0 h' r vc (n + 6 + 8 * js.length) (L ++ [.own u 4 (js.map encJ)])) (fun I hI m st h' => ?_) (n := X.toNat) ⟨[], .slice none 0 0, by simp; omega, by simp; omega, C2.nil Job encJ 4⟩
    rintro ⟨js, u, rfl, hj, C3⟩
    obtain ⟨ua, uc, rfl⟩ : ∃ a c, u = .slice a js.length c := C3.seesJ.shapeT
    by_cases c1 : 0 < m
    case' pos =>
      by_cases c2 : js.length < most
      case pos =>
        have w1 : IntKind.i64.wrap ((m : Int) - 1) = ((m - 1 : Nat) : Int) := by rw [wrap_ok] <;> omega
        have c1' : (0 : Int) < m := by omega
        have c2' : (js.length : Int) < most := by omega
        simp -implicitDefEqProofs [c1, c1', c2, c2']
        refine CL_post (job_run B C3 (by omega) (b := b)) fun v h4 ⟨j, ev, C4⟩ => ?_
        subst ev
        obtain ⟨u', h5, ha, C5⟩ := C4.pushJ j (by omega)
        simp -implicitDefEqProofs [ha, w1]
        exact ⟨m - 1, by omega, on hI ⟨js ++ [j], u', rfl, by simp; omega, by
          have e : n + 6 + 8 * (js ++ [j]).length = n + 6 + 8 * js.length + 8 := by simp; omega
          rw [e]; exact C5⟩⟩
      case' neg =>
        have c1' : (0 : Int) < m := by omega
        have c2' : ¬ (js.length : Int) < most := by omega
        simp -implicitDefEqProofs [c1, c1', c2, c2']
    case' neg =>
      have c1' : ¬ (0 : Int) < m := by omega
      simp -implicitDefEqProofs [c1, c1']
    all_goals
      by_cases c3 : 0 < js.length
      case' neg =>
        have c3' : ¬ (0 : Int) < js.length := by omega
        have C5 : Cur h0 h' r vc (n + 86) (L ++ [.own (.slice ua js.length uc) 4 (js.map encJ)]) := C3.mono (by omega)
        have hl5 : js.length ≤ 9 := by omega
        simp -implicitDefEqProofs [c3, c3']
      case' pos =>
        have c3' : (0 : Int) < js.length := by omega
        simp -implicitDefEqProofs [c3, c3']
        refine CL_post (one_run B C3 (by omega) (k := 20) (by omega)) fun v h4 ⟨b3, ev, C4⟩ => ?_
        subst ev
        cases b3
        case' false =>
          have C5 : Cur h0 h4 r vc (n + 86) (L ++ [.own (.slice ua js.length uc) 4 (js.map encJ)]) := C4.mono (by omega)
          have hl5 : js.length ≤ 9 := by omega
          simp -implicitDefEqProofs
        case' true =>
          simp -implicitDefEqProofs
          refine CL_post (pick_run B C4 (by omega) (k := js.length) (by omega)) fun v h5 ⟨q, ev, q0, _, q1, C5'⟩ => ?_
          subst ev
          obtain ⟨k, rfl⟩ : ∃ k : Nat, q = k := ⟨q.toNat, by omega⟩
          have hk : k < js.length := by have := q1 (by omega); omega
          obtain ⟨y, hy, _⟩ := drop_at hk
          have ly := load_J C5'.seesJ hy
          simp -implicitDefEqProofs [-indexAddrP_some, ly]
          refine CL_post (spoiltJob_run B C5' (by omega) (j := y)) fun v h6 ⟨j', ev, C6'⟩ => ?_
          subst ev
          have ix := (load_J C6'.seesJ hy).1
          obtain ⟨h7, s7, C7⟩ := C6'.putJ hk j'
          have C5 : Cur h0 h7 r vc (n + 86) (L ++ [.own (.slice ua js.length uc) 4 ((js.set k j').map encJ)]) := C7.mono (by omega)
          have hl5 : (js.set k j').length ≤ 9 := by rw [List.length_set]; omega
          simp -implicitDefEqProofs [-indexAddrP_some, ix, s7]
      all_goals
        refine CL_post (one_run B C5 (by omega) (k := 60) (by omega)) fun v h8 ⟨b4, ev, C8⟩ => ?_
        subst ev
        cases b4
        case false =>
          simp -implicitDefEqProofs
          exact onK hK ⟨_, hl5, C.gcO (C8.mono (by omega)) (fun h => h)⟩
        case true =>
          simp -implicitDefEqProofs
          refine R_loopO (fun m st h' => ∃ (js : List Job) (u : Value), st = [(0, .pointer (some ⟨r, 0, some 3⟩)), (1, .bool b), (7, u)] ∧ js.length + m = 9 ∧ Cur h0 h' r vc (n + 88 + 8 * js.length) (L ++ [.own u 4 (js.map encJ)])) (fun I2 hI2 m2 st h' => ?_) (n := 9 - js.length) ⟨_, _, by simp, ?_, C8.mono (by omega)⟩
          · rintro ⟨js2, u2, rfl, hj2, C9⟩
            obtain ⟨ub, ud, rfl⟩ : ∃ a c, u2 = .slice a js2.length c := C9.seesJ.shapeT
            by_cases c9 : js2.length < 9
            · have c9' : (js2.length : Int) < 9 := by omega
              simp -implicitDefEqProofs [c9, c9']
              refine CL_post (job_run B C9 (by omega) (b := b)) fun v h10 ⟨j, ev, C10⟩ => ?_
              subst ev
              obtain ⟨u', h11, ha, C11⟩ := C10.pushJ j (by omega)
              simp -implicitDefEqProofs [ha]
              exact ⟨m2 - 1, by omega, on hI2 ⟨js2 ++ [j], u', rfl, by simp; omega, by
                have e : n + 88 + 8 * (js2 ++ [j]).length = n + 88 + 8 * js2.length + 8 := by simp; omega
                rw [e]; exact C11⟩⟩
            · have c9' : ¬ (js2.length : Int) < 9 := by omega
              simp -implicitDefEqProofs [c9, c9']
              exact onK hK ⟨js2, by omega, C.gcO (C9.mono (by omega)) (fun h => h)⟩
          · first | omega | (rw [List.length_set]; omega)
end
end Go.Pm.PP

/- Draws: orders; the draw of jobs, an order and an objective. -/
set_option linter.unusedVariables false
set_option linter.unusedSimpArgs false
set_option maxRecDepth 4000
set_option maxHeartbeats 16000000
namespace Go.Pm.PP
open Go.Pm Go.Proofs Go.Pm.PE
theorem newOk_of {h h' : Hp} (hp : h <+: h') (n : NR h.length h') : newOk h h' := by
  refine ⟨hp, ?_⟩
  rw [List.all_eq_true]
  intro x hx
  cases x with
  | none => rfl
  | some x =>
    obtain ⟨k, hk⟩ := List.getElem?_of_mem hx
    rw [List.getElem?_drop] at hk
    simp [n.2 _ x (by omega) hk]
section
variable {h0 h : Hp} {r n : Nat} {vc : Value} {L : List Asn}
theorem Cur.seesI {u : Value} {xs : List Int} (C : Cur h0 h r vc n (L ++ [.own u 1 (xs.map encI)])) : Ints h u xs := by
  obtain ⟨a, s, h1, h2, H⟩ := C
  exact H.sees (L.length + 1) (by rw [List.getElem?_cons_succ]; exact snoc_get)
theorem Cur.join {h1 : Hp} {A : Asn} (C : Cur h0 h r vc n L) (D : Holds h h1 [A]) : Cur h0 h1 r vc n (L ++ [A]) := by
  obtain ⟨a, s, g1, g2, H⟩ := C
  exact ⟨a, s, g1, g2, H.join D⟩
theorem Cur.swapW {A B : Asn} (C : Cur h0 h r vc n ((L ++ [A]) ++ [B])) : Cur h0 h r vc n (L ++ [B]) := by
  obtain ⟨a, s, g1, g2, H⟩ := C
  refine ⟨a, s, g1, g2, ?_⟩
  have : Holds h0 h (((cu r vc a s :: L) ++ [A]) ++ [B]) := H
  exact this.cut
theorem order_run (B : By h0 vc) (C : Cur h0 h r vc n L) (hn : n ≤ 2 ^ 19) {N : Nat} (hN : N ≤ 2 ^ 10) : RunsC P G n_spec_l1Cur_order [.pointer (some ⟨r, 0, some 3⟩), .int .i64 N] h fun v h' => ∃ xs : List Int, xs.length ≤ N + 1 ∧ Cur h0 h' r vc (n + 2 * N + 4) (L ++ [.own v 1 (xs.map encI)]) := by
  refine hideC fun K hK => enter_run e_spec_l1Cur_order (by simp) ?_
  simp -implicitDefEqProofs
  refine R_loopO (fun m st h' => ∃ (i : Nat) (xs : List Int) (u : Value), i + m = N ∧ st = [(0, .pointer (some ⟨r, 0, some 3⟩)), (1, .int .i64 N), (5, u), (6, .int .i64 i)] ∧ xs.length = i ∧ Cur h0 h' r vc (n + 2 * i) (L ++ [.own u 1 (xs.map encI)])) (fun I hI m st h' => ?_) (n := N) ⟨0, [], .slice none 0 0, by omega, by simp, rfl, C.nil Int encI 1⟩
  rintro ⟨i, xs, u, hi, rfl, hl, C1⟩
  obtain ⟨ua, uc, rfl⟩ : ∃ a c, u = .slice a xs.length c := C1.seesI.shapeT
  by_cases hlt : i < N
  · have hlt' : (i : Int) < N := by omega
    have w1 : IntKind.i64.wrap ((xs.length : Int) + 1) = (xs.length : Int) + 1 := by rw [wrap_ok] <;> omega
    have wi : IntKind.i64.wrap ((i : Int) + 1) = (i : Int) + 1 := by rw [wrap_ok] <;> omega
    simp -implicitDefEqProofs [hlt, hlt', w1]
    refine CL_post (pick_run B C1 (by omega) (k := (xs.length : Int) + 1) (by omega)) fun v h2 ⟨q, ev, q0, _, q1, C2⟩ => ?_
    subst ev
    have q2 := q1 (by omega)
    obtain ⟨k, rfl⟩ : ∃ k : Nat, q = k := ⟨q.toNat, by omega⟩
    have S2 := C2.seesI
    obtain ⟨v3, s3, f3⟩ := S2.front (P := P) u_S_int i_int (k := .i64) (j := (k : Int)) (by omega) (by simp; omega)
    rw [Int.toNat_natCast, ← List.map_take] at f3
    have H0 := own_nil (Holds.start (h := h2)) Int encI 1
    obtain ⟨v4, h4, ha4, H4', _⟩ := app_I H0 0 rfl f3 (by simp; omega)
    have H4 : Holds h2 h4 [.own v4 1 ((xs.take k).map encI)] := H4'
    have n4 : NR h2.length h4 := append_nr nr_self ha4
    have no4 := newOk_of H4.pre n4
    obtain ⟨v5, h5, ha5, H5', k5, _⟩ := push_I0 H4 0 rfl (i : Int) (by simp; omega)
    have H5 : Holds h2 h5 [.own v5 1 ((xs.take k ++ [(i : Int)]).map encI)] := H5'
    have n5 : NR h2.length (h4 ++ [some ⟨[.int .i64 (i : Int)], 1, false⟩]) := n4.new [.int .i64 (i : Int)] 1
    have md := app_mod (b := h2.length) rfl n5 ha5 (H4.pre.trans (List.prefix_append ..)) H5.pre
    obtain ⟨v6, s6, f6, _⟩ := (S2.pre H5.pre).back (P := P) u_S_int i_int (k := .i64) (j := (k : Int)) (by omega) (by simp; omega)
    rw [Int.toNat_natCast, ← List.map_drop] at f6
    obtain ⟨v7, h7, ha7, H7', _⟩ := app_I H5 0 rfl f6 (by simp; omega)
    have H7 : Holds h2 h7 [.own v7 1 ((xs.take k ++ [(i : Int)] ++ xs.drop k).map encI)] := H7'
    have C7 := (C2.join H7).swapW
    obtain ⟨a3, b3, c3, rfl⟩ : ∃ a n c, v3 = .slice a n c := by obtain ⟨a, c, e⟩ := f3.shape; exact ⟨_, _, _, e⟩
    obtain ⟨a4, b4, c4, rfl⟩ : ∃ a n c, v4 = .slice a n c := by obtain ⟨a, c, e⟩ := (H4.sees 0 rfl).shape; exact ⟨_, _, _, e⟩
    obtain ⟨a5, b5, c5, rfl⟩ : ∃ a n c, v5 = .slice a n c := by obtain ⟨a, c, e⟩ := (H5.sees 0 rfl).shape; exact ⟨_, _, _, e⟩
    obtain ⟨a6, b6, c6, rfl⟩ : ∃ a n c, v6 = .slice a n c := by obtain ⟨a, c, e⟩ := f6.shape; exact ⟨_, _, _, e⟩
    simp -implicitDefEqProofs [s3, ha4, no4, ha5, md, s6, ha7, wi]
    exact ⟨m - 1, by omega, on hI ⟨i + 1, _, v7, by omega, rfl, by simp; omega, C7.mono (by omega)⟩⟩
  · have hlt' : ¬ (i : Int) < N := by omega
    simp -implicitDefEqProofs [hlt, hlt']
    refine CL_post (one_run B C1 (by omega) (k := 30) (by omega)) fun v h2 ⟨b, ev, C2⟩ => ?_
    subst ev
    cases b
    · simp -implicitDefEqProofs
      exact onK hK ⟨xs, by omega, C.gcO (C2.mono (by omega)) (fun h => h)⟩
    · have C3 := C2.lit [0, (N : Int), -1]
      simp -implicitDefEqProofs
      refine CL_post (among_run B C3 (by omega) snoc_get (xs := [0, (N : Int), -1]) (by simp) (by simp)) fun v h3 ⟨x, ev, _, C4⟩ => ?_
      subst ev
      obtain ⟨a, s, g1, g2, H⟩ := C4.weak
      obtain ⟨u', h5, g3, g4, _⟩ := push_I0 H (L.length + 1) (by rw [List.getElem?_cons_succ]; exact snoc_get) x (by omega)
      rw [List.set_cons_succ, List.set_append_right (h := Nat.le_refl _), Nat.sub_self] at g4
      have C5 : Cur h0 h5 r vc (n + 2 * N + 4) (L ++ [.own u' 1 ((xs ++ [x]).map encI)]) := ⟨a, s, g1, by omega, g4⟩
      obtain ⟨ub, ud, rfl⟩ : ∃ a c, u' = .slice a (xs.length + 1) c := by
        obtain ⟨a, c, e⟩ := C5.seesI.shapeT
        exact ⟨a, c, by rw [e]; simp⟩
      simp -implicitDefEqProofs [g3]
      exact onK hK ⟨xs ++ [x], by simp; omega, C.gcO C5 (fun h => h)⟩
end
end Go.Pm.PP

/- Values, best orders and exchanges, as the programs export them. -/
set_option linter.unusedVariables false
set_option linter.unusedSimpArgs false
set_option maxRecDepth 4000
set_option maxHeartbeats 8000000
namespace Go.Pm.PP
open Go.Pm Go.Proofs Go.Pm.PE
/-! ### bounds -/
theorem val_bd {o : Int} : ∀ {js : List Job} {es : List Int} {f : Bool} {a B : Int}, goodL js = true → (∀ e, e ∈ es → 0 ≤ e ∧ e ≤ 2 ^ 20) → -B ≤ a → a ≤ B → 0 ≤ B → -(B + js.length * 2 ^ 27) ≤ valGo o f a js es ∧ valGo o f a js es ≤ B + js.length * 2 ^ 27
  | [], es, f, a, B, _, _, h1, h2, _ => by simp [valGo]; omega
  | j :: js, [], f, a, B, _, _, h1, h2, hB => by simp only [valGo, List.length_cons]; omega
  | j :: js, e :: es, f, a, B, hg, he, h1, h2, hB => by
    rw [goodL_cons, Bool.and_eq_true] at hg
    have e1 := he e (List.mem_cons_self ..)
    have s := step_bd (o := o) (f := f) hg.1 e1.1 e1.2 ⟨h1, h2⟩ hB
    have := @val_bd o js es false (stepV o f a j e) (B + 2 ^ 27) hg.2 (fun x hx => he x (List.mem_cons_of_mem _ hx)) s.1 s.2 (by omega)
    rw [valGo, List.length_cons]
    omega
theorem endGo_bd {js : List Job} (hg : goodL js = true) : ∀ {xs : List Int} {now : Int} {E : List Int} {k : Nat}, inN js.length xs → 0 ≤ now → now ≤ 550 * k → (∀ e, e ∈ E → 0 ≤ e ∧ e ≤ 550 * (k + xs.length : Nat)) → ∀ e, e ∈ endGo js xs now E → 0 ≤ e ∧ e ≤ 550 * (k + xs.length : Nat)
  | [], now, E, k, _, _, _, hE, e, he => hE e he
  | x :: r, now, E, k, hin, h0, h1, hE, e, he => by
    obtain ⟨i, hi, hil, hy⟩ := jA_get rfl (hin x (List.mem_cons_self ..))
    have jb := job_of (job_at hg hy)
    rw [endGo] at he
    have := endGo_bd hg (xs := r) (now := max now (jA js x).r + (jA js x).t) (k := k + 1) (fun y hy => hin y (List.mem_cons_of_mem _ hy)) (by omega) (by omega) (fun e he => by
      rcases List.mem_or_eq_of_mem_set he with g | g
      · have := hE e g
        simp only [List.length_cons] at this
        omega
      · omega) e he
    simp only [List.length_cons]
    omega
theorem valX_bd {o : Int} {js : List Job} {xs : List Int} (hg : goodL js = true) (hn : js.length ≤ 8) (hx : Ord js.length xs) : -(2 ^ 30) ≤ valX o js xs ∧ valX o js xs ≤ 2 ^ 30 := by
  have := @val_bd o js (endsL js xs) true 0 0 hg (fun e he => by
    have := endGo_bd hg (k := 0) hx.inn (Int.le_refl 0) (by omega) (fun e he => by rw [List.eq_of_mem_replicate he]; omega) e he
    have := hx.len
    omega) (by omega) (by omega) (by omega)
  unfold valX valE
  omega
def jOk (js : List Job) : Bool := decide (js.length ≤ 8) && goodL js
def okV (js : List Job) (xs : List Int) (o : Int) : Bool := (jOk js && l2OrderL js.length xs) && inB o 1 8
theorem jOk_of {js : List Job} (h : jOk js = true) : js.length ≤ 8 ∧ goodL js = true := by
  rw [jOk, Bool.and_eq_true, decide_eq_true_eq] at h; exact h
theorem inB_of {o : Int} (h : inB o 1 8 = true) : 1 ≤ o ∧ o ≤ 8 := by simpa [inB] using h
theorem ord_of {n : Nat} {xs : List Int} (hf : l2OrderL n xs = true) : Ord n xs := by
  rw [l2OrderL, Bool.and_eq_true, Bool.and_eq_true] at hf
  obtain ⟨⟨h1, h2⟩, h3⟩ := hf
  have hl : n ≤ 8 := by simp only [inB, Bool.and_eq_true, decide_eq_true_eq] at h1; omega
  have := order_eq (n := n) (xs := xs) hl
  rw [h2, h3, Bool.true_and, Bool.true_and] at this
  have wn : w64 ((n : Int) - 1) = (n : Int) - 1 := by unfold w64; rw [wrap_ok] <;> omega
  obtain ⟨g1, g2, _⟩ := (arGo_iff wn).1 this
  exact ⟨by have := beq_iff_eq.1 h2; omega, g1, g2⟩
theorem ord_ok {n : Nat} {xs : List Int} (hn : n ≤ 8) (o : Ord n xs) : l2OrderL n xs = true := by
  have := order_eq (n := n) (xs := xs) hn
  have wn : w64 ((n : Int) - 1) = (n : Int) - 1 := by unfold w64; rw [wrap_ok] <;> omega
  have h1 : arGo n [] xs = true := (arGo_iff wn).2 ⟨o.inn, o.nd, by simp⟩
  have h2 : ((xs.length : Int) == n) = true := by rw [beq_iff_eq, o.len]
  rw [h1, h2, Bool.true_and, Bool.true_and] at this
  rw [l2OrderL, h2, ← this]
  simp [inB]; omega
theorem okV_of {js : List Job} {xs : List Int} {o : Int} (h : okV js xs o = true) : js.length ≤ 8 ∧ goodL js = true ∧ Ord js.length xs ∧ (1 ≤ o ∧ o ≤ 8) := by
  rw [okV, Bool.and_eq_true, Bool.and_eq_true] at h
  obtain ⟨⟨h1, h2⟩, h3⟩ := h
  exact ⟨(jOk_of h1).1, (jOk_of h1).2, ord_of h2, inB_of h3⟩
theorem l2Objective_run {h : Hp} {x : Int} : Ret P G n_spec_l2Objective [.int .i64 x] h (.bool (inB x 1 8)) h := by
  refine enter_run e_spec_l2Objective (by simp) ?_
  simp -implicitDefEqProofs [CL_ret l1In_run]
theorem isObjective_run {h : Hp} {x : Int} : Ret P G n_impl_isObjective [.int .i64 x] h (.bool (inB x 1 8)) h := by
  refine enter_run e_impl_isObjective (by simp) ?_
  simp -implicitDefEqProofs [CL_ret within_run]
section
variable {h : Hp} {v u : Value} {js : List Job} {xs : List Int} {o : Int}
theorem good_run (hj : Jobs h v js) (hl : js.length ≤ 2 ^ 40) : Ret P G n_spec_l2Good [v] h (.bool (jOk js)) h := l2Good_run hj hl
theorem isJobs_run (hj : Jobs h v js) (hl : js.length ≤ 2 ^ 40) : Ret P G n_impl_IsJobs [v] h (.bool (jOk js)) h := IsJobs_run hj hl
theorem l2Two_run (hj : Jobs h v js) (hu : Ints h u xs) (hl : js.length ≤ 2 ^ 40) (hx : xs.length ≤ 2 ^ 40) : Ret P G n_spec_l2Two [v, u] h (.bool (jOk js && l2OrderL js.length xs)) h := by
  refine enter_run e_spec_l2Two (by simp) ?_
  have r1 := good_run hj hl
  have r2 := l2Order_run (n := js.length) hu hx
  obtain ⟨oj, cj, rfl⟩ := hj.shapeT
  cases c1 : jOk js
  · simp -implicitDefEqProofs [CL_ret r1, c1]
  · simp -implicitDefEqProofs [CL_ret r1, c1, CL_ret r2]
theorem isScheduled_run (hj : Jobs h v js) (hu : Ints h u xs) (hl : js.length ≤ 2 ^ 40) (hx : xs.length ≤ 2 ^ 40) : Ret P G n_impl_isScheduled [v, u] h (.bool (jOk js && l2OrderL js.length xs)) h := by
  refine enter_run e_impl_isScheduled (by simp) ?_
  have r1 := isJobs_run hj hl
  have r2 := isOrder_run (n := js.length) hu hx
  obtain ⟨oj, cj, rfl⟩ := hj.shapeT
  cases c1 : jOk js
  · simp -implicitDefEqProofs [CL_ret r1, c1]
  · have hn := (jOk_of c1).1
    have e : (((xs.length : Int) == (js.length : Nat)) && arGo js.length [] xs) = l2OrderL js.length xs := by
      rw [order_eq hn, l2OrderL, show inB js.length 0 8 = true by simp [inB]; omega, Bool.true_and]
    rw [e] at r2
    simp -implicitDefEqProofs [CL_ret r1, c1, CL_ret r2]
theorem isValued_run (hj : Jobs h v js) (hu : Ints h u xs) (hl : js.length ≤ 2 ^ 40) (hx : xs.length ≤ 2 ^ 40) : Ret P G n_impl_isValued [v, u, .int .i64 o] h (.bool (okV js xs o)) h := by
  refine enter_run e_impl_isValued (by simp) ?_
  have r1 := isScheduled_run hj hu hl hx
  obtain ⟨oj, cj, rfl⟩ := hj.shapeT
  obtain ⟨oa, ca, rfl⟩ := hu.shapeT
  cases c1 : (jOk js && l2OrderL js.length xs)
  · rw [c1] at r1
    simp -implicitDefEqProofs [CL_ret r1, okV, c1]
  · rw [c1] at r1
    simp -implicitDefEqProofs [CL_ret r1, okV, c1, CL_ret isObjective_run]
def vOf (js : List Job) (xs : List Int) (o : Int) : Int := if okV js xs o = true then valX o js xs else 0
theorem implValueOf_run (hj : Jobs h v js) (hu : Ints h u xs) (hl : js.length ≤ 2 ^ 40) (hx : xs.length ≤ 2 ^ 40) : Ret P G n_impl_ValueOf [v, u, .int .i64 o] h (.tuple #[.int .i64 (vOf js xs o), .bool (okV js xs o)]) h := by
  refine enter_run e_impl_ValueOf (by simp) ?_
  have r1 := isValued_run (o := o) hj hu hl hx
  have hjs := hj
  have hus := hu
  obtain ⟨oj, cj, rfl⟩ := hj.shapeT
  obtain ⟨oa, ca, rfl⟩ := hu.shapeT
  cases c1 : okV js xs o
  · simp -implicitDefEqProofs [CL_ret r1, c1, vOf]
  · obtain ⟨hn, hg, ox, ho⟩ := okV_of c1
    have rv := valueOf_run (o := o) hjs hus hg hn ho ox
    simp -implicitDefEqProofs [CL_ret r1, c1, CL_ret rv, vOf]
end
end Go.Pm.PP

/- Best values, counts, and exchanges of neighbours, as the programs export them. -/
set_option linter.unusedVariables false
set_option linter.unusedSimpArgs false
set_option maxRecDepth 4000
set_option maxHeartbeats 8000000
namespace Go.Pm.PP
open Go.Pm Go.Proofs Go.Pm.PE
section
variable {h : Hp} {v u : Value} {js : List Job} {xs ys : List Int} {o : Int}
theorem rBig_run {bs : List Int} (hb : Sees h v 1 (bs.map encU)) : Ret P G n_laws_rBig [v] h (.bool (decide ((65536 : Int) < bs.length))) h := by
  refine enter_run e_laws_rBig (by simp) ?_
  obtain ⟨oa, ca, rfl⟩ := hb.shapeT
  simp -implicitDefEqProofs
  try omega
theorem rInts_run (hv : Ints h v xs) (hu : Ints h u xs) (hx : xs.length ≤ 2 ^ 40) : Ret P G n_laws_rInts [v, u] h (.bool true) h := by
  refine enter_run e_laws_rInts (by simp) ?_
  have hvs := hv
  have hus := hu
  obtain ⟨oa, ca, rfl⟩ := hv.shapeT
  obtain ⟨ob, cb, rfl⟩ := hu.shapeT
  simp -implicitDefEqProofs
  refine R_loopO (fun m s h' => ∃ i : Nat, i + m = xs.length ∧ s = [(0, .slice oa xs.length ca), (1, .slice ob xs.length cb), (5, .int .i64 i)] ∧ h' = h) (fun I hI m s h' => ?_) (n := xs.length) ⟨0, Nat.zero_add _, by simp, rfl⟩
  rintro ⟨i, hi, rfl, rfl⟩
  by_cases hlt : i < xs.length
  · obtain ⟨y, hy, _⟩ := drop_at hlt
    simp -implicitDefEqProofs [-indexAddrP_some, hlt, load_I hvs hy, load_I hus hy, winc hlt hx]
    exact ⟨m - 1, by omega, on hI ⟨i + 1, by omega, rfl, rfl⟩⟩
  · simp -implicitDefEqProofs [hlt]
/-! ### exchanges -/
end
end Go.Pm.PP

/- Plain jobs, sets of digits, due orders, by both. -/
set_option linter.unusedVariables false
set_option linter.unusedSimpArgs false
set_option maxRecDepth 4000
set_option maxHeartbeats 8000000
namespace Go.Pm.PP
open Go.Pm Go.Proofs Go.Pm.PE
/-! ### no releases -/
def freeL (js : List Job) : Bool := js.all fun j => !decide (0 < j.r)
def plainL (js : List Job) : Bool := js.all fun j => j.r == 0
def plOk (js : List Job) : Bool := jOk js && plainL js
theorem free_plain {js : List Job} (hg : goodL js = true) : freeL js = plainL js := by
  induction js with
  | nil => rfl
  | cons j js ih =>
    rw [goodL_cons, Bool.and_eq_true] at hg
    have := job_of hg.1
    have e : (!decide (0 < j.r)) = (j.r == 0) := by
      rw [Bool.eq_iff_iff]
      simp
      omega
    unfold freeL plainL at ih ⊢
    rw [List.all_cons, List.all_cons, ih hg.2, e]
theorem plOk_of {js : List Job} (h : plOk js = true) : js.length ≤ 8 ∧ goodL js = true ∧ plainL js = true := by
  rw [plOk, Bool.and_eq_true] at h
  exact ⟨(jOk_of h.1).1, (jOk_of h.1).2, h.2⟩
theorem jA_in {js : List Job} {x : Int} : jA js x ∈ js ∨ jA js x = ⟨0, 0, 0, 0⟩ := by
  unfold jA
  cases h : js[x.toNat]? with
  | none => right; rfl
  | some j => left; exact List.mem_of_getElem? h
theorem plOk_pl {js : List Job} (h : plOk js = true) : Pl js := by
  obtain ⟨_, hg, hp⟩ := plOk_of h
  constructor
  · intro x
    rcases @jA_in js x with g | g
    · simpa using List.all_eq_true.1 hp _ g
    · rw [g]
  · intro x
    rcases @jA_in js x with g | g
    · have := job_of (List.all_eq_true.1 hg _ g); omega
    · rw [g]; exact Int.le_refl _
theorem load_JX {h : Hp} {v : Value} {js : List Job} {x : Int} (hv : Jobs h v js) (hx : 0 ≤ x ∧ x < js.length) :
    indexAddrP P h t_S_impl_Job v (.int .i64 x) = some (.pointer (some (addP (base v) (x.toNat * 4)))) ∧ loadP P h t_impl_Job (.pointer (some (addP (base v) (x.toNat * 4)))) = some (jv (jA js x)) ∧
    loadP P h t_int (.pointer (some (addP (addP (base v) (x.toNat * 4)) 0))) = some (.int .i64 (jA js x).t) ∧
    loadP P h t_int (.pointer (some (addP (addP (base v) (x.toNat * 4)) 1))) = some (.int .i64 (jA js x).w) ∧
    loadP P h t_int (.pointer (some (addP (addP (base v) (x.toNat * 4)) 2))) = some (.int .i64 (jA js x).r) ∧
    loadP P h t_int (.pointer (some (addP (addP (base v) (x.toNat * 4)) 3))) = some (.int .i64 (jA js x).d) := by
  obtain ⟨k, hk, hkl, hy⟩ := jA_get (js := js) rfl hx
  have := load_J hv hy
  rw [← hk] at this
  rw [show x.toNat = k by omega]
  exact this
section
variable {h : Hp} {v : Value} {js : List Job}
theorem l4Free_run (hj : Jobs h v js) (hn : js.length ≤ 2 ^ 40) : Ret P G n_spec_l4Free [v] h (.bool (freeL js)) h := by
  refine enter_run e_spec_l4Free (by simp) ?_
  have hjs := hj
  obtain ⟨oa, c, rfl⟩ := hj.shapeT
  simp -implicitDefEqProofs
  refine R_loopO (fun m s h' => ∃ i : Nat, i + m = js.length ∧ s = [(0, .slice oa js.length c), (3, .int .i64 i)] ∧ h' = h ∧ freeL js = freeL (js.drop i)) (fun I hI m s h' => ?_) ⟨0, Nat.zero_add _, by simp⟩
  rintro ⟨i, hi, rfl, rfl, hx⟩
  by_cases hlt : i < js.length
  · obtain ⟨y, hy, hd⟩ := drop_at hlt
    have e : freeL (y :: js.drop (i + 1)) = (!decide (0 < y.r) && freeL (js.drop (i + 1))) := rfl
    rw [hd, e] at hx
    have lr := load_J hjs hy
    by_cases c1 : 0 < y.r
    · simp only [c1, decide_true, Bool.not_true, Bool.false_and] at hx
      simp -implicitDefEqProofs [-indexAddrP_some, hlt, lr, c1, hx]
    · simp only [c1, decide_false, Bool.not_false, Bool.true_and] at hx
      simp -implicitDefEqProofs [-indexAddrP_some, hlt, lr, c1, winc hlt hn]
      exact ⟨m - 1, by omega, on hI ⟨i + 1, by omega, rfl, rfl, hx⟩⟩
  · rw [List.drop_eq_nil_of_le (by omega)] at hx
    have hx : freeL js = true := hx
    simp -implicitDefEqProofs [hlt, hx]
theorem isPlain_run (hj : Jobs h v js) (hn : js.length ≤ 2 ^ 40) : Ret P G n_impl_isPlain [v] h (.bool (plainL js)) h := by
  refine enter_run e_impl_isPlain (by simp) ?_
  have hjs := hj
  obtain ⟨oa, c, rfl⟩ := hj.shapeT
  simp -implicitDefEqProofs
  refine R_loopO (fun m s h' => ∃ i : Nat, i + m = js.length ∧ s = [(5, .slice oa js.length c), (6, .int .i64 js.length), (7, .int .i64 i)] ∧ h <+: h' ∧ plainL js = plainL (js.drop i)) (fun I hI m s h' => ?_) ⟨0, Nat.zero_add _, by simp⟩
  rintro ⟨i, hi, rfl, hp, hx⟩
  by_cases hlt : i < js.length
  · obtain ⟨y, hy, hd⟩ := drop_at hlt
    have e : plainL (y :: js.drop (i + 1)) = ((y.r == 0) && plainL (js.drop (i + 1))) := rfl
    rw [hd, e] at hx
    have lr := load_J (hjs.pre hp) hy
    by_cases c1 : y.r = 0
    · rw [show (y.r == 0) = true by simpa using c1, Bool.true_and] at hx
      simp -implicitDefEqProofs [-indexAddrP_some, hlt, lr, c1, winc hlt hn]
      exact ⟨m - 1, by omega, on hI ⟨i + 1, by omega, rfl, hp.trans (List.prefix_append ..), hx⟩⟩
    · rw [nb c1, Bool.false_and] at hx
      simp -implicitDefEqProofs [-indexAddrP_some, hlt, lr, nt c1, hx]
      exact gcP (hp.trans (List.prefix_append ..)) rfl
  · rw [List.drop_eq_nil_of_le (by omega)] at hx
    have hx : plainL js = true := hx
    simp -implicitDefEqProofs [hlt, hx]
    exact gcP hp rfl
theorem IsPlain_run (hj : Jobs h v js) (hn : js.length ≤ 2 ^ 40) : Ret P G n_impl_IsPlain [v] h (.bool (plOk js)) h := by
  refine enter_run e_impl_IsPlain (by simp) ?_
  have r1 := isJobs_run hj hn
  have r2 := isPlain_run hj hn
  obtain ⟨oa, c, rfl⟩ := hj.shapeT
  cases c1 : jOk js
  · simp -implicitDefEqProofs [CL_ret r1, c1, plOk]
  · simp -implicitDefEqProofs [CL_ret r1, c1, plOk, CL_ret r2]
theorem l6Good_run (hj : Jobs h v js) (hn : js.length ≤ 2 ^ 40) : Ret P G n_spec_l6Good [v] h (.bool (plOk js)) h := by
  refine enter_run e_spec_l6Good (by simp) ?_
  have r1 := good_run hj hn
  have r2 := l4Free_run hj hn
  obtain ⟨oa, c, rfl⟩ := hj.shapeT
  cases c1 : jOk js
  · simp -implicitDefEqProofs [CL_ret r1, c1, plOk]
  · rw [free_plain (jOk_of c1).2] at r2
    simp -implicitDefEqProofs [CL_ret r1, c1, plOk, CL_ret r2]
end
/-! ### comparisons -/
section
variable {h : Hp} {vj : Value} {js : List Job} {r : Nat} {a b : Int}
theorem l6Sooner_run (J : Jobs h vj js) (ha : 0 ≤ a ∧ a < js.length) (hb' : 0 ≤ b ∧ b < js.length) : Ret P G n_spec_l6Sooner [vj, .int .i64 a, .int .i64 b] h (.bool (sooner js a b)) h := by
  refine enter_run e_spec_l6Sooner (by simp) ?_
  have Js := J
  obtain ⟨oj, cj, rfl⟩ := J.shapeT
  by_cases c1 : (jA js a).d = (jA js b).d
  · by_cases c2 : (jA js a).t = (jA js b).t
    · simp -implicitDefEqProofs [-indexAddrP_some, load_JX Js ha, load_JX Js hb', sooner, c1, c2]
    · simp -implicitDefEqProofs [-indexAddrP_some, load_JX Js ha, load_JX Js hb', sooner, c1, nt c2, c2]
  · simp -implicitDefEqProofs [-indexAddrP_some, load_JX Js ha, load_JX Js hb', sooner, c1, nt c1]
end
/-! ### digits -/
theorem shr_eq {c i : Nat} (hc : c < 2 ^ 60) : shiftI .shr .i64 c i = some (.int .i64 ((c / 2 ^ i : Nat) : Int)) := by
  have h0 : ¬ (i : Int) < 0 := by omega
  simp only [shiftI, if_neg h0, Int.toNat_natCast]
  congr 2
  have e1 : ((2 : Int) ^ min i IntKind.i64.bits) = ((2 ^ min i IntKind.i64.bits : Nat) : Int) := by simp
  rw [e1, Int.fdiv_eq_ediv_of_nonneg _ (Int.natCast_nonneg _), ← Int.natCast_ediv]
  congr 1
  have hb : IntKind.i64.bits = 64 := rfl
  rw [hb]
  by_cases g : i ≤ 64
  · rw [Nat.min_eq_left g]
  · rw [Nat.min_eq_right (by omega), Nat.div_eq_of_lt (by omega), Nat.div_eq_of_lt]
    have : (2 : Nat) ^ 64 ≤ 2 ^ i := Nat.pow_le_pow_right (by omega) (by omega)
    omega
/-- A digit, as the machine has it. -/
theorem bit_val {c i : Nat} (hc : c < 2 ^ 60) : IntKind.i64.wrap ↑(((c : Int) / 2 ^ i % 2 ^ IntKind.i64.bits).toNat &&& (1 % 2 ^ IntKind.i64.bits : Int).toNat) = if c.testBit i = true then 1 else 0 := by
  have hb : IntKind.i64.bits = 64 := rfl
  have e1 : (1 % 2 ^ IntKind.i64.bits : Int).toNat = 1 := by rw [hb]; decide
  have e2 : ((c : Int) / 2 ^ i % 2 ^ IntKind.i64.bits).toNat = c / 2 ^ i := by
    have e3 : ((c : Int) / 2 ^ i) = ((c / 2 ^ i : Nat) : Int) := by simp
    have e4 : c / 2 ^ i ≤ c := Nat.div_le_self ..
    have e5 : ((c / 2 ^ i : Nat) : Int) < 2 ^ 64 := by have : ((c / 2 ^ i : Nat) : Int) ≤ (c : Int) := Int.ofNat_le.2 e4; omega
    rw [e3, hb, Int.emod_eq_of_lt (Int.natCast_nonneg _) e5, Int.toNat_natCast]
  rw [e1, e2, Nat.and_one_is_mod, ← Nat.shiftRight_eq_div_pow]
  have e5 : c.testBit i = decide (c >>> i % 2 = 1) := by rw [Nat.testBit_eq_decide_div_mod_eq, Nat.shiftRight_eq_div_pow]
  rw [e5]
  have : c >>> i % 2 < 2 := Nat.mod_lt _ (by omega)
  by_cases g : c >>> i % 2 = 1
  · rw [g, wrap_ok (by omega) (by omega)]; simp
  · have : c >>> i % 2 = 0 := by omega
    rw [this, wrap_ok (by omega) (by omega)]; simp
theorem l4Set_run {h : Hp} {n c : Nat} (hn : n ≤ 60) (hc : c < 2 ^ 60) : RunsC P G n_spec_l4Set [.int .i64 n, .int .i64 c] h fun v h' => h <+: h' ∧ Own h.length h' v 1 ((bitsL n c).map encI) := by
  refine hideC fun K hK => enter_run e_spec_l4Set (by simp) ?_
  have H0 := own_nil (Holds.start (h := h)) Int encI 1
  simp -implicitDefEqProofs
  refine R_loopO (fun m s h' => ∃ (i : Nat) (u : Value), i + m = n ∧ s = [(0, .int .i64 n), (1, .int .i64 c), (5, u), (6, .int .i64 i)] ∧ Holds h h' [.own u 1 ((bitsL i c).map encI)]) (fun I hI m s h' => ?_) (n := n) ⟨0, _, Nat.zero_add _, by simp; rfl, by simpa [bitsL] using H0⟩
  rintro ⟨i, u, hi, rfl, H⟩
  by_cases hlt : i < n
  · have hlt' : (i : Int) < n := by omega
    have bl := @bits_len i c
    have bs := @bits_snoc i c
    have bv := bit_val (i := i) hc
    cases ct : c.testBit i
    · rw [ct, if_neg (by simp)] at bs bv
      rw [List.append_nil] at bs
      simp -implicitDefEqProofs [hlt, hlt', shr_eq hc, bv, winc hlt (by omega)]
      exact ⟨m - 1, by omega, on hI ⟨i + 1, _, by omega, rfl, by rw [bs]; exact H⟩⟩
    · rw [ct, if_pos rfl] at bs bv
      obtain ⟨v', h2, ha, H2, _⟩ := push_I0 H 0 rfl (i : Int) (by omega)
      simp -implicitDefEqProofs [hlt, hlt', shr_eq hc, bv, ha, winc hlt (by omega)]
      exact ⟨m - 1, by omega, on hI ⟨i + 1, _, by omega, rfl, by rw [bs]; exact H2⟩⟩
  · have hlt' : ¬ (i : Int) < n := by omega
    have : i = n := by omega
    subst this
    simp -implicitDefEqProofs [hlt']
    exact onK hK (H.ret 0 rfl)
end Go.Pm.PP

/- Due orders and timely sets, by both. -/
set_option linter.unusedVariables false
set_option linter.unusedSimpArgs false
set_option maxRecDepth 4000
set_option maxHeartbeats 8000000
namespace Go.Pm.PP
open Go.Pm Go.Proofs Go.Pm.PE
/-- Times and dates are not too great. -/
structure Bd (js : List Job) : Prop where
  t : ∀ x, 0 ≤ (jA js x).t ∧ (jA js x).t ≤ 2 ^ 20
  d : ∀ x, -(2 ^ 20) ≤ (jA js x).d ∧ (jA js x).d ≤ 2 ^ 20
theorem good_bd {js : List Job} (hg : goodL js = true) : Bd js := by
  constructor
  all_goals
    intro x
    rcases @jA_in js x with g | g
    · have := job_of (List.all_eq_true.1 hg _ g); omega
    · rw [g]; simp
/-- Put into the middle, in a region that draws its order. -/
theorem ins_mid {h0 h : Hp} {L : List Asn} (H : Holds h0 h L) (i : Nat) {u : Value} {xs : List Int} (hi : L[i]? = some (.own u 1 (xs.map encI))) {k : Nat} (hk : k ≤ xs.length) (x : Int) (hn : xs.length ≤ 2 ^ 20) :
    ∃ (a3 : Option Addr) (b3 c3 : Nat) (a4 : Option Addr) (b4 c4 : Nat) (h4 : Hp) (a5 : Option Addr) (b5 c5 : Nat) (h5 : Hp) (a6 : Option Addr) (b6 c6 : Nat) (v7 : Value) (h7 : Hp),
      sliceP P h t_S_int u none (some (.int .i64 k)) = some (.slice a3 b3 c3) ∧ appendP P h t_S_int (.slice none 0 0) (.slice a3 b3 c3) = some (.slice a4 b4 c4, h4) ∧ newOk h h4 ∧
      appendP P (h4 ++ [some ⟨[.int .i64 x], 1, false⟩]) t_S_int (.slice a4 b4 c4) (.slice (some ⟨h4.length, 0, some 1⟩) 1 1) = some (.slice a5 b5 c5, h5) ∧ modOk h.length (h4 ++ [some ⟨[.int .i64 x], 1, false⟩]) h5 ∧ newOk h h5 ∧
      sliceP P h5 t_S_int u (some (.int .i64 k)) none = some (.slice a6 b6 c6) ∧ appendP P h5 t_S_int (.slice a5 b5 c5) (.slice a6 b6 c6) = some (v7, h7) ∧ h <+: h4 ∧ Holds h0 h7 (L.set i (.own v7 1 ((xs.take k ++ x :: xs.drop k).map encI))) ∧ h <+: h7 := by
  have S2 := H.sees i hi
  obtain ⟨v3, s3, f3⟩ := S2.front (P := P) u_S_int i_int (k := .i64) (j := (k : Int)) (by omega) (by simp; omega)
  rw [Int.toNat_natCast, ← List.map_take] at f3
  have H0 := own_nil (Holds.start (h := h)) Int encI 1
  obtain ⟨v4, h4, ha4, H4', _⟩ := app_I H0 0 rfl f3 (by simp; omega)
  have H4 : Holds h h4 [.own v4 1 ((xs.take k).map encI)] := H4'
  have n4 : NR h.length h4 := append_nr nr_self ha4
  have no4 := newOk_of H4.pre n4
  obtain ⟨v5, h5, ha5, H5', k5, _⟩ := push_I0 H4 0 rfl x (by simp; omega)
  have H5 : Holds h h5 [.own v5 1 ((xs.take k ++ [x]).map encI)] := H5'
  have n5 : NR h.length (h4 ++ [some ⟨[.int .i64 x], 1, false⟩]) := n4.new [.int .i64 x] 1
  have md := app_mod (b := h.length) rfl n5 ha5 (H4.pre.trans (List.prefix_append ..)) H5.pre
  have n6 := append_nr n5 ha5
  obtain ⟨v6, s6, f6, _⟩ := (S2.pre H5.pre).back (P := P) u_S_int i_int (k := .i64) (j := (k : Int)) (by omega) (by simp; omega)
  rw [Int.toNat_natCast, ← List.map_drop] at f6
  obtain ⟨v7, h7, ha7, H7', _⟩ := app_I H5 0 rfl f6 (by simp; omega)
  have H7 : Holds h h7 [.own v7 1 ((xs.take k ++ x :: xs.drop k).map encI)] := by
    have : Holds h h7 [.own v7 1 ((xs.take k ++ [x] ++ xs.drop k).map encI)] := H7'
    rw [List.append_assoc] at this
    exact this
  obtain ⟨a3, b3, c3, rfl⟩ : ∃ a n c, v3 = .slice a n c := by obtain ⟨a, c, e⟩ := f3.shape; exact ⟨_, _, _, e⟩
  obtain ⟨a4, b4, c4, rfl⟩ : ∃ a n c, v4 = .slice a n c := by obtain ⟨a, c, e⟩ := (H4.sees 0 rfl).shape; exact ⟨_, _, _, e⟩
  obtain ⟨a5, b5, c5, rfl⟩ : ∃ a n c, v5 = .slice a n c := by obtain ⟨a, c, e⟩ := (H5.sees 0 rfl).shape; exact ⟨_, _, _, e⟩
  obtain ⟨a6, b6, c6, rfl⟩ : ∃ a n c, v6 = .slice a n c := by obtain ⟨a, c, e⟩ := f6.shape; exact ⟨_, _, _, e⟩
  have HJ := H.join H7
  have hil := (List.getElem?_eq_some_iff.1 hi).1
  refine ⟨a3, b3, c3, a4, b4, c4, h4, a5, b5, c5, h5, a6, b6, c6, v7, h7, s3, ha4, no4, ha5, md, newOk_of H5.pre n6, s6, ha7, H4.pre, ?_, H7.pre⟩
  refine HJ.sub (fun j => if j = i then L.length else j) (fun j A e => ?_) fun j1 j2 A B e1 e2 g => ?_
  · rw [List.getElem?_set] at e
    split at e
    · rename_i e2
      subst e2
      cases e
      rw [if_pos rfl, List.getElem?_append_right (Nat.le_refl _), Nat.sub_self]; rfl
    · rename_i e2
      rw [if_neg fun g => e2 g.symm, List.getElem?_append_left (List.getElem?_eq_some_iff.1 e).1]
      exact e
  · have l1 := (List.getElem?_eq_some_iff.1 e1).1
    have l2 := (List.getElem?_eq_some_iff.1 e2).1
    rw [List.length_set] at l1 l2
    split at g <;> split at g <;> omega
section
variable {h : Hp} {vj v : Value} {js : List Job} {xs : List Int}
theorem l6Due_run (J : Jobs h vj js) (X : Ints h v xs) (hin : inN js.length xs) (hn : xs.length ≤ 2 ^ 10) : RunsC P G n_spec_l6Due [vj, v] h fun w h' => h <+: h' ∧ Own h.length h' w 1 ((dueF js xs).map encI) := by
  refine hideC fun K hK => enter_run e_spec_l6Due (by simp) ?_
  have Js := J
  have Xs := X
  obtain ⟨oj, cj, rfl⟩ := J.shapeT
  obtain ⟨ox, cx, rfl⟩ := X.shapeT
  have H0 := own_nil (Holds.start (h := h)) Int encI 1
  simp -implicitDefEqProofs
  refine R_loopO (fun m s h' => ∃ (i : Nat) (u : Value) (us : List Int), i + m = xs.length ∧ s = [(0, .slice oj js.length cj), (1, .slice ox xs.length cx), (5, u), (6, .int .i64 i)] ∧ us.length = i ∧ (∀ z, z ∈ us → z ∈ xs) ∧
    dueF js xs = (xs.drop i).foldl (fun l x => insF (fun y => sooner js y x) x l) us ∧ Holds h h' [.own u 1 (us.map encI)]) (fun I hI m s h' => ?_) (n := xs.length) ⟨0, _, [], Nat.zero_add _, by simp, rfl, by simp, rfl, H0⟩
  rintro ⟨i, u, us, hi, rfl, hul, hsub, hx, H⟩
  by_cases hlt : i < xs.length
  · obtain ⟨y, hy, hd⟩ := drop_at hlt
    rw [hd, List.foldl_cons] at hx
    have hyx := hin y (List.mem_of_getElem? hy)
    have S := H.sees 0 rfl
    obtain ⟨ou, cu, rfl⟩ : ∃ a c, u = .slice a us.length c := by obtain ⟨a, c, e⟩ := S.shapeT; exact ⟨a, c, e⟩
    simp -implicitDefEqProofs [hlt]
    refine R_loopO (fun m2 s h2 => ∃ (k : Nat), k + m2 = us.length ∧ s = [(0, .slice oj js.length cj), (1, .slice ox xs.length cx), (5, .slice ou us.length cu), (6, .int .i64 i), (7, .int .i64 k)] ∧ h2 = h' ∧ ∀ i z, i < k → us[i]? = some z → sooner js z y = true) (fun I2 hI2 m2 s h2 => ?_) (n := us.length)
      ⟨0, Nat.zero_add _, by simp, rfl, fun i z h => by omega⟩
    rintro ⟨k, hk, rfl, rfl, hall⟩
    have lyx := load_I (Xs.pre H.pre) hy
    have fin : (∀ z, us[k]? = some z → sooner js z y = false) → us.take k ++ y :: us.drop k = insF (fun z => sooner js z y) y us := fun g => (insF_take (by omega) hall g).symm
    have hins : (insF (fun z => sooner js z y) y us).length = i + 1 := by rw [insF_perm.length_eq, List.length_cons, hul]
    have hsub' : ∀ z, z ∈ insF (fun z => sooner js z y) y us → z ∈ xs := fun z hz => by
      rcases List.mem_cons.1 (insF_perm.mem_iff.1 hz) with rfl | g
      · exact List.mem_of_getElem? hy
      · exact hsub z g
    obtain ⟨a3, b3, c3, a4, b4, c4, h4, a5, b5, c5, h5, a6, b6, c6, v7, h7, s3, ha4, no4, ha5, md, no5, s6, ha7, hp4, H7, hp7⟩ := ins_mid H 0 rfl (k := k) (by omega) y (by omega)
    by_cases hlk : k < us.length
    · obtain ⟨z, hz, _⟩ := drop_at hlk
      have lz := load_I S hz
      have rs := l6Sooner_run (Js.pre H.pre) (hin z (hsub z (List.mem_of_getElem? hz))) hyx
      cases c1 : sooner js z y
      · rw [c1] at rs
        rw [fin (fun z' g => by rw [hz] at g; cases g; exact c1)] at H7
        have hlk' : (k : Int) < us.length := by omega
        simp -implicitDefEqProofs [-indexAddrP_some, hlk, hlk', lz, lyx, CL_ret rs, CH_at rs, s3, ha4, no4, ha5, md, no5, s6, ha7, load_I (Xs.pre (H.pre.trans hp4)) hy, winc hlt (by omega)]
        exact ⟨m - 1, by omega, on hI ⟨i + 1, v7, _, by omega, rfl, hins, hsub', hx, H7⟩⟩
      · rw [c1] at rs
        have hlk' : (k : Int) < us.length := by omega
        simp -implicitDefEqProofs [-indexAddrP_some, hlk, hlk', lz, lyx, CL_ret rs, CH_at rs, winc hlk (by omega)]
        exact ⟨m2 - 1, by omega, on hI2 ⟨k + 1, by omega, rfl, rfl, fun i z' h1 h2 => by
          rcases Nat.lt_or_ge i k with g | g
          · exact hall i z' g h2
          · have : i = k := by omega
            subst this
            rw [hz] at h2; cases h2; exact c1⟩⟩
    · rw [fin (fun z' g => by rw [List.getElem?_eq_none (by omega)] at g; cases g)] at H7
      have hlk' : ¬ (k : Int) < us.length := by omega
      simp -implicitDefEqProofs [-indexAddrP_some, hlk, hlk', lyx, s3, ha4, no4, ha5, md, no5, s6, ha7, load_I (Xs.pre (H.pre.trans hp4)) hy, winc hlt (by omega)]
      exact ⟨m - 1, by omega, on hI ⟨i + 1, v7, _, by omega, rfl, hins, hsub', hx, H7⟩⟩
  · rw [List.drop_eq_nil_of_le (by omega), List.foldl_nil] at hx
    rw [hx] at hK
    simp -implicitDefEqProofs [hlt]
    exact onK hK (H.ret 0 rfl)
end
end Go.Pm.PP

/- The greatest lateness and delays, by both; the draw. -/
set_option linter.unusedVariables false
set_option linter.unusedSimpArgs false
set_option maxRecDepth 4000
set_option maxHeartbeats 8000000
namespace Go.Pm.PP
open Go.Pm Go.Proofs Go.Pm.PE
theorem upTo_in {n : Nat} : inN n (upTo n) := fun x hx => mem_upTo.1 hx
theorem up_asc' {n : Nat} : (upTo n).Pairwise (· < ·) := up_asc
theorem bits_up {n : Nat} : bitsL n (2 ^ n - 1) = upTo n := by rw [bits_full, upTo, List.range_eq_range']
/-- All jobs in due order. -/
def dueAll (js : List Job) : List Int := dueL js (upTo js.length)
theorem dueAll_ord {js : List Job} : Ord js.length (dueAll js) := by
  have p : (dueAll js).Perm (upTo js.length) := sortB_perm
  exact ⟨by rw [p.length_eq, upTo_len], fun x hx => mem_upTo.1 (p.mem_iff.1 hx), p.nodup_iff.2 (upTo_nodup _)⟩
theorem ord_perm {n : Nat} {xs : List Int} (o : Ord n xs) : xs.Perm (upTo n) := (List.perm_ext_iff_of_nodup o.nd (upTo_nodup n)).2 fun x => by
  rw [mem_upTo]
  refine ⟨fun hx => o.inn x hx, fun hx => ?_⟩
  have := o.all (i := x.toNat) (by omega)
  rwa [show ((x.toNat : Nat) : Int) = x by omega] at this
theorem ord_prm {n : Nat} {xs : List Int} (o : Ord n xs) : Prm n xs := by
  have := ord_perm o
  rwa [upTo, List.range_eq_range'] at this
section
variable {h : Hp} {vj v : Value} {js : List Job} {xs : List Int}
theorem shl_eq {i : Nat} (hi : i ≤ 60) : shiftI .shl .i64 1 i = some (.int .i64 ((2 ^ i : Nat) : Int)) := by
  have h0 : ¬ (i : Int) < 0 := by omega
  have hb : IntKind.i64.bits = 64 := rfl
  simp only [shiftI, if_neg h0, Int.toNat_natCast]
  rw [hb, Nat.min_eq_left (by omega), Int.one_mul]
  have e1 : ((2 : Int) ^ i) = ((2 ^ i : Nat) : Int) := by simp
  have e2 : 2 ^ i ≤ 2 ^ 60 := Nat.pow_le_pow_right (by omega) hi
  rw [e1]
  generalize 2 ^ i = d at e2 ⊢
  rw [wrap_ok (by omega) (by omega)]
theorem l6All_run (J : Jobs h vj js) (hn : js.length ≤ 58) : RunsC P G n_spec_l6All [vj] h fun w h' => h <+: h' ∧ Own h.length h' w 1 ((upTo js.length).map encI) := by
  refine hideC fun K hK => enter_run e_spec_l6All (by simp) ?_
  obtain ⟨oj, cj, rfl⟩ := J.shapeT
  have e2 : 2 ^ js.length ≤ 2 ^ 58 := Nat.pow_le_pow_right (by omega) hn
  have e3 := Nat.two_pow_pos js.length
  have w1 : IntKind.i64.wrap (((2 ^ js.length : Nat) : Int) - 1) = ((2 ^ js.length - 1 : Nat) : Int) := by rw [wrap_ok] <;> omega
  have rs := l4Set_run (h := h) (n := js.length) (c := 2 ^ js.length - 1) (by omega) (by omega)
  rw [bits_up] at rs
  generalize hc : 2 ^ js.length - 1 = c at *
  generalize hd : 2 ^ js.length = d at *
  have e1 : ((2 : Int) ^ js.length) = (d : Int) := by rw [← hd]; simp
  have sh := shl_eq (i := js.length) (by omega)
  rw [hd] at sh
  simp -implicitDefEqProofs [sh, w1]
  refine CL_post rs fun v1 h1 ⟨hp1, ho1⟩ => ?_
  simp -implicitDefEqProofs
  exact onK hK (((Holds.start (h := h)).call hp1 ho1).ret 0 rfl)
theorem l6Latest_run (J : Jobs h vj js) (hok : plOk js = true) : Ret P G n_spec_l6Latest [vj] h (.int .i64 (valX 4 js (dueAll js))) h := by
  refine enter_run e_spec_l6Latest (by simp) ?_
  have Js := J
  obtain ⟨hn, hg, _⟩ := plOk_of hok
  obtain ⟨oj, cj, rfl⟩ := J.shapeT
  simp -implicitDefEqProofs
  refine CL_post (l6All_run Js (by omega)) fun v1 h1 ⟨hp1, ho1⟩ => ?_
  simp -implicitDefEqProofs
  refine CL_post (l6Due_run (Js.pre hp1) ho1.sees upTo_in (by rw [upTo_len]; omega)) fun v2 h2 ⟨hp2, ho2⟩ => ?_
  rw [due_eq up_asc'] at ho2
  have rv := l2Value_run (o := 4) (Js.pre (hp1.trans hp2)) ho2.sees hg hn (by omega) dueAll_ord
  simp -implicitDefEqProofs [CL_ret rv]
  exact ⟨rfl, gcP (hp1.trans hp2) rfl⟩
/-! ### with a delay -/
end
/-! ### in plain terms -/
/-- Timely after a delay along an order of jobs. -/
def timD (js : List Job) (dl : Int) : Int → List Int → Bool
  | _, [] => true
  | now, x :: r => decide (now + (jA js x).t ≤ (jA js x).d + dl) && timD js dl (now + (jA js x).t) r
theorem timD_lat {js : List Job} (p : Pl js) {dl : Int} : ∀ {xs : List Int} {now m : Int}, 0 ≤ now → m ≤ dl → (timD js dl now xs = true ↔ latGo js now m xs ≤ dl)
  | [], now, m, _, hm => by simp [timD, latGo, hm]
  | x :: r, now, m, h, hm => by
    have := p.t x
    rw [timD, latGo, p.endAt h, Bool.and_eq_true, decide_eq_true_eq]
    have mono : ∀ {xs : List Int} {now m : Int}, m ≤ latGo js now m xs := by
      intro xs
      induction xs with
      | nil => intro now m; exact Int.le_refl _
      | cons x xs ih =>
        intro now m
        rw [latGo]
        exact Int.le_trans (by omega) ih
    constructor
    · rintro ⟨h1, h2⟩
      exact (timD_lat p (by omega) (by omega)).1 h2
    · intro hl
      have h1 := @mono r (now + (jA js x).t) (max m (now + (jA js x).t - (jA js x).d))
      have h2 : now + (jA js x).t ≤ (jA js x).d + dl := by omega
      exact ⟨h2, (timD_lat p (by omega) (by omega)).2 hl⟩
/-- The value of an order for the greatest lateness. -/
theorem valX_lat {js : List Job} (hok : plOk js = true) {xs : List Int} (o : Ord js.length xs) (hne : 0 < js.length) : valX 4 js xs = latGo js 0 (-(2 ^ 20)) xs := by
  obtain ⟨hn, hg, _⟩ := plOk_of hok
  refine val_lat (ord_prm o) ⟨(0 : Nat), o.all hne, ?_⟩
  have e0 : gE (endsL js xs) ((0 : Nat) : Int).toNat ∈ endsL js xs := by
    have : (0 : Nat) < (endsL js xs).length := by rw [endsL_len]; exact hne
    have := gE_get this
    exact List.mem_of_getElem? this
  have := endGo_bd hg (k := 0) o.inn (Int.le_refl 0) (by omega) (fun e he => by rw [List.eq_of_mem_replicate he]; omega) _ e0
  have := (good_bd hg).d ((0 : Nat) : Int)
  omega
end Go.Pm.PP

/- FnLateness in the small machine. -/
set_option linter.unusedVariables false
set_option linter.unusedSimpArgs false
set_option maxRecDepth 4000
set_option maxHeartbeats 8000000
namespace Go.Pm.PP
open Go.Pm Go.Proofs Go.Pm.PE
section
variable {h0 h : Hp} {r n : Nat} {vc : Value} {L : List Asn}
theorem plainJobs_run (B : By h0 vc) (C : Cur h0 h r vc n L) (hn : n ≤ 2 ^ 19) {most : Nat} (hm : most ≤ 8) : RunsC P G n_spec_l1Cur_plainJobs [.pointer (some ⟨r, 0, some 3⟩), .int .i64 most] h fun v h' => ∃ js : List Job, js.length ≤ 9 ∧ Cur h0 h' r vc (n + 202) (L ++ [.own v 4 (js.map encJ)]) := by
  refine hideC fun K hK => enter_run e_spec_l1Cur_plainJobs (by simp) ?_
  simp -implicitDefEqProofs
  refine CL_post (one_run B C (by omega) (k := 16) (by omega)) fun v h1 ⟨b, ev, C1⟩ => ?_
  subst ev
  simp -implicitDefEqProofs
  refine CL_post (someJobs_run B C1 (by omega) (b := b) (most := most) hm) fun v h2 ⟨js, hl, C2⟩ => ?_
  obtain ⟨ua, uc, rfl⟩ : ∃ a c, v = .slice a js.length c := C2.seesJ.shapeT
  simp -implicitDefEqProofs
  exact onK hK ⟨js, hl, C.gcO (C2.mono (by omega)) (fun h => h)⟩
end
end Go.Pm.PP

/- Typed rules for slices: printed by a program of this work (wrap.py). -/
set_option linter.unusedVariables false
set_option linter.unusedSimpArgs false
set_option maxRecDepth 4000
namespace Go.Pm.PP
open Go.Pm Go.Proofs
def encQ (x : Int × Int) : List Value := [.int .i64 x.1, .int .i64 x.2]
theorem load_Q {h : Hp} {v : Value} {xs : List (Int × Int)} {i : Nat} {x : Int × Int} (hv : Sees h v 2 (xs.map encQ)) (hx : xs[i]? = some x) :
    indexAddrP P h t_S_A2_int v (.int .i64 i) = some (.pointer (some (addP (base v) (i * 2)))) ∧ loadP P h t_A2_int (.pointer (some (addP (base v) (i * 2)))) = some (.agg #[.int .i64 x.1, .int .i64 x.2]) ∧
    loadP P h t_int (.pointer (some (addP (addP (base v) (i * 2)) 0))) = some (.int .i64 x.1) ∧
    loadP P h t_int (.pointer (some (addP (addP (base v) (i * 2)) 1))) = some (.int .i64 x.2) := by
  have hi := (List.getElem?_eq_some_iff.1 hx).1
  have h1 := hv.indexT (P := P) u_S_A2_int i_A2_int (k := .i64) (j := i) (by omega) (by omega)
  rw [Int.toNat_natCast] at h1
  have fld : ∀ k, k < 2 → loadP P h t_int (.pointer (some (addP (addP (base v) (i * 2)) k))) = (encQ x)[k]? := by
    intro k hk
    have := hv.cellT (P := P) a_int i_int hx hk
    rw [← this]
    simp only [addP, Nat.add_assoc]
  exact ⟨h1, hv.aggT a_A2_int i_A2_int hx, fld 0 (by omega), fld 1 (by omega)⟩
theorem ones_Q (xs : List (Int × Int)) : (xs.map encQ).flatten.all one = true := by
  induction xs with
  | nil => rfl
  | cons x xs ih => rw [List.map_cons, List.flatten_cons, List.all_append, ih]; rfl
theorem push_Q0 {h0 h : Hp} {L : List Asn} (H : Holds h0 h L) (i : Nat) {v : Value} {xs : List (Int × Int)} (hi : L[i]? = some (.own v 2 (xs.map encQ))) (x : Int × Int) (hn : xs.length ≤ 2 ^ 40) :
    ∃ v' h', appendP P (h ++ [some ⟨[.int .i64 x.1, .int .i64 x.2], 2, false⟩]) t_S_A2_int v (.slice (some ⟨h.length, 0, some 2⟩) 1 1) = some (v', h') ∧ Holds h0 h' (L.set i (.own v' 2 ((xs ++ [x]).map encQ))) ∧ Keeps (rowV v) h h' ∧ (rowV v = none → newOk (h ++ [some ⟨[.int .i64 x.1, .int .i64 x.2], 2, false⟩]) h') := by
  obtain ⟨v', h', g1, g2, g3, g4⟩ := (H.ext (List.prefix_append h [])).push (P := P) i (y := encQ x) (n := 2) hi u_S_A2_int e_t_A2_int z_t_A2_int s_t_A2_int (by omega) (by rw [b_t_A2_int]; omega) rfl rfl (by simp [encQ]) (by rw [b_t_A2_int]; simp; omega)
  rw [show xs.map encQ ++ [encQ x] = (xs ++ [x]).map encQ by simp] at g2
  exact ⟨v', h', by simpa [encQ] using g1, g2, Keeps.app.trans g3, by simpa [encQ] using g4⟩
theorem push_Q1 {h0 h : Hp} {L : List Asn} (H : Holds h0 h L) (i : Nat) {v : Value} {xs : List (Int × Int)} (hi : L[i]? = some (.own v 2 (xs.map encQ))) (x : Int × Int) {a1 : Option Row} (hn : xs.length ≤ 2 ^ 40) :
    ∃ v' h', appendP P (h ++ [a1, some ⟨[.int .i64 x.1, .int .i64 x.2], 2, false⟩]) t_S_A2_int v (.slice (some ⟨h.length + 1, 0, some 2⟩) 1 1) = some (v', h') ∧ Holds h0 h' (L.set i (.own v' 2 ((xs ++ [x]).map encQ))) ∧ Keeps (rowV v) h h' ∧ (rowV v = none → newOk (h ++ [a1, some ⟨[.int .i64 x.1, .int .i64 x.2], 2, false⟩]) h') := by
  obtain ⟨v', h', g1, g2, g3, g4⟩ := (H.ext (List.prefix_append h [a1])).push (P := P) i (y := encQ x) (n := 2) hi u_S_A2_int e_t_A2_int z_t_A2_int s_t_A2_int (by omega) (by rw [b_t_A2_int]; omega) rfl rfl (by simp [encQ]) (by rw [b_t_A2_int]; simp; omega)
  rw [show xs.map encQ ++ [encQ x] = (xs ++ [x]).map encQ by simp] at g2
  exact ⟨v', h', by simpa [encQ] using g1, g2, Keeps.app.trans g3, by simpa [encQ] using g4⟩
theorem put_Q {h0 h : Hp} {L : List Asn} (H : Holds h0 h L) (i : Nat) {v : Value} {xs : List (Int × Int)} (hi : L[i]? = some (.own v 2 (xs.map encQ))) {j : Nat} (hj : j < xs.length) (x : Int × Int) :
    ∃ h', storeP P h t_A2_int (.agg #[.int .i64 x.1, .int .i64 x.2]) (.pointer (some (addP (base v) (j * 2)))) = some h' ∧ Holds h0 h' (L.set i (.own v 2 ((xs.set j x).map encQ))) ∧ Keeps (rowV v) h h' := by
  have := H.put (P := P) i (t := t_A2_int) (w := .agg #[.int .i64 x.1, .int .i64 x.2]) (j := j) hi i_A2_int (by simpa using hj) rfl (by simp)
  simpa [List.map_set, encQ] using this
end Go.Pm.PP

/- Rule differences, ruled orders and inversions, by both. -/
set_option linter.unusedVariables false
set_option linter.unusedSimpArgs false
set_option maxRecDepth 4000
set_option maxHeartbeats 8000000
namespace Go.Pm.PP
open Go.Pm Go.Proofs Go.Pm.PE
section
variable {h : Hp} {vj v : Value} {js : List Job} {xs : List Int} {o : Int}
theorem jobOk_jA (hg : goodL js = true) {x : Int} (hx : 0 ≤ x ∧ x < js.length) : jobOk (jA js x) = true := by
  obtain ⟨q, hq, hql, hqy⟩ := jA_get (js := js) rfl hx
  exact job_at hg hqy
end
end Go.Pm.PP

/- Inversions, losses, ruled orders, exchanges, by both. -/
set_option linter.unusedVariables false
set_option linter.unusedSimpArgs false
set_option maxRecDepth 4000
set_option maxHeartbeats 8000000
namespace Go.Pm.PP
open Go.Pm Go.Proofs Go.Pm.PE
abbrev Prs (h : Hp) (v : Value) (xs : List (Int × Int)) : Prop := Sees h v 2 (xs.map encQ)
section
variable {h : Hp} {vj v : Value} {js : List Job} {xs : List Int} {o : Int}
/-! ### losses -/
end
end Go.Pm.PP

/- Whether an order is ruled, exchanges, codes that are cut, pairs that are the same. -/
set_option linter.unusedVariables false
set_option linter.unusedSimpArgs false
set_option maxRecDepth 4000
set_option maxHeartbeats 8000000
namespace Go.Pm.PP
open Go.Pm Go.Proofs Go.Pm.PE
section
variable {h : Hp} {vj v u : Value} {js : List Job} {xs : List Int} {o : Int}
theorem eqA2 {a b c d : Int} : eqAgg P t_A2_int (.agg #[.int .i64 a, .int .i64 b]) (.agg #[.int .i64 c, .int .i64 d]) = some (a == c && b == d) := by
  unfold eqAgg
  rw [if_neg (by rw [show P.eqGuardType P.depth t_A2_int = false by kernel_rfl]; simp)]
  have hc : P.cellsOf t_int = 1 := by kernel_rfl
  simp [eqV, u_A2_int, eqE, partP, List.range, List.range.loop, u_int, hc]
end
end Go.Pm.PP

/- Ruled orders are best, in plain terms: the last end too. -/
set_option linter.unusedVariables false
set_option linter.unusedSimpArgs false
namespace Go.Pm.PP
open Go.Pm Go.Pm.PE
end Go.Pm.PP

/- Draws: plain jobs, ruled orders, inversions. -/
set_option linter.unusedVariables false
set_option linter.unusedSimpArgs false
set_option maxRecDepth 4000
set_option maxHeartbeats 8000000
namespace Go.Pm.PP
open Go.Pm Go.Proofs Go.Pm.PE
section
variable {h : Hp} {vj v : Value} {js : List Job} {o : Int}
end
/-! ### draws -/
section
variable {h0 h : Hp} {r n : Nat} {vc : Value} {L : List Asn}
end
theorem plain2T {a b : Value} {r : List Value} (h : plain (.tuple (a :: b :: r).toArray) = true) : plainC b = true := by
  have : ((a :: b :: r).toArray : Array Value).toList.all plainC = true := h
  simp only [List.all_cons, Bool.and_eq_true] at this
  exact this.2.1
theorem gc_JX {h h1 : Hp} {u w : Value} {r : List Value} {js : List Job} {xs : List Int} (hp : h <+: h1) (J : Jobs h1 u js) (X : Ints h1 w xs) : h <+: gc h h1 (.tuple (u :: w :: r).toArray) ∧ Jobs (gc h h1 (.tuple (u :: w :: r).toArray)) u js ∧ Ints (gc h h1 (.tuple (u :: w :: r).toArray)) w xs :=
  ⟨pre_gcU hp, Sees.gcU J fun g => plainT (r := w :: r) g, Sees.gcU X fun g => plain2T (r := r) g⟩
end Go.Pm.PP

/- FnPairLoss in the small machine. -/
set_option linter.unusedVariables false
set_option linter.unusedSimpArgs false
set_option maxRecDepth 4000
set_option maxHeartbeats 16000000
namespace Go.Pm.PP
open Go.Pm Go.Proofs Go.Pm.PE
end Go.Pm.PP

/- Ruled orders, by both. -/
set_option linter.unusedVariables false
set_option linter.unusedSimpArgs false
set_option maxRecDepth 4000
set_option maxHeartbeats 8000000
namespace Go.Pm.PP
open Go.Pm Go.Proofs Go.Pm.PE
section
variable {h : Hp} {vj v u : Value} {js : List Job} {xs ys : List Int} {o : Int}
/-! ### rule differences -/
end
/-! ### ruled orders are best -/
end Go.Pm.PP
