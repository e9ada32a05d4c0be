/- The texts PkE, PkF, PkG, PkH, PkI, PkJ, PkC, PkK, PkL, PkM of this work: List plans: the tables of a precedence and their closure, by both. -/
import Derived.Test.YtlieeolnnehncaaP10
import Derived.Test.YtlieeolnnehncaaM4
import Derived.Test.YtlieeolnnehncaaP7
import Derived.Test.YtlieeolnnehncaaP8
import Derived.Test.YtlieeolnnehncaaP9
/- List plans: the tables of a precedence and their closure, by both. -/
set_option linter.unusedVariables false
set_option linter.unusedSimpArgs false
set_option maxRecDepth 4000
set_option maxHeartbeats 4000000
namespace Go.Pm.PP
open Go.Pm Go.Proofs Go.Pm.LP
/-- The place of x in T's row i. -/
structure RowAt (h : Hp) (v : Value) (us : List Value) (T : Tab) (i : Nat) (u : Value) (r : List Bool) : Prop where
  hu : us[i]? = some u
  hr : T[i]? = some r
  ld : indexAddrP P h t_S_S_bool v (.int .i64 i) = some (.pointer (some (addP (base v) i))) ∧ loadP P h t_S_bool (.pointer (some (addP (base v) i))) = some u
  see : Sees h u 1 (r.map encB)
section
variable {h0 h : Hp} {L1 L2 : List Asn} {v : Value} {us : List Value} {T : Tab} {n i j : Nat}
theorem tab_row (N : Nest h v encB 1 T us) (s : Sq n T) (hi : i < n) : ∃ u r, RowAt h v us T i u r ∧ r.length = n := by
  obtain ⟨r, hr, hl⟩ := s.row hi
  obtain ⟨u, hu, ho⟩ := N.at hr
  have := load_NB N.out hu
  exact ⟨u, r, ⟨hu, hr, ⟨this.1, this.2⟩, ho⟩, hl⟩
theorem row_bit {u : Value} {r : List Bool} (R : RowAt h v us T i u r) (hj : j < r.length) : indexAddrP P h t_S_bool u (.int .i64 j) = some (.pointer (some (addP (base u) j))) ∧ loadP P h t_bool (.pointer (some (addP (base u) j))) = some (.bool (tg T i j)) := by
  have hx : r[j]? = some (tg T i j) := by rw [tg_at R.hr, List.getElem?_eq_getElem hj]; rfl
  exact load_B R.see hx
theorem tab_put (H : Holds h0 h (L1 ++ (inL encB 1 us T ++ L2))) (hl : us.length = T.length) {u : Value} {r : List Bool} (R : RowAt h v us T i u r) (hj : j < r.length) (b : Bool) :
    ∃ h', storeP P h t_bool (.bool b) (.pointer (some (addP (base u) j))) = some h' ∧ Holds h0 h' (L1 ++ (inL encB 1 us (ts T i j b) ++ L2)) := by
  have hi : i < us.length := (List.getElem?_eq_some_iff.1 R.hu).1
  have hL : (L1 ++ (inL encB 1 us T ++ L2))[L1.length + i]? = some (.own u 1 (r.map encB)) := by
    rw [List.getElem?_append_right (by omega), Nat.add_sub_cancel_left, List.getElem?_append_left (by rw [inL_len hl]; exact hi)]
    exact inL_get R.hu R.hr
  obtain ⟨h', hs, H', _⟩ := put_B H (L1.length + i) hL hj b
  refine ⟨h', hs, ?_⟩
  have e : (L1 ++ (inL encB 1 us T ++ L2)).set (L1.length + i) (.own u 1 ((r.set j b).map encB)) = L1 ++ (inL encB 1 us (ts T i j b) ++ L2) := by
    rw [List.set_append_right (h := by omega), Nat.add_sub_cancel_left, List.set_append_left (h := by rw [inL_len hl]; exact hi), inL_set R.hu hl, ts_at R.hr]
  rw [e] at H'
  exact H'
end
theorem ts_self {n i j : Nat} {T : Tab} (s : Sq n T) (hi : i < n) (hj : j < n) : ts T i j (tg T i j) = T := by
  obtain ⟨r, hr, hl⟩ := s.row hi
  rw [ts_at hr, tg_at hr]
  have : r.set j (r[j]?.getD false) = r := by
    rw [List.getElem?_eq_getElem (by omega), Option.getD_some, List.set_getElem_self]
  rw [this]
  obtain ⟨hi', e⟩ := List.getElem?_eq_some_iff.1 hr
  rw [← e, List.set_getElem_self]
def t0 (n : Nat) : Tab := List.replicate n (List.replicate n false)
def eT (T : Tab) (e : Int × Int) : Tab := ts T e.1.toNat e.2.toNat true
def tabOf (n : Nat) (es : List (Int × Int)) : Tab := clos n (es.foldl eT (t0 n))
def inE (n : Nat) (es : List (Int × Int)) : Prop := ∀ e, e ∈ es → (0 ≤ e.1 ∧ e.1 < n) ∧ 0 ≤ e.2 ∧ e.2 < n
theorem t0_sq (n : Nat) : Sq n (t0 n) := ⟨by simp [t0], fun r hr => by rw [List.eq_of_mem_replicate hr]; simp⟩
theorem eT_sq {n : Nat} : ∀ {es : List (Int × Int)} {T : Tab}, Sq n T → inE n es → Sq n (es.foldl eT T)
  | [], T, s, _ => s
  | e :: es, T, s, h => eT_sq (es := es) (s.ts (by have := h e (List.mem_cons_self ..); omega)) fun x hx => h x (List.mem_cons_of_mem _ hx)
theorem tab_sq {n : Nat} {es : List (Int × Int)} (h : inE n es) : Sq n (tabOf n es) := clos_sq (eT_sq (t0_sq n) h)
theorem tab_tr {n : Nat} {es : List (Int × Int)} (h : inE n es) : TrB n n (tabOf n es) := clos_tr (eT_sq (t0_sq n) h)
theorem fold_r {α : Type} {f : α → Nat → α} {a : α} {i m : Nat} (hm : 0 < m) : (List.range' i m).foldl f a = (List.range' (i + 1) (m - 1)).foldl f (f a i) := by
  obtain ⟨k, rfl⟩ : ∃ k, m = k + 1 := ⟨m - 1, by omega⟩
  rw [List.range'_succ, List.foldl_cons, Nat.add_sub_cancel]
theorem own1 {v : Value} {us : List Value} {T : Tab} {L : List Asn} : (.own v 1 (us.map encV) :: inL encB 1 us T) = [.own v 1 (us.map encV)] ++ (inL encB 1 us T ++ []) := by simp
theorem l4Table_run {h : Hp} {ve : Value} {n : Nat} {es : List (Int × Int)} (hv : Prs h ve es) (hn : es.length ≤ 2 ^ 40) (h8 : n ≤ 2 ^ 30) (hin : inE n es) :
    RunsC P G n_spec_l4Table [.int .i64 n, ve] h fun v' h' => ∃ us : List Value, us.length = n ∧ Holds h h' (.own v' 1 (us.map encV) :: inL encB 1 us (tabOf n es)) := by
  refine hideC fun K hK => enter_run e_spec_l4Table (by simp) ?_
  have hvs := hv
  obtain ⟨oa, c, rfl⟩ := hv.shapeT
  simp -implicitDefEqProofs
  -- rows
  refine R_loopO (fun m s h' => ∃ (i : Nat) (u : Value) (us : List Value), i + m = n ∧ s = [(0, .int .i64 n), (1, .slice oa es.length c), (5, u), (6, .int .i64 i)] ∧ us.length = i ∧
    Holds h h' (.own u 1 (us.map encV) :: inL encB 1 us (List.replicate i (List.replicate n false)))) (fun I hI m s h' => ?_) ⟨0, .slice none 0 0, [], Nat.zero_add _, by simp, rfl, by simpa [inL] using own_nil (Holds.start (h := h)) Value encV 1⟩
  rintro ⟨i, u, us, hi, rfl, hus, H⟩
  by_cases hlt : i < n
  · have hlt' : (i : Int) < n := by omega
    obtain ⟨v1, h1, mk, H1, p1, o1, ev1⟩ := make_B H (n := n) (by omega)
    subst ev1
    obtain ⟨v2, h2, ha, H2, k2, _⟩ := push_NB0 H1 0 rfl (Value.slice o1 n n) rfl (by rw [hus]; omega)
    simp -implicitDefEqProofs [hlt, hlt', mk, ha, winc hlt (by omega)]
    refine ⟨m - 1, by omega, on hI ⟨i + 1, v2, us ++ [.slice o1 n n], by omega, rfl, by simp [hus], ?_⟩⟩
    rw [List.replicate_succ', inL_snoc (by simp [hus])]
    exact H2
  have hin' : i = n := by omega
  subst hin'
  have hlt' : ¬ (i : Int) < i := by omega
  simp -implicitDefEqProofs [hlt, hlt']
  have H : Holds h h' (.own u 1 (us.map encV) :: inL encB 1 us (t0 i)) := H
  have hsh := (H.sees 0 rfl).shapeT
  obtain ⟨ou, cu, rfl⟩ := hsh
  generalize hX : tabOf i es = X at hK
  -- pairs
  refine R_loopO (fun m s h2 => ∃ (j : Nat) (T : Tab), j + m = es.length ∧ s = [(0, .int .i64 i), (1, .slice oa es.length c), (5, .slice ou us.length cu), (7, .int .i64 j)] ∧ Sq i T ∧ X = clos i ((es.drop j).foldl eT T) ∧
    Holds h h2 (.own (.slice ou us.length cu) 1 (us.map encV) :: inL encB 1 us T)) (fun I1 hI1 m1 s1 h2 => ?_) ⟨0, t0 i, Nat.zero_add _, by simp, t0_sq i, hX.symm, H⟩
  rintro ⟨j, T, hj, rfl, sq, hx, H⟩
  by_cases hlt1 : j < es.length
  · obtain ⟨y, hy, hd⟩ := drop_at hlt1
    rw [hd, List.foldl_cons] at hx
    have iy := hin y (List.mem_of_getElem? hy)
    obtain ⟨a, ha⟩ : ∃ a : Nat, y.1 = a := ⟨y.1.toNat, by omega⟩
    obtain ⟨b, hb⟩ : ∃ b : Nat, y.2 = b := ⟨y.2.toNat, by omega⟩
    have hl : us.length = T.length := by rw [hus, sq.len]
    have H' : Holds h h2 ([.own (.slice ou us.length cu) 1 (us.map encV)] ++ (inL encB 1 us T ++ [])) := by simpa using H
    have N := Holds.nest (o := 0) H' rfl hl
    obtain ⟨u1, r, R, hr⟩ := tab_row N sq (i := a) (by omega)
    obtain ⟨h3, st, H3⟩ := tab_put H' hl R (j := b) (by omega) true
    have le := load_Q (hvs.pre H.pre) hy
    rw [ha, hb] at le
    have bit := (row_bit R (j := b) (by omega)).1
    simp -implicitDefEqProofs [-indexAddrP_some, hlt1, le, R.ld, bit, st, winc hlt1 hn]
    refine ⟨m1 - 1, by omega, on hI1 ⟨j + 1, ts T a b true, by omega, rfl, sq.ts (by omega), ?_, by simpa using H3⟩⟩
    rw [hx, eT, ha, hb]; rfl
  simp -implicitDefEqProofs [hlt1]
  rw [List.drop_eq_nil_of_le (by omega), List.foldl_nil] at hx
  -- closure
  refine R_loopO (fun m s h3 => ∃ (k : Nat) (T : Tab), k + m = i ∧ s = [(0, .int .i64 i), (5, .slice ou us.length cu), (8, .int .i64 k)] ∧ Sq i T ∧ X = (List.range' k m).foldl (w3 i) T ∧
    Holds h h3 (.own (.slice ou us.length cu) 1 (us.map encV) :: inL encB 1 us T)) (fun I2 hI2 m2 s2 h3 => ?_) ⟨0, T, Nat.zero_add _, by simp, sq, hx, H⟩
  rintro ⟨k, T2, hk, rfl, sq2, hx2, H2⟩
  by_cases hlt2 : k < i
  · have hlt2' : (k : Int) < i := by omega
    rw [fold_r (f := w3 i) (by omega)] at hx2
    simp -implicitDefEqProofs [hlt2, hlt2']
    refine R_loopO (fun m s h4 => ∃ (p : Nat) (T : Tab), p + m = i ∧ s = [(0, .int .i64 i), (5, .slice ou us.length cu), (8, .int .i64 k), (9, .int .i64 p)] ∧ Sq i T ∧ X = (List.range' (k + 1) (m2 - 1)).foldl (w3 i) ((List.range' p m).foldl (w2 i k) T) ∧
      Holds h h4 (.own (.slice ou us.length cu) 1 (us.map encV) :: inL encB 1 us T)) (fun I3 hI3 m3 s3 h4 => ?_) ⟨0, T2, Nat.zero_add _, by simp, sq2, hx2, H2⟩
    rintro ⟨p, T3, hp, rfl, sq3, hx3, H3⟩
    by_cases hlt3 : p < i
    · have hlt3' : (p : Int) < i := by omega
      rw [fold_r (f := w2 i k) (by omega)] at hx3
      simp -implicitDefEqProofs [hlt3, hlt3']
      refine R_loopO (fun m s h5 => ∃ (q : Nat) (T : Tab), q + m = i ∧ s = [(0, .int .i64 i), (5, .slice ou us.length cu), (8, .int .i64 k), (9, .int .i64 p), (10, .int .i64 q)] ∧ Sq i T ∧
        X = (List.range' (k + 1) (m2 - 1)).foldl (w3 i) ((List.range' (p + 1) (m3 - 1)).foldl (w2 i k) ((List.range' q m).foldl (w1 k p) T)) ∧
        Holds h h5 (.own (.slice ou us.length cu) 1 (us.map encV) :: inL encB 1 us T)) (fun I4 hI4 m4 s4 h5 => ?_) ⟨0, T3, Nat.zero_add _, by simp, sq3, hx3, H3⟩
      rintro ⟨q, T4, hq, rfl, sq4, hx4, H4⟩
      by_cases hlt4 : q < i
      · have hlt4' : (q : Int) < i := by omega
        rw [fold_r (f := w1 k p) (by omega)] at hx4
        have hl : us.length = T4.length := by rw [hus, sq4.len]
        have H' : Holds h h5 ([.own (.slice ou us.length cu) 1 (us.map encV)] ++ (inL encB 1 us T4 ++ [])) := by simpa using H4
        have N := Holds.nest (o := 0) H' rfl hl
        obtain ⟨u1, r1, R1, hr1⟩ := tab_row N sq4 (i := p) hlt3
        obtain ⟨u2, r2, R2, hr2⟩ := tab_row N sq4 (i := k) hlt2
        obtain ⟨h6, st, H6⟩ := tab_put H' hl R1 (j := q) (by omega) true
        have b1 := row_bit R1 (j := k) (by omega)
        have b2 := row_bit R2 (j := q) (by omega)
        have b3 := row_bit R1 (j := q) (by omega)
        cases c1 : tg T4 p k
        · rw [c1] at b1
          simp -implicitDefEqProofs [-indexAddrP_some, hlt4, hlt4', R1.ld, R2.ld, b1, winc hlt4 (by omega)]
          refine ⟨m4 - 1, by omega, on hI4 ⟨q + 1, T4, by omega, rfl, sq4, ?_, H4⟩⟩
          rw [hx4, w1, c1]; rfl
        · rw [c1] at b1
          cases c2 : tg T4 k q
          · rw [c2] at b2
            simp -implicitDefEqProofs [-indexAddrP_some, hlt4, hlt4', R1.ld, R2.ld, b1, b2, winc hlt4 (by omega)]
            refine ⟨m4 - 1, by omega, on hI4 ⟨q + 1, T4, by omega, rfl, sq4, ?_, H4⟩⟩
            rw [hx4, w1, c1, c2]; rfl
          · rw [c2] at b2
            simp -implicitDefEqProofs [-indexAddrP_some, hlt4, hlt4', R1.ld, R2.ld, b1, b2, b3.1, st, winc hlt4 (by omega)]
            refine ⟨m4 - 1, by omega, on hI4 ⟨q + 1, ts T4 p q true, by omega, rfl, sq4.ts hlt3, ?_, by simpa using H6⟩⟩
            rw [hx4, w1, c1, c2]; rfl
      · have hlt4' : ¬ (q : Int) < i := by omega
        have hm4 : m4 = 0 := by omega
        subst hm4
        simp -implicitDefEqProofs [hlt4, hlt4', winc hlt3 (by omega)]
        exact ⟨m3 - 1, by omega, on hI3 ⟨p + 1, T4, by omega, rfl, sq4, hx4, H4⟩⟩
    · have hlt3' : ¬ (p : Int) < i := by omega
      have hm3 : m3 = 0 := by omega
      subst hm3
      simp -implicitDefEqProofs [hlt3, hlt3', winc hlt2 (by omega)]
      exact ⟨m2 - 1, by omega, on hI2 ⟨k + 1, T3, by omega, rfl, sq3, hx3, H3⟩⟩
  · have hlt2' : ¬ (k : Int) < i := by omega
    have hm2 : m2 = 0 := by omega
    subst hm2
    simp -implicitDefEqProofs [hlt2, hlt2']
    refine onK hK ⟨us, hus, ?_⟩
    rw [List.range'_zero, List.foldl_nil] at hx2
    rw [hx2]
    exact H2.gcN (by rw [hus, sq2.len]) fun hp => hp
end Go.Pm.PP

/- List plans: the closure by the program; what is asked of a precedence, by both. -/
set_option linter.unusedVariables false
set_option linter.unusedSimpArgs false
set_option maxRecDepth 4000
set_option maxHeartbeats 4000000
namespace Go.Pm.PP
open Go.Pm Go.Proofs Go.Pm.LP
theorem w1_eq {n k i j : Nat} {T : Tab} (s : Sq n T) (hi : i < n) (hj : j < n) : w1 k i T j = ts T i j (tg T i j || (tg T i k && tg T k j)) := by
  unfold w1
  cases c : (tg T i k && tg T k j)
  · rw [if_neg (by simp), Bool.or_false, ts_self s hi hj]
  · rw [if_pos rfl, Bool.or_true]
theorem closure_run {h : Hp} {ve : Value} {n : Nat} {es : List (Int × Int)} (hv : Prs h ve es) (hn : es.length ≤ 2 ^ 40) (h8 : n ≤ 2 ^ 30) (hin : inE n es) :
    RunsC P G n_impl_closure [.int .i64 n, ve] h fun v' h' => ∃ us : List Value, us.length = n ∧ Holds h h' (.own v' 1 (us.map encV) :: inL encB 1 us (tabOf n es)) := by
  refine hideC fun K hK => enter_run e_impl_closure (by simp) ?_
  have hvs := hv
  obtain ⟨oa, c, rfl⟩ := hv.shapeT
  obtain ⟨vz, h1, mk, H1, hp1, oz, rfl⟩ := makeN_NB (Holds.start (h := h)) (n := n) (by omega)
  simp -implicitDefEqProofs [mk]
  -- rows
  refine R_loopO (fun m s h' => ∃ (i : Nat) (us : List Value), i + m = n ∧ s = [(0, .int .i64 n), (1, .slice oa es.length c), (5, .slice oz n n), (15, .int .i64 n), (16, .int .i64 i)] ∧ us.length = i ∧
    Holds h h' (.own (.slice oz n n) 1 ((us ++ List.replicate (n - i) (Value.slice none 0 0)).map encV) :: inL encB 1 us (List.replicate i (List.replicate n false)))) (fun I hI m s h' => ?_) ⟨0, [], Nat.zero_add _, by simp, rfl, by simpa [inL] using H1⟩
  rintro ⟨i, us, hi, rfl, hus, H⟩
  by_cases hlt : i < n
  · have hlt' : (i : Int) < n := by omega
    obtain ⟨v1, h1, mk1, H1, p1, o1, ev1⟩ := make_B H (n := n) (by omega)
    subst ev1
    have hz : (us ++ List.replicate (n - i) (Value.slice none 0 0))[i]? = some (Value.slice none 0 0) := by
      rw [List.getElem?_append_right (by omega), hus, Nat.sub_self, List.getElem?_replicate, if_pos (by omega)]
    have ix := (load_NB (H1.sees 0 rfl) hz).1
    obtain ⟨h2, st, H2, k2⟩ := put_NB H1 0 rfl (j := i) (by simp; omega) (Value.slice o1 n n) rfl
    simp -implicitDefEqProofs [-indexAddrP_some, hlt, hlt', mk1, ix, st, winc hlt (by omega)]
    refine ⟨m - 1, by omega, on hI ⟨i + 1, us ++ [.slice o1 n n], by omega, rfl, by simp [hus], ?_⟩⟩
    rw [List.replicate_succ', inL_snoc (by simp [hus])]
    have e : (us ++ List.replicate (n - i) (Value.slice none 0 0)).set i (Value.slice o1 n n) = (us ++ [Value.slice o1 n n]) ++ List.replicate (n - (i + 1)) (Value.slice none 0 0) := by
      rw [List.set_append_right (h := by omega), hus, Nat.sub_self, show n - i = (n - (i + 1)) + 1 by omega, List.replicate_succ, List.set_cons_zero, List.append_assoc]
      rfl
    rw [e] at H2
    exact H2
  have hin' : i = n := by omega
  subst hin'
  have hlt' : ¬ (i : Int) < i := by omega
  rw [Nat.sub_self, List.replicate_zero, List.append_nil] at H
  simp -implicitDefEqProofs [hlt, hlt']
  have H : Holds h h' (.own (.slice oz i i) 1 (us.map encV) :: inL encB 1 us (t0 i)) := H
  generalize hX : tabOf i es = X at hK
  -- pairs
  refine R_loopO (fun m s h2 => ∃ (j : Nat) (T : Tab), j + m = es.length ∧ s = [(0, .int .i64 i), (5, .slice oz i i), (25, .slice oa es.length c), (26, .int .i64 es.length), (27, .int .i64 j)] ∧ Sq i T ∧ X = clos i ((es.drop j).foldl eT T) ∧
    Holds h h2 (.own (.slice oz i i) 1 (us.map encV) :: inL encB 1 us T)) (fun I1 hI1 m1 s1 h2 => ?_) ⟨0, t0 i, Nat.zero_add _, by simp, t0_sq i, hX.symm, H⟩
  rintro ⟨j, T, hj, rfl, sq, hx, H⟩
  by_cases hlt1 : j < es.length
  · obtain ⟨y, hy, hd⟩ := drop_at hlt1
    rw [hd, List.foldl_cons] at hx
    have iy := hin y (List.mem_of_getElem? hy)
    obtain ⟨y1, y2⟩ := y
    obtain ⟨a, rfl⟩ : ∃ a : Nat, y1 = a := ⟨y1.toNat, by simp at iy; omega⟩
    obtain ⟨b, rfl⟩ : ∃ b : Nat, y2 = b := ⟨y2.toNat, by simp at iy; omega⟩
    have hl : us.length = T.length := by rw [hus, sq.len]
    have le := load_Q (hvs.pre H.pre) hy
    have H := H.ext (List.prefix_append h2 [some ⟨[.int .i64 a, .int .i64 b], 0, false⟩])
    have H' : Holds h (h2 ++ [some ⟨[.int .i64 a, .int .i64 b], 0, false⟩]) ([.own (.slice oz i i) 1 (us.map encV)] ++ (inL encB 1 us T ++ [])) := by simpa using H
    have N := Holds.nest (o := 0) H' rfl hl
    have ia : a < i := by simp at iy; omega
    have ib : b < i := by simp at iy; omega
    obtain ⟨u1, r, R, hr⟩ := tab_row N sq (i := a) ia
    obtain ⟨h3, st, H3⟩ := tab_put H' hl R (j := b) (by omega) true
    have bit := (row_bit R (j := b) (by omega)).1
    simp -implicitDefEqProofs [-indexAddrP_some, hlt1, le, R.ld, bit, st, winc hlt1 hn]
    refine ⟨m1 - 1, by omega, on hI1 ⟨j + 1, ts T a b true, by omega, rfl, sq.ts (by omega), ?_, by simpa using H3⟩⟩
    rw [hx, eT]; rfl
  simp -implicitDefEqProofs [hlt1]
  rw [List.drop_eq_nil_of_le (by omega), List.foldl_nil] at hx
  -- closure
  refine R_loopO (fun m s h3 => ∃ (k : Nat) (T : Tab), k + m = i ∧ s = [(0, .int .i64 i), (5, .slice oz i i), (9, .int .i64 k)] ∧ Sq i T ∧ X = (List.range' k m).foldl (w3 i) T ∧
    Holds h h3 (.own (.slice oz i i) 1 (us.map encV) :: inL encB 1 us T)) (fun I2 hI2 m2 s2 h3 => ?_) ⟨0, T, Nat.zero_add _, by simp, sq, hx, H⟩
  rintro ⟨k, T2, hk, rfl, sq2, hx2, H2⟩
  by_cases hlt2 : k < i
  · have hlt2' : (k : Int) < i := by omega
    rw [fold_r (f := w3 i) (by omega)] at hx2
    simp -implicitDefEqProofs [hlt2, hlt2']
    refine R_loopO (fun m s h4 => ∃ (p : Nat) (T : Tab), p + m = i ∧ s = [(0, .int .i64 i), (5, .slice oz i i), (9, .int .i64 k), (10, .int .i64 p)] ∧ Sq i T ∧ X = (List.range' (k + 1) (m2 - 1)).foldl (w3 i) ((List.range' p m).foldl (w2 i k) T) ∧
      Holds h h4 (.own (.slice oz i i) 1 (us.map encV) :: inL encB 1 us T)) (fun I3 hI3 m3 s3 h4 => ?_) ⟨0, T2, Nat.zero_add _, by simp, sq2, hx2, H2⟩
    rintro ⟨p, T3, hp, rfl, sq3, hx3, H3⟩
    by_cases hlt3 : p < i
    · have hlt3' : (p : Int) < i := by omega
      rw [fold_r (f := w2 i k) (by omega)] at hx3
      simp -implicitDefEqProofs [hlt3, hlt3']
      refine R_loopO (fun m s h5 => ∃ (q : Nat) (T : Tab), q + m = i ∧ s = [(0, .int .i64 i), (5, .slice oz i i), (9, .int .i64 k), (10, .int .i64 p), (11, .int .i64 q)] ∧ Sq i T ∧
        X = (List.range' (k + 1) (m2 - 1)).foldl (w3 i) ((List.range' (p + 1) (m3 - 1)).foldl (w2 i k) ((List.range' q m).foldl (w1 k p) T)) ∧
        Holds h h5 (.own (.slice oz i i) 1 (us.map encV) :: inL encB 1 us T)) (fun I4 hI4 m4 s4 h5 => ?_) ⟨0, T3, Nat.zero_add _, by simp, sq3, hx3, H3⟩
      rintro ⟨q, T4, hq, rfl, sq4, hx4, H4⟩
      by_cases hlt4 : q < i
      · have hlt4' : (q : Int) < i := by omega
        rw [fold_r (f := w1 k p) (by omega), w1_eq sq4 hlt3 hlt4] at hx4
        have hl : us.length = T4.length := by rw [hus, sq4.len]
        have H' : Holds h h5 ([.own (.slice oz i i) 1 (us.map encV)] ++ (inL encB 1 us T4 ++ [])) := by simpa using H4
        have N := Holds.nest (o := 0) H' rfl hl
        obtain ⟨u1, r1, R1, hr1⟩ := tab_row N sq4 (i := p) hlt3
        obtain ⟨u2, r2, R2, hr2⟩ := tab_row N sq4 (i := k) hlt2
        obtain ⟨h6, st, H6⟩ := tab_put H' hl R1 (j := q) (by omega) (tg T4 p q || (tg T4 p k && tg T4 k q))
        have b1 := row_bit R1 (j := k) (by omega)
        have b2 := row_bit R2 (j := q) (by omega)
        have b3 := row_bit R1 (j := q) (by omega)
        have go : ∃ m', m' < m4 ∧ I4 m' [(0, .int .i64 i), (5, .slice oz i i), (9, .int .i64 k), (10, .int .i64 p), (11, .int .i64 ((q + 1 : Nat) : Int))] h6 :=
          ⟨m4 - 1, by omega, on hI4 ⟨q + 1, _, by omega, rfl, sq4.ts hlt3, hx4, by simpa using H6⟩⟩
        have wq := winc hlt4 (show i ≤ 2 ^ 40 by omega)
        cases c0 : tg T4 p q
        · rw [c0, Bool.false_or] at st
          rw [c0] at b3
          cases c1 : tg T4 p k
          · rw [c1, Bool.false_and] at st
            rw [c1] at b1
            simp -implicitDefEqProofs [-indexAddrP_some, hlt4, hlt4', R1.ld, R2.ld, b1, b2, b3, st, wq]
            simpa using go
          · rw [c1, Bool.true_and] at st
            rw [c1] at b1
            cases c2 : tg T4 k q <;> (rw [c2] at st b2; simp -implicitDefEqProofs [-indexAddrP_some, hlt4, hlt4', R1.ld, R2.ld, b1, b2, b3, st, wq]; simpa using go)
        · rw [c0, Bool.true_or] at st
          rw [c0] at b3
          simp -implicitDefEqProofs [-indexAddrP_some, hlt4, hlt4', R1.ld, R2.ld, b3, st, wq]
          simpa using go
      · have hlt4' : ¬ (q : Int) < i := by omega
        have hm4 : m4 = 0 := by omega
        subst hm4
        simp -implicitDefEqProofs [hlt4, hlt4', winc hlt3 (by omega)]
        exact ⟨m3 - 1, by omega, on hI3 ⟨p + 1, T4, by omega, rfl, sq4, hx4, H4⟩⟩
    · have hlt3' : ¬ (p : Int) < i := by omega
      have hm3 : m3 = 0 := by omega
      subst hm3
      simp -implicitDefEqProofs [hlt3, hlt3', winc hlt2 (by omega)]
      exact ⟨m2 - 1, by omega, on hI2 ⟨k + 1, T3, by omega, rfl, sq3, hx3, H3⟩⟩
  · have hlt2' : ¬ (k : Int) < i := by omega
    have hm2 : m2 = 0 := by omega
    subst hm2
    simp -implicitDefEqProofs [hlt2, hlt2']
    refine onK hK ⟨us, hus, ?_⟩
    rw [List.range'_zero, List.foldl_nil] at hx2
    rw [hx2]
    exact H2.gcN (by rw [hus, sq2.len]) fun hp => hp
/-! ### what is asked of a precedence -/
theorem prs_in {n : Nat} : ∀ {es : List (Int × Int)} {p : Option (Int × Int)}, prs n p es = true → inE n es
  | [], _, _ => fun e he => by cases he
  | x :: r, p, h => by
    rw [prs, Bool.and_eq_true, Bool.and_eq_true] at h
    intro e he
    rcases List.mem_cons.1 he with rfl | he
    · have := h.1.1
      simp [pairOk, inB] at this
      omega
    · exact prs_in h.2 e he
def irrG (T : Tab) (l : List Nat) : Bool := l.all fun i => !tg T i i
def precOk (n : Nat) (es : List (Int × Int)) : Bool := decide (es.length ≤ 28) && prs n none es && irrG (tabOf n es) (List.range' 0 n)
theorem irr_r {T : Tab} {i m : Nat} (hm : 0 < m) : irrG T (List.range' i m) = (!tg T i i && irrG T (List.range' (i + 1) (m - 1))) := by
  obtain ⟨k, rfl⟩ : ∃ k, m = k + 1 := ⟨m - 1, by omega⟩
  rw [List.range'_succ, Nat.add_sub_cancel]; rfl
theorem l4Good_run {h : Hp} {ve : Value} {n : Nat} {es : List (Int × Int)} (hv : Prs h ve es) (hn : es.length ≤ 2 ^ 40) (h8 : n ≤ 8) :
    Ret P G n_spec_l4Good [.int .i64 n, ve] h (.bool (precOk n es)) h := by
  refine enter_run e_spec_l4Good (by simp) ?_
  have r1 := l4Pairs_run (h := h) hv hn h8
  cases c1 : (decide (es.length ≤ 28) && prs n none es)
  · simp -implicitDefEqProofs [CL_ret r1, c1, precOk]
  have hin : inE n es := prs_in (by simp at c1; exact c1.2)
  simp -implicitDefEqProofs [CL_ret r1, c1]
  refine CL_post (l4Table_run hv hn (by omega) hin) fun v1 h1 ⟨us, hus, H⟩ => ?_
  have sq := tab_sq hin
  rw [precOk, c1, Bool.true_and]
  generalize tabOf n es = T at H sq ⊢
  have H' : Holds h h1 ([.own v1 1 (us.map encV)] ++ (inL encB 1 us T ++ [])) := by simpa using H
  have N := Holds.nest (o := 0) H' rfl (by rw [hus, sq.len])
  obtain ⟨ov, cv, rfl⟩ := N.shape
  simp -implicitDefEqProofs
  refine R_loopO (fun m s h2 => ∃ (i : Nat), i + m = n ∧ s = [(0, .int .i64 n), (5, .slice ov T.length cv), (6, .int .i64 i)] ∧ h2 = h1 ∧ irrG T (List.range' 0 n) = irrG T (List.range' i m)) (fun I hI m s h2 => ?_) ⟨0, Nat.zero_add _, by simp, rfl, rfl⟩
  rintro ⟨i, hi, rfl, rfl, hx⟩
  by_cases hlt : i < n
  · have hlt' : (i : Int) < n := by omega
    rw [irr_r (i := i) (m := m) (by omega)] at hx
    obtain ⟨u, r, R, hr⟩ := tab_row N sq hlt
    have b := row_bit R (j := i) (by omega)
    cases c2 : tg T i i
    · rw [c2, Bool.not_false, Bool.true_and] at hx
      rw [c2] at b
      simp -implicitDefEqProofs [-indexAddrP_some, hlt, hlt', R.ld, b, winc hlt (by omega)]
      exact ⟨m - 1, by omega, on hI ⟨i + 1, by omega, rfl, rfl, hx⟩⟩
    · rw [c2, Bool.not_true, Bool.false_and] at hx
      rw [c2] at b
      simp -implicitDefEqProofs [-indexAddrP_some, hlt, hlt', R.ld, b, hx, gcP H.pre (v := .bool false) rfl]
  · have hlt' : ¬ (i : Int) < n := by omega
    have hm : m = 0 := by omega
    subst hm
    have hx' : irrG T (List.range' 0 n) = true := by rw [hx]; rfl
    simp -implicitDefEqProofs [hlt, hlt', hx', gcP H.pre (v := .bool true) rfl]
theorem prs_step {es : List (Int × Int)} {i : Nat} {y z : Int × Int} (hz : es[i]? = some z) : aft (prv es (i + 1)) y = befP z y := by rw [prv, hz]; rfl
theorem IsPrecedence_run {h : Hp} {ve : Value} {n : Nat} {es : List (Int × Int)} (hv : Prs h ve es) (hn : es.length ≤ 2 ^ 40) (h8 : n ≤ 8) :
    Ret P G n_impl_IsPrecedence [.int .i64 n, ve] h (.bool (precOk n es)) h := by
  refine enter_run e_impl_IsPrecedence (by simp) ?_
  have hvs := hv
  obtain ⟨oa, c, rfl⟩ := hv.shapeT
  have c0 : inB (n : Int) 0 8 = true := by simp [inB]; omega
  have wn : w64 ((n : Int) - 1) = (n : Int) - 1 := by unfold w64; rw [wrap_ok] <;> omega
  have nr : ∀ {i : Int} {h : Hp}, Ret P G n_impl_isNumber [.int .i64 i, .int .i64 n] h (.bool (inB i 0 ((n : Int) - 1))) h := by
    intro i h; have := isNumber_run (h := h) (i := i) (n := (n : Int)); rw [wn] at this; exact this
  by_cases c1 : es.length ≤ 28
  · have c1' : ¬ (28 : Int) < es.length := by omega
    simp -implicitDefEqProofs [CL_ret within_run, c0, c1, c1', precOk]
    refine R_loopO (fun m s h' => ∃ i : Nat, i + m = es.length ∧ s = [(0, .int .i64 n), (1, .slice oa es.length c), (17, .slice oa es.length c), (18, .int .i64 es.length), (19, .int .i64 i)] ∧ h <+: h' ∧ prs n none es = prs n (prv es i) (es.drop i)) (fun I hI m s h' => ?_) ⟨0, Nat.zero_add _, by simp, List.prefix_rfl, rfl⟩
    rintro ⟨i, hi, rfl, hp, hx⟩
    by_cases hlt : i < es.length
    · obtain ⟨y, hy, hd⟩ := drop_at hlt
      rw [hd, prs] at hx
      have ly := load_Q (hvs.pre hp) hy
      have wi := winc hlt hn
      have hp2 := fun l => hp.trans (List.prefix_append h' l)
      cases c2 : inB y.1 0 ((n : Int) - 1)
      · simp only [pairOk, c2, Bool.false_and] at hx
        simp -implicitDefEqProofs [-indexAddrP_some, hlt, ly, CL_ret nr, c2, hx, gcB' hp]
      cases c3 : inB y.2 0 ((n : Int) - 1)
      · simp only [pairOk, c2, c3, Bool.false_and, Bool.and_false] at hx
        simp -implicitDefEqProofs [-indexAddrP_some, hlt, ly, CL_ret nr, c2, c3, hx, gcB' hp]
      cases c4 : (y.1 == y.2)
      · have c4' : ¬ y.1 = y.2 := by simpa using c4
        cases i with
        | zero =>
          simp only [pairOk, c2, c3, c4, Bool.and_true, Bool.true_and, Bool.not_false, prv, aft] at hx
          rw [show ((0 : Nat) : Int) = 0 from rfl, Nat.zero_mul] at ly
          simp -implicitDefEqProofs [-indexAddrP_some, hlt, ly, CL_ret nr, c2, c3, c4, wi]
          exact ⟨m - 1, by omega, on hI ⟨1, by omega, rfl, hp2 _, by simpa [prv, hy] using hx⟩⟩
        | succ i =>
          obtain ⟨z, hz, _⟩ := drop_at (show i < es.length by omega)
          have w2 : IntKind.i64.wrap (i : Int) = (i : Int) := by rw [wrap_ok] <;> omega
          have g0 : (0 : Int) < (i : Int) + 1 := by omega
          have hlt' : (i : Int) + 1 < es.length := by omega
          have lz := fun l => load_Q (hvs.pre (hp2 l)) hz
          rw [show ((i + 1 : Nat) : Int) = (i : Int) + 1 from rfl] at ly wi
          rw [prs_step hz] at hx
          have cond : befP z y = true ∨ befP z y = false := by cases befP z y <;> simp
          by_cases d1 : y.1 < z.1
          · have : befP z y = false := by simp [befP]; omega
            simp only [pairOk, c2, c3, c4, Bool.and_true, Bool.true_and, Bool.not_false, this, Bool.false_and] at hx
            simp -implicitDefEqProofs [-indexAddrP_some, hlt, hlt', ly, lz, CL_ret nr, c2, c3, c4, w2, g0, d1, hx, gcB' hp]
          · by_cases d2 : z.1 = y.1
            · by_cases d3 : y.2 ≤ z.2
              · have : befP z y = false := by simp [befP]; omega
                simp only [pairOk, c2, c3, c4, Bool.and_true, Bool.true_and, Bool.not_false, this, Bool.false_and] at hx
                simp -implicitDefEqProofs [-indexAddrP_some, hlt, hlt', ly, lz, CL_ret nr, c2, c3, c4, w2, g0, d1, d2, d3, hx, gcB' hp]
              · have : befP z y = true := by simp [befP]; omega
                simp only [pairOk, c2, c3, c4, Bool.and_true, Bool.true_and, Bool.not_false, this] at hx
                simp -implicitDefEqProofs [-indexAddrP_some, hlt, hlt', ly, lz, CL_ret nr, c2, c3, c4, w2, g0, d1, d2, d3, wi]
                exact ⟨m - 1, by omega, on hI ⟨i + 2, by omega, rfl, hp2 _, by simpa [prv, hy] using hx⟩⟩
            · have : befP z y = true := by simp [befP]; omega
              simp only [pairOk, c2, c3, c4, Bool.and_true, Bool.true_and, Bool.not_false, this] at hx
              simp -implicitDefEqProofs [-indexAddrP_some, hlt, hlt', ly, lz, CL_ret nr, c2, c3, c4, w2, g0, d1, nb d2, wi]
              exact ⟨m - 1, by omega, on hI ⟨i + 2, by omega, rfl, hp2 _, by simpa [prv, hy] using hx⟩⟩
      · simp only [pairOk, c2, c3, c4, Bool.and_true, Bool.true_and, Bool.not_true, Bool.false_and] at hx
        simp -implicitDefEqProofs [-indexAddrP_some, hlt, ly, CL_ret nr, c2, c3, c4, hx, gcB' hp]
    · rw [List.drop_eq_nil_of_le (by omega), prs] at hx
      have hin : inE n es := prs_in hx
      simp -implicitDefEqProofs [hlt, hx]
      refine CL_post (closure_run (hvs.pre hp) hn (by omega) hin) fun v1 h1 ⟨us, hus, H⟩ => ?_
      have sq := tab_sq hin
      generalize tabOf n es = T at H sq ⊢
      have H' : Holds h' h1 ([.own v1 1 (us.map encV)] ++ (inL encB 1 us T ++ [])) := by simpa using H
      have N := Holds.nest (o := 0) H' rfl (by rw [hus, sq.len])
      obtain ⟨ov, cv, rfl⟩ := N.shape
      simp -implicitDefEqProofs
      refine R_loopO (fun m s h2 => ∃ (i : Nat), i + m = n ∧ s = [(7, .slice ov T.length cv), (83, .int .i64 n), (84, .int .i64 i)] ∧ h2 = h1 ∧ irrG T (List.range' 0 n) = irrG T (List.range' i m)) (fun I2 hI2 m2 s h2 => ?_) ⟨0, Nat.zero_add _, by simp [sq.len], rfl, rfl⟩
      rintro ⟨i2, hi2, rfl, rfl, hx2⟩
      by_cases hlt2 : i2 < n
      · have hlt' : (i2 : Int) < n := by omega
        rw [irr_r (i := i2) (m := m2) (by omega)] at hx2
        obtain ⟨u, r, R, hr⟩ := tab_row N sq hlt2
        have b := row_bit R (j := i2) (by omega)
        cases c2 : tg T i2 i2
        · rw [c2, Bool.not_false, Bool.true_and] at hx2
          rw [c2] at b
          simp -implicitDefEqProofs [-indexAddrP_some, hlt2, hlt', R.ld, b, winc hlt2 (by omega)]
          exact ⟨m2 - 1, by omega, on hI2 ⟨i2 + 1, by omega, rfl, rfl, hx2⟩⟩
        · rw [c2, Bool.not_true, Bool.false_and] at hx2
          rw [c2] at b
          simp -implicitDefEqProofs [-indexAddrP_some, hlt2, hlt', R.ld, b, hx2, gcP (hp.trans H.pre) (v := .bool false) rfl]
      · have hlt' : ¬ (i2 : Int) < n := by omega
        have hm : m2 = 0 := by omega
        subst hm
        have hx' : irrG T (List.range' 0 n) = true := by rw [hx2]; rfl
        simp -implicitDefEqProofs [hlt2, hlt', hx', gcP (hp.trans H.pre) (v := .bool true) rfl]
  · have c1' : (28 : Int) < es.length := by omega
    simp -implicitDefEqProofs [CL_ret within_run, c0, c1, c1', precOk]
end Go.Pm.PP

/- List plans: what is asked of all arguments, by both; the reference's next job and next end. -/
set_option linter.unusedVariables false
set_option linter.unusedSimpArgs false
set_option maxRecDepth 4000
set_option maxHeartbeats 4000000
namespace Go.Pm.PP
open Go.Pm Go.Proofs Go.Pm.LP
def parOk (js : List Job) (m : Int) (es : List (Int × Int)) : Bool := decide (js.length ≤ 8) && goodL js && plainL js && inB m 1 4 && precOk js.length es
def listOk (js : List Job) (m : Int) (es : List (Int × Int)) (xs : List Int) : Bool := parOk js m es && (((xs.length : Int) == js.length) && allIn xs xs.length)
section
variable {h : Hp} {vj ve vo : Value} {js : List Job} {es : List (Int × Int)} {xs : List Int} {m : Int}
theorem l7Good_run (hj : Jobs h vj js) (he : Prs h ve es) (l1 : js.length ≤ 2 ^ 40) (l2 : es.length ≤ 2 ^ 40) : Ret P G n_spec_l7Good [vj, .int .i64 m, ve] h (.bool (parOk js m es)) h := by
  refine enter_run e_spec_l7Good (by simp) ?_
  have r1 := l2Good_run hj l1
  have r2 := l3Plain_run hj l1
  obtain ⟨oj, cj, rfl⟩ := hj.shapeT
  by_cases c0 : js.length ≤ 8
  · have r3 := l4Good_run he l2 c0
    cases c1 : goodL js
    · simp -implicitDefEqProofs [CL_ret r1, c0, c1, parOk]
    cases c2 : plainL js
    · simp -implicitDefEqProofs [CL_ret r1, CL_ret r2, c0, c1, c2, parOk]
    cases c3 : inB m 1 4
    · simp -implicitDefEqProofs [CL_ret r1, CL_ret r2, CL_ret l1In_run, c0, c1, c2, c3, parOk]
    · simp -implicitDefEqProofs [CL_ret r1, CL_ret r2, CL_ret r3, CL_ret l1In_run, c0, c1, c2, c3, parOk]
  · simp -implicitDefEqProofs [CL_ret r1, c0, parOk]
theorem l7Ordered_run (hj : Jobs h vj js) (he : Prs h ve es) (ho : Ints h vo xs) (l1 : js.length ≤ 2 ^ 40) (l2 : es.length ≤ 2 ^ 40) (l3 : xs.length ≤ 2 ^ 40) : Ret P G n_spec_l7Ordered [vj, .int .i64 m, ve, vo] h (.bool (listOk js m es xs)) h := by
  refine enter_run e_spec_l7Ordered (by simp) ?_
  have r1 := l7Good_run (m := m) hj he l1 l2
  have r2 := l2Order_run (n := (js.length : Int)) ho l3
  obtain ⟨oj, cj, rfl⟩ := hj.shapeT
  cases c1 : parOk js m es
  · simp -implicitDefEqProofs [CL_ret r1, c1, listOk]
  · have c2 : inB (js.length : Int) 0 8 = true := by
      simp only [parOk, Bool.and_eq_true, decide_eq_true_eq] at c1
      simp [inB]; omega
    simp -implicitDefEqProofs [CL_ret r1, CL_ret r2, c1, c2, listOk, l2OrderL]
theorem isParallel_run (hj : Jobs h vj js) (he : Prs h ve es) (l1 : js.length ≤ 2 ^ 40) (l2 : es.length ≤ 2 ^ 40) : Ret P G n_impl_isParallel [vj, .int .i64 m, ve] h (.bool (parOk js m es)) h := by
  refine enter_run e_impl_isParallel (by simp) ?_
  have r1 := IsPlain_run hj l1
  obtain ⟨oj, cj, rfl⟩ := hj.shapeT
  by_cases c0 : js.length ≤ 8
  · have r3 := IsPrecedence_run he l2 c0
    cases c1 : goodL js
    · simp -implicitDefEqProofs [CL_ret r1, c0, c1, parOk]
    cases c2 : plainL js
    · simp -implicitDefEqProofs [CL_ret r1, c0, c1, c2, parOk]
    cases c3 : inB m 1 4
    · simp -implicitDefEqProofs [CL_ret r1, CL_ret within_run, c0, c1, c2, c3, parOk]
    · simp -implicitDefEqProofs [CL_ret r1, CL_ret r3, CL_ret within_run, c0, c1, c2, c3, parOk]
  · simp -implicitDefEqProofs [CL_ret r1, c0, parOk]
theorem isListed_run (hj : Jobs h vj js) (he : Prs h ve es) (ho : Ints h vo xs) (l1 : js.length ≤ 2 ^ 40) (l2 : es.length ≤ 2 ^ 40) (l3 : xs.length ≤ 2 ^ 40) : Ret P G n_impl_isListed [vj, .int .i64 m, ve, vo] h (.bool (parOk js m es && (((xs.length : Int) == js.length) && arGo js.length [] xs))) h := by
  refine enter_run e_impl_isListed (by simp) ?_
  have r1 := isParallel_run (m := m) hj he l1 l2
  have r2 := isOrder_run (n := (js.length : Int)) ho l3
  obtain ⟨oj, cj, rfl⟩ := hj.shapeT
  cases c1 : parOk js m es <;> simp -implicitDefEqProofs [CL_ret r1, CL_ret r2, c1]
end
/-! ### orders -/
theorem pigeon : ∀ (xs S : List Int), xs.Nodup → (∀ x ∈ xs, x ∈ S) → S.length ≤ xs.length → ∀ y ∈ S, y ∈ xs
  | [], S, _, _, hl, y, hy => by
    have : S = [] := List.eq_nil_of_length_eq_zero (by simpa using hl)
    rw [this] at hy; cases hy
  | a :: xs, S, hnd, hs, hl, y, hy => by
    have hnd := List.nodup_cons.1 hnd
    have ha := hs a (List.mem_cons_self ..)
    by_cases hya : y = a
    · rw [hya]; exact List.mem_cons_self ..
    · refine List.mem_cons_of_mem _ (pigeon xs (S.erase a) hnd.2 (fun x hx => ?_) ?_ y ((List.mem_erase_of_ne hya).2 hy))
      · have hxa : x ≠ a := fun e => hnd.1 (e ▸ hx)
        exact (List.mem_erase_of_ne hxa).2 (hs x (List.mem_cons_of_mem _ hx))
      · rw [List.length_erase_of_mem ha]
        simp only [List.length_cons] at hl
        omega
theorem pigeon2 : ∀ (S xs : List Int), S.Nodup → (∀ x ∈ S, x ∈ xs) → xs.length ≤ S.length → xs.Nodup
  | [], xs, _, _, hl => by
    have : xs = [] := List.eq_nil_of_length_eq_zero (by simpa using hl)
    rw [this]; exact List.nodup_nil
  | a :: S, xs, hnd, hs, hl => by
    have hnd' := List.nodup_cons.1 hnd
    have ha := hs a (List.mem_cons_self ..)
    have h1 : ∀ x ∈ S, x ∈ xs.erase a := fun x hx => by
      have hxa : x ≠ a := fun e => hnd'.1 (e ▸ hx)
      exact (List.mem_erase_of_ne hxa).2 (hs x (List.mem_cons_of_mem _ hx))
    have h2 : (xs.erase a).length ≤ S.length := by
      rw [List.length_erase_of_mem ha]
      simp only [List.length_cons] at hl
      omega
    have h3 := pigeon2 S (xs.erase a) hnd'.2 h1 h2
    have h4 := pigeon S (xs.erase a) hnd'.2 h1 h2
    exact (List.perm_cons_erase ha).nodup_iff.2 (List.nodup_cons.2 ⟨fun h => hnd'.1 (h4 a h), h3⟩)
def upTo (n : Nat) : List Int := (List.range n).map fun i : Nat => (i : Int)
theorem mem_upTo {n : Nat} {x : Int} : x ∈ upTo n ↔ 0 ≤ x ∧ x < n := by
  simp only [upTo, List.mem_map, List.mem_range]
  constructor
  · rintro ⟨i, hi, rfl⟩; omega
  · rintro ⟨h1, h2⟩; exact ⟨x.toNat, by omega, by omega⟩
theorem upTo_nodup (n : Nat) : (upTo n).Nodup := by
  refine List.Pairwise.map _ (fun a b h e => h ?_) List.nodup_range
  omega
theorem upTo_len (n : Nat) : (upTo n).length = n := by simp [upTo]
theorem hasL_iff' {x : Int} {xs : List Int} : hasL x xs = true ↔ x ∈ xs := by simp [hasL]
theorem order_eq {n : Nat} {xs : List Int} (hn : n ≤ 8) : (((xs.length : Int) == n) && arGo n [] xs) = (((xs.length : Int) == n) && allIn xs xs.length) := by
  cases h2 : ((xs.length : Int) == n) with
  | false => rfl
  | true =>
    have hl : xs.length = n := by have := beq_iff_eq.1 h2; omega
    have wn : w64 ((n : Int) - 1) = (n : Int) - 1 := by unfold w64; rw [wrap_ok] <;> omega
    rw [Bool.true_and, Bool.true_and, Bool.eq_iff_iff, arGo_iff wn]
    constructor
    · rintro ⟨h3, h4, _⟩
      refine List.all_eq_true.2 fun i hi => hasL_iff'.2 ?_
      have hi := List.mem_range.1 hi
      exact pigeon xs (upTo n) h4 (fun x hx => mem_upTo.2 (h3 x hx)) (by rw [upTo_len]; omega) i (mem_upTo.2 (by omega))
    · intro h3
      have h4 : ∀ i : Nat, i < n → (i : Int) ∈ xs := fun i hi => hasL_iff'.1 (List.all_eq_true.1 h3 i (List.mem_range.2 (by omega)))
      have h5 : ∀ x ∈ upTo n, x ∈ xs := fun x hx => by
        have := mem_upTo.1 hx
        have h6 := h4 x.toNat (by omega)
        rwa [show ((x.toNat : Nat) : Int) = x by omega] at h6
      have h6 := pigeon (upTo n) xs (upTo_nodup n) h5 (by rw [upTo_len]; omega)
      exact ⟨fun x hx => mem_upTo.1 (h6 x hx), pigeon2 (upTo n) xs (upTo_nodup n) h5 (by rw [upTo_len]; omega), by simp⟩
theorem listOk_eq {js : List Job} {m : Int} {es : List (Int × Int)} {xs : List Int} : (parOk js m es && (((xs.length : Int) == js.length) && arGo js.length [] xs)) = listOk js m es xs := by
  unfold listOk
  cases c : parOk js m es
  · rfl
  · rw [order_eq]
    simp only [parOk, Bool.and_eq_true, decide_eq_true_eq] at c
    omega
/-- What stands in arguments that are asked for. -/
theorem listOk_wf {js : List Job} {m : Int} {es : List (Int × Int)} {xs : List Int} (h : listOk js m es xs = true) : ∃ (mm : Nat) (os : List Nat), m = mm ∧ mm ≤ 4 ∧ xs = os.map (fun i : Nat => (i : Int)) ∧ js.length ≤ 8 ∧ os.length = js.length ∧ inE js.length es ∧ es.length ≤ 28 ∧ Wf js.length mm js (tabOf js.length es) os 50 := by
  unfold listOk parOk precOk at h
  simp only [Bool.and_eq_true, decide_eq_true_eq] at h
  obtain ⟨⟨⟨⟨⟨h1, h2⟩, h3⟩, h4⟩, ⟨h5, h6⟩, h7⟩, h8, h9⟩ := h
  have hin := prs_in h6
  have hl : xs.length = js.length := by have := beq_iff_eq.1 h8; omega
  have ho : ((xs.length : Int) == js.length && arGo js.length [] xs) = true := by rw [order_eq h1, Bool.and_eq_true]; exact ⟨h8, h9⟩
  have wn : w64 ((js.length : Int) - 1) = (js.length : Int) - 1 := by unfold w64; rw [wrap_ok] <;> omega
  rw [Bool.and_eq_true, arGo_iff wn] at ho
  have hx := ho.2.1
  have hm : 1 ≤ m ∧ m ≤ 4 := by simpa [inB] using h4
  have hxs : xs = (xs.map Int.toNat).map (fun i : Nat => (i : Int)) := by
    rw [List.map_map]
    conv => lhs; rw [← List.map_id xs]
    refine List.map_congr_left fun x hx' => ?_
    have := hx x hx'
    simp; omega
  refine ⟨m.toNat, xs.map Int.toNat, by omega, by omega, hxs, h1, by simp [hl], hin, h5, ⟨rfl, fun i hi => ?_, tab_sq hin, tab_tr hin, fun i hi => ?_, fun i hi => ?_, fun i hi => ?_, by omega⟩⟩
  · obtain ⟨j, hj, _⟩ := drop_at hi
    have := List.all_eq_true.1 h2 j (List.mem_of_getElem? hj)
    simp only [jobOk, inB, Bool.and_eq_true, decide_eq_true_eq] at this
    simp only [tm, hj, Option.map_some, Option.getD_some]
    omega
  · have := List.all_eq_true.1 h7 i (mem_r'.2 hi)
    simpa using this
  · obtain ⟨x, hx', rfl⟩ := List.mem_map.1 hi
    have := hx x hx'
    omega
  · have := hasL_iff'.1 (List.all_eq_true.1 h9 i (List.mem_range.2 (by omega)))
    exact List.mem_map.2 ⟨_, this, by omega⟩
/-! ### the next job, the next end -/
abbrev oI (os : List Nat) : List Int := os.map fun i : Nat => (i : Int)
def nv : Option Nat → Int
  | none => -1
  | some j => (j : Int)
def rdyA (T : Tab) (ends : List Int) (now : Int) (i : Nat) (l : List Nat) : Bool := l.all fun k => !(tg T k i && (decide (gi ends k < 0) || decide (now < gi ends k)))
theorem rdyA_r {T : Tab} {ends : List Int} {now : Int} {i k m : Nat} (hm : 0 < m) : rdyA T ends now i (List.range' k m) = (!(tg T k i && (decide (gi ends k < 0) || decide (now < gi ends k))) && rdyA T ends now i (List.range' (k + 1) (m - 1))) := by
  obtain ⟨q, rfl⟩ : ∃ q, m = q + 1 := ⟨m - 1, by omega⟩
  rw [List.range'_succ, Nat.add_sub_cancel]; rfl
theorem oI_shape {h : Hp} {v : Value} {os : List Nat} (ho : Ints h v (oI os)) : ∃ oa c, v = .slice oa os.length c := by
  obtain ⟨oa, c, e⟩ := ho.shapeT
  exact ⟨oa, c, by rw [e, List.length_map]⟩
theorem oI_get {os : List Nat} {i x : Nat} (h : os[i]? = some x) : (oI os)[i]? = some (x : Int) := by simp [h]
theorem l7Next_run {h : Hp} {vt vo vd : Value} {us : List Value} {n : Nat} {T : Tab} {os : List Nat} {ends : List Int} {now : Int} (N : Nest h vt encB 1 T us) (sq : Sq n T) (ho : Ints h vo (oI os)) (hd : Ints h vd ends) (hl : ends.length = n) (hn : n ≤ 2 ^ 30) (hol : os.length ≤ 2 ^ 30) (hos : ∀ i, i ∈ os → i < n) :
    Ret P G n_spec_l7Next [vt, vo, vd, .int .i64 now] h (.int .i64 (nv (nxt T os ends now))) h := by
  refine enter_run e_spec_l7Next (by simp) ?_
  have Ns := N
  have hos' := ho
  have hds := hd
  obtain ⟨ot, ct, rfl⟩ := N.shape
  obtain ⟨oo, co, rfl⟩ := oI_shape ho
  obtain ⟨od, cd, rfl⟩ := hd.shapeT
  simp -implicitDefEqProofs
  refine R_loopO (fun m s h' => ∃ i : Nat, i + m = os.length ∧ s = [(0, .slice ot T.length ct), (1, .slice oo os.length co), (2, .slice od ends.length cd), (3, .int .i64 now), (9, .int .i64 i)] ∧ h' = h ∧ nxt T os ends now = nxt T (os.drop i) ends now) (fun I hI m s h' => ?_) ⟨0, Nat.zero_add _, by simp, rfl, rfl⟩
  rintro ⟨i, hi, rfl, rfl, hx⟩
  by_cases hlt : i < os.length
  · obtain ⟨y, hy, hdd⟩ := drop_at hlt
    rw [hdd] at hx
    have hyn := hos y (List.mem_of_getElem? hy)
    have ly := load_I hos' (oI_get hy)
    have ge := load_I hds (gi_get (l := ends) (i := y) (by omega))
    by_cases c1 : gi ends y < 0
    · have c1' : ¬ 0 ≤ gi ends y := by omega
      simp -implicitDefEqProofs [-indexAddrP_some, hlt, ly, ge, c1']
      refine R_loopO (fun m2 s h2 => ∃ (k : Nat) (b : Bool), k + m2 = n ∧ s = [(0, .slice ot T.length ct), (1, .slice oo os.length co), (2, .slice od ends.length cd), (3, .int .i64 now), (9, .int .i64 i), (10, .bool b), (11, .int .i64 k)] ∧ h2 = h' ∧ rdyA T ends now y (List.range' 0 n) = (b && rdyA T ends now y (List.range' k m2))) (fun I2 hI2 m2 s h2 => ?_) ⟨0, true, Nat.zero_add _, by simp, rfl, by rw [Bool.true_and]⟩
      rintro ⟨k, b, hk, rfl, rfl, hx2⟩
      by_cases hlt2 : k < n
      · have hlt2' : k < ends.length := by omega
        rw [rdyA_r (k := k) (m := m2) (by omega)] at hx2
        obtain ⟨u, r, R, hr⟩ := tab_row Ns sq hlt2
        have bit := row_bit R (j := y) (by omega)
        have gk := load_I hds (gi_get (l := ends) (i := k) (by omega))
        have wk := winc hlt2 (show n ≤ 2 ^ 40 by omega)
        have keepb : tg T k y = false ∨ (¬ gi ends k < 0 ∧ ¬ now < gi ends k) → ∃ m', m' < m2 ∧ I2 m' [(0, .slice ot T.length ct), (1, .slice oo os.length co), (2, .slice od ends.length cd), (3, .int .i64 now), (9, .int .i64 i), (10, .bool b), (11, .int .i64 ((k + 1 : Nat) : Int))] h2 := fun g => by
          refine ⟨m2 - 1, by omega, on hI2 ⟨k + 1, b, by omega, rfl, rfl, ?_⟩⟩
          rw [hx2]
          rcases g with g | ⟨g1, g2⟩
          · rw [g]; simp
          · rw [show decide (gi ends k < 0) = false by simpa using g1, show decide (now < gi ends k) = false by simpa using g2]; simp
        have setb : tg T k y = true → (gi ends k < 0 ∨ now < gi ends k) → ∃ m', m' < m2 ∧ I2 m' [(0, .slice ot T.length ct), (1, .slice oo os.length co), (2, .slice od ends.length cd), (3, .int .i64 now), (9, .int .i64 i), (10, .bool false), (11, .int .i64 ((k + 1 : Nat) : Int))] h2 := fun g g1 => by
          refine ⟨m2 - 1, by omega, on hI2 ⟨k + 1, false, by omega, rfl, rfl, ?_⟩⟩
          rw [hx2, g]
          rcases g1 with g1 | g1
          · rw [show decide (gi ends k < 0) = true by simpa using g1]; simp
          · rw [show decide (now < gi ends k) = true by simpa using g1]; simp
        cases c2 : tg T k y
        · have kb := keepb (.inl c2)
          rw [c2] at bit
          simp -implicitDefEqProofs [-indexAddrP_some, hlt2, hlt2', R.ld, ly, bit, wk]
          simpa using kb
        · rw [c2] at bit
          by_cases c3 : gi ends k < 0
          · have kb := setb c2 (.inl c3)
            simp -implicitDefEqProofs [-indexAddrP_some, hlt2, hlt2', R.ld, ly, bit, gk, c3, wk]
            simpa using kb
          · by_cases c4 : now < gi ends k
            · have kb := setb c2 (.inr c4)
              simp -implicitDefEqProofs [-indexAddrP_some, hlt2, hlt2', R.ld, ly, bit, gk, c3, c4, wk]
              simpa using kb
            · have kb := keepb (.inr ⟨c3, c4⟩)
              simp -implicitDefEqProofs [-indexAddrP_some, hlt2, hlt2', R.ld, ly, bit, gk, c3, c4, wk]
              simpa using kb
      · have hlt2' : ¬ k < ends.length := by omega
        have hm2 : m2 = 0 := by omega
        subst hm2
        have hb : rdy T ends now y = b := by
          unfold rdy
          rw [show decide (gi ends y < 0) = true by simpa using c1, Bool.true_and, hl]
          have : rdyA T ends now y (List.range' 0 n) = b := by rw [hx2]; simp [rdyA]
          exact this
        unfold nxt at hx
        rw [List.find?_cons, hb] at hx
        cases b
        · simp -implicitDefEqProofs [hlt2, hlt2', winc hlt (by omega)]
          exact ⟨m - 1, by omega, on hI ⟨i + 1, by omega, rfl, rfl, hx⟩⟩
        · have hx' : nxt T os ends now = some y := hx
          simp -implicitDefEqProofs [-indexAddrP_some, hlt2, hlt2', ly, hx', nv]
    · have c1' : 0 ≤ gi ends y := by omega
      have hb : rdy T ends now y = false := by unfold rdy; simp [c1]
      unfold nxt at hx
      rw [List.find?_cons, hb] at hx
      simp -implicitDefEqProofs [-indexAddrP_some, hlt, ly, ge, c1', winc hlt (by omega)]
      exact ⟨m - 1, by omega, on hI ⟨i + 1, by omega, rfl, rfl, hx⟩⟩
  · rw [List.drop_eq_nil_of_le (by omega)] at hx
    have hx' : nxt T os ends now = none := hx
    simp -implicitDefEqProofs [hlt, hx', nv]
theorem l7Soon_run {h : Hp} {vd : Value} {ends : List Int} {now : Int} (hd : Ints h vd ends) (hl : ends.length ≤ 2 ^ 40) : Ret P G n_spec_l7Soon [vd, .int .i64 now] h (.int .i64 (soon ends now)) h := by
  refine enter_run e_spec_l7Soon (by simp) ?_
  have hds := hd
  obtain ⟨od, cd, rfl⟩ := hd.shapeT
  simp -implicitDefEqProofs
  refine R_loopO (fun m s h' => ∃ (i : Nat) (out : Int), i + m = ends.length ∧ s = [(0, .slice od ends.length cd), (1, .int .i64 now), (5, .int .i64 out), (6, .int .i64 i)] ∧ h' = h ∧ soon ends now = soonGo now out (ends.drop i)) (fun I hI m s h' => ?_) ⟨0, -1, Nat.zero_add _, by simp, rfl, rfl⟩
  rintro ⟨i, out, hi, rfl, rfl, hx⟩
  by_cases hlt : i < ends.length
  · obtain ⟨y, hy, hdd⟩ := drop_at hlt
    rw [hdd, soonGo] at hx
    have ly := load_I hds hy
    have wi := winc hlt hl
    by_cases c1 : now < y
    · by_cases c2 : out < 0
      · rw [if_pos ⟨c1, .inl c2⟩] at hx
        simp -implicitDefEqProofs [-indexAddrP_some, hlt, ly, c1, c2, wi]
        exact ⟨m - 1, by omega, on hI ⟨i + 1, y, by omega, rfl, rfl, hx⟩⟩
      · by_cases c3 : y < out
        · rw [if_pos ⟨c1, .inr c3⟩] at hx
          simp -implicitDefEqProofs [-indexAddrP_some, hlt, ly, c1, c2, c3, wi]
          exact ⟨m - 1, by omega, on hI ⟨i + 1, y, by omega, rfl, rfl, hx⟩⟩
        · rw [if_neg (fun g => g.2.elim c2 c3)] at hx
          simp -implicitDefEqProofs [-indexAddrP_some, hlt, ly, c1, c2, c3, wi]
          exact ⟨m - 1, by omega, on hI ⟨i + 1, out, by omega, rfl, rfl, hx⟩⟩
    · rw [if_neg (fun g => c1 g.1)] at hx
      simp -implicitDefEqProofs [-indexAddrP_some, hlt, ly, c1, wi]
      exact ⟨m - 1, by omega, on hI ⟨i + 1, out, by omega, rfl, rfl, hx⟩⟩
  · rw [List.drop_eq_nil_of_le (by omega), soonGo] at hx
    simp -implicitDefEqProofs [hlt, hx]
end Go.Pm.PP

/- List plans by the reference. -/
set_option linter.unusedVariables false
set_option linter.unusedSimpArgs false
set_option maxRecDepth 4000
set_option maxHeartbeats 4000000
namespace Go.Pm.PP
open Go.Pm Go.Proofs Go.Pm.LP
def S0 (n m : Nat) : PS := ⟨List.replicate n ⟨0, 0, 0⟩, List.replicate n (-1), List.replicate m 0, n⟩
def listS (js : List Job) (m : Nat) (es : List (Int × Int)) (os : List Nat) : PS := sGo js (tabOf js.length es) os m (2 * js.length) (S0 js.length m) 0
def listL (js : List Job) (m : Nat) (es : List (Int × Int)) (os : List Nat) : List Task := (listS js m es os).plan
theorem S0_inv {n m : Nat} {js : List Job} {T : Tab} {os : List Nat} (W : Wf n m js T os 50) : PInv n m js 50 (100 * n) (S0 n m) 0 (2 * n) := by
  have g : ∀ i, i < n → gi (S0 n m).ends i = -1 := fun i hi => gi_at (by simp [S0, List.getElem?_replicate, hi])
  have gf : ∀ i, i < m → gi (S0 n m).free i = 0 := fun i hi => gi_at (by simp [S0, List.getElem?_replicate, hi])
  have c1 : ((S0 n m).ends.countP fun e => decide (e < 0)) = n := by simp [S0, List.countP_replicate]
  have c2 : ((S0 n m).ends.countP fun e => decide ((0 : Int) < e)) = 0 := by simp [S0, List.countP_replicate]
  refine ⟨⟨by simp [S0], by simp [S0], by simp [S0], by rw [c1]; rfl, fun i hi => .inl (by rw [g i hi]; omega)⟩, Int.le_refl _, by rw [c1, c2]; omega, by omega, fun e he => ?_, fun c hc => .inl (by rw [gf c hc]; omega)⟩
  rw [List.eq_of_mem_replicate he]; omega
theorem tat_get {l : List Task} {i : Nat} (h : i < l.length) : l[i]? = some (tat l i) := by simp [tat, List.getElem?_eq_getElem h]
theorem tm_at {js : List Job} {i : Nat} {y : Job} (h : js[i]? = some y) : tm js i = y.t := by simp [tm, h]
theorem l7List_run {h : Hp} {vj ve vo : Value} {js : List Job} {m : Nat} {es : List (Int × Int)} {os : List Nat} (hj : Jobs h vj js) (he : Prs h ve es) (ho : Ints h vo (oI os)) (W : Wf js.length m js (tabOf js.length es) os 50) (hin : inE js.length es) (h8 : js.length ≤ 8) (hm : m ≤ 4) (hol : os.length ≤ 2 ^ 30) (hel : es.length ≤ 2 ^ 40) :
    RunsC P G n_spec_l7List [vj, .int .i64 m, ve, vo] h fun v' h' => h <+: h' ∧ Own h.length h' v' 3 ((listL js m es os).map encT) := by
  refine hideC fun K hK => enter_run e_spec_l7List (by simp) ?_
  have hjs := hj
  have hos := ho
  obtain ⟨oj, cj, rfl⟩ := hj.shapeT
  obtain ⟨oo, co, rfl⟩ := oI_shape ho
  obtain ⟨n, hn⟩ : ∃ n, n = js.length := ⟨_, rfl⟩
  simp -implicitDefEqProofs
  refine CL_post (l4Table_run he hel (by omega) hin) fun vt h1 ⟨us, hus, H1⟩ => ?_
  have sq := W.sq
  rw [← hn] at sq hus h8 W H1
  generalize hT : tabOf n es = T at H1 sq W
  have I0 := S0_inv W
  generalize hX : listL js m es os = X at hK
  unfold listL listS at hX
  rw [← hn, hT] at hX
  obtain ⟨vp, h2, mk2, H2, p2, op, rfl⟩ := make_K (Holds.start (h := h1)) (n := n) (by omega)
  obtain ⟨vd, h3, mk3, H3, p3, od, rfl⟩ := make_I (Holds.start (h := h2)) (n := n) (by omega)
  have H1' : Holds h h1 ([.own vt 1 (us.map encV)] ++ inL encB 1 us T) := H1
  have HA := Holds.joinT (A := [_]) (M := []) (Holds.joinT (A := [_]) (M := []) H1' H2) H3
  simp only [List.nil_append, List.cons_append] at HA
  have hl : us.length = T.length := by rw [hus, sq.len]
  have hvt := (HA.sees 0 rfl).shapeT
  obtain ⟨ot, ct, rfl⟩ := hvt
  simp -implicitDefEqProofs [← hn, mk2, mk3]
  -- no ends
  refine R_loopO (fun k s h' => ∃ i : Nat, i + k = n ∧ s = [(0, .slice oj n cj), (1, .int .i64 m), (3, .slice oo os.length co), (9, .int .i64 n), (10, .slice ot us.length ct), (11, .slice op n n), (12, .slice od n n), (13, .int .i64 i)] ∧
    Holds h h' (.own (.slice ot us.length ct) 1 (us.map encV) :: .own (.slice op n n) 3 ((List.replicate n (⟨0, 0, 0⟩ : Task)).map encT) :: .own (.slice od n n) 1 ((List.replicate i (-1 : Int) ++ List.replicate (n - i) 0).map encI) :: inL encB 1 us T)) (fun I hI k s h' => ?_) ⟨0, Nat.zero_add _, by simp, by simpa using HA⟩
  rintro ⟨i, hi, rfl, H⟩
  by_cases hlt : i < n
  · have hlt' : (i : Int) < n := by omega
    have hEl : (List.replicate i (-1 : Int) ++ List.replicate (n - i) 0).length = n := by simp; omega
    obtain ⟨z, hz, _⟩ := drop_at (show i < (List.replicate i (-1 : Int) ++ List.replicate (n - i) 0).length by omega)
    have ix := (load_I (H.sees 2 rfl) hz).1
    obtain ⟨h4, st, H4, _⟩ := put_I H 2 rfl (j := i) (by omega) (-1)
    simp -implicitDefEqProofs [-indexAddrP_some, hlt, hlt', ix, st, winc hlt (by omega)]
    refine ⟨k - 1, by omega, on hI ⟨i + 1, by omega, rfl, ?_⟩⟩
    have e : (List.replicate i (-1 : Int) ++ List.replicate (n - i) 0).set i (-1) = List.replicate (i + 1) (-1) ++ List.replicate (n - (i + 1)) 0 := by
      rw [List.set_append_right (h := by simp), List.length_replicate, Nat.sub_self, show n - i = (n - (i + 1)) + 1 by omega, List.replicate_succ, List.set_cons_zero, List.replicate_succ' (n := i), List.append_assoc]
      rfl
    rw [e] at H4
    exact H4
  have hin' : i = n := by omega
  subst hin'
  have hlt' : ¬ (i : Int) < i := by omega
  rw [Nat.sub_self, List.replicate_zero, List.append_nil] at H
  obtain ⟨vf, h5, mk5, H5, p5, of, rfl⟩ := make_I (Holds.start (h := h')) (n := m) (by omega)
  have HB := Holds.joinT (L := [_, _, _]) (T := inL encB 1 us T) (A := [_]) (M := []) H H5
  simp only [List.nil_append, List.cons_append] at HB
  simp -implicitDefEqProofs [hlt, hlt', mk5]
  -- rounds
  refine R_loopO (fun f s h' => ∃ (S : PS) (now : Int), s = [(0, .slice oj i cj), (1, .int .i64 m), (3, .slice oo os.length co), (10, .slice ot us.length ct), (11, .slice op i i), (12, .slice od i i), (14, .slice of m m), (15, .int .i64 now), (16, .int .i64 S.left)] ∧
    X = (sGo js T os m f S now).plan ∧ WS i m js (100 * i) S ∧ (0 < S.left → PInv i m js 50 (100 * i) S now f) ∧
    Holds h h' (.own (.slice ot us.length ct) 1 (us.map encV) :: .own (.slice op i i) 3 (S.plan.map encT) :: .own (.slice od i i) 1 (S.ends.map encI) :: .own (.slice of m m) 1 (S.free.map encI) :: inL encB 1 us T)) (fun I1 hI1 f s h6 => ?_)
    ⟨S0 i m, 0, by simp [S0], hX.symm, I0.ws, fun _ => I0, HB⟩
  rintro ⟨S, now, rfl, hx, ws, pi, H6⟩
  by_cases hlf : 0 < S.left
  · have I6 := pi hlf
    obtain ⟨g, rfl, tx, tp⟩ := turn W I6 hlf
    have now0 := I6.now0
    have nowB : now ≤ ((100 * i : Nat) : Int) := by have := I6.bnd; omega
    have nowB' : now ≤ 800 := by omega
    rw [tx] at hx
    clear tx pi
    simp -implicitDefEqProofs [hlf]
    refine R_loopO (fun k s h' => ∃ (c : Nat) (S' : PS), c + k = m ∧ s = [(0, .slice oj i cj), (1, .int .i64 m), (3, .slice oo os.length co), (10, .slice ot us.length ct), (11, .slice op i i), (12, .slice od i i), (14, .slice of m m), (15, .int .i64 now), (16, .int .i64 S'.left), (17, .int .i64 c)] ∧
      rnd js T os m now S = (List.range' c k).foldl (ms js T os now) S' ∧ WS i m js (100 * i) S' ∧
      Holds h h' (.own (.slice ot us.length ct) 1 (us.map encV) :: .own (.slice op i i) 3 (S'.plan.map encT) :: .own (.slice od i i) 1 (S'.ends.map encI) :: .own (.slice of m m) 1 (S'.free.map encI) :: inL encB 1 us T)) (fun I2 hI2 k s h7 => ?_)
      ⟨0, S, Nat.zero_add _, by simp, rfl, ws, H6⟩
    rintro ⟨c, S', hc, rfl, hr, ws', H7⟩
    by_cases hlt2 : c < m
    · have hlt2' : (c : Int) < m := by omega
      rw [fold_r (f := ms js T os now) (by omega)] at hr
      have wsn := ms_ws W ws' now0 nowB c
      have lf := load_I (H7.sees 3 rfl) (gi_get (l := S'.free) (i := c) (by rw [ws'.lf]; exact hlt2))
      have wc := winc hlt2 (show m ≤ 2 ^ 40 by omega)
      by_cases c1 : now < gi S'.free c
      · have c1' : ¬ gi S'.free c ≤ now := by omega
        have e : ms js T os now S' c = S' := by unfold ms; rw [if_pos c1]
        rw [e] at hr wsn
        simp -implicitDefEqProofs [-indexAddrP_some, hlt2, hlt2', lf, c1', wc]
        exact ⟨k - 1, by omega, on hI2 ⟨c + 1, S', by omega, rfl, hr, wsn, H7⟩⟩
      · have c1' : gi S'.free c ≤ now := by omega
        have N := Holds.nest (L1 := [_, _, _, _]) (L2 := []) (o := 0) (by rw [List.append_nil]; exact H7) rfl hl
        have rn := l7Next_run (now := now) N sq (hos.pre H7.pre) (H7.sees 2 rfl) ws'.le (by omega) hol W.o1
        cases c2 : nxt T os S'.ends now with
        | none =>
          have e : ms js T os now S' c = S' := by unfold ms; rw [if_neg c1, c2]
          rw [e] at hr wsn
          rw [c2] at rn
          simp -implicitDefEqProofs [-indexAddrP_some, hlt2, hlt2', lf, c1', CL_ret rn, nv, wc]
          exact ⟨k - 1, by omega, on hI2 ⟨c + 1, S', by omega, rfl, hr, wsn, H7⟩⟩
        | some j =>
          have e : ms js T os now S' c = ⟨S'.plan.set j ⟨j, c, now⟩, S'.ends.set j (now + tm js j), S'.free.set c (now + tm js j), S'.left - 1⟩ := by unfold ms; rw [if_neg c1, c2]
          obtain ⟨hjn, _⟩ := nxt_some W c2
          obtain ⟨y, hy, _⟩ := drop_at (show j < js.length by omega)
          have ty := tm_at hy
          have tb := W.jt j hjn
          rw [c2] at rn
          have lj := load_J (hjs.pre H7.pre) hy
          have ixp := (load_K (H7.sees 1 rfl) (tat_get (l := S'.plan) (i := j) (by rw [ws'.lp]; exact hjn))).1
          obtain ⟨h8', st8, H8, _⟩ := put_K H7 1 rfl (j := j) (by rw [ws'.lp]; exact hjn) ⟨j, c, now⟩
          have lj8 := load_J (hjs.pre H8.pre) hy
          have ixd := (load_I (H8.sees 2 rfl) (gi_get (l := S'.ends) (i := j) (by rw [ws'.le]; exact hjn))).1
          obtain ⟨h9, st9, H9, _⟩ := put_I H8 2 rfl (j := j) (by rw [ws'.le]; exact hjn) (now + y.t)
          have ld := load_I (H9.sees 2 rfl) (i := j) (x := now + y.t) (List.getElem?_set_self (by rw [ws'.le]; exact hjn))
          have ixf := (load_I (H9.sees 3 rfl) (gi_get (l := S'.free) (i := c) (by rw [ws'.lf]; exact hlt2))).1
          obtain ⟨h10, st10, H10, _⟩ := put_I H9 3 rfl (j := c) (by rw [ws'.lf]; exact hlt2) (now + y.t)
          have w1 : IntKind.i64.wrap (now + y.t) = now + y.t := by rw [wrap_ok] <;> omega
          have hlft := ws'.left
          have hcl := List.countP_le_length (p := fun e : Int => decide (e < 0)) (l := S'.ends)
          rw [ws'.le] at hcl
          have w2 : IntKind.i64.wrap (S'.left - 1) = S'.left - 1 := by rw [wrap_ok] <;> omega
          have j0 : (0 : Int) ≤ (j : Int) := by omega
          rw [e, ty] at hr wsn
          rw [← hn] at lj lj8
          simp -implicitDefEqProofs [-indexAddrP_some, hlt2, hlt2', lf, c1', CL_ret rn, nv, j0, ixp, st8, lj8, ixd, w1, st9, ld, ixf, st10, w2, wc]
          exact ⟨k - 1, by omega, on hI2 ⟨c + 1, _, by omega, rfl, hr, wsn, H10⟩⟩
    · have hlt2' : ¬ (c : Int) < m := by omega
      have hk : k = 0 := by omega
      subst hk
      rw [List.range'_zero, List.foldl_nil] at hr
      rw [hr] at hx tp
      have rs := l7Soon_run (now := now) (H7.sees 2 rfl) (by rw [ws'.le]; omega)
      simp -implicitDefEqProofs [hlt2, hlt2', CL_ret rs]
      exact ⟨g, by omega, on hI1 ⟨S', _, rfl, hx, ws', tp, H7⟩⟩
  · rw [sGo_end hlf] at hx
    simp -implicitDefEqProofs [hlf]
    rw [hx] at hK
    exact onK hK (H6.ret 1 rfl)
end Go.Pm.PP

/- List plans by the program. -/
set_option linter.unusedVariables false
set_option linter.unusedSimpArgs false
set_option maxRecDepth 4000
set_option maxHeartbeats 8000000
namespace Go.Pm.PP
open Go.Pm Go.Proofs Go.Pm.LP
def stL (ends : List Int) : List Bool := ends.map fun e => decide (0 ≤ e)
theorem stL_get {ends : List Int} {i : Nat} (h : i < ends.length) : (stL ends)[i]? = some (decide (0 ≤ gi ends i)) := by
  unfold stL; rw [List.getElem?_map, gi_get h]; rfl
theorem ready_run {h : Hp} {ps pj pb po vs vj vb vp : Value} {js : List Job} {m B n : Nat} {T : Tab} {us : List Value} {S : PS} {t : Int} {i : Nat}
    (l2 : loadP P h t_S_bool ps = some vs) (l3 : loadP P h t_S_impl_Job pj = some vj) (l4 : loadP P h t_S_S_bool pb = some vb) (l5 : loadP P h t_S_impl_Task po = some vp)
    (hs : Sees h vs 1 ((stL S.ends).map encB)) (hj : Jobs h vj js) (N : Nest h vb encB 1 T us) (hp : Tasks h vp S.plan) (sq : Sq n T) (ws : WS n m js B S) (hjn : js.length = n) (h8 : n ≤ 2 ^ 30) (hB : B ≤ 2 ^ 30) (hi : i < n) (htm : ∀ i, i < n → 1 ≤ tm js i ∧ tm js i ≤ 50) :
    Ret P G n_impl_listPlan_1 [.int .i64 i, .int .i64 t, ps, pj, pb, po] h (.bool (rdy T S.ends t i)) h := by
  refine enter_run e_impl_listPlan_1 (by simp) ?_
  have hjs := hj
  have Ns := N
  have hps := hp
  have hss := hs
  obtain ⟨oj, cj, rfl⟩ := hj.shapeT
  have le := ws.le
  have li := load_B hss (stL_get (i := i) (by omega))
  by_cases c1 : gi S.ends i < 0
  · have e : rdy T S.ends t i = rdyA T S.ends t i (List.range' 0 n) := by unfold rdy rdyA; rw [le]; simp [c1]
    rw [e]
    rw [show decide (0 ≤ gi S.ends i) = false by simp; omega] at li
    simp -implicitDefEqProofs [-indexAddrP_some, l2, l3, li]
    refine R_loopO (fun k s h' => ∃ j : Nat, j + k = n ∧ s = [(0, .int .i64 i), (1, .int .i64 t), (2, ps), (3, pj), (4, pb), (5, po), (15, .int .i64 n), (16, .int .i64 j)] ∧ h' = h ∧ rdyA T S.ends t i (List.range' 0 n) = rdyA T S.ends t i (List.range' j k)) (fun I hI k s h' => ?_) ⟨0, Nat.zero_add _, by simp [hjn], rfl, rfl⟩
    rintro ⟨j, hj2, rfl, rfl, hx⟩
    by_cases hlt : j < n
    · have hlt' : (j : Int) < n := by omega
      rw [rdyA_r (k := j) (m := k) (by omega)] at hx
      obtain ⟨u, r, R, hr⟩ := tab_row Ns sq hlt
      have bit := row_bit R (j := i) (by omega)
      have lsj := load_B hss (stL_get (i := j) (by omega))
      obtain ⟨y, hy, _⟩ := drop_at (show j < js.length by omega)
      have ty := tm_at hy
      have tb := htm j hlt
      have lj := load_J hjs hy
      have lp := load_K hps (tat_get (l := S.plan) (i := j) (by rw [ws.lp]; exact hlt))
      have wj := winc hlt (show n ≤ 2 ^ 40 by omega)
      cases c2 : tg T j i
      · rw [c2, Bool.false_and, Bool.not_false, Bool.true_and] at hx
        rw [c2] at bit
        simp -implicitDefEqProofs [-indexAddrP_some, hlt, hlt', l4, R.ld, bit, wj]
        exact ⟨k - 1, by omega, on hI ⟨j + 1, by omega, rfl, rfl, hx⟩⟩
      · rw [c2] at hx bit
        rcases ws.st j hlt with g | ⟨g1, g2, g3⟩
        · rw [show decide (0 ≤ gi S.ends j) = false by simp; omega] at lsj
          rw [show decide (gi S.ends j < 0) = true by simpa using g] at hx
          simp only [Bool.true_or, Bool.and_true, Bool.not_true, Bool.false_and] at hx
          simp -implicitDefEqProofs [-indexAddrP_some, hlt, hlt', l2, l4, R.ld, bit, lsj, hx]
        · have g0 : ¬ gi S.ends j < 0 := by omega
          rw [show decide (0 ≤ gi S.ends j) = true by simp; omega] at lsj
          rw [show decide (gi S.ends j < 0) = false by simpa using g0] at hx
          have w1 : IntKind.i64.wrap ((tat S.plan j).s + y.t) = gi S.ends j := by rw [wrap_ok] <;> omega
          by_cases c3 : t < gi S.ends j
          · rw [show decide (t < gi S.ends j) = true by simpa using c3] at hx
            simp only [Bool.or_true, Bool.and_true, Bool.not_true, Bool.false_and] at hx
            simp -implicitDefEqProofs [-indexAddrP_some, hlt, hlt', l2, l3, l4, l5, R.ld, bit, lsj, lp, lj, w1, c3, hx]
          · rw [show decide (t < gi S.ends j) = false by simpa using c3] at hx
            simp only [Bool.or_false, Bool.and_false, Bool.not_false, Bool.true_and] at hx
            simp -implicitDefEqProofs [-indexAddrP_some, hlt, hlt', l2, l3, l4, l5, R.ld, bit, lsj, lp, lj, w1, c3, wj]
            exact ⟨k - 1, by omega, on hI ⟨j + 1, by omega, rfl, rfl, hx⟩⟩
    · have hlt' : ¬ (j : Int) < n := by omega
      have hk : k = 0 := by omega
      subst hk
      have hx' : rdyA T S.ends t i (List.range' 0 n) = true := by rw [hx]; rfl
      simp -implicitDefEqProofs [hlt, hlt', hx']
  · have e : rdy T S.ends t i = false := by unfold rdy; simp [c1]
    rw [show decide (0 ≤ gi S.ends i) = true by simp; omega] at li
    simp -implicitDefEqProofs [-indexAddrP_some, l2, li, e]
end Go.Pm.PP

/- List plans by the program: the walk. -/
set_option linter.unusedVariables false
set_option linter.unusedSimpArgs false
set_option maxRecDepth 4000
set_option maxHeartbeats 8000000
namespace Go.Pm.PP
open Go.Pm Go.Proofs Go.Pm.LP
theorem stL_set {ends : List Int} {j : Nat} {x : Int} (hx : 0 ≤ x) : (stL ends).set j true = stL (ends.set j x) := by
  unfold stL
  rw [List.map_set]
  simp [hx]
theorem stL_zero {n : Nat} : stL (List.replicate n (-1)) = List.replicate n false := by simp [stL]
def LI (r4 r9 r10 r11 : Nat) (vj vb vp vs vf : Value) (us : List Value) (T : Tab) (S : PS) : List Asn :=
  [.box r4 [vj], .own vb 1 (us.map encV), .box r9 [vb], .own vp 3 (S.plan.map encT), .box r10 [vp], .own vs 1 ((stL S.ends).map encB), .box r11 [vs], .own vf 1 (S.free.map encI)] ++ (inL encB 1 us T ++ [])
theorem listPlan_run {h : Hp} {vj ve vo : Value} {js : List Job} {m : Nat} {es : List (Int × Int)} {os : List Nat} (hj : Jobs h vj js) (he : Prs h ve es) (ho : Ints h vo (oI os)) (W : Wf js.length m js (tabOf js.length es) os 50) (hin : inE js.length es) (h8 : js.length ≤ 8) (hm : m ≤ 4) (hol : os.length ≤ 2 ^ 30) (hel : es.length ≤ 2 ^ 40) :
    RunsC P G n_impl_listPlan [vj, .int .i64 m, ve, vo] h fun v' h' => h <+: h' ∧ Own h.length h' v' 3 ((listL js m es os).map encT) := by
  refine hideC fun K hK => enter_run e_impl_listPlan (by simp) ?_
  have hjs := hj
  have hos := ho
  have hes := he
  obtain ⟨n, hn⟩ : ∃ n, n = js.length := ⟨_, rfl⟩
  obtain ⟨oj, cj, rfl⟩ : ∃ oj cj, vj = .slice oj n cj := by obtain ⟨a, c, e⟩ := hj.shapeT; exact ⟨a, c, by rw [e, hn]⟩
  obtain ⟨oo, co, rfl⟩ := oI_shape ho
  have sq := W.sq
  rw [← hn] at sq h8 W hin
  have H0 := (Holds.start.alloc [.slice oj n cj] (h := h)).open
  simp -implicitDefEqProofs
  refine CL_post (closure_run (hes.pre H0.pre) hel (by omega) hin) fun vb h1 ⟨us, hus, C1⟩ => ?_
  generalize hT : tabOf n es = T at C1 sq W
  have I0 := S0_inv W
  generalize hX : listL js m es os = X at hK
  unfold listL listS at hX
  rw [← hn, hT] at hX
  have hl : us.length = T.length := by rw [hus, sq.len]
  have H1 := Holds.joinT (A := [.own vb 1 (us.map encV)]) (M := inL encB 1 us T) H0 C1
  have hvb := (C1.sees 0 rfl).shapeT
  obtain ⟨ob, cb, rfl⟩ := hvb
  have H2 := H1.allocT [.slice ob us.length cb]
  obtain ⟨vp, h3, mk3, C3, p3, op, rfl⟩ := make_K (Holds.start (h := h1 ++ [some ⟨[.slice ob us.length cb], 0, false⟩])) (n := n) (by omega)
  have H3 := (Holds.joinT (A := [_]) (M := []) H2 C3).allocT [.slice op n n]
  obtain ⟨vs, h4, mk4, C4, p4, os', rfl⟩ := make_B (Holds.start (h := h3 ++ [some ⟨[.slice op n n], 0, false⟩])) (n := n) (by omega)
  have H4 := (Holds.joinT (A := [_]) (M := []) H3 C4).allocT [.slice os' n n]
  obtain ⟨vf, h5, mk5, C5, p5, of, rfl⟩ := make_I (Holds.start (h := h4 ++ [some ⟨[.slice os' n n], 0, false⟩])) (n := m) (by omega)
  have H5 := Holds.joinT (A := [_]) (M := []) H4 C5
  have HA := H0.pre
  simp -implicitDefEqProofs [H1.bl 0 1 rfl rfl, H2.bl 0 1 rfl rfl, H3.bl 0 1 rfl rfl, H4.bl 0 1 rfl rfl, H5.bl 0 1 rfl rfl, ← hn, mk3, mk4, mk5]
  have HL : Holds h h5 (LI h.length h1.length h3.length h4.length (.slice oj n cj) (.slice ob us.length cb) (.slice op n n) (.slice os' n n) (.slice of m m) us T (S0 n m)) := by
    unfold LI
    rw [show stL (S0 n m).ends = List.replicate n false from stL_zero]
    exact H5
  clear H1 H2 H3 H4 H5 C1 C3 C4 C5 mk3 mk4 mk5 p3 p4 p5
  generalize h1.length = r9 at HL ⊢
  generalize h3.length = r10 at HL ⊢
  generalize h4.length = r11 at HL ⊢
  obtain ⟨r4, hr4⟩ : ∃ r, r = h.length := ⟨_, rfl⟩
  rw [← hr4] at HL
  simp only [← hr4]
  -- steps of time
  refine R_loopO (fun k s h' => ∃ (S : PS) (t nx : Int) (f : Nat), s = [(3, .slice oo os.length co), (4, .pointer (some ⟨r4, 0, some 1⟩)), (10, .pointer (some ⟨r10, 0, some 1⟩)), (11, .pointer (some ⟨r11, 0, some 1⟩)), (12, .slice of m m),
      (13, .func (.func n_impl_listPlan_1) #[] #[.pointer (some ⟨r11, 0, some 1⟩), .pointer (some ⟨r4, 0, some 1⟩), .pointer (some ⟨r9, 0, some 1⟩), .pointer (some ⟨r10, 0, some 1⟩)]), (14, .int .i64 t), (15, .int .i64 S.left)] ∧
    X = (sGo js T os m f S nx).plan ∧ 0 ≤ t ∧ t ≤ nx ∧ WS n m js (100 * n) S ∧ (0 < S.left → PInv n m js 50 (100 * n) S nx f ∧ (∀ t', t ≤ t' → t' < nx → rnd js T os m t' S = S) ∧ k = f * (50 + 1) + (nx - t).toNat) ∧
    Holds h h' (LI r4 r9 r10 r11 (.slice oj n cj) (.slice ob us.length cb) (.slice op n n) (.slice os' n n) (.slice of m m) us T S)) (fun I hI k s h6 => ?_)
    (n := 2 * n * (50 + 1) + ((0 : Int) - 0).toNat) ⟨S0 n m, 0, 0, 2 * n, by simp [S0], hX.symm, by omega, by omega, I0.ws, fun _ => ⟨I0, fun t' g1 g2 => by omega, rfl⟩, HL⟩
  rintro ⟨S, t, nx, f, rfl, hx, t0, tnx, ws, pi, H6⟩
  by_cases hlf : 0 < S.left
  · obtain ⟨I6, idl, hk⟩ := pi hlf
    have nxB : nx ≤ ((100 * n : Nat) : Int) := by have := I6.bnd; omega
    have tB : t ≤ ((100 * n : Nat) : Int) := by omega
    obtain ⟨g, nx', tx, tnx', tp⟩ := turn1 W I6 hlf tnx idl
    rw [tx] at hx
    have w14 : IntKind.i64.wrap (t + 1) = t + 1 := by rw [wrap_ok] <;> omega
    clear tx pi
    simp -implicitDefEqProofs [hlf]
    refine R_loopO (fun k s h' => ∃ (c : Nat) (S' : PS), c + k = m ∧ s = [(3, .slice oo os.length co), (4, .pointer (some ⟨r4, 0, some 1⟩)), (10, .pointer (some ⟨r10, 0, some 1⟩)), (11, .pointer (some ⟨r11, 0, some 1⟩)), (12, .slice of m m),
        (13, .func (.func n_impl_listPlan_1) #[] #[.pointer (some ⟨r11, 0, some 1⟩), .pointer (some ⟨r4, 0, some 1⟩), .pointer (some ⟨r9, 0, some 1⟩), .pointer (some ⟨r10, 0, some 1⟩)]), (14, .int .i64 t), (15, .int .i64 S'.left), (39, .int .i64 m), (40, .int .i64 c)] ∧
      rnd js T os m t S = (List.range' c k).foldl (ms js T os t) S' ∧ WS n m js (100 * n) S' ∧
      Holds h h' (LI r4 r9 r10 r11 (.slice oj n cj) (.slice ob us.length cb) (.slice op n n) (.slice os' n n) (.slice of m m) us T S')) (fun I2 hI2 k2 s h7 => ?_)
      ⟨0, S, Nat.zero_add _, by simp, rfl, ws, H6⟩
    rintro ⟨c, S', hc, rfl, hr, ws', H7⟩
    by_cases hlt2 : c < m
    · have hlt2' : (c : Int) < m := by omega
      rw [fold_r (f := ms js T os t) (by omega)] at hr
      have wsn := ms_ws W ws' t0 tB c
      have lf := load_I (H7.sees 7 rfl) (gi_get (l := S'.free) (i := c) (by rw [ws'.lf]; exact hlt2))
      have wc := winc hlt2 (show m ≤ 2 ^ 40 by omega)
      by_cases c1 : t < gi S'.free c
      · have e : ms js T os t S' c = S' := by unfold ms; rw [if_pos c1]
        rw [e] at hr wsn
        simp -implicitDefEqProofs [-indexAddrP_some, hlt2, hlt2', lf, c1, wc]
        exact ⟨k2 - 1, by omega, on hI2 ⟨c + 1, S', by omega, rfl, hr, wsn, H7⟩⟩
      · have l4 : ∀ ty, loadP P h7 ty (.pointer (some ⟨r4, 0, some 1⟩)) = rowLoad P ty ⟨[.slice oj n cj], 0, false⟩ 0 := fun ty => H7.bl 0 1 rfl rfl ty 0
        have l9 : ∀ ty, loadP P h7 ty (.pointer (some ⟨r9, 0, some 1⟩)) = rowLoad P ty ⟨[.slice ob us.length cb], 0, false⟩ 0 := fun ty => H7.bl 2 1 rfl rfl ty 0
        have l10 : ∀ ty, loadP P h7 ty (.pointer (some ⟨r10, 0, some 1⟩)) = rowLoad P ty ⟨[.slice op n n], 0, false⟩ 0 := fun ty => H7.bl 4 1 rfl rfl ty 0
        have l11 : ∀ ty, loadP P h7 ty (.pointer (some ⟨r11, 0, some 1⟩)) = rowLoad P ty ⟨[.slice os' n n], 0, false⟩ 0 := fun ty => H7.bl 6 1 rfl rfl ty 0
        have N : Nest h7 (.slice ob us.length cb) encB 1 T us := Holds.nest (L1 := [_, _, _, _, _, _, _, _]) (L2 := []) (o := 1) H7 rfl hl
        have rr : ∀ i, i < n → Ret P G n_impl_listPlan_1 [.int .i64 i, .int .i64 t, .pointer (some ⟨r11, 0, some 1⟩), .pointer (some ⟨r4, 0, some 1⟩), .pointer (some ⟨r9, 0, some 1⟩), .pointer (some ⟨r10, 0, some 1⟩)] h7 (.bool (rdy T S'.ends t i)) h7 := fun i hi =>
          ready_run (by simp [l11]) (by simp [l4]) (by simp [l9]) (by simp [l10]) (H7.sees 5 rfl) (hjs.pre H7.pre) N (H7.sees 3 rfl) sq ws' hn.symm (by omega) (by omega) hi W.jt
        simp -implicitDefEqProofs [-indexAddrP_some, hlt2, hlt2', lf, c1]
        refine R_loopO (fun k s h' => ∃ (i : Nat), i + k = os.length ∧ s = [(3, .slice oo os.length co), (4, .pointer (some ⟨r4, 0, some 1⟩)), (10, .pointer (some ⟨r10, 0, some 1⟩)), (11, .pointer (some ⟨r11, 0, some 1⟩)), (12, .slice of m m),
            (13, .func (.func n_impl_listPlan_1) #[] #[.pointer (some ⟨r11, 0, some 1⟩), .pointer (some ⟨r4, 0, some 1⟩), .pointer (some ⟨r9, 0, some 1⟩), .pointer (some ⟨r10, 0, some 1⟩)]), (14, .int .i64 t), (15, .int .i64 S'.left), (16, .int .i64 c), (39, .int .i64 m), (40, .int .i64 c), (49, .slice oo os.length co), (50, .int .i64 os.length), (51, .int .i64 i)] ∧
          h' = h7 ∧ nxt T os S'.ends t = nxt T (os.drop i) S'.ends t) (fun I3 hI3 k3 s h8' => ?_) ⟨0, Nat.zero_add _, by simp, rfl, rfl⟩
        rintro ⟨i, hi, rfl, rfl, hx3⟩
        by_cases hlt3 : i < os.length
        · obtain ⟨j, hy, hdd⟩ := drop_at hlt3
          have hjn := W.o1 j (List.mem_of_getElem? hy)
          have ly := load_I (hos.pre H7.pre) (oI_get hy)
          have w3 := winc hlt3 (show os.length ≤ 2 ^ 40 by omega)
          unfold nxt at hx3
          rw [hdd, List.find?_cons] at hx3
          have rj := rr j hjn
          cases c3 : rdy T S'.ends t j
          · rw [c3] at hx3 rj
            simp -implicitDefEqProofs [-indexAddrP_some, hlt3, ly, CL_ret rj, w3]
            exact ⟨k3 - 1, by omega, on hI3 ⟨i + 1, by omega, rfl, rfl, hx3⟩⟩
          · rw [c3] at hx3 rj
            have hx3 : nxt T os S'.ends t = some j := hx3
            have e : ms js T os t S' c = ⟨S'.plan.set j ⟨j, c, t⟩, S'.ends.set j (t + tm js j), S'.free.set c (t + tm js j), S'.left - 1⟩ := by unfold ms; rw [if_neg c1, hx3]
            obtain ⟨y, hyj, _⟩ := drop_at (show j < js.length by omega)
            have ty := tm_at hyj
            have tb := W.jt j hjn
            have ixp := (load_K (H7.sees 3 rfl) (tat_get (l := S'.plan) (i := j) (by rw [ws'.lp]; exact hjn))).1
            obtain ⟨h8, st8, H8, _⟩ := put_K H7 3 rfl (j := j) (by rw [ws'.lp]; exact hjn) ⟨j, c, t⟩
            have ixs := (load_B (H8.sees 5 rfl) (stL_get (ends := S'.ends) (i := j) (by rw [ws'.le]; exact hjn))).1
            obtain ⟨h9, st9, H9, _⟩ := put_B H8 5 rfl (j := j) (by simp [stL, ws'.le]; exact hjn) true
            have lj := load_J (hjs.pre H9.pre) hyj
            have ixf := (load_I (H9.sees 7 rfl) (gi_get (l := S'.free) (i := c) (by rw [ws'.lf]; exact hlt2))).1
            obtain ⟨h10, st10, H10, _⟩ := put_I H9 7 rfl (j := c) (by rw [ws'.lf]; exact hlt2) (t + y.t)
            have b8 : ∀ ty, loadP P h8 ty (.pointer (some ⟨r11, 0, some 1⟩)) = rowLoad P ty ⟨[.slice os' n n], 0, false⟩ 0 := fun ty => H8.bl 6 1 rfl rfl ty 0
            have b9 : ∀ ty, loadP P h9 ty (.pointer (some ⟨r4, 0, some 1⟩)) = rowLoad P ty ⟨[.slice oj n cj], 0, false⟩ 0 := fun ty => H9.bl 0 1 rfl rfl ty 0
            have w1 : IntKind.i64.wrap (t + y.t) = t + y.t := by rw [wrap_ok] <;> omega
            have hlft := ws'.left
            have hcl := List.countP_le_length (p := fun e : Int => decide (e < 0)) (l := S'.ends)
            rw [ws'.le] at hcl
            have w2 : IntKind.i64.wrap (S'.left - 1) = S'.left - 1 := by rw [wrap_ok] <;> omega
            rw [e, ty] at hr wsn
            have HN : Holds h h10 (LI r4 r9 r10 r11 (.slice oj n cj) (.slice ob us.length cb) (.slice op n n) (.slice os' n n) (.slice of m m) us T ⟨S'.plan.set j ⟨j, c, t⟩, S'.ends.set j (t + y.t), S'.free.set c (t + y.t), S'.left - 1⟩) := by
              unfold LI
              simp only
              rw [← stL_set (show 0 ≤ t + y.t by omega)]
              exact H10
            simp -implicitDefEqProofs [-indexAddrP_some, hlt3, ly, CL_ret rj, l10, ixp, st8, b8, ixs, st9, b9, lj, w1, ixf, st10, w2, wc]
            exact ⟨k2 - 1, by omega, on hI2 ⟨c + 1, _, by omega, rfl, hr, wsn, HN⟩⟩
        · rw [List.drop_eq_nil_of_le (by omega)] at hx3
          have hx3 : nxt T os S'.ends t = none := hx3
          have e : ms js T os t S' c = S' := by unfold ms; rw [if_neg c1, hx3]
          rw [e] at hr wsn
          simp -implicitDefEqProofs [hlt3, wc]
          exact ⟨k2 - 1, by omega, on hI2 ⟨c + 1, S', by omega, rfl, hr, wsn, H7⟩⟩
    · have hlt2' : ¬ (c : Int) < m := by omega
      have hk2 : k2 = 0 := by omega
      subst hk2
      rw [List.range'_zero, List.foldl_nil] at hr
      rw [hr] at hx tp
      simp -implicitDefEqProofs [hlt2, hlt2', w14]
      by_cases hl2 : 0 < S'.left
      · obtain ⟨q1, q2, q3⟩ := tp hl2
        exact ⟨g * (50 + 1) + (nx' - (t + 1)).toNat, by omega, on hI ⟨S', t + 1, nx', g, rfl, hx, by omega, by omega, ws', fun _ => ⟨q1, q2, rfl⟩, H7⟩⟩
      · have hkpos : 0 < k := by
          have := I6.mu
          have := I6.ws.left
          have : 0 < f := by omega
          omega
        exact ⟨0, hkpos, on hI ⟨S', t + 1, nx', g, rfl, hx, by omega, by omega, ws', fun q => absurd q hl2, H7⟩⟩
  · rw [sGo_end hlf] at hx
    have l10 : ∀ ty, loadP P h6 ty (.pointer (some ⟨r10, 0, some 1⟩)) = rowLoad P ty ⟨[.slice op n n], 0, false⟩ 0 := fun ty => H6.bl 4 1 rfl rfl ty 0
    simp -implicitDefEqProofs [hlf, l10]
    rw [hx] at hK
    exact onK hK (H6.ret 3 rfl)
end Go.Pm.PP

/- The laws' own functions on structs of numbers: printed by a program of this work (lawrec.py). -/
set_option linter.unusedVariables false
set_option linter.unusedSimpArgs false
set_option maxRecDepth 4000
set_option maxHeartbeats 4000000
namespace Go.Pm.PP
open Go.Pm Go.Proofs Go.Pm.LP
theorem szJobS_run {h : Hp} {v : Value} {xs : List Job} {left : Int} (hv : Sees h v 4 (xs.map encJ)) (hn : xs.length < 2 ^ 63) (h0 : 0 ≤ left) (h1 : left ≤ 2 ^ 20) :
    Ret P G n_laws_szJobS [v, .int .i64 left] h (.int .i64 (szL left xs.length)) h := by
  refine enter_run e_laws_szJobS (by simp) ?_
  obtain ⟨oj, cj, rfl⟩ := hv.shapeT
  have w : IntKind.i64.wrap (left - xs.length) = left - xs.length := by rw [wrap_ok] <;> omega
  cases h2 : decide (left - (xs.length : Int) < 0) <;> simp -implicitDefEqProofs [w, h2, szL] <;> simp at h2 <;> omega
theorem toJob_run {h : Hp} {x : Job} : Ret P G n_laws_toJob [jv x] h (jv x) h := by
  refine enter_run e_laws_toJob (by simp) ?_
  simp -implicitDefEqProofs
  refine gc_app _ _ _ (by simp)
theorem toJobS_run {h : Hp} {v : Value} {xs : List Job} (hv : Sees h v 4 (xs.map encJ)) (hn : xs.length ≤ 2 ^ 40) :
    RunsC P G n_laws_toJobS [v] h fun v' h' => Holds h h' [.own v' 4 (xs.map encJ)] := by
  refine hideC fun K hK => enter_run e_laws_toJobS (by simp) ?_
  have hvs := hv
  obtain ⟨oa, c, rfl⟩ := hv.shapeT
  obtain ⟨vz, h1, mk, H1, hp1, oz, rfl⟩ := make_J (Holds.start (h := h)) (n := xs.length) hn
  simp -implicitDefEqProofs [mk]
  refine R_loopO (fun m s h' => ∃ i : Nat, i + m = xs.length ∧ s = [(0, .slice oa xs.length c), (3, .slice oz xs.length xs.length), (4, .int .i64 i)] ∧
    Holds h h' [.own (.slice oz xs.length xs.length) 4 ((xs.take i ++ List.replicate (xs.length - i) (⟨0, 0, 0, 0⟩ : Job)).map encJ)]) (fun I hI m s h' => ?_) ⟨0, Nat.zero_add _, by simp, by simpa using H1⟩
  rintro ⟨i, hi, rfl, H⟩
  have hEl : (xs.take i ++ List.replicate (xs.length - i) (⟨0, 0, 0, 0⟩ : Job)).length = xs.length := by simp; omega
  by_cases hlt : i < xs.length
  · obtain ⟨y, hy, hd⟩ := drop_at hlt
    obtain ⟨h2, hs2, H2, k2⟩ := put_J H 0 rfl (j := i) (by rw [hEl]; exact hlt) y
    rw [set_next hy] at H2
    obtain ⟨z, hz, _⟩ := drop_at (show i < (xs.take i ++ List.replicate (xs.length - i) (⟨0, 0, 0, 0⟩ : Job)).length by rw [hEl]; exact hlt)
    have ix := (load_J (H.sees 0 rfl) hz).1
    simp -implicitDefEqProofs [-indexAddrP_some, hlt, load_lJ (hvs.pre H.pre) hy, CL_ret toJob_run, ix, hs2, winc hlt hn]
    exact ⟨m - 1, by omega, on hI ⟨i + 1, by omega, rfl, H2⟩⟩
  · have hi2 : i = xs.length := by omega
    subst hi2
    rw [List.take_of_length_le (Nat.le_refl _), Nat.sub_self, List.replicate_zero, List.append_nil] at H
    simp -implicitDefEqProofs [hlt]
    exact onK hK (H.gcO fun hp i A hA => by
      match i, hA with
      | 0, hA => cases hA; exact ⟨_, _, _, rfl, hp⟩
      | i + 1, hA => cases hA)
theorem eqJob_run {h : Hp} {x : Job} : Ret P G n_laws_eqJob [jv x, jv x] h (.bool true) h := by
  refine enter_run e_laws_eqJob (by simp) ?_
  simp -implicitDefEqProofs
theorem eqJobS_run {h : Hp} {v u : Value} {xs : List Job} (hv : Sees h v 4 (xs.map encJ)) (hu : Sees h u 4 (xs.map encJ)) (hn : xs.length ≤ 2 ^ 40) :
    Ret P G n_laws_eqJobS [v, u] h (.bool true) h := by
  refine enter_run e_laws_eqJobS (by simp) ?_
  have hvs := hv
  have hus := hu
  obtain ⟨oa, c, rfl⟩ := hv.shapeT
  obtain ⟨ob, d, rfl⟩ := hu.shapeT
  simp -implicitDefEqProofs
  refine R_loopO (fun m s h' => ∃ i : Nat, i + m = xs.length ∧ s = [(0, .slice oa xs.length c), (1, .slice ob xs.length d), (5, .int .i64 i)] ∧ h' = h) (fun I hI m s h' => ?_) ⟨0, Nat.zero_add _, by simp, rfl⟩
  rintro ⟨i, hi, rfl, rfl⟩
  by_cases hlt : i < xs.length
  · obtain ⟨y, hy, hd⟩ := drop_at hlt
    simp -implicitDefEqProofs [-indexAddrP_some, hlt, load_J hvs hy, load_J hus hy, CL_ret eqJob_run, CH_ret eqJob_run, winc hlt hn]
    exact ⟨m - 1, by omega, on hI ⟨i + 1, by omega, rfl, rfl⟩⟩
  · simp -implicitDefEqProofs [hlt]
def mkJ (k : Int) : Job := ⟨k, k + 1, k + 1 + 1, k + 1 + 1 + 1⟩
theorem markJobS_run {h0 h : Hp} {L : List Asn} {v : Value} {xs : List Job} {k : Int} (H0 : Holds h0 h L) (i : Nat) (hi0 : L[i]? = some (.own v 4 (xs.map encJ))) (hn : xs.length ≤ 2 ^ 40) (h1 : 0 ≤ k) (h2 : k ≤ 2 ^ 50) :
    RunsC P G n_laws_markJobS [v, .int .i64 k] h fun r h' => r = .int .i64 (k + 4 * (xs.length : Int)) ∧ Holds h0 h' (L.set i (.own v 4 ((marksT mkJ 4 k xs.length).map encJ))) := by
  refine hideC fun K hK => enter_run e_laws_markJobS (by simp) ?_
  have hil := (List.getElem?_eq_some_iff.1 hi0).1
  have hget := (List.getElem?_eq_some_iff.1 hi0).2
  obtain ⟨oa, c, ev⟩ := (H0.sees i hi0).shapeT
  subst ev
  simp -implicitDefEqProofs
  refine R_loopO (fun m s h' => ∃ (j : Nat), j + m = xs.length ∧ s = [(0, .slice oa xs.length c), (1, .int .i64 (k + 4 * (j : Int))), (5, .int .i64 j)] ∧ Holds h0 h' (L.set i (.own (.slice oa xs.length c) 4 ((marksT mkJ 4 k j ++ xs.drop j).map encJ)))) (fun I hI m s h' => ?_) ⟨0, Nat.zero_add _, by simp, by
      rw [show (marksT mkJ 4 k 0 ++ xs.drop 0) = xs by simp [marksT], ← hget, List.set_getElem_self]; exact H0⟩
  rintro ⟨j, hi, rfl, H⟩
  have hEl : (marksT mkJ 4 k j ++ xs.drop j).length = xs.length := by rw [List.length_append, marksT_len, List.length_drop]; omega
  by_cases hlt : j < xs.length
  · obtain ⟨y, hy, hd⟩ := drop_at hlt
    obtain ⟨z, z0, _⟩ := drop_at (show j < (marksT mkJ 4 k j ++ xs.drop j).length by rw [hEl]; exact hlt)
    obtain ⟨g1, s1, A1, _⟩ := fput_J0 H i (List.getElem?_set_self hil) z0 (k + 4 * (j : Int))
    rw [List.set_set] at A1
    have B1 : Holds h0 g1 (L.set i (.own (.slice oa xs.length c) 4 (((marksT mkJ 4 k j ++ xs.drop j).set j (⟨k + 4 * (j : Int), z.w, z.r, z.d⟩ : Job)).map encJ))) := A1
    have z1 : ((marksT mkJ 4 k j ++ xs.drop j).set j (⟨k + 4 * (j : Int), z.w, z.r, z.d⟩ : Job))[j]? = some (⟨k + 4 * (j : Int), z.w, z.r, z.d⟩ : Job) := List.getElem?_set_self (by rw [hEl]; exact hlt)
    have i0 := (load_J (H.sees i (List.getElem?_set_self hil)) z0).1
    have w1 : IntKind.i64.wrap (k + 4 * (j : Int) + 1) = k + 4 * (j : Int) + 1 := by rw [wrap_ok] <;> omega
    obtain ⟨g2, s2, A2, _⟩ := fput_J1 B1 i (List.getElem?_set_self hil) z1 (k + 4 * (j : Int) + 1)
    rw [List.set_set, List.set_set] at A2
    have B2 : Holds h0 g2 (L.set i (.own (.slice oa xs.length c) 4 (((marksT mkJ 4 k j ++ xs.drop j).set j (⟨k + 4 * (j : Int), k + 4 * (j : Int) + 1, z.r, z.d⟩ : Job)).map encJ))) := A2
    have z2 : ((marksT mkJ 4 k j ++ xs.drop j).set j (⟨k + 4 * (j : Int), k + 4 * (j : Int) + 1, z.r, z.d⟩ : Job))[j]? = some (⟨k + 4 * (j : Int), k + 4 * (j : Int) + 1, z.r, z.d⟩ : Job) := List.getElem?_set_self (by rw [hEl]; exact hlt)
    have i1 := (load_J (B1.sees i (List.getElem?_set_self hil)) z1).1
    have w2 : IntKind.i64.wrap (k + 4 * (j : Int) + 1 + 1) = k + 4 * (j : Int) + 1 + 1 := by rw [wrap_ok] <;> omega
    obtain ⟨g3, s3, A3, _⟩ := fput_J2 B2 i (List.getElem?_set_self hil) z2 (k + 4 * (j : Int) + 1 + 1)
    rw [List.set_set, List.set_set] at A3
    have B3 : Holds h0 g3 (L.set i (.own (.slice oa xs.length c) 4 (((marksT mkJ 4 k j ++ xs.drop j).set j (⟨k + 4 * (j : Int), k + 4 * (j : Int) + 1, k + 4 * (j : Int) + 1 + 1, z.d⟩ : Job)).map encJ))) := A3
    have z3 : ((marksT mkJ 4 k j ++ xs.drop j).set j (⟨k + 4 * (j : Int), k + 4 * (j : Int) + 1, k + 4 * (j : Int) + 1 + 1, z.d⟩ : Job))[j]? = some (⟨k + 4 * (j : Int), k + 4 * (j : Int) + 1, k + 4 * (j : Int) + 1 + 1, z.d⟩ : Job) := List.getElem?_set_self (by rw [hEl]; exact hlt)
    have i2 := (load_J (B2.sees i (List.getElem?_set_self hil)) z2).1
    have w3 : IntKind.i64.wrap (k + 4 * (j : Int) + 1 + 1 + 1) = k + 4 * (j : Int) + 1 + 1 + 1 := by rw [wrap_ok] <;> omega
    obtain ⟨g4, s4, A4, _⟩ := fput_J3 B3 i (List.getElem?_set_self hil) z3 (k + 4 * (j : Int) + 1 + 1 + 1)
    rw [List.set_set, List.set_set] at A4
    have B4 : Holds h0 g4 (L.set i (.own (.slice oa xs.length c) 4 (((marksT mkJ 4 k j ++ xs.drop j).set j (⟨k + 4 * (j : Int), k + 4 * (j : Int) + 1, k + 4 * (j : Int) + 1 + 1, k + 4 * (j : Int) + 1 + 1 + 1⟩ : Job)).map encJ))) := A4
    have i3 := (load_J (B3.sees i (List.getElem?_set_self hil)) z3).1
    have w4 : IntKind.i64.wrap (k + 4 * (j : Int) + 1 + 1 + 1 + 1) = k + 4 * (j : Int) + 1 + 1 + 1 + 1 := by rw [wrap_ok] <;> omega
    simp -implicitDefEqProofs [-indexAddrP_some, hlt, i0, s1, w1, i1, s2, w2, i2, s3, w3, i3, s4, w4, winc hlt hn]
    refine ⟨m - 1, by omega, on hI ⟨j + 1, by omega, ?_, ?_⟩⟩
    · rw [show k + 4 * (j : Int) + 1 + 1 + 1 + 1 = k + 4 * ((j + 1 : Nat) : Int) by omega]; rfl
    · rw [marks_next (mk := mkJ) (n := 4) hy (show mkJ (k + (4 : Nat) * (j : Int)) = (⟨k + 4 * (j : Int), k + 4 * (j : Int) + 1, k + 4 * (j : Int) + 1 + 1, k + 4 * (j : Int) + 1 + 1 + 1⟩ : Job) by simp [mkJ])] at B4; exact B4
  · have hj : j = xs.length := by omega
    subst hj
    rw [List.drop_eq_nil_of_le (Nat.le_refl _), List.append_nil] at H
    simp -implicitDefEqProofs [hlt]
    exact onK hK ⟨rfl, H0.gcR H (set_row hi0 rfl)⟩
theorem eqTask_run {h : Hp} {x : Task} : Ret P G n_laws_eqTask [tv x, tv x] h (.bool true) h := by
  refine enter_run e_laws_eqTask (by simp) ?_
  simp -implicitDefEqProofs
theorem eqTaskS_run {h : Hp} {v u : Value} {xs : List Task} (hv : Sees h v 3 (xs.map encT)) (hu : Sees h u 3 (xs.map encT)) (hn : xs.length ≤ 2 ^ 40) :
    Ret P G n_laws_eqTaskS [v, u] h (.bool true) h := by
  refine enter_run e_laws_eqTaskS (by simp) ?_
  have hvs := hv
  have hus := hu
  obtain ⟨oa, c, rfl⟩ := hv.shapeT
  obtain ⟨ob, d, rfl⟩ := hu.shapeT
  simp -implicitDefEqProofs
  refine R_loopO (fun m s h' => ∃ i : Nat, i + m = xs.length ∧ s = [(0, .slice oa xs.length c), (1, .slice ob xs.length d), (5, .int .i64 i)] ∧ h' = h) (fun I hI m s h' => ?_) ⟨0, Nat.zero_add _, by simp, rfl⟩
  rintro ⟨i, hi, rfl, rfl⟩
  by_cases hlt : i < xs.length
  · obtain ⟨y, hy, hd⟩ := drop_at hlt
    simp -implicitDefEqProofs [-indexAddrP_some, hlt, load_K hvs hy, load_K hus hy, CL_ret eqTask_run, CH_ret eqTask_run, winc hlt hn]
    exact ⟨m - 1, by omega, on hI ⟨i + 1, by omega, rfl, rfl⟩⟩
  · simp -implicitDefEqProofs [hlt]
def mkK (k : Int) : Task := ⟨k, k + 1, k + 1 + 1⟩
theorem markTaskS_run {h0 h : Hp} {L : List Asn} {v : Value} {xs : List Task} {k : Int} (H0 : Holds h0 h L) (i : Nat) (hi0 : L[i]? = some (.own v 3 (xs.map encT))) (hn : xs.length ≤ 2 ^ 40) (h1 : 0 ≤ k) (h2 : k ≤ 2 ^ 50) :
    RunsC P G n_laws_markTaskS [v, .int .i64 k] h fun r h' => r = .int .i64 (k + 3 * (xs.length : Int)) ∧ Holds h0 h' (L.set i (.own v 3 ((marksT mkK 3 k xs.length).map encT))) := by
  refine hideC fun K hK => enter_run e_laws_markTaskS (by simp) ?_
  have hil := (List.getElem?_eq_some_iff.1 hi0).1
  have hget := (List.getElem?_eq_some_iff.1 hi0).2
  obtain ⟨oa, c, ev⟩ := (H0.sees i hi0).shapeT
  subst ev
  simp -implicitDefEqProofs
  refine R_loopO (fun m s h' => ∃ (j : Nat), j + m = xs.length ∧ s = [(0, .slice oa xs.length c), (1, .int .i64 (k + 3 * (j : Int))), (5, .int .i64 j)] ∧ Holds h0 h' (L.set i (.own (.slice oa xs.length c) 3 ((marksT mkK 3 k j ++ xs.drop j).map encT)))) (fun I hI m s h' => ?_) ⟨0, Nat.zero_add _, by simp, by
      rw [show (marksT mkK 3 k 0 ++ xs.drop 0) = xs by simp [marksT], ← hget, List.set_getElem_self]; exact H0⟩
  rintro ⟨j, hi, rfl, H⟩
  have hEl : (marksT mkK 3 k j ++ xs.drop j).length = xs.length := by rw [List.length_append, marksT_len, List.length_drop]; omega
  by_cases hlt : j < xs.length
  · obtain ⟨y, hy, hd⟩ := drop_at hlt
    obtain ⟨z, z0, _⟩ := drop_at (show j < (marksT mkK 3 k j ++ xs.drop j).length by rw [hEl]; exact hlt)
    obtain ⟨g1, s1, A1, _⟩ := fput_K0 H i (List.getElem?_set_self hil) z0 (k + 3 * (j : Int))
    rw [List.set_set] at A1
    have B1 : Holds h0 g1 (L.set i (.own (.slice oa xs.length c) 3 (((marksT mkK 3 k j ++ xs.drop j).set j (⟨k + 3 * (j : Int), z.m, z.s⟩ : Task)).map encT))) := A1
    have z1 : ((marksT mkK 3 k j ++ xs.drop j).set j (⟨k + 3 * (j : Int), z.m, z.s⟩ : Task))[j]? = some (⟨k + 3 * (j : Int), z.m, z.s⟩ : Task) := List.getElem?_set_self (by rw [hEl]; exact hlt)
    have i0 := (load_K (H.sees i (List.getElem?_set_self hil)) z0).1
    have w1 : IntKind.i64.wrap (k + 3 * (j : Int) + 1) = k + 3 * (j : Int) + 1 := by rw [wrap_ok] <;> omega
    obtain ⟨g2, s2, A2, _⟩ := fput_K1 B1 i (List.getElem?_set_self hil) z1 (k + 3 * (j : Int) + 1)
    rw [List.set_set, List.set_set] at A2
    have B2 : Holds h0 g2 (L.set i (.own (.slice oa xs.length c) 3 (((marksT mkK 3 k j ++ xs.drop j).set j (⟨k + 3 * (j : Int), k + 3 * (j : Int) + 1, z.s⟩ : Task)).map encT))) := A2
    have z2 : ((marksT mkK 3 k j ++ xs.drop j).set j (⟨k + 3 * (j : Int), k + 3 * (j : Int) + 1, z.s⟩ : Task))[j]? = some (⟨k + 3 * (j : Int), k + 3 * (j : Int) + 1, z.s⟩ : Task) := List.getElem?_set_self (by rw [hEl]; exact hlt)
    have i1 := (load_K (B1.sees i (List.getElem?_set_self hil)) z1).1
    have w2 : IntKind.i64.wrap (k + 3 * (j : Int) + 1 + 1) = k + 3 * (j : Int) + 1 + 1 := by rw [wrap_ok] <;> omega
    obtain ⟨g3, s3, A3, _⟩ := fput_K2 B2 i (List.getElem?_set_self hil) z2 (k + 3 * (j : Int) + 1 + 1)
    rw [List.set_set, List.set_set] at A3
    have B3 : Holds h0 g3 (L.set i (.own (.slice oa xs.length c) 3 (((marksT mkK 3 k j ++ xs.drop j).set j (⟨k + 3 * (j : Int), k + 3 * (j : Int) + 1, k + 3 * (j : Int) + 1 + 1⟩ : Task)).map encT))) := A3
    have i2 := (load_K (B2.sees i (List.getElem?_set_self hil)) z2).1
    have w3 : IntKind.i64.wrap (k + 3 * (j : Int) + 1 + 1 + 1) = k + 3 * (j : Int) + 1 + 1 + 1 := by rw [wrap_ok] <;> omega
    simp -implicitDefEqProofs [-indexAddrP_some, hlt, i0, s1, w1, i1, s2, w2, i2, s3, w3, winc hlt hn]
    refine ⟨m - 1, by omega, on hI ⟨j + 1, by omega, ?_, ?_⟩⟩
    · rw [show k + 3 * (j : Int) + 1 + 1 + 1 = k + 3 * ((j + 1 : Nat) : Int) by omega]; rfl
    · rw [marks_next (mk := mkK) (n := 3) hy (show mkK (k + (3 : Nat) * (j : Int)) = (⟨k + 3 * (j : Int), k + 3 * (j : Int) + 1, k + 3 * (j : Int) + 1 + 1⟩ : Task) by simp [mkK])] at B3; exact B3
  · have hj : j = xs.length := by omega
    subst hj
    rw [List.drop_eq_nil_of_le (Nat.le_refl _), List.append_nil] at H
    simp -implicitDefEqProofs [hlt]
    exact onK hK ⟨rfl, H0.gcR H (set_row hi0 rfl)⟩
theorem heldTaskS_run {h : Hp} {v : Value} {n : Nat} {k : Int} (hv : Sees h v 3 ((marksT mkK 3 k n).map encT)) (hn : n ≤ 2 ^ 40) (h1 : 0 ≤ k) (h2 : k ≤ 2 ^ 50) :
    Ret P G n_laws_heldTaskS [v, .int .i64 k] h (.int .i64 (k + 3 * (n : Int))) h := by
  refine enter_run e_laws_heldTaskS (by simp) ?_
  have hvs := hv
  obtain ⟨oa, c, ev⟩ := hv.shapeT
  rw [marksT_len] at ev
  subst ev
  simp -implicitDefEqProofs
  refine R_loopO (fun m s h' => ∃ (j : Nat), j + m = n ∧ s = [(0, .slice oa n c), (1, .int .i64 (k + 3 * (j : Int))), (5, .int .i64 j)] ∧ h' = h) (fun I hI m s h' => ?_) ⟨0, Nat.zero_add _, by simp, rfl⟩
  rintro ⟨j, hi, rfl, rfl⟩
  by_cases hlt : j < n
  · have hz : (marksT mkK 3 k n)[j]? = some (⟨k + 3 * (j : Int), k + 3 * (j : Int) + 1, k + 3 * (j : Int) + 1 + 1⟩ : Task) := by have := marksT_get (mk := mkK) (n := 3) (k := k) hlt; simpa [mkK] using this
    have lz := load_K hvs hz
    have w1 : IntKind.i64.wrap (k + 3 * (j : Int) + 1) = k + 3 * (j : Int) + 1 := by rw [wrap_ok] <;> omega
    have w2 : IntKind.i64.wrap (k + 3 * (j : Int) + 1 + 1) = k + 3 * (j : Int) + 1 + 1 := by rw [wrap_ok] <;> omega
    have w3 : IntKind.i64.wrap (k + 3 * (j : Int) + 1 + 1 + 1) = k + 3 * (j : Int) + 1 + 1 + 1 := by rw [wrap_ok] <;> omega
    simp -implicitDefEqProofs [-indexAddrP_some, hlt, lz, w1, w2, w3, winc hlt hn]
    refine ⟨m - 1, by omega, on hI ⟨j + 1, by omega, ?_, rfl⟩⟩
    rw [show k + 3 * (j : Int) + 1 + 1 + 1 = k + 3 * ((j + 1 : Nat) : Int) by omega]; rfl
  · have hj : j = n := by omega
    subst hj
    simp -implicitDefEqProofs [hlt]
end Go.Pm.PP

/- FnExactListPlan: both functions; copies of pairs. -/
set_option linter.unusedVariables false
set_option linter.unusedSimpArgs false
set_option maxRecDepth 4000
set_option maxHeartbeats 4000000
namespace Go.Pm.PP
open Go.Pm Go.Proofs Go.Pm.LP
theorem ms_len {js : List Job} {T : Tab} {os : List Nat} {now : Int} {S : PS} {c : Nat} : (ms js T os now S c).plan.length = S.plan.length := by
  unfold ms
  split
  · rfl
  · split <;> simp
theorem rnd_len {js : List Job} {T : Tab} {os : List Nat} {now : Int} : ∀ {l : List Nat} {S : PS}, (l.foldl (ms js T os now) S).plan.length = S.plan.length
  | [], S => rfl
  | c :: l, S => by rw [List.foldl_cons, rnd_len, ms_len]
theorem sGo_len {js : List Job} {T : Tab} {os : List Nat} {m : Nat} : ∀ {f : Nat} {S : PS} {now : Int}, (sGo js T os m f S now).plan.length = S.plan.length
  | 0, S, now => rfl
  | f + 1, S, now => by
    rw [sGo]
    split
    · rw [sGo_len]; exact rnd_len
    · rfl
theorem listL_len {js : List Job} {m : Nat} {es : List (Int × Int)} {os : List Nat} : (listL js m es os).length = js.length := by
  unfold listL listS; rw [sGo_len]; simp [S0]
/-- A slice and whether there is one. -/
def retE {α : Type} (enc : α → List Value) (sz : Nat) (X : Option (List α)) (v : Value) (b : Nat) (h : Hp) : Prop := ∃ w, v = .tuple #[w, .bool X.isSome] ∧ Own b h w sz ((X.getD []).map enc)
def planO (js : List Job) (m : Int) (es : List (Int × Int)) (xs : List Int) : Option (List Task) := if listOk js m es xs = true then some (listL js m.toNat es (xs.map Int.toNat)) else none
theorem planO_len {js : List Job} {m : Int} {es : List (Int × Int)} {xs : List Int} : ((planO js m es xs).getD []).length ≤ 8 := by
  unfold planO
  split
  · rename_i h
    obtain ⟨_, _, _, _, _, h8, _⟩ := listOk_wf h
    rw [Option.getD_some, listL_len]; exact h8
  · simp
theorem oI_nat {os : List Nat} : (oI os).map Int.toNat = os := by
  rw [List.map_map]
  conv => rhs; rw [← List.map_id os]
  exact List.map_congr_left fun x _ => by simp
section
variable {h : Hp} {vj ve vo : Value} {js : List Job} {es : List (Int × Int)} {xs : List Int} {m : Int}
theorem specListPlan_run (hj : Jobs h vj js) (he : Prs h ve es) (ho : Ints h vo xs) (l1 : js.length ≤ 2 ^ 40) (l2 : es.length ≤ 2 ^ 40) (l3 : xs.length ≤ 2 ^ 20) :
    RunsC P G n_spec_ListPlan [vj, .int .i64 m, ve, vo] h fun v h' => h <+: h' ∧ retE encT 3 (planO js m es xs) v h.length h' := by
  refine hideC fun K hK => enter_run e_spec_ListPlan (by simp) ?_
  have r1 := l7Ordered_run (m := m) hj he ho l1 l2 (by omega)
  cases c1 : listOk js m es xs
  · simp -implicitDefEqProofs [CL_ret r1, c1]
    exact onK hK ⟨List.prefix_rfl, .slice none 0 0, by simp [planO, c1], by simpa [planO, c1] using Own.nil⟩
  · obtain ⟨mm, os, rfl, hm, rfl, h8, hl, hin, he8, W⟩ := listOk_wf c1
    simp -implicitDefEqProofs [CL_ret r1, c1]
    refine CL_post (l7List_run hj he ho W hin h8 hm (by omega) l2) fun v h1 ⟨hp1, ho1⟩ => ?_
    have H1 := (Holds.start (h := h)).call hp1 ho1
    simp -implicitDefEqProofs
    refine onK hK ⟨(H1.ret2 0 rfl).1, _, by simp only [planO, c1, if_true, Option.isSome_some]; rfl, ?_⟩
    have e : (planO js mm es (oI os)).getD [] = listL js mm es os := by unfold planO; rw [if_pos c1, Option.getD_some, oI_nat, Int.toNat_natCast]
    rw [e]
    exact (H1.ret2 0 rfl).2
theorem ListPlan_run (hj : Jobs h vj js) (he : Prs h ve es) (ho : Ints h vo xs) (l1 : js.length ≤ 2 ^ 40) (l2 : es.length ≤ 2 ^ 40) (l3 : xs.length ≤ 2 ^ 20) :
    RunsC P G n_impl_ListPlan [vj, .int .i64 m, ve, vo] h fun v h' => h <+: h' ∧ retE encT 3 (planO js m es xs) v h.length h' := by
  refine hideC fun K hK => enter_run e_impl_ListPlan (by simp) ?_
  have r1 := isListed_run (m := m) hj he ho l1 l2 (by omega)
  rw [listOk_eq] at r1
  cases c1 : listOk js m es xs
  · simp -implicitDefEqProofs [CL_ret r1, c1]
    exact onK hK ⟨List.prefix_rfl, .slice none 0 0, by simp [planO, c1], by simpa [planO, c1] using Own.nil⟩
  · obtain ⟨mm, os, rfl, hm, rfl, h8, hl, hin, he8, W⟩ := listOk_wf c1
    simp -implicitDefEqProofs [CL_ret r1, c1]
    refine CL_post (listPlan_run hj he ho W hin h8 hm (by omega) l2) fun v h1 ⟨hp1, ho1⟩ => ?_
    have H1 := (Holds.start (h := h)).call hp1 ho1
    simp -implicitDefEqProofs
    refine onK hK ⟨(H1.ret2 0 rfl).1, _, by simp only [planO, c1, if_true, Option.isSome_some]; rfl, ?_⟩
    have e : (planO js mm es (oI os)).getD [] = listL js mm es os := by unfold planO; rw [if_pos c1, Option.getD_some, oI_nat, Int.toNat_natCast]
    rw [e]
    exact (H1.ret2 0 rfl).2
end
/-! ### copies of pairs -/
theorem szIntA2S_run {h : Hp} {v : Value} {xs : List (Int × Int)} {left : Int} (hv : Sees h v 2 (xs.map encQ)) (hn : xs.length < 2 ^ 63) (h0 : 0 ≤ left) (h1 : left ≤ 2 ^ 20) :
    Ret P G n_laws_szIntA2S [v, .int .i64 left] h (.int .i64 (szL left xs.length)) h := by
  refine enter_run e_laws_szIntA2S (by simp) ?_
  obtain ⟨oj, cj, rfl⟩ := hv.shapeT
  have w : IntKind.i64.wrap (left - xs.length) = left - xs.length := by rw [wrap_ok] <;> omega
  cases h2 : decide (left - (xs.length : Int) < 0) <;> simp -implicitDefEqProofs [w, h2, szL] <;> simp at h2 <;> omega
theorem toIntA2_run {h : Hp} {x : Int × Int} : Ret P G n_laws_toIntA2 [qv x] h (qv x) h := by
  refine enter_run e_laws_toIntA2 (by simp) ?_
  simp -implicitDefEqProofs
  refine R_loopO (fun n st h' => ∃ j : Nat, j + n = 2 ∧ st = [(1, .pointer (some ⟨h.length, 0, some 2⟩)), (2, .pointer (some ⟨h.length + 1, 0, some 2⟩)), (3, .pointer (some ⟨h.length + 2, 0, some 2⟩)), (4, .int .i64 j)] ∧
    h' = h ++ [some ⟨[.int .i64 x.1, .int .i64 x.2], 0, false⟩, some ⟨[.int .i64 0, .int .i64 0], 0, false⟩, some ⟨[.int .i64 (if j = 0 then 0 else x.1), .int .i64 (if j = 2 then x.2 else 0)], 0, false⟩]) (fun I hI n st h' => ?_) ⟨0, Nat.zero_add _, by simp, by simp⟩
  rintro ⟨j, hj, rfl, rfl⟩
  match j, hj with
  | 0, hj =>
    simp -implicitDefEqProofs [wrap_ok]
    exact ⟨n - 1, by omega, on hI ⟨1, by omega, rfl, by simp⟩⟩
  | 1, hj =>
    simp -implicitDefEqProofs [wrap_ok]
    exact ⟨n - 1, by omega, on hI ⟨2, by omega, rfl, by simp⟩⟩
  | 2, hj =>
    simp -implicitDefEqProofs
    exact gc_app _ _ _ rfl
  | j + 3, hj => omega
theorem toIntA2S_run {h : Hp} {v : Value} {xs : List (Int × Int)} (hv : Sees h v 2 (xs.map encQ)) (hn : xs.length ≤ 2 ^ 40) :
    RunsC P G n_laws_toIntA2S [v] h fun v' h' => Holds h h' [.own v' 2 (xs.map encQ)] := by
  refine hideC fun K hK => enter_run e_laws_toIntA2S (by simp) ?_
  have hvs := hv
  obtain ⟨oa, c, rfl⟩ := hv.shapeT
  obtain ⟨vz, h1, mk, H1, hp1, oz, rfl⟩ := make_Q (Holds.start (h := h)) (n := xs.length) hn
  simp -implicitDefEqProofs [mk]
  refine R_loopO (fun m s h' => ∃ i : Nat, i + m = xs.length ∧ s = [(0, .slice oa xs.length c), (3, .slice oz xs.length xs.length), (4, .int .i64 i)] ∧
    Holds h h' [.own (.slice oz xs.length xs.length) 2 ((xs.take i ++ List.replicate (xs.length - i) ((0, 0) : Int × Int)).map encQ)]) (fun I hI m s h' => ?_) ⟨0, Nat.zero_add _, by simp, by simpa using H1⟩
  rintro ⟨i, hi, rfl, H⟩
  have hEl : (xs.take i ++ List.replicate (xs.length - i) ((0, 0) : Int × Int)).length = xs.length := by simp; omega
  by_cases hlt : i < xs.length
  · obtain ⟨y, hy, hd⟩ := drop_at hlt
    obtain ⟨h2, hs2, H2, k2⟩ := put_Q H 0 rfl (j := i) (by rw [hEl]; exact hlt) y
    rw [set_next hy] at H2
    obtain ⟨z, hz, _⟩ := drop_at (show i < (xs.take i ++ List.replicate (xs.length - i) ((0, 0) : Int × Int)).length by rw [hEl]; exact hlt)
    have ix := (load_Q (H.sees 0 rfl) hz).1
    simp -implicitDefEqProofs [-indexAddrP_some, hlt, load_Q (hvs.pre H.pre) hy, CL_ret toIntA2_run, ix, hs2, winc hlt hn]
    exact ⟨m - 1, by omega, on hI ⟨i + 1, by omega, rfl, H2⟩⟩
  · have hi2 : i = xs.length := by omega
    subst hi2
    rw [List.take_of_length_le (Nat.le_refl _), Nat.sub_self, List.replicate_zero, List.append_nil] at H
    simp -implicitDefEqProofs [hlt]
    exact onK hK (H.gcO fun hp i A hA => by
      match i, hA with
      | 0, hA => cases hA; exact ⟨_, _, _, rfl, hp⟩
      | i + 1, hA => cases hA)
end Go.Pm.PP

/- FnExactListPlan in the small machine. -/
set_option linter.unusedVariables false
set_option linter.unusedSimpArgs false
set_option maxRecDepth 4000
set_option maxHeartbeats 4000000
namespace Go.Pm.PP
open Go.Pm Go.Proofs Go.Pm.LP
theorem law_ListPlan {h : Hp} {vj ve vo : Value} {js : List Job} {es : List (Int × Int)} {xs : List Int} {m : Int} (hj : Jobs h vj js) (he : Prs h ve es) (ho : Ints h vo xs) (l1 : js.length < 2 ^ 63) (l2 : es.length < 2 ^ 63) :
    Ret P G n_laws_FnExactListPlan [vj, .int .i64 m, ve, vo] h (.bool true) h := by
  refine enter_run e_laws_FnExactListPlan (by simp) ?_
  have hjs := hj
  have hes := he
  have hos := ho
  obtain ⟨oj, cj, rfl⟩ := hj.shapeT
  obtain ⟨oe, ce, rfl⟩ := he.shapeT
  obtain ⟨oo, co, rfl⟩ := ho.shapeT
  by_cases c0 : 1048576 < xs.length
  · have c0' : (1048576 : Int) < xs.length := by omega
    simp -implicitDefEqProofs [c0, c0']
  have c0' : ¬ (1048576 : Int) < xs.length := by omega
  have z1 := szJobS_run (left := 1048576) hjs l1 (by omega) (by omega)
  by_cases c1 : szL 1048576 js.length < 0
  · simp -implicitDefEqProofs [c0, c0', CL_ret z1, c1]
  have e1 := szL_ok c1
  have z2 := szIntA2S_run (left := szL 1048576 js.length) hes l2 (by omega) (by omega)
  by_cases c2 : szL (szL 1048576 js.length) es.length < 0
  · simp -implicitDefEqProofs [c0, c0', CL_ret z1, c1, CL_ret z2, c2]
  have e2 := szL_ok c2
  have b1 : js.length ≤ 2 ^ 40 := by omega
  have b2 : es.length ≤ 2 ^ 40 := by omega
  have b3 : xs.length ≤ 2 ^ 20 := by omega
  have b3' : xs.length ≤ 2 ^ 40 := by omega
  obtain ⟨X, hX⟩ : ∃ X, X = planO js m es xs := ⟨_, rfl⟩
  obtain ⟨rs, hrs⟩ : ∃ rs, rs = X.getD [] := ⟨_, rfl⟩
  have rl : rs.length ≤ 2 ^ 40 := by rw [hrs, hX]; exact Nat.le_trans planO_len (by omega)
  -- the reference
  simp -implicitDefEqProofs [c0, c0', CL_ret z1, c1, CL_ret z2, c2]
  refine CL_post (toJobS_run hjs b1) fun v1 h1 C1 => ?_
  simp -implicitDefEqProofs
  refine CL_post (toIntA2S_run (hes.pre C1.pre) b2) fun v2 h2 C2 => ?_
  simp -implicitDefEqProofs
  refine CL_post (toIntS_run (hos.pre (C1.pre.trans C2.pre)) b3') fun v3 h3 C3 => ?_
  simp -implicitDefEqProofs
  refine CL_post (specListPlan_run (m := m) ((C1.sees 0 rfl).pre (C2.pre.trans C3.pre)) ((C2.sees 0 rfl).pre C3.pre) (C3.sees 0 rfl) b1 b2 b3) fun v h4 ⟨p4, w, ev, ow⟩ => ?_
  subst ev
  rw [← hX, ← hrs] at ow
  rw [← hX]
  obtain ⟨w1, w2, w3, rfl⟩ : ∃ a n c, w = .slice a n c := by obtain ⟨a, c, e⟩ := ow.sees.shape; exact ⟨_, _, _, e⟩
  have H1 := ((Holds.start (h := h)).ext (C1.pre.trans (C2.pre.trans C3.pre))).call p4 ow
  -- the copies
  simp -implicitDefEqProofs
  refine CL_post (toJobS_run (hjs.pre H1.pre) b1) fun v5 h5 C5 => ?_
  obtain ⟨x1, x2, x3, rfl⟩ : ∃ a n c, v5 = .slice a n c := by obtain ⟨a, c, e⟩ := (C5.sees 0 rfl).shape; exact ⟨_, _, _, e⟩
  have H2 := H1.join C5
  simp -implicitDefEqProofs
  refine CL_post (toIntA2S_run (hes.pre H2.pre) b2) fun v6 h6 C6 => ?_
  obtain ⟨y1, y2, y3, rfl⟩ : ∃ a n c, v6 = .slice a n c := by obtain ⟨a, c, e⟩ := (C6.sees 0 rfl).shape; exact ⟨_, _, _, e⟩
  have H3 := H2.join C6
  simp -implicitDefEqProofs
  refine CL_post (toIntS_run (hos.pre H3.pre) b3') fun v7 h7 C7 => ?_
  obtain ⟨u1, u2, u3, rfl⟩ : ∃ a n c, v7 = .slice a n c := by obtain ⟨a, c, e⟩ := (C7.sees 0 rfl).shape; exact ⟨_, _, _, e⟩
  have H4 := H3.join C7
  -- the program
  simp -implicitDefEqProofs
  refine CL_post (ListPlan_run (m := m) (H4.sees 1 rfl) (H4.sees 2 rfl) (H4.sees 3 rfl) b1 b2 b3) fun v h8 ⟨p8, g, ev, og⟩ => ?_
  subst ev
  rw [← hX, ← hrs] at og
  rw [← hX]
  obtain ⟨g1, g2, g3, rfl⟩ : ∃ a n c, g = .slice a n c := by obtain ⟨a, c, e⟩ := og.sees.shape; exact ⟨_, _, _, e⟩
  have H5 := H4.call p8 og
  have q1 := eqTaskS_run (H5.sees 4 rfl) (H5.sees 0 rfl) rl
  simp -implicitDefEqProofs [CL_ret q1]
  -- the copies are as they were
  refine CL_post (toJobS_run (hjs.pre H5.pre) b1) fun v9 h9 C9 => ?_
  have H6 := H5.ext C9.pre
  have q2 := eqJobS_run (H6.sees 1 rfl) (C9.sees 0 rfl) b1
  simp -implicitDefEqProofs [CL_ret q2]
  refine CL_post (toIntA2S_run (hes.pre H6.pre) b2) fun v10 h10 C10 => ?_
  have H7 := H6.ext C10.pre
  have q3 := eqIntA2S_run (H7.sees 2 rfl) (C10.sees 0 rfl) b2
  simp -implicitDefEqProofs [CL_ret q3]
  refine CL_post (toIntS_run (hos.pre H7.pre) b3') fun v11 h11 C11 => ?_
  have H8 := H7.ext C11.pre
  have q4 := eqIntS_run (H8.sees 3 rfl) (C11.sees 0 rfl) b3'
  simp -implicitDefEqProofs [CL_ret q4]
  -- marks in the copies
  refine CL_post (markJobS_run (k := 1) H8 1 rfl b1 (by omega) (by omega)) fun r h12 ⟨er, H9⟩ => ?_
  subst er
  simp -implicitDefEqProofs
  refine CL_post (markIntA2S_run (k := 1 + 4 * (js.length : Int)) H9 2 rfl b2 (by omega) (by omega)) fun r h13 ⟨er, H10⟩ => ?_
  subst er
  simp -implicitDefEqProofs
  refine CL_post (markIntS_run (k := 1 + 4 * (js.length : Int) + 2 * (es.length : Int)) H10 3 rfl b3' (by omega) (by omega)) fun r h14 ⟨er, H11⟩ => ?_
  subst er
  have q5 := eqTaskS_run (H11.sees 4 rfl) (H11.sees 0 rfl) rl
  have hk0 : ¬ (1 + 4 * (js.length : Int) + 2 * (es.length : Int) + (xs.length : Int) < 0) := by omega
  simp -implicitDefEqProofs [hk0, CL_ret q5]
  -- marks in the result
  refine CL_post (markTaskS_run (k := 1) H11 4 rfl rl (by omega) (by omega)) fun r h15 ⟨er, H12⟩ => ?_
  subst er
  have q6 := heldTaskS_run (k := 1) (H12.sees 4 rfl) rl (by omega) (by omega)
  have hk1 : ¬ (1 + 3 * (rs.length : Int) < 0) := by omega
  simp -implicitDefEqProofs [CL_ret q6, hk1]
  -- once more
  refine CL_post (toJobS_run (hjs.pre H12.pre) b1) fun v16 h16 C16 => ?_
  simp -implicitDefEqProofs
  refine CL_post (toIntA2S_run (hes.pre (H12.pre.trans C16.pre)) b2) fun v17 h17 C17 => ?_
  simp -implicitDefEqProofs
  refine CL_post (toIntS_run (hos.pre (H12.pre.trans (C16.pre.trans C17.pre))) b3') fun v18 h18 C18 => ?_
  simp -implicitDefEqProofs
  refine CL_post (ListPlan_run (m := m) ((C16.sees 0 rfl).pre (C17.pre.trans C18.pre)) ((C17.sees 0 rfl).pre C18.pre) (C18.sees 0 rfl) b1 b2 b3) fun v h19 ⟨p19, t, ev, ot⟩ => ?_
  subst ev
  rw [← hX, ← hrs] at ot
  rw [← hX]
  have H13 := H12.ext (C16.pre.trans (C17.pre.trans (C18.pre.trans p19)))
  have q7 := eqTaskS_run ot.sees (H13.sees 0 rfl) rl
  have q8 := heldTaskS_run (k := 1) (H13.sees 4 rfl) rl (by omega) (by omega)
  simp -implicitDefEqProofs [CL_ret q7, CL_ret q8, hk1]
  exact gcP H13.pre rfl
end Go.Pm.PP

/- Jobs, pairs and orders as arguments, opened as rows. -/
set_option linter.unusedVariables false
set_option linter.unusedSimpArgs false
set_option maxRecDepth 4000
namespace Go.Pm
open Go.ChangeShapes Go.WideShapes
section
variable {P : Program} {H : Type} {enc : TypeId × Value → H} {w : World} {base : Nat} {held : Bool}
/-- An array of numbers. -/
theorem array_ints {t e : TypeId} {n : Nat} {fuel : Nat} {cs : List Value} {x : DataW H × List MemPlace} (ht : P.underlying t = some (.array n e)) (hn : P.cellsOf t = n) (he : P.underlying e = some (.int .i64)) (hce : P.cellsOf e = 1)
    (hd : DataW.trod enc P w base (fun _ => true) held fuel t cs = some x) : ∃ ns : List Int, ns.length = n ∧ cs = ns.map fun z => .int .i64 z := by
  obtain ⟨ys, m, _, _, hl, hy, hall⟩ := DataW.trod_array ht hd
  obtain ⟨g, hg⟩ := Go.Deep.choose_lt (α := Int) (n := n) (p := fun i z => cs[i]? = some (.int .i64 z)) (fun i hi => by
    have h5 := hall i hi
    rw [hce, Nat.mul_one, List.getElem?_eq_getElem (show i < ys.length by omega)] at h5
    obtain ⟨z, h6, _⟩ := DataW.trod_int he h5
    have hi2 : i < cs.length := by omega
    refine ⟨z, ?_⟩
    have h7 : (cs.drop i).take 1 = [cs[i]] := by
      rw [List.drop_eq_getElem_cons hi2]; rfl
    rw [h7] at h6
    rw [List.getElem?_eq_getElem hi2]
    simpa using h6)
  refine ⟨(List.range n).map g, by simp, ?_⟩
  apply List.ext_getElem?
  intro i
  rcases Nat.lt_or_ge i n with hi | hi
  · rw [hg i hi]; simp [hi]
  · rw [List.getElem?_eq_none (by omega), List.getElem?_eq_none (by simp; omega)]
/-- A slice of elements that are numbers alone. -/
theorem shows_els {t e : TypeId} {n : Nat} {fuel : Nat} {v : Value} {x : DataW H × List MemPlace} (ht : P.underlying t = some (.slice e)) (hn : P.cellsOf e = n) (hpos : 0 < n)
    (hin : ∀ (fu : Nat) (cs : List Value) (y : DataW H × List MemPlace), DataW.trod enc P w base (fun _ => true) held fu e cs = some y → ∃ ns : List Int, ns.length = n ∧ cs = ns.map fun z => .int .i64 z)
    (hd : DataW.trod enc P w base (fun _ => true) held fuel t [v] = some x) :
    ∃ nss : List (List Int), nss.length ≤ maxLen ∧ (∀ ns ∈ nss, ns.length = n) ∧ ∀ (ρ : Mp) (h : Hp), Shows ρ h w n (nss.map fun ns => ns.map fun z => .int .i64 z) v := by
  rcases Go.Deep.open_slice ht hd with ⟨h1, _⟩ | ⟨a, len, cap, m, fu, D, Pl, h1, _, hl, hm, hmm, _, hx⟩
  · cases h1
    exact ⟨[], by simp, by simp, fun ρ h => .inl ⟨rfl, rfl⟩⟩
  · cases h1
    simp only [if_true] at hmm
    subst hmm
    rw [hn] at hx
    obtain ⟨g, hg⟩ := Go.Deep.choose_lt (α := List Int) (n := m) (p := fun i ns => ns.length = n ∧ ∀ j, j < n → w.cell? (a.add (i * n + j)) = (ns[j]?).map fun z => .int .i64 z) (fun i hi => by
      obtain ⟨cs', h2, h3⟩ := hx i hi
      obtain ⟨ns, h4, h5⟩ := hin _ _ _ h3
      obtain ⟨_, _, h6⟩ := World.cells?_some h2
      refine ⟨ns, h4, fun j hj => ?_⟩
      have := h6 j hj
      rw [Go.Deep.add_add] at this
      rw [this, h5, List.getElem?_map])
    have hlen : ∀ ns ∈ (List.range len).map g, ns.length = n := by
      intro ns hns
      obtain ⟨i, hi, rfl⟩ := List.mem_map.1 hns
      exact (hg i (by have := List.mem_range.1 hi; omega)).1
    refine ⟨(List.range len).map g, by simp; omega, hlen, fun ρ h => .inr ⟨a, m, by simp, by simpa using hl, ?_, fun k c hk => ?_⟩⟩
    · rcases Nat.eq_zero_or_pos m with h0 | h0
      · exact .inl h0
      · right
        obtain ⟨h2, h3⟩ := hg 0 h0
        have := h3 0 hpos
        rw [List.getElem?_eq_getElem (by omega)] at this
        have h4 := spot_none this
        simpa [Addr.add] using h4
    · have hE : ∀ e ∈ ((List.range len).map g).map (fun ns => ns.map fun z => Value.int .i64 z), e.length = n := by
        intro e he
        obtain ⟨ns, hns, rfl⟩ := List.mem_map.1 he
        simpa using hlen ns hns
      have hk1 := (List.getElem?_eq_some_iff.1 hk).1
      rw [flat_len hE] at hk1
      simp only [List.length_map, List.length_range] at hk1
      have hi : k / n < len := (Nat.div_lt_iff_lt_mul hpos).2 hk1
      have hj : k % n < n := Nat.mod_lt _ hpos
      have hkk : k / n * n + k % n = k := by rw [Nat.mul_comm]; exact Nat.div_add_mod k n
      obtain ⟨h2, h3⟩ := hg (k / n) (by omega)
      have h4 := flat_get hE (i := k / n) (k := k % n) (e := (g (k / n)).map fun z => .int .i64 z) (by simp [hi]) hj
      rw [hkk, hk, List.getElem?_map] at h4
      have h5 := h3 (k % n) hj
      rw [hkk, ← h4] at h5
      obtain ⟨z, _, hz⟩ := Option.map_eq_some_iff.1 h4.symm
      exact ⟨c, h5, by rw [← hz]; exact .int _ _⟩
end
end Go.Pm
namespace Go.Pm.PP
open Go.Pm Go.Proofs Go.Pm.LP
theorem cells_lJob : P.cellsOf t_laws_Job = 4 := by kernel_rfl
theorem cells_A2 : P.cellsOf t_A2_int = 2 := by kernel_rfl
theorem lJobF : ∃ fs, P.underlying t_laws_Job = some (.struct fs) ∧ ∀ i, i < 4 → ∃ f, fs[i]? = some f ∧ f.offset = i ∧ P.underlying f.type = some (.int .i64) ∧ P.cellsOf f.type = 1 := by
  refine ⟨_, rfl, fun i hi => ?_⟩
  match i, hi with
  | 0, _ => exact ⟨_, rfl, rfl, rfl, by kernel_rfl⟩
  | 1, _ => exact ⟨_, rfl, rfl, rfl, by kernel_rfl⟩
  | 2, _ => exact ⟨_, rfl, rfl, rfl, by kernel_rfl⟩
  | 3, _ => exact ⟨_, rfl, rfl, rfl, by kernel_rfl⟩
def jobOf (ns : List Int) : Job := ⟨ns.getD 0 0, ns.getD 1 0, ns.getD 2 0, ns.getD 3 0⟩
theorem jobOf_enc {ns : List Int} (h : ns.length = 4) : encJ (jobOf ns) = ns.map fun z => .int .i64 z := by
  match ns, h with
  | [a, b, c, d], _ => rfl
def prOf (ns : List Int) : Int × Int := (ns.getD 0 0, ns.getD 1 0)
theorem prOf_enc {ns : List Int} (h : ns.length = 2) : encQ (prOf ns) = ns.map fun z => .int .i64 z := by
  match ns, h with
  | [a, b], _ => rfl
theorem u_A2 : P.underlying t_A2_int = some (.array 2 t_int) := u_A2_int
section
variable {H : Type} {enc : TypeId × Value → H} {W : World} {ρ : Mp} {h : Hp} {v : Value} {n0 : Nat} {x0 : DataW H × List MemPlace}
theorem open_jobs (R : Rel ρ h W) (ha : AllRo h) (d0 : DataW.trod enc P W 0 (fun _ => true) true n0 t_S_laws_Job [v] = some x0) :
    ∃ (h2 : Hp) (ρ2 : Mp) (p : Value) (xs : List Job), h <+: h2 ∧ Rel ρ2 h2 W ∧ AllRo h2 ∧ Step ρ h ρ2 h2 ∧ VR ρ2 h2 p v ∧ Sees h2 p 4 (xs.map encJ) ∧ xs.length < 2 ^ 63 := by
  have hmx : maxLen = 2 ^ 63 - 1 := rfl
  obtain ⟨gs, ug, hg⟩ := lJobF
  obtain ⟨nss, l0, g0, s0⟩ := shows_recs (P := P) (v := v) u_S_laws_Job ug cells_lJob (by omega) hg d0
  have hm0 : (nss.map fun ns => ns.map fun z => Value.int .i64 z) = (nss.map jobOf).map encJ := by
    rw [List.map_map]
    exact List.map_congr_left fun ns hns => (jobOf_enc (g0 ns hns)).symm
  obtain ⟨h2, ρ2, p, q, R2, a2, t, r, N⟩ := add_slice (w := W) (len_J (nss.map jobOf)) R ha (by rw [← hm0]; exact s0 ρ h)
  exact ⟨h2, ρ2, p, nss.map jobOf, q, R2, a2, t, r, N, by simp; omega⟩
theorem open_prs (R : Rel ρ h W) (ha : AllRo h) (d0 : DataW.trod enc P W 0 (fun _ => true) true n0 t_S_A2_int [v] = some x0) :
    ∃ (h2 : Hp) (ρ2 : Mp) (p : Value) (xs : List (Int × Int)), h <+: h2 ∧ Rel ρ2 h2 W ∧ AllRo h2 ∧ Step ρ h ρ2 h2 ∧ VR ρ2 h2 p v ∧ Sees h2 p 2 (xs.map encQ) ∧ xs.length < 2 ^ 63 := by
  have hmx : maxLen = 2 ^ 63 - 1 := rfl
  obtain ⟨nss, l0, g0, s0⟩ := shows_els (P := P) (v := v) u_S_A2_int cells_A2 (by omega) (fun fu cs y hy => array_ints u_A2 cells_A2 u_int cells_int hy) d0
  have hm0 : (nss.map fun ns => ns.map fun z => Value.int .i64 z) = (nss.map prOf).map encQ := by
    rw [List.map_map]
    exact List.map_congr_left fun ns hns => (prOf_enc (g0 ns hns)).symm
  obtain ⟨h2, ρ2, p, q, R2, a2, t, r, N⟩ := add_slice (w := W) (len_Q (nss.map prOf)) R ha (by rw [← hm0]; exact s0 ρ h)
  exact ⟨h2, ρ2, p, nss.map prOf, q, R2, a2, t, r, N, by simp; omega⟩
theorem open_ints (R : Rel ρ h W) (ha : AllRo h) (d0 : DataW.trod enc P W 0 (fun _ => true) true n0 t_S_int [v] = some x0) :
    ∃ (h2 : Hp) (ρ2 : Mp) (p : Value) (xs : List Int), h <+: h2 ∧ Rel ρ2 h2 W ∧ AllRo h2 ∧ Step ρ h ρ2 h2 ∧ VR ρ2 h2 p v ∧ Sees h2 p 1 (xs.map encI) ∧ xs.length < 2 ^ 63 := by
  have hmx : maxLen = 2 ^ 63 - 1 := rfl
  obtain ⟨xs, l0, s0⟩ := shows_ints (P := P) (v := v) u_S_int u_int cells_int d0
  obtain ⟨h2, ρ2, p, q, R2, a2, t, r, N⟩ := add_slice (w := W) (len_I xs) R ha (s0 ρ h)
  exact ⟨h2, ρ2, p, xs, q, R2, a2, t, r, N, by omega⟩
end
end Go.Pm.PP
