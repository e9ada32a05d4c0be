/- The texts PoQa, PoTa, PoTb, PoTc, Ps8, PoTd, PoTe of this work: Typed rules for slices: printed by a program of this work (wrap.py). -/
import Derived.Test.YtdhlemilmklbpaaP9
import Derived.Test.YtdhlemilmklbpaaP7
/- Typed rules for slices: printed by a program of this work (wrap.py). -/
set_option linter.unusedVariables false
set_option linter.unusedSimpArgs false
set_option maxRecDepth 4000
namespace Go.Pm.PP
open Go.Pm Go.Proofs
def encQ (x : Int × Int) : List Value := [.int .i64 x.1, .int .i64 x.2]
theorem load_Q {h : Hp} {v : Value} {xs : List (Int × Int)} {i : Nat} {x : Int × Int} (hv : Sees h v 2 (xs.map encQ)) (hx : xs[i]? = some x) :
    indexAddrP P h t_S_A2_int v (.int .i64 i) = some (.pointer (some (addP (base v) (i * 2)))) ∧ loadP P h t_A2_int (.pointer (some (addP (base v) (i * 2)))) = some (.agg #[.int .i64 x.1, .int .i64 x.2]) ∧
    loadP P h t_int (.pointer (some (addP (addP (base v) (i * 2)) 0))) = some (.int .i64 x.1) ∧
    loadP P h t_int (.pointer (some (addP (addP (base v) (i * 2)) 1))) = some (.int .i64 x.2) := by
  have hi := (List.getElem?_eq_some_iff.1 hx).1
  have h1 := hv.indexT (P := P) u_S_A2_int i_A2_int (k := .i64) (j := i) (by omega) (by omega)
  rw [Int.toNat_natCast] at h1
  have fld : ∀ k, k < 2 → loadP P h t_int (.pointer (some (addP (addP (base v) (i * 2)) k))) = (encQ x)[k]? := by
    intro k hk
    have := hv.cellT (P := P) a_int i_int hx hk
    rw [← this]
    simp only [addP, Nat.add_assoc]
  exact ⟨h1, hv.aggT a_A2_int i_A2_int hx, fld 0 (by omega), fld 1 (by omega)⟩
theorem len_Q (xs : List (Int × Int)) : ∀ e ∈ xs.map encQ, e.length = 2 := by
  intro e he
  obtain ⟨x, _, rfl⟩ := List.mem_map.1 he
  rfl
theorem ones_Q (xs : List (Int × Int)) : (xs.map encQ).flatten.all one = true := by
  induction xs with
  | nil => rfl
  | cons x xs ih => rw [List.map_cons, List.flatten_cons, List.all_append, ih]; rfl
theorem push_Q0 {h0 h : Hp} {L : List Asn} (H : Holds h0 h L) (i : Nat) {v : Value} {xs : List (Int × Int)} (hi : L[i]? = some (.own v 2 (xs.map encQ))) (x : Int × Int) (hn : xs.length ≤ 2 ^ 40) :
    ∃ v' h', appendP P (h ++ [some ⟨[.int .i64 x.1, .int .i64 x.2], 2, false⟩]) t_S_A2_int v (.slice (some ⟨h.length, 0, some 2⟩) 1 1) = some (v', h') ∧ Holds h0 h' (L.set i (.own v' 2 ((xs ++ [x]).map encQ))) ∧ Keeps (rowV v) h h' ∧ (rowV v = none → newOk (h ++ [some ⟨[.int .i64 x.1, .int .i64 x.2], 2, false⟩]) h') := by
  obtain ⟨v', h', g1, g2, g3, g4⟩ := (H.ext (List.prefix_append h [])).push (P := P) i (y := encQ x) (n := 2) hi u_S_A2_int e_t_A2_int z_t_A2_int s_t_A2_int (by omega) (by rw [b_t_A2_int]; omega) rfl rfl (by simp [encQ]) (by rw [b_t_A2_int]; simp; omega)
  rw [show xs.map encQ ++ [encQ x] = (xs ++ [x]).map encQ by simp] at g2
  exact ⟨v', h', by simpa [encQ] using g1, g2, Keeps.app.trans g3, by simpa [encQ] using g4⟩
theorem push_Q1 {h0 h : Hp} {L : List Asn} (H : Holds h0 h L) (i : Nat) {v : Value} {xs : List (Int × Int)} (hi : L[i]? = some (.own v 2 (xs.map encQ))) (x : Int × Int) {a1 : Option Row} (hn : xs.length ≤ 2 ^ 40) :
    ∃ v' h', appendP P (h ++ [a1, some ⟨[.int .i64 x.1, .int .i64 x.2], 2, false⟩]) t_S_A2_int v (.slice (some ⟨h.length + 1, 0, some 2⟩) 1 1) = some (v', h') ∧ Holds h0 h' (L.set i (.own v' 2 ((xs ++ [x]).map encQ))) ∧ Keeps (rowV v) h h' ∧ (rowV v = none → newOk (h ++ [a1, some ⟨[.int .i64 x.1, .int .i64 x.2], 2, false⟩]) h') := by
  obtain ⟨v', h', g1, g2, g3, g4⟩ := (H.ext (List.prefix_append h [a1])).push (P := P) i (y := encQ x) (n := 2) hi u_S_A2_int e_t_A2_int z_t_A2_int s_t_A2_int (by omega) (by rw [b_t_A2_int]; omega) rfl rfl (by simp [encQ]) (by rw [b_t_A2_int]; simp; omega)
  rw [show xs.map encQ ++ [encQ x] = (xs ++ [x]).map encQ by simp] at g2
  exact ⟨v', h', by simpa [encQ] using g1, g2, Keeps.app.trans g3, by simpa [encQ] using g4⟩
theorem push_Q2 {h0 h : Hp} {L : List Asn} (H : Holds h0 h L) (i : Nat) {v : Value} {xs : List (Int × Int)} (hi : L[i]? = some (.own v 2 (xs.map encQ))) (x : Int × Int) {a1 a2 : Option Row} (hn : xs.length ≤ 2 ^ 40) :
    ∃ v' h', appendP P (h ++ [a1, a2, some ⟨[.int .i64 x.1, .int .i64 x.2], 2, false⟩]) t_S_A2_int v (.slice (some ⟨h.length + 2, 0, some 2⟩) 1 1) = some (v', h') ∧ Holds h0 h' (L.set i (.own v' 2 ((xs ++ [x]).map encQ))) ∧ Keeps (rowV v) h h' ∧ (rowV v = none → newOk (h ++ [a1, a2, some ⟨[.int .i64 x.1, .int .i64 x.2], 2, false⟩]) h') := by
  obtain ⟨v', h', g1, g2, g3, g4⟩ := (H.ext (List.prefix_append h [a1, a2])).push (P := P) i (y := encQ x) (n := 2) hi u_S_A2_int e_t_A2_int z_t_A2_int s_t_A2_int (by omega) (by rw [b_t_A2_int]; omega) rfl rfl (by simp [encQ]) (by rw [b_t_A2_int]; simp; omega)
  rw [show xs.map encQ ++ [encQ x] = (xs ++ [x]).map encQ by simp] at g2
  exact ⟨v', h', by simpa [encQ] using g1, g2, Keeps.app.trans g3, by simpa [encQ] using g4⟩
theorem app_Q {h0 h : Hp} {L : List Asn} (H : Holds h0 h L) (i : Nat) {v u : Value} {xs ys : List (Int × Int)} (hi : L[i]? = some (.own v 2 (xs.map encQ))) (s : Sees h u 2 (ys.map encQ)) (hn : xs.length + ys.length ≤ 2 ^ 40) :
    ∃ v' h', appendP P h t_S_A2_int v u = some (v', h') ∧ Holds h0 h' (L.set i (.own v' 2 ((xs ++ ys).map encQ))) ∧ Keeps (rowV v) h h' := by
  obtain ⟨v', h', g1, g2, g3⟩ := H.app (P := P) i hi u_S_A2_int e_t_A2_int z_t_A2_int s_t_A2_int (by omega) (by rw [b_t_A2_int]; omega) s (ones_Q ys) (by rw [b_t_A2_int]; simp; omega)
  rw [← List.map_append] at g2
  exact ⟨v', h', g1, g2, g3⟩
theorem put_Q {h0 h : Hp} {L : List Asn} (H : Holds h0 h L) (i : Nat) {v : Value} {xs : List (Int × Int)} (hi : L[i]? = some (.own v 2 (xs.map encQ))) {j : Nat} (hj : j < xs.length) (x : Int × Int) :
    ∃ h', storeP P h t_A2_int (.agg #[.int .i64 x.1, .int .i64 x.2]) (.pointer (some (addP (base v) (j * 2)))) = some h' ∧ Holds h0 h' (L.set i (.own v 2 ((xs.set j x).map encQ))) ∧ Keeps (rowV v) h h' := by
  have := H.put (P := P) i (t := t_A2_int) (w := .agg #[.int .i64 x.1, .int .i64 x.2]) (j := j) hi i_A2_int (by simpa using hj) rfl (by simp)
  simpa [List.map_set, encQ] using this
theorem fput_Q0 {h0 h : Hp} {L : List Asn} (H : Holds h0 h L) (i : Nat) {v : Value} {xs : List (Int × Int)} (hi : L[i]? = some (.own v 2 (xs.map encQ))) {j : Nat} {y : Int × Int} (hy : xs[j]? = some y) (z : Int) :
    ∃ h', storeP P h t_int (.int .i64 z) (.pointer (some (addP (addP (base v) (j * 2)) 0))) = some h' ∧ Holds h0 h' (L.set i (.own v 2 ((xs.set j ((z, y.2))).map encQ))) ∧ Keeps (rowV v) h h' := by
  have := H.store (P := P) i hi (t := t_int) (w := .int .i64 z) (j := j) (e := encQ y) (l := []) (m := [.int .i64 y.1]) (c := [.int .i64 y.2]) e_t_int (by simp [hy]) rfl (by simp) (by simp) (by simp)
  simpa [List.map_set, encQ, addP, Nat.add_assoc] using this
theorem fput_Q1 {h0 h : Hp} {L : List Asn} (H : Holds h0 h L) (i : Nat) {v : Value} {xs : List (Int × Int)} (hi : L[i]? = some (.own v 2 (xs.map encQ))) {j : Nat} {y : Int × Int} (hy : xs[j]? = some y) (z : Int) :
    ∃ h', storeP P h t_int (.int .i64 z) (.pointer (some (addP (addP (base v) (j * 2)) 1))) = some h' ∧ Holds h0 h' (L.set i (.own v 2 ((xs.set j ((y.1, z))).map encQ))) ∧ Keeps (rowV v) h h' := by
  have := H.store (P := P) i hi (t := t_int) (w := .int .i64 z) (j := j) (e := encQ y) (l := [.int .i64 y.1]) (m := [.int .i64 y.2]) (c := []) e_t_int (by simp [hy]) rfl (by simp) (by simp) (by simp)
  simpa [List.map_set, encQ, addP, Nat.add_assoc] using this
theorem make_Q {h0 h : Hp} {L : List Asn} (H : Holds h0 h L) {n : Nat} (hn : n ≤ 2 ^ 40) :
    ∃ v h', makeP P h t_S_A2_int (.int .i64 n) (.int .i64 n) = some (v, h') ∧ Holds h0 h' (L ++ [.own v 2 ((List.replicate n ((0, 0) : Int × Int)).map encQ)]) ∧ h <+: h' ∧ (∃ oa, v = .slice oa n n) := by
  have mk := make_eq (h := h) u_S_A2_int e_t_A2_int z_t_A2_int rfl (by rw [s_t_A2_int]; omega) (by rw [b_t_A2_int]; omega) (n := n) (by omega) (by rw [b_t_A2_int]; omega)
  rw [s_t_A2_int] at mk
  simp only [Value.cells] at mk
  have hlz : ∀ e ∈ List.replicate n ([.int .i64 0, .int .i64 0] : List Value), e.length = 2 := fun e he => by rw [List.eq_of_mem_replicate he]; rfl
  refine ⟨_, _, mk, ?_, List.prefix_append .., _, rfl⟩
  have := H.lit (els := List.replicate n ([.int .i64 0, .int .i64 0] : List Value)) (sz := 2) (n := n * 2) hlz (by simp)
  simpa [encQ] using this
end Go.Pm.PP

/- Rule differences, ruled orders and inversions, by both. -/
set_option linter.unusedVariables false
set_option linter.unusedSimpArgs false
set_option maxRecDepth 4000
set_option maxHeartbeats 8000000
namespace Go.Pm.PP
open Go.Pm Go.Proofs Go.Pm.PE
def ruOk (js : List Job) (o : Int) : Bool := jOk js && (o == 1 || (inB o 2 4 && plainL js))
theorem ruOk_of {js : List Job} {o : Int} (h : ruOk js o = true) : js.length ≤ 8 ∧ goodL js = true ∧ (1 ≤ o ∧ o ≤ 4) ∧ (o = 1 ∨ plOk js = true) := by
  rw [ruOk, Bool.and_eq_true, Bool.or_eq_true, Bool.and_eq_true, beq_iff_eq] at h
  refine ⟨(jOk_of h.1).1, (jOk_of h.1).2, ?_, ?_⟩
  · rcases h.2 with g | g
    · omega
    · have := g.1; simp [inB] at this; omega
  · rcases h.2 with g | g
    · exact .inl g
    · right; rw [plOk, h.1, g.2]; rfl
theorem gap_bd {o : Int} {a b : Job} (ha : jobOk a = true) (hb : jobOk b = true) : -(2 ^ 12) ≤ gapJ o a b ∧ gapJ o a b ≤ 2 ^ 12 ∧ 0 ≤ a.t * b.w ∧ a.t * b.w ≤ 2500 ∧ 0 ≤ b.t * a.w ∧ b.t * a.w ≤ 2500 := by
  have h1 := job_of ha
  have h2 := job_of hb
  have m1 : 0 ≤ a.t * b.w := Int.mul_nonneg (by omega) (by omega)
  have m2 : 0 ≤ b.t * a.w := Int.mul_nonneg (by omega) (by omega)
  have m3 : a.t * b.w ≤ 50 * 50 := Int.mul_le_mul (by omega) (by omega) (by omega) (by omega)
  have m4 : b.t * a.w ≤ 50 * 50 := Int.mul_le_mul (by omega) (by omega) (by omega) (by omega)
  unfold gapJ
  refine ⟨?_, ?_, m1, by omega, m2, by omega⟩ <;> (split; omega; split; omega; split <;> omega)
theorem difference_run {h : Hp} {a b : Job} {o : Int} (ha : jobOk a = true) (hb : jobOk b = true) : Ret P G n_impl_difference [jv a, jv b, .int .i64 o] h (.int .i64 (gapJ o a b)) h := by
  refine enter_run e_impl_difference (by simp) ?_
  have h1 := job_of ha
  have h2 := job_of hb
  have hb' := gap_bd (o := o) ha hb
  have H := ((Holds.start (h := h)).alloc [.int .i64 a.t, .int .i64 a.w, .int .i64 a.r, .int .i64 a.d]).alloc [.int .i64 b.t, .int .i64 b.w, .int .i64 b.r, .int .i64 b.d]
  simp only [List.append_assoc, List.cons_append, List.nil_append, List.length_append, List.length_cons, List.length_nil, Nat.zero_add] at H
  have l1 := H.bl (P := P) 0 4 rfl rfl
  have l2 := H.bl (P := P) 1 4 rfl rfl
  have w1 : IntKind.i64.wrap (a.r - b.r) = a.r - b.r := by rw [wrap_ok] <;> omega
  have w2 : IntKind.i64.wrap (a.t - b.t) = a.t - b.t := by rw [wrap_ok] <;> omega
  have w3 : IntKind.i64.wrap (a.d - b.d) = a.d - b.d := by rw [wrap_ok] <;> omega
  have w4 : IntKind.i64.wrap (a.t * b.w) = a.t * b.w := by rw [wrap_ok] <;> omega
  have w5 : IntKind.i64.wrap (b.t * a.w) = b.t * a.w := by rw [wrap_ok] <;> omega
  have w6 : IntKind.i64.wrap (a.t * b.w - b.t * a.w) = a.t * b.w - b.t * a.w := by rw [wrap_ok] <;> omega
  have pp := List.prefix_append h [some (⟨[.int .i64 a.t, .int .i64 a.w, .int .i64 a.r, .int .i64 a.d], 0, false⟩ : Row), some ⟨[.int .i64 b.t, .int .i64 b.w, .int .i64 b.r, .int .i64 b.d], 0, false⟩]
  unfold gapJ
  by_cases c1 : o = 1
  · subst c1
    simp -implicitDefEqProofs [w1]
  · by_cases c2 : o = 2
    · subst c2
      simp -implicitDefEqProofs [w2]
    · by_cases c3 : o = 3
      · subst c3
        simp -implicitDefEqProofs [w4, w5, w6]
      · simp -implicitDefEqProofs [nb c1, nb c2, nb c3, c1, c2, c3, w3]
section
variable {h : Hp} {vj v : Value} {js : List Job} {xs : List Int} {o : Int}
theorem jobOk_jA (hg : goodL js = true) {x : Int} (hx : 0 ≤ x ∧ x < js.length) : jobOk (jA js x) = true := by
  obtain ⟨q, hq, hql, hqy⟩ := jA_get (js := js) rfl hx
  exact job_at hg hqy
theorem l3Gap_run {x y : Int} (J : Jobs h vj js) (hg : goodL js = true) (hx : 0 ≤ x ∧ x < js.length) (hy : 0 ≤ y ∧ y < js.length) : Ret P G n_spec_l3Gap [vj, .int .i64 o, .int .i64 x, .int .i64 y] h (.int .i64 (gapX o js x y)) h := by
  refine enter_run e_spec_l3Gap (by simp) ?_
  have Js := J
  obtain ⟨oj, cj, rfl⟩ := J.shapeT
  have ha := jobOk_jA hg hx
  have hb := jobOk_jA hg hy
  have lx := load_JX Js hx
  have ly := load_JX Js hy
  have e : gapX o js x y = gapJ o (jA js x) (jA js y) := rfl
  rw [e]
  generalize jA js x = a at *
  generalize jA js y = b at *
  have h1 := job_of ha
  have h2 := job_of hb
  have hb' := gap_bd (o := o) ha hb
  have w1 : IntKind.i64.wrap (a.r - b.r) = a.r - b.r := by rw [wrap_ok] <;> omega
  have w2 : IntKind.i64.wrap (a.t - b.t) = a.t - b.t := by rw [wrap_ok] <;> omega
  have w3 : IntKind.i64.wrap (a.d - b.d) = a.d - b.d := by rw [wrap_ok] <;> omega
  have w4 : IntKind.i64.wrap (a.t * b.w) = a.t * b.w := by rw [wrap_ok] <;> omega
  have w5 : IntKind.i64.wrap (b.t * a.w) = b.t * a.w := by rw [wrap_ok] <;> omega
  have w6 : IntKind.i64.wrap (a.t * b.w - b.t * a.w) = a.t * b.w - b.t * a.w := by rw [wrap_ok] <;> omega
  unfold gapJ
  by_cases c1 : o = 1
  · subst c1
    simp -implicitDefEqProofs [-indexAddrP_some, lx, ly, w1]
  · by_cases c2 : o = 2
    · subst c2
      simp -implicitDefEqProofs [-indexAddrP_some, lx, ly, w2]
    · by_cases c3 : o = 3
      · subst c3
        simp -implicitDefEqProofs [-indexAddrP_some, lx, ly, w4, w5, w6]
      · simp -implicitDefEqProofs [-indexAddrP_some, lx, ly, nb c1, nb c2, nb c3, c1, c2, c3, w3]
theorem l3Plain_run (hj : Jobs h v js) (hn : js.length ≤ 2 ^ 40) : Ret P G n_spec_l3Plain [v] h (.bool (plainL js)) h := by
  refine enter_run e_spec_l3Plain (by simp) ?_
  have hjs := hj
  obtain ⟨oa, c, rfl⟩ := hj.shapeT
  simp -implicitDefEqProofs
  refine R_loopO (fun m s h' => ∃ i : Nat, i + m = js.length ∧ s = [(0, .slice oa js.length c), (3, .int .i64 i)] ∧ h' = h ∧ plainL js = plainL (js.drop i)) (fun I hI m s h' => ?_) ⟨0, Nat.zero_add _, by simp⟩
  rintro ⟨i, hi, rfl, rfl, hx⟩
  by_cases hlt : i < js.length
  · obtain ⟨y, hy, hd⟩ := drop_at hlt
    have e : plainL (y :: js.drop (i + 1)) = ((y.r == 0) && plainL (js.drop (i + 1))) := rfl
    rw [hd, e] at hx
    have lr := load_J hjs hy
    by_cases c1 : y.r = 0
    · rw [show (y.r == 0) = true by simpa using c1, Bool.true_and] at hx
      simp -implicitDefEqProofs [-indexAddrP_some, hlt, lr, c1, winc hlt hn]
      exact ⟨m - 1, by omega, on hI ⟨i + 1, by omega, rfl, rfl, hx⟩⟩
    · rw [nb c1, Bool.false_and] at hx
      simp -implicitDefEqProofs [-indexAddrP_some, hlt, lr, nt c1, hx]
  · rw [List.drop_eq_nil_of_le (by omega)] at hx
    have hx : plainL js = true := hx
    simp -implicitDefEqProofs [hlt, hx]
theorem isRuled_run (hj : Jobs h v js) (hn : js.length ≤ 2 ^ 40) : Ret P G n_impl_isRuled [v, .int .i64 o] h (.bool (ruOk js o)) h := by
  refine enter_run e_impl_isRuled (by simp) ?_
  have r1 := isJobs_run hj hn
  have r2 := isPlain_run hj hn
  obtain ⟨oa, c, rfl⟩ := hj.shapeT
  cases c1 : jOk js
  · simp -implicitDefEqProofs [CL_ret r1, c1, ruOk]
  · by_cases c2 : o = 1
    · subst c2
      simp -implicitDefEqProofs [CL_ret r1, c1, ruOk]
    · cases c3 : inB o 2 4
      · simp -implicitDefEqProofs [CL_ret r1, c1, nb c2, CL_ret within_run, c3, ruOk]
      · simp -implicitDefEqProofs [CL_ret r1, c1, nb c2, CL_ret within_run, c3, CL_ret r2, ruOk]
theorem l3Ruled_run (hj : Jobs h v js) (hn : js.length ≤ 2 ^ 40) : Ret P G n_spec_l3Ruled [v, .int .i64 o] h (.bool (ruOk js o)) h := by
  refine enter_run e_spec_l3Ruled (by simp) ?_
  have r1 := good_run hj hn
  have r2 := l3Plain_run hj hn
  obtain ⟨oa, c, rfl⟩ := hj.shapeT
  cases c1 : jOk js
  · simp -implicitDefEqProofs [CL_ret r1, c1, ruOk]
  · by_cases c2 : o = 1
    · subst c2
      simp -implicitDefEqProofs [CL_ret r1, c1, ruOk, CL_ret l1In_run, inB]
    · cases c3 : inB o 1 4
      · have : inB o 2 4 = false := by
          simp only [inB, Bool.and_eq_false_iff, decide_eq_false_iff_not] at c3 ⊢; omega
        simp -implicitDefEqProofs [CL_ret r1, c1, nb c2, CL_ret l1In_run, c3, ruOk, this]
      · have : inB o 2 4 = true := by
          simp only [inB, Bool.and_eq_true, decide_eq_true_eq] at c3 ⊢; omega
        simp -implicitDefEqProofs [CL_ret r1, c1, nb c2, CL_ret l1In_run, c3, ruOk, this, CL_ret r2]
def ruAll (js : List Job) (xs : List Int) (o : Int) : Bool := ruOk js o && l2OrderL js.length xs
theorem isRuledAndOrdered_run (hj : Jobs h vj js) (hu : Ints h v xs) (hl : js.length ≤ 2 ^ 40) (hx : xs.length ≤ 2 ^ 40) : Ret P G n_impl_isRuledAndOrdered [vj, v, .int .i64 o] h (.bool (ruAll js xs o)) h := by
  refine enter_run e_impl_isRuledAndOrdered (by simp) ?_
  have r1 := isRuled_run (o := o) hj hl
  have r2 := isOrder_run (n := js.length) hu hx
  obtain ⟨oj, cj, rfl⟩ := hj.shapeT
  cases c1 : ruOk js o
  · simp -implicitDefEqProofs [CL_ret r1, c1, ruAll]
  · have hn := (ruOk_of c1).1
    have e : (((xs.length : Int) == (js.length : Nat)) && arGo js.length [] xs) = l2OrderL js.length xs := by
      rw [order_eq hn, l2OrderL, show inB js.length 0 8 = true by simp [inB]; omega, Bool.true_and]
    rw [e] at r2
    simp -implicitDefEqProofs [CL_ret r1, c1, CL_ret r2, ruAll]
theorem l3Both_run (hj : Jobs h vj js) (hu : Ints h v xs) (hl : js.length ≤ 2 ^ 40) (hx : xs.length ≤ 2 ^ 40) : Ret P G n_spec_l3Both [vj, v, .int .i64 o] h (.bool (ruAll js xs o)) h := by
  refine enter_run e_spec_l3Both (by simp) ?_
  have r1 := l3Ruled_run (o := o) hj hl
  have r2 := l2Order_run (n := js.length) hu hx
  obtain ⟨oj, cj, rfl⟩ := hj.shapeT
  cases c1 : ruOk js o
  · simp -implicitDefEqProofs [CL_ret r1, c1, ruAll]
  · simp -implicitDefEqProofs [CL_ret r1, c1, CL_ret r2, ruAll]
theorem ruAll_of {js : List Job} {xs : List Int} {o : Int} (h : ruAll js xs o = true) : ruOk js o = true ∧ Ord js.length xs := by
  rw [ruAll, Bool.and_eq_true] at h
  exact ⟨h.1, ord_of h.2⟩
end
end Go.Pm.PP

/- Inversions, losses, ruled orders, exchanges, by both. -/
set_option linter.unusedVariables false
set_option linter.unusedSimpArgs false
set_option maxRecDepth 4000
set_option maxHeartbeats 8000000
namespace Go.Pm.PP
open Go.Pm Go.Proofs Go.Pm.PE
abbrev Prs (h : Hp) (v : Value) (xs : List (Int × Int)) : Prop := Sees h v 2 (xs.map encQ)
theorem inv1_len {o : Int} {js : List Job} {x : Int} {r : List Int} : (invL1 o js x r).length ≤ r.length := by
  unfold invL1; rw [List.length_map]; exact List.length_filter_le ..
theorem inv_len {o : Int} {js : List Job} : ∀ {l : List Int}, (invL o js l).length ≤ l.length * l.length
  | [] => by simp [invL]
  | x :: r => by
    rw [invL, List.length_append, List.length_cons]
    have := @inv1_len o js x r
    have := inv_len (o := o) (js := js) (l := r)
    have e : (r.length + 1) * (r.length + 1) = r.length * r.length + r.length + r.length + 1 := by rw [Nat.add_mul, Nat.mul_add]; omega
    omega
theorem inv1_snoc {o : Int} {js : List Job} {x y : Int} {r : List Int} {k : Nat} (hy : r[k]? = some y) : invL1 o js x (r.take (k + 1)) = invL1 o js x (r.take k) ++ if 0 < gapX o js x y then [(x, y)] else [] := by
  unfold invL1
  rw [take_succ' hy, List.filter_append, List.map_append]
  congr 1
  rw [List.filter_cons]
  by_cases g : 0 < gapX o js x y <;> simp [g]
theorem inv_in {o : Int} {js : List Job} : ∀ {l : List Int} {p : Int × Int}, p ∈ invL o js l → p.1 ∈ l ∧ p.2 ∈ l
  | [], p, h => by cases h
  | x :: r, p, h => by
    rw [invL, List.mem_append] at h
    rcases h with h | h
    · unfold invL1 at h
      obtain ⟨y, hy, rfl⟩ := List.mem_map.1 h
      exact ⟨List.mem_cons_self .., List.mem_cons_of_mem _ (List.mem_filter.1 hy).1⟩
    · have := inv_in h
      exact ⟨List.mem_cons_of_mem _ this.1, List.mem_cons_of_mem _ this.2⟩
theorem sliceP_pre {h h' : Hp} {v : Value} {sz : Nat} {els : List (List Value)} (s : Sees h v sz els) (hp : h <+: h') {ty e : TypeId} (hu : P.underlying ty = some (.slice e)) {lo hi : Option Value} : sliceP P h' ty v lo hi = sliceP P h ty v lo hi := by
  obtain ⟨_, oa, c, rfl, h3⟩ := s
  rcases h3 with ⟨rfl, rfl, rfl⟩ | ⟨r, o, x, rfl, h5, _⟩
  · simp only [sliceP, hu, List.length_nil]
  · have h5' : h'[r]? = some (some x) := by
      obtain ⟨l, rfl⟩ := hp
      rw [List.getElem?_append_left (List.getElem?_eq_some_iff.1 h5).1]; exact h5
    have h5 : h[r]? = some (some x) := h5
    simp only [sliceP, hu, rowAt, h5, h5']
/-- What lies behind a place, cut later, is seen as before. -/
theorem back_pre {h h' : Hp} {v : Value} {xs : List Int} (s : Ints h v xs) (hp : h <+: h') {j : Nat} (hj : j ≤ xs.length) : ∃ v', sliceP P h' t_S_int v (some (.int .i64 (j : Int))) none = some v' ∧ Ints h v' (xs.drop j) := by
  obtain ⟨v6, s6, f6, _⟩ := s.back (P := P) u_S_int i_int (k := .i64) (j := (j : Int)) (by omega) (by simp; omega)
  rw [Int.toNat_natCast, ← List.map_drop] at f6
  exact ⟨v6, by rw [sliceP_pre s hp u_S_int]; exact s6, f6⟩
section
variable {h : Hp} {vj v : Value} {js : List Job} {xs : List Int} {o : Int}
theorem inversions_run (J : Jobs h vj js) (X : Ints h v xs) (hg : goodL js = true) (hn : js.length ≤ 8) (ox : Ord js.length xs) : RunsC P G n_impl_inversions [vj, v, .int .i64 o] h fun w h' => h <+: h' ∧ Own h.length h' w 2 ((invL o js xs).map encQ) := by
  refine hideC fun K hK => enter_run e_impl_inversions (by simp) ?_
  have Js := J
  have Xs := X
  obtain ⟨oj, cj, rfl⟩ := J.shapeT
  obtain ⟨ox', cx, rfl⟩ := X.shapeT
  have hxl := ox.len
  have H0 := own_nil (Holds.start (h := h)) (Int × Int) encQ 2
  have hil := @inv_len o js xs
  have h64 : xs.length * xs.length ≤ 8 * 8 := Nat.mul_le_mul (by omega) (by omega)
  simp -implicitDefEqProofs
  refine R_loopO (fun m s h' => ∃ (i : Nat) (u : Value) (us : List (Int × Int)), i + m = xs.length ∧ s = [(0, .slice oj js.length cj), (1, .slice ox' xs.length cx), (2, .int .i64 o), (7, u), (12, .slice ox' xs.length cx), (13, .int .i64 xs.length), (14, .int .i64 i)] ∧
    invL o js xs = us ++ invL o js (xs.drop i) ∧ Holds h h' [.own u 2 (us.map encQ)]) (fun I hI m s h' => ?_) (n := xs.length) ⟨0, _, [], Nat.zero_add _, by simp, rfl, H0⟩
  rintro ⟨i, u, us, hi, rfl, hx, H⟩
  by_cases hlt : i < xs.length
  · obtain ⟨x, hxi, hd⟩ := drop_at hlt
    have hxr := ox.inn x (List.mem_of_getElem? hxi)
    have lx := load_I (Xs.pre H.pre) hxi
    have w1 := winc hlt (show xs.length ≤ 2 ^ 40 by omega)
    obtain ⟨v6, s6, f6⟩ := back_pre Xs H.pre (j := i + 1) (by omega)
    rw [hd, invL] at hx
    have hsub : ∀ y, y ∈ xs.drop (i + 1) → y ∈ xs := fun y hy => List.mem_of_mem_drop hy
    have hrl : (xs.drop (i + 1)).length ≤ 8 := by simp; omega
    have htl := congrArg List.length hx
    simp only [List.length_append] at htl
    generalize hr : xs.drop (i + 1) = r at *
    obtain ⟨or, cr, rfl⟩ : ∃ a c, v6 = .slice a r.length c := by obtain ⟨a, c, e⟩ := f6.shapeT; exact ⟨a, c, e⟩
    have s6' : sliceP P h' t_S_int (.slice ox' xs.length cx) (some (.int .i64 ((i : Int) + 1))) none = some (.slice or r.length cr) := by simpa using s6
    simp -implicitDefEqProofs [-indexAddrP_some, hlt, lx, w1, s6']
    refine R_loopO (fun m2 s h2 => ∃ (k : Nat) (u2 : Value), k + m2 = r.length ∧ s = [(0, .slice oj js.length cj), (1, .slice ox' xs.length cx), (2, .int .i64 o), (7, u2), (9, .int .i64 x), (12, .slice ox' xs.length cx), (13, .int .i64 xs.length), (14, .int .i64 i), (22, .slice or r.length cr), (23, .int .i64 r.length), (24, .int .i64 k)] ∧
      Holds h h2 [.own u2 2 ((us ++ invL1 o js x (r.take k)).map encQ)]) (fun I2 hI2 m2 s h2 => ?_) (n := r.length) ⟨0, u, Nat.zero_add _, by simp, by simpa [invL1] using H⟩
    rintro ⟨k, u2, hk, rfl, H2⟩
    have R2 : Ints h2 (.slice or r.length cr) r := f6.pre H2.pre
    by_cases hkl : k < r.length
    · obtain ⟨y, hy, _⟩ := drop_at hkl
      have hyr := ox.inn y (hsub y (List.mem_of_getElem? hy))
      have ly := load_I R2 hy
      have jx := load_JX (Js.pre H2.pre) hxr
      have jy := load_JX (Js.pre H2.pre) hyr
      have rd := fun {hh : Hp} => difference_run (h := hh) (o := o) (jobOk_jA hg hyr) (jobOk_jA hg hxr)
      have eg : gapJ o (jA js y) (jA js x) = - gapX o js x y := gapJ_swap
      rw [eg] at rd
      have sn := inv1_snoc (o := o) (js := js) (x := x) hy
      have l1 := @inv1_len o js x (r.take k)
      have l2 : (r.take k).length ≤ 8 := by rw [List.length_take]; omega
      by_cases g : 0 < gapX o js x y
      · rw [if_pos g] at sn
        obtain ⟨v3, h3, a3, H3, k3, _⟩ := push_Q0 H2 0 rfl (x, y) (by rw [List.length_append]; omega)
        have g' : - gapX o js x y < 0 := by omega
        simp -implicitDefEqProofs [-indexAddrP_some, hkl, ly, jx, jy, CL_ret rd, CH_at rd, g, g', a3, winc hkl (by omega)]
        exact ⟨m2 - 1, by omega, on hI2 ⟨k + 1, v3, by omega, rfl, by rw [sn, ← List.append_assoc]; exact H3⟩⟩
      · rw [if_neg g, List.append_nil] at sn
        have g' : ¬ - gapX o js x y < 0 := by omega
        simp -implicitDefEqProofs [-indexAddrP_some, hkl, ly, jx, jy, CL_ret rd, CH_at rd, g, g', winc hkl (by omega)]
        exact ⟨m2 - 1, by omega, on hI2 ⟨k + 1, u2, by omega, rfl, by rw [sn]; exact H2⟩⟩
    · rw [List.take_of_length_le (by omega)] at H2
      simp -implicitDefEqProofs [hkl, w1]
      exact ⟨m - 1, by omega, on hI ⟨i + 1, u2, us ++ invL1 o js x r, by omega, rfl, by rw [hx, hr, List.append_assoc], H2⟩⟩
  · rw [List.drop_eq_nil_of_le (by omega), invL, List.append_nil] at hx
    rw [hx] at hK
    simp -implicitDefEqProofs [hlt]
    exact onK hK (H.ret 0 rfl)
theorem l3Inversions_run (J : Jobs h vj js) (X : Ints h v xs) (hg : goodL js = true) (hn : js.length ≤ 8) (ox : Ord js.length xs) : RunsC P G n_spec_l3Inversions [vj, v, .int .i64 o] h fun w h' => h <+: h' ∧ Own h.length h' w 2 ((invL o js xs).map encQ) := by
  refine hideC fun K hK => enter_run e_spec_l3Inversions (by simp) ?_
  have Js := J
  have Xs := X
  obtain ⟨oj, cj, rfl⟩ := J.shapeT
  obtain ⟨ox', cx, rfl⟩ := X.shapeT
  have hxl := ox.len
  have H0 := own_nil (Holds.start (h := h)) (Int × Int) encQ 2
  have hil := @inv_len o js xs
  have h64 : xs.length * xs.length ≤ 8 * 8 := Nat.mul_le_mul (by omega) (by omega)
  simp -implicitDefEqProofs
  refine R_loopO (fun m s h' => ∃ (i : Nat) (u : Value) (us : List (Int × Int)), i + m = xs.length ∧ s = [(0, .slice oj js.length cj), (1, .slice ox' xs.length cx), (2, .int .i64 o), (7, u), (8, .int .i64 i)] ∧
    invL o js xs = us ++ invL o js (xs.drop i) ∧ Holds h h' [.own u 2 (us.map encQ)]) (fun I hI m s h' => ?_) (n := xs.length) ⟨0, _, [], Nat.zero_add _, by simp, rfl, H0⟩
  rintro ⟨i, u, us, hi, rfl, hx, H⟩
  by_cases hlt : i < xs.length
  · obtain ⟨x, hxi, hd⟩ := drop_at hlt
    have hxr := ox.inn x (List.mem_of_getElem? hxi)
    have w1 := winc hlt (show xs.length ≤ 2 ^ 40 by omega)
    rw [hd, invL] at hx
    have hrl : (xs.drop (i + 1)).length = xs.length - (i + 1) := by simp
    have hry : ∀ k, (xs.drop (i + 1))[k]? = xs[i + 1 + k]? := fun k => List.getElem?_drop
    have htl := congrArg List.length hx
    simp only [List.length_append] at htl
    generalize hr : xs.drop (i + 1) = r at *
    simp -implicitDefEqProofs [hlt, w1]
    refine R_loopO (fun m2 s h2 => ∃ (k q : Nat) (u2 : Value), k + m2 = r.length ∧ q = i + 1 + k ∧ s = [(0, .slice oj js.length cj), (1, .slice ox' xs.length cx), (2, .int .i64 o), (7, u2), (8, .int .i64 i), (9, .int .i64 q)] ∧
      Holds h h2 [.own u2 2 ((us ++ invL1 o js x (r.take k)).map encQ)]) (fun I2 hI2 m2 s h2 => ?_) (n := r.length) ⟨0, i + 1, u, Nat.zero_add _, by omega, by simp, by simpa [invL1] using H⟩
    rintro ⟨k, q, u2, hk, hq, rfl, H2⟩
    have lx := load_I (Xs.pre H2.pre) hxi
    by_cases hkl : k < r.length
    · have hql : q < xs.length := by omega
      obtain ⟨y, hy, _⟩ := drop_at hkl
      have hyq : xs[q]? = some y := by rw [hq, ← hry, hy]
      have hyr := ox.inn y (List.mem_of_getElem? hyq)
      have ly := load_I (Xs.pre H2.pre) hyq
      have rd := l3Gap_run (o := o) (Js.pre H2.pre) hg hxr hyr
      have sn := inv1_snoc (o := o) (js := js) (x := x) hy
      have l1 := @inv1_len o js x (r.take k)
      have l2 : (r.take k).length ≤ 8 := by rw [List.length_take]; omega
      by_cases g : 0 < gapX o js x y
      · rw [if_pos g] at sn
        obtain ⟨v3, h3, a3, H3, k3, _⟩ := push_Q0 H2 0 rfl (x, y) (by rw [List.length_append]; omega)
        simp -implicitDefEqProofs [-indexAddrP_some, hql, lx, ly, CL_ret rd, CH_at rd, g, a3, winc hql (by omega)]
        exact ⟨m2 - 1, by omega, on hI2 ⟨k + 1, q + 1, v3, by omega, by omega, rfl, by rw [sn, ← List.append_assoc]; exact H3⟩⟩
      · rw [if_neg g, List.append_nil] at sn
        simp -implicitDefEqProofs [-indexAddrP_some, hql, lx, ly, CL_ret rd, CH_at rd, g, winc hql (by omega)]
        exact ⟨m2 - 1, by omega, on hI2 ⟨k + 1, q + 1, u2, by omega, by omega, rfl, by rw [sn]; exact H2⟩⟩
    · have hql : ¬ q < xs.length := by omega
      rw [List.take_of_length_le (by omega)] at H2
      simp -implicitDefEqProofs [hql, w1]
      exact ⟨m - 1, by omega, on hI ⟨i + 1, u2, us ++ invL1 o js x r, by omega, rfl, by rw [hx, hr, List.append_assoc], H2⟩⟩
  · rw [List.drop_eq_nil_of_le (by omega), invL, List.append_nil] at hx
    rw [hx] at hK
    simp -implicitDefEqProofs [hlt]
    exact onK hK (H.ret 0 rfl)
def invF (js : List Job) (xs : List Int) (o : Int) : List (Int × Int) := if ruAll js xs o = true then invL o js xs else []
theorem implInversionsOf_run (J : Jobs h vj js) (X : Ints h v xs) (hl : js.length ≤ 2 ^ 40) (hx : xs.length ≤ 2 ^ 40) : RunsC P G n_impl_InversionsOf [vj, v, .int .i64 o] h fun w h' => h <+: h' ∧ ∃ d, w = .tuple #[d, .bool (ruAll js xs o)] ∧ Prs h' d (invF js xs o) := by
  refine hideC fun K hK => enter_run e_impl_InversionsOf (by simp) ?_
  have r1 := isRuledAndOrdered_run (o := o) J X hl hx
  have Js := J
  have Xs := X
  obtain ⟨oj, cj, rfl⟩ := J.shapeT
  obtain ⟨ox', cx, rfl⟩ := X.shapeT
  cases c1 : ruAll js xs o
  · rw [invF, c1] at hK
    simp -implicitDefEqProofs [CL_ret r1, c1]
    exact onK hK ⟨List.prefix_rfl, _, rfl, ⟨by simp, none, 0, rfl, .inl ⟨rfl, rfl, rfl⟩⟩⟩
  · obtain ⟨g1, ox⟩ := ruAll_of c1
    obtain ⟨hn, hg, _⟩ := ruOk_of g1
    rw [invF, c1, if_pos rfl] at hK
    simp -implicitDefEqProofs [CL_ret r1, c1]
    refine CL_post (inversions_run (o := o) Js Xs hg hn ox) fun v1 h1 ⟨hp1, ho1⟩ => ?_
    simp -implicitDefEqProofs
    exact onK hK ⟨pre_gcU hp1, _, rfl, Sees.gcU ho1.sees fun g => plainT (r := [_]) g⟩
theorem specInversionsOf_run (J : Jobs h vj js) (X : Ints h v xs) (hl : js.length ≤ 2 ^ 40) (hx : xs.length ≤ 2 ^ 40) : RunsC P G n_spec_InversionsOf [vj, v, .int .i64 o] h fun w h' => h <+: h' ∧ ∃ d, w = .tuple #[d, .bool (ruAll js xs o)] ∧ Prs h' d (invF js xs o) := by
  refine hideC fun K hK => enter_run e_spec_InversionsOf (by simp) ?_
  have r1 := l3Both_run (o := o) J X hl hx
  have Js := J
  have Xs := X
  obtain ⟨oj, cj, rfl⟩ := J.shapeT
  obtain ⟨ox', cx, rfl⟩ := X.shapeT
  cases c1 : ruAll js xs o
  · rw [invF, c1] at hK
    simp -implicitDefEqProofs [CL_ret r1, c1]
    exact onK hK ⟨List.prefix_rfl, _, rfl, ⟨by simp, none, 0, rfl, .inl ⟨rfl, rfl, rfl⟩⟩⟩
  · obtain ⟨g1, ox⟩ := ruAll_of c1
    obtain ⟨hn, hg, _⟩ := ruOk_of g1
    rw [invF, c1, if_pos rfl] at hK
    simp -implicitDefEqProofs [CL_ret r1, c1]
    refine CL_post (l3Inversions_run (o := o) Js Xs hg hn ox) fun v1 h1 ⟨hp1, ho1⟩ => ?_
    simp -implicitDefEqProofs
    exact onK hK ⟨pre_gcU hp1, _, rfl, Sees.gcU ho1.sees fun g => plainT (r := [_]) g⟩
/-! ### losses -/
def lossG (js : List Job) (ps : List (Int × Int)) : Int := (ps.map fun p => gapX 3 js p.1 p.2).sum
theorem loss_take {js : List Job} {ps : List (Int × Int)} {i : Nat} {p : Int × Int} (hy : ps[i]? = some p) : lossG js (ps.take (i + 1)) = lossG js (ps.take i) + gapX 3 js p.1 p.2 := by
  unfold lossG; rw [take_succ' hy, List.map_append, List.sum_append]; simp
theorem loss_bd {js : List Job} (hg : goodL js = true) : ∀ {ps : List (Int × Int)}, (∀ p, p ∈ ps → (0 ≤ p.1 ∧ p.1 < js.length) ∧ 0 ≤ p.2 ∧ p.2 < js.length) → -(ps.length * 2 ^ 12) ≤ lossG js ps ∧ lossG js ps ≤ ps.length * 2 ^ 12
  | [], _ => by simp [lossG]
  | p :: ps, hp => by
    have ih := loss_bd hg (ps := ps) fun q hq => hp q (List.mem_cons_of_mem _ hq)
    have h1 := hp p (List.mem_cons_self ..)
    have hb := gap_bd (o := 3) (jobOk_jA hg h1.1) (jobOk_jA hg h1.2)
    have e : lossG js (p :: ps) = gapX 3 js p.1 p.2 + lossG js ps := rfl
    have e2 : gapX 3 js p.1 p.2 = gapJ 3 (jA js p.1) (jA js p.2) := rfl
    rw [e, e2, List.length_cons]; omega
def plV (js : List Job) (xs : List Int) : Int := if ruAll js xs 3 = true then lossG js (invL 3 js xs) else 0
theorem implPairLoss_run (J : Jobs h vj js) (X : Ints h v xs) (hl : js.length ≤ 2 ^ 40) (hx : xs.length ≤ 2 ^ 40) : Ret P G n_impl_PairLoss [vj, v] h (.tuple #[.int .i64 (plV js xs), .bool (ruAll js xs 3)]) h := by
  refine enter_run e_impl_PairLoss (by simp) ?_
  have r1 := isRuledAndOrdered_run (o := 3) J X hl hx
  have Js := J
  have Xs := X
  obtain ⟨oj, cj, rfl⟩ := J.shapeT
  obtain ⟨ox', cx, rfl⟩ := X.shapeT
  cases c1 : ruAll js xs 3
  · simp -implicitDefEqProofs [CL_ret r1, c1, plV]
  · obtain ⟨g1, ox⟩ := ruAll_of c1
    obtain ⟨hn, hg, _⟩ := ruOk_of g1
    have hxl := ox.len
    rw [plV, c1, if_pos rfl]
    simp -implicitDefEqProofs [CL_ret r1, c1]
    refine CL_post (inversions_run (o := 3) Js Xs hg hn ox) fun v1 h1 ⟨hp1, ho1⟩ => ?_
    have hin : ∀ p, p ∈ invL 3 js xs → (0 ≤ p.1 ∧ p.1 < js.length) ∧ 0 ≤ p.2 ∧ p.2 < js.length := fun p hp => ⟨ox.inn _ (inv_in hp).1, ox.inn _ (inv_in hp).2⟩
    have hil := @inv_len 3 js xs
    have h64 : xs.length * xs.length ≤ 8 * 8 := Nat.mul_le_mul (by omega) (by omega)
    have S1 : Prs h1 v1 (invL 3 js xs) := ho1.sees
    generalize invL 3 js xs = ps at *
    obtain ⟨op, cp, rfl⟩ : ∃ a c, v1 = .slice a ps.length c := S1.shapeT
    simp -implicitDefEqProofs
    refine R_loopO (fun m s h' => ∃ (i : Nat), i + m = ps.length ∧ s = [(0, .slice oj js.length cj), (6, .int .i64 (lossG js (ps.take i))), (15, .slice op ps.length cp), (16, .int .i64 ps.length), (17, .int .i64 i)] ∧ h1 <+: h') (fun I hI m s h' => ?_) (n := ps.length)
      ⟨0, Nat.zero_add _, by simp [lossG], List.prefix_rfl⟩
    rintro ⟨i, hi, rfl, hp⟩
    by_cases hlt : i < ps.length
    · obtain ⟨p, hpi, _⟩ := drop_at hlt
      have hpr := hin p (List.mem_of_getElem? hpi)
      have lp := load_Q (S1.pre hp) hpi
      have pp := List.prefix_append h' [some (⟨[.int .i64 p.1, .int .i64 p.2], 0, false⟩ : Row)]
      have jx := load_JX (Js.pre (hp1.trans (hp.trans pp))) hpr.1
      have jy := load_JX (Js.pre (hp1.trans (hp.trans pp))) hpr.2
      have rd := fun {hh : Hp} => difference_run (h := hh) (o := 3) (jobOk_jA hg hpr.1) (jobOk_jA hg hpr.2)
      have eg : gapJ 3 (jA js p.1) (jA js p.2) = gapX 3 js p.1 p.2 := rfl
      have gb := gap_bd (o := 3) (jobOk_jA hg hpr.1) (jobOk_jA hg hpr.2)
      rw [eg] at rd gb
      have lb := loss_bd hg (ps := ps.take i) fun q hq => hin q (List.mem_of_mem_take hq)
      have l2 : (ps.take i).length ≤ 64 := by rw [List.length_take]; omega
      have w1 : IntKind.i64.wrap (lossG js (ps.take i) + gapX 3 js p.1 p.2) = lossG js (ps.take (i + 1)) := by rw [loss_take hpi, wrap_ok] <;> omega
      have ia0 : indexAddrP P (h' ++ [some ⟨[.int .i64 p.1, .int .i64 p.2], 0, false⟩]) t_A2_int (.pointer (some ⟨h'.length, 0, some 2⟩)) (.int .i64 0) = some (.pointer (some (addP ⟨h'.length, 0, some 2⟩ 0))) := ix_arr u_A2_int e_t_int rfl (j := 0) (by omega)
      have ia1 : indexAddrP P (h' ++ [some ⟨[.int .i64 p.1, .int .i64 p.2], 0, false⟩]) t_A2_int (.pointer (some ⟨h'.length, 0, some 2⟩)) (.int .i64 1) = some (.pointer (some (addP ⟨h'.length, 0, some 2⟩ 1))) := ix_arr u_A2_int e_t_int rfl (j := 1) (by omega)
      simp -implicitDefEqProofs [-indexAddrP_some, hlt, lp, ia0, ia1, jx, jy, CL_ret rd, CH_at rd, w1, winc hlt (by omega)]
      exact ⟨m - 1, by omega, on hI ⟨i + 1, by omega, rfl, hp.trans (List.prefix_append ..)⟩⟩
    · rw [List.take_of_length_le (by omega)]
      simp -implicitDefEqProofs [hlt]
      exact gcP (hp1.trans hp) rfl
theorem specPairLoss_run (J : Jobs h vj js) (X : Ints h v xs) (hl : js.length ≤ 2 ^ 40) (hx : xs.length ≤ 2 ^ 40) : Ret P G n_spec_PairLoss [vj, v] h (.tuple #[.int .i64 (plV js xs), .bool (ruAll js xs 3)]) h := by
  refine enter_run e_spec_PairLoss (by simp) ?_
  have r1 := l3Both_run (o := 3) J X hl hx
  have Js := J
  have Xs := X
  obtain ⟨oj, cj, rfl⟩ := J.shapeT
  obtain ⟨ox', cx, rfl⟩ := X.shapeT
  cases c1 : ruAll js xs 3
  · simp -implicitDefEqProofs [CL_ret r1, c1, plV]
  · obtain ⟨g1, ox⟩ := ruAll_of c1
    obtain ⟨hn, hg, _⟩ := ruOk_of g1
    have hxl := ox.len
    rw [plV, c1, if_pos rfl]
    simp -implicitDefEqProofs [CL_ret r1, c1]
    refine CL_post (l3Inversions_run (o := 3) Js Xs hg hn ox) fun v1 h1 ⟨hp1, ho1⟩ => ?_
    have hin : ∀ p, p ∈ invL 3 js xs → (0 ≤ p.1 ∧ p.1 < js.length) ∧ 0 ≤ p.2 ∧ p.2 < js.length := fun p hp => ⟨ox.inn _ (inv_in hp).1, ox.inn _ (inv_in hp).2⟩
    have hil := @inv_len 3 js xs
    have h64 : xs.length * xs.length ≤ 8 * 8 := Nat.mul_le_mul (by omega) (by omega)
    have S1 : Prs h1 v1 (invL 3 js xs) := ho1.sees
    generalize invL 3 js xs = ps at *
    obtain ⟨op, cp, rfl⟩ : ∃ a c, v1 = .slice a ps.length c := S1.shapeT
    simp -implicitDefEqProofs
    refine R_loopO (fun m s h' => ∃ (i : Nat), i + m = ps.length ∧ s = [(0, .slice oj js.length cj), (6, .int .i64 (lossG js (ps.take i))), (7, .slice op ps.length cp), (8, .int .i64 i)] ∧ h' = h1) (fun I hI m s h' => ?_) (n := ps.length)
      ⟨0, Nat.zero_add _, by simp [lossG], rfl⟩
    rintro ⟨i, hi, rfl, rfl⟩
    by_cases hlt : i < ps.length
    · obtain ⟨p, hpi, _⟩ := drop_at hlt
      have hpr := hin p (List.mem_of_getElem? hpi)
      have lp := load_Q S1 hpi
      have rd := l3Gap_run (o := 3) (Js.pre hp1) hg hpr.1 hpr.2
      have gb := gap_bd (o := 3) (jobOk_jA hg hpr.1) (jobOk_jA hg hpr.2)
      have eg : gapJ 3 (jA js p.1) (jA js p.2) = gapX 3 js p.1 p.2 := rfl
      rw [eg] at gb
      have lb := loss_bd hg (ps := ps.take i) fun q hq => hin q (List.mem_of_mem_take hq)
      have l2 : (ps.take i).length ≤ 64 := by rw [List.length_take]; omega
      have w1 : IntKind.i64.wrap (lossG js (ps.take i) + gapX 3 js p.1 p.2) = lossG js (ps.take (i + 1)) := by rw [loss_take hpi, wrap_ok] <;> omega
      have ia0 : indexAddrP P h' t_A2_int (.pointer (some (addP (base (.slice op ps.length cp)) (i * 2)))) (.int .i64 0) = some (.pointer (some (addP (addP (base (.slice op ps.length cp)) (i * 2)) 0))) := ix_arr u_A2_int e_t_int rfl (j := 0) (by omega)
      have ia1 : indexAddrP P h' t_A2_int (.pointer (some (addP (base (.slice op ps.length cp)) (i * 2)))) (.int .i64 1) = some (.pointer (some (addP (addP (base (.slice op ps.length cp)) (i * 2)) 1))) := ix_arr u_A2_int e_t_int rfl (j := 1) (by omega)
      simp -implicitDefEqProofs [-indexAddrP_some, hlt, lp, ia0, ia1, CL_ret rd, CH_at rd, w1, winc hlt (by omega)]
      exact ⟨m - 1, by omega, on hI ⟨i + 1, by omega, rfl, rfl⟩⟩
    · rw [List.take_of_length_le (by omega)]
      simp -implicitDefEqProofs [hlt]
      exact gcP hp1 rfl
end
end Go.Pm.PP

/- Whether an order is ruled, exchanges, codes that are cut, pairs that are the same. -/
set_option linter.unusedVariables false
set_option linter.unusedSimpArgs false
set_option maxRecDepth 4000
set_option maxHeartbeats 8000000
namespace Go.Pm.PP
open Go.Pm Go.Proofs Go.Pm.PE
section
variable {h : Hp} {vj v u : Value} {js : List Job} {xs : List Int} {o : Int}
theorem ruled_drop {o : Int} {js : List Job} {l : List Int} {k : Nat} {x y : Int} (hx : l[k]? = some x) (hy : l[k + 1]? = some y) : ruledB o js (l.drop k) = (decide (gapX o js x y ≤ 0) && ruledB o js (l.drop (k + 1))) := by
  obtain ⟨x', hx', hd⟩ := drop_at (List.getElem?_eq_some_iff.1 hx).1
  obtain ⟨y', hy', hd'⟩ := drop_at (List.getElem?_eq_some_iff.1 hy).1
  rw [hx] at hx'; cases hx'
  rw [hy] at hy'; cases hy'
  rw [hd, hd', ruledB]
theorem implIsRuledOrder_run (J : Jobs h vj js) (X : Ints h v xs) (hl : js.length ≤ 2 ^ 40) (hx : xs.length ≤ 2 ^ 40) : Ret P G n_impl_IsRuledOrder [vj, v, .int .i64 o] h (.tuple #[.bool (ruAll js xs o && ruledB o js xs), .bool (ruAll js xs o)]) h := by
  refine enter_run e_impl_IsRuledOrder (by simp) ?_
  have r1 := isRuledAndOrdered_run (o := o) J X hl hx
  have Js := J
  have Xs := X
  obtain ⟨oj, cj, rfl⟩ := J.shapeT
  obtain ⟨ox', cx, rfl⟩ := X.shapeT
  cases c1 : ruAll js xs o
  · simp -implicitDefEqProofs [CL_ret r1, c1]
  · obtain ⟨g1, ox⟩ := ruAll_of c1
    obtain ⟨hn, hg, _⟩ := ruOk_of g1
    have hxl := ox.len
    simp -implicitDefEqProofs [CL_ret r1, c1]
    refine R_loopO (fun m s h' => ∃ (k : Nat), (k + 1 + m = xs.length ∨ (xs.length ≤ k + 1 ∧ m = 0)) ∧ s = [(0, .slice oj js.length cj), (1, .slice ox' xs.length cx), (2, .int .i64 o), (8, .int .i64 ((k : Int) + 1))] ∧ h' = h ∧ ruledB o js xs = ruledB o js (xs.drop k)) (fun I hI m s h' => ?_) (n := xs.length - 1)
      ⟨0, by omega, by simp, rfl, by simp⟩
    rintro ⟨k, hk, rfl, rfl, hr⟩
    by_cases hlt : k + 1 < xs.length
    · have hlt' : (k : Int) + 1 < xs.length := by omega
      obtain ⟨x, hx1, _⟩ := drop_at (show k < xs.length by omega)
      obtain ⟨y, hy1, _⟩ := drop_at hlt
      rw [ruled_drop hx1 hy1] at hr
      have hxr := ox.inn x (List.mem_of_getElem? hx1)
      have hyr := ox.inn y (List.mem_of_getElem? hy1)
      have lx := load_I Xs hx1
      have ly := load_I Xs hy1
      rw [show ((k + 1 : Nat) : Int) = (k : Int) + 1 by omega] at ly
      have jx := load_JX Js hxr
      have jy := load_JX Js hyr
      have rd := fun {hh : Hp} => difference_run (h := hh) (o := o) (jobOk_jA hg hyr) (jobOk_jA hg hxr)
      have eg : gapJ o (jA js y) (jA js x) = - gapX o js x y := gapJ_swap
      rw [eg] at rd
      have w1 : IntKind.i64.wrap (k : Int) = (k : Int) := by rw [wrap_ok] <;> omega
      have w2 : IntKind.i64.wrap ((k : Int) + 1 + 1) = ((k + 1 : Nat) : Int) + 1 := by rw [wrap_ok] <;> omega
      by_cases g : gapX o js x y ≤ 0
      · have g' : ¬ - gapX o js x y < 0 := by omega
        have g'' : ¬ 0 < gapX o js x y := by omega
        rw [decide_eq_true g, Bool.true_and] at hr
        simp -implicitDefEqProofs [-indexAddrP_some, hlt', lx, ly, jx, jy, w1, CL_ret rd, CH_at rd, g', g'', w2]
        exact ⟨m - 1, by omega, on hI ⟨k + 1, by omega, by simp, rfl, hr⟩⟩
      · have g' : - gapX o js x y < 0 := by omega
        have g'' : 0 < gapX o js x y := by omega
        rw [decide_eq_false g, Bool.false_and] at hr
        simp -implicitDefEqProofs [-indexAddrP_some, hlt', lx, ly, jx, jy, w1, CL_ret rd, CH_at rd, g', g'', hr]
    · have hlt' : ¬ (k : Int) + 1 < xs.length := by omega
      have : ruledB o js (xs.drop k) = true := by
        have : (xs.drop k).length ≤ 1 := by simp; omega
        match hq : xs.drop k, this with
        | [], _ => rfl
        | [a], _ => rfl
      rw [this] at hr
      simp -implicitDefEqProofs [hlt', hr]
theorem implRuleDifference_run {x y : Int} (J : Jobs h vj js) (hl : js.length ≤ 2 ^ 40) (hok : ruOk js o = true) (hx : 0 ≤ x ∧ x < js.length) (hy : 0 ≤ y ∧ y < js.length) : Ret P G n_impl_RuleDifference [vj, .int .i64 o, .int .i64 x, .int .i64 y] h (.tuple #[.int .i64 (gapX o js x y), .bool true]) h := by
  refine enter_run e_impl_RuleDifference (by simp) ?_
  have r1 := isRuled_run (o := o) J hl
  rw [hok] at r1
  have Js := J
  obtain ⟨hn, hg, _⟩ := ruOk_of hok
  obtain ⟨oj, cj, rfl⟩ := J.shapeT
  have wn : w64 ((js.length : Int) - 1) = (js.length : Int) - 1 := by unfold w64; rw [wrap_ok] <;> omega
  have i1 : inB x 0 (w64 ((js.length : Int) - 1)) = true := by rw [wn]; simp [inB]; omega
  have i2 : inB y 0 (w64 ((js.length : Int) - 1)) = true := by rw [wn]; simp [inB]; omega
  have jx := load_JX Js hx
  have jy := load_JX Js hy
  have rd := fun {hh : Hp} => difference_run (h := hh) (o := o) (jobOk_jA hg hx) (jobOk_jA hg hy)
  have eg : gapJ o (jA js x) (jA js y) = gapX o js x y := rfl
  rw [eg] at rd
  simp -implicitDefEqProofs [-indexAddrP_some, CL_ret r1, CL_ret isNumber_run, i1, i2, jx, jy, CL_ret rd, CH_at rd]
theorem implExchangeGain_run {i : Nat} (J : Jobs h vj js) (X : Ints h v xs) (hl : js.length ≤ 2 ^ 40) (hx : xs.length ≤ 2 ^ 40) (hok : okV js xs o = true) (hi : i + 1 < xs.length) : Ret P G n_impl_ExchangeGain [vj, v, .int .i64 i, .int .i64 o] h (.tuple #[.int .i64 (gn (valX o js) xs i), .bool true]) h := by
  refine enter_run e_impl_ExchangeGain (by simp) ?_
  have r1 := isValued_run (o := o) J X hl hx
  rw [hok] at r1
  have Js := J
  have Xs := X
  obtain ⟨hn, hg, ox, ho⟩ := okV_of hok
  obtain ⟨oj, cj, rfl⟩ := J.shapeT
  obtain ⟨ox', cx, rfl⟩ := X.shapeT
  have w1 : IntKind.i64.wrap ((xs.length : Int) - 2) = (xs.length : Int) - 2 := by rw [wrap_ok] <;> omega
  have i1 : inB (i : Int) 0 ((xs.length : Int) - 2) = true := by simp [inB]; omega
  have rg := gain_run (o := o) Js Xs hg hn ho ox hi
  simp -implicitDefEqProofs [CL_ret r1, w1, CL_ret within_run, i1, CL_ret rg]
theorem vBig_run {bs : List Int} (hb : Sees h v 1 (bs.map encU)) : Ret P G n_laws_vBig [v] h (.bool (decide ((65536 : Int) < bs.length))) h := by
  refine enter_run e_laws_vBig (by simp) ?_
  obtain ⟨oa, c, rfl⟩ := hb.shapeT
  simp -implicitDefEqProofs
theorem vCut_run {n : Nat} {bs : List Int} (hb : Sees h v 1 (bs.map encU)) (hr : ∀ b, b ∈ bs → 0 ≤ b ∧ b ≤ 255) (hl : bs.length ≤ 65536) (hn : n ≤ 200) : RunsC P G n_laws_vCut [v, .int .i64 n] h fun w h' => h <+: h' ∧ By h' w := by
  refine hideC fun K hK => enter_run e_laws_vCut (by simp) ?_
  have Bs := hb
  obtain ⟨oa, c, rfl⟩ := hb.shapeT
  have cvU : ∀ {x : Int}, convP P t_int t_u8 (.int .i64 x) = some (.int .u8 (IntKind.u8.wrap x)) := by intro x; unfold convP; rw [u_int, u_u8]
  have wr : ∀ k : Nat, k ≤ 200 → IntKind.u8.wrap (k : Int) = (k : Int) := fun k hk => by
    unfold IntKind.wrap; simp [IntKind.signed, IntKind.bits]; omega
  have H0 := own_nil (Holds.start (h := h)) Int encU 1
  have fin : ∀ k : Nat, k ≤ n → k ≤ bs.length → ∃ v3 v4 h4 v5 h5, sliceP P h t_S_u8 (.slice oa bs.length c) (some (.int .i64 (k : Int))) none = some v3 ∧ appendP P h t_S_u8 (.slice none 0 0) v3 = some (v4, h4) ∧ appendP P (h4 ++ [some ⟨[.int .u8 (k : Int)], 1, false⟩]) t_S_u8 v4 (.slice (some ⟨h4.length, 0, some 1⟩) 1 1) = some (v5, h5) ∧ K v5 (gc h h5 v5) := fun k hk hkl => by
    obtain ⟨v3, s3, f3, _⟩ := Bs.back (P := P) u_S_u8 i_u8 (k := .i64) (j := (k : Int)) (by omega) (by simp; omega)
    rw [Int.toNat_natCast, ← List.map_drop] at f3
    obtain ⟨v4, h4, a4, H4, _⟩ := app_U H0 0 rfl f3 (by simp; omega)
    have H4 : Holds h h4 [.own v4 1 ((bs.drop k).map encU)] := H4
    obtain ⟨v5, h5, a5, H5, _⟩ := push_U0 H4 0 rfl (k : Int) (by simp; omega)
    refine ⟨v3, v4, h4, v5, h5, s3, a4, a5, onK hK ⟨(H5.ret 0 rfl).1, ⟨bs.drop k ++ [(k : Int)], (H5.ret 0 rfl).2.sees, fun b hb => ?_, by simp; omega⟩⟩⟩
    rcases List.mem_append.1 hb with g | g
    · exact hr b (List.mem_of_mem_drop g)
    · rw [List.mem_singleton.1 g]; omega
  by_cases c1 : bs.length < n
  · have c1' : (bs.length : Int) < n := by omega
    obtain ⟨v3, v4, h4, v5, h5, s3, a4, a5, f⟩ := fin bs.length (by omega) (Nat.le_refl _)
    simp -implicitDefEqProofs [c1, c1', s3, a4, cvU, wr bs.length (by omega), a5]
    exact f
  · have c1' : ¬ (bs.length : Int) < n := by omega
    obtain ⟨v3, v4, h4, v5, h5, s3, a4, a5, f⟩ := fin n (Nat.le_refl _) (by omega)
    simp -implicitDefEqProofs [c1, c1', s3, a4, cvU, wr n hn, a5]
    exact f
theorem eqA2 {a b c d : Int} : eqAgg P t_A2_int (.agg #[.int .i64 a, .int .i64 b]) (.agg #[.int .i64 c, .int .i64 d]) = some (a == c && b == d) := by
  unfold eqAgg
  rw [if_neg (by rw [show P.eqGuardType P.depth t_A2_int = false by kernel_rfl]; simp)]
  have hc : P.cellsOf t_int = 1 := by kernel_rfl
  simp [eqV, u_A2_int, eqE, partP, List.range, List.range.loop, u_int, hc]
def natI (n : Nat) : Int := n
theorem vPairs_run {ps : List (Int × Int)} (hv : Prs h v ps) (hu : Prs h u ps) (hx : ps.length ≤ 2 ^ 40) : Ret P G n_laws_vPairs [v, u] h (.bool true) h := by
  refine enter_run e_laws_vPairs (by simp) ?_
  have hvs := hv
  have hus := hu
  obtain ⟨oa, c, rfl⟩ := hv.shapeT
  obtain ⟨ob, c', rfl⟩ := hu.shapeT
  simp -implicitDefEqProofs
  refine R_loopO (fun m s h' => ∃ i : Nat, i + m = ps.length ∧ s = [(0, .slice oa ps.length c), (1, .slice ob ps.length c'), (5, .int .i64 i)] ∧ h' = h) (fun I hI m s h' => ?_) (n := ps.length) ⟨0, Nat.zero_add _, by simp, rfl⟩
  rintro ⟨i, hi, rfl, rfl⟩
  by_cases hlt : i < ps.length
  · obtain ⟨p, hp, _⟩ := drop_at hlt
    simp -implicitDefEqProofs [-indexAddrP_some, hlt, load_Q hvs hp, load_Q hus hp, eqA2, winc hlt hx]
    exact ⟨m - 1, by omega, on hI ⟨i + 1, by omega, rfl, rfl⟩⟩
  · simp -implicitDefEqProofs [hlt]
end
end Go.Pm.PP

/- Ruled orders are best, in plain terms: the last end too. -/
set_option linter.unusedVariables false
set_option linter.unusedSimpArgs false
namespace Go.Pm.PP
open Go.Pm Go.Pm.PE
theorem nowGo_mono {js : List Job} : ∀ {C : List Int} {a b : Int}, a ≤ b → nowGo js a C ≤ nowGo js b C
  | [], _, _, h => h
  | x :: C, a, b, h => by rw [nowGo, nowGo]; exact nowGo_mono (by unfold endAt; omega)
theorem end_swap {js : List Job} (ht : ∀ x, 0 ≤ (jA js x).t) {A C : List Int} {x y : Int} (h : (jA js y).r ≤ (jA js x).r) : nowGo js 0 (A ++ y :: x :: C) ≤ nowGo js 0 (A ++ x :: y :: C) := by
  rw [nowGo_app, nowGo_app, nowGo, nowGo, nowGo, nowGo]
  have h1 := ht x
  have h2 := ht y
  refine nowGo_mono ?_
  unfold endAt
  omega
theorem end_best {js : List Job} (ht : ∀ x, 0 ≤ (jA js x).t) {xs ys : List Int} (hs : ys.Pairwise fun a b => (jA js a).r ≤ (jA js b).r) (hp : xs.Perm ys) : nowGo js 0 ys ≤ nowGo js 0 xs :=
  exch_sorted (f := nowGo js 0) (S := fun _ => True) (fun _ _ _ _ _ => trivial) (fun A x y C _ h => end_swap ht h) (A := []) trivial hs hp
/-- The reference's ruled order. -/
def ruF (o : Int) (js : List Job) (xs : List Int) : List Int := xs.foldl (fun l x => insF (fun y => decide (gapX o js y x ≤ 0)) x l) []
theorem ruF_perm {o : Int} {js : List Job} : ∀ {xs acc : List Int}, (xs.foldl (fun l x => insF (fun y => decide (gapX o js y x ≤ 0)) x l) acc).Perm (acc ++ xs)
  | [], acc => by simp
  | x :: xs, acc => by
    rw [List.foldl_cons]
    refine ruF_perm.trans ?_
    exact ((insF_perm.append_right xs).trans (by rw [List.cons_append])).trans List.perm_middle.symm
theorem ruF_sorted {o : Int} {js : List Job} (t : Tm js) : ∀ {xs acc : List Int}, acc.Pairwise (Lex (aheadR o js)) → inN js.length acc → inN js.length xs → xs.Pairwise (· < ·) → (∀ a, a ∈ acc → ∀ b, b ∈ xs → a < b) → (xs.foldl (fun l x => insF (fun y => decide (gapX o js y x ≤ 0)) x l) acc).Pairwise (Lex (aheadR o js))
  | [], acc, h, _, _, _, _ => h
  | x :: xs, acc, h, ha, hx, hs, hl => by
    have hs := List.pairwise_cons.1 hs
    have xr := hx x (List.mem_cons_self ..)
    have gs : ∀ y, gapX o js x y = - gapX o js y x := fun y => gap_swap
    rw [List.foldl_cons]
    refine ruF_sorted t (insF_sorted h (fun y hy g => ?_) (fun y hy g => ?_) fun y z hy hz hr g => ?_) (fun y hy => ?_) (fun y hy => hx y (List.mem_cons_of_mem _ hy)) hs.2 fun a hA b hb => ?_
    · have g : gapX o js y x ≤ 0 := by simpa using g
      have := gs y
      right
      refine ⟨?_, hl y hy x (List.mem_cons_self ..)⟩
      rw [ahead_eq t xr (ha y hy), decide_eq_false_iff_not]; omega
    · have g : ¬ gapX o js y x ≤ 0 := by simpa using g
      have := gs y
      left
      rw [ahead_eq t xr (ha y hy), decide_eq_true_eq]; omega
    · have g : ¬ gapX o js y x ≤ 0 := by simpa using g
      cases c : decide (gapX o js z x ≤ 0) with
      | false => rfl
      | true =>
        have c : gapX o js z x ≤ 0 := by simpa using c
        have h1 : aheadR o js z y = false := hr.na ahead_weak
        have g1 := gs z
        have h2 : aheadR o js x z = false := by rw [ahead_eq t xr (ha z hz), decide_eq_false_iff_not]; omega
        have h3 := (ahead_weak (o := o) (js := js)).tr h2 h1
        rw [ahead_eq t xr (ha y hy), decide_eq_false_iff_not] at h3
        have := gs y
        omega
    · rcases List.mem_cons.1 (insF_perm.mem_iff.1 hy) with rfl | g
      · exact xr
      · exact ha y g
    · rcases List.mem_cons.1 (insF_perm.mem_iff.1 hA) with rfl | g
      · exact hs.1 b hb
      · exact hl a g b (List.mem_cons_of_mem _ hb)
/-- Both ruled orders are the same. -/
theorem ruled_eq {o : Int} {js : List Job} (t : Tm js) {xs : List Int} (hs : xs.Pairwise (· < ·)) (hin : inN js.length xs) : ruF o js xs = sortB (aheadR o js) xs := by
  have p : (ruF o js xs).Perm xs := by have := @ruF_perm o js xs []; simpa [ruF] using this
  exact sorted_eq (R := Lex (aheadR o js)) (fun a b => Lex.asymm ahead_weak) (ruF_sorted t List.Pairwise.nil (fun y hy => by cases hy) hin hs fun a ha => by cases ha) (sortB_sorted ahead_weak hs) (p.trans sortB_perm.symm)
end Go.Pm.PP

/- Draws: plain jobs, ruled orders, inversions. -/
set_option linter.unusedVariables false
set_option linter.unusedSimpArgs false
set_option maxRecDepth 4000
set_option maxHeartbeats 8000000
namespace Go.Pm.PP
open Go.Pm Go.Proofs Go.Pm.PE
/-- Put into the middle, the front by a call. -/
theorem ins_own {h0 h : Hp} {L : List Asn} (H : Holds h0 h L) (i : Nat) {u : Value} {xs : List Int} (hi : L[i]? = some (.own u 1 (xs.map encI))) {k : Nat} (hk : k ≤ xs.length) (x : Int) (hn : xs.length ≤ 2 ^ 20) :
    ∃ (a3 : Option Addr) (b3 c3 : Nat), sliceP P h t_S_int u none (some (.int .i64 k)) = some (.slice a3 b3 c3) ∧ Ints h (.slice a3 b3 c3) (xs.take k) ∧ ∀ {v4 : Value} {h4 : Hp}, h <+: h4 → Own h.length h4 v4 1 ((xs.take k).map encI) → NR h.length h4 →
      ∃ (a4 : Option Addr) (b4 c4 : Nat) (a5 : Option Addr) (b5 c5 : Nat) (h5 : Hp) (a6 : Option Addr) (b6 c6 : Nat) (v7 : Value) (h7 : Hp), v4 = .slice a4 b4 c4 ∧
      appendP P (h4 ++ [some ⟨[.int .i64 x], 1, false⟩]) t_S_int (.slice a4 b4 c4) (.slice (some ⟨h4.length, 0, some 1⟩) 1 1) = some (.slice a5 b5 c5, h5) ∧ modOk h.length (h4 ++ [some ⟨[.int .i64 x], 1, false⟩]) h5 ∧ newOk h h5 ∧
      sliceP P h5 t_S_int u (some (.int .i64 k)) none = some (.slice a6 b6 c6) ∧ appendP P h5 t_S_int (.slice a5 b5 c5) (.slice a6 b6 c6) = some (v7, h7) ∧ Holds h0 h7 (L.set i (.own v7 1 ((xs.take k ++ x :: xs.drop k).map encI))) ∧ h <+: h7 := by
  have S2 := H.sees i hi
  obtain ⟨v3, s3, f3⟩ := S2.front (P := P) u_S_int i_int (k := .i64) (j := (k : Int)) (by omega) (by simp; omega)
  rw [Int.toNat_natCast, ← List.map_take] at f3
  obtain ⟨a3, b3, c3, rfl⟩ : ∃ a n c, v3 = .slice a n c := by obtain ⟨a, c, e⟩ := f3.shape; exact ⟨_, _, _, e⟩
  refine ⟨a3, b3, c3, s3, f3, fun {v4 h4} hp4 ho4 n4 => ?_⟩
  have H4 : Holds h h4 [.own v4 1 ((xs.take k).map encI)] := (Holds.start (h := h)).call hp4 ho4
  obtain ⟨v5, h5, ha5, H5', k5, _⟩ := push_I0 H4 0 rfl x (by simp; omega)
  have H5 : Holds h h5 [.own v5 1 ((xs.take k ++ [x]).map encI)] := H5'
  have n5 : NR h.length (h4 ++ [some ⟨[.int .i64 x], 1, false⟩]) := n4.new [.int .i64 x] 1
  have md := app_mod (b := h.length) rfl n5 ha5 (H4.pre.trans (List.prefix_append ..)) H5.pre
  have n6 := append_nr n5 ha5
  obtain ⟨v6, s6, f6, _⟩ := (S2.pre H5.pre).back (P := P) u_S_int i_int (k := .i64) (j := (k : Int)) (by omega) (by simp; omega)
  rw [Int.toNat_natCast, ← List.map_drop] at f6
  obtain ⟨v7, h7, ha7, H7', _⟩ := app_I H5 0 rfl f6 (by simp; omega)
  have H7 : Holds h h7 [.own v7 1 ((xs.take k ++ x :: xs.drop k).map encI)] := by
    have : Holds h h7 [.own v7 1 ((xs.take k ++ [x] ++ xs.drop k).map encI)] := H7'
    rw [List.append_assoc] at this
    exact this
  obtain ⟨a4, b4, c4, rfl⟩ : ∃ a n c, v4 = .slice a n c := by obtain ⟨a, c, e⟩ := (H4.sees 0 rfl).shape; exact ⟨_, _, _, e⟩
  obtain ⟨a5, b5, c5, rfl⟩ : ∃ a n c, v5 = .slice a n c := by obtain ⟨a, c, e⟩ := (H5.sees 0 rfl).shape; exact ⟨_, _, _, e⟩
  obtain ⟨a6, b6, c6, rfl⟩ : ∃ a n c, v6 = .slice a n c := by obtain ⟨a, c, e⟩ := f6.shape; exact ⟨_, _, _, e⟩
  have HJ := H.join H7
  have hil := (List.getElem?_eq_some_iff.1 hi).1
  refine ⟨a4, b4, c4, a5, b5, c5, h5, a6, b6, c6, v7, h7, rfl, ha5, md, newOk_of H5.pre n6, s6, ha7, ?_, H7.pre⟩
  refine HJ.sub (fun j => if j = i then L.length else j) (fun j A e => ?_) fun j1 j2 A B e1 e2 g => ?_
  · rw [List.getElem?_set] at e
    split at e
    · rename_i e2
      subst e2
      cases e
      rw [if_pos rfl, List.getElem?_append_right (Nat.le_refl _), Nat.sub_self]; rfl
    · rename_i e2
      rw [if_neg fun g => e2 g.symm, List.getElem?_append_left (List.getElem?_eq_some_iff.1 e).1]
      exact e
  · have l1 := (List.getElem?_eq_some_iff.1 e1).1
    have l2 := (List.getElem?_eq_some_iff.1 e2).1
    rw [List.length_set] at l1 l2
    split at g <;> split at g <;> omega
section
variable {h : Hp} {vj v : Value} {js : List Job} {o : Int}
theorem l3Order_run (J : Jobs h vj js) (hg : goodL js = true) (hn : js.length ≤ 8) : RunsC P G n_spec_l3Order [vj, .int .i64 o] h fun w h' => h <+: h' ∧ Own h.length h' w 1 ((ruF o js (upTo js.length)).map encI) := by
  refine hideC fun K hK => enter_run e_spec_l3Order (by simp) ?_
  have Js := J
  obtain ⟨oj, cj, rfl⟩ := J.shapeT
  have H0 := own_nil (Holds.start (h := h)) Int encI 1
  simp -implicitDefEqProofs
  refine R_loopO (fun m s h' => ∃ (i : Nat) (u : Value), i + m = js.length ∧ s = [(0, .slice oj js.length cj), (1, .int .i64 o), (5, u), (6, .int .i64 i)] ∧ Holds h h' [.own u 1 ((ruF o js (upTo i)).map encI)]) (fun I hI m s h' => ?_) (n := js.length) ⟨0, _, Nat.zero_add _, by simp, H0⟩
  rintro ⟨i, u, hi, rfl, H⟩
  by_cases hlt : i < js.length
  · have eu : upTo (i + 1) = upTo i ++ [(i : Int)] := by simp [upTo, List.range_succ]
    have ef : ruF o js (upTo (i + 1)) = insF (fun y => decide (gapX o js y i ≤ 0)) (i : Int) (ruF o js (upTo i)) := by
      unfold ruF; rw [eu, List.foldl_append]; rfl
    have pu : (ruF o js (upTo i)).Perm (upTo i) := by have := @ruF_perm o js (upTo i) []; simpa [ruF] using this
    have hin : ∀ z, z ∈ ruF o js (upTo i) → 0 ≤ z ∧ z < js.length := fun z hz => by have := mem_upTo.1 (pu.mem_iff.1 hz); omega
    have hul : (ruF o js (upTo i)).length = i := by rw [pu.length_eq, upTo_len]
    generalize ruF o js (upTo i) = us at *
    have S := H.sees 0 rfl
    obtain ⟨ou, cu, rfl⟩ : ∃ a c, u = .slice a us.length c := by obtain ⟨a, c, e⟩ := S.shapeT; exact ⟨a, c, e⟩
    simp -implicitDefEqProofs [hlt]
    refine R_loopO (fun m2 s h2 => ∃ (k : Nat), k + m2 = us.length ∧ s = [(0, .slice oj js.length cj), (1, .int .i64 o), (5, .slice ou us.length cu), (6, .int .i64 i), (7, .int .i64 k)] ∧ h2 = h' ∧ ∀ j z, j < k → us[j]? = some z → decide (gapX o js z i ≤ 0) = true) (fun I2 hI2 m2 s h2 => ?_) (n := us.length)
      ⟨0, Nat.zero_add _, by simp, rfl, fun i z h => by omega⟩
    rintro ⟨k, hk, rfl, rfl, hall⟩
    have fin : (∀ z, us[k]? = some z → decide (gapX o js z i ≤ 0) = false) → us.take k ++ (i : Int) :: us.drop k = insF (fun y => decide (gapX o js y i ≤ 0)) (i : Int) us := fun g => (insF_take (by omega) hall g).symm
    obtain ⟨a3, b3, c3, s3, f3, rest⟩ := ins_own H 0 rfl (k := k) (by omega) (i : Int) (by omega)
    have next : us.take k ++ (i : Int) :: us.drop k = insF (fun y => decide (gapX o js y i ≤ 0)) (i : Int) us → RunsC P G n_spec_l1Own [.slice a3 b3 c3] h2 fun v h' => newOk h2 h' ∧ ∃ (a4 : Option Addr) (b4 c4 : Nat) (a5 : Option Addr) (b5 c5 : Nat) (h5 : Hp) (a6 : Option Addr) (b6 c6 : Nat) (v7 : Value) (h7 : Hp), v = .slice a4 b4 c4 ∧
      appendP P (h' ++ [some ⟨[.int .i64 (i : Int)], 1, false⟩]) t_S_int (.slice a4 b4 c4) (.slice (some ⟨h'.length, 0, some 1⟩) 1 1) = some (.slice a5 b5 c5, h5) ∧ modOk h2.length (h' ++ [some ⟨[.int .i64 (i : Int)], 1, false⟩]) h5 ∧ newOk h2 h5 ∧
      sliceP P h5 t_S_int (.slice ou us.length cu) (some (.int .i64 k)) none = some (.slice a6 b6 c6) ∧ appendP P h5 t_S_int (.slice a5 b5 c5) (.slice a6 b6 c6) = some (v7, h7) ∧ I (m - 1) [(0, .slice oj js.length cj), (1, .int .i64 o), (5, v7), (6, .int .i64 ((i + 1 : Nat) : Int))] h7 := fun he => by
      refine RunsC.mono (l1Own_run f3 (by rw [List.length_take]; omega)).new fun v4 h4 ⟨⟨hp4, ho4⟩, hn4⟩ => ⟨hn4 hp4, ?_⟩
      obtain ⟨a4, b4, c4, a5, b5, c5, h5, a6, b6, c6, v7, h7, e4, g5, g6, g7, g8, g9, H7, hp7⟩ := rest hp4 ho4 (hn4 hp4).nr
      refine ⟨a4, b4, c4, a5, b5, c5, h5, a6, b6, c6, v7, h7, e4, g5, g6, g7, g8, g9, on hI ⟨i + 1, v7, by omega, rfl, ?_⟩⟩
      rw [ef, ← he]
      exact H7
    by_cases hlk : k < us.length
    · obtain ⟨z, hz, _⟩ := drop_at hlk
      have lz := load_I S hz
      have rs := l3Gap_run (o := o) (x := z) (y := (i : Int)) (Js.pre H.pre) hg (hin z (List.mem_of_getElem? hz)) (by omega)
      have hlk' : (k : Int) < us.length := by omega
      by_cases c1 : gapX o js z i ≤ 0
      · simp -implicitDefEqProofs [-indexAddrP_some, hlk, hlk', lz, CL_ret rs, CH_at rs, c1, winc hlk (by omega)]
        exact ⟨m2 - 1, by omega, on hI2 ⟨k + 1, by omega, rfl, rfl, fun j z' h1 h2 => by
          rcases Nat.lt_or_ge j k with g | g
          · exact hall j z' g h2
          · have : j = k := by omega
            subst this
            rw [hz] at h2; cases h2; exact decide_eq_true c1⟩⟩
      · simp -implicitDefEqProofs [-indexAddrP_some, hlk, hlk', lz, CL_ret rs, CH_at rs, c1, s3]
        refine CG_post (next (fin fun z' g => by rw [hz] at g; cases g; exact decide_eq_false c1)) fun v h4 ⟨no4, a4, b4, c4, a5, b5, c5, h5, a6, b6, c6, v7, h7, ev, g5, g6, g7, g8, g9, hI7⟩ => ⟨no4, ?_⟩
        subst ev
        simp -implicitDefEqProofs [g5, g6, g7, g8, g9, winc hlt (by omega)]
        exact ⟨m - 1, by omega, hI7⟩
    · have hlk' : ¬ (k : Int) < us.length := by omega
      simp -implicitDefEqProofs [-indexAddrP_some, hlk, hlk', s3]
      refine CG_post (next (fin fun z' g => by rw [List.getElem?_eq_none (by omega)] at g; cases g)) fun v h4 ⟨no4, a4, b4, c4, a5, b5, c5, h5, a6, b6, c6, v7, h7, ev, g5, g6, g7, g8, g9, hI7⟩ => ⟨no4, ?_⟩
      subst ev
      simp -implicitDefEqProofs [g5, g6, g7, g8, g9, winc hlt (by omega)]
      exact ⟨m - 1, by omega, hI7⟩
  · have : i = js.length := by omega
    subst this
    simp -implicitDefEqProofs [hlt]
    exact onK hK (H.ret 0 rfl)
end
/-! ### draws -/
section
variable {h0 h : Hp} {r n : Nat} {vc : Value} {L : List Asn}
theorem Cur.fputJ {u : Value} {js : List Job} (C : Cur h0 h r vc n (L ++ [.own u 4 (js.map encJ)])) {k : Nat} {y : Job} (hy : js[k]? = some y) (z : Int) :
    (∃ h', storeP P h t_int (.int .i64 z) (.pointer (some (addP (addP (base u) (k * 4)) 0))) = some h' ∧ Cur h0 h' r vc n (L ++ [.own u 4 ((js.set k ⟨z, y.w, y.r, y.d⟩).map encJ)])) ∧
    (∃ h', storeP P h t_int (.int .i64 z) (.pointer (some (addP (addP (base u) (k * 4)) 1))) = some h' ∧ Cur h0 h' r vc n (L ++ [.own u 4 ((js.set k ⟨y.t, z, y.r, y.d⟩).map encJ)])) ∧
    (∃ h', storeP P h t_int (.int .i64 z) (.pointer (some (addP (addP (base u) (k * 4)) 2))) = some h' ∧ Cur h0 h' r vc n (L ++ [.own u 4 ((js.set k ⟨y.t, y.w, z, y.d⟩).map encJ)])) ∧
    (∃ h', storeP P h t_int (.int .i64 z) (.pointer (some (addP (addP (base u) (k * 4)) 3))) = some h' ∧ Cur h0 h' r vc n (L ++ [.own u 4 ((js.set k ⟨y.t, y.w, y.r, z⟩).map encJ)])) := by
  obtain ⟨a, s, h1, h2, H⟩ := C
  have hi : (cu r vc a s :: (L ++ [.own u 4 (js.map encJ)]))[L.length + 1]? = some (.own u 4 (js.map encJ)) := by rw [List.getElem?_cons_succ]; exact snoc_get
  have es : ∀ A : Asn, (cu r vc a s :: (L ++ [.own u 4 (js.map encJ)])).set (L.length + 1) A = cu r vc a s :: (L ++ [A]) := fun A => by
    rw [List.set_cons_succ, List.set_append_right (h := Nat.le_refl _), Nat.sub_self]; rfl
  refine ⟨?_, ?_, ?_, ?_⟩
  · obtain ⟨h', g1, g2, _⟩ := fput_J0 H _ hi hy z
    rw [es] at g2
    exact ⟨h', g1, a, s, h1, h2, g2⟩
  · obtain ⟨h', g1, g2, _⟩ := fput_J1 H _ hi hy z
    rw [es] at g2
    exact ⟨h', g1, a, s, h1, h2, g2⟩
  · obtain ⟨h', g1, g2, _⟩ := fput_J2 H _ hi hy z
    rw [es] at g2
    exact ⟨h', g1, a, s, h1, h2, g2⟩
  · obtain ⟨h', g1, g2, _⟩ := fput_J3 H _ hi hy z
    rw [es] at g2
    exact ⟨h', g1, a, s, h1, h2, g2⟩
theorem plain3_run (B : By h0 vc) (C : Cur h0 h r vc n L) (hn : n ≤ 2 ^ 18) : RunsC P G n_spec_l1Cur_plain3 [.pointer (some ⟨r, 0, some 3⟩)] h fun v h' => ∃ js : List Job, js.length ≤ 9 ∧ Cur h0 h' r vc (n + 300) (L ++ [.own v 4 (js.map encJ)]) := by
  refine hideC fun K hK => enter_run e_spec_l1Cur_plain3 (by simp) ?_
  simp -implicitDefEqProofs
  refine CL_post (jobs_run B C (by omega)) fun v h1 ⟨js, hl, C1⟩ => ?_
  obtain ⟨ua, uc, rfl⟩ : ∃ a c, v = .slice a js.length c := C1.seesJ.shapeT
  simp -implicitDefEqProofs
  refine CL_post (one_run B C1 (by omega) (k := 24) (by omega)) fun v h2 ⟨b, ev, C2⟩ => ?_
  subst ev
  cases b
  case true =>
    simp -implicitDefEqProofs
    exact onK hK ⟨js, hl, C.gcO (C2.mono (by omega)) (fun h => h)⟩
  simp -implicitDefEqProofs
  obtain ⟨N, hN⟩ : ∃ N, N = js.length := ⟨_, rfl⟩
  rw [← hN] at C2 ⊢
  refine R_loopO (fun m st h' => ∃ (i : Nat) (ks : List Job), i + m = N ∧ st = [(0, .pointer (some ⟨r, 0, some 3⟩)), (3, .slice ua N uc), (4, .int .i64 i)] ∧ ks.length = N ∧ Cur h0 h' r vc (n + 204 + 2 * i) (L ++ [.own (.slice ua N uc) 4 (ks.map encJ)])) (fun I hI m st h' => ?_) (n := N)
    ⟨0, js, by omega, by simp, hN.symm, C2.mono (by omega)⟩
  rintro ⟨i, ks, hi, rfl, hks, C3⟩
  by_cases hlt : i < N
  · have hlt' : (i : Int) < N := by omega
    obtain ⟨y, hy, _⟩ := drop_at (show i < ks.length by omega)
    have ly := load_J C3.seesJ hy
    obtain ⟨h4, s4, C4⟩ := (C3.fputJ hy 0).2.2.1
    by_cases c1 : 0 < i
    · have c1' : (0 : Int) < i := by omega
      simp -implicitDefEqProofs [-indexAddrP_some, hlt, hlt', ly, s4, c1, c1']
      refine CL_post (one_run B C4 (by omega) (k := 3) (by omega)) fun v h5 ⟨b, ev, C5⟩ => ?_
      subst ev
      cases b
      · simp -implicitDefEqProofs [winc hlt (by omega)]
        exact ⟨m - 1, by omega, on hI ⟨i + 1, _, by omega, rfl, by rw [List.length_set]; exact hks, C5.mono (by omega)⟩⟩
      · have w1 : IntKind.i64.wrap ((i : Int) - 1) = ((i - 1 : Nat) : Int) := by rw [wrap_ok] <;> omega
        generalize hks2 : ks.set i ⟨y.t, y.w, 0, y.d⟩ = ks2 at C5
        have hl2 : ks2.length = N := by rw [← hks2, List.length_set]; exact hks
        obtain ⟨p, hp, _⟩ := drop_at (show i - 1 < ks2.length by omega)
        obtain ⟨q, hq, _⟩ := drop_at (show i < ks2.length by omega)
        have lp := load_J C5.seesJ hp
        have lq := load_J C5.seesJ hq
        obtain ⟨h6, s6, C6⟩ := (C5.fputJ hq p.t).1
        generalize hks3 : ks2.set i ⟨p.t, q.w, q.r, q.d⟩ = ks3 at C6
        have hl3 : ks3.length = N := by rw [← hks3, List.length_set]; exact hl2
        obtain ⟨p', hp', _⟩ := drop_at (show i - 1 < ks3.length by omega)
        obtain ⟨q', hq', _⟩ := drop_at (show i < ks3.length by omega)
        have lp' := load_J C6.seesJ hp'
        have lq' := load_J C6.seesJ hq'
        obtain ⟨h7, s7, C7⟩ := (C6.fputJ hq' p'.w).2.1
        simp -implicitDefEqProofs [-indexAddrP_some, w1, lp, lq, s6, lp', lq', s7, winc hlt (by omega)]
        exact ⟨m - 1, by omega, on hI ⟨i + 1, _, by omega, rfl, by rw [List.length_set]; exact hl3, C7.mono (by omega)⟩⟩
    · have c1' : ¬ (0 : Int) < i := by omega
      simp -implicitDefEqProofs [-indexAddrP_some, hlt, hlt', ly, s4, c1, c1', winc hlt (by omega)]
      exact ⟨m - 1, by omega, on hI ⟨i + 1, _, by omega, rfl, by rw [List.length_set]; exact hks, C4.mono (by omega)⟩⟩
  · have hlt' : ¬ (i : Int) < N := by omega
    simp -implicitDefEqProofs [hlt, hlt']
    exact onK hK ⟨ks, by omega, C.gcO (C3.mono (by omega)) (fun h => h)⟩
theorem ruled3_run (B : By h0 vc) (C : Cur h0 h r vc n L) (hn : n ≤ 2 ^ 17) : RunsC P G n_spec_l1Cur_ruled3 [.pointer (some ⟨r, 0, some 3⟩)] h fun v h' => ∃ (u : Value) (o : Int) (js : List Job), v = .tuple #[u, .int .i64 o] ∧ js.length ≤ 9 ∧ Cur h0 h' r vc (n + 400) (L ++ [.own u 4 (js.map encJ)]) := by
  refine hideC fun K hK => enter_run e_spec_l1Cur_ruled3 (by simp) ?_
  simp -implicitDefEqProofs
  refine CL_post (pick_run B C (by omega) (k := 4) (by omega)) fun v h1 ⟨x, ev, x0, x1, _, C1⟩ => ?_
  subst ev
  simp -implicitDefEqProofs
  refine CL_post (one_run B C1 (by omega) (k := 24) (by omega)) fun v h2 ⟨b, ev, C2⟩ => ?_
  subst ev
  have fin : ∀ {u : Value} {h4 : Hp} {js : List Job} {o : Int} {m : Nat}, js.length ≤ 9 → m ≤ n + 400 → Cur h0 h4 r vc m (L ++ [.own u 4 (js.map encJ)]) → K (.tuple #[u, .int .i64 o]) (gc h h4 (.tuple #[u, .int .i64 o])) := fun {u h4 js o m} hl hm C4 =>
    onK hK ⟨u, o, js, rfl, hl, C.gcO (C4.mono hm) fun g => plainT (r := [_]) g⟩
  have two : ∀ {o : Int} {h3 : Hp} {m : Nat}, m ≤ n + 10 → Cur h0 h3 r vc m L → (RunsC P G n_spec_l1Cur_jobs [.pointer (some ⟨r, 0, some 3⟩)] h3 fun u h4 => K (.tuple #[u, .int .i64 o]) (gc h h4 (.tuple #[u, .int .i64 o]))) ∧ (RunsC P G n_spec_l1Cur_plain3 [.pointer (some ⟨r, 0, some 3⟩)] h3 fun u h4 => K (.tuple #[u, .int .i64 o]) (gc h h4 (.tuple #[u, .int .i64 o]))) := fun {o h3 m} hm C3 =>
    ⟨RunsC.mono (jobs_run B C3 (by omega)) fun v h4 ⟨js, hl, C4⟩ => fin hl (by omega) C4, RunsC.mono (plain3_run B C3 (by omega)) fun v h4 ⟨js, hl, C4⟩ => fin hl (by omega) C4⟩
  cases b
  · generalize hX : IntKind.i64.wrap (1 + x) = X
    by_cases c : X = 1
    · subst c
      simp -implicitDefEqProofs [hX]
      refine CL_post (two (o := 1) (by omega) C2).1 fun v h4 f => ?_
      simp -implicitDefEqProofs
      exact f
    · simp -implicitDefEqProofs [hX, nb c]
      refine CL_post (two (o := X) (by omega) C2).2 fun v h4 f => ?_
      simp -implicitDefEqProofs
      exact f
  · have C3 := C2.lit [0, 5, 8, -1]
    simp -implicitDefEqProofs
    refine CL_post (among_run B C3 (by omega) snoc_get (xs := [0, 5, 8, -1]) (by simp) (by simp)) fun v h3 ⟨X, ev, _, C4⟩ => ?_
    subst ev
    by_cases c : X = 1
    · subst c
      simp -implicitDefEqProofs
      refine CL_post (two (o := 1) (by omega) C4.weak).1 fun v h4 f => ?_
      simp -implicitDefEqProofs
      exact f
    · simp -implicitDefEqProofs [nb c]
      refine CL_post (two (o := X) (by omega) C4.weak).2 fun v h4 f => ?_
      simp -implicitDefEqProofs
      exact f
end
theorem plain2T {a b : Value} {r : List Value} (h : plain (.tuple (a :: b :: r).toArray) = true) : plainC b = true := by
  have : ((a :: b :: r).toArray : Array Value).toList.all plainC = true := h
  simp only [List.all_cons, Bool.and_eq_true] at this
  exact this.2.1
/-- A draw of jobs and an order ends. -/
theorem draw_JX {h h1 : Hp} {u w : Value} {r : List Value} {js : List Job} {xs : List Int} (H : Holds h h1 [.own u 4 (js.map encJ), .own w 1 (xs.map encI)]) : h <+: gc h h1 (.tuple (u :: w :: r).toArray) ∧ Jobs (gc h h1 (.tuple (u :: w :: r).toArray)) u js ∧ Ints (gc h h1 (.tuple (u :: w :: r).toArray)) w xs :=
  ⟨pre_gcU H.pre, Sees.gcU (H.sees 0 rfl) fun g => plainT (r := w :: r) g, Sees.gcU (H.sees 1 rfl) fun g => plain2T (r := r) g⟩
theorem DrawPairLoss_run {h : Hp} {vc : Value} (B : By h vc) : RunsC P G n_spec_DrawPairLoss [vc] h fun v h' => h <+: h' ∧ ∃ (js : List Job) (xs : List Int) (u w : Value), v = .tuple #[u, w] ∧ js.length ≤ 9 ∧ xs.length ≤ 10 ∧ Jobs h' u js ∧ Ints h' w xs := by
  refine hideC fun K hK => enter_run e_spec_DrawPairLoss (by simp) ?_
  have C0 : Cur h (h ++ [some ⟨[vc, .int .i64 0, .int .u64 0], 0, false⟩]) h.length vc 0 [] := ⟨0, 0, by omega, by omega, (Holds.start (h := h)).alloc _⟩
  obtain ⟨bs, Sb, hb, hbl⟩ := B
  have Bs : By h vc := ⟨bs, Sb, hb, hbl⟩
  obtain ⟨ob, cb, rfl⟩ := Sb.shapeT
  simp -implicitDefEqProofs
  refine CL_post (plain3_run Bs C0 (by omega)) fun u h1 ⟨js, hl, C1⟩ => ?_
  obtain ⟨ua, uc, rfl⟩ : ∃ a c, u = .slice a js.length c := C1.seesJ.shapeT
  simp -implicitDefEqProofs
  refine CL_post (order_run Bs C1 (by omega) (N := js.length) (by omega)) fun w h2 ⟨xs, hl2, C2⟩ => ?_
  obtain ⟨wa, wc, rfl⟩ : ∃ a c, w = .slice a xs.length c := C2.seesI.shapeT
  simp -implicitDefEqProofs
  obtain ⟨a, s, _, _, H⟩ := C2
  have H2 : Holds h h2 [.own (.slice ua js.length uc) 4 (js.map encJ), .own (.slice wa xs.length wc) 1 (xs.map encI)] := H.tail
  have := draw_JX (r := []) H2
  exact onK hK ⟨this.1, js, xs, _, _, rfl, hl, by omega, this.2⟩
theorem DrawIsRuledOrder_run {h : Hp} {vc : Value} (B : By h vc) : RunsC P G n_spec_DrawIsRuledOrder [vc] h fun v h' => h <+: h' ∧ ∃ (js : List Job) (xs : List Int) (o : Int) (u w : Value), v = .tuple #[u, w, .int .i64 o] ∧ js.length ≤ 9 ∧ xs.length ≤ 10 ∧ Jobs h' u js ∧ Ints h' w xs := by
  refine hideC fun K hK => enter_run e_spec_DrawIsRuledOrder (by simp) ?_
  have C0 : Cur h (h ++ [some ⟨[vc, .int .i64 0, .int .u64 0], 0, false⟩]) h.length vc 0 [] := ⟨0, 0, by omega, by omega, (Holds.start (h := h)).alloc _⟩
  obtain ⟨bs, Sb, hb, hbl⟩ := B
  have Bs : By h vc := ⟨bs, Sb, hb, hbl⟩
  obtain ⟨ob, cb, rfl⟩ := Sb.shapeT
  simp -implicitDefEqProofs
  refine CL_post (ruled3_run Bs C0 (by omega)) fun v h1 ⟨u, o, js, ev, hl, C1⟩ => ?_
  subst ev
  obtain ⟨ua, uc, rfl⟩ : ∃ a c, u = .slice a js.length c := C1.seesJ.shapeT
  simp -implicitDefEqProofs
  refine CL_post (order_run Bs C1 (by omega) (N := js.length) (by omega)) fun w h2 ⟨xs, hl2, C2⟩ => ?_
  obtain ⟨wa, wc, rfl⟩ : ∃ a c, w = .slice a xs.length c := C2.seesI.shapeT
  have fin : ∀ {w : Value} {ys : List Int} {h3 : Hp} {m : Nat}, ys.length ≤ 10 → Cur h h3 h.length (.slice ob bs.length cb) m (([] ++ [.own (.slice ua js.length uc) 4 (js.map encJ)]) ++ [.own w 1 (ys.map encI)]) → K (.tuple #[.slice ua js.length uc, w, .int .i64 o]) (gc h h3 (.tuple #[.slice ua js.length uc, w, .int .i64 o])) := fun {w ys h3 m} hy C3 => by
    obtain ⟨a, s, _, _, H⟩ := C3
    have H2 : Holds h h3 [.own (.slice ua js.length uc) 4 (js.map encJ), .own w 1 (ys.map encI)] := H.tail
    have := draw_JX (r := [.int .i64 o]) H2
    exact onK hK ⟨this.1, js, ys, o, _, _, rfl, hl, hy, this.2⟩
  have rr := l3Ruled_run (o := o) C2.weak.seesJ (by omega)
  cases c1 : ruOk js o
  · rw [c1] at rr
    simp -implicitDefEqProofs [CL_ret rr]
    exact fin (by omega) C2
  rw [c1] at rr
  obtain ⟨hn, hg, _⟩ := ruOk_of c1
  simp -implicitDefEqProofs [CL_ret rr]
  refine CL_post (one_run Bs C2 (by omega) (k := 2) (by omega)) fun v h3 ⟨b, ev, C3⟩ => ?_
  subst ev
  cases b
  · simp -implicitDefEqProofs
    exact fin (by omega) C3
  simp -implicitDefEqProofs
  refine CL_post (l3Order_run (o := o) C3.weak.seesJ hg hn) fun w4 h4 ⟨hp4, ho4⟩ => ?_
  have C4 := (C3.join ((Holds.start (h := h3)).call hp4 ho4)).swapW
  have hyl : (ruF o js (upTo js.length)).length = js.length := by
    have : (ruF o js (upTo js.length)).Perm (upTo js.length) := by have := @ruF_perm o js (upTo js.length) []; simpa [ruF] using this
    rw [this.length_eq, upTo_len]
  generalize ruF o js (upTo js.length) = ys at *
  obtain ⟨ya, yc, rfl⟩ : ∃ a c, w4 = .slice a ys.length c := C4.seesI.shapeT
  by_cases c2 : 1 < ys.length
  · have c2' : (1 : Int) < ys.length := by omega
    simp -implicitDefEqProofs [c2, c2']
    refine CL_post (one_run Bs C4 (by omega) (k := 2) (by omega)) fun v h5 ⟨b, ev, C5⟩ => ?_
    subst ev
    cases b
    · simp -implicitDefEqProofs
      exact fin (by omega) C5
    · have w1 : IntKind.i64.wrap ((ys.length : Int) - 1) = (ys.length : Int) - 1 := by rw [wrap_ok] <;> omega
      simp -implicitDefEqProofs [w1]
      refine CL_post (pick_run Bs C5 (by omega) (k := (ys.length : Int) - 1) (by omega)) fun v h6 ⟨x, ev, x0, _, x1, C6⟩ => ?_
      subst ev
      obtain ⟨k, rfl⟩ : ∃ k : Nat, x = k := ⟨x.toNat, by omega⟩
      have hk : k + 1 < ys.length := by have := x1 (by omega); omega
      simp -implicitDefEqProofs
      refine CL_post (l2Swap_run C6.seesI (by omega) hk) fun w7 h7 ⟨hp7, ho7⟩ => ?_
      have C7 := (C6.join ((Holds.start (h := h6)).call hp7 ho7)).swapW
      simp -implicitDefEqProofs
      exact fin (by rw [swp_len]; omega) C7
  · have c2' : ¬ (1 : Int) < ys.length := by omega
    simp -implicitDefEqProofs [c2, c2']
    exact fin (by omega) C4
theorem gc_JX {h h1 : Hp} {u w : Value} {r : List Value} {js : List Job} {xs : List Int} (hp : h <+: h1) (J : Jobs h1 u js) (X : Ints h1 w xs) : h <+: gc h h1 (.tuple (u :: w :: r).toArray) ∧ Jobs (gc h h1 (.tuple (u :: w :: r).toArray)) u js ∧ Ints (gc h h1 (.tuple (u :: w :: r).toArray)) w xs :=
  ⟨pre_gcU hp, Sees.gcU J fun g => plainT (r := w :: r) g, Sees.gcU X fun g => plain2T (r := r) g⟩
theorem DrawInversionsOf_run {h : Hp} {vc : Value} (B : By h vc) : RunsC P G n_spec_DrawInversionsOf [vc] h fun v h' => h <+: h' ∧ ∃ (js : List Job) (xs : List Int) (o : Int) (u w : Value), v = .tuple #[u, w, .int .i64 o] ∧ js.length ≤ 9 ∧ xs.length ≤ 10 ∧ Jobs h' u js ∧ Ints h' w xs := by
  refine hideC fun K hK => enter_run e_spec_DrawInversionsOf (by simp) ?_
  obtain ⟨bs, Sb, hb, hbl⟩ := B
  have Bs : By h vc := ⟨bs, Sb, hb, hbl⟩
  obtain ⟨ob, cb, rfl⟩ := Sb.shapeT
  simp -implicitDefEqProofs
  refine CL_post (DrawIsRuledOrder_run Bs) fun v h1 ⟨hp, js, xs, o, u, w, ev, h5, h6, J, X⟩ => ?_
  subst ev
  simp -implicitDefEqProofs
  have := gc_JX (r := [.int .i64 o]) hp J X
  exact onK hK ⟨this.1, js, xs, o, _, _, rfl, h5, h6, this.2⟩
end Go.Pm.PP

/- FnPairLoss in the small machine. -/
set_option linter.unusedVariables false
set_option linter.unusedSimpArgs false
set_option maxRecDepth 4000
set_option maxHeartbeats 16000000
namespace Go.Pm.PP
open Go.Pm Go.Proofs Go.Pm.PE
/-- A ruled order of all jobs. -/
def rulL (o : Int) (js : List Job) : List Int := sortB (aheadR o js) (upTo js.length)
theorem rulL_perm {o : Int} {js : List Job} : (rulL o js).Perm (upTo js.length) := sortB_perm
theorem rulL_ord {o : Int} {js : List Job} : Ord js.length (rulL o js) := by
  have p := @rulL_perm o js
  exact ⟨by rw [p.length_eq, upTo_len], fun x hx => mem_upTo.1 (p.mem_iff.1 hx), p.nodup_iff.2 (upTo_nodup _)⟩
theorem rulL_sorted {o : Int} {js : List Job} (hg : goodL js = true) : (rulL o js).Pairwise fun a b => gapX o js a b ≤ 0 := by
  have t := good_tm hg
  refine List.Pairwise.imp_of_mem (fun {a b} ha hb h => ?_) (sortB_weak (ah := aheadR o js) (l := upTo js.length) ahead_weak)
  have ia := rulL_ord.inn a ha
  have ib := rulL_ord.inn b hb
  rw [ahead_eq t ib ia, decide_eq_false_iff_not] at h
  have := @gap_swap o js a b
  omega
/-- What an order loses. -/
theorem loss_best {js : List Job} (hok : plOk js = true) {o : Int} (ho : o = 2 ∨ o = 3) {xs : List Int} (ox : Ord js.length xs) : valX o js xs - bestV o js = invS o js xs ∧ bestV o js = valX o js (rulL o js) := by
  obtain ⟨hn, hg, _⟩ := plOk_of hok
  have p := plOk_pl hok
  have h1 : ¬ o = 1 := by omega
  have h4 : ¬ o = 4 := by omega
  have key : ∀ ys, Ord js.length ys → valX o js ys = sumGo o js 0 ys := fun ys oy => by
    unfold valX; exact val_sum h1 h4 (ord_prm oy)
  have l : ∀ ys, Ord js.length ys → valX o js ys - valX o js (rulL o js) = invS o js ys := fun ys oy => by
    rw [key ys oy, key _ rulL_ord]
    exact loss_eq p ho ((ord_perm oy).trans rulL_perm.symm) (rulL_sorted hg)
  obtain ⟨f1, f2, f3, f4⟩ := best_facts (f := valX o js) (n := js.length) hn
  have e : bestV o js = (bestR (valX o js) js.length).v := rfl
  have g1 := f4 _ (rulL_ord (o := o))
  have g2 := l _ f3
  have g3 := invS_nonneg (o := o) (js := js) (l := (bestR (valX o js) js.length).o)
  have eb : bestV o js = valX o js (rulL o js) := by rw [e]; omega
  refine ⟨?_, eb⟩
  rw [eb]
  exact l xs ox
theorem gain_gap {js : List Job} (hok : plOk js = true) {o : Int} (ho : o = 2 ∨ o = 3) {xs : List Int} (ox : Ord js.length xs) {i : Nat} (hi : i + 1 < xs.length) : gn (valX o js) xs i = gapX o js (gE xs i) (gE xs (i + 1)) := by
  have p := plOk_pl hok
  obtain ⟨A, x, y, C, e1, e2, e3⟩ := swp_split hi
  have os := swp_ord ox hi
  unfold gn valX
  rw [val_sum (by omega) (by omega) (ord_prm ox), val_sum (by omega) (by omega) (ord_prm os), e3]
  have gx : gE xs i = x := by unfold gE; rw [e1, List.getElem?_append_right (by omega), e2, Nat.sub_self]; rfl
  have gy : gE xs (i + 1) = y := by unfold gE; rw [e1, List.getElem?_append_right (by omega), e2, Nat.add_sub_cancel_left]; rfl
  rw [gx, gy, e1]
  exact sum_swap p ho
theorem law_PairLoss {h : Hp} {vc : Value} {bs : List Int} (Sb : Sees h vc 1 (bs.map encU)) (hb : ∀ b, b ∈ bs → 0 ≤ b ∧ b ≤ 255) : Ret P G n_laws_FnPairLoss [vc] h (.bool true) h := by
  refine enter_run e_laws_FnPairLoss (by simp) ?_
  have r0 := vBig_run Sb
  by_cases c0 : (65536 : Int) < bs.length
  · simp -implicitDefEqProofs [CL_ret r0, c0]
  have B : By h vc := ⟨bs, Sb, hb, by omega⟩
  have Sbs := Sb
  obtain ⟨ob, cb, rfl⟩ := Sb.shapeT
  simp -implicitDefEqProofs [CL_ret r0, c0]
  refine CL_post (DrawPairLoss_run B) fun v h1 ⟨hp1, js, xs, u, w, ev, hjl, hxl, J, X⟩ => ?_
  subst ev
  have l1 : js.length ≤ 2 ^ 40 := by omega
  have l2 : xs.length ≤ 2 ^ 40 := by omega
  have Js := J
  have Xs := X
  obtain ⟨ja, jc, rfl⟩ := J.shapeT
  obtain ⟨xa, xc, rfl⟩ := X.shapeT
  have r1 := implPairLoss_run Js Xs l1 l2
  have r2 := specPairLoss_run Js Xs l1 l2
  simp -implicitDefEqProofs [CL_ret r1, CL_ret r2]
  refine CL_post (vCut_run (n := 1) (Sbs.pre hp1) hb (by omega) (by omega)) fun w2 h2 ⟨hp2, B2⟩ => ?_
  simp -implicitDefEqProofs
  refine CL_post (DrawInversionsOf_run B2) fun v h3 ⟨hp3, ks, ys, o, u3, w3, ev, hkl, hyl, K3, Y3⟩ => ?_
  subst ev
  have l3 : ks.length ≤ 2 ^ 40 := by omega
  have l4 : ys.length ≤ 2 ^ 40 := by omega
  have Ks := K3
  have Ys := Y3
  obtain ⟨ka, kc, rfl⟩ := K3.shapeT
  obtain ⟨ya, yc, rfl⟩ := Y3.shapeT
  simp -implicitDefEqProofs
  refine CL_post (implInversionsOf_run (o := o) Ks Ys l3 l4) fun v h4 ⟨hp4, d1, ev, D1⟩ => ?_
  subst ev
  simp -implicitDefEqProofs
  refine CL_post (specInversionsOf_run (o := o) (Ks.pre hp4) (Ys.pre hp4) l3 l4) fun v h5 ⟨hp5, d2, ev, D2⟩ => ?_
  subst ev
  have hif : (invF ks ys o).length ≤ 2 ^ 40 := by
    unfold invF
    split
    · have := @inv_len o ks ys
      have : ys.length * ys.length ≤ 10 * 10 := Nat.mul_le_mul (by omega) (by omega)
      omega
    · simp
  have q1 := vPairs_run (D1.pre hp5) D2 hif
  have r3 := implIsRuledOrder_run (o := o) (Ks.pre (hp4.trans hp5)) (Ys.pre (hp4.trans hp5)) l3 l4
  have p25 := hp2.trans (hp3.trans (hp4.trans hp5))
  have hp05 := hp1.trans p25
  have hrl : ruAll ks ys o = true → ((ruAll ks ys o && ruledB o ks ys) == ((invF ks ys o).length == 0)) = true := fun c => by
    obtain ⟨g1, oy⟩ := ruAll_of c
    obtain ⟨hn, hg, _⟩ := ruOk_of g1
    rw [c, Bool.true_and, invF, if_pos c, beq_iff_eq, Bool.eq_iff_iff, ruled_iff (good_tm hg) oy.inn, ← inv_nil, beq_iff_eq, List.length_eq_zero_iff]
  have D1s := D1.pre hp5
  generalize invF ks ys o = ps at *
  obtain ⟨da, dc, rfl⟩ : ∃ a c, d1 = .slice a ps.length c := D1.shapeT
  have Js5 := Js.pre p25
  have Xs5 := Xs.pre p25
  have pl : ∀ c : Bool, (c = true → ((c && ruledB o ks ys) == (ps.length == 0)) = true) → c = true → (ruledB o ks ys = true ∧ ps.length = 0) ∨ (ruledB o ks ys = false ∧ ¬ ps.length = 0) := fun c hc e => by
    have := hc e
    rw [e, Bool.true_and, beq_iff_eq] at this
    cases hq : ruledB o ks ys
    · rw [hq] at this; right; refine ⟨rfl, fun g => ?_⟩; rw [g] at this; cases this
    · rw [hq] at this; left; exact ⟨rfl, by simpa using this.symm⟩
  have hr2 := pl _ hrl
  have last : ruAll js xs 3 = true → (∃ c : Int, c = valX 3 js xs ∧ vOf js xs 3 = c ∧ okV js xs 3 = true ∧ (bR js 3).v = bestV 3 js ∧ okB js 3 = true ∧ IntKind.i64.wrap (c - bestV 3 js) = plV js xs) ∧ ∀ i, i + 1 < xs.length → ∃ x y g, xs[i]? = some x ∧ xs[i + 1]? = some y ∧ Ret P G n_impl_ExchangeGain [.slice ja js.length jc, .slice xa xs.length xc, .int .i64 i, .int .i64 3] h5 (.tuple #[.int .i64 g, .bool true]) h5 ∧
      Ret P G n_impl_RuleDifference [.slice ja js.length jc, .int .i64 3, .int .i64 x, .int .i64 y] h5 (.tuple #[.int .i64 g, .bool true]) h5 := fun c1 => by
    obtain ⟨g1, ox⟩ := ruAll_of c1
    obtain ⟨hn, hg, ho, hpl⟩ := ruOk_of g1
    have hok : plOk js = true := by rcases hpl with g | g; omega; exact g
    have jok : jOk js = true := by have := hok; rw [plOk, Bool.and_eq_true] at this; exact this.1
    have okb : okB js 3 = true := by rw [okB, jok]; rfl
    have okv : okV js xs 3 = true := by rw [okV, jok, ord_ok hn ox]; rfl
    obtain ⟨lb1, lb2⟩ := loss_best hok (o := 3) (.inr rfl) ox
    have bd1 := valX_bd (o := 3) hg hn ox
    have bd2 := valX_bd (o := 3) hg hn (rulL_ord (o := 3))
    have ep : plV js xs = invS 3 js xs := by rw [plV, if_pos c1]; exact inv_sum
    refine ⟨⟨_, rfl, by rw [vOf, if_pos okv], okv, bR_v okb, okb, by rw [ep, ← lb1, wrap_ok] <;> omega⟩, fun i hi => ?_⟩
    obtain ⟨x, hx, _⟩ := drop_at (show i < xs.length by omega)
    obtain ⟨y, hy, _⟩ := drop_at hi
    have re := implExchangeGain_run (o := 3) (i := i) Js5 Xs5 l1 l2 okv hi
    rw [gain_gap hok (.inr rfl) ox hi, show gE xs i = x by unfold gE; rw [hx]; rfl, show gE xs (i + 1) = y by unfold gE; rw [hy]; rfl] at re
    exact ⟨x, y, _, hx, hy, re, implRuleDifference_run Js5 l1 g1 (ox.inn x (List.mem_of_getElem? hx)) (ox.inn y (List.mem_of_getElem? hy))⟩
  have rv := implValueOf_run (o := 3) Js5 Xs5 l1 l2
  have rb := implBestValue_run (o := 3) Js5 l1
  cases c3 : ruAll ks ys o
  case' false =>
    simp -implicitDefEqProofs [CL_ret q1, c3]
  case' true =>
    rcases hr2 c3 with ⟨k1, k2⟩ | ⟨k1, k2⟩
    case' inl =>
      rw [c3, k1] at r3
      have k3 : ((ps.length : Int) == 0) = true := by simp [k2]
      simp -implicitDefEqProofs [CL_ret q1, c3, CL_ret r3, k3]
    case' inr =>
      rw [c3, k1] at r3
      have k3 : ((ps.length : Int) == 0) = false := nb (by omega)
      simp -implicitDefEqProofs [CL_ret q1, c3, CL_ret r3, k3]
  all_goals
    cases c1 : ruAll js xs 3
    case false =>
      simp -implicitDefEqProofs
      exact gcP hp05 rfl
    case true =>
      obtain ⟨⟨c, _, e2, e3, e4, e5, e6⟩, steps⟩ := last c1
      rw [e2, e3] at rv
      rw [e4, e5] at rb
      simp -implicitDefEqProofs [CL_ret rv, CL_ret rb, e6]
      refine R_loopO (fun m s h' => ∃ i : Nat, i ≤ xs.length ∧ (i + 1 + m = xs.length ∨ (xs.length ≤ i + 1 ∧ m = 0)) ∧ s = [(3, .slice ja js.length jc), (4, .slice xa xs.length xc), (22, .int .i64 i)] ∧ h' = h5) (fun I hI m s h' => ?_) (n := xs.length - 1) ⟨0, by omega, by omega, by simp, rfl⟩
      rintro ⟨i, hix, hi, rfl, rfl⟩
      have w1 : IntKind.i64.wrap ((i : Int) + 1) = (i : Int) + 1 := by rw [wrap_ok] <;> omega
      by_cases hlt : i + 1 < xs.length
      · have hlt' : (i : Int) + 1 < xs.length := by omega
        obtain ⟨x, y, g, hx, hy, s1, s2⟩ := steps i hlt
        have lx := load_I Xs5 hx
        have ly := load_I Xs5 hy
        rw [show ((i + 1 : Nat) : Int) = (i : Int) + 1 by omega] at ly
        simp -implicitDefEqProofs [-indexAddrP_some, w1, hlt', CL_ret s1, lx, ly, CL_ret s2, CH_at s2]
        exact ⟨m - 1, by omega, on hI ⟨i + 1, by omega, by omega, rfl, rfl⟩⟩
      · have hlt' : ¬ (i : Int) + 1 < xs.length := by omega
        simp -implicitDefEqProofs [w1, hlt']
        exact gcP hp05 rfl
end Go.Pm.PP
