/- FnExactPriceProof: copies of numbers and prices. -/
import Derived.Test.YtagofldjmcaalaaPp14
set_option linter.unusedVariables false
set_option linter.unusedSimpArgs false
set_option maxRecDepth 4000
set_option maxHeartbeats 4000000
namespace Go.Pm.PP
open Go.Pm Go.Proofs
theorem gc_np {h h' : Hp} {v : Value} (hp : plain v = false) : gc h h' v = h' := by
  unfold gc; rw [if_neg (fun h => by rw [hp] at h; cases h.1)]
theorem encI_len (xs : List Int) : ∀ e ∈ xs.map encI, e.length = 1 := by
  intro e he
  obtain ⟨j, _, rfl⟩ := List.mem_map.1 he
  rfl
theorem i24' : (P.info? 3).map (·.size) = some 1 := i3
theorem toIntS_run {h : Hp} {v : Value} {xs : List Int} (hv : Ints h v xs) (hn : xs.length ≤ 2 ^ 40) :
    Ret P G n_laws_toIntS [v] h (.slice (some ⟨h.length, 0, some xs.length⟩) xs.length xs.length) (h ++ [irow xs]) := by
  refine enter_run e_laws_toIntS (by simp) ?_
  obtain ⟨oa, c, rfl⟩ := hv.shapeT
  simp -implicitDefEqProofs [make_ints hn]
  refine R_loop (fun m s h' => ∃ (i : Nat), i + m = xs.length ∧ s = [(0, .slice oa xs.length c), (3, .slice (some ⟨h.length, 0, some xs.length⟩) xs.length xs.length), (4, .int .i64 i)] ∧ h' = h ++ [irow (xs.take i ++ List.replicate (xs.length - i) 0)]) (fun m s h' => ?_) ⟨0, Nat.zero_add _, by simp, by simp⟩
  rintro ⟨i, hi, rfl, rfl⟩
  have hEl : (xs.take i ++ List.replicate (xs.length - i) 0).length = xs.length := by simp; omega
  by_cases hlt : i < xs.length
  · obtain ⟨y, hy, hd⟩ := drop_at hlt
    have w0 : IntKind.i64.wrap (i + 1) = ((i : Int) + 1) := by rw [wrap_ok] <;> omega
    have nx := set_next (z := (0 : Int)) hy
    generalize hG : (xs.take i ++ List.replicate (xs.length - i) 0) = E at hEl nx ⊢
    have hv2 := hv.ext [irow E]
    have f1 := row_idx (h := h) (l := []) (c := xs.length) hEl (j := i) (by omega) (by omega)
    rw [show (i : Int).toNat = i by omega] at f1
    have f2 := row_st (h := h) (l := []) (j := i) (y := y) hEl hlt
    rw [nx] at f2
    simp -implicitDefEqProofs [-storeP_app0, -indexAddrP_some, -rowAt_app0, hlt, ints_idx hv2 (i := i) (by omega) (by omega), ints_ld hv2 hy, f1, f2, w0]
    exact ⟨m - 1, by omega, i + 1, by omega, by omega, rfl⟩
  · have hi2 : i = xs.length := by omega
    simp -implicitDefEqProofs [hlt, gc_slice]
    simp [hi2]
theorem toSetPrice_run {h : Hp} {v : Value} {xs : List Int} {p : Int} (hv : Ints h v xs) (hn : xs.length ≤ 2 ^ 40) :
    RunsC P G n_laws_toSetPrice [.agg #[v, .int .i64 p]] h fun v' h' => ∃ t u, h' = h ++ t ∧ v' = .agg #[u, .int .i64 p] ∧ ∀ h0 : Hp, h0.length = h.length → Ints (h0 ++ t) u xs := by
  refine enter_run e_laws_toSetPrice (by simp) ?_
  obtain ⟨oa, c, rfl⟩ := hv.shapeT
  have f := toIntS_run (hv.ext [some ⟨[.slice oa xs.length c, .int .i64 p], 0, false⟩, some ⟨[.slice none 0 0, .int .i64 0], 0, false⟩, some ⟨[.slice none 0 0, .int .i64 0], 0, false⟩]) hn
  simp only [List.length_append, List.length_cons, List.length_nil, Nat.zero_add, Nat.reduceAdd, List.append_assoc, List.cons_append, List.nil_append] at f
  simp -implicitDefEqProofs [CL_ret f]
  rw [gc_np (by simp [plain, plainC])]
  refine ⟨_, rfl, fun h0 hh => ?_⟩
  have := irow_sees (h := h0 ++ [some ⟨[.slice oa xs.length c, .int .i64 p], 0, false⟩, some ⟨[.slice (some ⟨h.length + 3, 0, some xs.length⟩) xs.length xs.length, .int .i64 p], 0, false⟩, some ⟨[.slice (some ⟨h.length + 3, 0, some xs.length⟩) xs.length xs.length, .int .i64 p], 0, false⟩]) (l := []) (ys := xs) rfl
  simpa [hh] using this
theorem Sees.fill {h t : Hp} {r : Option Row} {v : Value} {sz : Nat} {els : List (List Value)} (s : Sees (h ++ none :: t) v sz els) : Sees (h ++ r :: t) v sz els := by
  obtain ⟨h1, oa, c, h2, h3⟩ := s
  refine ⟨h1, oa, c, h2, ?_⟩
  rcases h3 with h3 | ⟨k, o, x, h4, h5, h6⟩
  · exact .inl h3
  · refine .inr ⟨k, o, x, h4, ?_, h6⟩
    rcases Nat.lt_or_ge k h.length with hk | hk
    · rw [List.getElem?_append_left hk] at h5 ⊢; exact h5
    · rw [List.getElem?_append_right hk] at h5 ⊢
      cases hkk : k - h.length with
      | zero => rw [hkk] at h5; simp at h5
      | succ n => rw [hkk] at h5; simpa using h5
theorem encS_len (ps : List SP) : ∀ e ∈ ps.map encS, e.length = 2 := by
  intro e he
  obtain ⟨j, _, rfl⟩ := List.mem_map.1 he
  rfl
def zS : SP := ⟨.slice none 0 0, [], 0⟩
/-- A copy of prices. -/
def Copy (ps qs : List SP) : Prop := ps.map (fun x => (x.s, x.p)) = qs.map fun x => (x.s, x.p)
theorem toSetPriceS_run {h : Hp} {v : Value} {ps : List SP} (hv : Prices0 h v ps) (hsn : ∀ x ∈ ps, x.s.length ≤ 2 ^ 40) (hn : ps.length ≤ 2 ^ 40) :
    RunsC P G n_laws_toSetPriceS [v] h fun v' h' => ∃ t qs, h' = h ++ t ∧ Prices h' v' qs ∧ Copy ps qs := by
  refine enter_run e_laws_toSetPriceS (by simp) ?_
  obtain ⟨oa, c, rfl⟩ := hv.sees.shapeT
  have hlen : (List.replicate ps.length (encS zS)).flatten.length = ps.length * 2 := by
    rw [flat_len (sz := 2) (fun e he => by rw [List.eq_of_mem_replicate he]; rfl), List.length_replicate]
  have mk : makeP P h 31 (.int .i64 ps.length) (.int .i64 ps.length) = some (.slice (some ⟨h.length, 0, some (ps.length * 2)⟩) ps.length ps.length, h ++ [rowOf 2 (List.replicate ps.length (encS zS))]) := by
    have hr : reps ps.length [.slice none 0 0, .int .i64 0] = (List.replicate ps.length (encS zS)).flatten := reps_flat ..
    simp only [makeP, u31, asI, ti_108_eq, zeroP, ti_108_zero, ti_108_size, ti_108_bytes, newP, rowOf]
    rw [if_pos (by simp [plain, plainC, Value.cells])]
    simp only [Int.toNat_natCast, Value.cells, hr, hlen, ti_108_size, ti_108_bytes]
    rw [if_pos ⟨by omega, Int.le_refl _, by omega, by omega, by omega, by omega⟩]
  simp -implicitDefEqProofs [mk]
  refine R_loop (fun m s h' => ∃ (i : Nat) (qs : List SP) (t : Hp), i + m = ps.length ∧ s = [(0, .slice oa ps.length c), (3, .slice (some ⟨h.length, 0, some (ps.length * 2)⟩) ps.length ps.length), (4, .int .i64 i)] ∧ h' = h ++ rowOf 2 (qs.map encS) :: t ∧ qs.length = ps.length ∧ (∀ x ∈ qs, Ints (h ++ none :: t) x.v x.s ∧ x.s.length ≤ 2 ^ 40) ∧ (qs.take i).map (fun x => (x.s, x.p)) = (ps.take i).map fun x => (x.s, x.p)) (fun m s h' => ?_) ⟨0, List.replicate ps.length zS, [], Nat.zero_add _, by simp, by simp, by simp, fun x hx => ?_, by simp⟩
  · rintro ⟨i, qs, t, hi, rfl, rfl, hq, hqs, hpre⟩
    have hE := encS_len qs
    have hEl : (qs.map encS).length = ps.length := by simpa using hq
    by_cases hlt : i < ps.length
    · obtain ⟨⟨xv, xl, xp⟩, hy, hd⟩ := drop_at hlt
      obtain ⟨xs, _⟩ : Ints h xv xl ∧ xl.length < 2 ^ 63 := hv.set _ (List.mem_of_getElem? hy)
      have xn : xl.length ≤ 2 ^ 40 := hsn _ (List.mem_of_getElem? hy)
      have hv2 : Prices0 (h ++ rowOf 2 (qs.map encS) :: t) (.slice oa ps.length c) ps := hv.pre (List.prefix_append ..)
      have w0 : IntKind.i64.wrap (i + 1) = ((i : Int) + 1) := by rw [wrap_ok] <;> omega
      have i0 := prices0_idx hv2 (i := i) (by omega) (by omega)
      rw [show (i : Int).toNat = i by omega] at i0
      simp -implicitDefEqProofs [-indexAddrP_some, hlt, i0, prices0_agg hv2 hy]
      refine CL_post (toSetPrice_run (p := xp) (xs.ext (rowOf 2 (qs.map encS) :: t)) xn) fun v' h2 hk => ?_
      obtain ⟨t2, u, rfl, rfl, hu⟩ := hk
      have hu2 := hu (h ++ none :: t) (by simp)
      have f1 := rowOf_idx (h := h) (l := t ++ t2) (c := ps.length) hE hEl u31 i108 (j := i) (by omega) (by omega)
      rw [show (i : Int).toNat = i by omega] at f1
      obtain ⟨ou, cu, rfl⟩ := hu2.shapeT
      have f2 := rowOf_st (h := h) (l := t ++ t2) (i := i) (t := 108) (w := .agg #[.slice ou xl.length cu, .int .i64 xp]) hE hEl hlt i108 rfl rfl
      rw [show (Value.agg #[.slice ou xl.length cu, .int .i64 xp]).cells.toList = encS ⟨.slice ou xl.length cu, xl, xp⟩ from rfl, ← List.map_set] at f2
      simp -implicitDefEqProofs [-storeP_app0, -indexAddrP_some, -rowAt_app0, f1, f2, w0]
      refine ⟨m - 1, by omega, i + 1, by omega, by omega, qs.set i ⟨.slice ou xl.length cu, xl, xp⟩, t ++ t2, ⟨by rw [List.map_set], rfl⟩, by simpa using hq, fun x hx => ?_, ?_⟩
      · rcases List.mem_or_eq_of_mem_set hx with h3 | rfl
        · exact ⟨by have := (hqs x h3).1.ext t2; simpa using this, (hqs x h3).2⟩
        · exact ⟨by simpa using hu2, xn⟩
      · rw [List.map_set]
        have a1 : ((qs.map fun x => (x.s, x.p)).set i (xl, xp))[i]? = some (xl, xp) := by simp [hq, hlt]
        have a2 : (ps.map fun x => (x.s, x.p))[i]? = some (xl, xp) := by simp [hy]
        rw [take_succ' a1, take_succ' a2, List.take_set, List.set_eq_of_length_le (by simp; omega)]
        rw [List.map_take, List.map_take] at hpre
        rw [hpre]
    · have hi2 : i = ps.length := by omega
      subst hi2
      have hc : Copy ps qs := by
        have h1 : qs.take ps.length = qs := List.take_of_length_le (by omega)
        rw [h1, List.take_length] at hpre
        exact hpre.symm
      simp -implicitDefEqProofs [gc_slice]
      exact ⟨qs, ⟨rowOf_sees hE hEl, fun x hx => ⟨Sees.fill (hqs x hx).1, (hqs x hx).2⟩⟩, hc⟩
  · rw [List.eq_of_mem_replicate hx]
    exact ⟨⟨by simp [zS], none, 0, rfl, .inl ⟨rfl, rfl, rfl⟩⟩, by simp [zS]⟩
end Go.Pm.PP
