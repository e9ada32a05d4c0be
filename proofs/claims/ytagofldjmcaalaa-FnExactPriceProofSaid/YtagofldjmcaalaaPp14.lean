/- FnExactPriceProof: copies of the arguments. -/
import Derived.Test.YtagofldjmcaalaaPp12
import Derived.Test.YtagofldjmcaalaaPp10
set_option linter.unusedVariables false
set_option linter.unusedSimpArgs false
set_option maxRecDepth 4000
set_option maxHeartbeats 4000000
namespace Go.Pm.PP
open Go.Pm Go.Proofs
theorem jobs0_idx {h : Hp} {v : Value} {js : List Job} (hv : Jobs h v js) {i : Nat} (hi : i < js.length) :
    indexAddrP P h 22 v (.int .i64 i) = some (.pointer (some (addP (base v) (i * 4)))) := by
  have := hv.indexT (P := P) u22 i89 (k := .i64) (j := i) (by omega) (by omega)
  simpa using this
theorem jobs0_agg {h : Hp} {v : Value} {js : List Job} (hv : Jobs h v js) {i : Nat} {j : Job} (hj : js[i]? = some j) :
    loadP P h 89 (.pointer (some (addP (base v) (i * 4)))) = some (jv j) := hv.aggT u89 i89 hj
theorem toJob_run {h : Hp} {j : Job} : Ret P G n_laws_toJob [jv j] h (jv j) h := by
  refine enter_run e_laws_toJob (by simp) ?_
  simp -implicitDefEqProofs
  refine gc_app _ _ _ (by simp)
/-- A row of elements. -/
def rowOf (sz : Nat) (els : List (List Value)) : Option Row := some ⟨els.flatten, sz, false⟩
theorem set_app' (a b : List Value) (k : Nat) (v : Value) : (a ++ b).set (a.length + k) v = a ++ b.set k v := by
  have := List.set_append_right (s := a) (t := b) (i := a.length + k) (x := v) (by omega)
  rwa [Nat.add_sub_cancel_left] at this
theorem splice_shift : ∀ (vs a b : List Value) (k : Nat), splice (a ++ b) (a.length + k) vs = a ++ splice b k vs
  | [], a, b, k => rfl
  | v :: vs, a, b, k => by rw [splice, splice, set_app', Nat.add_assoc, splice_shift]
theorem splice_here : ∀ (vs a b : List Value), a.length = vs.length → splice (a ++ b) 0 vs = vs ++ b
  | [], a, b, h => by rw [List.eq_nil_of_length_eq_zero h]; rfl
  | v :: vs, a0 :: a, b, h => by
    have h2 := splice_shift vs [v] (a ++ b) 0
    rw [splice_here vs a b (by simpa using h)] at h2
    exact h2
theorem splice_flat {sz : Nat} : ∀ {els : List (List Value)}, (∀ e ∈ els, e.length = sz) → ∀ {i : Nat} {e : List Value}, i < els.length → e.length = sz → splice els.flatten (i * sz) e = (els.set i e).flatten
  | [], _, i, e, hi, _ => by simp at hi
  | a :: els, hl, 0, e, _, he => by
    rw [Nat.zero_mul, List.flatten_cons, splice_here _ _ _ (by rw [hl a (List.mem_cons_self ..), he])]
    rfl
  | a :: els, hl, i + 1, e, hi, he => by
    have h1 := hl a (List.mem_cons_self ..)
    have h2 := splice_flat (fun e he => hl e (List.mem_cons_of_mem _ he)) (i := i) (e := e) (by simpa using hi) he
    rw [List.set_cons_succ, List.flatten_cons, List.flatten_cons, ← h2, Nat.succ_mul, Nat.add_comm, ← h1, splice_shift]
theorem rowOf_sees {h l : Hp} {sz n : Nat} {els : List (List Value)} (hl : ∀ e ∈ els, e.length = sz) (hn : els.length = n) : Sees (h ++ rowOf sz els :: l) (.slice (some ⟨h.length, 0, some (n * sz)⟩) n n) sz els := by
  subst hn
  have := flat_len hl
  refine ⟨hl, some ⟨h.length, 0, some (els.length * sz)⟩, els.length, rfl, .inr ⟨h.length, 0, ⟨els.flatten, sz, false⟩, by rw [this], ?_, rfl, by simp [this], ?_, Nat.le_refl _⟩⟩
  · rw [List.getElem?_append_right (Nat.le_refl _), Nat.sub_self]; rfl
  · rw [List.drop_zero, List.take_of_length_le (by rw [this]; exact Nat.le_refl _)]
theorem reps_flat (n : Nat) (z : List Value) : reps n z = (List.replicate n z).flatten := by
  induction n with
  | zero => rfl
  | succ n ih => rw [reps, ih, List.replicate_succ, List.flatten_cons]
theorem rowAt_rowOf {l : Hp} {sz o : Nat} {els : List (List Value)} {sp : Option Nat} (hl : ∀ e ∈ els, e.length = sz) : rowAt (rowOf sz els :: l) ⟨0, o, sp⟩ = if sp = some (els.length * sz) then some ⟨els.flatten, sz, false⟩ else none := by
  simp [rowOf, ← flat_len hl]
theorem encJ_len (js : List Job) : ∀ e ∈ js.map encJ, e.length = 4 := by
  intro e he
  obtain ⟨j, _, rfl⟩ := List.mem_map.1 he
  rfl
def zJ : Job := ⟨0, 0, 0, 0⟩
theorem set_next {α : Type} {xs : List α} {i : Nat} {x z : α} (h : xs[i]? = some x) : (xs.take i ++ List.replicate (xs.length - i) z).set i x = xs.take (i + 1) ++ List.replicate (xs.length - (i + 1)) z := by
  have hi := (List.getElem?_eq_some_iff.1 h).1
  have h1 : (xs.take i).length = i := by simp; omega
  rw [take_succ' h, show xs.length - i = (xs.length - (i + 1)) + 1 by omega, List.replicate_succ]
  have := List.set_append_right (s := xs.take i) (t := z :: List.replicate (xs.length - (i + 1)) z) (i := i) (x := x) (by omega)
  rw [this, h1, Nat.sub_self]
  simp
/-- Storing an element into a row that is one's own. -/
theorem rowOf_st {h l : Hp} {sz n i : Nat} {els : List (List Value)} {t : TypeId} {w : Value} (hl : ∀ e ∈ els, e.length = sz) (hn : els.length = n) (hi : i < n) (hq : (P.info? t).map (·.size) = some sz) (hw : w.cells.size = sz) (ho : w.cells.toList.all one = true) :
    storeP P (h ++ rowOf sz els :: l) t w (.pointer (some ⟨h.length, i * sz, some (n * sz)⟩)) = some (h ++ rowOf sz (els.set i w.cells.toList) :: l) := by
  obtain ⟨q, hq, hz⟩ := Option.map_eq_some_iff.1 hq
  have hle : (i + 1) * sz ≤ n * sz := Nat.mul_le_mul_right _ hi
  rw [Nat.succ_mul] at hle
  have hf := flat_len hl
  rw [hn] at hf
  rw [storeP_app0, rowAt_rowOf hl, hn, if_pos rfl, Option.bind_some]
  simp only [rowStore, hq]
  rw [if_pos ⟨trivial, by rw [hw, hz], by rw [hz, hf]; omega, ho⟩]
  simp only [Option.map_some, splice_flat hl (show i < els.length by omega) (show w.cells.toList.length = sz by simpa using hw)]
  rfl
theorem rowOf_idx {h l : Hp} {sz n c : Nat} {els : List (List Value)} {ty e : TypeId} (hl : ∀ e ∈ els, e.length = sz) (hn : els.length = n) (hu : P.underlying ty = some (.slice e)) (hq : (P.info? e).map (·.size) = some sz) {j : Int} (h0 : 0 ≤ j) (h1 : j < n) :
    indexAddrP P (h ++ rowOf sz els :: l) ty (.slice (some ⟨h.length, 0, some (n * sz)⟩) n c) (.int .i64 j) = some (.pointer (some ⟨h.length, j.toNat * sz, some (n * sz)⟩)) := by
  obtain ⟨q, hq, hz⟩ := Option.map_eq_some_iff.1 hq
  rw [indexAddrP_some, hu]
  simp only [hq, rowAt_app0, rowAt_rowOf hl, hn, if_true, h0, h1, and_self, hz, addP_mk, Nat.zero_add]
theorem toJobS_run {h : Hp} {v : Value} {js : List Job} (hj : Jobs h v js) (hn : js.length ≤ 2 ^ 40) :
    Ret P G n_laws_toJobS [v] h (.slice (some ⟨h.length, 0, some (js.length * 4)⟩) js.length js.length) (h ++ [rowOf 4 (js.map encJ)]) := by
  refine enter_run e_laws_toJobS (by simp) ?_
  obtain ⟨oj, cj, rfl⟩ := hj.shapeT
  have hlen : (List.replicate js.length (encJ zJ)).flatten.length = js.length * 4 := by
    rw [flat_len (sz := 4) (fun e he => by rw [List.eq_of_mem_replicate he]; rfl), List.length_replicate]
  have mk : makeP P h 29 (.int .i64 js.length) (.int .i64 js.length) = some (.slice (some ⟨h.length, 0, some (js.length * 4)⟩) js.length js.length, h ++ [rowOf 4 (List.replicate js.length (encJ zJ))]) := by
    have hr : reps js.length [.int .i64 0, .int .i64 0, .int .i64 0, .int .i64 0] = (List.replicate js.length (encJ zJ)).flatten := reps_flat ..
    simp only [makeP, u29, asI, ti_58_eq, zeroP, ti_58_zero, ti_58_size, ti_58_bytes, newP, rowOf]
    rw [if_pos (by simp [plain, plainC, Value.cells])]
    simp only [Int.toNat_natCast, Value.cells, hr, hlen, ti_58_size, ti_58_bytes]
    rw [if_pos ⟨by omega, Int.le_refl _, by omega, by omega, by omega, by omega⟩]
  simp -implicitDefEqProofs [mk]
  refine R_loop (fun m s h' => ∃ (i : Nat), i + m = js.length ∧ s = [(0, .slice oj js.length cj), (3, .slice (some ⟨h.length, 0, some (js.length * 4)⟩) js.length js.length), (4, .int .i64 i)] ∧ h' = h ++ [rowOf 4 ((js.map encJ).take i ++ List.replicate ((js.map encJ).length - i) (encJ zJ))]) (fun m s h' => ?_) ⟨0, Nat.zero_add _, by simp, by simp⟩
  rintro ⟨i, hi, rfl, rfl⟩
  have hE : ∀ e ∈ ((js.map encJ).take i ++ List.replicate ((js.map encJ).length - i) (encJ zJ)), e.length = 4 := by
    intro e he
    rcases List.mem_append.1 he with he | he
    · exact encJ_len js e (List.mem_of_mem_take he)
    · rw [List.eq_of_mem_replicate he]; rfl
  have hEl : ((js.map encJ).take i ++ List.replicate ((js.map encJ).length - i) (encJ zJ)).length = js.length := by simp; omega
  by_cases hlt : i < js.length
  · obtain ⟨y, hy, hd⟩ := drop_at hlt
    have w0 : IntKind.i64.wrap (i + 1) = ((i : Int) + 1) := by rw [wrap_ok] <;> omega
    have nx := set_next (z := encJ zJ) (show (js.map encJ)[i]? = some (encJ y) by simp [hy])
    generalize hG : ((js.map encJ).take i ++ List.replicate ((js.map encJ).length - i) (encJ zJ)) = E at hE hEl nx ⊢
    have hj2 := Sees.ext hj [rowOf 4 E]
    have f1 := rowOf_idx (h := h) (l := []) (c := js.length) hE hEl u29 i58 (j := i) (by omega) (by omega)
    rw [show (i : Int).toNat = i by omega] at f1
    have f2 := rowOf_st (h := h) (l := []) (i := i) (w := jv y) hE hEl hlt i58 rfl rfl
    rw [show (jv y).cells.toList = encJ y from rfl, nx] at f2
    simp -implicitDefEqProofs [-storeP_app0, -indexAddrP_some, -rowAt_app0, hlt, jobs0_idx hj2 hlt, jobs0_agg hj2 hy, CL_ret toJob_run, f1, f2, w0]
    exact ⟨m - 1, by omega, i + 1, by omega, by omega, rfl⟩
  · have hi2 : i = js.length := by omega
    simp -implicitDefEqProofs [hlt, gc_slice]
    have : (js.map encJ).take js.length = js.map encJ := List.take_of_length_le (by simp)
    simp [hi2, this]
end Go.Pm.PP
