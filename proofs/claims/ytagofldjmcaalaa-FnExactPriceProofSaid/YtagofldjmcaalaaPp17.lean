/- The plain law of PriceProof: jobs, sets, prices. -/
import Derived.Test.YtagofldjmcaalaaPp13
set_option linter.unusedVariables false
set_option linter.unusedSimpArgs false
namespace Go.Pm.PP
open Go.Pm
theorem upL_some {lo hi : Int} : ∀ {xs : List Int} {p : Int}, upL lo hi xs (some p) = (xs.all (fun x => inB x lo hi) && risingL (p :: xs))
  | [], p => rfl
  | x :: r, p => by
    rw [upL_cons1, upL_some, List.all_cons, risingL]
    cases inB x lo hi <;> cases decide (p ≥ x) <;> cases (r.all fun x => inB x lo hi) <;> rfl
theorem upL_none {lo hi : Int} {xs : List Int} : upL lo hi xs none = (xs.all (fun x => inB x lo hi) && risingL xs) := by
  cases xs with
  | nil => rfl
  | cons x r =>
    rw [upL_cons0, upL_some, List.all_cons]
    cases inB x lo hi <;> cases (r.all fun x => inB x lo hi) <;> rfl
theorem rising_pw : ∀ {xs : List Int}, risingL xs = true → xs.Pairwise (· < ·)
  | [], _ => List.Pairwise.nil
  | [x], _ => by simp
  | x :: y :: r, h => by
    rw [risingL, Bool.and_eq_true] at h
    have ih := rising_pw h.2
    have hxy : x < y := by simpa using h.1
    rw [List.pairwise_cons]
    refine ⟨fun z hz => ?_, ih⟩
    rcases List.mem_cons.1 hz with rfl | hz
    · exact hxy
    · have := (List.pairwise_cons.1 ih).1 z hz; omega
theorem set_eq {n : Nat} {xs : List Int} (hn : n ≤ 2 ^ 40) : (risingL xs && diffL n [] xs) = upL 0 ((n : Int) - 1) xs none := by
  rw [upL_none]
  cases h : risingL xs with
  | false => simp
  | true =>
    rw [Bool.true_and, Bool.and_true, Bool.eq_iff_iff, diffL_iff hn, List.all_eq_true]
    constructor
    · rintro ⟨h1, _⟩ x hx
      have := h1 x hx
      exact inB_iff.2 (by omega)
    · intro h1
      refine ⟨fun x hx => ?_, (rising_pw h).imp (fun h => by omega), by simp⟩
      have := inB_iff.1 (h1 x hx); omega
theorem ok_eq {n : Nat} (hn : n ≤ 2 ^ 40) {x : SP} : okS n x = priceOk n x := by
  unfold okS priceOk
  rw [set_eq hn]
  cases upL 0 ((n : Int) - 1) x.s none <;> cases (x.s.length : Int) == 0 <;> rfl
theorem ok_inside {n : Nat} (hn : n ≤ 2 ^ 40) {x : SP} (h : priceOk n x = true) : inside n x.s := by
  unfold priceOk at h
  simp only [Bool.and_eq_true] at h
  exact ((diffL_iff hn).1 h.1.1.2).1
theorem cmp_less {n : Nat} (hn : n ≤ 2 ^ 40) : ∀ {a b : List Int}, inside n a → inside n b → a.length = b.length → decide (cmpL a b ≥ 0) = !lessL a b
  | [], [], _, _, _ => rfl
  | x :: a, y :: b, ha, hb, hl => by
    have h1 := ha x (List.mem_cons_self ..)
    have h2 := hb y (List.mem_cons_self ..)
    have ih := cmp_less hn (fun z hz => ha z (List.mem_cons_of_mem _ hz)) (fun z hz => hb z (List.mem_cons_of_mem _ hz)) (by simpa using hl)
    rw [cmpL_cons, lessL_cons]
    cases h3 : x != y with
    | false => simpa using ih
    | true =>
      rw [if_pos rfl, if_pos rfl, w64_ok (by omega) (by omega)]
      by_cases h4 : x < y
      · simp [h4]
      · simp [h4]; omega
theorem after_eq {n : Nat} (hn : n ≤ 2 ^ 40) {a b : List Int} (ha : inside n a) (hb : inside n b) : l4LessL a b = after1 a b := by
  unfold l4LessL after1
  by_cases h : a.length = b.length
  · rw [cmp_less hn ha hb h]
    simp [h]
  · have h1 : ((a.length : Int) != b.length) = true := by simp; omega
    have h2 : ((a.length : Int) == b.length) = false := beq_eq_false_iff_ne.2 (by omega)
    rw [h1, h2, if_pos rfl]
    by_cases h3 : a.length < b.length
    · simp [h3]; omega
    · simp [h3]; omega
theorem prices_eq {n : Nat} (hn : n ≤ 2 ^ 40) : ∀ {ps : List SP} {p : Option SP}, (∀ a, p = some a → inside n a.s) → pricesS n ps p = pricesL n ps p
  | [], p, _ => rfl
  | x :: r, p, hp => by
    cases hx : priceOk n x with
    | false => cases p <;> simp [pricesS_cons0, pricesS_cons1, pricesL_cons0, pricesL_cons1, ok_eq hn, hx]
    | true =>
      have hin := ok_inside hn hx
      have ih := prices_eq hn (ps := r) (p := some x) (fun a e => by cases e; exact hin)
      cases p with
      | none => rw [pricesS_cons0, pricesL_cons0, ok_eq hn, ih]
      | some a => rw [pricesS_cons1, pricesL_cons1, ok_eq hn, ih, after_eq hn (hp a rfl) hin]
theorem prices_inside {n : Nat} (hn : n ≤ 2 ^ 40) : ∀ {ps : List SP} {p : Option SP}, pricesL n ps p = true → ∀ x ∈ ps, inside n x.s
  | [], p, _, x, hx => by cases hx
  | y :: r, p, h, x, hx => by
    have h2 : priceOk n y = true ∧ pricesL n r (some y) = true := by
      cases p with
      | none => rw [pricesL_cons0] at h; simp only [Bool.and_eq_true] at h; exact ⟨h.1.1, h.2⟩
      | some a => rw [pricesL_cons1] at h; simp only [Bool.and_eq_true] at h; exact ⟨h.1.1, h.2⟩
    rcases List.mem_cons.1 hx with rfl | hx
    · exact ok_inside hn h2.1
    · exact prices_inside hn h2.2 x hx
theorem good_eq {js : List Job} : l6GoodL js = (decide (js.length ≤ 8) && goodL js && plainL js) := by
  unfold l6GoodL
  cases h : goodL js with
  | false => simp
  | true =>
    have : freeL js = plainL js := by
      have h1 : ∀ j ∈ js, 0 ≤ j.r := by
        intro j hj
        have := List.all_eq_true.1 h j hj
        simp only [jobOk, Bool.and_eq_true, inB_iff] at this
        omega
      rw [Bool.eq_iff_iff, freeL, plainL, List.all_eq_true, List.all_eq_true]
      constructor
      · intro h2 j hj
        have := h2 j hj; have := h1 j hj
        simp at *
        omega
      · intro h2 j hj
        have := h2 j hj
        simp at *
        omega
    rw [this]
    cases decide (js.length ≤ 8) <;> rfl
theorem ok_same {js : List Job} {ps : List SP} {sc : Int} {xs : List Int} : specOk js ps sc xs = implOk js ps sc xs := by
  unfold specOk implOk
  rw [good_eq]
  by_cases h8 : js.length ≤ 8
  · rw [order_eq h8, prices_eq (by omega) (by simp)]
  · simp [h8]
/-! ### ends -/
theorem most_eq {e r : Int} : (if e < r then r else e) = most e r := by unfold most; split <;> split <;> omega
theorem implGo_get {js : List Job} : ∀ {xs ys zs : List Int} {e : Int}, ys.length = js.length → zs.length = js.length → inside js.length xs →
    ∀ k, k < js.length → ((∃ o ∈ xs, o.toNat = k) ∨ zs.getD k 0 = w64 (ys.getD k 0 + (jobAt js k).t)) → (implGo js xs zs e).getD k 0 = w64 ((startsGo js xs ys e).getD k 0 + (jobAt js k).t)
  | [], ys, zs, e, hy, hz, hin, k, hk, h => by
    rcases h with ⟨o, ho, _⟩ | h
    · cases ho
    · exact h
  | o :: r, ys, zs, e, hy, hz, hin, k, hk, h => by
    have ho := hin o (List.mem_cons_self ..)
    rw [implGo_cons, startsGo_cons, most_eq]
    refine implGo_get (by simpa using hy) (by simpa using hz) (fun x hx => hin x (List.mem_cons_of_mem _ hx)) k hk ?_
    by_cases hok : o.toNat = k
    · right
      subst hok
      have h1 : ((o.toNat : Nat) : Int) = o := Int.toNat_of_nonneg ho.1
      rw [h1]
      simp [List.getD_eq_getElem?_getD, hy, hz, hk]
    · rcases h with ⟨p, hp, hpk⟩ | h
      · rcases List.mem_cons.1 hp with rfl | hp
        · exact absurd hpk hok
        · exact .inl ⟨p, hp, hpk⟩
      · right
        simpa [List.getD_eq_getElem?_getD, List.getElem?_set_ne hok] using h
theorem endsGo_get {js : List Job} : ∀ (m i : Nat) {ys : List Int}, i + m = js.length → ys.length = js.length → ∀ k, k < js.length → (endsGo (js.drop i) i ys).getD k 0 = if i ≤ k then w64 (ys.getD k 0 + (jobAt js k).t) else ys.getD k 0
  | 0, i, ys, hi, hy, k, hk => by
    rw [List.drop_eq_nil_of_le (by omega), endsGo, if_neg (by omega)]
  | m + 1, i, ys, hi, hy, k, hk => by
    obtain ⟨j, hj, hd⟩ := drop_at (show i < js.length by omega)
    have hja : jobAt js i = j := by unfold jobAt; simp [hj]
    rw [hd, endsGo_cons, endsGo_get m (i + 1) (by omega) (by simpa using hy) k hk]
    by_cases h : k = i
    · subst h
      rw [if_neg (by omega), if_pos (Nat.le_refl _), hja]
      simp [List.getD_eq_getElem?_getD, hy, hk]
    · have h2 : (ys.set i (w64 (ys.getD i 0 + j.t))).getD k 0 = ys.getD k 0 := by
        rw [List.getD_eq_getElem?_getD, List.getElem?_set_ne (fun e => h e.symm), ← List.getD_eq_getElem?_getD]
      rw [h2]
      by_cases h3 : i ≤ k
      · rw [if_pos (by omega), if_pos h3]
      · rw [if_neg (by omega), if_neg h3]
theorem ends_eq {js : List Job} {xs : List Int} (hin : inside js.length xs) (hall : ∀ k, k < js.length → (k : Int) ∈ xs) : endsI js xs = endsS js xs := by
  refine List.ext_getElem? fun k => ?_
  rcases Nat.lt_or_ge k js.length with hk | hk
  · have h1 := implGo_get (js := js) (xs := xs) (ys := List.replicate js.length 0) (zs := List.replicate js.length 0) (e := 0) (by simp) (by simp) hin k hk (.inl ⟨k, hall k hk, by simp⟩)
    have h2 := endsGo_get (js := js) js.length 0 (ys := startsL js xs) (by simp) startsL_len k hk
    rw [List.drop_zero, if_pos (Nat.zero_le _)] at h2
    have h3 : (endsI js xs).getD k 0 = (endsS js xs).getD k 0 := h1.trans h2.symm
    have a1 : k < (endsI js xs).length := by rw [endsI_len]; exact hk
    have a2 : k < (endsS js xs).length := by rw [endsS_len]; exact hk
    rw [List.getD_eq_getElem?_getD, List.getD_eq_getElem?_getD, List.getElem?_eq_getElem a1, List.getElem?_eq_getElem a2] at h3
    rw [List.getElem?_eq_getElem a1, List.getElem?_eq_getElem a2]
    exact congrArg some h3
  · rw [List.getElem?_eq_none (by rw [endsI_len]; exact hk), List.getElem?_eq_none (by rw [endsS_len]; exact hk)]
theorem val_same {js : List Job} {ps : List SP} {sc : Int} {xs : List Int} (h : implOk js ps sc xs = true) : specV js ps sc xs = implV js ps sc xs := by
  have h0 := h
  unfold implOk at h
  simp only [Bool.and_eq_true, decide_eq_true_eq] at h
  have h8 : js.length ≤ 8 := h.1.1.1.1.1
  have ho := h.2
  have ho1 : ((xs.length : Int) == js.length && diffL js.length [] xs) = true := by rw [Bool.and_eq_true]; exact ho
  have hin := ((diffL_iff (by omega)).1 ho.2).1
  rw [order_eq h8, l2OrderL] at ho1
  simp only [Bool.and_eq_true] at ho1
  have hl : xs.length = js.length := by have := beq_iff_eq.1 ho.1; omega
  have hall : ∀ k, k < js.length → (k : Int) ∈ xs := fun k hk => hasL_iff.1 (List.all_eq_true.1 ho1.2 k (List.mem_range.2 (by omega)))
  unfold specV implV
  rw [ends_eq hin hall]
end Go.Pm.PP
