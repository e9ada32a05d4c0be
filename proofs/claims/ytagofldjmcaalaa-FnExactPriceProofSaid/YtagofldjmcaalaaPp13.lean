/- The plain law of PriceProof: no program in sight. -/
import Derived.Test.YtagofldjmcaalaaPp11
set_option linter.unusedVariables false
set_option linter.unusedSimpArgs false
namespace Go.Pm.PP
open Go.Pm
theorem w64_ok {n : Int} (h1 : -9223372036854775808 ≤ n) (h2 : n ≤ 9223372036854775807) : w64 n = n := wrap_ok h1 h2
theorem inB_iff {x a b : Int} : inB x a b = true ↔ a ≤ x ∧ x ≤ b := by simp [inB]
theorem hasL_iff {x : Int} {xs : List Int} : hasL x xs = true ↔ x ∈ xs := by
  simp [hasL]
/-! ### pigeons -/
theorem pigeon : ∀ (S xs : List Int), S.Nodup → (∀ x ∈ S, x ∈ xs) → xs.length ≤ S.length → ∀ y ∈ xs, y ∈ S
  | [], xs, _, _, hl, y, hy => by
    have : xs = [] := List.eq_nil_of_length_eq_zero (by simpa using hl)
    rw [this] at hy; cases hy
  | a :: S, xs, hnd, hs, hl, y, hy => by
    rw [List.nodup_cons] at hnd
    have ha := hs a (List.mem_cons_self ..)
    by_cases hya : y = a
    · rw [hya]; exact List.mem_cons_self ..
    · refine List.mem_cons_of_mem _ (pigeon S (xs.erase a) hnd.2 (fun x hx => ?_) ?_ y ((List.mem_erase_of_ne hya).2 hy))
      · have hxa : x ≠ a := fun e => hnd.1 (e ▸ hx)
        exact (List.mem_erase_of_ne hxa).2 (hs x (List.mem_cons_of_mem _ hx))
      · rw [List.length_erase_of_mem ha]
        simp only [List.length_cons] at hl
        omega
theorem pigeon2 : ∀ (S xs : List Int), S.Nodup → (∀ x ∈ S, x ∈ xs) → xs.length ≤ S.length → xs.Nodup
  | [], xs, _, _, hl => by
    have : xs = [] := List.eq_nil_of_length_eq_zero (by simpa using hl)
    rw [this]; exact List.nodup_nil
  | a :: S, xs, hnd, hs, hl => by
    have hnd' := List.nodup_cons.1 hnd
    have ha := hs a (List.mem_cons_self ..)
    have h1 : ∀ x ∈ S, x ∈ xs.erase a := fun x hx => by
      have hxa : x ≠ a := fun e => hnd'.1 (e ▸ hx)
      exact (List.mem_erase_of_ne hxa).2 (hs x (List.mem_cons_of_mem _ hx))
    have h2 : (xs.erase a).length ≤ S.length := by
      rw [List.length_erase_of_mem ha]
      simp only [List.length_cons] at hl
      omega
    have h3 := pigeon2 S (xs.erase a) hnd'.2 h1 h2
    have h4 := pigeon S (xs.erase a) hnd'.2 h1 h2
    exact (List.perm_cons_erase ha).nodup_iff.2 (List.nodup_cons.2 ⟨fun h => hnd'.1 (h4 a h), h3⟩)
def upTo (n : Nat) : List Int := (List.range n).map fun i : Nat => (i : Int)
theorem mem_upTo {n : Nat} {x : Int} : x ∈ upTo n ↔ 0 ≤ x ∧ x < n := by
  simp only [upTo, List.mem_map, List.mem_range]
  constructor
  · rintro ⟨i, hi, rfl⟩; omega
  · rintro ⟨h1, h2⟩; exact ⟨x.toNat, by omega, by omega⟩
theorem upTo_nodup (n : Nat) : (upTo n).Nodup := by
  refine List.Pairwise.map _ (fun a b h e => h ?_) List.nodup_range
  omega
theorem upTo_len (n : Nat) : (upTo n).length = n := by simp [upTo]
/-! ### orders -/
theorem diffL_iff {n : Nat} (hn : n ≤ 2 ^ 40) : ∀ {xs pre : List Int}, diffL n pre xs = true ↔ (∀ x ∈ xs, 0 ≤ x ∧ x < n) ∧ xs.Nodup ∧ ∀ x ∈ xs, x ∉ pre
  | [], pre => by simp [diffL]
  | x :: r, pre => by
    have hw : w64 ((n : Int) - 1) = n - 1 := w64_ok (by omega) (by omega)
    rw [diffL, Bool.and_eq_true, Bool.and_eq_true, hw, inB_iff, diffL_iff hn, Bool.not_eq_true', List.nodup_cons]
    have hh : hasL x pre = false ↔ x ∉ pre := by
      rw [← hasL_iff]; cases hasL x pre <;> simp
    rw [hh]
    constructor
    · rintro ⟨⟨⟨h1, h2⟩, h3⟩, h4, h5, h6⟩
      refine ⟨fun y hy => ?_, ⟨fun hx => ?_, h5⟩, fun y hy => ?_⟩
      · rcases List.mem_cons.1 hy with rfl | hy
        · omega
        · exact h4 y hy
      · exact h6 x hx (by simp)
      · rcases List.mem_cons.1 hy with rfl | hy
        · exact h3
        · exact fun hp => h6 y hy (by simp [hp])
    · rintro ⟨h1, ⟨h2, h3⟩, h4⟩
      have := h1 x (List.mem_cons_self ..)
      refine ⟨⟨by omega, h4 x (List.mem_cons_self ..)⟩, fun y hy => h1 y (List.mem_cons_of_mem _ hy), h3, fun y hy => ?_⟩
      simp only [List.mem_append, List.mem_singleton, not_or]
      exact ⟨h4 y (List.mem_cons_of_mem _ hy), fun e => h2 (e ▸ hy)⟩
theorem order_eq {n : Nat} {xs : List Int} (hn : n ≤ 8) : (((xs.length : Int) == n) && diffL n [] xs) = l2OrderL n xs := by
  have h1 : inB (n : Int) 0 8 = true := inB_iff.2 (by omega)
  rw [l2OrderL, h1, Bool.true_and]
  cases h2 : ((xs.length : Int) == n) with
  | false => rfl
  | true =>
    have hl : xs.length = n := by have := beq_iff_eq.1 h2; omega
    rw [Bool.true_and, Bool.true_and, Bool.eq_iff_iff, diffL_iff (by omega)]
    constructor
    · rintro ⟨h3, h4, _⟩
      refine List.all_eq_true.2 fun i hi => hasL_iff.2 ?_
      have hi := List.mem_range.1 hi
      exact pigeon xs (upTo n) h4 (fun x hx => mem_upTo.2 (h3 x hx)) (by rw [upTo_len]; omega) i (mem_upTo.2 (by omega))
    · intro h3
      have h4 : ∀ i : Nat, i < n → (i : Int) ∈ xs := fun i hi => hasL_iff.1 (List.all_eq_true.1 h3 i (List.mem_range.2 (by omega)))
      have h5 : ∀ x ∈ upTo n, x ∈ xs := fun x hx => by
        have := mem_upTo.1 hx
        have h6 := h4 x.toNat (by omega)
        rwa [show ((x.toNat : Nat) : Int) = x by omega] at h6
      have h6 := pigeon (upTo n) xs (upTo_nodup n) h5 (by rw [upTo_len]; omega)
      exact ⟨fun x hx => mem_upTo.1 (h6 x hx), pigeon2 (upTo n) xs (upTo_nodup n) h5 (by rw [upTo_len]; omega), by simp⟩
end Go.Pm.PP
