/- Arguments as rows that are only read. -/
import Derived.Test.YtagofldjmcaalaaPmS
set_option linter.unusedVariables false
set_option linter.unusedSimpArgs false
namespace Go.Pm
variable {ρ : Mp} {h : Hp} {w : World}
def AllRo (h : Hp) : Prop := ∀ (r : Nat) (x : Row), h[r]? = some (some x) → x.ro = true
theorem Rel.nil {w : World} : Rel (fun _ => none) [] w := ⟨fun r x p h => by simp at h, fun r x p h => by simp at h, fun r r' x x' p p' h => by simp at h, fun r p h => by cases h⟩
theorem AllRo.nil : AllRo [] := fun r x h => by simp at h
/-- One row more that is only read. -/
theorem add_row (R : Rel ρ h w) (ha : AllRo h) (cells : List Value) (sz : Nat) (p : Place) (hc : ∀ (k : Nat) c, cells[k]? = some c → ∃ c', w.cell? ⟨p.b, p.d + k, none⟩ = some c' ∧ VR ρ h c c') :
    ∃ ρ2, Rel ρ2 (h ++ [some ⟨cells, sz, true⟩]) w ∧ AllRo (h ++ [some ⟨cells, sz, true⟩]) ∧ Step ρ h ρ2 (h ++ [some ⟨cells, sz, true⟩]) ∧ ρ2 h.length = some p := by
  have old : ∀ {r : Nat} {x : Row}, (h ++ [some ⟨cells, sz, true⟩])[r]? = some (some x) → (r < h.length ∧ h[r]? = some (some x)) ∨ (r = h.length ∧ x = ⟨cells, sz, true⟩) := by
    intro r x hx
    rcases Nat.lt_or_ge r h.length with hr | hr
    · rw [List.getElem?_append_left hr] at hx; exact .inl ⟨hr, hx⟩
    · rw [List.getElem?_append_right hr] at hx
      have : r - h.length = 0 := by
        have := (List.getElem?_eq_some_iff.1 hx).1
        simp at this; omega
      rw [this] at hx
      simp at hx
      exact .inr ⟨by omega, hx.symm⟩
  have st : Step ρ h (fun r => if r = h.length then some p else ρ r) (h ++ [some ⟨cells, sz, true⟩]) := by
    refine ⟨fun r x q hx hq => ?_, fun a ⟨L, h1, h2, h3⟩ => ⟨L, h1, by simp; omega, fun x hx => ?_⟩⟩
    · have hr := (List.getElem?_eq_some_iff.1 hx).1
      exact .inl ⟨x, by rw [List.getElem?_append_left hr]; exact hx, rfl, rfl, rfl, by rw [if_neg (by omega)]; exact hq⟩
    · rcases old hx with ⟨_, h4⟩ | ⟨h4, _⟩
      · exact h3 x h4
      · omega
  have aro : AllRo (h ++ [some ⟨cells, sz, true⟩]) := fun r x hx => by
    rcases old hx with ⟨_, h4⟩ | ⟨_, rfl⟩
    · exact ha r x h4
    · rfl
  refine ⟨_, ⟨fun r x q hx hq hro => ?_, fun r x q hx hq hro k v hk => ?_, fun r r' x x' q q' hx hx' hq hq' hro => ?_, fun r q hq => ?_⟩, aro, st, if_pos rfl⟩
  · rw [aro r x hx] at hro; cases hro
  · rcases old hx with ⟨hr, h4⟩ | ⟨rfl, rfl⟩
    · have hq2 : ρ r = some q := by
        have hq1 : (if r = h.length then some p else ρ r) = some q := hq
        rwa [if_neg (by omega)] at hq1
      obtain ⟨v', h5, h6⟩ := R.ro r x q h4 hq2 hro k v hk
      exact ⟨v', h5, h6.step st⟩
    · have hq1 : (if h.length = h.length then some p else ρ h.length) = some q := hq
      rw [if_pos rfl] at hq1
      cases hq1
      obtain ⟨v', h5, h6⟩ := hc k v hk
      exact ⟨v', h5, h6.step st⟩
  · rw [aro r x hx] at hro; cases hro
  · have hq1 : (if r = h.length then some p else ρ r) = some q := hq
    by_cases hr : r = h.length
    · simp; omega
    · rw [if_neg hr] at hq1
      have := R.dom r q hq1
      simp; omega
/-- What a model's slice shows. -/
def Shows (ρ : Mp) (h : Hp) (w : World) (sz : Nat) (els : List (List Value)) (v' : Value) : Prop :=
  (v' = .slice none 0 0 ∧ els = []) ∨ ∃ (a : Addr) (cap : Nat), v' = .slice (some a) els.length cap ∧ els.length ≤ cap ∧ (cap = 0 ∨ a.spot = none) ∧
    ∀ (k : Nat) c, els.flatten[k]? = some c → ∃ c', w.cell? (a.add k) = some c' ∧ VR ρ h c c'
theorem add_at {a : Addr} (hs : a.spot = none) (k : Nat) : a.add k = ⟨a.block, a.off + k, none⟩ := by
  unfold Addr.add
  split
  · rename_i h0; subst h0; cases a; simp at hs; simp [hs]
  · rfl
theorem add_slice {sz : Nat} {els : List (List Value)} {v' : Value} (hl : ∀ e ∈ els, e.length = sz) (R : Rel ρ h w) (ha : AllRo h) (s : Shows ρ h w sz els v') :
    ∃ h2 ρ2 v, h <+: h2 ∧ Rel ρ2 h2 w ∧ AllRo h2 ∧ Step ρ h ρ2 h2 ∧ VR ρ2 h2 v v' ∧ Sees h2 v sz els := by
  rcases s with ⟨rfl, rfl⟩ | ⟨a, cap, rfl, hcap, hsp, hc⟩
  · exact ⟨h, ρ, .slice none 0 0, List.prefix_rfl, R, ha, Step.refl _ _, .nilSlice, by simp, none, 0, rfl, .inl ⟨rfl, rfl, rfl⟩⟩
  · have hcells : ∀ (k : Nat) c, els.flatten[k]? = some c → ∃ c', w.cell? ⟨a.block, a.off + k, none⟩ = some c' ∧ VR ρ h c c' := by
      intro k c hk
      rcases hsp with h0 | hs
      · have : els = [] := List.eq_nil_of_length_eq_zero (by omega)
        rw [this] at hk; simp at hk
      · rw [← add_at hs]; exact hc k c hk
    obtain ⟨ρ2, R2, ha2, st, hρ⟩ := add_row R ha els.flatten sz ⟨a.block, a.off, 0⟩ hcells
    have hrow : (h ++ [some ⟨els.flatten, sz, true⟩])[h.length]? = some (some ⟨els.flatten, sz, true⟩) := by simp
    refine ⟨_, ρ2, .slice (some ⟨h.length, 0, some els.flatten.length⟩) els.length els.length, List.prefix_append .., R2, ha2, st, ?_, hl, _, _, rfl, .inr ⟨h.length, 0, ⟨els.flatten, sz, true⟩, rfl, hrow, rfl, by rw [flat_len hl]; omega, by rw [List.drop_zero, List.take_of_length_le (by rw [flat_len hl]; exact Nat.le_refl _)], Nat.le_refl _⟩⟩
    rcases hsp with h0 | hs
    · have h1 : els.length = 0 := by omega
      rw [h0]
      have := VR.slZero (ρ := ρ2) h.length 0 ⟨els.flatten, sz, true⟩ ⟨a.block, a.off, 0⟩ a hrow hρ
      rw [h1]
      exact this
    · have := VR.sl (ρ := ρ2) h.length 0 ⟨els.flatten, sz, true⟩ ⟨a.block, a.off, 0⟩ els.length els.length cap hrow hρ (Nat.le_refl _) hcap (by simp)
      have e : (⟨a.block, a.off + 0, none⟩ : Addr) = a := by cases a; simp at hs; simp [hs]
      rw [e] at this
      exact this
end Go.Pm
