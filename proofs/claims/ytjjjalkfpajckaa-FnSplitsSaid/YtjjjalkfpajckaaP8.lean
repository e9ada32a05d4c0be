/- The texts PwXr, PwXs, PwYa, PwYb, PwUy, PwYc, PwYd, PwYe of this work: Split schedules step by step: the choice by least rest has the least sum of ends, the choice by dates the least greatest lateness, in plain terms. -/
import Derived.Test.YtjjjalkfpajckaaP7
/- Split schedules step by step: the choice by least rest has the least sum of ends, the choice by dates the least greatest lateness, in plain terms. -/
set_option linter.unusedVariables false
set_option linter.unusedSimpArgs false
namespace Go.Pm.PP
open Go.Pm Go.Pm.PE
/-! ### sums over numbers -/
def sN : Nat → (Nat → Int) → Int
  | 0, _ => 0
  | n + 1, f => sN n f + f n
theorem sN_le {f g : Nat → Int} : ∀ {n : Nat}, (∀ i, i < n → f i ≤ g i) → sN n f ≤ sN n g
  | 0, _ => Int.le_refl _
  | n + 1, h => by
    have h1 := sN_le (n := n) fun i hi => h i (by omega)
    have h2 := h n (by omega)
    simp only [sN]; omega
theorem sN_congr {f g : Nat → Int} {n : Nat} (h : ∀ i, i < n → f i = g i) : sN n f = sN n g :=
  Int.le_antisymm (sN_le fun i hi => Int.le_of_eq (h i hi)) (sN_le fun i hi => Int.le_of_eq (h i hi).symm)
theorem sN_add {f g : Nat → Int} : ∀ {n : Nat}, sN n (fun i => f i + g i) = sN n f + sN n g
  | 0 => rfl
  | n + 1 => by
    have := @sN_add f g n
    simp only [sN]; omega
theorem sN_nn {f : Nat → Int} {n : Nat} (h : ∀ i, i < n → 0 ≤ f i) : 0 ≤ sN n f := by
  have : sN n (fun _ => 0) = 0 := by
    clear h
    induction n with
    | zero => rfl
    | succ n ih => simp only [sN, ih]; rfl
  rw [← this]; exact sN_le h
theorem sN_upd {f g : Nat → Int} {k : Nat} : ∀ {n : Nat}, k < n → (∀ i, i < n → i ≠ k → f i = g i) → sN n f = sN n g + (f k - g k)
  | 0, hk, _ => by omega
  | n + 1, hk, h => by
    simp only [sN]
    by_cases e : k = n
    · subst e
      have := sN_congr (n := k) fun i hi => h i (by omega) (by omega)
      omega
    · have h1 := sN_upd (n := n) (by omega) fun i hi hne => h i (by omega) hne
      have h2 := h n (by omega) fun g => e g.symm
      omega
theorem sN_pos {f : Nat → Int} : ∀ {n : Nat}, 0 < sN n f → ∃ i, i < n ∧ 0 < f i
  | 0, h => by simp [sN] at h
  | n + 1, h => by
    by_cases c : 0 < f n
    · exact ⟨n, by omega, c⟩
    · simp only [sN] at h
      obtain ⟨i, hi, h2⟩ := sN_pos (n := n) (f := f) (by omega)
      exact ⟨i, by omega, h2⟩
/-! ### schedules by units of time -/
def vq (js : List Job) : List (Int × Int) → Int → List Int → Prop
  | [], _, rs => ∀ i, i < js.length → gE rs i = 0
  | (x, t) :: Q, now, rs => now ≤ t ∧ (0 ≤ x ∧ x < js.length) ∧ (jA js x).r ≤ t ∧ 0 < gE rs x.toNat ∧ vq js Q (t + 1) (rs.set x.toNat (gE rs x.toNat - 1))
theorem vq_le {js : List Job} : ∀ {Q : List (Int × Int)} {now t : Int} {rs : List Int}, vq js Q t rs → now ≤ t → vq js Q now rs
  | [], _, _, _, h, _ => h
  | (x, s) :: Q, now, t, rs, h, hn => ⟨by have := h.1; omega, h.2⟩
theorem vq_done {js : List Job} {k : Nat} (hk : k < js.length) : ∀ {Q : List (Int × Int)} {now : Int} {rs E : List Int}, vq js Q now rs → rs.length = js.length → E.length = js.length → gE rs k = 0 → gE (apS E Q) k = gE E k
  | [], _, _, _, _, _, _, _ => rfl
  | (x, t) :: Q, now, rs, E, h, hl, hE, h0 => by
    obtain ⟨h1, h2, h3, h4, h5⟩ := h
    have hne : k ≠ x.toNat := fun e => by rw [← e, h0] at h4; omega
    rw [apS_cons]
    try dsimp only
    rw [vq_done hk h5 (by rw [List.length_set]; exact hl) (by rw [List.length_set]; exact hE) (by rw [gE_set (by omega), if_neg hne]; exact h0), gE_set (by omega), if_neg hne]
/-- The picks of a choice are such a schedule. -/
theorem picks_vq {o : Int} {js : List Job} (hg : goodL js = true) : ∀ {m : Nat} {now : Int} {rs : List Int}, Ch js rs now m → vq js (picks o js m now rs) now rs := by
  have zero : ∀ {rs : List Int} {now : Int} {m : Nat}, Ch js rs now m → sumL rs ≤ 0 → ∀ i, i < js.length → gE rs i = 0 := fun {rs now m} C hs i g => by
    have hb := C.b _ (gE_mem (show i < rs.length by rw [C.l]; exact g))
    by_cases c : gE rs i = 0
    · exact c
    · exfalso
      have h3 := sumL_set (l := rs) (i := i) (y := gE rs i - 1) (by rw [C.l]; exact g)
      have h4 := sumL_nn (l := rs.set i (gE rs i - 1)) (fun x hx => by
        rcases List.mem_or_eq_of_mem_set hx with q | q
        · exact C.b x q
        · omega)
      omega
  intro m
  induction m with
  | zero => intro now rs C; exact zero C (by have := C.m; omega)
  | succ m ih =>
    intro now rs C
    rw [picks]
    split
    · rename_i hs; exact zero C hs
    · rename_i hs
      rcases pick_cases (o := o) (js := js) (rs := rs) (now := now) with ⟨hp, _⟩ | ⟨b, hp, hb, hb0⟩
      · obtain ⟨_, C2, _⟩ := C.skip hg (by omega) (o := o) (by omega)
        rw [hp, if_pos (by omega)]
        exact vq_le (ih C2) (by omega)
      · obtain ⟨C2, _, _⟩ := C.take (by omega) hb hb0
        have bb := C.b _ (gE_mem (show b < rs.length by rw [C.l]; exact hb))
        rw [hp, if_neg (by omega), Int.toNat_natCast]
        exact ⟨Int.le_refl _, ⟨by omega, by omega⟩, pick_r hp, by rw [Int.toNat_natCast]; omega, by rw [Int.toNat_natCast]; exact ih C2⟩
/-! ### what is unfinished, step by step -/
def unf (n : Nat) (rs : List Int) : Int := sN n fun i => if 0 < gE rs i then 1 else 0
def nxQ (now : Int) (rs : List Int) : List (Int × Int) → List Int × List (Int × Int)
  | [] => (rs, [])
  | (x, t) :: Q => if t = now then (rs.set x.toNat (gE rs x.toNat - 1), Q) else (rs, (x, t) :: Q)
theorem nxQ_cons {now : Int} {rs : List Int} {x t : Int} {Q : List (Int × Int)} : nxQ now rs ((x, t) :: Q) = if t = now then (rs.set x.toNat (gE rs x.toNat - 1), Q) else (rs, (x, t) :: Q) := rfl
def costQ (n : Nat) : Nat → Int → List Int → List (Int × Int) → Int
  | 0, _, _, _ => 0
  | m + 1, now, rs, Q => unf n rs + costQ n m (now + 1) (nxQ now rs Q).1 (nxQ now rs Q).2
theorem nxQ_vq {js : List Job} {now : Int} {rs : List Int} {Q : List (Int × Int)} (h : vq js Q now rs) : vq js (nxQ now rs Q).2 (now + 1) (nxQ now rs Q).1 := by
  cases Q with
  | nil => exact h
  | cons p Q =>
    obtain ⟨x, t⟩ := p
    obtain ⟨h1, h2, h3, h4, h5⟩ := h
    rw [nxQ_cons]
    by_cases c : t = now
    · rw [if_pos c]; rw [← c]; exact h5
    · rw [if_neg c]; exact ⟨by omega, h2, h3, h4, h5⟩
theorem nxQ_len {now : Int} {rs : List Int} {Q : List (Int × Int)} : (nxQ now rs Q).1.length = rs.length := by
  cases Q with
  | nil => rfl
  | cons p Q =>
    obtain ⟨x, t⟩ := p
    rw [nxQ_cons]
    split
    · simp
    · rfl
theorem cost_eq {js : List Job} : ∀ {m : Nat} {now : Int} {rs E : List Int} {Q : List (Int × Int)}, vq js Q now rs → rs.length = js.length → E.length = js.length → (∀ p, p ∈ Q → p.2 < now + m) → (∀ i, i < js.length → 0 ≤ gE rs i) →
    sN js.length (fun i => if 0 < gE rs i then gE (apS E Q) i - now else 0) = costQ js.length m now rs Q
  | 0, now, rs, E, Q, h, hl, hE, ht, hr => by
    cases Q with
    | cons p Q =>
      have h1 : now ≤ p.2 := by obtain ⟨x, t⟩ := p; exact h.1
      have := ht p (List.mem_cons_self ..)
      omega
    | nil =>
      have : sN js.length (fun i => if 0 < gE rs i then gE (apS E []) i - now else 0) = sN js.length (fun _ => 0) := sN_congr fun i hi => by rw [if_neg (by have := h i hi; omega)]
      rw [this]
      have : ∀ n, sN n (fun _ => 0) = 0 := fun n => by
        induction n with
        | zero => rfl
        | succ n ih => simp only [sN, ih]; rfl
      rw [this]; rfl
  | m + 1, now, rs, E, Q, h, hl, hE, ht, hr => by
    rw [costQ]
    have hv := nxQ_vq h
    cases Q with
    | nil =>
      have e : (nxQ now rs ([] : List (Int × Int))) = (rs, []) := rfl
      rw [e] at hv ⊢
      dsimp only at hv ⊢
      rw [← cost_eq (m := m) (E := E) hv hl hE (fun p hp => by cases hp) hr, unf, ← sN_add]
      refine sN_congr fun i hi => ?_
      have h0 : gE rs i = 0 := h i hi
      rw [if_neg (by omega), if_neg (by omega), if_neg (by omega)]; rfl
    | cons p Q =>
      obtain ⟨x, t⟩ := p
      obtain ⟨h1, h2, h3, h4, h5⟩ := h
      by_cases c : t = now
      · have e : (nxQ now rs ((x, t) :: Q)) = (rs.set x.toNat (gE rs x.toNat - 1), Q) := by rw [nxQ_cons]; rw [if_pos c]
        rw [e] at hv ⊢
        dsimp only at hv ⊢
        have hl2 : (rs.set x.toNat (gE rs x.toNat - 1)).length = js.length := by rw [List.length_set]; exact hl
        have hE2 : (E.set x.toNat (t + 1)).length = js.length := by rw [List.length_set]; exact hE
        have hs : ∀ i, gE (rs.set x.toNat (gE rs x.toNat - 1)) i = if i = x.toNat then gE rs x.toNat - 1 else gE rs i := fun i => gE_set (by omega)
        rw [← cost_eq (m := m) (E := E.set x.toNat (t + 1)) hv hl2 hE2 (fun p hp => by have := ht p (List.mem_cons_of_mem _ hp); omega) (fun i hi => by
          have := hr i hi
          rw [hs]; split
          · omega
          · exact this), unf, ← sN_add, apS_cons]
        try dsimp only
        refine sN_congr fun i hi => ?_
        rw [hs]
        by_cases ei : i = x.toNat
        · subst ei
          rw [if_pos h4, if_pos h4, if_pos rfl]
          by_cases c2 : 0 < gE rs x.toNat - 1
          · rw [if_pos c2]; omega
          · rw [if_neg c2, vq_done hi hv hl2 hE2 (by rw [hs, if_pos rfl]; omega), gE_set (by omega), if_pos rfl]; omega
        · rw [if_neg ei]
          by_cases c2 : 0 < gE rs i
          · rw [if_pos c2, if_pos c2, if_pos c2]; omega
          · rw [if_neg c2, if_neg c2, if_neg c2]; rfl
      · have e : (nxQ now rs ((x, t) :: Q)) = (rs, (x, t) :: Q) := by rw [nxQ_cons]; rw [if_neg c]
        rw [e] at hv ⊢
        dsimp only at hv ⊢
        rw [← cost_eq (m := m) (E := E) hv hl hE (fun p hp => by have := ht p hp; omega) hr, unf, ← sN_add]
        refine sN_congr fun i hi => ?_
        by_cases c2 : 0 < gE rs i
        · rw [if_pos c2, if_pos c2, if_pos c2]; omega
        · rw [if_neg c2, if_neg c2, if_neg c2]; rfl
/-! ### the choice by least rest is ahead of each schedule -/
def cR (js : List Job) (now : Int) (A : Nat → Bool) : Int := sN js.length fun i => if (jA js i).r ≤ now ∧ A i = true then 1 else 0
def sR (js : List Job) (now : Int) (rs : List Int) (A : Nat → Bool) : Int := sN js.length fun i => if (jA js i).r ≤ now ∧ A i = false then gE rs i else 0
/-- Whatever some jobs are left out of one, no more left out of the other one leave no more to be done. -/
def Ahead (js : List Job) (now : Int) (ρ σ : List Int) : Prop := (∀ i, i < js.length → now < (jA js i).r → gE ρ i = gE σ i) ∧ ∀ B : Nat → Bool, ∃ A : Nat → Bool, cR js now A ≤ cR js now B ∧ sR js now ρ A ≤ sR js now σ B
theorem ahead_refl {js : List Job} {now : Int} {rs : List Int} : Ahead js now rs rs := ⟨fun _ _ _ => rfl, fun B => ⟨B, Int.le_refl _, Int.le_refl _⟩⟩
theorem ahead_time {js : List Job} {now : Int} {ρ σ : List Int} (D : Ahead js now ρ σ) : Ahead js (now + 1) ρ σ := by
  refine ⟨fun i hi h => D.1 i hi (by omega), fun B => ?_⟩
  obtain ⟨A, h1, h2⟩ := D.2 B
  refine ⟨fun i => if (jA js i).r ≤ now then A i else B i, ?_, ?_⟩
  · have e1 : cR js (now + 1) (fun i => if (jA js i).r ≤ now then A i else B i) = cR js now A + sN js.length (fun i => if (jA js i).r = now + 1 ∧ B i = true then 1 else 0) := by
      unfold cR; rw [← sN_add]
      refine sN_congr fun i _ => ?_
      by_cases c : (jA js i).r ≤ now
      · have c2 : (jA js i).r ≤ now + 1 := by omega
        have c3 : ¬ (jA js i).r = now + 1 := by omega
        simp [c, c2, c3]
      · by_cases c3 : (jA js i).r = now + 1
        · have c2 : (jA js i).r ≤ now + 1 := by omega
          have c4 : ¬ now + 1 ≤ now := by omega
          simp [c2, c3, c4]
        · have c2 : ¬ (jA js i).r ≤ now + 1 := by omega
          simp [c, c2, c3]
    have e2 : cR js (now + 1) B = cR js now B + sN js.length (fun i => if (jA js i).r = now + 1 ∧ B i = true then 1 else 0) := by
      unfold cR; rw [← sN_add]
      refine sN_congr fun i _ => ?_
      by_cases c : (jA js i).r ≤ now
      · have c2 : (jA js i).r ≤ now + 1 := by omega
        have c3 : ¬ (jA js i).r = now + 1 := by omega
        simp [c, c2, c3]
      · by_cases c3 : (jA js i).r = now + 1
        · have c2 : (jA js i).r ≤ now + 1 := by omega
          have c4 : ¬ now + 1 ≤ now := by omega
          simp [c2, c3, c4]
        · have c2 : ¬ (jA js i).r ≤ now + 1 := by omega
          simp [c, c2, c3]
    omega
  · have e1 : sR js (now + 1) ρ (fun i => if (jA js i).r ≤ now then A i else B i) = sR js now ρ A + sN js.length (fun i => if (jA js i).r = now + 1 ∧ B i = false then gE σ i else 0) := by
      unfold sR; rw [← sN_add]
      refine sN_congr fun i hi => ?_
      by_cases c : (jA js i).r ≤ now
      · have c2 : (jA js i).r ≤ now + 1 := by omega
        have c3 : ¬ (jA js i).r = now + 1 := by omega
        simp [c, c2, c3]
      · by_cases c3 : (jA js i).r = now + 1
        · have c2 : (jA js i).r ≤ now + 1 := by omega
          have := D.1 i hi (by omega)
          have c4 : ¬ now + 1 ≤ now := by omega
          simp [c2, c3, c4, this]
        · have c2 : ¬ (jA js i).r ≤ now + 1 := by omega
          simp [c, c2, c3]
    have e2 : sR js (now + 1) σ B = sR js now σ B + sN js.length (fun i => if (jA js i).r = now + 1 ∧ B i = false then gE σ i else 0) := by
      unfold sR; rw [← sN_add]
      refine sN_congr fun i _ => ?_
      by_cases c : (jA js i).r ≤ now
      · have c2 : (jA js i).r ≤ now + 1 := by omega
        have c3 : ¬ (jA js i).r = now + 1 := by omega
        simp [c, c2, c3]
      · by_cases c3 : (jA js i).r = now + 1
        · have c2 : (jA js i).r ≤ now + 1 := by omega
          have c4 : ¬ now + 1 ≤ now := by omega
          simp [c2, c3, c4]
        · have c2 : ¬ (jA js i).r ≤ now + 1 := by omega
          simp [c, c2, c3]
    omega
theorem sR_nn {js : List Job} {now : Int} {rs : List Int} {A : Nat → Bool} (hr : ∀ i, i < js.length → 0 ≤ gE rs i) : 0 ≤ sR js now rs A := sN_nn fun i hi => by
  have := hr i hi
  try dsimp only
  split
  · exact this
  · omega
/-- One step of both. -/
theorem ahead_step {js : List Job} {now : Int} {ρ σ ρ' σ' : List Int} (D : Ahead js now ρ σ) (hρ : ∀ i, i < js.length → 0 ≤ gE ρ i) (hσ' : ∀ i, i < js.length → 0 ≤ gE σ' i)
    (hs : (∀ i, i < js.length → gE σ' i = gE σ i) ∨ ∃ x, x < js.length ∧ (jA js x).r ≤ now ∧ (∀ i, i < js.length → gE σ' i = if i = x then gE σ x - 1 else gE σ i))
    (hp : ((∀ i, i < js.length → gE ρ' i = gE ρ i) ∧ ∀ i, i < js.length → (jA js i).r ≤ now → gE ρ i = 0) ∨ ∃ y, y < js.length ∧ (jA js y).r ≤ now ∧ 0 < gE ρ y ∧ (∀ i, i < js.length → gE ρ' i = if i = y then gE ρ y - 1 else gE ρ i) ∧ ∀ i, i < js.length → (jA js i).r ≤ now → 0 < gE ρ i → gE ρ y ≤ gE ρ i) : Ahead js now ρ' σ' := by
  have far : ∀ i, i < js.length → now < (jA js i).r → gE ρ' i = gE σ' i := fun i hi h => by
    have e1 : gE ρ' i = gE ρ i := by
      rcases hp with ⟨h1, _⟩ | ⟨y, h1, h2, h3, h4, _⟩
      · exact h1 i hi
      · rw [h4 i hi, if_neg (fun e => by subst e; omega)]
    have e2 : gE σ' i = gE σ i := by
      rcases hs with h1 | ⟨x, h1, h2, h3⟩
      · exact h1 i hi
      · rw [h3 i hi, if_neg (fun e => by subst e; omega)]
    rw [e1, e2]; exact D.1 i hi h
  refine ⟨far, fun B => ?_⟩
  obtain ⟨A, h1, h2⟩ := D.2 B
  have s0 : 0 ≤ sR js now σ' B := sR_nn hσ'
  have s1 : sR js now σ B - 1 ≤ sR js now σ' B := by
    rcases hs with g | ⟨x, g1, g2, g3⟩
    · have : sR js now σ' B = sR js now σ B := sN_congr fun i hi => by rw [g i hi]
      omega
    · have := sN_upd (n := js.length) (k := x) (f := fun i => if (jA js i).r ≤ now ∧ B i = false then gE σ' i else 0) (g := fun i => if (jA js i).r ≤ now ∧ B i = false then gE σ i else 0) g1 fun i hi hne => by (try dsimp only); rw [g3 i hi, if_neg hne]
      have e : sR js now σ' B = sR js now σ B + ((if (jA js x).r ≤ now ∧ B x = false then gE σ' x else 0) - (if (jA js x).r ≤ now ∧ B x = false then gE σ x else 0)) := this
      rw [g3 x g1, if_pos rfl] at e
      split at e <;> omega
  rcases hp with ⟨g1, g2⟩ | ⟨y, y1, y2, y3, y4, y5⟩
  · refine ⟨A, h1, ?_⟩
    have : sR js now ρ' A = sN js.length (fun _ => 0) := sN_congr fun i hi => by
      try dsimp only
      split
      · rename_i c; rw [g1 i hi]; exact g2 i hi c.1
      · rfl
    have z : ∀ n, sN n (fun _ => 0) = 0 := fun n => by
      induction n with
      | zero => rfl
      | succ n ih => simp only [sN, ih]; rfl
    rw [this, z]; exact s0
  · have upd : ∀ C : Nat → Bool, sR js now ρ' C = sR js now ρ C + ((if C y = false then gE ρ y - 1 else 0) - (if C y = false then gE ρ y else 0)) := fun C => by
      have := sN_upd (n := js.length) (k := y) (f := fun i => if (jA js i).r ≤ now ∧ C i = false then gE ρ' i else 0) (g := fun i => if (jA js i).r ≤ now ∧ C i = false then gE ρ i else 0) y1 fun i hi hne => by (try dsimp only); rw [y4 i hi, if_neg hne]
      have e : sR js now ρ' C = sR js now ρ C + ((if (jA js y).r ≤ now ∧ C y = false then gE ρ' y else 0) - (if (jA js y).r ≤ now ∧ C y = false then gE ρ y else 0)) := this
      rw [y4 y y1, if_pos rfl] at e
      simpa only [y2, true_and] using e
    cases cA : A y
    · refine ⟨A, h1, ?_⟩
      rw [upd A, cA]
      simp only [if_true]
      omega
    · by_cases c0 : sR js now ρ A ≤ 0
      · refine ⟨A, h1, ?_⟩
        rw [upd A, cA]
        simp only [Bool.true_eq_false, if_false]
        omega
      · obtain ⟨z, z1, z2⟩ := sN_pos (f := fun i => if (jA js i).r ≤ now ∧ A i = false then gE ρ i else 0) (n := js.length) (by unfold sR at c0; omega)
        try dsimp only at z2
        split at z2
        · rename_i cz
          obtain ⟨z3, z4⟩ := cz
          have zy : z ≠ y := fun e => by rw [e, cA] at z4; cases z4
          have z5 := y5 z z1 z3 z2
          -- z in place of y
          let A1 : Nat → Bool := fun i => if i = z then true else A i
          let A2 : Nat → Bool := fun i => if i = y then false else A1 i
          have k1 := sN_upd (n := js.length) (k := z) (f := fun i => if (jA js i).r ≤ now ∧ A1 i = true then (1 : Int) else 0) (g := fun i => if (jA js i).r ≤ now ∧ A i = true then (1 : Int) else 0) z1 fun i hi hne => by simp only [A1, if_neg hne]
          have k2 := sN_upd (n := js.length) (k := y) (f := fun i => if (jA js i).r ≤ now ∧ A2 i = true then (1 : Int) else 0) (g := fun i => if (jA js i).r ≤ now ∧ A1 i = true then (1 : Int) else 0) y1 fun i hi hne => by simp only [A2, if_neg hne]
          have k3 := sN_upd (n := js.length) (k := z) (f := fun i => if (jA js i).r ≤ now ∧ A1 i = false then gE ρ i else 0) (g := fun i => if (jA js i).r ≤ now ∧ A i = false then gE ρ i else 0) z1 fun i hi hne => by simp only [A1, if_neg hne]
          have k4 := sN_upd (n := js.length) (k := y) (f := fun i => if (jA js i).r ≤ now ∧ A2 i = false then gE ρ i else 0) (g := fun i => if (jA js i).r ≤ now ∧ A1 i = false then gE ρ i else 0) y1 fun i hi hne => by simp only [A2, if_neg hne]
          have a1z : A1 z = true := by simp [A1]
          have a1y : A1 y = true := by simp [A1, cA]
          have a2y : A2 y = false := by simp [A2]
          simp only [a1z, a1y, a2y, z3, z4, y2, cA, true_and, if_true, Bool.false_eq_true, Bool.true_eq_false, if_false] at k1 k2 k3 k4
          refine ⟨A2, ?_, ?_⟩
          · have e1 : cR js now A2 = sN js.length (fun i => if (jA js i).r ≤ now ∧ A2 i = true then (1 : Int) else 0) := rfl
            have e2 : cR js now A = sN js.length (fun i => if (jA js i).r ≤ now ∧ A i = true then (1 : Int) else 0) := rfl
            omega
          · rw [upd A2, a2y]
            simp only [if_true]
            have e1 : sR js now ρ A2 = sN js.length (fun i => if (jA js i).r ≤ now ∧ A2 i = false then gE ρ i else 0) := rfl
            have e2 : sR js now ρ A = sN js.length (fun i => if (jA js i).r ≤ now ∧ A i = false then gE ρ i else 0) := rfl
            omega
        · omega
theorem ahead_unf {js : List Job} {now : Int} {ρ σ : List Int} (D : Ahead js now ρ σ) (hρ : ∀ i, i < js.length → 0 ≤ gE ρ i) (hσ : ∀ i, i < js.length → 0 ≤ gE σ i) : unf js.length ρ ≤ unf js.length σ := by
  obtain ⟨A, h1, h2⟩ := D.2 fun i => decide (0 < gE σ i)
  have z : ∀ n, sN n (fun _ => 0) = 0 := fun n => by
    induction n with
    | zero => rfl
    | succ n ih => simp only [sN, ih]; rfl
  have e0 : sR js now σ (fun i => decide (0 < gE σ i)) = 0 := by
    have e : sR js now σ (fun i => decide (0 < gE σ i)) = sN js.length (fun _ => 0) := sN_congr fun i hi => by
      have h1 := hσ i hi
      by_cases c : (jA js i).r ≤ now ∧ decide (0 < gE σ i) = false
      · have h2 := of_decide_eq_false c.2
        rw [if_pos c]; omega
      · rw [if_neg c]
    rw [e, z]
  have hz : ∀ i, i < js.length → (jA js i).r ≤ now → A i = false → gE ρ i = 0 := fun i hi hr ha => by
    have hi0 := hρ i hi
    by_cases c : gE ρ i = 0
    · exact c
    · exfalso
      have k := sN_upd (n := js.length) (k := i) (f := fun i => if (jA js i).r ≤ now ∧ A i = false then gE ρ i else 0) (g := fun k => if k = i then 0 else if (jA js k).r ≤ now ∧ A k = false then gE ρ k else 0) hi fun q hq hne => by (try dsimp only); rw [if_neg hne]
      have nn : 0 ≤ sN js.length (fun k => if k = i then 0 else if (jA js k).r ≤ now ∧ A k = false then gE ρ k else 0) := sN_nn fun k hk => by
        have := hρ k hk
        try dsimp only
        split
        · omega
        · split
          · exact this
          · omega
      rw [if_pos ⟨hr, ha⟩, if_pos rfl] at k
      have e : sR js now ρ A = sN js.length (fun i => if (jA js i).r ≤ now ∧ A i = false then gE ρ i else 0) := rfl
      omega
  have e1 : unf js.length ρ ≤ cR js now A + sN js.length (fun i => if now < (jA js i).r ∧ 0 < gE σ i then 1 else 0) := by
    unfold unf cR; rw [← sN_add]
    refine sN_le fun i hi => ?_
    by_cases c : (jA js i).r ≤ now
    · have c' : ¬ now < (jA js i).r := by omega
      cases ca : A i
      · rw [hz i hi c ca]; simp [c']
      · simp only [c, c', ca, true_and, if_true, false_and, if_false]
        split <;> omega
    · have c' : now < (jA js i).r := by omega
      have := D.1 i hi c'
      simp only [c, c', this, false_and, if_false, true_and]
      omega
  have e2 : unf js.length σ = cR js now (fun i => decide (0 < gE σ i)) + sN js.length (fun i => if now < (jA js i).r ∧ 0 < gE σ i then 1 else 0) := by
    unfold unf cR; rw [← sN_add]
    refine sN_congr fun i hi => ?_
    by_cases c : (jA js i).r ≤ now
    · have c' : ¬ now < (jA js i).r := by omega
      simp [c, c']
    · have c' : now < (jA js i).r := by omega
      simp [c, c']
  omega
end Go.Pm.PP

/- No split schedule has a less sum of ends than the choice by least rest, nor a less greatest lateness than the choice by dates. -/
set_option linter.unusedVariables false
set_option linter.unusedSimpArgs false
namespace Go.Pm.PP
open Go.Pm Go.Pm.PE
theorem pick_min {js : List Job} {rs : List Int} {now : Int} : ∀ {m i : Nat} {b : Int}, i + m = js.length → (b = -1 ∨ 0 ≤ b) → ∀ c : Nat, (List.range' i m).foldl (pickF 2 js rs now) b = c →
    (0 ≤ b → gE rs c ≤ gE rs b.toNat) ∧ ∀ k, i ≤ k → k < js.length → gE rs k ≠ 0 → (jA js k).r ≤ now → gE rs c ≤ gE rs k
  | 0, i, b, h, hb, c, hc => by
    have e : b = c := hc
    refine ⟨fun _ => by rw [e, Int.toNat_natCast]; exact Int.le_refl _, fun k h1 h2 => by omega⟩
  | m + 1, i, b, h, hb, c, hc => by
    rw [List.range'_succ, List.foldl_cons] at hc
    by_cases c1 : gE rs i = 0 ∨ now < (jA js i).r
    · have e : pickF 2 js rs now b i = b := by unfold pickF; rw [if_pos c1]
      rw [e] at hc
      obtain ⟨g1, g2⟩ := pick_min (m := m) (i := i + 1) (by omega) hb c hc
      refine ⟨g1, fun k h1 h2 h3 h4 => ?_⟩
      by_cases e : k = i
      · subst e; rcases c1 with c1 | c1
        · exact absurd c1 h3
        · omega
      · exact g2 k (by omega) h2 h3 h4
    · by_cases c2 : b < 0 ∨ betB 2 js rs i b.toNat = true
      · have e : pickF 2 js rs now b i = i := by unfold pickF; rw [if_neg c1, if_pos c2]
        rw [e] at hc
        obtain ⟨g1, g2⟩ := pick_min (m := m) (i := i + 1) (by omega) (.inr (by omega)) c hc
        have g1 := g1 (by omega)
        rw [Int.toNat_natCast] at g1
        refine ⟨fun h0 => ?_, fun k h1 h2 h3 h4 => ?_⟩
        · rcases c2 with c2 | c2
          · omega
          · unfold betB at c2
            rw [if_pos rfl, decide_eq_true_eq] at c2
            omega
        · by_cases e : k = i
          · subst e; exact g1
          · exact g2 k (by omega) h2 h3 h4
      · have e : pickF 2 js rs now b i = b := by unfold pickF; rw [if_neg c1, if_neg c2]
        rw [e] at hc
        have b0 : 0 ≤ b := by rcases hb with rfl | hb; exact absurd (.inl (by omega)) c2; exact hb
        obtain ⟨g1, g2⟩ := pick_min (m := m) (i := i + 1) (by omega) hb c hc
        have g1' := g1 b0
        refine ⟨g1, fun k h1 h2 h3 h4 => ?_⟩
        by_cases e : k = i
        · subst e
          have c3 : ¬ betB 2 js rs k b.toNat = true := fun g => c2 (.inr g)
          unfold betB at c3
          rw [if_pos rfl, decide_eq_true_eq] at c3
          omega
        · exact g2 k (by omega) h2 h3 h4
theorem nxQ_far {now : Int} {rs : List Int} : ∀ {Q : List (Int × Int)}, (∀ p, p ∈ Q → now < p.2) → nxQ now rs Q = (rs, Q)
  | [], _ => rfl
  | (x, t) :: Q, h => by
    have := h (x, t) (List.mem_cons_self ..)
    rw [nxQ_cons]
    rw [if_neg (by dsimp only at this; omega)]
theorem cost_le {js : List Job} (hg : goodL js = true) : ∀ {m : Nat} {now : Int} {ρ σ : List Int} {Q : List (Int × Int)}, Ch js ρ now m → vq js Q now σ → σ.length = js.length → (∀ i, i < js.length → 0 ≤ gE σ i) → Ahead js now ρ σ → costQ js.length m now ρ (picks 2 js m now ρ) ≤ costQ js.length m now σ Q
  | 0, now, ρ, σ, Q, C, hv, hl, hσ, D => Int.le_refl _
  | m + 1, now, ρ, σ, Q, C, hv, hl, hσ, D => by
    have hρ : ∀ i, i < js.length → 0 ≤ gE ρ i := fun i hi => (C.b _ (gE_mem (show i < ρ.length by rw [C.l]; exact hi))).1
    have hu := ahead_unf D hρ hσ
    have hv' := nxQ_vq hv
    have hl' : (nxQ now σ Q).1.length = js.length := by rw [nxQ_len]; exact hl
    have hs : (∀ i, i < js.length → gE (nxQ now σ Q).1 i = gE σ i) ∨ ∃ x, x < js.length ∧ (jA js x).r ≤ now ∧ (∀ i, i < js.length → gE (nxQ now σ Q).1 i = if i = x then gE σ x - 1 else gE σ i) := by
      cases Q with
      | nil => exact .inl fun i _ => rfl
      | cons p Q =>
        obtain ⟨x, t⟩ := p
        obtain ⟨h1, h2, h3, h4, h5⟩ := hv
        rw [nxQ_cons]
        by_cases c : t = now
        · rw [if_pos c]
          exact .inr ⟨x.toNat, by omega, by rw [show ((x.toNat : Nat) : Int) = x by omega, ← c]; exact h3, fun i hi => gE_set (by omega)⟩
        · rw [if_neg c]; exact .inl fun i _ => rfl
    have hσ' : ∀ i, i < js.length → 0 ≤ gE (nxQ now σ Q).1 i := fun i hi => by
      cases Q with
      | nil => exact hσ i hi
      | cons p Q =>
        obtain ⟨x, t⟩ := p
        obtain ⟨h1, h2, h3, h4, h5⟩ := hv
        rw [nxQ_cons]
        have := hσ i hi
        by_cases c : t = now
        · rw [if_pos c]
          try dsimp only
          rw [gE_set (by omega)]; split <;> omega
        · rw [if_neg c]; exact this
    rw [costQ, costQ]
    have fin : ∀ {ρ' : List Int} {P' : List (Int × Int)}, nxQ now ρ (picks 2 js (m + 1) now ρ) = (ρ', P') → P' = picks 2 js m (now + 1) ρ' → Ch js ρ' (now + 1) m → Ahead js now ρ' (nxQ now σ Q).1 → unf js.length ρ + costQ js.length m (now + 1) (nxQ now ρ (picks 2 js (m + 1) now ρ)).1 (nxQ now ρ (picks 2 js (m + 1) now ρ)).2 ≤ unf js.length σ + costQ js.length m (now + 1) (nxQ now σ Q).1 (nxQ now σ Q).2 := fun {ρ' P'} e1 e2 C' D' => by
      rw [e1]
      try dsimp only
      rw [e2]
      have := cost_le hg C' hv' hl' hσ' (ahead_time D')
      omega
    by_cases hz : sumL ρ ≤ 0
    · have s0 := sumL_nn C.b
      have z : ∀ i, i < js.length → gE ρ i = 0 := fun i g => by
        have hb := C.b _ (gE_mem (show i < ρ.length by rw [C.l]; exact g))
        by_cases c : gE ρ i = 0
        · exact c
        · exfalso
          have h3 := sumL_set (l := ρ) (i := i) (y := gE ρ i - 1) (by rw [C.l]; exact g)
          have h4 := sumL_nn (l := ρ.set i (gE ρ i - 1)) (fun x hx => by
            rcases List.mem_or_eq_of_mem_set hx with q | q
            · exact C.b x q
            · omega)
          omega
      have cm := C.m
      refine fin (ρ' := ρ) (P' := []) (by rw [picks, if_pos hz]; rfl) ?_ ⟨C.l, C.b, by omega⟩ (ahead_step D hρ hσ' hs (.inl ⟨fun i _ => rfl, fun i hi _ => z i hi⟩))
      cases m with
      | zero => rfl
      | succ m => rw [picks, if_pos hz]
    · rcases pick_cases (o := 2) (js := js) (rs := ρ) (now := now) with ⟨hp, hfree⟩ | ⟨b, hp, hb, hb0⟩
      · obtain ⟨_, C2, _⟩ := C.skip hg (by omega) (o := 2) (by omega)
        refine fin (ρ' := ρ) (P' := picks 2 js m (now + 1) ρ) ?_ rfl C2 (ahead_step D hρ hσ' hs (.inl ⟨fun i _ => rfl, fun i hi hr => ?_⟩))
        · rw [picks, if_neg hz, hp, if_pos (by omega)]
          exact nxQ_far fun p hp => by have := picks_mem p hp; omega
        · rcases hfree i hi with g | g
          · exact g
          · omega
      · obtain ⟨C2, _, _⟩ := C.take (by omega) hb hb0
        have bb := C.b _ (gE_mem (show b < ρ.length by rw [C.l]; exact hb))
        refine fin (ρ' := ρ.set b (gE ρ b - 1)) (P' := picks 2 js m (now + 1) (ρ.set b (gE ρ b - 1))) ?_ rfl C2 (ahead_step D hρ hσ' hs (.inr ⟨b, hb, pick_r hp, by omega, fun i hi => gE_set (by rw [C.l]; exact hb), fun i hi hr h0 => ?_⟩))
        · rw [picks, if_neg hz, hp, if_neg (by omega), Int.toNat_natCast]
          rw [nxQ_cons]
          rw [if_pos rfl, Int.toNat_natCast]
        · exact (pick_min (m := js.length) (i := 0) (b := -1) (by omega) (.inl rfl) b hp).2 i (Nat.zero_le _) hi (by omega) hr
/-- Of each set some job ends no earlier than its bound. -/
theorem vq_lower {js : List Job} : ∀ {Q : List (Int × Int)} {now ρ : Int} {rs E S : List Int}, vq js Q now rs → rs.length = js.length → E.length = js.length → S.Nodup → S ≠ [] → (∀ x, x ∈ S → (0 ≤ x ∧ x < js.length) ∧ 0 < rsF rs x ∧ (ρ ≤ now ∨ ρ ≤ (jA js x).r)) →
    ∃ k, k ∈ S ∧ ρ + tsm (rsF rs) S ≤ gE (apS E Q) k.toNat
  | [], now, ρ, rs, E, S, hv, hl, hE, h1, h2, h3 => by
    obtain ⟨x, hx⟩ := List.exists_mem_of_ne_nil S h2
    obtain ⟨a1, a2, _⟩ := h3 x hx
    have := hv x.toNat (by omega)
    unfold rsF at a2; omega
  | (y, t) :: Q, now, ρ, rs, E, S, hv, hl, hE, h1, h2, h3 => by
    obtain ⟨q1, q2, q3, q4, q5⟩ := hv
    obtain ⟨b, rfl⟩ : ∃ b : Nat, y = b := ⟨y.toNat, by omega⟩
    rw [Int.toNat_natCast] at q4 q5
    have hb : b < js.length := by omega
    rw [apS_cons]
    try dsimp only
    rw [Int.toNat_natCast]
    have hE2 : (E.set b (t + 1)).length = js.length := by rw [List.length_set]; exact hE
    have hl2 : (rs.set b (gE rs b - 1)).length = js.length := by rw [List.length_set]; exact hl
    have hset : ∀ i, gE (rs.set b (gE rs b - 1)) i = if i = b then gE rs b - 1 else gE rs i := fun i => gE_set (by omega)
    have hin : inN js.length S := fun x hx => (h3 x hx).1
    have oth : ∀ x, x ∈ S → x ≠ (b : Int) → 0 < rsF (rs.set b (gE rs b - 1)) x := fun x hx hne => by
      have a2 := (h3 x hx).2.1
      have a1 := hin x hx
      unfold rsF at a2 ⊢
      rw [hset, if_neg (by omega)]; exact a2
    by_cases cb : (b : Int) ∈ S
    · have hρ : ρ ≤ t := by
        rcases (h3 _ cb).2.2 with g | g <;> omega
      by_cases c1 : 1 < gE rs b
      · obtain ⟨k, hk, e⟩ := vq_lower (ρ := t + 1) (E := E.set b (t + 1)) q5 hl2 hE2 h1 h2 fun x hx => ⟨hin x hx, by
          by_cases q : x = (b : Int)
          · subst q; unfold rsF; rw [Int.toNat_natCast, hset, if_pos rfl]; omega
          · exact oth x hx q, .inl (Int.le_refl _)⟩
        rw [rs_step hl hb hin h1, if_pos cb] at e
        exact ⟨k, hk, by omega⟩
      · have eb : gE rs b = 1 := by omega
        have et := tsm_erase (t := rsF rs) cb
        have erb : rsF rs (b : Int) = 1 := by unfold rsF; rw [Int.toNat_natCast]; exact eb
        have hnb : (b : Int) ∉ S.erase (b : Int) := fun g => ((List.Nodup.mem_erase_iff h1).1 g).1 rfl
        by_cases ce : S.erase (b : Int) = []
        · refine ⟨(b : Int), cb, ?_⟩
          rw [Int.toNat_natCast, vq_done hb q5 hl2 hE2 (by rw [hset, if_pos rfl]; omega), gE_set (by omega), if_pos rfl]
          rw [ce] at et
          have : tsm (rsF rs) [] = 0 := rfl
          omega
        · have hin2 : inN js.length (S.erase (b : Int)) := fun x hx => hin x (List.mem_of_mem_erase hx)
          obtain ⟨k, hk, e⟩ := vq_lower (ρ := t + 1) (E := E.set b (t + 1)) q5 hl2 hE2 (h1.erase _) ce fun x hx => ⟨hin2 x hx, oth x (List.mem_of_mem_erase hx) fun q => hnb (q ▸ hx), .inl (Int.le_refl _)⟩
          rw [rs_step hl hb hin2 (h1.erase _), if_neg hnb] at e
          exact ⟨k, List.mem_of_mem_erase hk, by omega⟩
    · obtain ⟨k, hk, e⟩ := vq_lower (ρ := ρ) (E := E.set b (t + 1)) q5 hl2 hE2 h1 h2 fun x hx => ⟨hin x hx, oth x hx fun q => cb (q ▸ hx), (h3 x hx).2.2.imp (fun g => by omega) id⟩
      rw [rs_step hl hb hin h1, if_neg cb] at e
      exact ⟨k, hk, by omega⟩
/-! ### spans, unit by unit -/
def blk (j : Int) : Int → Nat → List (Int × Int)
  | _, 0 => []
  | a, k + 1 => (j, a) :: blk j (a + 1) k
def qS (S : List Sp) : List (Int × Int) := S.flatMap fun s => blk s.j s.a (s.b - s.a).toNat
theorem blk_mem {j : Int} : ∀ {k : Nat} {a : Int}, ∀ p, p ∈ blk j a k → p.2 < a + k
  | 0, a, p, h => by cases h
  | k + 1, a, p, h => by
    rcases List.mem_cons.1 h with rfl | h
    · dsimp only; omega
    · have := blk_mem p h; omega
theorem apS_app {E : List Int} {P Q : List (Int × Int)} : apS E (P ++ Q) = apS (apS E P) Q := by unfold apS; rw [List.foldl_append]
theorem apS_blk {j : Int} : ∀ {k : Nat} {a : Int} {E : List Int}, apS E (blk j a (k + 1)) = E.set j.toNat (a + k + 1)
  | 0, a, E => by
    show E.set j.toNat (a + 1) = _
    congr 1; simp
  | k + 1, a, E => by
    rw [blk, apS_cons, apS_blk, List.set_set]
    congr 1
    omega
theorem apS_qS {E : List Int} : ∀ {S : List Sp}, (∀ s, s ∈ S → s.a < s.b) → apS E (qS S) = foldS E S := fun {S} h => by
  induction S generalizing E with
  | nil => rfl
  | cons s S ih =>
    have h1 := h s (List.mem_cons_self ..)
    have e : qS (s :: S) = blk s.j s.a (s.b - s.a).toNat ++ qS S := by unfold qS; rw [List.flatMap_cons]
    obtain ⟨k, hk⟩ : ∃ k, (s.b - s.a).toNat = k + 1 := ⟨(s.b - s.a).toNat - 1, by omega⟩
    rw [e, apS_app, hk, apS_blk, ih fun t ht => h t (List.mem_cons_of_mem _ ht)]
    show foldS (E.set s.j.toNat (s.a + k + 1)) S = foldS (E.set s.j.toNat s.b) S
    congr 2; omega
theorem set_self {l : List Int} {i : Nat} (h : i < l.length) : l.set i (gE l i) = l := by
  have : gE l i = l[i] := by unfold gE; rw [List.getElem?_eq_getElem h]; rfl
  rw [this, List.set_getElem_self]
theorem vq_blk {js : List Job} {j : Int} {Q : List (Int × Int)} (hj : 0 ≤ j ∧ j < js.length) : ∀ {k : Nat} {a now : Int} {rs : List Int}, rs.length = js.length → now ≤ a → (jA js j).r ≤ a → (k : Int) ≤ gE rs j.toNat → vq js Q (a + k) (rs.set j.toNat (gE rs j.toNat - k)) → vq js (blk j a k ++ Q) now rs
  | 0, a, now, rs, hl, h1, h2, h3, h4 => by
    have e : rs.set j.toNat (gE rs j.toNat - (0 : Nat)) = rs := by simp only [Int.natCast_zero, Int.sub_zero]; exact set_self (by omega)
    rw [e] at h4
    exact vq_le h4 (by simpa using h1)
  | k + 1, a, now, rs, hl, h1, h2, h3, h4 => by
    refine ⟨h1, hj, h2, by omega, ?_⟩
    have e : gE (rs.set j.toNat (gE rs j.toNat - 1)) j.toNat = gE rs j.toNat - 1 := by rw [gE_set (by omega), if_pos rfl]
    refine vq_blk (k := k) hj (by rw [List.length_set]; exact hl) (Int.le_refl _) (by omega) (by rw [e]; omega) ?_
    rw [e, List.set_set, show a + 1 + (k : Int) = a + ((k + 1 : Nat) : Int) by omega, show gE rs j.toNat - 1 - (k : Int) = gE rs j.toNat - ((k + 1 : Nat) : Int) by omega]
    exact h4
def dur : List Sp → Nat → Int
  | [], _ => 0
  | s :: S, i => (if i = s.j.toNat then s.b - s.a else 0) + dur S i
theorem dur_nn : ∀ {S : List Sp} {i : Nat}, (∀ s, s ∈ S → s.a < s.b) → 0 ≤ dur S i
  | [], _, _ => Int.le_refl _
  | s :: S, i, h => by
    have h1 := h s (List.mem_cons_self ..)
    have := dur_nn (i := i) fun t ht => h t (List.mem_cons_of_mem _ ht)
    rw [dur]; split <;> omega
theorem vq_spans {js : List Job} : ∀ {S : List Sp} {now last : Int} {rs : List Int}, spGo js now last S = true → rs.length = js.length → (∀ i, i < js.length → gE rs i = dur S i) → vq js (qS S) now rs
  | [], now, last, rs, h, hl, hd => fun i hi => hd i hi
  | s :: S, now, last, rs, h, hl, hd => by
    rw [spGo, Bool.and_eq_true] at h
    obtain ⟨k1, k2⟩ := h
    unfold spOk at k1
    simp only [Bool.and_eq_true, Bool.not_eq_true', decide_eq_true_eq, decide_eq_false_iff_not] at k1
    obtain ⟨⟨⟨⟨⟨a1, a2⟩, a3⟩, a4⟩, a5⟩, a6⟩ := k1
    have all : ∀ t, t ∈ S → t.a < t.b := by
      have go : ∀ {T : List Sp} {n l : Int}, spGo js n l T = true → ∀ t, t ∈ T → t.a < t.b := fun {T} => by
        induction T with
        | nil => intro n l _ t ht; cases ht
        | cons s T ih =>
          intro n l h t ht
          rw [spGo, Bool.and_eq_true] at h
          rcases List.mem_cons.1 ht with rfl | ht
          · have h1 := h.1
            unfold spOk at h1
            simp only [Bool.and_eq_true, Bool.not_eq_true', decide_eq_true_eq, decide_eq_false_iff_not] at h1
            exact h1.1.1.2
          · exact ih h.2 t ht
      exact go k2
    have e : qS (s :: S) = blk s.j s.a (s.b - s.a).toNat ++ qS S := by unfold qS; rw [List.flatMap_cons]
    have g := hd s.j.toNat (by omega)
    rw [dur, if_pos rfl] at g
    have dn := dur_nn (i := s.j.toNat) all
    rw [e]
    refine vq_blk a1 hl (by omega) (by omega) (by omega) ?_
    rw [show s.a + ((s.b - s.a).toNat : Int) = s.b by omega]
    refine vq_spans k2 (by rw [List.length_set]; exact hl) fun i hi => ?_
    rw [gE_set (by omega)]
    by_cases c : i = s.j.toNat
    · rw [if_pos c, c]; omega
    · have := hd i hi
      rw [dur, if_neg c] at this
      rw [if_neg c]; omega
theorem done_dur {js : List Job} : ∀ {S : List Sp} {D : List Int} {i : Nat}, D.length = js.length → i < js.length → (∀ s, s ∈ S → 0 ≤ s.j ∧ s.j < js.length) → gE (S.foldl addD D) i = gE D i + dur S i
  | [], D, i, _, _, _ => by simp [dur]
  | s :: S, D, i, hl, hi, h => by
    have hs := h s (List.mem_cons_self ..)
    rw [List.foldl_cons, done_dur (by unfold addD; rw [List.length_set]; exact hl) hi fun t ht => h t (List.mem_cons_of_mem _ ht)]
    unfold addD
    rw [gE_set (by omega), dur]
    by_cases c : i = s.j.toNat
    · rw [if_pos c, if_pos c, c]; omega
    · rw [if_neg c, if_neg c]; omega
theorem sp_all {js : List Job} : ∀ {S : List Sp} {now last : Int}, spGo js now last S = true → ∀ s, s ∈ S → (0 ≤ s.j ∧ s.j < js.length) ∧ s.a < s.b ∧ s.b ≤ 1000
  | [], _, _, _, s, hs => by cases hs
  | x :: S, now, last, h, s, hs => by
    rw [spGo, Bool.and_eq_true] at h
    rcases List.mem_cons.1 hs with rfl | hs
    · have h1 := h.1
      unfold spOk at h1
      simp only [Bool.and_eq_true, Bool.not_eq_true', decide_eq_true_eq, decide_eq_false_iff_not] at h1
      exact ⟨h1.1.1.1.1.1, h1.1.1.2, h1.2⟩
    · exact sp_all h.2 s hs
/-- A split schedule, unit by unit. -/
theorem split_vq {js : List Job} {S : List Sp} (h : splB js S = true) : vq js (qS S) 0 (restL js []) ∧ (∀ p, p ∈ qS S → p.2 < 1000) ∧ ∀ E, apS E (qS S) = foldS E S := by
  unfold splB at h
  rw [Bool.and_eq_true, decide_eq_true_eq] at h
  obtain ⟨h1, h2⟩ := h
  have al := sp_all h1
  refine ⟨vq_spans h1 restL_len fun i hi => ?_, fun p hp => ?_, fun E => apS_qS fun s hs => (al s hs).2.1⟩
  · have := done_dur (js := js) (S := S) (D := List.replicate js.length 0) (by simp) hi fun s hs => (al s hs).1
    have e : S.foldl addD (List.replicate js.length 0) = doneL js S := rfl
    have z : gE (List.replicate js.length (0 : Int)) i = 0 := by unfold gE; simp [hi]
    rw [e, h2, z] at this
    rw [restL_gE hi]
    obtain ⟨y, hy, _⟩ := drop_at hi
    have ey : jA js i = y := by unfold jA; rw [Int.toNat_natCast, hy]; rfl
    have e2 : gE (js.map (·.t)) i = y.t := by unfold gE; rw [List.getElem?_map, hy]; rfl
    rw [e2] at this
    rw [ey]; omega
  · unfold qS at hp
    obtain ⟨s, hs, hp⟩ := List.mem_flatMap.1 hp
    have := blk_mem p hp
    have := al s hs
    omega
theorem sN_list {f : Nat → Int} : ∀ {n : Nat}, sN n f = ((List.range' 0 n).map f).sum
  | 0 => rfl
  | n + 1 => by
    rw [List.range'_concat, List.map_append, List.sum_append, ← sN_list]
    simp [sN]
theorem val2_sum {js : List Job} {es : List Int} (h : js.length = es.length) : valE 2 js es = sN js.length (gE es) := by
  unfold valE
  rw [valGo_sum (by omega) (by omega) h, sN_list, Int.zero_add]
  congr 1
theorem split_sum {js : List Job} {S : List Sp} (hg : goodL js = true) (hn : js.length ≤ 8) (h : splB js S = true) : valE 2 js (bdE 2 js []) ≤ valE 2 js (foldS (List.replicate js.length 0) S) := by
  obtain ⟨v1, v2, v3⟩ := split_vq h
  have C := nil_ch hg hn
  have pv := picks_vq (o := 2) hg C
  have hl : (List.replicate js.length (0 : Int)).length = js.length := by simp
  have nn : ∀ i, i < js.length → 0 ≤ gE (restL js []) i := fun i hi => by rw [restL_gE hi]; have := jA_bd hg hi; omega
  have e1 := cost_eq (m := FU) (E := List.replicate js.length 0) pv restL_len hl (fun p hp => by have := picks_mem p hp; omega) nn
  have e2 := cost_eq (m := FU) (E := List.replicate js.length 0) v1 restL_len hl (fun p hp => by have := v2 p hp; unfold FU; omega) nn
  have e3 := cost_le hg C v1 restL_len nn ahead_refl
  have fl : ∀ (T : List Sp) (E : List Int), (foldS E T).length = E.length := fun T => by
    induction T with
    | nil => intro E; rfl
    | cons s T ih => intro E; have := ih (E.set s.j.toNat s.b); rw [List.length_set] at this; exact this
  have full : ∀ Q : List (Int × Int), sN js.length (fun i => if 0 < gE (restL js []) i then gE (apS (List.replicate js.length 0) Q) i - 0 else 0) = sN js.length (gE (apS (List.replicate js.length 0) Q)) := fun Q => sN_congr fun i hi => by
    have := jA_bd hg hi
    rw [restL_gE hi, if_pos (by omega), Int.sub_zero]
  rw [full] at e1 e2
  have b : bdE 2 js [] = apS (List.replicate js.length 0) (picks 2 js FU 0 (restL js [])) := rfl
  rw [val2_sum (by unfold bdE; rw [apS_len, endsL_len]), val2_sum (by rw [fl]; simp), b, e1, ← v3, e2]
  exact e3
theorem split_late {js : List Job} {S : List Sp} (hg : goodL js = true) (hn : js.length ≤ 8) (h0 : js ≠ []) (h : splB js S = true) : valE 4 js (bdE 4 js []) ≤ valE 4 js (foldS (List.replicate js.length 0) S) := by
  obtain ⟨v1, v2, v3⟩ := split_vq h
  obtain ⟨T, ρ, δ, B, r0, e⟩ := bd_some hg hn h0
  have hl : (List.replicate js.length (0 : Int)).length = js.length := by simp
  obtain ⟨k, hk, e2⟩ := vq_lower (E := List.replicate js.length 0) (ρ := ρ) v1 restL_len hl B.nd B.ne fun x hx => ⟨B.inn x hx, by
    have hx' := B.inn x hx
    unfold rsF; rw [restL_gE (by omega)]
    have := jA_bd hg (show x.toNat < js.length by omega); omega, .inr (B.r x hx)⟩
  rw [rest_tsm B.inn, v3] at e2
  have ik := B.inn k hk
  have fl : ∀ (T : List Sp) (E : List Int), (foldS E T).length = E.length := fun T => by
    induction T with
    | nil => intro E; rfl
    | cons s T ih => intro E; have := ih (E.set s.j.toNat s.b); rw [List.length_set] at this; exact this
  have v := (val4_facts (js := js) (es := foldS (List.replicate js.length 0) S) (by rw [fl]; simp) h0).1 k.toNat (by omega)
  have d := B.d k hk
  rw [show ((k.toNat : Nat) : Int) = k by omega] at v
  omega
end Go.Pm.PP

/- Rests and picks: the reference. -/
set_option linter.unusedVariables false
set_option linter.unusedSimpArgs false
set_option maxRecDepth 4000
set_option maxHeartbeats 8000000
namespace Go.Pm.PP
open Go.Pm Go.Proofs Go.Pm.PE
section
variable {h : Hp} {vj vr : Value} {js : List Job} {rs : List Int} {o now : Int}
theorem l5Rests_run (hj : Jobs h vj js) (hn : js.length ≤ 8) : RunsC P G n_spec_l5Rests [vj] h fun v h' => h <+: h' ∧ Own h.length h' v 1 ((restL js []).map encI) := by
  refine hideC fun K hK => enter_run e_spec_l5Rests (by simp) ?_
  have hjs := hj
  obtain ⟨oj, cj, rfl⟩ := hj.shapeT
  have H0 := own_nil (Holds.start (h := h)) Int encI 1
  rw [restL_nil] at hK
  simp -implicitDefEqProofs
  refine R_loopO (fun m s h' => ∃ (i : Nat) (u : Value), i + m = js.length ∧ s = [(0, .slice oj js.length cj), (3, u), (4, .int .i64 i)] ∧ Holds h h' [.own u 1 (((js.take i).map (·.t)).map encI)]) (fun I hI m s h' => ?_) (n := js.length) ⟨0, .slice none 0 0, Nat.zero_add _, by simp, by simpa using H0⟩
  rintro ⟨i, u, hi, rfl, H⟩
  by_cases hlt : i < js.length
  · obtain ⟨y, hy, _⟩ := drop_at hlt
    have ly := load_J (hjs.pre H.pre) hy
    obtain ⟨v', h2, ha, H2, _⟩ := push_I0 H 0 rfl y.t (by simp; omega)
    simp -implicitDefEqProofs [-indexAddrP_some, hlt, ly, ha, winc hlt (by omega)]
    refine ⟨m - 1, by omega, on hI ⟨i + 1, v', by omega, rfl, ?_⟩⟩
    have e : (js.take (i + 1)).map (·.t) = (js.take i).map (·.t) ++ [y.t] := by rw [take_succ' hy, List.map_append]; rfl
    rw [e]; exact H2
  · rw [List.take_of_length_le (by omega)] at H
    simp -implicitDefEqProofs [hlt]
    exact onK hK (H.ret 0 rfl)
theorem l5Pick_run (hj : Jobs h vj js) (hr : Ints h vr rs) (hn : js.length ≤ 8) (hl : rs.length = js.length) (ho : o = 2 ∨ o = 4) : Ret P G n_spec_l5Pick [vj, vr, .int .i64 now, .int .i64 o] h (.int .i64 (pickL o js rs now)) h := by
  refine enter_run e_spec_l5Pick (by simp) ?_
  have hjs := hj
  have hrs := hr
  obtain ⟨oj, cj, rfl⟩ := hj.shapeT
  obtain ⟨oa, c, rfl⟩ := hr.shapeT
  simp -implicitDefEqProofs
  refine R_loopO (fun m s h' => ∃ (i : Nat) (b : Int), i + m = js.length ∧ s = [(0, .slice oj js.length cj), (1, .slice oa rs.length c), (2, .int .i64 now), (3, .int .i64 o), (9, .int .i64 b), (10, .int .i64 i)] ∧ h' = h ∧ (b = -1 ∨ pkOk js rs b) ∧ pickL o js rs now = (List.range' i m).foldl (pickF o js rs now) b) (fun I hI m s h' => ?_) (n := js.length) ⟨0, -1, Nat.zero_add _, by simp, rfl, .inl rfl, rfl⟩
  rintro ⟨i, b, hi, rfl, rfl, hb, hx⟩
  by_cases hlt : i < js.length
  · obtain ⟨m', rfl⟩ : ∃ m', m = m' + 1 := ⟨m - 1, by omega⟩
    rw [List.range'_succ, List.foldl_cons] at hx
    obtain ⟨y, hy, _⟩ := drop_at hlt
    have ey : jA js i = y := by unfold jA; rw [Int.toNat_natCast, hy]; rfl
    have ly := load_J hjs hy
    have lr := load_I hrs (gE_get (l := rs) (i := i) (by omega))
    have wi := winc hlt (show js.length ≤ 2 ^ 40 by omega)
    by_cases c1 : gE rs i = 0
    · have e : pickF o js rs now b i = b := by unfold pickF; rw [if_pos (.inl c1)]
      rw [e] at hx
      rw [c1] at lr
      simp -implicitDefEqProofs [-indexAddrP_some, hlt, lr, wi]
      exact ⟨m', by omega, on hI ⟨i + 1, b, by omega, rfl, rfl, hb, hx⟩⟩
    · by_cases c2 : now < y.r
      · have e : pickF o js rs now b i = b := by unfold pickF; rw [ey, if_pos (.inr c2)]
        rw [e] at hx
        simp -implicitDefEqProofs [-indexAddrP_some, hlt, lr, nb c1, ly, c2, wi]
        exact ⟨m', by omega, on hI ⟨i + 1, b, by omega, rfl, rfl, hb, hx⟩⟩
      · have okI : pkOk js rs (i : Int) := ⟨by omega, by omega, c1⟩
        rcases hb with rfl | hb
        · have e : pickF o js rs now (-1) i = i := by unfold pickF; rw [ey, if_neg (by omega), if_pos (.inl (by omega))]
          rw [e] at hx
          simp -implicitDefEqProofs [-indexAddrP_some, hlt, lr, nb c1, ly, c2, wi]
          exact ⟨m', by omega, on hI ⟨i + 1, i, by omega, rfl, rfl, .inr okI, hx⟩⟩
        · obtain ⟨k, rfl⟩ : ∃ k : Nat, b = k := ⟨b.toNat, by have := hb.1; omega⟩
          have hkl : k < js.length := by have := hb.2.1; omega
          obtain ⟨z, hz, _⟩ := drop_at hkl
          have ez : jA js k = z := by unfold jA; rw [Int.toNat_natCast, hz]; rfl
          have lz := load_J hjs hz
          have lk := load_I hrs (gE_get (l := rs) (i := k) (by omega))
          have hk0 : ¬ (k : Int) < 0 := by omega
          rcases ho with rfl | rfl
          · by_cases c3 : gE rs i < gE rs k
            · have e : pickF 2 js rs now k i = i := by unfold pickF; rw [ey, if_neg (by omega), if_pos (.inr (by simp [betB, c3]))]
              rw [e] at hx
              simp -implicitDefEqProofs [-indexAddrP_some, hlt, lr, nb c1, ly, c2, wi, hk0, lk, c3]
              exact ⟨m', by omega, on hI ⟨i + 1, i, by omega, rfl, rfl, .inr okI, hx⟩⟩
            · have e : pickF 2 js rs now k i = k := by unfold pickF; rw [ey, if_neg (by omega), if_neg (by simp [betB, c3, hk0])]
              rw [e] at hx
              simp -implicitDefEqProofs [-indexAddrP_some, hlt, lr, nb c1, ly, c2, wi, hk0, lk, c3]
              exact ⟨m', by omega, on hI ⟨i + 1, k, by omega, rfl, rfl, .inr hb, hx⟩⟩
          · by_cases c3 : y.d < z.d
            · have e : pickF 4 js rs now k i = i := by unfold pickF; rw [ey, if_neg (by omega), if_pos (.inr (by simp [betB, ey, ez, c3]))]
              rw [e] at hx
              simp -implicitDefEqProofs [-indexAddrP_some, hlt, lr, nb c1, ly, c2, wi, hk0, lz, c3]
              exact ⟨m', by omega, on hI ⟨i + 1, i, by omega, rfl, rfl, .inr okI, hx⟩⟩
            · have e : pickF 4 js rs now k i = k := by unfold pickF; rw [ey, if_neg (by omega), if_neg (by simp [betB, ey, ez, c3, hk0])]
              rw [e] at hx
              simp -implicitDefEqProofs [-indexAddrP_some, hlt, lr, nb c1, ly, c2, wi, hk0, lz, c3]
              exact ⟨m', by omega, on hI ⟨i + 1, k, by omega, rfl, rfl, .inr hb, hx⟩⟩
  · have hm : m = 0 := by omega
    subst hm
    rw [List.range'_zero, List.foldl_nil] at hx
    simp -implicitDefEqProofs [hlt, hx]
end
end Go.Pm.PP

/- The choice by time, by the reference. -/
set_option linter.unusedVariables false
set_option linter.unusedSimpArgs false
set_option maxRecDepth 4000
set_option maxHeartbeats 8000000
namespace Go.Pm.PP
open Go.Pm Go.Proofs Go.Pm.PE
section
variable {h : Hp} {vj vr : Value} {js : List Job} {rs B : List Int} {o now : Int}
theorem l5Choose_run (hj : Jobs h vj js) (hr : Ints h vr rs) (hg : goodL js = true) (hn : js.length ≤ 8) (C : Ch js rs now FU) (hnow : 0 ≤ now ∧ now ≤ 2 ^ 30) (ho : o = 2 ∨ o = 4) :
    RunsC P G n_spec_l5Choose [vj, vr, .int .i64 now, .int .i64 o] h fun v h' => h <+: h' ∧ Own h.length h' v 3 ((spanL o js now rs).map encS) := by
  refine hideC fun K hK => enter_run e_spec_l5Choose (by simp) ?_
  have hjs := hj
  obtain ⟨oj, cj, rfl⟩ := hj.shapeT
  have hl := C.l
  have eY : spanL o js now rs = (picks o js FU now rs).foldl mgS [] := rfl
  generalize spanL o js now rs = Y at eY hK
  have H0 := own_nil (Holds.start (h := h)) Sp encS 3
  simp -implicitDefEqProofs
  refine CL_post (l1Own_run hr (by omega)) fun v1 h1 ⟨hp1, ho1⟩ => ?_
  have H1 : Holds h h1 [.own (.slice none 0 0) 3 (([] : List Sp).map encS), .own v1 1 (rs.map encI)] := H0.call hp1 ho1
  obtain ⟨ox, cx, rfl⟩ : ∃ a c, v1 = .slice a js.length c := by obtain ⟨a, c, e⟩ := ho1.sees.shapeT; exact ⟨a, c, by rw [e, hl]⟩
  simp -implicitDefEqProofs
  refine R_loopO (fun m st h' => ∃ i : Nat, i + m = js.length ∧ st = [(0, .slice oj js.length cj), (2, .int .i64 now), (3, .int .i64 o), (9, .slice none 0 0), (10, .slice ox js.length cx), (11, .int .i64 (sumL (rs.take i))), (12, .int .i64 i)] ∧ h' = h1) (fun I hI m st h' => ?_) (n := js.length) ⟨0, Nat.zero_add _, by simp [sumL], rfl⟩
  rintro ⟨i, hi, rfl, rfl⟩
  by_cases hlt : i < js.length
  · have hx := gE_get (l := rs) (i := i) (by omega)
    have lx := load_I (H1.sees 1 rfl) hx
    have bx := C.b _ (List.mem_of_getElem? hx)
    have bs := sumL_tk (i := i) C.b
    have ws : IntKind.i64.wrap (sumL (rs.take i) + gE rs i) = sumL (rs.take (i + 1)) := by rw [sumL_take hx, wrap_ok] <;> omega
    simp -implicitDefEqProofs [-indexAddrP_some, hlt, lx, ws, winc hlt (show js.length ≤ 2 ^ 40 by omega)]
    exact ⟨m - 1, by omega, on hI ⟨i + 1, by omega, rfl, rfl⟩⟩
  rw [List.take_of_length_le (by omega)]
  simp -implicitDefEqProofs [hlt]
  refine R_loopO (fun m st h' => ∃ (now' : Int) (rs' : List Int) (S : List Sp) (u : Value), st = [(0, .slice oj js.length cj), (3, .int .i64 o), (9, u), (10, .slice ox js.length cx), (11, .int .i64 (sumL rs')), (13, .int .i64 now')] ∧ Ch js rs' now' m ∧ 0 ≤ now' ∧ now' + m ≤ 2 ^ 31 ∧ S.length + m ≤ FU ∧ Y = (picks o js m now' rs').foldl mgS S ∧ Holds h h' [.own u 3 (S.map encS), .own (.slice ox js.length cx) 1 (rs'.map encI)]) (fun I2 hI2 m2 st h' => ?_) (n := FU) ⟨now, rs, [], .slice none 0 0, by simp, C, hnow.1, by unfold FU; omega, by simp, eY, H1⟩
  rintro ⟨now', rs', S, u, rfl, C', n0, n1, hSl, hY, H⟩
  have hl' := C'.l
  by_cases hs : 0 < sumL rs'
  · have wn : IntKind.i64.wrap (now' + 1) = now' + 1 := by rw [wrap_ok] <;> omega
    have rp := l5Pick_run (o := o) (now := now') (hjs.pre H.pre) (H.sees 1 rfl) hn hl' ho
    rcases pick_cases (o := o) (js := js) (rs := rs') (now := now') with ⟨hp, _⟩ | ⟨b, hp, hb, hb0⟩
    · obtain ⟨_, C2, hm⟩ := C'.skip hg hs (o := o) (by omega)
      obtain ⟨m', rfl⟩ : ∃ m', m2 = m' + 1 := ⟨m2 - 1, by omega⟩
      rw [hp] at rp
      rw [picks, if_neg (by omega), hp, if_pos (by omega)] at hY
      simp -implicitDefEqProofs [hs, CL_ret rp, wn]
      exact ⟨m', by omega, on hI2 ⟨now' + 1, rs', S, u, by simp, C2, by omega, by omega, by omega, hY, H⟩⟩
    · obtain ⟨C2, hm, hsum⟩ := C'.take hs hb hb0
      obtain ⟨m', rfl⟩ : ∃ m', m2 = m' + 1 := ⟨m2 - 1, by omega⟩
      rw [hp] at rp
      rw [picks, if_neg (by omega), hp, if_neg (by omega), List.foldl_cons, Int.toNat_natCast] at hY
      have bs := sumL_nn C'.b
      have bx := C'.b _ (gE_mem (l := rs') (i := b) (by omega))
      have wl : IntKind.i64.wrap (sumL rs' - 1) = sumL (rs'.set b (gE rs' b - 1)) := by rw [hsum, wrap_ok] <;> omega
      have wr : IntKind.i64.wrap (gE rs' b - 1) = gE rs' b - 1 := by rw [wrap_ok] <;> omega
      have hb1 : ¬ (b : Int) < 0 := by omega
      have hF : FU = 1000 := rfl
      have new : mgS S (b, now') = S ++ [⟨b, now', now' + 1⟩] → ∃ u' h2 h3, appendP P (h' ++ [some ⟨[.int .i64 b, .int .i64 now', .int .i64 (now' + 1)], 3, false⟩]) t_S_impl_Span u (.slice (some ⟨h'.length, 0, some 3⟩) 1 1) = some (u', h2) ∧
          (indexAddrP P h2 t_S_int (.slice ox js.length cx) (.int .i64 b) = some (.pointer (some (addP (base (.slice ox js.length cx)) b))) ∧ loadP P h2 t_int (.pointer (some (addP (base (.slice ox js.length cx)) b))) = some (.int .i64 (gE rs' b)) ∧
          storeP P h2 t_int (.int .i64 (gE rs' b - 1)) (.pointer (some (addP (base (.slice ox js.length cx)) b))) = some h3) ∧
          I2 m' [(0, .slice oj js.length cj), (3, .int .i64 o), (9, u'), (10, .slice ox js.length cx), (11, .int .i64 (sumL (rs'.set b (gE rs' b - 1)))), (13, .int .i64 (now' + 1))] h3 := fun hm => by
        obtain ⟨u', h2, ha, H2, _⟩ := push_S0 H 0 rfl (⟨b, now', now' + 1⟩ : Sp) (by omega)
        have lr := load_I (H2.sees 1 rfl) (gE_get (l := rs') (i := b) (by omega))
        obtain ⟨h3, s3, H3, _⟩ := put_I H2 1 rfl (j := b) (by omega) (gE rs' b - 1)
        refine ⟨u', h2, h3, ha, ⟨lr.1, lr.2, s3⟩, on hI2 ⟨now' + 1, _, S ++ [(⟨b, now', now' + 1⟩ : Sp)], u', rfl, C2, by omega, by omega, by simp; omega, by rw [← hm]; exact hY, H3⟩⟩
      rcases List.eq_nil_or_concat S with rfl | ⟨S1, l, rfl⟩
      · obtain ⟨ua, uc, rfl⟩ : ∃ a c, u = .slice a 0 c := (H.sees 0 rfl).shapeT
        obtain ⟨u', h2, h3, ha, ⟨i2, l2, s3⟩, hf⟩ := new mgS_nil
        simp -implicitDefEqProofs [-indexAddrP_some, hs, CL_ret rp, hb1, show IntKind.i64.wrap (-1) = -1 by decide, wn, ha, i2, l2, wr, s3, wl]
        exact ⟨m', by omega, hf⟩
      · rw [List.concat_eq_append] at *
        obtain ⟨ua, uc, rfl⟩ : ∃ a c, u = .slice a (S1.length + 1) c := by obtain ⟨a, c, e⟩ := (H.sees 0 rfl).shapeT; exact ⟨a, c, by rw [e]; simp⟩
        have hS1 : S1.length + 1 + (m' + 1) ≤ FU := by simpa using hSl
        have wS : IntKind.i64.wrap (S1.length : Int) = S1.length := by rw [wrap_ok] <;> omega
        have hS0 : (0 : Int) ≤ S1.length := by omega
        have lS := load_S (H.sees 0 rfl) (i := S1.length) (x := l) (by simp)
        by_cases c1 : l.j = b
        · have c1' : (l.j == (b : Int)) = true := by simpa using c1
          by_cases c2 : l.b = now'
          · have c2' : (l.b == now') = true := by simpa using c2
            obtain ⟨h2, s2, H2, _⟩ := fput_S2 H 0 rfl (j := S1.length) (y := l) (by simp) (now' + 1)
            have lr := load_I (H2.sees 1 rfl) (gE_get (l := rs') (i := b) (by omega))
            obtain ⟨h3, s3, H3, _⟩ := put_I H2 1 rfl (j := b) (by omega) (gE rs' b - 1)
            have eset : (S1 ++ [l]).set S1.length { l with b := now' + 1 } = S1 ++ [{ l with b := now' + 1 }] := by rw [List.set_append_right (h := Nat.le_refl _), Nat.sub_self]; rfl
            rw [eset] at H3
            simp -implicitDefEqProofs [-indexAddrP_some, hs, CL_ret rp, hb1, wS, hS0, lS, c1', c2', wn, s2, lr, wr, s3, wl]
            refine ⟨m', by omega, on hI2 ⟨now' + 1, _, S1 ++ [({ l with b := now' + 1 } : Sp)], _, rfl, C2, by omega, by omega, by simp; omega, by rw [mgS_eq c1 c2] at hY; exact hY, H3⟩⟩
          · obtain ⟨u', h2, h3, ha, ⟨i2, l2, s3⟩, hf⟩ := new (mgS_ne fun g => c2 g.2)
            simp -implicitDefEqProofs [-indexAddrP_some, hs, CL_ret rp, hb1, wS, hS0, lS, c1', nb c2, wn, ha, i2, l2, wr, s3, wl]
            exact ⟨m', by omega, hf⟩
        · obtain ⟨u', h2, h3, ha, ⟨i2, l2, s3⟩, hf⟩ := new (mgS_ne fun g => c1 g.1)
          simp -implicitDefEqProofs [-indexAddrP_some, hs, CL_ret rp, hb1, wS, hS0, lS, nb c1, wn, ha, i2, l2, wr, s3, wl]
          exact ⟨m', by omega, hf⟩
  · have hY2 : Y = S := by
      rw [hY]
      cases m2 with
      | zero => rfl
      | succ k => rw [picks, if_pos (by omega)]; rfl
    subst hY2
    simp -implicitDefEqProofs [hs]
    exact onK hK (H.ret 0 rfl)
end
end Go.Pm.PP

/- Codes that are cut, bytes that are told, comparisons of the laws; base of memory. -/
set_option linter.unusedVariables false
set_option linter.unusedSimpArgs false
set_option maxRecDepth 4000
set_option maxHeartbeats 16000000
namespace Go.Pm.PP
open Go.Pm Go.Proofs Go.Pm.PE
theorem _root_.Go.Pm.Holds.base {h0 h1 h : Hp} {L : List Asn} (H : Holds h1 h L) (hp : h0 <+: h1) : Holds h0 h L := by
  have hl := hp.length_le
  refine ⟨hp.trans H.pre, fun i A e => ?_, H.dist⟩
  have := H.ok i A e
  cases A with
  | own v sz els => exact Own.low this hl
  | box r cs => exact ⟨Nat.le_trans hl this.1, this.2⟩
section
variable {h : Hp} {v u : Value} {xs ys : List Int}
theorem vInts_run (hv : Ints h v xs) (hu : Ints h u xs) (hx : xs.length ≤ 2 ^ 40) : Ret P G n_laws_vInts [v, u] h (.bool true) h := by
  refine enter_run e_laws_vInts (by simp) ?_
  have hvs := hv
  have hus := hu
  obtain ⟨oa, c, rfl⟩ := hv.shapeT
  obtain ⟨ob, c', rfl⟩ := hu.shapeT
  simp -implicitDefEqProofs
  refine R_loopO (fun m s h' => ∃ i : Nat, i + m = xs.length ∧ s = [(0, .slice oa xs.length c), (1, .slice ob xs.length c'), (5, .int .i64 i)] ∧ h' = h) (fun I hI m s h' => ?_) (n := xs.length) ⟨0, Nat.zero_add _, by simp, rfl⟩
  rintro ⟨i, hi, rfl, rfl⟩
  by_cases hlt : i < xs.length
  · obtain ⟨x, hx', _⟩ := drop_at hlt
    simp -implicitDefEqProofs [-indexAddrP_some, hlt, load_I hvs hx', load_I hus hx', winc hlt hx]
    exact ⟨m - 1, by omega, on hI ⟨i + 1, by omega, rfl, rfl⟩⟩
  · simp -implicitDefEqProofs [hlt]
theorem vBig_run {bs : List Int} (hb : Sees h v 1 (bs.map encU)) : Ret P G n_laws_vBig [v] h (.bool (decide ((65536 : Int) < bs.length))) h := by
  refine enter_run e_laws_vBig (by simp) ?_
  obtain ⟨oa, c, rfl⟩ := hb.shapeT
  simp -implicitDefEqProofs
theorem vCut_run {n : Nat} {bs : List Int} (hb : Sees h v 1 (bs.map encU)) (hr : ∀ b, b ∈ bs → 0 ≤ b ∧ b ≤ 255) (hl : bs.length ≤ 65536) (hn : n ≤ 200) : RunsC P G n_laws_vCut [v, .int .i64 n] h fun w h' => h <+: h' ∧ By h' w := by
  refine hideC fun K hK => enter_run e_laws_vCut (by simp) ?_
  have Bs := hb
  obtain ⟨oa, c, rfl⟩ := hb.shapeT
  have cvU : ∀ {x : Int}, convP P t_int t_u8 (.int .i64 x) = some (.int .u8 (IntKind.u8.wrap x)) := by intro x; unfold convP; rw [u_int, u_u8]
  have wr : ∀ k : Nat, k ≤ 200 → IntKind.u8.wrap (k : Int) = (k : Int) := fun k hk => by
    unfold IntKind.wrap; simp [IntKind.signed, IntKind.bits]; omega
  have H0 := own_nil (Holds.start (h := h)) Int encU 1
  have fin : ∀ k : Nat, k ≤ n → k ≤ bs.length → ∃ v3 v4 h4 v5 h5, sliceP P h t_S_u8 (.slice oa bs.length c) (some (.int .i64 (k : Int))) none = some v3 ∧ appendP P h t_S_u8 (.slice none 0 0) v3 = some (v4, h4) ∧ appendP P (h4 ++ [some ⟨[.int .u8 (k : Int)], 1, false⟩]) t_S_u8 v4 (.slice (some ⟨h4.length, 0, some 1⟩) 1 1) = some (v5, h5) ∧ K v5 (gc h h5 v5) := fun k hk hkl => by
    obtain ⟨v3, s3, f3, _⟩ := Bs.back (P := P) u_S_u8 i_u8 (k := .i64) (j := (k : Int)) (by omega) (by simp; omega)
    rw [Int.toNat_natCast, ← List.map_drop] at f3
    obtain ⟨v4, h4, a4, H4, _⟩ := app_U H0 0 rfl f3 (by simp; omega)
    have H4 : Holds h h4 [.own v4 1 ((bs.drop k).map encU)] := H4
    obtain ⟨v5, h5, a5, H5, _⟩ := push_U0 H4 0 rfl (k : Int) (by simp; omega)
    refine ⟨v3, v4, h4, v5, h5, s3, a4, a5, onK hK ⟨(H5.ret 0 rfl).1, ⟨bs.drop k ++ [(k : Int)], (H5.ret 0 rfl).2.sees, fun b hb => ?_, by simp; omega⟩⟩⟩
    rcases List.mem_append.1 hb with g | g
    · exact hr b (List.mem_of_mem_drop g)
    · rw [List.mem_singleton.1 g]; omega
  by_cases c1 : bs.length < n
  · have c1' : (bs.length : Int) < n := by omega
    obtain ⟨v3, v4, h4, v5, h5, s3, a4, a5, f⟩ := fin bs.length (by omega) (Nat.le_refl _)
    simp -implicitDefEqProofs [c1, c1', s3, a4, cvU, wr bs.length (by omega), a5]
    exact f
  · have c1' : ¬ (bs.length : Int) < n := by omega
    obtain ⟨v3, v4, h4, v5, h5, s3, a4, a5, f⟩ := fin n (Nat.le_refl _) (by omega)
    simp -implicitDefEqProofs [c1, c1', s3, a4, cvU, wr n hn, a5]
    exact f
theorem vAt_run {i : Nat} {bs : List Int} (hb : Sees h v 1 (bs.map encU)) (hr : ∀ b, b ∈ bs → 0 ≤ b ∧ b ≤ 255) (hl : bs.length ≤ 65536) (hi : i ≤ 1000) : ∃ x : Int, (0 ≤ x ∧ x ≤ 255) ∧ Ret P G n_laws_vAt [v, .int .i64 i] h (.int .i64 x) h := by
  obtain ⟨oa, c, rfl⟩ := hb.shapeT
  by_cases c1 : i < bs.length
  · obtain ⟨x, hx, _⟩ := drop_at c1
    have bx := hr x (List.mem_of_getElem? hx)
    refine ⟨x, bx, enter_run e_laws_vAt (by simp) ?_⟩
    have c1' : (i : Int) < bs.length := by omega
    have lx := load_U hb hx
    have w : IntKind.i64.wrap x = x := by rw [wrap_ok] <;> omega
    simp -implicitDefEqProofs [-indexAddrP_some, c1, c1', lx, cv1, w]
  · refine ⟨((i : Int) * 7 + bs.length) % 256, by omega, enter_run e_laws_vAt (by simp) ?_⟩
    have c1' : ¬ (i : Int) < bs.length := by omega
    have w1 : IntKind.i64.wrap ((i : Int) * 7) = (i : Int) * 7 := by rw [wrap_ok] <;> omega
    have w2 : IntKind.i64.wrap ((i : Int) * 7 + bs.length) = (i : Int) * 7 + bs.length := by rw [wrap_ok] <;> omega
    have m1 : ((i : Int) * 7 + bs.length).tmod 256 = ((i : Int) * 7 + bs.length) % 256 := Int.tmod_eq_emod_of_nonneg (by omega)
    simp -implicitDefEqProofs [c1, c1', w1, w2, m1]
end
end Go.Pm.PP

/- Split schedules by the reference; what both export of them. -/
set_option linter.unusedVariables false
set_option linter.unusedSimpArgs false
set_option maxRecDepth 4000
set_option maxHeartbeats 16000000
namespace Go.Pm.PP
open Go.Pm Go.Proofs Go.Pm.PE
section
variable {h : Hp} {vj v u vs : Value} {js : List Job} {xs : List Int} {S T : List Sp}
theorem l3Job_run {x : Int} (J : Jobs h vj js) (hl : js.length ≤ 2 ^ 40) : Ret P G n_spec_l3Job [vj, .int .i64 x] h (.bool (inB x 0 ((js.length : Int) - 1))) h := by
  refine enter_run e_spec_l3Job (by simp) ?_
  obtain ⟨oj, cj, rfl⟩ := J.shapeT
  have w : IntKind.i64.wrap ((js.length : Int) - 1) = (js.length : Int) - 1 := by rw [wrap_ok] <;> omega
  simp -implicitDefEqProofs [CL_ret l1In_run, w]
theorem l5Split_run (J : Jobs h vj js) (X : Spns h vs S) (hg : goodL js = true) (hn : js.length ≤ 8) (hS : S.length ≤ 2 ^ 20) : Ret P G n_spec_l5Split [vj, vs] h (.bool (splB js S)) h := by
  refine enter_run e_spec_l5Split (by simp) ?_
  have Js := J
  have Xs := X
  obtain ⟨oj, cj, rfl⟩ := J.shapeT
  obtain ⟨oa, ca, rfl⟩ := X.shapeT
  obtain ⟨vz, h1, mk, H1, hp1, oz, rfl⟩ := make_I (Holds.start (h := h)) (n := js.length) (by omega)
  simp -implicitDefEqProofs [mk]
  refine R_loopO (fun m s h' => ∃ (i : Nat) (D : List Int) (now last : Int), i + m = S.length ∧ s = [(0, .slice oj js.length cj), (1, .slice oa S.length ca), (5, .slice oz js.length js.length), (6, .int .i64 now), (7, .int .i64 last), (8, .int .i64 i)] ∧ Holds h h' [.own (.slice oz js.length js.length) 1 (D.map encI)] ∧
    D = doneL js (S.take i) ∧ (∀ x, x ∈ D → 0 ≤ x ∧ x ≤ 1000 * i) ∧ spGo js 0 (-1) S = spGo js now last (S.drop i)) (fun I hI m s h' => ?_) (n := S.length)
    ⟨0, List.replicate js.length 0, 0, -1, Nat.zero_add _, by simp, H1, rfl, fun x hx => by rw [List.eq_of_mem_replicate hx]; omega, rfl⟩
  rintro ⟨i, D, now, last, hi, rfl, H, hD, hDb, he⟩
  by_cases hlt : i < S.length
  · have hlt' : (i : Int) < S.length := by omega
    obtain ⟨s, hs, hd⟩ := drop_at hlt
    have ls := load_S (Xs.pre H.pre) hs
    have HB := H.ext (List.prefix_append h' [some (⟨[.int .i64 s.j, .int .i64 s.a, .int .i64 s.b], 0, false⟩ : Row)])
    rw [hd] at he
    have nope : spOk js now last s = false → splB js S = false := fun g => by unfold splB; rw [he, spGo_false g, Bool.false_and]
    have hp9 : h <+: h' ++ [some (⟨[.int .i64 s.j, .int .i64 s.a, .int .i64 s.b], 0, false⟩ : Row)] := HB.pre
    have rj := l3Job_run (x := s.j) (Js.pre HB.pre) (by omega)
    by_cases c1 : 0 ≤ s.j ∧ s.j < js.length
    case neg =>
      have b1 : inB s.j 0 ((js.length : Int) - 1) = false := by simp [inB]; omega
      rw [b1] at rj
      have n1 := nope (spOk_no fun g => c1 g.1)
      simp -implicitDefEqProofs [-indexAddrP_some, hlt, hlt', ls, CL_ret rj, CH_at rj, n1]
      try exact gcP hp9 rfl
    have b1 : inB s.j 0 ((js.length : Int) - 1) = true := by simp [inB]; omega
    rw [b1] at rj
    have lj := load_JX (Js.pre HB.pre) c1
    by_cases c0 : s.a < now
    · have n1 := nope (spOk_no fun g => by omega)
      simp -implicitDefEqProofs [-indexAddrP_some, hlt, hlt', ls, CL_ret rj, CH_at rj, lj, c0, n1]
      try exact gcP hp9 rfl
    by_cases c2 : s.a < (jA js s.j).r
    · have n1 := nope (spOk_no fun g => by omega)
      simp -implicitDefEqProofs [-indexAddrP_some, hlt, hlt', ls, CL_ret rj, CH_at rj, lj, c0, c2, n1]
      try exact gcP hp9 rfl
    by_cases c3 : s.b ≤ s.a
    · have n1 := nope (spOk_no fun g => by omega)
      simp -implicitDefEqProofs [-indexAddrP_some, hlt, hlt', ls, CL_ret rj, CH_at rj, lj, c0, c2, c3, n1]
      try exact gcP hp9 rfl
    have jb := jA_b hg c1
    have fin : spOk js now last s = true → ∃ h2, storeP P (h' ++ [some (⟨[.int .i64 s.j, .int .i64 s.a, .int .i64 s.b], 0, false⟩ : Row)]) t_int (.int .i64 (gE D s.j.toNat + s.b - s.a)) (.pointer (some (addP (base (.slice oz js.length js.length)) s.j.toNat))) = some h2 ∧
        (loadP P h2 t_int (.pointer (some ⟨h'.length, 2, some 3⟩)) = some (.int .i64 s.b) ∧ loadP P h2 t_int (.pointer (some ⟨h'.length, 0, some 3⟩)) = some (.int .i64 s.j)) ∧
        I (m - 1) [(0, .slice oj js.length cj), (1, .slice oa S.length ca), (5, .slice oz js.length js.length), (6, .int .i64 s.b), (7, .int .i64 s.j), (8, .int .i64 ((i + 1 : Nat) : Int))] h2 := fun g => by
      have dl : D.length = js.length := by rw [hD, doneL_len]
      have HA := H.alloc [.int .i64 s.j, .int .i64 s.a, .int .i64 s.b]
      obtain ⟨h2, s2, H2, _⟩ := put_I HA 0 rfl (j := s.j.toNat) (by omega) (gE D s.j.toNat + s.b - s.a)
      refine ⟨h2, s2, ⟨H2.bl (P := P) 1 3 rfl rfl t_int 2, H2.bl (P := P) 1 3 rfl rfl t_int 0⟩, on hI ⟨i + 1, _, s.b, s.j, by omega, rfl, H2.take 1, ?_, fun x hx => ?_, ?_⟩⟩
      · rw [take_succ' hs, doneL_snoc, ← hD]; rfl
      · have dj := hDb _ (gE_mem (show s.j.toNat < D.length by omega))
        rcases List.mem_or_eq_of_mem_set hx with q | q
        · have := hDb x q; omega
        · have := (spOk_iff.1 g).2.2.2.2.2; omega
      · rw [he, spGo_true g]
    have ld := load_EX (x := s.j) (HB.sees 0 rfl : Ints _ _ D) (by rw [hD, doneL_len]; exact c1)
    have dj := hDb _ (gE_mem (show s.j.toNat < D.length by rw [hD, doneL_len]; omega))
    by_cases c6 : s.j = last
    · have c6' : (s.j == last) = true := by rw [beq_iff_eq]; exact c6
      by_cases c7 : s.a = now
      · have c7' : (s.a == now) = true := by rw [beq_iff_eq]; exact c7
        have n1 := nope (spOk_no fun g => g.2.2.2.2.1 ⟨c6, c7⟩)
        simp -implicitDefEqProofs [-indexAddrP_some, hlt, hlt', ls, CL_ret rj, CH_at rj, lj, c0, c2, c3, c6', c7', n1]
        try exact gcP hp9 rfl
      by_cases c4 : 1000 < s.b
      · have n1 := nope (spOk_no fun g => by omega)
        simp -implicitDefEqProofs [-indexAddrP_some, hlt, hlt', ls, CL_ret rj, CH_at rj, lj, c0, c2, c3, c6', nb c7, c4, n1]
        try exact gcP hp9 rfl
      have w1 : IntKind.i64.wrap (gE D s.j.toNat + s.b) = gE D s.j.toNat + s.b := by rw [wrap_ok] <;> omega
      have w2 : IntKind.i64.wrap (gE D s.j.toNat + s.b - s.a) = gE D s.j.toNat + s.b - s.a := by rw [wrap_ok] <;> omega
      obtain ⟨h2, s2, ⟨q1, q2⟩, k2⟩ := fin (spOk_iff.2 ⟨c1, by omega, by omega, by omega, fun g => c7 g.2, by omega⟩)
      simp -implicitDefEqProofs [-indexAddrP_some, hlt, hlt', ls, CL_ret rj, CH_at rj, lj, c0, c2, c3, c6', nb c7, c4, ld, w1, w2, s2, q1, q2, winc hlt (by omega)]
      exact ⟨m - 1, by omega, by simpa using k2⟩
    · by_cases c4 : 1000 < s.b
      · have n1 := nope (spOk_no fun g => by omega)
        simp -implicitDefEqProofs [-indexAddrP_some, hlt, hlt', ls, CL_ret rj, CH_at rj, lj, c0, c2, c3, nb c6, c4, n1]
        try exact gcP hp9 rfl
      have w1 : IntKind.i64.wrap (gE D s.j.toNat + s.b) = gE D s.j.toNat + s.b := by rw [wrap_ok] <;> omega
      have w2 : IntKind.i64.wrap (gE D s.j.toNat + s.b - s.a) = gE D s.j.toNat + s.b - s.a := by rw [wrap_ok] <;> omega
      obtain ⟨h2, s2, ⟨q1, q2⟩, k2⟩ := fin (spOk_iff.2 ⟨c1, by omega, by omega, by omega, fun g => c6 g.1, by omega⟩)
      simp -implicitDefEqProofs [-indexAddrP_some, hlt, hlt', ls, CL_ret rj, CH_at rj, lj, c0, c2, c3, nb c6, c4, ld, w1, w2, s2, q1, q2, winc hlt (by omega)]
      exact ⟨m - 1, by omega, by simpa using k2⟩
  have hlt' : ¬ (i : Int) < S.length := by omega
  rw [List.drop_eq_nil_of_le (by omega)] at he
  have he : spGo js 0 (-1) S = true := he
  rw [List.take_of_length_le (by omega)] at hD
  have dl : D.length = js.length := by rw [hD, doneL_len]
  have esp : splB js S = decide (D = js.map (·.t)) := by unfold splB; rw [he, Bool.true_and, hD]
  rw [esp]
  simp -implicitDefEqProofs [hlt, hlt']
  refine R_loopO (fun m s h2 => ∃ (k : Nat), k + m = js.length ∧ s = [(0, .slice oj js.length cj), (5, .slice oz js.length js.length), (10, .int .i64 k)] ∧ h2 = h' ∧ ∀ q, q < k → gE D q = (jA js q).t) (fun I2 hI2 m2 s2 h2 => ?_) (n := js.length) ⟨0, Nat.zero_add _, by simp, rfl, fun q hq => by omega⟩
  rintro ⟨k, hk, rfl, rfl, hq⟩
  by_cases hlk : k < js.length
  · have hlk' : (k : Int) < js.length := by omega
    have lj := load_JX (x := (k : Int)) (Js.pre H.pre) ⟨by omega, by omega⟩
    simp only [Int.toNat_natCast] at lj
    have ld := load_I (H.sees 0 rfl : Ints _ _ D) (gE_get (show k < D.length by omega))
    by_cases c : gE D k = (jA js k).t
    · have c' : (gE D k != (jA js k).t) = false := by rw [bne_eq_false_iff_eq]; exact c
      simp -implicitDefEqProofs [-indexAddrP_some, hlk, hlk', lj, ld, c', winc hlk (by omega)]
      refine ⟨m2 - 1, by omega, on hI2 ⟨k + 1, by omega, by simp, rfl, fun q hqk => ?_⟩⟩
      by_cases e : q = k
      · subst e; exact c
      · exact hq q (by omega)
    · have ne : decide (D = js.map (·.t)) = false := by
        rw [decide_eq_false_iff_not]
        intro e
        apply c
        obtain ⟨y, hy, _⟩ := drop_at hlk
        have ey : jA js k = y := by unfold jA; rw [Int.toNat_natCast, hy]; rfl
        rw [e, ey]; unfold gE; rw [List.getElem?_map, hy]; rfl
      have hp8 := H.pre
      simp -implicitDefEqProofs [-indexAddrP_some, hlk, hlk', lj, ld, nt c, ne]
      try exact gcP hp8 rfl
  · have hlk' : ¬ (k : Int) < js.length := by omega
    have yes : decide (D = js.map (·.t)) = true := by
      rw [decide_eq_true_eq]
      apply List.ext_getElem?
      intro q
      rcases Nat.lt_or_ge q js.length with g | g
      · obtain ⟨y, hy, _⟩ := drop_at g
        have ey : jA js q = y := by unfold jA; rw [Int.toNat_natCast, hy]; rfl
        rw [gE_get (by omega), hq q (by omega), ey, List.getElem?_map, hy]; rfl
      · rw [List.getElem?_eq_none (by omega), List.getElem?_eq_none (by simpa using g)]
    simp -implicitDefEqProofs [hlk, hlk', yes]
    exact gcP H.pre rfl
theorem l5Ends_run (J : Jobs h vj js) (X : Spns h vs S) (hn : js.length ≤ 8) (hS : S.length ≤ 2 ^ 20) (hin : ∀ s, s ∈ S → 0 ≤ s.j ∧ s.j < js.length) : RunsC P G n_spec_l5Ends [vj, vs] h fun v h' => h <+: h' ∧ Own h.length h' v 1 ((spE js S).map encI) := by
  refine hideC fun K hK => enter_run e_spec_l5Ends (by simp) ?_
  have Js := J
  have Xs := X
  obtain ⟨oj, cj, rfl⟩ := J.shapeT
  obtain ⟨oa, ca, rfl⟩ := X.shapeT
  obtain ⟨vz, h1, mk, H1, hp1, oz, rfl⟩ := make_I (Holds.start (h := h)) (n := js.length) (by omega)
  simp -implicitDefEqProofs [mk]
  refine R_loopO (fun m s h' => ∃ (i : Nat), i + m = S.length ∧ s = [(1, .slice oa S.length ca), (5, .slice oz js.length js.length), (6, .int .i64 i)] ∧ Holds h h' [.own (.slice oz js.length js.length) 1 ((spE js (S.take i)).map encI)]) (fun I hI m s h' => ?_) (n := S.length)
    ⟨0, Nat.zero_add _, by simp, H1⟩
  rintro ⟨i, hi, rfl, H⟩
  have dl : (spE js (S.take i)).length = js.length := spE_len
  by_cases hlt : i < S.length
  · have hlt' : (i : Int) < S.length := by omega
    obtain ⟨s, hs, hd⟩ := drop_at hlt
    have is := hin s (List.mem_of_getElem? hs)
    have ls := load_S (Xs.pre H.pre) hs
    have ix := (load_EX (x := s.j) (H.sees 0 rfl : Ints _ _ _) (by rw [dl]; exact is)).1
    obtain ⟨h2, s2, H2, _⟩ := put_I H 0 rfl (j := s.j.toNat) (by omega) s.b
    have e : spE js (S.take (i + 1)) = (spE js (S.take i)).set s.j.toNat s.b := by unfold spE; rw [take_succ' hs, foldS_snoc]
    simp -implicitDefEqProofs [-indexAddrP_some, hlt, hlt', ls, ix, s2, winc hlt (by omega)]
    exact ⟨m - 1, by omega, on hI ⟨i + 1, by omega, by simp, by rw [e]; exact H2⟩⟩
  · have hlt' : ¬ (i : Int) < S.length := by omega
    rw [List.take_of_length_le (by omega)] at H
    simp -implicitDefEqProofs [hlt, hlt']
    exact onK hK (H.ret 0 rfl)
def spO (js : List Job) (S : List Sp) : Bool := jOk js && splB js S
theorem implIsSplit_run (J : Jobs h vj js) (X : Spns h vs S) (hl : js.length ≤ 2 ^ 40) (hS : S.length ≤ 2 ^ 20) : Ret P G n_impl_IsSplit [vj, vs] h (.tuple #[.bool (spO js S), .bool (jOk js)]) h := by
  refine enter_run e_impl_IsSplit (by simp) ?_
  have r1 := isJobs_run J hl
  have Js := J
  have Xs := X
  obtain ⟨oj, cj, rfl⟩ := J.shapeT
  obtain ⟨oa, ca, rfl⟩ := X.shapeT
  cases c1 : jOk js
  · rw [c1] at r1
    simp -implicitDefEqProofs [CL_ret r1, spO, c1]
  rw [c1] at r1
  obtain ⟨hn, hg⟩ := jOk_of c1
  have r2 := isSplit_run Js Xs hg hn hS
  simp -implicitDefEqProofs [CL_ret r1, CL_ret r2, spO, c1]
theorem specIsSplit_run (J : Jobs h vj js) (X : Spns h vs S) (hl : js.length ≤ 2 ^ 40) (hS : S.length ≤ 2 ^ 20) : Ret P G n_spec_IsSplit [vj, vs] h (.tuple #[.bool (spO js S), .bool (jOk js)]) h := by
  refine enter_run e_spec_IsSplit (by simp) ?_
  have r1 := good_run J hl
  have Js := J
  have Xs := X
  obtain ⟨oj, cj, rfl⟩ := J.shapeT
  obtain ⟨oa, ca, rfl⟩ := X.shapeT
  cases c1 : jOk js
  · rw [c1] at r1
    simp -implicitDefEqProofs [CL_ret r1, spO, c1]
  rw [c1] at r1
  obtain ⟨hn, hg⟩ := jOk_of c1
  have r2 := l5Split_run Js Xs hg hn hS
  simp -implicitDefEqProofs [CL_ret r1, CL_ret r2, spO, c1]
theorem l5Both_run (J : Jobs h vj js) (X : Spns h vs S) (hl : js.length ≤ 2 ^ 40) (hS : S.length ≤ 2 ^ 20) : Ret P G n_spec_l5Both [vj, vs] h (.bool (spO js S)) h := by
  refine enter_run e_spec_l5Both (by simp) ?_
  have r1 := good_run J hl
  have Js := J
  have Xs := X
  obtain ⟨oj, cj, rfl⟩ := J.shapeT
  obtain ⟨oa, ca, rfl⟩ := X.shapeT
  cases c1 : jOk js
  · rw [c1] at r1
    simp -implicitDefEqProofs [CL_ret r1, spO, c1]
  rw [c1] at r1
  obtain ⟨hn, hg⟩ := jOk_of c1
  have r2 := l5Split_run Js Xs hg hn hS
  simp -implicitDefEqProofs [CL_ret r1, CL_ret r2, spO, c1]
theorem spO_of (h : spO js S = true) : js.length ≤ 8 ∧ goodL js = true ∧ splB js S = true := by
  unfold spO at h
  rw [Bool.and_eq_true] at h
  obtain ⟨hn, hg⟩ := jOk_of h.1
  exact ⟨hn, hg, h.2⟩
def seO (js : List Job) (S : List Sp) : List Int := if spO js S = true then spE js S else []
theorem implSplitEnds_run (J : Jobs h vj js) (X : Spns h vs S) (hl : js.length ≤ 2 ^ 40) (hS : S.length ≤ 2 ^ 20) : RunsC P G n_impl_SplitEnds [vj, vs] h fun w h' => h <+: h' ∧ ∃ d, w = .tuple #[d, .bool (spO js S)] ∧ Ints h' d (seO js S) := by
  refine hideC fun K hK => enter_run e_impl_SplitEnds (by simp) ?_
  have r1 := isJobs_run J hl
  have Js := J
  have Xs := X
  obtain ⟨oj, cj, rfl⟩ := J.shapeT
  obtain ⟨oa, ca, rfl⟩ := X.shapeT
  cases c1 : jOk js
  · rw [c1] at r1
    rw [seO, spO, c1] at hK
    simp -implicitDefEqProofs [CL_ret r1]
    exact onK hK ⟨List.prefix_rfl, _, rfl, nil_L⟩
  rw [c1] at r1
  obtain ⟨hn, hg⟩ := jOk_of c1
  have r2 := isSplit_run Js Xs hg hn hS
  cases c2 : splB js S
  · rw [c2] at r2
    rw [seO, spO, c1, c2] at hK
    simp -implicitDefEqProofs [CL_ret r1, CL_ret r2]
    exact onK hK ⟨List.prefix_rfl, _, rfl, nil_L⟩
  rw [c2] at r2
  rw [seO, spO, c1, c2] at hK
  simp -implicitDefEqProofs [CL_ret r1, CL_ret r2]
  refine CL_post (splitEnds_run Js Xs hn hS fun s hs => (spl_all c2 s hs).1) fun w h1 ⟨hp1, o1⟩ => ?_
  obtain ⟨wa, wn, wc, rfl⟩ : ∃ a n c, w = .slice a n c := by obtain ⟨a, c, e⟩ := o1.sees.shape; exact ⟨_, _, _, e⟩
  simp -implicitDefEqProofs
  exact onK hK ⟨pre_gcU hp1, _, rfl, Sees.gcU o1.sees fun g => plainT (r := [_]) g⟩
theorem specSplitEnds_run (J : Jobs h vj js) (X : Spns h vs S) (hl : js.length ≤ 2 ^ 40) (hS : S.length ≤ 2 ^ 20) : RunsC P G n_spec_SplitEnds [vj, vs] h fun w h' => h <+: h' ∧ ∃ d, w = .tuple #[d, .bool (spO js S)] ∧ Ints h' d (seO js S) := by
  refine hideC fun K hK => enter_run e_spec_SplitEnds (by simp) ?_
  have r1 := l5Both_run J X hl hS
  have Js := J
  have Xs := X
  obtain ⟨oj, cj, rfl⟩ := J.shapeT
  obtain ⟨oa, ca, rfl⟩ := X.shapeT
  cases c1 : spO js S
  · rw [c1] at r1
    rw [seO, c1] at hK
    simp -implicitDefEqProofs [CL_ret r1]
    exact onK hK ⟨List.prefix_rfl, _, rfl, nil_L⟩
  rw [c1] at r1
  rw [seO, c1, if_pos rfl] at hK
  obtain ⟨hn, hg, c2⟩ := spO_of c1
  simp -implicitDefEqProofs [CL_ret r1]
  refine CL_post (l5Ends_run Js Xs hn hS fun s hs => (spl_all c2 s hs).1) fun w h1 ⟨hp1, o1⟩ => ?_
  obtain ⟨wa, wn, wc, rfl⟩ : ∃ a n c, w = .slice a n c := by obtain ⟨a, c, e⟩ := o1.sees.shape; exact ⟨_, _, _, e⟩
  simp -implicitDefEqProofs
  exact onK hK ⟨pre_gcU hp1, _, rfl, Sees.gcU o1.sees fun g => plainT (r := [_]) g⟩
theorem specSplitValue_run {o : Int} (J : Jobs h vj js) (X : Spns h vs S) (hl : js.length ≤ 2 ^ 40) (hS : S.length ≤ 2 ^ 20) : Ret P G n_spec_SplitValue [vj, vs, .int .i64 o] h (.tuple #[.int .i64 (svV js S o), .bool (svOk js S o)]) h := by
  refine enter_run e_spec_SplitValue (by simp) ?_
  have r1 := l5Both_run J X hl hS
  have Js := J
  have Xs := X
  obtain ⟨oj, cj, rfl⟩ := J.shapeT
  obtain ⟨oa, ca, rfl⟩ := X.shapeT
  cases c1 : spO js S
  · rw [c1] at r1
    have c1' : (jOk js && splB js S) = false := c1
    simp -implicitDefEqProofs [CL_ret r1, svV, svOk, c1']
  rw [c1] at r1
  have c1' : (jOk js && splB js S) = true := c1
  obtain ⟨hn, hg, c2⟩ := spO_of c1
  cases c3 : inB o 1 8
  · simp -implicitDefEqProofs [CL_ret r1, CL_ret l2Objective_run, svV, svOk, c1', c3]
  have so : svOk js S o = true := by unfold svOk; rw [c1', c3]; rfl
  have sv : svV js S o = valE o js (spE js S) := by unfold svV; rw [if_pos so]
  rw [so, sv]
  simp -implicitDefEqProofs [CL_ret r1, CL_ret l2Objective_run, c3]
  refine CL_post (l5Ends_run Js Xs hn hS fun s hs => (spl_all c2 s hs).1) fun w h1 ⟨hp1, o1⟩ => ?_
  have r4 := l2Of_run (o := o) (Js.pre hp1) (o1.sees : Ints h1 w (spE js S)) hg hn spE_len (spE_bd hg c2) (inB_of c3)
  obtain ⟨wa, wn, wc, rfl⟩ : ∃ a n c, w = .slice a n c := by obtain ⟨a, c, e⟩ := o1.sees.shape; exact ⟨_, _, _, e⟩
  simp -implicitDefEqProofs [CL_ret r4]
  exact gcP hp1 rfl
def cbV (js : List Job) (S : List Sp) : Int := if spO js S = true then (S.length : Int) - js.length else 0
theorem implCountBreaks_run (J : Jobs h vj js) (X : Spns h vs S) (hl : js.length ≤ 2 ^ 40) (hS : S.length ≤ 2 ^ 20) : Ret P G n_impl_CountBreaks [vj, vs] h (.tuple #[.int .i64 (cbV js S), .bool (spO js S)]) h := by
  refine enter_run e_impl_CountBreaks (by simp) ?_
  have r1 := isJobs_run J hl
  have Js := J
  have Xs := X
  obtain ⟨oj, cj, rfl⟩ := J.shapeT
  obtain ⟨oa, ca, rfl⟩ := X.shapeT
  cases c1 : jOk js
  · rw [c1] at r1
    simp -implicitDefEqProofs [CL_ret r1, cbV, spO, c1]
  rw [c1] at r1
  obtain ⟨hn, hg⟩ := jOk_of c1
  have r2 := isSplit_run Js Xs hg hn hS
  have w : IntKind.i64.wrap ((S.length : Int) - js.length) = (S.length : Int) - js.length := by rw [wrap_ok] <;> omega
  cases c2 : splB js S
  · rw [c2] at r2
    simp -implicitDefEqProofs [CL_ret r1, CL_ret r2, cbV, spO, c1, c2]
  rw [c2] at r2
  simp -implicitDefEqProofs [CL_ret r1, CL_ret r2, cbV, spO, c1, c2, w]
theorem specCountBreaks_run (J : Jobs h vj js) (X : Spns h vs S) (hl : js.length ≤ 2 ^ 40) (hS : S.length ≤ 2 ^ 20) : Ret P G n_spec_CountBreaks [vj, vs] h (.tuple #[.int .i64 (cbV js S), .bool (spO js S)]) h := by
  refine enter_run e_spec_CountBreaks (by simp) ?_
  have r1 := l5Both_run J X hl hS
  have Js := J
  have Xs := X
  obtain ⟨oj, cj, rfl⟩ := J.shapeT
  obtain ⟨oa, ca, rfl⟩ := X.shapeT
  cases c1 : spO js S
  · rw [c1] at r1
    simp -implicitDefEqProofs [CL_ret r1, cbV, c1]
  rw [c1] at r1
  obtain ⟨hn, hg, c2⟩ := spO_of c1
  have w : IntKind.i64.wrap ((S.length : Int) - js.length) = (S.length : Int) - js.length := by rw [wrap_ok] <;> omega
  simp -implicitDefEqProofs [CL_ret r1, cbV, c1, w]
/-! ### comparing spans -/
theorem eq_Span {a b c a' b' c' : Int} : eqAgg P t_impl_Span (.agg #[.int .i64 a, .int .i64 b, .int .i64 c]) (.agg #[.int .i64 a', .int .i64 b', .int .i64 c']) = some ((a == a') && ((b == b') && ((c == c') && true))) := by kernel_rfl
theorem vSpans_run (X : Spns h v S) (Y : Spns h u S) (hS : S.length ≤ 2 ^ 40) : Ret P G n_laws_vSpans [v, u] h (.bool true) h := by
  refine enter_run e_laws_vSpans (by simp) ?_
  have Xs := X
  have Ys := Y
  obtain ⟨ox, cx, rfl⟩ := X.shapeT
  obtain ⟨oy, cy, rfl⟩ := Y.shapeT
  simp -implicitDefEqProofs
  refine R_loopO (fun m s h' => ∃ (i : Nat), i + m = S.length ∧ s = [(0, .slice ox S.length cx), (1, .slice oy S.length cy), (5, .int .i64 i)] ∧ h' = h) (fun I hI m s h' => ?_) (n := S.length) ⟨0, Nat.zero_add _, by simp, rfl⟩
  rintro ⟨i, hi, rfl, rfl⟩
  by_cases hlt : i < S.length
  · have hlt' : (i : Int) < S.length := by omega
    obtain ⟨s, hs, _⟩ := drop_at hlt
    have lx := load_S Xs hs
    have ly := load_S Ys hs
    simp -implicitDefEqProofs [-indexAddrP_some, hlt, hlt', lx, ly, eq_Span, winc hlt (by omega)]
    exact ⟨m - 1, by omega, on hI ⟨i + 1, by omega, by simp, rfl⟩⟩
  · have hlt' : ¬ (i : Int) < S.length := by omega
    simp -implicitDefEqProofs [hlt, hlt']
end
end Go.Pm.PP

/- The split schedule of an order, and those by the rules of choice, of both. -/
set_option linter.unusedVariables false
set_option linter.unusedSimpArgs false
set_option maxRecDepth 4000
set_option maxHeartbeats 16000000
namespace Go.Pm.PP
open Go.Pm Go.Proofs Go.Pm.PE
/-! ### the split schedule of an order, in plain terms -/
def sofGo (js : List Job) : Int → List Int → List Sp
  | _, [] => []
  | now, x :: r => ⟨x, max now (jA js x).r, max now (jA js x).r + (jA js x).t⟩ :: sofGo js (max now (jA js x).r + (jA js x).t) r
def sofF (js : List Job) (E : List Int) (x : Int) : Sp := ⟨x, gE E x.toNat - (jA js x).t, gE E x.toNat⟩
theorem sof_eq {js : List Job} : ∀ {xs : List Int} {now : Int} {E : List Int}, inN E.length xs → xs.Nodup → xs.map (sofF js (endGo js xs now E)) = sofGo js now xs
  | [], _, _, _, _ => rfl
  | x :: r, now, E, hin, hnd => by
    have hx := hin x (List.mem_cons_self ..)
    have hnd := List.nodup_cons.1 hnd
    have hin' : inN E.length r := fun z hz => hin z (List.mem_cons_of_mem _ hz)
    rw [List.map_cons, endGo, sofGo, sof_eq (by rw [List.length_set]; exact hin') hnd.2]
    congr 1
    unfold sofF
    have e : gE (endGo js r (max now (jA js x).r + (jA js x).t) (E.set x.toNat (max now (jA js x).r + (jA js x).t))) x.toNat = max now (jA js x).r + (jA js x).t := by
      rw [end_out (fun z hz => (hin' z hz).1) (by rw [show ((x.toNat : Nat) : Int) = x by omega]; exact hnd.1), gE_set (by omega), if_pos rfl]
    rw [e]
    congr 1; omega
theorem sof_fold {js : List Job} : ∀ {xs : List Int} {now : Int} {E : List Int}, foldS E (sofGo js now xs) = endGo js xs now E
  | [], _, _ => rfl
  | x :: r, now, E => by
    rw [sofGo, endGo, ← sof_fold]; rfl
theorem sof_go {js : List Job} (hg : goodL js = true) : ∀ {xs : List Int} {now last : Int} {k : Nat}, inN js.length xs → xs.Nodup → last ∉ xs → 0 ≤ now → now ≤ 500 + 50 * k → k + xs.length ≤ 8 → spGo js now last (sofGo js now xs) = true
  | [], _, _, _, _, _, _, _, _, _ => rfl
  | x :: r, now, last, k, hin, hnd, hl, h0, h1, hk => by
    have hx := hin x (List.mem_cons_self ..)
    have hnd := List.nodup_cons.1 hnd
    have jb := jA_b hg hx
    rw [List.length_cons] at hk
    rw [sofGo, spGo, Bool.and_eq_true]
    have q1 : now ≤ max now (jA js x).r := by omega
    have q2 : (jA js x).r ≤ max now (jA js x).r := by omega
    have q3 : max now (jA js x).r < max now (jA js x).r + (jA js x).t := by omega
    have q4 : max now (jA js x).r + (jA js x).t ≤ 1000 := by omega
    refine ⟨spOk_iff.2 ⟨hx, q1, q2, q3, fun g => hl (by rw [← g.1]; exact List.mem_cons_self ..), q4⟩, ?_⟩
    exact sof_go hg (now := max now (jA js x).r + (jA js x).t) (last := x) (k := k + 1) (fun z hz => hin z (List.mem_cons_of_mem _ hz)) hnd.2 hnd.1 (by omega) (by omega) (by omega)
theorem sof_dur {js : List Job} {i : Nat} : ∀ {xs : List Int} {now : Int}, (∀ x, x ∈ xs → 0 ≤ x) → xs.Nodup → dur (sofGo js now xs) i = if (i : Int) ∈ xs then (jA js i).t else 0
  | [], _, _, _ => by simp [sofGo, dur]
  | x :: r, now, h0, hnd => by
    have hx := h0 x (List.mem_cons_self ..)
    have hnd := List.nodup_cons.1 hnd
    rw [sofGo, dur, sof_dur (fun z hz => h0 z (List.mem_cons_of_mem _ hz)) hnd.2]
    by_cases c : i = x.toNat
    · have e : (i : Int) = x := by omega
      rw [if_pos c, if_neg (by rw [e]; exact hnd.1), if_pos (by rw [e]; exact List.mem_cons_self ..), e]
      dsimp only; omega
    · have ne : ¬ (i : Int) = x := by omega
      rw [if_neg c]
      by_cases c2 : (i : Int) ∈ r
      · rw [if_pos c2, if_pos (List.mem_cons_of_mem _ c2)]; omega
      · rw [if_neg c2, if_neg (fun g => by rcases List.mem_cons.1 g with g | g; exact ne g; exact c2 g)]; omega
def sofL (js : List Job) (xs : List Int) : List Sp := xs.map (sofF js (endsL js xs))
theorem sof_ok {js : List Job} {xs : List Int} (hg : goodL js = true) (hn : js.length ≤ 8) (o : Ord js.length xs) : splB js (sofL js xs) = true ∧ spE js (sofL js xs) = endsL js xs ∧ (sofL js xs).length = js.length := by
  have e : sofL js xs = sofGo js 0 xs := sof_eq (by simpa using o.inn) o.nd
  refine ⟨?_, ?_, by unfold sofL; rw [List.length_map]; exact o.len⟩
  · rw [e]
    have h1 := sof_go hg (now := 0) (last := -1) (k := 0) o.inn o.nd (fun g => by have := o.inn _ g; omega) (Int.le_refl _) (by omega) (by have := o.len; omega)
    unfold splB
    rw [h1, Bool.true_and, decide_eq_true_eq]
    apply List.ext_getElem?
    intro i
    rcases Nat.lt_or_ge i js.length with g | g
    · have al := sp_all h1
      have := done_dur (js := js) (S := sofGo js 0 xs) (D := List.replicate js.length 0) (by simp) g fun s hs => (al s hs).1
      have ed : (sofGo js 0 xs).foldl addD (List.replicate js.length 0) = doneL js (sofGo js 0 xs) := rfl
      have z : gE (List.replicate js.length (0 : Int)) i = 0 := by unfold gE; simp [g]
      rw [ed, z, sof_dur (fun x hx => (o.inn x hx).1) o.nd, if_pos (o.all g)] at this
      obtain ⟨y, hy, _⟩ := drop_at g
      have ey : jA js i = y := by unfold jA; rw [Int.toNat_natCast, hy]; rfl
      rw [gE_get (by rw [doneL_len]; exact g), this, ey, List.getElem?_map, hy]
      simp
    · rw [List.getElem?_eq_none (by rw [doneL_len]; exact g), List.getElem?_eq_none (by simpa using g)]
  · rw [e]; exact sof_fold
section
variable {h : Hp} {vj v u vs : Value} {js : List Job} {xs : List Int} {S T : List Sp}
def sfO (js : List Job) (xs : List Int) : Bool := jOk js && l2OrderL js.length xs
def sfL (js : List Job) (xs : List Int) : List Sp := if sfO js xs = true then sofL js xs else []
theorem nil_S {h : Hp} : Spns h (.slice none 0 0) ([] : List Sp) := ⟨by simp, none, 0, rfl, .inl ⟨rfl, rfl, rfl⟩⟩
theorem implSplitOf_run (J : Jobs h vj js) (X : Ints h v xs) (hl : js.length ≤ 2 ^ 40) (hx : xs.length ≤ 2 ^ 40) : RunsC P G n_impl_SplitOf [vj, v] h fun w h' => h <+: h' ∧ ∃ d, w = .tuple #[d, .bool (sfO js xs)] ∧ Spns h' d (sfL js xs) := by
  refine hideC fun K hK => enter_run e_impl_SplitOf (by simp) ?_
  have r1 := isScheduled_run J X hl hx
  have Js := J
  have Xs := X
  obtain ⟨oj, cj, rfl⟩ := J.shapeT
  obtain ⟨oa, ca, rfl⟩ := X.shapeT
  cases c1 : sfO js xs
  · have c1' : (jOk js && l2OrderL js.length xs) = false := c1
    rw [c1'] at r1
    rw [sfL, c1] at hK
    simp -implicitDefEqProofs [CL_ret r1]
    exact onK hK ⟨List.prefix_rfl, _, rfl, nil_S⟩
  have c1' : (jOk js && l2OrderL js.length xs) = true := c1
  rw [c1'] at r1
  rw [sfL, c1, if_pos rfl] at hK
  rw [Bool.and_eq_true] at c1'
  obtain ⟨hn, hg⟩ := jOk_of c1'.1
  have o := ord_of c1'.2
  have hxl := o.len
  simp -implicitDefEqProofs [CL_ret r1]
  refine CL_post (endsOf_run Js Xs hg hn (by omega) o.inn) fun w h1 ⟨hp1, o1, be⟩ => ?_
  have E1 : Ints h1 w (endsL js xs) := o1.sees
  have el : (endsL js xs).length = js.length := endsL_len
  unfold sofL at hK
  have be : ∀ e, e ∈ endsL js xs → 0 ≤ e ∧ e ≤ 5050 := be
  generalize endsL js xs = es at *
  obtain ⟨ea, ec, rfl⟩ : ∃ a c, w = .slice a es.length c := E1.shapeT
  have H0 := own_nil (Holds.start (h := h1)) Sp encS 3
  simp -implicitDefEqProofs
  refine R_loopO (fun m s h' => ∃ (i : Nat) (w : Value), i + m = xs.length ∧ s = [(0, .slice oj js.length cj), (6, .slice ea es.length ec), (7, w), (17, .slice oa xs.length ca), (18, .int .i64 xs.length), (19, .int .i64 i)] ∧ Holds h1 h' [.own w 3 (((xs.take i).map (sofF js es)).map encS)]) (fun I hI m s h' => ?_) (n := xs.length) ⟨0, .slice none 0 0, Nat.zero_add _, by simp, by simpa using H0⟩
  rintro ⟨i, w, hi, rfl, H⟩
  by_cases hlt : i < xs.length
  · have hlt' : (i : Int) < xs.length := by omega
    obtain ⟨x, hxx, _⟩ := drop_at hlt
    have ix := o.inn x (List.mem_of_getElem? hxx)
    have lx := load_I ((Xs.pre hp1).pre H.pre) hxx
    have lj := load_JX (Js.pre (hp1.trans H.pre)) ix
    have le := load_EX (E1.pre H.pre) (x := x) (by rw [el]; exact ix)
    have bx := be _ (gE_mem (show x.toNat < es.length by omega))
    have jb := jA_b hg ix
    have w1 : IntKind.i64.wrap (gE es x.toNat - (jA js x).t) = gE es x.toNat - (jA js x).t := by rw [wrap_ok] <;> omega
    obtain ⟨v', h2, a2, H2, _⟩ := push_S0 H 0 rfl (sofF js es x) (by simp; omega)
    have a2 : appendP P (h' ++ [some ⟨[.int .i64 x, .int .i64 (gE es x.toNat - (jA js x).t), .int .i64 (gE es x.toNat)], 3, false⟩]) t_S_impl_Span w (.slice (some ⟨h'.length, 0, some 3⟩) 1 1) = some (v', h2) := a2
    simp -implicitDefEqProofs [-indexAddrP_some, hlt, hlt', lx, lj, le, w1, a2, winc hlt (by omega)]
    exact ⟨m - 1, by omega, on hI ⟨i + 1, v', by omega, by simp, by rw [take_succ' hxx, List.map_append]; exact H2⟩⟩
  · have hlt' : ¬ (i : Int) < xs.length := by omega
    rw [List.take_of_length_le (by omega)] at H
    obtain ⟨wa, wn, wc, rfl⟩ : ∃ a n c, w = .slice a n c := by obtain ⟨a, c, e⟩ := (H.sees 0 rfl).shape; exact ⟨_, _, _, e⟩
    have S9 : Spns h' (.slice wa wn wc) (xs.map (sofF js es)) := H.sees 0 rfl
    simp -implicitDefEqProofs [hlt, hlt']
    exact onK hK ⟨pre_gcU (hp1.trans H.pre), _, rfl, Sees.gcU S9 fun g => plainT (r := [_]) g⟩
theorem specSplitOf_run (J : Jobs h vj js) (X : Ints h v xs) (hl : js.length ≤ 2 ^ 40) (hx : xs.length ≤ 2 ^ 40) : RunsC P G n_spec_SplitOf [vj, v] h fun w h' => h <+: h' ∧ ∃ d, w = .tuple #[d, .bool (sfO js xs)] ∧ Own h.length h' d 3 ((sfL js xs).map encS) := by
  refine hideC fun K hK => enter_run e_spec_SplitOf (by simp) ?_
  have r1 := l2Two_run J X hl hx
  have Js := J
  have Xs := X
  obtain ⟨oj, cj, rfl⟩ := J.shapeT
  obtain ⟨oa, ca, rfl⟩ := X.shapeT
  cases c1 : sfO js xs
  · have c1' : (jOk js && l2OrderL js.length xs) = false := c1
    rw [c1'] at r1
    rw [sfL, c1] at hK
    simp -implicitDefEqProofs [CL_ret r1]
    exact onK hK ⟨List.prefix_rfl, _, rfl, by simpa using Own.nil⟩
  have c1' : (jOk js && l2OrderL js.length xs) = true := c1
  rw [c1'] at r1
  rw [sfL, c1, if_pos rfl] at hK
  rw [Bool.and_eq_true] at c1'
  obtain ⟨hn, hg⟩ := jOk_of c1'.1
  have o := ord_of c1'.2
  have hxl := o.len
  simp -implicitDefEqProofs [CL_ret r1]
  refine CL_post (l2Starts_run Js Xs hg hn (by omega) o.inn) fun vs h1 ⟨hp1, os, bs⟩ => ?_
  have S1 : Ints h1 vs (stL js xs) := os.sees
  obtain ⟨sa, sc, rfl⟩ : ∃ a c, vs = .slice a (stL js xs).length c := S1.shapeT
  simp -implicitDefEqProofs
  refine CL_post (l2Ends_run (Js.pre hp1) (Xs.pre hp1) hg hn (by omega) o.inn o.nd fun i hi => o.all hi) fun w h2 ⟨hp2, o2, be⟩ => ?_
  have E2 : Ints h2 w (endsL js xs) := o2.sees
  have S2 := S1.pre hp2
  have el : (endsL js xs).length = js.length := endsL_len
  have sl : (stL js xs).length = js.length := stL_len
  have hst : ∀ x : Int, 0 ≤ x ∧ x < js.length → gE (stL js xs) x.toNat = gE (endsL js xs) x.toNat - (jA js x).t := fun x hx => by
    have := ends_eq o.inn o.nd (fun i hi => o.all hi) (i := x.toNat) (by omega)
    rw [show ((x.toNat : Nat) : Int) = x by omega] at this
    omega
  unfold sofL at hK
  generalize endsL js xs = es at *
  generalize stL js xs = ss at *
  obtain ⟨ea, ec, rfl⟩ : ∃ a c, w = .slice a es.length c := E2.shapeT
  have H0 := own_nil (Holds.start (h := h2)) Sp encS 3
  simp -implicitDefEqProofs
  refine R_loopO (fun m s h' => ∃ (i : Nat) (w : Value), i + m = xs.length ∧ s = [(1, .slice oa xs.length ca), (6, w), (7, .slice sa ss.length sc), (8, .slice ea es.length ec), (9, .int .i64 i)] ∧ Holds h2 h' [.own w 3 (((xs.take i).map (sofF js es)).map encS)]) (fun I hI m s h' => ?_) (n := xs.length) ⟨0, .slice none 0 0, Nat.zero_add _, by simp, by simpa using H0⟩
  rintro ⟨i, w, hi, rfl, H⟩
  have hp9 := H.pre
  by_cases hlt : i < xs.length
  · have hlt' : (i : Int) < xs.length := by omega
    obtain ⟨x, hxx, _⟩ := drop_at hlt
    have ix := o.inn x (List.mem_of_getElem? hxx)
    have lx := load_I (Xs.pre ((hp1.trans hp2).trans H.pre)) hxx
    have le := load_EX (E2.pre hp9) (x := x) (by rw [el]; exact ix)
    have ls := load_EX (S2.pre hp9) (x := x) (by rw [sl]; exact ix)
    rw [hst x ix] at ls
    obtain ⟨v', h3, a3, H3, k3⟩ := push_S0 H 0 rfl (sofF js es x) (by simp; omega)
    have a3 : appendP P (h' ++ [some ⟨[.int .i64 x, .int .i64 (gE es x.toNat - (jA js x).t), .int .i64 (gE es x.toNat)], 3, false⟩]) t_S_impl_Span w (.slice (some ⟨h'.length, 0, some 3⟩) 1 1) = some (v', h3) := a3
    simp -implicitDefEqProofs [-indexAddrP_some, hlt, hlt', lx, le, ls, a3, winc hlt (by omega)]
    exact ⟨m - 1, by omega, on hI ⟨i + 1, v', by omega, by simp, by rw [take_succ' hxx, List.map_append]; exact H3⟩⟩
  · have hlt' : ¬ (i : Int) < xs.length := by omega
    rw [List.take_of_length_le (by omega)] at H
    obtain ⟨wa, wn, wc, rfl⟩ : ∃ a n c, w = .slice a n c := by obtain ⟨a, c, e⟩ := (H.sees 0 rfl).shape; exact ⟨_, _, _, e⟩
    simp -implicitDefEqProofs [hlt, hlt']
    have H9 := H.base (hp1.trans hp2)
    exact onK hK ⟨(H9.ret2 0 rfl).1, _, rfl, (H9.ret2 0 rfl).2⟩
end
end Go.Pm.PP

/- Draws of split schedules; what both export of the choices. -/
set_option linter.unusedVariables false
set_option linter.unusedSimpArgs false
set_option maxRecDepth 4000
set_option maxHeartbeats 32000000
namespace Go.Pm.PP
open Go.Pm Go.Proofs Go.Pm.PE
/-! ### choices, as both export them -/
section
variable {h : Hp} {vj v u vs : Value} {js : List Job} {xs : List Int} {S T : List Sp}
def chL (o : Int) (js : List Job) : List Sp := if jOk js = true then spanL o js 0 (restL js []) else []
theorem implByLeastRest_run (J : Jobs h vj js) (hl : js.length ≤ 2 ^ 40) : RunsC P G n_impl_ByLeastRest [vj] h fun w h' => h <+: h' ∧ ∃ d, w = .tuple #[d, .bool (jOk js)] ∧ Spns h' d (chL 2 js) := by
  refine hideC fun K hK => enter_run e_impl_ByLeastRest (by simp) ?_
  have Js := J
  obtain ⟨oj, cj, rfl⟩ := J.shapeT
  have r1 := isJobs_run Js hl
  cases c1 : jOk js
  · rw [c1] at r1
    rw [chL, c1] at hK
    simp -implicitDefEqProofs [CL_ret r1]
    exact onK hK ⟨List.prefix_rfl, _, rfl, nil_S⟩
  rw [c1] at r1
  rw [chL, c1, if_pos rfl] at hK
  obtain ⟨hn, hg⟩ := jOk_of c1
  simp -implicitDefEqProofs [CL_ret r1]
  refine CL_post (choose_run Js nil_L hg hn (by simp) (fun x hx => by cases hx) (.inl rfl)) fun w h1 ⟨u, z, ew, hp1, Sz, Su⟩ => ?_
  subst ew
  have Su : Spns h1 u (spanL 2 js 0 (restL js [])) := Su
  obtain ⟨ua, un, uc, rfl⟩ : ∃ a n c, u = .slice a n c := by obtain ⟨a, c, e⟩ := Su.shape; exact ⟨_, _, _, e⟩
  simp -implicitDefEqProofs
  exact onK hK ⟨pre_gcU hp1, _, rfl, Sees.gcU Su fun g => plainT (r := [_]) g⟩
theorem implByEarliest_run (J : Jobs h vj js) (hl : js.length ≤ 2 ^ 40) : RunsC P G n_impl_ByEarliestDate [vj] h fun w h' => h <+: h' ∧ ∃ d, w = .tuple #[d, .bool (jOk js)] ∧ Spns h' d (chL 4 js) := implByEarliestDate_run J hl
theorem specByLeastRest_run (J : Jobs h vj js) (hl : js.length ≤ 2 ^ 40) : RunsC P G n_spec_ByLeastRest [vj] h fun w h' => h <+: h' ∧ ∃ d, w = .tuple #[d, .bool (jOk js)] ∧ Spns h' d (chL 2 js) := by
  refine hideC fun K hK => enter_run e_spec_ByLeastRest (by simp) ?_
  have Js := J
  obtain ⟨oj, cj, rfl⟩ := J.shapeT
  have r1 := good_run Js hl
  cases c1 : jOk js
  · rw [c1] at r1
    rw [chL, c1] at hK
    simp -implicitDefEqProofs [CL_ret r1]
    exact onK hK ⟨List.prefix_rfl, _, rfl, nil_S⟩
  rw [c1] at r1
  rw [chL, c1, if_pos rfl] at hK
  obtain ⟨hn, hg⟩ := jOk_of c1
  simp -implicitDefEqProofs [CL_ret r1]
  refine CL_post (l5Rests_run Js hn) fun w h1 ⟨hp1, o1⟩ => ?_
  simp -implicitDefEqProofs
  refine CL_post (l5Choose_run (o := 2) (now := 0) (Js.pre hp1) o1.sees hg hn (nil_ch hg hn) (by omega) (.inl rfl)) fun z h2 ⟨hp2, o2⟩ => ?_
  obtain ⟨ua, un, uc, rfl⟩ : ∃ a n c, z = .slice a n c := by obtain ⟨a, c, e⟩ := o2.sees.shape; exact ⟨_, _, _, e⟩
  simp -implicitDefEqProofs
  exact onK hK ⟨pre_gcU (hp1.trans hp2), _, rfl, Sees.gcU o2.sees fun g => plainT (r := [_]) g⟩
theorem specByEarliestDate_run (J : Jobs h vj js) (hl : js.length ≤ 2 ^ 40) : RunsC P G n_spec_ByEarliestDate [vj] h fun w h' => h <+: h' ∧ ∃ d, w = .tuple #[d, .bool (jOk js)] ∧ Spns h' d (chL 4 js) := by
  refine hideC fun K hK => enter_run e_spec_ByEarliestDate (by simp) ?_
  have Js := J
  obtain ⟨oj, cj, rfl⟩ := J.shapeT
  have r1 := good_run Js hl
  cases c1 : jOk js
  · rw [c1] at r1
    rw [chL, c1] at hK
    simp -implicitDefEqProofs [CL_ret r1]
    exact onK hK ⟨List.prefix_rfl, _, rfl, nil_S⟩
  rw [c1] at r1
  rw [chL, c1, if_pos rfl] at hK
  obtain ⟨hn, hg⟩ := jOk_of c1
  simp -implicitDefEqProofs [CL_ret r1]
  refine CL_post (l5Rests_run Js hn) fun w h1 ⟨hp1, o1⟩ => ?_
  simp -implicitDefEqProofs
  refine CL_post (l5Choose_run (o := 4) (now := 0) (Js.pre hp1) o1.sees hg hn (nil_ch hg hn) (by omega) (.inr rfl)) fun z h2 ⟨hp2, o2⟩ => ?_
  obtain ⟨ua, un, uc, rfl⟩ : ∃ a n c, z = .slice a n c := by obtain ⟨a, c, e⟩ := o2.sees.shape; exact ⟨_, _, _, e⟩
  simp -implicitDefEqProofs
  exact onK hK ⟨pre_gcU (hp1.trans hp2), _, rfl, Sees.gcU o2.sees fun g => plainT (r := [_]) g⟩
end
/-! ### draws -/
section
variable {h0 h : Hp} {r n : Nat} {vc : Value} {L : List Asn}
theorem Cur.seesS {u : Value} {S : List Sp} (C : Cur h0 h r vc n (L ++ [.own u 3 (S.map encS)])) : Spns h u S := by
  obtain ⟨a, s, h1, h2, H⟩ := C
  exact H.sees (L.length + 1) (by rw [List.getElem?_cons_succ]; exact snoc_get)
theorem Cur.pushS {u : Value} {S : List Sp} (C : Cur h0 h r vc n (L ++ [.own u 3 (S.map encS)])) (x : Sp) (hl : S.length ≤ 2 ^ 30) : ∃ u' h', appendP P (h ++ [some ⟨[.int .i64 x.j, .int .i64 x.a, .int .i64 x.b], 3, false⟩]) t_S_impl_Span u (.slice (some ⟨h.length, 0, some 3⟩) 1 1) = some (u', h') ∧ Cur h0 h' r vc n (L ++ [.own u' 3 ((S ++ [x]).map encS)]) := by
  obtain ⟨a, s, g1, g2, H⟩ := C
  obtain ⟨u', h5, g3, g4, _⟩ := push_S0 H (L.length + 1) (by rw [List.getElem?_cons_succ]; exact snoc_get) x (by omega)
  rw [List.set_cons_succ, List.set_append_right (h := Nat.le_refl _), Nat.sub_self] at g4
  exact ⟨u', h5, g3, a, s, g1, g2, g4⟩
theorem Cur.put0 {u : Value} {S : List Sp} (C : Cur h0 h r vc n (L ++ [.own u 3 (S.map encS)])) {k : Nat} {y : Sp} (hy : S[k]? = some y) (z : Int) : ∃ h', storeP P h t_int (.int .i64 z) (.pointer (some (addP (addP (base u) (k * 3)) 0))) = some h' ∧ Cur h0 h' r vc n (L ++ [.own u 3 ((S.set k { y with j := z }).map encS)]) := by
  obtain ⟨a, s, h1, h2, H⟩ := C
  obtain ⟨h', g1, g2, _⟩ := fput_S0 H (L.length + 1) (by rw [List.getElem?_cons_succ]; exact snoc_get) hy z
  refine ⟨h', g1, a, s, h1, h2, ?_⟩
  rw [List.set_cons_succ, List.set_append_right (h := Nat.le_refl _), Nat.sub_self] at g2
  exact g2
theorem Cur.put1 {u : Value} {S : List Sp} (C : Cur h0 h r vc n (L ++ [.own u 3 (S.map encS)])) {k : Nat} {y : Sp} (hy : S[k]? = some y) (z : Int) : ∃ h', storeP P h t_int (.int .i64 z) (.pointer (some (addP (addP (base u) (k * 3)) 1))) = some h' ∧ Cur h0 h' r vc n (L ++ [.own u 3 ((S.set k { y with a := z }).map encS)]) := by
  obtain ⟨a, s, h1, h2, H⟩ := C
  obtain ⟨h', g1, g2, _⟩ := fput_S1 H (L.length + 1) (by rw [List.getElem?_cons_succ]; exact snoc_get) hy z
  refine ⟨h', g1, a, s, h1, h2, ?_⟩
  rw [List.set_cons_succ, List.set_append_right (h := Nat.le_refl _), Nat.sub_self] at g2
  exact g2
theorem Cur.put2 {u : Value} {S : List Sp} (C : Cur h0 h r vc n (L ++ [.own u 3 (S.map encS)])) {k : Nat} {y : Sp} (hy : S[k]? = some y) (z : Int) : ∃ h', storeP P h t_int (.int .i64 z) (.pointer (some (addP (addP (base u) (k * 3)) 2))) = some h' ∧ Cur h0 h' r vc n (L ++ [.own u 3 ((S.set k { y with b := z }).map encS)]) := by
  obtain ⟨a, s, h1, h2, H⟩ := C
  obtain ⟨h', g1, g2, _⟩ := fput_S2 H (L.length + 1) (by rw [List.getElem?_cons_succ]; exact snoc_get) hy z
  refine ⟨h', g1, a, s, h1, h2, ?_⟩
  rw [List.set_cons_succ, List.set_append_right (h := Nat.le_refl _), Nat.sub_self] at g2
  exact g2
theorem Cur.put2b {u : Value} {S : List Sp} {r2 : Nat} {cs : List Value} (C : Cur h0 h r vc n ((L ++ [.own u 3 (S.map encS)]) ++ [.box r2 cs])) {k : Nat} {y : Sp} (hy : S[k]? = some y) (z : Int) : ∃ h', storeP P h t_int (.int .i64 z) (.pointer (some (addP (addP (base u) (k * 3)) 2))) = some h' ∧ Cur h0 h' r vc n ((L ++ [.own u 3 ((S.set k { y with b := z }).map encS)]) ++ [.box r2 cs]) := by
  obtain ⟨a, s, h1, h2, H⟩ := C
  obtain ⟨h', g1, g2, _⟩ := fput_S2 H (L.length + 1) (by rw [List.getElem?_cons_succ, List.getElem?_append_left (by simp)]; exact snoc_get) hy z
  refine ⟨h', g1, a, s, h1, h2, ?_⟩
  rw [List.set_cons_succ, List.set_append_left (h := by simp), List.set_append_right (h := Nat.le_refl _), Nat.sub_self] at g2
  exact g2
/-- A span from a box is put into the middle. -/
theorem Cur.mid {u : Value} {S : List Sp} {r2 : Nat} {x : Sp} (C : Cur h0 h r vc n ((L ++ [.own u 3 (S.map encS)]) ++ [.box r2 [.int .i64 x.j, .int .i64 x.a, .int .i64 x.b]])) {k : Nat} (hk : k ≤ S.length) (hS : S.length ≤ 2 ^ 20) :
    ∃ (a3 : Option Addr) (b3 c3 : Nat) (a4 : Option Addr) (b4 c4 : Nat) (h4 : Hp) (a5 : Option Addr) (b5 c5 : Nat) (h5 : Hp) (a6 : Option Addr) (b6 c6 : Nat) (a7 : Option Addr) (b7 c7 : Nat) (h7 : Hp),
      sliceP P h t_S_impl_Span u none (some (.int .i64 k)) = some (.slice a3 b3 c3) ∧ appendP P h t_S_impl_Span (.slice none 0 0) (.slice a3 b3 c3) = some (.slice a4 b4 c4, h4) ∧ newOk h h4 ∧
      loadP P h4 t_impl_Span (.pointer (some ⟨r2, 0, some 3⟩)) = some (.agg #[.int .i64 x.j, .int .i64 x.a, .int .i64 x.b]) ∧
      appendP P (h4 ++ [some ⟨[.int .i64 x.j, .int .i64 x.a, .int .i64 x.b], 3, false⟩]) t_S_impl_Span (.slice a4 b4 c4) (.slice (some ⟨h4.length, 0, some 3⟩) 1 1) = some (.slice a5 b5 c5, h5) ∧ modOk h.length (h4 ++ [some ⟨[.int .i64 x.j, .int .i64 x.a, .int .i64 x.b], 3, false⟩]) h5 ∧
      sliceP P h5 t_S_impl_Span u (some (.int .i64 k)) none = some (.slice a6 b6 c6) ∧ appendP P h5 t_S_impl_Span (.slice a5 b5 c5) (.slice a6 b6 c6) = some (.slice a7 b7 c7, h7) ∧ Cur h0 h7 r vc n (L ++ [.own (.slice a7 b7 c7) 3 ((S.take k ++ [x] ++ S.drop k).map encS)]) := by
  have S2 : Spns h u S := C.weak.seesS
  obtain ⟨v3, s3, f3⟩ := S2.front (P := P) u_S_impl_Span i_impl_Span (k := .i64) (j := (k : Int)) (by omega) (by simp; omega)
  rw [Int.toNat_natCast, ← List.map_take] at f3
  have H0 := own_nil (Holds.start (h := h)) Sp encS 3
  obtain ⟨v4, h4, ha4, H4', _⟩ := app_S H0 0 rfl f3 (by simp; omega)
  have H4 : Holds h h4 [.own v4 3 ((S.take k).map encS)] := H4'
  have n4 : NR h.length h4 := append_nr nr_self ha4
  have no4 := newOk_of H4.pre n4
  have bx4 : loadP P h4 t_impl_Span (.pointer (some ⟨r2, 0, some 3⟩)) = some (.agg #[.int .i64 x.j, .int .i64 x.a, .int .i64 x.b]) := by
    obtain ⟨a, s, g1, g2, H⟩ := C
    have hx := (H.ext H4.pre).bl (P := P) (L.length + 2) 3 (r := r2) (cs := [.int .i64 x.j, .int .i64 x.a, .int .i64 x.b]) (by rw [List.getElem?_cons_succ]; simp) rfl t_impl_Span 0
    rw [hx]; rfl
  obtain ⟨v5, h5, ha5, H5', k5, _⟩ := push_S0 H4 0 rfl x (by simp; omega)
  have H5 : Holds h h5 [.own v5 3 ((S.take k ++ [x]).map encS)] := H5'
  have n5 : NR h.length (h4 ++ [some ⟨[.int .i64 x.j, .int .i64 x.a, .int .i64 x.b], 3, false⟩]) := n4.new [.int .i64 x.j, .int .i64 x.a, .int .i64 x.b] 3
  have md := app_mod (b := h.length) rfl n5 ha5 (H4.pre.trans (List.prefix_append ..)) H5.pre
  obtain ⟨v6, s6, f6, _⟩ := (S2.pre H5.pre).back (P := P) u_S_impl_Span i_impl_Span (k := .i64) (j := (k : Int)) (by omega) (by simp; omega)
  rw [Int.toNat_natCast, ← List.map_drop] at f6
  obtain ⟨v7, h7, ha7, H7', _⟩ := app_S H5 0 rfl f6 (by simp; omega)
  have H7 : Holds h h7 [.own v7 3 ((S.take k ++ [x] ++ S.drop k).map encS)] := H7'
  have C7 := ((C.join H7).swapW).swapW
  obtain ⟨a3, b3, c3, rfl⟩ : ∃ a n c, v3 = .slice a n c := by obtain ⟨a, c, e⟩ := f3.shape; exact ⟨_, _, _, e⟩
  obtain ⟨a4, b4, c4, rfl⟩ : ∃ a n c, v4 = .slice a n c := by obtain ⟨a, c, e⟩ := (H4.sees 0 rfl).shape; exact ⟨_, _, _, e⟩
  obtain ⟨a5, b5, c5, rfl⟩ : ∃ a n c, v5 = .slice a n c := by obtain ⟨a, c, e⟩ := (H5.sees 0 rfl).shape; exact ⟨_, _, _, e⟩
  obtain ⟨a6, b6, c6, rfl⟩ : ∃ a n c, v6 = .slice a n c := by obtain ⟨a, c, e⟩ := f6.shape; exact ⟨_, _, _, e⟩
  obtain ⟨a7, b7, c7, rfl⟩ : ∃ a n c, v7 = .slice a n c := by obtain ⟨a, c, e⟩ := (H7.sees 0 rfl).shape; exact ⟨_, _, _, e⟩
  exact ⟨a3, b3, c3, a4, b4, c4, h4, a5, b5, c5, h5, a6, b6, c6, a7, b7, c7, h7, s3, ha4, no4, bx4, ha5, md, s6, ha7, C7⟩
theorem spans_run (B : By h0 vc) {u : Value} {js : List Job} {i : Nat} (C : Cur h0 h r vc n L) (hi : L[i]? = some (.own u 4 (js.map encJ))) (hj : js.length ≤ 9) (hn : n ≤ 2 ^ 18) :
    RunsC P G n_spec_l1Cur_spans [.pointer (some ⟨r, 0, some 3⟩), u] h fun v h' => ∃ S : List Sp, S.length ≤ 2000 ∧ Cur h0 h' r vc (n + 100) (L ++ [.own v 3 (S.map encS)]) := by
  refine hideC fun K hK => enter_run e_spec_l1Cur_spans (by simp) ?_
  have J : Jobs h u js := by
    have C' : Cur h0 h r vc n (L ++ []) := by rw [List.append_nil]; exact C
    exact C'.seesAt hi
  obtain ⟨ja, jc, rfl⟩ : ∃ a c, u = .slice a js.length c := J.shapeT
  have r1 := good_run J (by omega)
  cases c1 : jOk js
  · rw [c1] at r1
    obtain ⟨u', h1, a1, C1⟩ := (C.nil Sp encS 3).pushS ⟨0, 0, 1⟩ (by simp)
    have a1 : appendP P (h ++ [some ⟨[.int .i64 0, .int .i64 0, .int .i64 1], 3, false⟩]) t_S_impl_Span (.slice none 0 0) (.slice (some ⟨h.length, 0, some 3⟩) 1 1) = some (u', h1) := a1
    obtain ⟨ua, un, uc, rfl⟩ : ∃ a n c, u' = .slice a n c := by obtain ⟨a, c, e⟩ := C1.seesS.shape; exact ⟨_, _, _, e⟩
    simp -implicitDefEqProofs [CL_ret r1, a1]
    exact onK hK ⟨_, by simp, C.gcO (C1.mono (by omega)) fun h => h⟩
  rw [c1] at r1
  obtain ⟨hn8, hg⟩ := jOk_of c1
  simp -implicitDefEqProofs [CL_ret r1]
  refine CL_post (l5Rests_run J hn8) fun w h1 ⟨hp1, o1⟩ => ?_
  have C1 := C.join ((Holds.start (h := h)).call hp1 o1)
  simp -implicitDefEqProofs
  refine CL_post (among_run B (C1.lit [2, 4]) (by omega) snoc_get (by simp) (by simp)) fun v h2 ⟨x, ev, hx, C2'⟩ => ?_
  subst ev
  have hx : x = 2 ∨ x = 4 := by simpa using hx
  have C2 := C2'.weak
  have R2 : Ints h2 w (restL js []) := C2.seesI
  simp -implicitDefEqProofs
  refine CL_post (l5Choose_run (o := x) (now := 0) (C2.seesAt hi : Jobs h2 _ js) R2 hg hn8 (nil_ch hg hn8) (by omega) hx) fun z h3 ⟨hp3, o3⟩ => ?_
  have C3 := (C2.join ((Holds.start (h := h2)).call hp3 o3)).swapW
  have sl := @spanL_len x js 0 (restL js [])
  generalize spanL x js 0 (restL js []) = S0 at *
  obtain ⟨za, zn, zc, rfl⟩ : ∃ a n c, z = .slice a n c := by obtain ⟨a, c, e⟩ := C3.seesS.shape; exact ⟨_, _, _, e⟩
  simp -implicitDefEqProofs
  refine CL_post (one_run B C3 (by omega) (k := 3) (by omega)) fun v h4 ⟨b, ev, C4⟩ => ?_
  subst ev
  cases b
  case' false =>
    have C5 : Cur h0 h4 r vc (n + 50) (L ++ [.own (.slice za zn zc) 3 (S0.map encS)]) := C4.mono (by omega)
    simp -implicitDefEqProofs
    obtain ⟨h5, hh5⟩ : ∃ h5, h5 = h4 := ⟨_, rfl⟩
    rw [← hh5] at C5 ⊢
    clear hh5
    obtain ⟨S1, hS1⟩ : ∃ S1, S1 = S0 := ⟨_, rfl⟩
    have sl1 : S1.length ≤ 1000 := by rw [hS1]; exact sl
    rw [← hS1] at C5
    obtain ⟨ya, rfl⟩ : ∃ ya, ya = za := ⟨_, rfl⟩
    obtain ⟨yn, rfl⟩ : ∃ yn, yn = zn := ⟨_, rfl⟩
    obtain ⟨yc, rfl⟩ : ∃ yc, yc = zc := ⟨_, rfl⟩
  case' true =>
    simp -implicitDefEqProofs
    refine CL_post (order_run B C4 (by omega) (N := js.length) (by omega)) fun w h4b ⟨xs, hxl, C4b⟩ => ?_
    have C4c := C4b.swapW
    obtain ⟨xa, xc, rfl⟩ : ∃ a c, w = .slice a xs.length c := C4c.seesI.shapeT
    simp -implicitDefEqProofs
    refine CL_post (specSplitOf_run (C4c.seesAt hi : Jobs h4b _ js) C4c.seesI (by omega) (by omega)) fun w h5 ⟨hp5, d, ew, o5⟩ => ?_
    subst ew
    have C5' := (C4c.join ((Holds.start (h := h4b)).call hp5 o5)).swapW
    have sl1 : (sfL js xs).length ≤ 1000 := by
      unfold sfL
      split
      · rename_i c
        have c' : (jOk js && l2OrderL js.length xs) = true := c
        rw [Bool.and_eq_true] at c'
        have := (sof_ok hg hn8 (ord_of c'.2)).2.2; omega
      · simp
    generalize sfL js xs = S1 at *
    obtain ⟨ya, yn, yc, rfl⟩ : ∃ a n c, d = .slice a n c := by obtain ⟨a, c, e⟩ := C5'.seesS.shape; exact ⟨_, _, _, e⟩
    have C5 : Cur h0 h5 r vc (n + 50) (L ++ [.own (.slice ya yn yc) 3 (S1.map encS)]) := C5'.mono (by omega)
    simp -implicitDefEqProofs
  all_goals
    obtain ⟨sa, sc, e5⟩ : ∃ a c, Value.slice ya yn yc = .slice a S1.length c := C5.seesS.shapeT
    cases e5
    have fin : ∀ {h9 : Hp} {S : List Sp} {v : Value}, S.length ≤ 2000 → Cur h0 h9 r vc (n + 100) (L ++ [.own v 3 (S.map encS)]) → K v (gc h h9 v) := fun hl C9 => onK hK ⟨_, hl, C.gcO C9 (plS C9.seesS)⟩
    by_cases c0 : S1.length = 0
    case pos =>
      have c0' : ((S1.length : Int) == 0) = true := by rw [beq_iff_eq]; omega
      simp -implicitDefEqProofs [c0']
      exact fin (by omega) (C5.mono (by omega))
    case neg =>
      have c0' : ((S1.length : Int) == 0) = false := nb (by omega)
      simp -implicitDefEqProofs [c0']
      refine CL_post (pick_run B C5 (by omega) (k := S1.length) (by omega)) fun v h6 ⟨q, ev, q0, _, q1, C6⟩ => ?_
      subst ev
      obtain ⟨k, rfl⟩ : ∃ k : Nat, q = k := ⟨q.toNat, by omega⟩
      have hk : k < S1.length := by have := q1 (by omega); omega
      obtain ⟨y, hy, _⟩ := drop_at hk
      simp -implicitDefEqProofs
      refine CL_post (pick_run B C6 (by omega) (k := 10) (by omega)) fun v h7 ⟨t, ev, _, _, _, C7⟩ => ?_
      subst ev
      have ly := load_S C7.seesS hy
      by_cases t0 : t = 0
      · subst t0
        simp -implicitDefEqProofs [-indexAddrP_some, ly]
        refine CG_post (pick_run B C7 (by omega) (k := 3) (by omega)) fun v h8 ⟨z, ev, _, _, _, C8⟩ => ⟨by simp, ?_⟩
        subst ev
        have ly8 := load_S C8.seesS hy
        obtain ⟨h9, s9, C9⟩ := C8.put1 hy (IntKind.i64.wrap (IntKind.i64.wrap (y.a + z) - 1))
        simp -implicitDefEqProofs [-indexAddrP_some, RunsO, ly8, s9]
        exact fin (by rw [List.length_set]; omega) (C9.mono (by omega))
      by_cases t1 : t = 1
      · subst t1
        simp -implicitDefEqProofs [-indexAddrP_some, ly]
        refine CG_post (pick_run B C7 (by omega) (k := 3) (by omega)) fun v h8 ⟨z, ev, _, _, _, C8⟩ => ⟨by simp, ?_⟩
        subst ev
        have ly8 := load_S C8.seesS hy
        obtain ⟨h9, s9, C9⟩ := C8.put2 hy (IntKind.i64.wrap (IntKind.i64.wrap (y.b + z) - 1))
        simp -implicitDefEqProofs [-indexAddrP_some, RunsO, ly8, s9]
        exact fin (by rw [List.length_set]; omega) (C9.mono (by omega))
      by_cases t2 : t = 2
      · subst t2
        have w1 : IntKind.i64.wrap ((js.length : Int) + 2) = (js.length : Int) + 2 := by rw [wrap_ok] <;> omega
        simp -implicitDefEqProofs [w1]
        refine CL_post (pick_run B C7 (by omega) (k := (js.length : Int) + 2) (by omega)) fun v h8 ⟨z, ev, _, _, _, C8⟩ => ?_
        subst ev
        have ly8 := load_S C8.seesS hy
        obtain ⟨h9, s9, C9⟩ := C8.put0 hy (IntKind.i64.wrap (z - 1))
        simp -implicitDefEqProofs [-indexAddrP_some, ly8, s9]
        exact fin (by rw [List.length_set]; omega) (C9.mono (by omega))
      by_cases t3 : t = 3
      · subst t3
        by_cases cw : 1 < IntKind.i64.wrap (y.b - y.a)
        · have wk : IntKind.i64.wrap ((k : Int) + 1) = ((k + 1 : Nat) : Int) := by rw [wrap_ok] <;> omega
          have wk' : IntKind.i64.wrap ((k : Int) + 1) = (k : Int) + 1 := by rw [wrap_ok] <;> omega
          have C7a := C7.alloc [.int .i64 y.j, .int .i64 (IntKind.i64.wrap (y.a + 1)), .int .i64 y.b]
          have ly7 := load_S (C7a.weak.seesS) hy
          obtain ⟨h8, s8, C8⟩ := C7a.put2b hy (IntKind.i64.wrap (y.a + 1))
          have hl8 : (S1.set k { y with b := IntKind.i64.wrap (y.a + 1) }).length = S1.length := List.length_set ..
          generalize S1.set k { y with b := IntKind.i64.wrap (y.a + 1) } = S8 at *
          obtain ⟨a3, b3, c3, a4, b4, c4, h4b, a5, b5, c5, h5b, a6, b6, c6, a7, b7, c7, h7b, s3, ha4, no4, bx4, ha5, md, s6, ha7, C9⟩ := C8.mid (x := ⟨y.j, IntKind.i64.wrap (y.a + 1), y.b⟩) (k := k + 1) (by omega) (by omega)
          dsimp only at bx4 ha5 md
          rw [show (((k + 1 : Nat)) : Int) = (k : Int) + 1 by omega] at s3 s6
          simp -implicitDefEqProofs [-indexAddrP_some, ly, cw, ly7, s8, wk', s3, ha4, no4, bx4, ha5, md, s6, ha7]
          exact fin (by simp; omega) (C9.mono (by omega))
        · simp -implicitDefEqProofs [-indexAddrP_some, ly, cw]
          exact fin (by omega) (C7.mono (by omega))
      by_cases t4 : t = 4
      · subst t4
        simp -implicitDefEqProofs
        refine R_loopO (fun m st h' => ∃ (i : Nat) (S : List Sp), i + m = S1.length ∧ S.length = S1.length ∧ st = [(5, .slice ya S1.length yc), (8, .int .i64 i)] ∧ Cur h0 h' r vc (n + 60) (L ++ [.own (.slice ya S1.length yc) 3 (S.map encS)])) (fun I hI m st h8 => ?_) (n := S1.length - k) ⟨k, S1, by omega, rfl, by simp, C7.mono (by omega)⟩
        rintro ⟨i, S, hi8, hS, rfl, C8⟩
        by_cases hlt : i < S1.length
        · have hlt' : (i : Int) < S1.length := by omega
          obtain ⟨z, hz, _⟩ := drop_at (show i < S.length by omega)
          have lz := load_S C8.seesS hz
          obtain ⟨h9, s9, C9⟩ := C8.put1 hz (IntKind.i64.wrap (z.a + 2))
          have hz9 : (S.set i { z with a := IntKind.i64.wrap (z.a + 2) })[i]? = some { z with a := IntKind.i64.wrap (z.a + 2) } := by rw [List.getElem?_set_self (by omega)]
          have lz9 := load_S C9.seesS hz9
          obtain ⟨h10, s10, C10⟩ := C9.put2 hz9 (IntKind.i64.wrap (z.b + 2))
          simp -implicitDefEqProofs [-indexAddrP_some, hlt, hlt', lz, s9, lz9, s10, winc hlt (by omega)]
          exact ⟨m - 1, by omega, on hI ⟨i + 1, _, by omega, by simp only [List.length_set]; exact hS, by simp, C10⟩⟩
        · have hlt' : ¬ (i : Int) < S1.length := by omega
          simp -implicitDefEqProofs [hlt, hlt']
          exact fin (by omega) (C8.mono (by omega))
      · have n0 : (t == 0) = false := nb t0
        have n1 : (t == 1) = false := nb t1
        have n2 : (t == 2) = false := nb t2
        have n3 : (t == 3) = false := nb t3
        have n4 : (t == 4) = false := nb t4
        simp -implicitDefEqProofs [n0, n1, n2, n3, n4]
        exact fin (by omega) (C7.mono (by omega))
end
end Go.Pm.PP
