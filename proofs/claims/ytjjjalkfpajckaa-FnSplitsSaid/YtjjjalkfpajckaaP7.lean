/- The texts Ps9, PsA, PsB, PsC, PwXa, PwXb, PwXd, PwXe, PwUx, PwXm, PwXn, PwXc of this work: Fronts of points, in plain terms. -/
import Derived.Test.YtjjjalkfpajckaaP6
/- Fronts of points, in plain terms. -/
set_option linter.unusedVariables false
set_option linter.unusedSimpArgs false
namespace Go.Pm.PE
abbrev Pt := Int × Int
def domB (p q : Pt) : Bool := !(p.1 == q.1 && p.2 == q.2) && decide (p.1 ≤ q.1) && decide (p.2 ≤ q.2)
def sameB (p q : Pt) : Bool := p.1 == q.1 && p.2 == q.2
theorem sameB_iff {p q : Pt} : sameB p q = true ↔ p = q := by
  unfold sameB; rw [Bool.and_eq_true, beq_iff_eq, beq_iff_eq]
  constructor
  · rintro ⟨h1, h2⟩; exact Prod.ext h1 h2
  · rintro rfl; exact ⟨rfl, rfl⟩
theorem domB_iff {p q : Pt} : domB p q = true ↔ p ≠ q ∧ p.1 ≤ q.1 ∧ p.2 ≤ q.2 := by
  have := @sameB_iff p q
  unfold sameB at this
  unfold domB
  rw [Bool.and_eq_true, Bool.and_eq_true, Bool.not_eq_true', decide_eq_true_eq, decide_eq_true_eq, ← Bool.not_eq_true, this, and_assoc]
def insP (p : Pt) : List Pt → List Pt
  | [] => [p]
  | q :: l => if p.1 < q.1 then p :: q :: l else q :: insP p l
theorem insP_perm {p : Pt} : ∀ {l : List Pt}, (insP p l).Perm (p :: l)
  | [] => List.Perm.refl _
  | q :: l => by
    rw [insP]; split
    · exact List.Perm.refl _
    · exact (List.Perm.cons q insP_perm).trans (List.Perm.swap ..)
/-- A point or one that dominates it is there. -/
def coverB (F : List Pt) (p : Pt) : Bool := F.any fun q => sameB q p || domB q p
def restF (F : List Pt) (p : Pt) : List Pt := F.filter fun q => !domB p q
def putF (F : List Pt) (p : Pt) : List Pt := if coverB F p = true then F else insP p (restF F p)
def Srt (F : List Pt) : Prop := F.Pairwise fun a b => a.1 < b.1 ∧ b.2 < a.2
theorem rest_srt {F : List Pt} {p : Pt} (h : Srt F) : Srt (restF F p) := h.sublist List.filter_sublist
theorem rest_mem {F : List Pt} {p q : Pt} : q ∈ restF F p ↔ q ∈ F ∧ domB p q = false := by
  unfold restF; rw [List.mem_filter]; simp
theorem cover_iff {F : List Pt} {p : Pt} : coverB F p = true ↔ ∃ q, q ∈ F ∧ q.1 ≤ p.1 ∧ q.2 ≤ p.2 := by
  unfold coverB
  rw [List.any_eq_true]
  constructor
  · rintro ⟨q, hq, h⟩
    rw [Bool.or_eq_true, sameB_iff, domB_iff] at h
    refine ⟨q, hq, ?_⟩
    rcases h with rfl | h
    · exact ⟨Int.le_refl _, Int.le_refl _⟩
    · exact h.2
  · rintro ⟨q, hq, h1, h2⟩
    refine ⟨q, hq, ?_⟩
    rw [Bool.or_eq_true, sameB_iff, domB_iff]
    by_cases e : q = p
    · exact .inl e
    · exact .inr ⟨e, h1, h2⟩
/-- What is left and the new point part in both numbers. -/
theorem rest_part {F : List Pt} {p q : Pt} (hc : coverB F p = false) (hq : q ∈ restF F p) : (q.1 < p.1 ∧ p.2 < q.2) ∨ (p.1 < q.1 ∧ q.2 < p.2) := by
  obtain ⟨h1, h2⟩ := rest_mem.1 hq
  have h3 : ¬ (q.1 ≤ p.1 ∧ q.2 ≤ p.2) := fun g => by
    have := cover_iff.2 ⟨q, h1, g⟩
    rw [this] at hc; cases hc
  have h4 : ¬ (p ≠ q ∧ p.1 ≤ q.1 ∧ p.2 ≤ q.2) := fun g => by
    rw [domB_iff.2 g] at h2; cases h2
  have h5 : ¬ (p.1 ≤ q.1 ∧ p.2 ≤ q.2) := fun g => h4 ⟨fun e => h3 (by rw [e]; exact ⟨Int.le_refl _, Int.le_refl _⟩), g⟩
  omega
theorem insP_srt {p : Pt} : ∀ {l : List Pt}, Srt l → (∀ q, q ∈ l → (q.1 < p.1 ∧ p.2 < q.2) ∨ (p.1 < q.1 ∧ q.2 < p.2)) → Srt (insP p l)
  | [], _, _ => by rw [insP]; exact List.pairwise_singleton ..
  | q :: l, h, hp => by
    have h := List.pairwise_cons.1 h
    have hq := hp q (List.mem_cons_self ..)
    rw [insP]; split
    · rename_i g
      refine List.pairwise_cons.2 ⟨fun z hz => ?_, List.pairwise_cons.2 h⟩
      rcases List.mem_cons.1 hz with rfl | hz
      · omega
      · have := h.1 z hz; omega
    · rename_i g
      refine List.pairwise_cons.2 ⟨fun z hz => ?_, insP_srt h.2 fun z hz => hp z (List.mem_cons_of_mem _ hz)⟩
      rcases List.mem_cons.1 (insP_perm.mem_iff.1 hz) with rfl | hz
      · omega
      · exact h.1 z hz
theorem putF_srt {F : List Pt} {p : Pt} (h : Srt F) : Srt (putF F p) := by
  unfold putF; split
  · exact h
  · rename_i hc
    exact insP_srt (rest_srt h) fun q hq => rest_part (by simpa using hc) hq
theorem putF_mem {F : List Pt} {p q : Pt} (h : q ∈ putF F p) : q = p ∨ q ∈ F := by
  unfold putF at h; split at h
  · exact .inr h
  · rcases List.mem_cons.1 (insP_perm.mem_iff.1 h) with g | g
    · exact .inl g
    · exact .inr (rest_mem.1 g).1
/-! ### the first one that fits -/
end Go.Pm.PE
namespace Go.Pm.PP
open Go.Pm Go.Pm.PE
end Go.Pm.PP
namespace Go.Pm.PE
/-- A front with bounded first numbers is not long. -/
def FOk (F : List Pt) : Prop := Srt F ∧ ∀ q, q ∈ F → -(2 ^ 30) ≤ q.1 ∧ q.1 ≤ 2 ^ 30
theorem srt_len : ∀ {F : List Pt} {a : Int}, Srt F → (∀ q, q ∈ F → a ≤ q.1 ∧ q.1 ≤ 2 ^ 30) → a ≤ 2 ^ 30 + 1 → (F.length : Int) ≤ 2 ^ 30 + 1 - a
  | [], a, _, _, ha => by simp; omega
  | q :: F, a, h, hb, ha => by
    have h := List.pairwise_cons.1 h
    have hq := hb q (List.mem_cons_self ..)
    have := srt_len (F := F) (a := q.1 + 1) h.2 (fun z hz => by have := h.1 z hz; have := hb z (List.mem_cons_of_mem _ hz); omega) (by omega)
    rw [List.length_cons]; omega
theorem FOk.len {F : List Pt} (h : FOk F) : F.length ≤ 2 ^ 32 := by
  have := srt_len h.1 h.2 (by omega); omega
theorem FOk.put {F : List Pt} (h : FOk F) {p : Pt} (hp : -(2 ^ 30) ≤ p.1 ∧ p.1 ≤ 2 ^ 30) : FOk (putF F p) := ⟨putF_srt h.1, fun q hq => by
  rcases putF_mem hq with rfl | g
  · exact hp
  · exact h.2 q g⟩
theorem FOk.nil : FOk [] := ⟨List.Pairwise.nil, fun q hq => by cases hq⟩
end Go.Pm.PE

/- Tables of truth values and their closures, in plain terms. -/
set_option linter.unusedVariables false
set_option linter.unusedSimpArgs false
namespace Go.Pm.PE
def tG (T : List (List Bool)) (a b : Nat) : Bool := (((T[a]?).getD [])[b]?).getD false
def tS (T : List (List Bool)) (a b : Nat) (x : Bool) : List (List Bool) := T.set a (((T[a]?).getD []).set b x)
structure TOk (n : Nat) (T : List (List Bool)) : Prop where
  len : T.length = n
  row : ∀ r, r ∈ T → r.length = n
theorem TOk.at {n : Nat} {T : List (List Bool)} (k : TOk n T) {a : Nat} (ha : a < n) : ∃ r, T[a]? = some r ∧ r.length = n := by
  obtain ⟨r, hr, _⟩ := drop_at (show a < T.length by rw [k.len]; exact ha)
  exact ⟨r, hr, k.row r (List.mem_of_getElem? hr)⟩
theorem TOk.cell {n : Nat} {T : List (List Bool)} (k : TOk n T) {a b : Nat} (ha : a < n) (hb : b < n) : ∃ r, T[a]? = some r ∧ r.length = n ∧ r[b]? = some (tG T a b) := by
  obtain ⟨r, hr, hl⟩ := k.at ha
  obtain ⟨x, hx, _⟩ := drop_at (show b < r.length by omega)
  exact ⟨r, hr, hl, by simp [tG, hr, hx]⟩
theorem TOk.set {n : Nat} {T : List (List Bool)} (k : TOk n T) {a b : Nat} {x : Bool} (ha : a < n) : TOk n (tS T a b x) := by
  obtain ⟨r, hr, hl⟩ := k.at ha
  refine ⟨by unfold tS; rw [List.length_set, k.len], fun q hq => ?_⟩
  unfold tS at hq
  rw [hr, Option.getD_some] at hq
  rcases List.mem_or_eq_of_mem_set hq with g | g
  · exact k.row q g
  · rw [g, List.length_set, hl]
/-! ### closures -/
def falT (n : Nat) : List (List Bool) := List.replicate n (List.replicate n false)
def edT (T : List (List Bool)) (es : List (Int × Int)) : List (List Bool) := es.foldl (fun T e => tS T e.1.toNat e.2.toNat true) T
def cst (k i : Nat) (T : List (List Bool)) (j : Nat) : List (List Bool) := tS T i j (tG T i j || (tG T i k && tG T k j))
def cJ (k i : Nat) (T : List (List Bool)) (l : List Nat) : List (List Bool) := l.foldl (cst k i) T
def cI (n k : Nat) (T : List (List Bool)) (l : List Nat) : List (List Bool) := l.foldl (fun T i => cJ k i T (List.range' 0 n)) T
def cK (n : Nat) (T : List (List Bool)) (l : List Nat) : List (List Bool) := l.foldl (fun T k => cI n k T (List.range' 0 n)) T
def clo (n : Nat) (es : List (Int × Int)) : List (List Bool) := cK n (edT (falT n) es) (List.range' 0 n)
end Go.Pm.PE

/- Orders by a vector of ends, in plain terms. -/
set_option linter.unusedVariables false
set_option linter.unusedSimpArgs false
namespace Go.Pm.PE
open Go.Pm.PP
end Go.Pm.PE

/- The order that is found from its end under a limit of lateness, in plain terms: it is there if any order keeps to the limit, and then it has the least sum of ends of all these. -/
set_option linter.unusedVariables false
set_option linter.unusedSimpArgs false
namespace Go.Pm.PE
open Go.Pm.PP
section
variable (t d : Int → Int) (lim : Int)
def okG : Int → List Int → Bool
  | _, [] => true
  | now, x :: r => decide (now + t x ≤ d x + lim) && okG (now + t x) r
def tsm (l : List Int) : Int := (l.map t).sum
end
section
variable {t d : Int → Int} {lim : Int}
theorem tsm_app {A C : List Int} : tsm t (A ++ C) = tsm t A + tsm t C := by simp [tsm]
theorem tsm_cons {x : Int} {C : List Int} : tsm t (x :: C) = t x + tsm t C := by simp [tsm]
theorem tsm_perm {l l' : List Int} (h : l.Perm l') : tsm t l = tsm t l' := sum_perm (h.map _)
theorem okG_app : ∀ {A C : List Int} {now : Int}, okG t d lim now (A ++ C) = (okG t d lim now A && okG t d lim (now + tsm t A) C)
  | [], C, now => by simp [okG, tsm]
  | x :: A, C, now => by
    simp only [List.cons_append, okG, tsm_cons]
    rw [okG_app, show now + t x + tsm t A = now + (t x + tsm t A) by omega, Bool.and_assoc]
theorem okG_mono : ∀ {C : List Int} {a b : Int}, a ≤ b → okG t d lim b C = true → okG t d lim a C = true
  | [], _, _, _, _ => rfl
  | x :: C, a, b, h, e => by
    simp only [okG, Bool.and_eq_true, decide_eq_true_eq] at e ⊢
    exact ⟨by omega, okG_mono (by omega) e.2⟩
theorem snoc_of {α : Type} {xs : List α} (h : xs ≠ []) : ∃ r x, xs = r ++ [x] := ⟨xs.dropLast, xs.getLast h, (List.dropLast_concat_getLast h).symm⟩
end
end Go.Pm.PE

/- The choice by time and bounds of prefixes, in plain terms. -/
set_option linter.unusedVariables false
set_option linter.unusedSimpArgs false
namespace Go.Pm.PP
open Go.Pm Go.Pm.PE
structure Sp where
  j : Int
  a : Int
  b : Int
def encS (s : Sp) : List Value := [.int .i64 s.j, .int .i64 s.a, .int .i64 s.b]
/-! ### sums -/
def sumL : List Int → Int
  | [] => 0
  | x :: r => x + sumL r
theorem sumL_append : ∀ {l r : List Int}, sumL (l ++ r) = sumL l + sumL r
  | [], r => by simp [sumL]
  | x :: l, r => by rw [List.cons_append, sumL, sumL, sumL_append]; omega
theorem sumL_set : ∀ {l : List Int} {i : Nat} {y : Int}, i < l.length → sumL (l.set i y) = sumL l - gE l i + y
  | x :: l, 0, y, _ => by simp [sumL, gE]; omega
  | x :: l, i + 1, y, h => by
    have := @sumL_set l i y (by simpa using h)
    rw [List.set_cons_succ, sumL, sumL, this]
    simp [gE]; omega
theorem sumL_nn : ∀ {l : List Int}, (∀ x, x ∈ l → 0 ≤ x ∧ x ≤ 50) → 0 ≤ sumL l ∧ sumL l ≤ 50 * l.length
  | [], _ => by simp [sumL]
  | x :: l, h => by
    have h1 := h x (List.mem_cons_self ..)
    have h2 := sumL_nn fun y hy => h y (List.mem_cons_of_mem _ hy)
    rw [sumL, List.length_cons]; omega
theorem sumL_pos : ∀ {l : List Int}, (∀ x, x ∈ l → 0 ≤ x ∧ x ≤ 50) → 0 < sumL l → ∃ i, i < l.length ∧ 0 < gE l i
  | [], _, h => by simp [sumL] at h
  | x :: l, h, hs => by
    have h1 := h x (List.mem_cons_self ..)
    by_cases c : 0 < x
    · exact ⟨0, by simp, by simpa [gE] using c⟩
    · rw [sumL] at hs
      obtain ⟨i, h3, h4⟩ := sumL_pos (fun y hy => h y (List.mem_cons_of_mem _ hy)) (by omega)
      exact ⟨i + 1, by simpa using h3, by simpa [gE] using h4⟩
theorem gE_mem {l : List Int} {i : Nat} (h : i < l.length) : gE l i ∈ l := List.mem_of_getElem? (gE_get h)
/-! ### rests -/
def inP (B : List Int) (i : Nat) : Bool := B.any (· == (i : Int))
def restL (js : List Job) (B : List Int) : List Int := (List.range js.length).map fun i => if inP B i = true then 0 else (jA js i).t
theorem restL_len {js : List Job} {B : List Int} : (restL js B).length = js.length := by simp [restL]
theorem restL_at {js : List Job} {B : List Int} {i : Nat} (hi : i < js.length) : (restL js B)[i]? = some (if inP B i = true then 0 else (jA js i).t) := by
  unfold restL; rw [List.getElem?_map, List.getElem?_range hi]; rfl
theorem restL_nil {js : List Job} : restL js [] = js.map (·.t) := by
  apply List.ext_getElem?
  intro i
  by_cases hi : i < js.length
  · rw [restL_at hi, List.getElem?_map, List.getElem?_eq_getElem hi]
    simp [inP, jA, hi]
  · rw [List.getElem?_eq_none (by rw [restL_len]; omega), List.getElem?_eq_none (by simp; omega)]
theorem restL_bd {js : List Job} {B : List Int} (hg : goodL js = true) : ∀ x, x ∈ restL js B → 0 ≤ x ∧ x ≤ 50 := by
  intro x hx
  obtain ⟨i, hi, rfl⟩ := List.mem_map.1 hx
  have hi := List.mem_range.1 hi
  split
  · omega
  · obtain ⟨y, hy, _⟩ := drop_at hi
    have e : jA js i = y := by unfold jA; rw [Int.toNat_natCast, hy]; rfl
    rw [e]
    have := job_of (job_at hg hy)
    omega
theorem jA_bd {js : List Job} (hg : goodL js = true) {i : Nat} (hi : i < js.length) : (1 ≤ (jA js i).t ∧ (jA js i).t ≤ 50) ∧ (0 ≤ (jA js i).r ∧ (jA js i).r ≤ 500) ∧ 0 ≤ (jA js i).d ∧ (jA js i).d ≤ 500 := by
  obtain ⟨y, hy, _⟩ := drop_at hi
  have e : jA js i = y := by unfold jA; rw [Int.toNat_natCast, hy]; rfl
  rw [e]
  have := job_of (job_at hg hy)
  omega
/-! ### the choice -/
def betB (o : Int) (js : List Job) (rs : List Int) (i b : Nat) : Bool := if o = 2 then decide (gE rs i < gE rs b) else decide ((jA js i).d < (jA js b).d)
def pickF (o : Int) (js : List Job) (rs : List Int) (now : Int) (b : Int) (i : Nat) : Int := if gE rs i = 0 ∨ now < (jA js i).r then b else if b < 0 ∨ betB o js rs i b.toNat = true then i else b
def pickL (o : Int) (js : List Job) (rs : List Int) (now : Int) : Int := (List.range' 0 js.length).foldl (pickF o js rs now) (-1)
def pkOk (js : List Job) (rs : List Int) (b : Int) : Prop := 0 ≤ b ∧ b < js.length ∧ gE rs b.toNat ≠ 0
theorem pick_fact {o : Int} {js : List Job} {rs : List Int} {now : Int} : ∀ {m i : Nat} {b : Int}, i + m = js.length → (b = -1 ∨ pkOk js rs b) →
    ((List.range' i m).foldl (pickF o js rs now) b = -1 ∧ b = -1 ∧ ∀ k, i ≤ k → k < js.length → gE rs k = 0 ∨ now < (jA js k).r) ∨ pkOk js rs ((List.range' i m).foldl (pickF o js rs now) b)
  | 0, i, b, him, hb => by
    rw [List.range'_zero, List.foldl_nil]
    rcases hb with rfl | hb
    · exact .inl ⟨rfl, rfl, fun k h1 h2 => by omega⟩
    · exact .inr hb
  | m + 1, i, b, him, hb => by
    rw [List.range'_succ, List.foldl_cons]
    by_cases c1 : gE rs i = 0 ∨ now < (jA js i).r
    · have e : pickF o js rs now b i = b := by unfold pickF; rw [if_pos c1]
      rw [e]
      rcases pick_fact (o := o) (now := now) (m := m) (i := i + 1) (by omega) hb with ⟨h1, h2, h3⟩ | h
      · refine .inl ⟨h1, h2, fun k hk1 hk2 => ?_⟩
        by_cases e : k = i
        · subst e; exact c1
        · exact h3 k (by omega) hk2
      · exact .inr h
    · by_cases c2 : b < 0 ∨ betB o js rs i b.toNat = true
      · have e : pickF o js rs now b i = i := by unfold pickF; rw [if_neg c1, if_pos c2]
        rw [e]
        have ok : pkOk js rs (i : Int) := ⟨by omega, by omega, fun g => c1 (.inl g)⟩
        rcases pick_fact (o := o) (now := now) (m := m) (i := i + 1) (by omega) (.inr ok) with ⟨h1, h2, h3⟩ | h
        · omega
        · exact .inr h
      · have e : pickF o js rs now b i = b := by unfold pickF; rw [if_neg c1, if_neg c2]
        have hb' : pkOk js rs b := by rcases hb with rfl | hb; exact absurd (.inl (by omega)) c2; exact hb
        rw [e]
        rcases pick_fact (o := o) (now := now) (m := m) (i := i + 1) (by omega) (.inr hb') with ⟨h1, h2, h3⟩ | h
        · subst h2; exact absurd hb'.1 (by omega)
        · exact .inr h
theorem pick_cases {o : Int} {js : List Job} {rs : List Int} {now : Int} : (pickL o js rs now = -1 ∧ ∀ k, k < js.length → gE rs k = 0 ∨ now < (jA js k).r) ∨ ∃ b : Nat, pickL o js rs now = b ∧ b < js.length ∧ gE rs b ≠ 0 := by
  rcases pick_fact (o := o) (js := js) (rs := rs) (now := now) (m := js.length) (i := 0) (b := -1) (by omega) (.inl rfl) with ⟨h1, _, h3⟩ | ⟨h1, h2, h3⟩
  · exact .inl ⟨h1, fun k hk => h3 k (Nat.zero_le _) hk⟩
  · refine .inr ⟨(pickL o js rs now).toNat, ?_, ?_, h3⟩
    · unfold pickL; omega
    · unfold pickL; omega
def picks (o : Int) (js : List Job) : Nat → Int → List Int → List (Int × Int)
  | 0, _, _ => []
  | m + 1, now, rs => if sumL rs ≤ 0 then [] else if pickL o js rs now < 0 then picks o js m (now + 1) rs
      else (pickL o js rs now, now) :: picks o js m (now + 1) (rs.set (pickL o js rs now).toNat (gE rs (pickL o js rs now).toNat - 1))
def apS (E : List Int) (ps : List (Int × Int)) : List Int := ps.foldl (fun E p => E.set p.1.toNat (p.2 + 1)) E
theorem apS_len : ∀ {ps : List (Int × Int)} {E : List Int}, (apS E ps).length = E.length
  | [], E => rfl
  | p :: ps, E => by
    have := @apS_len ps (E.set p.1.toNat (p.2 + 1))
    unfold apS at this ⊢
    rw [List.foldl_cons, this, List.length_set]
theorem picks_mem {o : Int} {js : List Job} : ∀ {m : Nat} {now : Int} {rs : List Int}, ∀ p, p ∈ picks o js m now rs → now ≤ p.2 ∧ p.2 < now + m
  | 0, now, rs, p, hp => by simp [picks] at hp
  | m + 1, now, rs, p, hp => by
    rw [picks] at hp
    split at hp
    · cases hp
    · split at hp
      · have := picks_mem p hp; omega
      · rcases List.mem_cons.1 hp with rfl | hp
        · dsimp only; omega
        · have := picks_mem p hp; omega
/-- What the choice at a time asks. -/
structure Ch (js : List Job) (rs : List Int) (now : Int) (m : Nat) : Prop where
  l : rs.length = js.length
  b : ∀ x, x ∈ rs → 0 ≤ x ∧ x ≤ 50
  m : sumL rs + (501 - now).toNat ≤ m
theorem Ch.skip {o : Int} {js : List Job} {rs : List Int} {now : Int} {m : Nat} (hg : goodL js = true) (C : Ch js rs now m) (hs : 0 < sumL rs) (hp : pickL o js rs now < 0) : now < 500 ∧ Ch js rs (now + 1) (m - 1) ∧ 0 < m := by
  have h5 : now < 500 := by
    rcases pick_cases (o := o) (js := js) (rs := rs) (now := now) with ⟨_, h2⟩ | ⟨b, h1, _⟩
    · obtain ⟨i, h3, h4⟩ := sumL_pos C.b hs
      have h5 := C.l
      have h6 := jA_bd hg (show i < js.length by omega)
      rcases h2 i (by omega) with h7 | h7 <;> omega
    · omega
  have := C.m
  exact ⟨h5, ⟨C.l, C.b, by omega⟩, by omega⟩
theorem Ch.take {js : List Job} {rs : List Int} {now : Int} {m b : Nat} (C : Ch js rs now m) (hs : 0 < sumL rs) (hb : b < js.length) (h0 : gE rs b ≠ 0) : Ch js (rs.set b (gE rs b - 1)) (now + 1) (m - 1) ∧ 0 < m ∧ sumL (rs.set b (gE rs b - 1)) = sumL rs - 1 := by
  have h1 := C.b _ (gE_mem (show b < rs.length by rw [C.l]; exact hb))
  have h2 := sumL_set (l := rs) (i := b) (y := gE rs b - 1) (by rw [C.l]; exact hb)
  have := C.m
  refine ⟨⟨by rw [List.length_set]; exact C.l, fun x hx => ?_, by omega⟩, by omega, by omega⟩
  rcases List.mem_or_eq_of_mem_set hx with g | g
  · exact C.b x g
  · omega
/-! ### bounds of prefixes -/
def nwGo (js : List Job) : List Int → Int → Int
  | [], now => now
  | x :: r, now => nwGo js r (max now (jA js x).r + (jA js x).t)
def FU : Nat := 1000
def bdE (o : Int) (js : List Job) (B : List Int) : List Int := apS (endsL js B) (picks o js FU (nwGo js B 0) (restL js B))
theorem jA_b {js : List Job} (hg : goodL js = true) {x : Int} (hx : 0 ≤ x ∧ x < js.length) : (1 ≤ (jA js x).t ∧ (jA js x).t ≤ 50) ∧ 0 ≤ (jA js x).r ∧ (jA js x).r ≤ 500 := by
  have := jA_bd hg (show x.toNat < js.length by omega)
  rw [show ((x.toNat : Nat) : Int) = x by omega] at this
  exact ⟨this.1, this.2.1⟩
theorem nwGo_bd {js : List Job} (hg : goodL js = true) : ∀ {B : List Int} {now : Int} {k : Nat}, inN js.length B → 0 ≤ now → now ≤ 550 * k → 0 ≤ nwGo js B now ∧ nwGo js B now ≤ 550 * (k + B.length : Nat)
  | [], now, k, _, h1, h2 => by simp [nwGo]; omega
  | x :: r, now, k, hin, h1, h2 => by
    have hx := jA_b hg (hin x (List.mem_cons_self ..))
    have := @nwGo_bd js hg r (max now (jA js x).r + (jA js x).t) (k + 1) (fun y hy => hin y (List.mem_cons_of_mem _ hy)) (by omega) (by omega)
    rw [nwGo, List.length_cons]
    omega
theorem bd_ch {js : List Job} {B : List Int} (hg : goodL js = true) (hn : js.length ≤ 8) (hin : inN js.length B) : Ch js (restL js B) (nwGo js B 0) FU := by
  have nb := @nwGo_bd js hg B 0 0 hin (by omega) (by omega)
  have s := sumL_nn (restL_bd (B := B) hg)
  rw [restL_len] at s
  exact ⟨restL_len, restL_bd hg, by unfold FU; omega⟩
end Go.Pm.PP

/- The spans of the choice by time, and its greatest lateness, in plain terms: it is the greatest bound of a set. -/
set_option linter.unusedVariables false
set_option linter.unusedSimpArgs false
namespace Go.Pm.PP
open Go.Pm Go.Pm.PE
/-! ### spans -/
def mgS (S : List Sp) (p : Int × Int) : List Sp := match S.getLast? with
  | some l => if l.j = p.1 ∧ l.b = p.2 then S.set (S.length - 1) { l with b := p.2 + 1 } else S ++ [⟨p.1, p.2, p.2 + 1⟩]
  | none => S ++ [⟨p.1, p.2, p.2 + 1⟩]
theorem mgS_nil {p : Int × Int} : mgS [] p = [⟨p.1, p.2, p.2 + 1⟩] := rfl
theorem mgS_eq {S : List Sp} {l : Sp} {p : Int × Int} (h1 : l.j = p.1) (h2 : l.b = p.2) : mgS (S ++ [l]) p = S ++ [{ l with b := p.2 + 1 }] := by
  unfold mgS
  rw [List.getLast?_concat]
  simp only [h1, h2, and_self, if_true, List.length_append, List.length_singleton, Nat.add_sub_cancel]
  rw [List.set_append_right (h := Nat.le_refl _), Nat.sub_self]; rfl
theorem mgS_ne {S : List Sp} {l : Sp} {p : Int × Int} (h : ¬ (l.j = p.1 ∧ l.b = p.2)) : mgS (S ++ [l]) p = (S ++ [l]) ++ [⟨p.1, p.2, p.2 + 1⟩] := by
  unfold mgS
  rw [List.getLast?_concat]
  simp only
  rw [if_neg h]
def foldS (E : List Int) (S : List Sp) : List Int := S.foldl (fun E s => E.set s.j.toNat s.b) E
theorem foldS_snoc {E : List Int} {S : List Sp} {s : Sp} : foldS E (S ++ [s]) = (foldS E S).set s.j.toNat s.b := by unfold foldS; rw [List.foldl_append]; rfl
theorem apS_cons {E : List Int} {p : Int × Int} {ps : List (Int × Int)} : apS E (p :: ps) = apS (E.set p.1.toNat (p.2 + 1)) ps := rfl
theorem foldS_mg {E : List Int} {S : List Sp} {p : Int × Int} : foldS E (mgS S p) = (foldS E S).set p.1.toNat (p.2 + 1) := by
  rcases List.eq_nil_or_concat S with rfl | ⟨S1, l, rfl⟩
  · rfl
  · rw [List.concat_eq_append]
    by_cases c : l.j = p.1 ∧ l.b = p.2
    · rw [mgS_eq c.1 c.2, foldS_snoc, foldS_snoc, ← c.1, List.set_set]
    · rw [mgS_ne c, foldS_snoc]
theorem foldS_mgs {E : List Int} : ∀ {ps : List (Int × Int)} {S : List Sp}, foldS E (ps.foldl mgS S) = apS (foldS E S) ps
  | [], S => rfl
  | p :: ps, S => by rw [List.foldl_cons, foldS_mgs, foldS_mg, apS_cons]
def spanL (o : Int) (js : List Job) (now : Int) (rs : List Int) : List Sp := (picks o js FU now rs).foldl mgS []
theorem foldS_span {o : Int} {js : List Job} {now : Int} {rs E : List Int} : foldS E (spanL o js now rs) = apS E (picks o js FU now rs) := foldS_mgs
theorem mgS_len {S : List Sp} {p : Int × Int} : (mgS S p).length ≤ S.length + 1 := by
  rcases List.eq_nil_or_concat S with rfl | ⟨S1, l, rfl⟩
  · simp [mgS_nil]
  · rw [List.concat_eq_append]
    by_cases c : l.j = p.1 ∧ l.b = p.2
    · rw [mgS_eq c.1 c.2]; simp
    · rw [mgS_ne c]; simp
theorem mgs_len : ∀ {ps : List (Int × Int)} {S : List Sp}, (ps.foldl mgS S).length ≤ S.length + ps.length
  | [], S => by simp
  | p :: ps, S => by
    have h1 := @mgs_len ps (mgS S p)
    have h2 := @mgS_len S p
    rw [List.foldl_cons, List.length_cons]; omega
theorem picks_len {o : Int} {js : List Job} : ∀ {m : Nat} {now : Int} {rs : List Int}, (picks o js m now rs).length ≤ m
  | 0, now, rs => by simp [picks]
  | m + 1, now, rs => by
    rw [picks]
    split
    · simp
    · split
      · have := @picks_len o js m (now + 1) rs; omega
      · rw [List.length_cons]
        have := @picks_len o js m (now + 1) (rs.set (pickL o js rs now).toNat (gE rs (pickL o js rs now).toNat - 1)); omega
theorem spanL_len {o : Int} {js : List Job} {now : Int} {rs : List Int} : (spanL o js now rs).length ≤ 1000 := by
  have h1 := @mgs_len (picks o js FU now rs) []
  have h2 := @picks_len o js FU now rs
  unfold spanL
  rw [List.length_nil] at h1
  unfold FU at *
  omega
/-! ### split schedules -/
def spOk (js : List Job) (now last : Int) (s : Sp) : Bool := decide (0 ≤ s.j ∧ s.j < js.length) && !decide (s.a < now) && !decide (s.a < (jA js s.j).r) && decide (s.a < s.b) && !decide (s.j = last ∧ s.a = now) && decide (s.b ≤ 1000)
def spGo (js : List Job) : Int → Int → List Sp → Bool
  | _, _, [] => true
  | now, last, s :: r => spOk js now last s && spGo js s.b s.j r
def addD (D : List Int) (s : Sp) : List Int := D.set s.j.toNat (gE D s.j.toNat + s.b - s.a)
def doneL (js : List Job) (S : List Sp) : List Int := S.foldl addD (List.replicate js.length 0)
def splB (js : List Job) (S : List Sp) : Bool := spGo js 0 (-1) S && decide (doneL js S = js.map (·.t))
def endOf (now : Int) (S : List Sp) : Int := (S.getLast?.map (·.b)).getD now
def lastOf (last : Int) (S : List Sp) : Int := (S.getLast?.map (·.j)).getD last
theorem endOf_cons {now : Int} {s : Sp} {S : List Sp} : endOf now (s :: S) = endOf s.b S := by
  unfold endOf
  cases S with
  | nil => rfl
  | cons x r => rw [List.getLast?_cons_cons]; rw [List.getLast?_eq_some_getLast (by simp)]; rfl
theorem lastOf_cons {last : Int} {s : Sp} {S : List Sp} : lastOf last (s :: S) = lastOf s.j S := by
  unfold lastOf
  cases S with
  | nil => rfl
  | cons x r => rw [List.getLast?_cons_cons]; rw [List.getLast?_eq_some_getLast (by simp)]; rfl
theorem spGo_snoc {js : List Job} {s : Sp} : ∀ {S : List Sp} {now last : Int}, spGo js now last (S ++ [s]) = (spGo js now last S && spOk js (endOf now S) (lastOf last S) s)
  | [], now, last => by simp [spGo, endOf, lastOf]
  | x :: S, now, last => by
    rw [List.cons_append, spGo, spGo, spGo_snoc, endOf_cons, lastOf_cons, Bool.and_assoc]
theorem doneL_snoc {js : List Job} {S : List Sp} {s : Sp} : doneL js (S ++ [s]) = addD (doneL js S) s := by unfold doneL; rw [List.foldl_append]; rfl
theorem doneL_len {js : List Job} {S : List Sp} : (doneL js S).length = js.length := by
  have go : ∀ (S : List Sp) (D : List Int), (S.foldl addD D).length = D.length := fun S => by
    induction S with
    | nil => intro D; rfl
    | cons s S ih => intro D; rw [List.foldl_cons, ih]; unfold addD; rw [List.length_set]
  unfold doneL; rw [go]; simp
theorem endOf_snoc {now : Int} {S : List Sp} {s : Sp} : endOf now (S ++ [s]) = s.b := by unfold endOf; rw [List.getLast?_concat]; rfl
theorem lastOf_snoc {now : Int} {S : List Sp} {s : Sp} : lastOf now (S ++ [s]) = s.j := by unfold lastOf; rw [List.getLast?_concat]; rfl
/-- One step of time more. -/
theorem sp_step {js : List Job} {S : List Sp} {b : Nat} {now : Int} (hb : b < js.length) (hr : (jA js b).r ≤ now) (h0 : 0 ≤ now) (h1 : now + 1 ≤ 1000) (hS : spGo js 0 (-1) S = true) (he : endOf 0 S ≤ now) :
    spGo js 0 (-1) (mgS S (b, now)) = true ∧ endOf 0 (mgS S (b, now)) ≤ now + 1 ∧ doneL js (mgS S (b, now)) = (doneL js S).set b (gE (doneL js S) b + 1) := by
  have new : ¬ (lastOf (-1) S = b ∧ endOf 0 S = now) → spGo js 0 (-1) (S ++ [⟨b, now, now + 1⟩]) = true ∧ endOf 0 (S ++ [⟨b, now, now + 1⟩]) ≤ now + 1 ∧ doneL js (S ++ [⟨b, now, now + 1⟩]) = (doneL js S).set b (gE (doneL js S) b + 1) := fun hn => by
    refine ⟨?_, ?_, ?_⟩
    · rw [spGo_snoc, hS, Bool.true_and]
      have e1 : decide (now < endOf 0 S) = false := by simpa using he
      have e2 : decide (now < (jA js b).r) = false := by simpa using hr
      have e3 : decide ((b : Int) = lastOf (-1) S ∧ now = endOf 0 S) = false := by
        rw [decide_eq_false_iff_not]; rintro ⟨g1, g2⟩; exact hn ⟨g1.symm, g2.symm⟩
      unfold spOk
      simp only [e1, e2, e3]
      simp; omega
    · rw [endOf_snoc]; exact Int.le_refl _
    · rw [doneL_snoc]; unfold addD; simp only [Int.toNat_natCast]
      congr 1; omega
  rcases List.eq_nil_or_concat S with rfl | ⟨S1, l, rfl⟩
  · exact new fun g => by simp [lastOf] at g
  · rw [List.concat_eq_append] at *
    by_cases c : l.j = (b : Int) ∧ l.b = now
    · rw [mgS_eq c.1 c.2]
      rw [spGo_snoc, Bool.and_eq_true] at hS
      obtain ⟨k1, k2⟩ := hS
      refine ⟨?_, by rw [endOf_snoc]; exact Int.le_refl _, ?_⟩
      · rw [spGo_snoc, k1, Bool.true_and]
        unfold spOk at k2 ⊢
        simp only [Bool.and_eq_true, Bool.not_eq_true', decide_eq_true_eq, decide_eq_false_iff_not] at k2 ⊢
        obtain ⟨⟨⟨⟨⟨a1, a2⟩, a3⟩, a4⟩, a5⟩, a6⟩ := k2
        exact ⟨⟨⟨⟨⟨a1, a2⟩, a3⟩, by omega⟩, a5⟩, by omega⟩
      · rw [doneL_snoc, doneL_snoc]
        unfold addD
        rw [c.1, Int.toNat_natCast, List.set_set, gE_set (by rw [doneL_len]; exact hb), if_pos rfl]
        simp only
        congr 1; omega
    · rw [mgS_ne c]
      exact new fun g => c (by rw [lastOf_snoc, endOf_snoc] at g; exact g)
theorem pick_free {o : Int} {js : List Job} {rs : List Int} {now : Int} : ∀ {m i : Nat} {b : Int}, i + m = js.length → (b = -1 ∨ (jA js b).r ≤ now) → ((List.range' i m).foldl (pickF o js rs now) b = -1 ∨ (jA js ((List.range' i m).foldl (pickF o js rs now) b)).r ≤ now)
  | 0, i, b, h, hb => hb
  | m + 1, i, b, h, hb => by
    rw [List.range'_succ, List.foldl_cons]
    refine pick_free (m := m) (i := i + 1) (by omega) ?_
    unfold pickF
    split
    · exact hb
    · rename_i c
      split
      · right; omega
      · exact hb
theorem pick_r {o : Int} {js : List Job} {rs : List Int} {now : Int} {b : Nat} (h : pickL o js rs now = b) : (jA js b).r ≤ now := by
  have := pick_free (o := o) (js := js) (rs := rs) (now := now) (m := js.length) (i := 0) (b := -1) (by omega) (.inl rfl)
  have e : (List.range' 0 js.length).foldl (pickF o js rs now) (-1) = b := h
  rw [e] at this
  rcases this with g | g
  · omega
  · exact g
theorem spans_ok {o : Int} {js : List Job} (hg : goodL js = true) : ∀ {m : Nat} {now : Int} {rs : List Int} {S : List Sp}, Ch js rs now m → 0 ≤ now → now + m ≤ 1000 → spGo js 0 (-1) S = true → endOf 0 S ≤ now → (∀ i, i < js.length → gE (doneL js S) i + gE rs i = (jA js i).t) →
    splB js ((picks o js m now rs).foldl mgS S) = true := by
  have fin : ∀ {rs : List Int} {S : List Sp} {now : Int} {m : Nat}, Ch js rs now m → sumL rs ≤ 0 → spGo js 0 (-1) S = true → (∀ i, i < js.length → gE (doneL js S) i + gE rs i = (jA js i).t) → splB js S = true := fun {rs S now m} C hs hS hd => by
    unfold splB
    rw [hS, Bool.true_and, decide_eq_true_eq]
    apply List.ext_getElem?
    intro i
    rcases Nat.lt_or_ge i js.length with g | g
    · have h1 := hd i g
      have h2 : gE rs i = 0 := by
        have hb := C.b _ (gE_mem (show i < rs.length by rw [C.l]; exact g))
        by_cases c : gE rs i = 0
        · exact c
        · exfalso
          have h3 := sumL_set (l := rs) (i := i) (y := gE rs i - 1) (by rw [C.l]; exact g)
          have h4 := sumL_nn (l := rs.set i (gE rs i - 1)) (fun x hx => by
            rcases List.mem_or_eq_of_mem_set hx with q | q
            · exact C.b x q
            · omega)
          omega
      rw [gE_get (by rw [doneL_len]; exact g), List.getElem?_map]
      obtain ⟨y, hy, _⟩ := drop_at g
      rw [hy]
      have : jA js i = y := by unfold jA; rw [Int.toNat_natCast, hy]; rfl
      simp only [Option.map_some]
      rw [← this]; congr 1; omega
    · rw [List.getElem?_eq_none (by rw [doneL_len]; exact g), List.getElem?_eq_none (by simpa using g)]
  intro m
  induction m with
  | zero =>
    intro now rs S C h0 h1 hS he hd
    have := C.m
    exact fin C (by omega) hS hd
  | succ m ih =>
    intro now rs S C h0 h1 hS he hd
    rw [picks]
    split
    · rename_i hs
      exact fin C hs hS hd
    · rename_i hs
      rcases pick_cases (o := o) (js := js) (rs := rs) (now := now) with ⟨hp, _⟩ | ⟨b, hp, hb, hb0⟩
      · obtain ⟨_, C2, _⟩ := C.skip hg (by omega) (o := o) (by omega)
        rw [hp, if_pos (by omega)]
        exact ih C2 (by omega) (by omega) hS (by omega) hd
      · obtain ⟨C2, _, _⟩ := C.take (by omega) hb hb0
        rw [hp, if_neg (by omega), Int.toNat_natCast, List.foldl_cons]
        obtain ⟨g1, g2, g3⟩ := sp_step hb (pick_r hp) h0 (by omega) hS he
        refine ih C2 (by omega) (by omega) g1 (by omega) fun i hi => ?_
        rw [g3, gE_set (by rw [doneL_len]; exact hb), gE_set (by rw [C.l]; exact hb)]
        have := hd i hi
        by_cases e : i = b
        · subst e; rw [if_pos rfl, if_pos rfl]; omega
        · rw [if_neg e, if_neg e]; exact this
theorem nil_ch {js : List Job} (hg : goodL js = true) (hn : js.length ≤ 8) : Ch js (restL js []) 0 FU := bd_ch (B := []) hg hn fun x hx => by cases hx
theorem restL_gE {js : List Job} {i : Nat} (hi : i < js.length) : gE (restL js []) i = (jA js i).t := by
  unfold gE; rw [restL_at hi]; rfl
theorem split_span {o : Int} {js : List Job} (hg : goodL js = true) (hn : js.length ≤ 8) : splB js (spanL o js 0 (restL js [])) = true := by
  refine spans_ok hg (nil_ch hg hn) (Int.le_refl _) (by unfold FU; omega) rfl (by simp [endOf]) fun i hi => ?_
  rw [restL_gE hi]
  have : gE (doneL js []) i = 0 := by unfold doneL gE; simp [hi]
  omega
end Go.Pm.PP

/- Typed rules for slices: printed by a program of this work (wrap.py). -/
set_option linter.unusedVariables false
set_option linter.unusedSimpArgs false
set_option maxRecDepth 4000
namespace Go.Pm.PP
open Go.Pm Go.Proofs
theorem load_S {h : Hp} {v : Value} {xs : List (Sp)} {i : Nat} {x : Sp} (hv : Sees h v 3 (xs.map encS)) (hx : xs[i]? = some x) :
    indexAddrP P h t_S_impl_Span v (.int .i64 i) = some (.pointer (some (addP (base v) (i * 3)))) ∧ loadP P h t_impl_Span (.pointer (some (addP (base v) (i * 3)))) = some (.agg #[.int .i64 x.j, .int .i64 x.a, .int .i64 x.b]) ∧
    loadP P h t_int (.pointer (some (addP (addP (base v) (i * 3)) 0))) = some (.int .i64 x.j) ∧
    loadP P h t_int (.pointer (some (addP (addP (base v) (i * 3)) 1))) = some (.int .i64 x.a) ∧
    loadP P h t_int (.pointer (some (addP (addP (base v) (i * 3)) 2))) = some (.int .i64 x.b) := by
  have hi := (List.getElem?_eq_some_iff.1 hx).1
  have h1 := hv.indexT (P := P) u_S_impl_Span i_impl_Span (k := .i64) (j := i) (by omega) (by omega)
  rw [Int.toNat_natCast] at h1
  have fld : ∀ k, k < 3 → loadP P h t_int (.pointer (some (addP (addP (base v) (i * 3)) k))) = (encS x)[k]? := by
    intro k hk
    have := hv.cellT (P := P) a_int i_int hx hk
    rw [← this]
    simp only [addP, Nat.add_assoc]
  exact ⟨h1, hv.aggT a_impl_Span i_impl_Span hx, fld 0 (by omega), fld 1 (by omega), fld 2 (by omega)⟩
theorem ones_S (xs : List (Sp)) : (xs.map encS).flatten.all one = true := by
  induction xs with
  | nil => rfl
  | cons x xs ih => rw [List.map_cons, List.flatten_cons, List.all_append, ih]; rfl
theorem push_S0 {h0 h : Hp} {L : List Asn} (H : Holds h0 h L) (i : Nat) {v : Value} {xs : List (Sp)} (hi : L[i]? = some (.own v 3 (xs.map encS))) (x : Sp) (hn : xs.length ≤ 2 ^ 40) :
    ∃ v' h', appendP P (h ++ [some ⟨[.int .i64 x.j, .int .i64 x.a, .int .i64 x.b], 3, false⟩]) t_S_impl_Span v (.slice (some ⟨h.length, 0, some 3⟩) 1 1) = some (v', h') ∧ Holds h0 h' (L.set i (.own v' 3 ((xs ++ [x]).map encS))) ∧ Keeps (rowV v) h h' ∧ (rowV v = none → newOk (h ++ [some ⟨[.int .i64 x.j, .int .i64 x.a, .int .i64 x.b], 3, false⟩]) h') := by
  obtain ⟨v', h', g1, g2, g3, g4⟩ := (H.ext (List.prefix_append h [])).push (P := P) i (y := encS x) (n := 3) hi u_S_impl_Span e_t_impl_Span z_t_impl_Span s_t_impl_Span (by omega) (by rw [b_t_impl_Span]; omega) rfl rfl (by simp [encS]) (by rw [b_t_impl_Span]; simp; omega)
  rw [show xs.map encS ++ [encS x] = (xs ++ [x]).map encS by simp] at g2
  exact ⟨v', h', by simpa [encS] using g1, g2, Keeps.app.trans g3, by simpa [encS] using g4⟩
theorem app_S {h0 h : Hp} {L : List Asn} (H : Holds h0 h L) (i : Nat) {v u : Value} {xs ys : List (Sp)} (hi : L[i]? = some (.own v 3 (xs.map encS))) (s : Sees h u 3 (ys.map encS)) (hn : xs.length + ys.length ≤ 2 ^ 40) :
    ∃ v' h', appendP P h t_S_impl_Span v u = some (v', h') ∧ Holds h0 h' (L.set i (.own v' 3 ((xs ++ ys).map encS))) ∧ Keeps (rowV v) h h' := by
  obtain ⟨v', h', g1, g2, g3⟩ := H.app (P := P) i hi u_S_impl_Span e_t_impl_Span z_t_impl_Span s_t_impl_Span (by omega) (by rw [b_t_impl_Span]; omega) s (ones_S ys) (by rw [b_t_impl_Span]; simp; omega)
  rw [← List.map_append] at g2
  exact ⟨v', h', g1, g2, g3⟩
theorem fput_S0 {h0 h : Hp} {L : List Asn} (H : Holds h0 h L) (i : Nat) {v : Value} {xs : List (Sp)} (hi : L[i]? = some (.own v 3 (xs.map encS))) {j : Nat} {y : Sp} (hy : xs[j]? = some y) (z : Int) :
    ∃ h', storeP P h t_int (.int .i64 z) (.pointer (some (addP (addP (base v) (j * 3)) 0))) = some h' ∧ Holds h0 h' (L.set i (.own v 3 ((xs.set j ({ y with j := z })).map encS))) ∧ Keeps (rowV v) h h' := by
  have := H.store (P := P) i hi (t := t_int) (w := .int .i64 z) (j := j) (e := encS y) (l := []) (m := [.int .i64 y.j]) (c := [.int .i64 y.a, .int .i64 y.b]) e_t_int (by simp [hy]) rfl (by simp) (by simp) (by simp)
  simpa [List.map_set, encS, addP, Nat.add_assoc] using this
theorem fput_S1 {h0 h : Hp} {L : List Asn} (H : Holds h0 h L) (i : Nat) {v : Value} {xs : List (Sp)} (hi : L[i]? = some (.own v 3 (xs.map encS))) {j : Nat} {y : Sp} (hy : xs[j]? = some y) (z : Int) :
    ∃ h', storeP P h t_int (.int .i64 z) (.pointer (some (addP (addP (base v) (j * 3)) 1))) = some h' ∧ Holds h0 h' (L.set i (.own v 3 ((xs.set j ({ y with a := z })).map encS))) ∧ Keeps (rowV v) h h' := by
  have := H.store (P := P) i hi (t := t_int) (w := .int .i64 z) (j := j) (e := encS y) (l := [.int .i64 y.j]) (m := [.int .i64 y.a]) (c := [.int .i64 y.b]) e_t_int (by simp [hy]) rfl (by simp) (by simp) (by simp)
  simpa [List.map_set, encS, addP, Nat.add_assoc] using this
theorem fput_S2 {h0 h : Hp} {L : List Asn} (H : Holds h0 h L) (i : Nat) {v : Value} {xs : List (Sp)} (hi : L[i]? = some (.own v 3 (xs.map encS))) {j : Nat} {y : Sp} (hy : xs[j]? = some y) (z : Int) :
    ∃ h', storeP P h t_int (.int .i64 z) (.pointer (some (addP (addP (base v) (j * 3)) 2))) = some h' ∧ Holds h0 h' (L.set i (.own v 3 ((xs.set j ({ y with b := z })).map encS))) ∧ Keeps (rowV v) h h' := by
  have := H.store (P := P) i hi (t := t_int) (w := .int .i64 z) (j := j) (e := encS y) (l := [.int .i64 y.j, .int .i64 y.a]) (m := [.int .i64 y.b]) (c := []) e_t_int (by simp [hy]) rfl (by simp) (by simp) (by simp)
  simpa [List.map_set, encS, addP, Nat.add_assoc] using this
end Go.Pm.PP

/- The choice by time and the bound of a prefix, by the program. -/
set_option linter.unusedVariables false
set_option linter.unusedSimpArgs false
set_option maxRecDepth 4000
set_option maxHeartbeats 16000000
namespace Go.Pm.PP
open Go.Pm Go.Proofs Go.Pm.PE
theorem sumL_take {l : List Int} {i : Nat} {x : Int} (h : l[i]? = some x) : sumL (l.take (i + 1)) = sumL (l.take i) + x := by
  rw [take_succ' h, sumL_append]; simp [sumL]
theorem sumL_tk {l : List Int} {i : Nat} (h : ∀ x, x ∈ l → 0 ≤ x ∧ x ≤ 50) : 0 ≤ sumL (l.take i) ∧ sumL (l.take i) ≤ 50 * l.length := by
  have := sumL_nn (l := l.take i) fun x hx => h x (List.mem_of_mem_take hx)
  have h2 : (l.take i).length ≤ l.length := by rw [List.length_take]; omega
  omega
section
variable {h : Hp} {vj vr : Value} {js : List Job} {B : List Int} {o : Int}
theorem choose_run (hj : Jobs h vj js) (hr : Ints h vr B) (hg : goodL js = true) (hn : js.length ≤ 8) (hB : B.length ≤ 8) (hin : inN js.length B) (ho : o = 2 ∨ o = 4) :
    RunsC P G n_impl_choose [vj, vr, .int .i64 o] h fun v h' => ∃ u w, v = .tuple #[u, w] ∧ h <+: h' ∧ Ints h' w (bdE o js B) ∧ Sees h' u 3 ((spanL o js (nwGo js B 0) (restL js B)).map encS) := by
  refine hideC fun K hK => enter_run e_impl_choose (by simp) ?_
  have hjs := hj
  have hrs := hr
  obtain ⟨oj, cj, rfl⟩ := hj.shapeT
  obtain ⟨oa, c, rfl⟩ := hr.shapeT
  obtain ⟨vx, h1, mk1, H1, hp1, ox, rfl⟩ := make_I (Holds.start (h := h)) (n := js.length) (by omega)
  obtain ⟨vz, h2, mk2, H2, hp2, oz, rfl⟩ := make_I H1 (n := js.length) (by omega)
  have bC := bd_ch hg hn hin
  have bN := @nwGo_bd js hg B 0 0 hin (by omega) (by omega)
  have eE : bdE o js B = apS (endsL js B) (picks o js FU (nwGo js B 0) (restL js B)) := rfl
  generalize bdE o js B = X at eE hK
  have eY : spanL o js (nwGo js B 0) (restL js B) = (picks o js FU (nwGo js B 0) (restL js B)).foldl mgS [] := rfl
  generalize spanL o js (nwGo js B 0) (restL js B) = Y at eY hK
  have hF : FU = 1000 := rfl
  have bR := restL_bd (B := B) hg
  have lR : (restL js B).length = js.length := restL_len
  simp -implicitDefEqProofs [mk1, mk2]
  refine R_loopO (fun m s h' => ∃ (i : Nat) (R : List Int), i + m = js.length ∧ s = [(0, .slice oj js.length cj), (1, .slice oa B.length c), (2, .int .i64 o), (8, .slice ox js.length js.length), (9, .slice oz js.length js.length), (10, .int .i64 (sumL ((restL js B).take i))), (11, .int .i64 0), (27, .slice oj js.length cj), (28, .int .i64 js.length), (29, .int .i64 i)] ∧
    R.length = js.length ∧ (∀ k, k < js.length → gE R k = if k < i then gE (restL js B) k else 0) ∧ Holds h h' [.own (.slice ox js.length js.length) 1 (R.map encI), .own (.slice oz js.length js.length) 1 ((List.replicate js.length (0 : Int)).map encI)]) (fun I hI m s h' => ?_) (n := js.length)
    ⟨0, List.replicate js.length 0, Nat.zero_add _, by simp [sumL], by simp, fun k hk => by rw [if_neg (by omega)]; simp [gE, hk], H2⟩
  rintro ⟨i, R, hi, rfl, hR, hRk, H⟩
  by_cases hlt : i < js.length
  · obtain ⟨y, hy, _⟩ := drop_at hlt
    have ey : jA js i = y := by unfold jA; rw [Int.toNat_natCast, hy]; rfl
    have jb := job_of (job_at hg hy)
    have ly := load_J (hjs.pre H.pre) hy
    have hlt' : (i : Int) < js.length := by omega
    have rx := restL_at (B := B) hlt
    have bs := sumL_tk (i := i) bR
    rw [lR] at bs
    have HB := H.ext (List.prefix_append h' [some (⟨[.int .i64 y.t, .int .i64 y.w, .int .i64 y.r, .int .i64 y.d], 0, false⟩ : Row)])
    have rh := has_run (x := (i : Int)) (hrs.pre HB.pre) (by omega)
    cases c1 : hasL (i : Int) B
    · rw [if_neg (by rw [show inP B i = false from c1]; simp), ey] at rx
      have ix := (load_I (HB.sees 0 rfl) (gE_get (l := R) (i := i) (by omega))).1
      obtain ⟨h3, s3, H3, _⟩ := put_I HB 0 rfl (j := i) (by omega) y.t
      have bx : loadP P h3 t_int (.pointer (some ⟨h'.length, 0, some 4⟩)) = some (.int .i64 y.t) := by
        have HBx := (H.alloc [.int .i64 y.t, .int .i64 y.w, .int .i64 y.r, .int .i64 y.d])
        obtain ⟨h3', s3', H3', _⟩ := put_I HBx 0 rfl (j := i) (by omega) y.t
        rw [s3] at s3'; cases s3'
        exact H3'.bl (P := P) 2 4 rfl rfl t_int 0
      have ws : IntKind.i64.wrap (sumL ((restL js B).take i) + y.t) = sumL ((restL js B).take (i + 1)) := by rw [sumL_take rx, wrap_ok] <;> omega
      simp -implicitDefEqProofs [-indexAddrP_some, hlt, hlt', ly, CL_ret rh, c1, ix, s3, bx, ws, winc hlt (show js.length ≤ 2 ^ 40 by omega)]
      refine ⟨m - 1, by omega, on hI ⟨i + 1, R.set i y.t, by omega, rfl, by rw [List.length_set]; exact hR, fun k hk => ?_, H3⟩⟩
      rw [gE_set (by omega)]
      by_cases g : k = i
      · subst g
        rw [if_pos rfl, if_pos (by omega)]
        unfold gE; rw [rx]; rfl
      · rw [if_neg g, hRk k hk]
        by_cases g2 : k < i
        · rw [if_pos g2, if_pos (by omega)]
        · rw [if_neg g2, if_neg (by omega)]
    · rw [if_pos (show inP B i = true from c1)] at rx
      have ws : sumL ((restL js B).take i) = sumL ((restL js B).take (i + 1)) := by rw [sumL_take rx, Int.add_zero]
      simp -implicitDefEqProofs [-indexAddrP_some, hlt, hlt', ly, CL_ret rh, c1, winc hlt (show js.length ≤ 2 ^ 40 by omega)]
      refine ⟨m - 1, by omega, on hI ⟨i + 1, R, by omega, by rw [ws]; rfl, hR, fun k hk => ?_, HB⟩⟩
      rw [hRk k hk]
      by_cases g : k = i
      · subst g
        rw [if_neg (by omega), if_pos (by omega)]
        unfold gE; rw [rx]; rfl
      · by_cases g2 : k < i
        · rw [if_pos g2, if_pos (by omega)]
        · rw [if_neg g2, if_neg (by omega)]
  have hlt' : ¬ (i : Int) < js.length := by omega
  have hRX : R = restL js B := by
    apply List.ext_getElem?
    intro k
    rcases Nat.lt_or_ge k js.length with g | g
    · have := hRk k g
      rw [if_pos (by omega)] at this
      rw [gE_get (by omega), gE_get (by rw [lR]; omega), this]
    · rw [List.getElem?_eq_none (by omega), List.getElem?_eq_none (by rw [lR]; omega)]
  subst hRX
  rw [List.take_of_length_le (by omega)]
  simp -implicitDefEqProofs [hlt, hlt']
  refine R_loopO (fun m s h' => ∃ (i : Nat) (now : Int) (E : List Int), i + m = B.length ∧ s = [(0, .slice oj js.length cj), (2, .int .i64 o), (8, .slice ox js.length js.length), (9, .slice oz js.length js.length), (10, .int .i64 (sumL (restL js B))), (11, .int .i64 now), (48, .slice oa B.length c), (49, .int .i64 B.length), (50, .int .i64 i)] ∧
    Holds h h' [.own (.slice ox js.length js.length) 1 ((restL js B).map encI), .own (.slice oz js.length js.length) 1 (E.map encI)] ∧ endsL js B = endGo js (B.drop i) now E ∧ nwGo js B 0 = nwGo js (B.drop i) now ∧ E.length = js.length ∧ 0 ≤ now ∧ now ≤ 550 * i) (fun I2 hI2 m2 s h' => ?_) (n := B.length) ⟨0, 0, List.replicate js.length 0, Nat.zero_add _, by simp, H, rfl, rfl, by simp, by omega, by omega⟩
  rintro ⟨i2, nw, E, hi2, rfl, H2, hx, hw, hE, n0, n1⟩
  by_cases hlt2 : i2 < B.length
  · have hlt2' : (i2 : Int) < B.length := by omega
    obtain ⟨x, hxx, hd⟩ := drop_at hlt2
    rw [hd, endGo] at hx
    rw [hd, nwGo] at hw
    obtain ⟨k, hk, hkl, hky⟩ := jA_get rfl (hin x (List.mem_of_getElem? hxx))
    have jb := job_of (job_at hg hky)
    generalize hJ : jA js x = y at hx hw hky jb
    subst hk
    rw [Int.toNat_natCast] at hx
    have lx := load_I (hrs.pre H2.pre) hxx
    have ly := load_J (hjs.pre H2.pre) hky
    obtain ⟨M, hM⟩ : ∃ M, M = max nw y.r := ⟨_, rfl⟩
    rw [← hM] at hx hw
    have wM : IntKind.i64.wrap (max nw y.r + y.t) = M + y.t := by rw [← hM, wrap_ok] <;> omega
    have ix := (load_I (H2.sees 1 rfl) (gE_get (l := E) (i := k) (by omega))).1
    obtain ⟨h3, s3, H3, _⟩ := put_I H2 1 rfl (j := k) (by omega) (M + y.t)
    simp -implicitDefEqProofs [-indexAddrP_some, hlt2, hlt2', lx, ly, foldI, mx_if, wM, ix, s3, winc hlt2 (by omega)]
    exact ⟨m2 - 1, by omega, on hI2 ⟨i2 + 1, M + y.t, E.set k (M + y.t), by omega, rfl, H3, hx, hw, by rw [List.length_set]; exact hE, by omega, by omega⟩⟩
  have hlt2' : ¬ (i2 : Int) < B.length := by omega
  rw [List.drop_eq_nil_of_le (by omega)] at hx hw
  rw [endGo] at hx
  rw [nwGo] at hw
  rw [hx, hw] at eE
  rw [hw] at eY
  rw [hw] at bC bN
  simp -implicitDefEqProofs [hlt2, hlt2']
  have H3 := own_nil H2 Sp encS 3
  refine R_loopO (fun m s h' => ∃ (now' : Int) (rs' E' : List Int) (S : List Sp) (u : Value), s = [(0, .slice oj js.length cj), (2, .int .i64 o), (8, .slice ox js.length js.length), (9, .slice oz js.length js.length), (10, .int .i64 (sumL rs')), (11, .int .i64 now'), (16, u)] ∧ Ch js rs' now' m ∧ 0 ≤ now' ∧ now' + m ≤ 2 ^ 31 ∧ S.length + m ≤ FU ∧ E'.length = js.length ∧
    X = apS E' (picks o js m now' rs') ∧ Y = (picks o js m now' rs').foldl mgS S ∧ Holds h h' [.own (.slice ox js.length js.length) 1 (rs'.map encI), .own (.slice oz js.length js.length) 1 (E'.map encI), .own u 3 (S.map encS)]) (fun I3 hI3 m3 s h' => ?_) (n := FU) ⟨nw, restL js B, E, [], .slice none 0 0, by simp, bC, n0, by omega, by simp, hE, eE, eY, H3⟩
  rintro ⟨now', rs', E', S, u, rfl, C', n0', n1', hSl, hE', hX, hY, H'⟩
  have hl' := C'.l
  by_cases hs : 0 < sumL rs'
  · have wn : IntKind.i64.wrap (now' + 1) = now' + 1 := by rw [wrap_ok] <;> omega
    simp -implicitDefEqProofs [hs]
    refine R_loopO (fun m s h'' => ∃ (i : Nat) (b : Int), i + m = js.length ∧ s = [(0, .slice oj js.length cj), (2, .int .i64 o), (8, .slice ox js.length js.length), (9, .slice oz js.length js.length), (10, .int .i64 (sumL rs')), (11, .int .i64 now'), (16, u), (17, .int .i64 b), (76, .slice oj js.length cj), (77, .int .i64 js.length), (78, .int .i64 i)] ∧ h' <+: h'' ∧ (b = -1 ∨ pkOk js rs' b) ∧ pickL o js rs' now' = (List.range' i m).foldl (pickF o js rs' now') b) (fun I4 hI4 m4 s h'' => ?_) (n := js.length) ⟨0, -1, Nat.zero_add _, by simp, List.prefix_rfl, .inl rfl, rfl⟩
    rintro ⟨i4, b, hi4, rfl, hp4, hb, hx4⟩
    by_cases hlt4 : i4 < js.length
    · have hlt4' : (i4 : Int) < js.length := by omega
      obtain ⟨m', rfl⟩ : ∃ m', m4 = m' + 1 := ⟨m4 - 1, by omega⟩
      rw [List.range'_succ, List.foldl_cons] at hx4
      obtain ⟨y, hy, _⟩ := drop_at hlt4
      have ey : jA js i4 = y := by unfold jA; rw [Int.toNat_natCast, hy]; rfl
      have hp5 := hp4.trans (List.prefix_append h'' [some (⟨[.int .i64 y.t, .int .i64 y.w, .int .i64 y.r, .int .i64 y.d], 0, false⟩ : Row)])
      have ly := load_J (hjs.pre (H'.pre.trans hp4)) hy
      have lr := load_I ((H'.sees 0 rfl).pre hp5) (gE_get (l := rs') (i := i4) (by omega))
      have wi := winc hlt4 (show js.length ≤ 2 ^ 40 by omega)
      by_cases c1 : gE rs' i4 = 0
      · have e : pickF o js rs' now' b i4 = b := by unfold pickF; rw [if_pos (.inl c1)]
        rw [e] at hx4
        rw [c1] at lr
        simp -implicitDefEqProofs [-indexAddrP_some, hlt4, hlt4', ly, lr, wi]
        exact ⟨m', by omega, on hI4 ⟨i4 + 1, b, by omega, rfl, hp5, hb, hx4⟩⟩
      · by_cases c2 : now' < y.r
        · have e : pickF o js rs' now' b i4 = b := by unfold pickF; rw [ey, if_pos (.inr c2)]
          rw [e] at hx4
          simp -implicitDefEqProofs [-indexAddrP_some, hlt4, hlt4', ly, lr, nb c1, c2, wi]
          exact ⟨m', by omega, on hI4 ⟨i4 + 1, b, by omega, rfl, hp5, hb, hx4⟩⟩
        · have okI : pkOk js rs' (i4 : Int) := ⟨by omega, by omega, c1⟩
          rcases hb with rfl | hb
          · have e : pickF o js rs' now' (-1) i4 = i4 := by unfold pickF; rw [ey, if_neg (by omega), if_pos (.inl (by omega))]
            rw [e] at hx4
            simp -implicitDefEqProofs [-indexAddrP_some, hlt4, hlt4', ly, lr, nb c1, c2, wi]
            exact ⟨m', by omega, on hI4 ⟨i4 + 1, i4, by omega, rfl, hp5, .inr okI, hx4⟩⟩
          · obtain ⟨k, rfl⟩ : ∃ k : Nat, b = k := ⟨b.toNat, by have := hb.1; omega⟩
            have hkl : k < js.length := by have := hb.2.1; omega
            obtain ⟨z, hz, _⟩ := drop_at hkl
            have ez : jA js k = z := by unfold jA; rw [Int.toNat_natCast, hz]; rfl
            have lz := load_J (hjs.pre (H'.pre.trans hp5)) hz
            have lk := load_I ((H'.sees 0 rfl).pre hp5) (gE_get (l := rs') (i := k) (by omega))
            have hk0 : ¬ (k : Int) < 0 := by omega
            rcases ho with rfl | rfl
            · by_cases c3 : gE rs' i4 < gE rs' k
              · have e : pickF 2 js rs' now' k i4 = i4 := by unfold pickF; rw [ey, if_neg (by omega), if_pos (.inr (by simp [betB, c3]))]
                rw [e] at hx4
                simp -implicitDefEqProofs [-indexAddrP_some, hlt4, hlt4', ly, lr, nb c1, c2, wi, hk0, lk, c3]
                exact ⟨m', by omega, on hI4 ⟨i4 + 1, i4, by omega, rfl, hp5, .inr okI, hx4⟩⟩
              · have e : pickF 2 js rs' now' k i4 = k := by unfold pickF; rw [ey, if_neg (by omega), if_neg (by simp [betB, c3, hk0])]
                rw [e] at hx4
                simp -implicitDefEqProofs [-indexAddrP_some, hlt4, hlt4', ly, lr, nb c1, c2, wi, hk0, lk, c3]
                exact ⟨m', by omega, on hI4 ⟨i4 + 1, k, by omega, rfl, hp5, .inr hb, hx4⟩⟩
            · by_cases c3 : y.d < z.d
              · have e : pickF 4 js rs' now' k i4 = i4 := by unfold pickF; rw [ey, if_neg (by omega), if_pos (.inr (by simp [betB, ey, ez, c3]))]
                rw [e] at hx4
                simp -implicitDefEqProofs [-indexAddrP_some, hlt4, hlt4', ly, lr, nb c1, c2, wi, hk0, lz, c3]
                exact ⟨m', by omega, on hI4 ⟨i4 + 1, i4, by omega, rfl, hp5, .inr okI, hx4⟩⟩
              · have e : pickF 4 js rs' now' k i4 = k := by unfold pickF; rw [ey, if_neg (by omega), if_neg (by simp [betB, ey, ez, c3, hk0])]
                rw [e] at hx4
                simp -implicitDefEqProofs [-indexAddrP_some, hlt4, hlt4', ly, lr, nb c1, c2, wi, hk0, lz, c3]
                exact ⟨m', by omega, on hI4 ⟨i4 + 1, k, by omega, rfl, hp5, .inr hb, hx4⟩⟩
    have hlt4' : ¬ (i4 : Int) < js.length := by omega
    have hm4 : m4 = 0 := by omega
    subst hm4
    rw [List.range'_zero, List.foldl_nil] at hx4
    subst hx4
    have H4 := H'.ext hp4
    rcases pick_cases (o := o) (js := js) (rs := rs') (now := now') with ⟨hp, _⟩ | ⟨b, hp, hbl, hb0⟩
    · obtain ⟨_, C2, hm⟩ := C'.skip hg hs (o := o) (by omega)
      obtain ⟨m', rfl⟩ : ∃ m', m3 = m' + 1 := ⟨m3 - 1, by omega⟩
      rw [picks, if_neg (by omega), hp, if_pos (by omega)] at hX hY
      simp -implicitDefEqProofs [hlt4, hlt4', hp, wn]
      exact ⟨m', by omega, on hI3 ⟨now' + 1, rs', E', S, u, by simp, C2, by omega, by omega, by omega, hE', hX, hY, H4⟩⟩
    · obtain ⟨C2, hm, hsum⟩ := C'.take hs hbl hb0
      obtain ⟨m', rfl⟩ : ∃ m', m3 = m' + 1 := ⟨m3 - 1, by omega⟩
      rw [picks, if_neg (by omega), hp, if_neg (by omega), apS_cons, Int.toNat_natCast] at hX
      rw [picks, if_neg (by omega), hp, if_neg (by omega), List.foldl_cons, Int.toNat_natCast] at hY
      have bs := sumL_nn C'.b
      have bx := C'.b _ (gE_mem (l := rs') (i := b) (by omega))
      have wl : IntKind.i64.wrap (sumL rs' - 1) = sumL (rs'.set b (gE rs' b - 1)) := by rw [hsum, wrap_ok] <;> omega
      have wr : IntKind.i64.wrap (gE rs' b - 1) = gE rs' b - 1 := by rw [wrap_ok] <;> omega
      have hb1 : ¬ (b : Int) < 0 := by omega
      have put2 : ∀ {h2 : Hp} {u' : Value} {S' : List Sp}, S'.length + m' ≤ FU → mgS S (b, now') = S' → Holds h h2 [.own (.slice ox js.length js.length) 1 (rs'.map encI), .own (.slice oz js.length js.length) 1 (E'.map encI), .own u' 3 (S'.map encS)] →
          ∃ h3 h4, (indexAddrP P h2 t_S_int (.slice ox js.length js.length) (.int .i64 b) = some (.pointer (some (addP (base (.slice ox js.length js.length)) b))) ∧ loadP P h2 t_int (.pointer (some (addP (base (.slice ox js.length js.length)) b))) = some (.int .i64 (gE rs' b)) ∧
            storeP P h2 t_int (.int .i64 (gE rs' b - 1)) (.pointer (some (addP (base (.slice ox js.length js.length)) b))) = some h3) ∧
            (indexAddrP P h3 t_S_int (.slice oz js.length js.length) (.int .i64 b) = some (.pointer (some (addP (base (.slice oz js.length js.length)) b))) ∧ storeP P h3 t_int (.int .i64 (now' + 1)) (.pointer (some (addP (base (.slice oz js.length js.length)) b))) = some h4) ∧
            I3 m' [(0, .slice oj js.length cj), (2, .int .i64 o), (8, .slice ox js.length js.length), (9, .slice oz js.length js.length), (10, .int .i64 (sumL (rs'.set b (gE rs' b - 1)))), (11, .int .i64 (now' + 1)), (16, u')] h4 := fun {h2 u' S'} hS' hm HH => by
        have lr := load_I (HH.sees 0 rfl) (gE_get (l := rs') (i := b) (by omega))
        obtain ⟨h3, s3, H3, _⟩ := put_I HH 0 rfl (j := b) (by omega) (gE rs' b - 1)
        have ix := (load_I (H3.sees 1 rfl) (gE_get (l := E') (i := b) (by omega))).1
        obtain ⟨h4, s4, H4, _⟩ := put_I H3 1 rfl (j := b) (by omega) (now' + 1)
        exact ⟨h3, h4, ⟨lr.1, lr.2, s3⟩, ⟨ix, s4⟩, on hI3 ⟨now' + 1, _, E'.set b (now' + 1), S', u', rfl, C2, by omega, by omega, hS', by rw [List.length_set]; exact hE', hX, by rw [← hm]; exact hY, H4⟩⟩
      have new : mgS S (b, now') = S ++ [⟨b, now', now' + 1⟩] → ∃ u' h2 h3 h4, appendP P (h'' ++ [some ⟨[.int .i64 b, .int .i64 now', .int .i64 (now' + 1)], 3, false⟩]) t_S_impl_Span u (.slice (some ⟨h''.length, 0, some 3⟩) 1 1) = some (u', h2) ∧
          (indexAddrP P h2 t_S_int (.slice ox js.length js.length) (.int .i64 b) = some (.pointer (some (addP (base (.slice ox js.length js.length)) b))) ∧ loadP P h2 t_int (.pointer (some (addP (base (.slice ox js.length js.length)) b))) = some (.int .i64 (gE rs' b)) ∧
            storeP P h2 t_int (.int .i64 (gE rs' b - 1)) (.pointer (some (addP (base (.slice ox js.length js.length)) b))) = some h3) ∧
          (indexAddrP P h3 t_S_int (.slice oz js.length js.length) (.int .i64 b) = some (.pointer (some (addP (base (.slice oz js.length js.length)) b))) ∧ storeP P h3 t_int (.int .i64 (now' + 1)) (.pointer (some (addP (base (.slice oz js.length js.length)) b))) = some h4) ∧
          I3 m' [(0, .slice oj js.length cj), (2, .int .i64 o), (8, .slice ox js.length js.length), (9, .slice oz js.length js.length), (10, .int .i64 (sumL (rs'.set b (gE rs' b - 1)))), (11, .int .i64 (now' + 1)), (16, u')] h4 := fun hm => by
        obtain ⟨u', h2, ha, H2, _⟩ := push_S0 H4 2 rfl (⟨b, now', now' + 1⟩ : Sp) (by omega)
        obtain ⟨h3, h4, g1, g2, g3⟩ := put2 (by simp; omega) hm H2
        exact ⟨u', h2, h3, h4, ha, g1, g2, g3⟩
      rcases List.eq_nil_or_concat S with rfl | ⟨S1, l, rfl⟩
      · obtain ⟨ua, uc, rfl⟩ : ∃ a c, u = .slice a 0 c := (H'.sees 2 rfl).shapeT
        obtain ⟨u', h2, h3, h4, ha, ⟨i2, l2, s3⟩, ⟨i3, s4⟩, hf⟩ := new mgS_nil
        simp -implicitDefEqProofs [-indexAddrP_some, hlt4, hlt4', hp, hb1, show IntKind.i64.wrap (-1) = -1 by decide, wn, ha, i2, l2, wr, s3, wl, i3, s4]
        exact ⟨m', by omega, hf⟩
      · rw [List.concat_eq_append] at *
        obtain ⟨ua, uc, rfl⟩ : ∃ a c, u = .slice a (S1.length + 1) c := by obtain ⟨a, c, e⟩ := (H'.sees 2 rfl).shapeT; exact ⟨a, c, by rw [e]; simp⟩
        have hS1 : S1.length + 1 + (m' + 1) ≤ FU := by simpa using hSl
        have wS : IntKind.i64.wrap (S1.length : Int) = S1.length := by rw [wrap_ok] <;> omega
        have hS0 : (0 : Int) ≤ S1.length := by omega
        have lS := load_S (H4.sees 2 rfl) (i := S1.length) (x := l) (by simp)
        by_cases c1 : l.j = b
        · have c1' : (l.j == (b : Int)) = true := by simpa using c1
          by_cases c2 : l.b = now'
          · have c2' : (l.b == now') = true := by simpa using c2
            obtain ⟨h2, s2, H2, _⟩ := fput_S2 H4 2 rfl (j := S1.length) (y := l) (by simp) (now' + 1)
            have eset : (S1 ++ [l]).set S1.length { l with b := now' + 1 } = S1 ++ [{ l with b := now' + 1 }] := by rw [List.set_append_right (h := Nat.le_refl _), Nat.sub_self]; rfl
            rw [eset] at H2
            obtain ⟨h3, h4, ⟨i2, l2, s3⟩, ⟨i3, s4⟩, hf⟩ := put2 (S' := S1 ++ [({ l with b := now' + 1 } : Sp)]) (by simp; omega) (mgS_eq c1 c2) H2
            have w2 : IntKind.i64.wrap (l.b + 1) = now' + 1 := by rw [c2]; exact wn
            simp -implicitDefEqProofs [-indexAddrP_some, hlt4, hlt4', hp, hb1, wS, hS0, lS, c1', c2', wn, w2, s2, i2, l2, wr, s3, wl, i3, s4]
            exact ⟨m', by omega, hf⟩
          · obtain ⟨u', h2, h3, h4, ha, ⟨i2, l2, s3⟩, ⟨i3, s4⟩, hf⟩ := new (mgS_ne fun g => c2 g.2)
            simp -implicitDefEqProofs [-indexAddrP_some, hlt4, hlt4', hp, hb1, wS, hS0, lS, c1', nb c2, wn, ha, i2, l2, wr, s3, wl, i3, s4]
            exact ⟨m', by omega, hf⟩
        · obtain ⟨u', h2, h3, h4, ha, ⟨i2, l2, s3⟩, ⟨i3, s4⟩, hf⟩ := new (mgS_ne fun g => c1 g.1)
          simp -implicitDefEqProofs [-indexAddrP_some, hlt4, hlt4', hp, hb1, wS, hS0, lS, nb c1, wn, ha, i2, l2, wr, s3, wl, i3, s4]
          exact ⟨m', by omega, hf⟩
  · have hX2 : X = E' := by
      rw [hX]
      cases m3 with
      | zero => rfl
      | succ k => rw [picks, if_pos (by omega)]; rfl
    subst hX2
    have hY2 : Y = S := by
      rw [hY]
      cases m3 with
      | zero => rfl
      | succ k => rw [picks, if_pos (by omega)]; rfl
    subst hY2
    simp -implicitDefEqProofs [hs]
    refine onK hK ⟨_, _, rfl, pre_gcU H'.pre, Sees.gcU (H'.sees 1 rfl) fun g => ?_, Sees.gcU (H'.sees 2 rfl) fun g => plainT (r := [_]) g⟩
    have g' : (#[u, Value.slice oz js.length js.length] : Array Value).toList.all plainC = true := g
    simp only [List.all_cons, Bool.and_eq_true] at g'
    exact g'.2.1
end
end Go.Pm.PP

/- Loads by numbers, slices' middles, draws written at fields, tuples kept: a collection. -/
set_option linter.unusedVariables false
set_option linter.unusedSimpArgs false
set_option maxRecDepth 4000
set_option maxHeartbeats 16000000
namespace Go.Pm.PP
open Go.Pm Go.Proofs Go.Pm.PE
theorem load_JX {h : Hp} {v : Value} {js : List Job} {x : Int} (hv : Jobs h v js) (hx : 0 ≤ x ∧ x < js.length) :
    indexAddrP P h t_S_impl_Job v (.int .i64 x) = some (.pointer (some (addP (base v) (x.toNat * 4)))) ∧ loadP P h t_impl_Job (.pointer (some (addP (base v) (x.toNat * 4)))) = some (jv (jA js x)) ∧
    loadP P h t_int (.pointer (some (addP (addP (base v) (x.toNat * 4)) 0))) = some (.int .i64 (jA js x).t) ∧
    loadP P h t_int (.pointer (some (addP (addP (base v) (x.toNat * 4)) 1))) = some (.int .i64 (jA js x).w) ∧
    loadP P h t_int (.pointer (some (addP (addP (base v) (x.toNat * 4)) 2))) = some (.int .i64 (jA js x).r) ∧
    loadP P h t_int (.pointer (some (addP (addP (base v) (x.toNat * 4)) 3))) = some (.int .i64 (jA js x).d) := by
  obtain ⟨k, hk, hkl, hy⟩ := jA_get (js := js) rfl hx
  have := load_J hv hy
  rw [← hk] at this
  rw [show x.toNat = k by omega]
  exact this
theorem nil_L {h : Hp} : Ints h (.slice none 0 0) ([] : List Int) := ⟨by simp, none, 0, rfl, .inl ⟨rfl, rfl, rfl⟩⟩
section
variable {h : Hp} {vj ve v u : Value} {js : List Job} {xs es : List Int}
theorem load_EX {x : Int} (E : Ints h ve es) (hx : 0 ≤ x ∧ x < es.length) : indexAddrP P h t_S_int ve (.int .i64 x) = some (.pointer (some (addP (base ve) x.toNat))) ∧ loadP P h t_int (.pointer (some (addP (base ve) x.toNat))) = some (.int .i64 (gE es x.toNat)) := by
  have := load_I E (gE_get (l := es) (i := x.toNat) (by omega))
  rw [show ((x.toNat : Nat) : Int) = x by omega] at this
  exact this
end
theorem plain2T {a b : Value} {r : List Value} (h : plain (.tuple (a :: b :: r).toArray) = true) : plainC b = true := by
  have : ((a :: b :: r).toArray : Array Value).toList.all plainC = true := h
  simp only [List.all_cons, Bool.and_eq_true] at this
  exact this.2.1
theorem gc_JX {h h1 : Hp} {u w : Value} {r : List Value} {js : List Job} {xs : List Int} (hp : h <+: h1) (J : Jobs h1 u js) (X : Ints h1 w xs) : h <+: gc h h1 (.tuple (u :: w :: r).toArray) ∧ Jobs (gc h h1 (.tuple (u :: w :: r).toArray)) u js ∧ Ints (gc h h1 (.tuple (u :: w :: r).toArray)) w xs :=
  ⟨pre_gcU hp, Sees.gcU J fun g => plainT (r := w :: r) g, Sees.gcU X fun g => plain2T (r := r) g⟩
section
variable {h : Hp} {v : Value} {xs : List Int}
end
theorem plS {h : Hp} {v : Value} {sz : Nat} {els : List (List Value)} (s : Sees h v sz els) (g : plain v = true) : plainC v = true := by
  obtain ⟨a, c, e⟩ := s.shape
  subst e; exact g
section
variable {h0 h : Hp} {r n : Nat} {vc : Value} {L T : List Asn}
theorem Cur.putD {u : Value} {js : List Job} (C : Cur h0 h r vc n (L ++ [.own u 4 (js.map encJ)])) {k : Nat} {y : Job} (hy : js[k]? = some y) (z : Int) : ∃ h', storeP P h t_int (.int .i64 z) (.pointer (some (addP (addP (base u) (k * 4)) 3))) = some h' ∧ Cur h0 h' r vc n (L ++ [.own u 4 ((js.set k { y with d := z }).map encJ)]) := by
  obtain ⟨a, s, h1, h2, H⟩ := C
  obtain ⟨h', g1, g2, _⟩ := fput_J3 H (L.length + 1) (by rw [List.getElem?_cons_succ]; exact snoc_get) hy z
  refine ⟨h', g1, a, s, h1, h2, ?_⟩
  rw [List.set_cons_succ, List.set_append_right (h := Nat.le_refl _), Nat.sub_self] at g2
  exact g2
theorem Cur.seesAt {i : Nat} {u : Value} {sz : Nat} {els : List (List Value)} (C : Cur h0 h r vc n (L ++ T)) (hi : L[i]? = some (.own u sz els)) : Sees h u sz els := by
  obtain ⟨a, s, h1, h2, H⟩ := C
  exact H.sees (i + 1) (by rw [List.getElem?_cons_succ, List.getElem?_append_left (List.getElem?_eq_some_iff.1 hi).1]; exact hi)
end
end Go.Pm.PP

/- Split schedules by the program: which they are, their ends and values; the choice by dates; bounds of sets. -/
set_option linter.unusedVariables false
set_option linter.unusedSimpArgs false
set_option maxRecDepth 4000
set_option maxHeartbeats 16000000
namespace Go.Pm.PP
open Go.Pm Go.Proofs Go.Pm.PE
abbrev Spns (h : Hp) (v : Value) (S : List Sp) : Prop := Sees h v 3 (S.map encS)
theorem spGo_false {js : List Job} {now last : Int} {s : Sp} {S : List Sp} (h : spOk js now last s = false) : spGo js now last (s :: S) = false := by rw [spGo, h, Bool.false_and]
theorem spGo_true {js : List Job} {now last : Int} {s : Sp} {S : List Sp} (h : spOk js now last s = true) : spGo js now last (s :: S) = spGo js s.b s.j S := by rw [spGo, h, Bool.true_and]
theorem endOf_take {S : List Sp} {i : Nat} {s : Sp} (hs : S[i]? = some s) : endOf 0 (S.take (i + 1)) = s.b ∧ lastOf (-1) (S.take (i + 1)) = s.j := by
  rw [take_succ' hs, endOf_snoc, lastOf_snoc]; exact ⟨rfl, rfl⟩
theorem spOk_iff {js : List Job} {now last : Int} {s : Sp} : spOk js now last s = true ↔ (0 ≤ s.j ∧ s.j < js.length) ∧ now ≤ s.a ∧ (jA js s.j).r ≤ s.a ∧ s.a < s.b ∧ ¬ (s.j = last ∧ s.a = now) ∧ s.b ≤ 1000 := by
  unfold spOk
  simp only [Bool.and_eq_true, Bool.not_eq_true', decide_eq_true_eq, decide_eq_false_iff_not]
  constructor
  · rintro ⟨⟨⟨⟨⟨a1, a2⟩, a3⟩, a4⟩, a5⟩, a6⟩; exact ⟨a1, by omega, by omega, a4, a5, a6⟩
  · rintro ⟨a1, a2, a3, a4, a5, a6⟩; exact ⟨⟨⟨⟨⟨a1, by omega⟩, by omega⟩, a4⟩, a5⟩, a6⟩
theorem spOk_no {js : List Job} {now last : Int} {s : Sp} (h : ¬ ((0 ≤ s.j ∧ s.j < js.length) ∧ now ≤ s.a ∧ (jA js s.j).r ≤ s.a ∧ s.a < s.b ∧ ¬ (s.j = last ∧ s.a = now) ∧ s.b ≤ 1000)) : spOk js now last s = false := by
  cases g : spOk js now last s
  · rfl
  · exact absurd (spOk_iff.1 g) h
section
variable {h : Hp} {vj v u vs : Value} {js : List Job} {xs : List Int} {S : List Sp}
theorem isSplit_run (J : Jobs h vj js) (X : Spns h vs S) (hg : goodL js = true) (hn : js.length ≤ 8) (hS : S.length ≤ 2 ^ 20) : Ret P G n_impl_isSplit [vj, vs] h (.bool (splB js S)) h := by
  refine enter_run e_impl_isSplit (by simp) ?_
  have Js := J
  have Xs := X
  obtain ⟨oj, cj, rfl⟩ := J.shapeT
  obtain ⟨oa, ca, rfl⟩ := X.shapeT
  obtain ⟨vz, h1, mk, H1, hp1, oz, rfl⟩ := make_I (Holds.start (h := h)) (n := js.length) (by omega)
  simp -implicitDefEqProofs [mk]
  refine R_loopO (fun m s h' => ∃ (i : Nat) (D : List Int), i + m = S.length ∧ s = [(0, .slice oj js.length cj), (1, .slice oa S.length ca), (5, .slice oz js.length js.length), (13, .slice oa S.length ca), (14, .int .i64 S.length), (15, .int .i64 i)] ∧ Holds h h' [.own (.slice oz js.length js.length) 1 (D.map encI)] ∧
    D = doneL js (S.take i) ∧ (∀ x, x ∈ D → 0 ≤ x ∧ x ≤ 1000 * i) ∧ spGo js 0 (-1) S = spGo js (endOf 0 (S.take i)) (lastOf (-1) (S.take i)) (S.drop i) ∧ (0 < i → ∃ p : Sp, S[i - 1]? = some p ∧ endOf 0 (S.take i) = p.b ∧ lastOf (-1) (S.take i) = p.j)) (fun I hI m s h' => ?_) (n := S.length)
    ⟨0, List.replicate js.length 0, Nat.zero_add _, by simp, H1, rfl, fun x hx => by rw [List.eq_of_mem_replicate hx]; omega, by simp [endOf, lastOf], fun g => by omega⟩
  rintro ⟨i, D, hi, rfl, H, hD, hDb, he, hpv⟩
  by_cases hlt : i < S.length
  · have hlt' : (i : Int) < S.length := by omega
    obtain ⟨s, hs, hd⟩ := drop_at hlt
    have ls := load_S (Xs.pre H.pre) hs
    have HB := H.ext (List.prefix_append h' [some (⟨[.int .i64 s.j, .int .i64 s.a, .int .i64 s.b], 0, false⟩ : Row)])
    rw [hd] at he
    have nope : spOk js (endOf 0 (S.take i)) (lastOf (-1) (S.take i)) s = false → splB js S = false := fun g => by unfold splB; rw [he, spGo_false g, Bool.false_and]
    have ex := fun (g : splB js S = false) => g
    have hp9 : h <+: h' ++ [some (⟨[.int .i64 s.j, .int .i64 s.a, .int .i64 s.b], 0, false⟩ : Row)] := HB.pre
    have w8 : w64 ((js.length : Int) - 1) = (js.length : Int) - 1 := by unfold w64; rw [wrap_ok] <;> omega
    by_cases c1 : 0 ≤ s.j ∧ s.j < js.length
    case neg =>
      have b1 : inB s.j 0 (w64 ((js.length : Int) - 1)) = false := by rw [w8]; simp [inB]; omega
      have n1 := nope (spOk_no fun g => c1 g.1)
      simp -implicitDefEqProofs [-indexAddrP_some, hlt, hlt', ls, CL_ret isNumber_run, CH_at isNumber_run, b1, n1]
      try exact gcP hp9 rfl
    have b1 : inB s.j 0 (w64 ((js.length : Int) - 1)) = true := by rw [w8]; simp [inB]; omega
    have lj := load_JX (Js.pre HB.pre) c1
    by_cases c2 : s.a < (jA js s.j).r
    · have n1 := nope (spOk_no fun g => by omega)
      simp -implicitDefEqProofs [-indexAddrP_some, hlt, hlt', ls, CL_ret isNumber_run, CH_at isNumber_run, b1, lj, c2, n1]
      try exact gcP hp9 rfl
    by_cases c3 : s.b ≤ s.a
    · have n1 := nope (spOk_no fun g => by omega)
      simp -implicitDefEqProofs [-indexAddrP_some, hlt, hlt', ls, CL_ret isNumber_run, CH_at isNumber_run, b1, lj, c2, c3, n1]
      try exact gcP hp9 rfl
    by_cases c4 : 1000 < s.b
    · have n1 := nope (spOk_no fun g => by omega)
      simp -implicitDefEqProofs [-indexAddrP_some, hlt, hlt', ls, CL_ret isNumber_run, CH_at isNumber_run, b1, lj, c2, c3, c4, n1]
      try exact gcP hp9 rfl
    have jb := jA_b hg c1
    have fin : spOk js (endOf 0 (S.take i)) (lastOf (-1) (S.take i)) s = true → ∃ h2, storeP P (h' ++ [some (⟨[.int .i64 s.j, .int .i64 s.a, .int .i64 s.b], 0, false⟩ : Row)]) t_int (.int .i64 (gE D s.j.toNat + s.b - s.a)) (.pointer (some (addP (base (.slice oz js.length js.length)) s.j.toNat))) = some h2 ∧
        I (m - 1) [(0, .slice oj js.length cj), (1, .slice oa S.length ca), (5, .slice oz js.length js.length), (13, .slice oa S.length ca), (14, .int .i64 S.length), (15, .int .i64 ((i + 1 : Nat) : Int))] h2 := fun g => by
      have dl : D.length = js.length := by rw [hD, doneL_len]
      obtain ⟨h2, s2, H2, _⟩ := put_I HB 0 rfl (j := s.j.toNat) (by omega) (gE D s.j.toNat + s.b - s.a)
      obtain ⟨q1, q2⟩ := endOf_take hs
      refine ⟨h2, s2, on hI ⟨i + 1, _, by omega, rfl, H2, ?_, fun x hx => ?_, ?_, fun _ => ⟨s, by simpa using hs, q1, q2⟩⟩⟩
      · rw [take_succ' hs, doneL_snoc, ← hD]; rfl
      · have dj := hDb _ (gE_mem (show s.j.toNat < D.length by omega))
        rcases List.mem_or_eq_of_mem_set hx with q | q
        · have := hDb x q; omega
        · omega
      · rw [he, spGo_true g, q1, q2]
    have ld := load_EX (x := s.j) (HB.sees 0 rfl : Ints _ _ D) (by rw [hD, doneL_len]; exact c1)
    have dj := hDb _ (gE_mem (show s.j.toNat < D.length by rw [hD, doneL_len]; omega))
    have w1 : IntKind.i64.wrap (s.b - s.a) = s.b - s.a := by rw [wrap_ok] <;> omega
    have w2 : IntKind.i64.wrap (gE D s.j.toNat + (s.b - s.a)) = gE D s.j.toNat + s.b - s.a := by rw [wrap_ok] <;> omega
    rcases Nat.eq_zero_or_pos i with e0 | e0
    · have i0 : ¬ (0 : Int) < i := by omega
      have i1 : ¬ 0 < i := by omega
      obtain ⟨h2, s2, k2⟩ := fin (spOk_iff.2 ⟨c1, by simp [e0, endOf]; omega, by omega, by omega, by simp [e0, lastOf]; omega, by omega⟩)
      simp -implicitDefEqProofs [-indexAddrP_some, hlt, hlt', ls, CL_ret isNumber_run, CH_at isNumber_run, b1, lj, c2, c3, c4, i0, i1, ld, w1, w2, s2, winc hlt (by omega)]
      exact ⟨m - 1, by omega, by simpa using k2⟩
    · obtain ⟨p, hp, ep1, ep2⟩ := hpv e0
      rw [ep1, ep2] at nope fin
      have lp := load_S ((Xs.pre H.pre).pre (List.prefix_append h' [some (⟨[.int .i64 s.j, .int .i64 s.a, .int .i64 s.b], 0, false⟩ : Row)])) hp
      have wi : IntKind.i64.wrap ((i : Int) - 1) = ((i - 1 : Nat) : Int) := by rw [wrap_ok] <;> omega
      have i0 : (0 : Int) < i := by omega
      by_cases c5 : s.a < p.b
      · have n1 := nope (spOk_no fun g => by omega)
        simp -implicitDefEqProofs [-indexAddrP_some, hlt, hlt', ls, CL_ret isNumber_run, CH_at isNumber_run, b1, lj, c2, c3, c4, i0, e0, wi, lp, c5, n1]
        try exact gcP hp9 rfl
      · by_cases c6 : s.a = p.b
        · have c6' : (s.a == p.b) = true := by rw [beq_iff_eq]; exact c6
          by_cases c7 : s.j = p.j
          · have c7' : (s.j == p.j) = true := by rw [beq_iff_eq]; exact c7
            have n1 := nope (spOk_no fun g => g.2.2.2.2.1 ⟨c7, c6⟩)
            simp -implicitDefEqProofs [-indexAddrP_some, hlt, hlt', ls, CL_ret isNumber_run, CH_at isNumber_run, b1, lj, c2, c3, c4, i0, e0, wi, lp, c5, c6', c7', n1]
            try exact gcP hp9 rfl
          · obtain ⟨h2, s2, k2⟩ := fin (spOk_iff.2 ⟨c1, by omega, by omega, by omega, fun g => c7 g.1, by omega⟩)
            simp -implicitDefEqProofs [-indexAddrP_some, hlt, hlt', ls, CL_ret isNumber_run, CH_at isNumber_run, b1, lj, c2, c3, c4, i0, e0, wi, lp, c5, c6', nb c7, ld, w1, w2, s2, winc hlt (by omega)]
            exact ⟨m - 1, by omega, by simpa using k2⟩
        · obtain ⟨h2, s2, k2⟩ := fin (spOk_iff.2 ⟨c1, by omega, by omega, by omega, fun g => c6 g.2, by omega⟩)
          simp -implicitDefEqProofs [-indexAddrP_some, hlt, hlt', ls, CL_ret isNumber_run, CH_at isNumber_run, b1, lj, c2, c3, c4, i0, e0, wi, lp, c5, nb c6, ld, w1, w2, s2, winc hlt (by omega)]
          exact ⟨m - 1, by omega, by simpa using k2⟩
  have hlt' : ¬ (i : Int) < S.length := by omega
  rw [List.drop_eq_nil_of_le (by omega)] at he
  have he : spGo js 0 (-1) S = true := he
  rw [List.take_of_length_le (by omega)] at hD
  have dl : D.length = js.length := by rw [hD, doneL_len]
  have esp : splB js S = decide (D = js.map (·.t)) := by unfold splB; rw [he, Bool.true_and, hD]
  rw [esp]
  simp -implicitDefEqProofs [hlt, hlt']
  refine R_loopO (fun m s h2 => ∃ (k : Nat), k + m = js.length ∧ s = [(5, .slice oz js.length js.length), (97, .slice oj js.length cj), (98, .int .i64 js.length), (99, .int .i64 k)] ∧ h' <+: h2 ∧ ∀ q, q < k → gE D q = (jA js q).t) (fun I2 hI2 m2 s2 h2 => ?_) (n := js.length) ⟨0, Nat.zero_add _, by simp, List.prefix_rfl, fun q hq => by omega⟩
  rintro ⟨k, hk, rfl, hpk, hq⟩
  by_cases hlk : k < js.length
  · have hlk' : (k : Int) < js.length := by omega
    have lj := load_JX (x := (k : Int)) (Js.pre (H.pre.trans hpk)) ⟨by omega, by omega⟩
    simp only [Int.toNat_natCast] at lj
    have hpb := List.prefix_append h2 [some (⟨[.int .i64 (jA js k).t, .int .i64 (jA js k).w, .int .i64 (jA js k).r, .int .i64 (jA js k).d], 0, false⟩ : Row)]
    have ld := load_I ((H.sees 0 rfl : Ints h' _ D).pre (hpk.trans hpb)) (gE_get (show k < D.length by omega))
    by_cases c : gE D k = (jA js k).t
    · have c' : (gE D k != (jA js k).t) = false := by rw [bne_eq_false_iff_eq]; exact c
      simp -implicitDefEqProofs [-indexAddrP_some, hlk, hlk', lj, ld, c', winc hlk (by omega)]
      refine ⟨m2 - 1, by omega, on hI2 ⟨k + 1, by omega, by simp, hpk.trans hpb, fun q hqk => ?_⟩⟩
      by_cases e : q = k
      · subst e; exact c
      · exact hq q (by omega)
    · have ne : decide (D = js.map (·.t)) = false := by
        rw [decide_eq_false_iff_not]
        intro e
        apply c
        obtain ⟨y, hy, _⟩ := drop_at hlk
        have ey : jA js k = y := by unfold jA; rw [Int.toNat_natCast, hy]; rfl
        rw [e, ey]; unfold gE; rw [List.getElem?_map, hy]; rfl
      have hp8 := (H.pre.trans hpk).trans hpb
      simp -implicitDefEqProofs [-indexAddrP_some, hlk, hlk', lj, ld, nt c, ne]
      try exact gcP hp8 rfl
  · have hlk' : ¬ (k : Int) < js.length := by omega
    have yes : decide (D = js.map (·.t)) = true := by
      rw [decide_eq_true_eq]
      apply List.ext_getElem?
      intro q
      rcases Nat.lt_or_ge q js.length with g | g
      · obtain ⟨y, hy, _⟩ := drop_at g
        have ey : jA js q = y := by unfold jA; rw [Int.toNat_natCast, hy]; rfl
        rw [gE_get (by omega), hq q (by omega), ey, List.getElem?_map, hy]; rfl
      · rw [List.getElem?_eq_none (by omega), List.getElem?_eq_none (by simpa using g)]
    simp -implicitDefEqProofs [hlk, hlk', yes]
    exact gcP (H.pre.trans hpk) rfl
theorem splitEnds_run (J : Jobs h vj js) (X : Spns h vs S) (hn : js.length ≤ 8) (hS : S.length ≤ 2 ^ 20) (hin : ∀ s, s ∈ S → 0 ≤ s.j ∧ s.j < js.length) : RunsC P G n_impl_splitEnds [vj, vs] h fun v h' => h <+: h' ∧ Own h.length h' v 1 ((foldS (List.replicate js.length 0) S).map encI) := by
  refine hideC fun K hK => enter_run e_impl_splitEnds (by simp) ?_
  have Js := J
  have Xs := X
  obtain ⟨oj, cj, rfl⟩ := J.shapeT
  obtain ⟨oa, ca, rfl⟩ := X.shapeT
  obtain ⟨vz, h1, mk, H1, hp1, oz, rfl⟩ := make_I (Holds.start (h := h)) (n := js.length) (by omega)
  have fl : ∀ (T : List Sp) (E : List Int), (foldS E T).length = E.length := fun T => by
    induction T with
    | nil => intro E; rfl
    | cons s T ih => intro E; have := ih (E.set s.j.toNat s.b); rw [List.length_set] at this; exact this
  simp -implicitDefEqProofs [mk]
  refine R_loopO (fun m s h' => ∃ (i : Nat), i + m = S.length ∧ s = [(5, .slice oz js.length js.length), (11, .slice oa S.length ca), (12, .int .i64 S.length), (13, .int .i64 i)] ∧ Holds h h' [.own (.slice oz js.length js.length) 1 ((foldS (List.replicate js.length 0) (S.take i)).map encI)]) (fun I hI m s h' => ?_) (n := S.length)
    ⟨0, Nat.zero_add _, by simp, H1⟩
  rintro ⟨i, hi, rfl, H⟩
  have dl : (foldS (List.replicate js.length 0) (S.take i)).length = js.length := by rw [fl]; simp
  by_cases hlt : i < S.length
  · have hlt' : (i : Int) < S.length := by omega
    obtain ⟨s, hs, hd⟩ := drop_at hlt
    have is := hin s (List.mem_of_getElem? hs)
    have ls := load_S (Xs.pre H.pre) hs
    have HB := H.ext (List.prefix_append h' [some (⟨[.int .i64 s.j, .int .i64 s.a, .int .i64 s.b], 0, false⟩ : Row)])
    have ix := (load_EX (x := s.j) (HB.sees 0 rfl : Ints _ _ _) (by rw [dl]; exact is)).1
    obtain ⟨h2, s2, H2, _⟩ := put_I HB 0 rfl (j := s.j.toNat) (by omega) s.b
    simp -implicitDefEqProofs [-indexAddrP_some, hlt, hlt', ls, ix, s2, winc hlt (by omega)]
    exact ⟨m - 1, by omega, on hI ⟨i + 1, by omega, by simp, by rw [take_succ' hs, foldS_snoc]; exact H2⟩⟩
  · have hlt' : ¬ (i : Int) < S.length := by omega
    rw [List.take_of_length_le (by omega)] at H
    simp -implicitDefEqProofs [hlt, hlt']
    exact onK hK (H.ret 0 rfl)
def spE (js : List Job) (S : List Sp) : List Int := foldS (List.replicate js.length 0) S
def svOk (js : List Job) (S : List Sp) (o : Int) : Bool := (jOk js && splB js S) && inB o 1 8
def svV (js : List Job) (S : List Sp) (o : Int) : Int := if svOk js S o = true then valE o js (spE js S) else 0
theorem spGo_all {js : List Job} : ∀ {S : List Sp} {now last : Int}, spGo js now last S = true → ∀ s, s ∈ S → (0 ≤ s.j ∧ s.j < js.length) ∧ (jA js s.j).r ≤ s.a ∧ s.a < s.b ∧ s.b ≤ 1000
  | [], _, _, _, s, hs => by cases hs
  | x :: S, now, last, h, s, hs => by
    rw [spGo, Bool.and_eq_true] at h
    rcases List.mem_cons.1 hs with rfl | hs
    · have := spOk_iff.1 h.1
      exact ⟨this.1, this.2.2.1, this.2.2.2.1, this.2.2.2.2.2⟩
    · exact spGo_all h.2 s hs
theorem spl_all {js : List Job} {S : List Sp} (h : splB js S = true) : ∀ s, s ∈ S → (0 ≤ s.j ∧ s.j < js.length) ∧ (jA js s.j).r ≤ s.a ∧ s.a < s.b ∧ s.b ≤ 1000 := by
  unfold splB at h
  rw [Bool.and_eq_true] at h
  exact spGo_all h.1
theorem spE_bd {js : List Job} {S : List Sp} (hg : goodL js = true) (h : splB js S = true) : ∀ e, e ∈ spE js S → 0 ≤ e ∧ e ≤ 2 ^ 20 := by
  have go : ∀ (T : List Sp) (E : List Int), (∀ s, s ∈ T → 0 ≤ s.b ∧ s.b ≤ 1000) → (∀ e, e ∈ E → 0 ≤ e ∧ e ≤ 2 ^ 20) → ∀ e, e ∈ foldS E T → 0 ≤ e ∧ e ≤ 2 ^ 20 := fun T => by
    induction T with
    | nil => intro E _ hE e he; exact hE e he
    | cons s T ih =>
      intro E hT hE e he
      refine ih (E.set s.j.toNat s.b) (fun t ht => hT t (List.mem_cons_of_mem _ ht)) (fun e he => ?_) e he
      have := hT s (List.mem_cons_self ..)
      rcases List.mem_or_eq_of_mem_set he with g | g
      · exact hE e g
      · omega
  refine go S _ (fun s hs => ?_) fun e he => by rw [List.eq_of_mem_replicate he]; omega
  obtain ⟨a, b, c, d⟩ := spl_all h s hs
  have := jA_b hg a
  omega
theorem spE_len {js : List Job} {S : List Sp} : (spE js S).length = js.length := by
  have fl : ∀ (T : List Sp) (E : List Int), (foldS E T).length = E.length := fun T => by
    induction T with
    | nil => intro E; rfl
    | cons s T ih => intro E; have := ih (E.set s.j.toNat s.b); rw [List.length_set] at this; exact this
  unfold spE; rw [fl]; simp
theorem implSplitValue_run {o : Int} (J : Jobs h vj js) (X : Spns h vs S) (hl : js.length ≤ 2 ^ 40) (hS : S.length ≤ 2 ^ 20) : Ret P G n_impl_SplitValue [vj, vs, .int .i64 o] h (.tuple #[.int .i64 (svV js S o), .bool (svOk js S o)]) h := by
  refine enter_run e_impl_SplitValue (by simp) ?_
  have Js := J
  have Xs := X
  obtain ⟨oj, cj, rfl⟩ := J.shapeT
  obtain ⟨oa, ca, rfl⟩ := X.shapeT
  have r1 := isJobs_run Js hl
  cases c1 : jOk js
  · rw [c1] at r1
    simp -implicitDefEqProofs [CL_ret r1, svV, svOk, c1]
  rw [c1] at r1
  obtain ⟨hn, hg⟩ := jOk_of c1
  have r2 := isSplit_run Js Xs hg hn hS
  cases c2 : splB js S
  · rw [c2] at r2
    simp -implicitDefEqProofs [CL_ret r1, CL_ret r2, svV, svOk, c1, c2]
  rw [c2] at r2
  cases c3 : inB o 1 8
  · simp -implicitDefEqProofs [CL_ret r1, CL_ret r2, CL_ret isObjective_run, svV, svOk, c1, c2, c3]
  simp -implicitDefEqProofs [CL_ret r1, CL_ret r2, CL_ret isObjective_run, svV, svOk, c1, c2, c3]
  refine CL_post (splitEnds_run Js Xs hn hS fun s hs => (spl_all c2 s hs).1) fun w h1 ⟨hp1, o1⟩ => ?_
  have r4 := valueOfEnds_run (o := o) (Js.pre hp1) (o1.sees : Ints h1 w (spE js S)) hg hn spE_len (spE_bd hg c2) (inB_of c3)
  obtain ⟨wa, wn, wc, rfl⟩ : ∃ a n c, w = .slice a n c := by obtain ⟨a, c, e⟩ := o1.sees.shape; exact ⟨_, _, _, e⟩
  simp -implicitDefEqProofs [CL_ret r4]
  exact ⟨rfl, gcP hp1 rfl⟩
def edL (js : List Job) : List Sp := if jOk js = true then spanL 4 js 0 (restL js []) else []
theorem implByEarliestDate_run (J : Jobs h vj js) (hl : js.length ≤ 2 ^ 40) : RunsC P G n_impl_ByEarliestDate [vj] h fun w h' => h <+: h' ∧ ∃ d, w = .tuple #[d, .bool (jOk js)] ∧ Spns h' d (edL js) := by
  refine hideC fun K hK => enter_run e_impl_ByEarliestDate (by simp) ?_
  have Js := J
  obtain ⟨oj, cj, rfl⟩ := J.shapeT
  have r1 := isJobs_run Js hl
  cases c1 : jOk js
  · rw [c1] at r1
    rw [edL, c1] at hK
    simp -implicitDefEqProofs [CL_ret r1]
    exact onK hK ⟨List.prefix_rfl, _, rfl, by simp, none, 0, rfl, .inl ⟨rfl, rfl, rfl⟩⟩
  rw [c1] at r1
  rw [edL, c1, if_pos rfl] at hK
  obtain ⟨hn, hg⟩ := jOk_of c1
  simp -implicitDefEqProofs [CL_ret r1]
  refine CL_post (choose_run Js nil_L hg hn (by simp) (fun x hx => by cases hx) (.inr rfl)) fun w h1 ⟨u, z, ew, hp1, Sz, Su⟩ => ?_
  subst ew
  have Su : Spns h1 u (spanL 4 js 0 (restL js [])) := Su
  obtain ⟨ua, un, uc, rfl⟩ : ∃ a n c, u = .slice a n c := by obtain ⟨a, c, e⟩ := Su.shape; exact ⟨_, _, _, e⟩
  simp -implicitDefEqProofs
  exact onK hK ⟨pre_gcU hp1, _, rfl, Sees.gcU Su fun g => plainT (r := [_]) g⟩
end
end Go.Pm.PP

/- Draws of jobs with releases and dates close together. -/
set_option linter.unusedVariables false
set_option linter.unusedSimpArgs false
set_option maxRecDepth 4000
set_option maxHeartbeats 16000000
namespace Go.Pm.PP
open Go.Pm Go.Proofs Go.Pm.PE
section
variable {h0 h : Hp} {r n : Nat} {vc : Value} {L : List Asn}
theorem Cur.putT {u : Value} {js : List Job} (C : Cur h0 h r vc n (L ++ [.own u 4 (js.map encJ)])) {k : Nat} {y : Job} (hy : js[k]? = some y) (z : Int) : ∃ h', storeP P h t_int (.int .i64 z) (.pointer (some (addP (addP (base u) (k * 4)) 0))) = some h' ∧ Cur h0 h' r vc n (L ++ [.own u 4 ((js.set k { y with t := z }).map encJ)]) := by
  obtain ⟨a, s, h1, h2, H⟩ := C
  obtain ⟨h', g1, g2, _⟩ := fput_J0 H (L.length + 1) (by rw [List.getElem?_cons_succ]; exact snoc_get) hy z
  refine ⟨h', g1, a, s, h1, h2, ?_⟩
  rw [List.set_cons_succ, List.set_append_right (h := Nat.le_refl _), Nat.sub_self] at g2
  exact g2
theorem Cur.putR {u : Value} {js : List Job} (C : Cur h0 h r vc n (L ++ [.own u 4 (js.map encJ)])) {k : Nat} {y : Job} (hy : js[k]? = some y) (z : Int) : ∃ h', storeP P h t_int (.int .i64 z) (.pointer (some (addP (addP (base u) (k * 4)) 2))) = some h' ∧ Cur h0 h' r vc n (L ++ [.own u 4 ((js.set k { y with r := z }).map encJ)]) := by
  obtain ⟨a, s, h1, h2, H⟩ := C
  obtain ⟨h', g1, g2, _⟩ := fput_J2 H (L.length + 1) (by rw [List.getElem?_cons_succ]; exact snoc_get) hy z
  refine ⟨h', g1, a, s, h1, h2, ?_⟩
  rw [List.set_cons_succ, List.set_append_right (h := Nat.le_refl _), Nat.sub_self] at g2
  exact g2
theorem some5_run (B : By h0 vc) (C : Cur h0 h r vc n L) (hn : n ≤ 2 ^ 17) : RunsC P G n_spec_l1Cur_some5 [.pointer (some ⟨r, 0, some 3⟩)] h fun v h' => ∃ js : List Job, js.length ≤ 9 ∧ Cur h0 h' r vc (n + 400) (L ++ [.own v 4 (js.map encJ)]) := by
  refine hideC fun K hK => enter_run e_spec_l1Cur_some5 (by simp) ?_
  simp -implicitDefEqProofs
  refine CL_post (someJobs_run B C (by omega) (b := true) (most := 6) (by omega)) fun u h1 ⟨js0, hl0, C1⟩ => ?_
  simp -implicitDefEqProofs
  refine R_loopO (fun m st h' => ∃ (i : Nat) (js : List Job), i + m = js.length ∧ js.length ≤ 9 ∧ st = [(0, .pointer (some ⟨r, 0, some 3⟩)), (3, u), (4, .int .i64 i)] ∧ Cur h0 h' r vc (n + 200 + 8 * i) (L ++ [.own u 4 (js.map encJ)])) (fun I hI m st h' => ?_) (n := js0.length) ⟨0, js0, by omega, hl0, by simp, C1.mono (by omega)⟩
  rintro ⟨i, js, hi, hl, rfl, C2⟩
  obtain ⟨ua, uc, rfl⟩ : ∃ a c, u = .slice a js.length c := C2.seesJ.shapeT
  by_cases hlt : i < js.length
  case' pos =>
    have hlt' : (i : Int) < js.length := by omega
    simp -implicitDefEqProofs [hlt, hlt']
    refine CL_post (one_run B C2 (by omega) (k := 6) (by omega)) fun v h3 ⟨b, ev, C3'⟩ => ?_
    subst ev
    cases b
    case' true =>
      have C3 : Cur h0 h3 r vc (n + 300) (L ++ [.own (.slice ua js.length uc) 4 (js.map encJ)]) := C3'.mono (by omega)
      simp -implicitDefEqProofs
    case' false =>
      obtain ⟨y, hy, _⟩ := drop_at hlt
      simp -implicitDefEqProofs
      refine CL_post (pick_run B C3' (by omega) (k := 14) (by omega)) fun v h4 ⟨x1, ev, _, _, _, C4⟩ => ?_
      subst ev
      have ix4 := (load_J C4.seesJ hy).1
      obtain ⟨h5, s5, C5⟩ := C4.putR hy x1
      have hy5 : (js.set i { y with r := x1 })[i]? = some { y with r := x1 } := by rw [List.getElem?_set_self hlt]
      simp -implicitDefEqProofs [-indexAddrP_some, ix4, s5]
      refine CL_post (pick_run B C5 (by omega) (k := 30) (by omega)) fun v h6 ⟨x2, ev, _, _, _, C6⟩ => ?_
      subst ev
      have ix6 := (load_J C6.seesJ hy5).1
      obtain ⟨h7, s7, C7⟩ := C6.putD hy5 x2
      have hy7 : ((js.set i { y with r := x1 }).set i { y with r := x1, d := x2 })[i]? = some { y with r := x1, d := x2 } := by rw [List.getElem?_set_self (by rw [List.length_set]; exact hlt)]
      simp -implicitDefEqProofs [-indexAddrP_some, ix6, s7]
      refine CL_post (pick_run B C7 (by omega) (k := 7) (by omega)) fun v h8 ⟨x3, ev, a3, b3, _, C8⟩ => ?_
      subst ev
      have ix8 := (load_J C8.seesJ hy7).1
      have w8 : IntKind.i64.wrap (1 + x3) = 1 + x3 := by rw [wrap_ok] <;> omega
      obtain ⟨h9, s9, C9⟩ := C8.putT hy7 (1 + x3)
      simp -implicitDefEqProofs [-indexAddrP_some, ix8, w8, s9, winc hlt (by omega)]
      exact ⟨m - 1, by omega, on hI ⟨i + 1, _, by simp only [List.length_set]; omega, by simp only [List.length_set]; omega, by simp, C9.mono (by omega)⟩⟩
  case' neg =>
    have hlt' : ¬ (i : Int) < js.length := by omega
    obtain ⟨h3, hh⟩ : ∃ h3, h3 = h' := ⟨_, rfl⟩
    have C3 : Cur h0 h3 r vc (n + 300) (L ++ [.own (.slice ua js.length uc) 4 (js.map encJ)]) := by rw [hh]; exact C2.mono (by omega)
    simp -implicitDefEqProofs [hlt, hlt']
    rw [← hh]
    clear hh
  all_goals
    by_cases c3 : 0 < js.length
    case neg =>
      have c3' : ¬ (0 : Int) < js.length := by omega
      simp -implicitDefEqProofs [c3, c3']
      exact onK hK ⟨js, hl, C.gcO (C3.mono (by omega)) fun h => h⟩
    case pos =>
      have c3' : (0 : Int) < js.length := by omega
      simp -implicitDefEqProofs [c3, c3']
      refine CL_post (one_run B C3 (by omega) (k := 40) (by omega)) fun v h4 ⟨b3, ev, C4⟩ => ?_
      subst ev
      cases b3
      case false =>
        simp -implicitDefEqProofs
        exact onK hK ⟨js, hl, C.gcO (C4.mono (by omega)) fun h => h⟩
      case true =>
        obtain ⟨y, hy, _⟩ := drop_at c3
        have ly := load_J C4.seesJ hy
        simp only [Nat.zero_mul, Int.natCast_zero] at ly
        simp -implicitDefEqProofs [-indexAddrP_some, ly]
        refine CL_post (spoiltJob_run B C4 (by omega) (j := y)) fun v h6 ⟨j', ev, C6⟩ => ?_
        subst ev
        have ix := (load_J C6.seesJ hy).1
        obtain ⟨h7, s7, C7⟩ := C6.putJ c3 j'
        simp only [Nat.zero_mul, Int.natCast_zero] at ix s7
        simp -implicitDefEqProofs [-indexAddrP_some, ix, s7]
        exact onK hK ⟨js.set 0 j', by rw [List.length_set]; exact hl, C.gcO (C7.mono (by omega)) fun h => h⟩
end
end Go.Pm.PP

/- The greatest lateness of the choice by dates is the greatest bound of a set, and bounds all orders, in plain terms. -/
set_option linter.unusedVariables false
set_option linter.unusedSimpArgs false
namespace Go.Pm.PP
open Go.Pm Go.Pm.PE
def rsF (rs : List Int) (x : Int) : Int := gE rs x.toNat
/-! ### picks -/
theorem pick_best {js : List Job} {rs : List Int} {now : Int} : ∀ {m i : Nat} {b : Int}, i + m = js.length → (b = -1 ∨ 0 ≤ b) → ∀ c : Nat, (List.range' i m).foldl (pickF 4 js rs now) b = c →
    (0 ≤ b → (jA js c).d ≤ (jA js b).d) ∧ ∀ k, i ≤ k → k < js.length → gE rs k ≠ 0 → (jA js k).r ≤ now → (jA js c).d ≤ (jA js k).d
  | 0, i, b, h, hb, c, hc => by
    have e : b = c := hc
    refine ⟨fun _ => by rw [e]; exact Int.le_refl _, fun k h1 h2 => by omega⟩
  | m + 1, i, b, h, hb, c, hc => by
    rw [List.range'_succ, List.foldl_cons] at hc
    by_cases c1 : gE rs i = 0 ∨ now < (jA js i).r
    · have e : pickF 4 js rs now b i = b := by unfold pickF; rw [if_pos c1]
      rw [e] at hc
      obtain ⟨g1, g2⟩ := pick_best (m := m) (i := i + 1) (by omega) hb c hc
      refine ⟨g1, fun k h1 h2 h3 h4 => ?_⟩
      by_cases e : k = i
      · subst e; rcases c1 with c1 | c1
        · exact absurd c1 h3
        · omega
      · exact g2 k (by omega) h2 h3 h4
    · by_cases c2 : b < 0 ∨ betB 4 js rs i b.toNat = true
      · have e : pickF 4 js rs now b i = i := by unfold pickF; rw [if_neg c1, if_pos c2]
        rw [e] at hc
        obtain ⟨g1, g2⟩ := pick_best (m := m) (i := i + 1) (by omega) (.inr (by omega)) c hc
        have g1 := g1 (by omega)
        refine ⟨fun h0 => ?_, fun k h1 h2 h3 h4 => ?_⟩
        · rcases c2 with c2 | c2
          · omega
          · unfold betB at c2
            rw [if_neg (by omega), decide_eq_true_eq, show ((b.toNat : Nat) : Int) = b by omega] at c2
            omega
        · by_cases e : k = i
          · subst e; exact g1
          · exact g2 k (by omega) h2 h3 h4
      · have e : pickF 4 js rs now b i = b := by unfold pickF; rw [if_neg c1, if_neg c2]
        rw [e] at hc
        have b0 : 0 ≤ b := by rcases hb with rfl | hb; exact absurd (.inl (by omega)) c2; exact hb
        obtain ⟨g1, g2⟩ := pick_best (m := m) (i := i + 1) (by omega) hb c hc
        have g1' := g1 b0
        refine ⟨g1, fun k h1 h2 h3 h4 => ?_⟩
        by_cases e : k = i
        · subst e
          have c3 : ¬ betB 4 js rs k b.toNat = true := fun g => c2 (.inr g)
          unfold betB at c3
          rw [if_neg (by omega), decide_eq_true_eq, show ((b.toNat : Nat) : Int) = b by omega] at c3
          omega
        · exact g2 k (by omega) h2 h3 h4
theorem pick_due {js : List Job} {rs : List Int} {now : Int} {b : Nat} (h : pickL 4 js rs now = b) : ∀ k, k < js.length → gE rs k ≠ 0 → (jA js k).r ≤ now → (jA js b).d ≤ (jA js k).d := fun k h2 h3 h4 =>
  (pick_best (m := js.length) (i := 0) (b := -1) (by omega) (.inl rfl) b h).2 k (Nat.zero_le _) h2 h3 h4
theorem picks_done {o : Int} {js : List Job} {k : Nat} : ∀ {m : Nat} {now : Int} {rs E : List Int}, rs.length = js.length → E.length = js.length → gE rs k = 0 → gE (apS E (picks o js m now rs)) k = gE E k
  | 0, now, rs, E, _, _, h => rfl
  | m + 1, now, rs, E, hl, hE, h => by
    rw [picks]
    split
    · rfl
    · rcases pick_cases (o := o) (js := js) (rs := rs) (now := now) with ⟨hp, _⟩ | ⟨b, hp, hb, hb0⟩
      · rw [hp, if_pos (by omega)]; exact picks_done hl hE h
      · have hne : k ≠ b := fun e => hb0 (e ▸ h)
        rw [hp, if_neg (by omega), Int.toNat_natCast, apS_cons, Int.toNat_natCast, picks_done (by rw [List.length_set]; exact hl) (by rw [List.length_set]; exact hE) (by rw [gE_set (by omega), if_neg hne]; exact h), gE_set (by omega), if_neg hne]
theorem tsm_same {t u : Int → Int} {S : List Int} (h : ∀ x, x ∈ S → t x = u x) : tsm t S = tsm u S := by unfold tsm; rw [List.map_congr_left h]
theorem tsm_erase {t : Int → Int} {S : List Int} {x : Int} (h : x ∈ S) : tsm t S = t x + tsm t (S.erase x) := by rw [tsm_perm (List.perm_cons_erase h), tsm_cons]
/-- The rests of a set behind one step. -/
theorem rs_step {js : List Job} {rs S : List Int} {b : Nat} (hl : rs.length = js.length) (hb : b < js.length) (hin : inN js.length S) (hnd : S.Nodup) :
    tsm (rsF (rs.set b (gE rs b - 1))) S = tsm (rsF rs) S - (if (b : Int) ∈ S then 1 else 0) := by
  have ne : ∀ x, x ∈ S → x ≠ (b : Int) → rsF (rs.set b (gE rs b - 1)) x = rsF rs x := fun x hx hne => by
    have := hin x hx
    unfold rsF; rw [gE_set (by omega), if_neg (by omega)]
  split
  · rename_i h
    have h2 := hnd.erase (b : Int)
    rw [tsm_erase h, tsm_erase (t := rsF rs) h, tsm_same (u := rsF rs) fun x hx => ne x (List.mem_of_mem_erase hx) fun e => ?_]
    · unfold rsF; rw [Int.toNat_natCast, gE_set (by omega), if_pos rfl]; omega
    · exact (List.Nodup.mem_erase_iff hnd).1 hx |>.1 e
  · rename_i h
    rw [tsm_same (u := rsF rs) fun x hx => ne x hx fun e => h (e ▸ hx)]; omega
/-- Each end is told by a set. -/
theorem edd_upper {js : List Job} (hg : goodL js = true) : ∀ {m : Nat} {now : Int} {rs E : List Int}, Ch js rs now m → E.length = js.length → ∀ k, k < js.length → 0 < gE rs k →
    ∃ (S : List Int) (ρ : Int), S.Nodup ∧ S ≠ [] ∧ (∀ x, x ∈ S → (0 ≤ x ∧ x < js.length) ∧ 0 < rsF rs x ∧ (jA js x).d ≤ (jA js k).d ∧ (ρ ≤ now ∨ ρ ≤ (jA js x).r)) ∧ gE (apS E (picks 4 js m now rs)) k ≤ ρ + tsm (rsF rs) S := by
  intro m
  induction m with
  | zero =>
    intro now rs E C hE k hk hk0
    have := C.m
    have h3 := sumL_set (l := rs) (i := k) (y := gE rs k - 1) (by rw [C.l]; exact hk)
    have h4 := sumL_nn (l := rs.set k (gE rs k - 1)) (fun x hx => by
      have hb := C.b _ (gE_mem (show k < rs.length by rw [C.l]; exact hk))
      rcases List.mem_or_eq_of_mem_set hx with q | q
      · exact C.b x q
      · omega)
    omega
  | succ m ih =>
    intro now rs E C hE k hk hk0
    have hl := C.l
    have hs : 0 < sumL rs := by
      have h3 := sumL_set (l := rs) (i := k) (y := gE rs k - 1) (by rw [C.l]; exact hk)
      have h4 := sumL_nn (l := rs.set k (gE rs k - 1)) (fun x hx => by
        have hb := C.b _ (gE_mem (show k < rs.length by rw [C.l]; exact hk))
        rcases List.mem_or_eq_of_mem_set hx with q | q
        · exact C.b x q
        · omega)
      omega
    rw [picks, if_neg (by omega)]
    rcases pick_cases (o := 4) (js := js) (rs := rs) (now := now) with ⟨hp, hfree⟩ | ⟨b, hp, hb, hb0⟩
    · obtain ⟨_, C2, _⟩ := C.skip hg hs (o := 4) (by omega)
      rw [hp, if_pos (by omega)]
      obtain ⟨S, ρ, h1, h2, h3, h4⟩ := ih (E := E) C2 hE k hk hk0
      refine ⟨S, ρ, h1, h2, fun x hx => ?_, h4⟩
      obtain ⟨a1, a2, a3, a4⟩ := h3 x hx
      refine ⟨a1, a2, a3, .inr ?_⟩
      have a5 := hfree x.toNat (by omega)
      rw [show ((x.toNat : Nat) : Int) = x by omega] at a5
      rcases a5 with a5 | a5
      · unfold rsF at a2; omega
      · omega
    · obtain ⟨C2, _, hsum⟩ := C.take hs hb hb0
      have bb := C.b _ (gE_mem (show b < rs.length by rw [hl]; exact hb))
      have br := pick_r hp
      have bd := pick_due hp
      rw [hp, if_neg (by omega), Int.toNat_natCast, apS_cons, Int.toNat_natCast]
      dsimp only
      have hE2 : (E.set b (now + 1)).length = js.length := by rw [List.length_set]; exact hE
      have hset : ∀ i, gE (rs.set b (gE rs b - 1)) i = if i = b then gE rs b - 1 else gE rs i := fun i => gE_set (by omega)
      by_cases ck : 0 < gE (rs.set b (gE rs b - 1)) k
      · obtain ⟨S, ρ, h1, h2, h3, h4⟩ := ih (E := E.set b (now + 1)) C2 hE2 k hk ck
        have hin : inN js.length S := fun x hx => (h3 x hx).1
        rw [rs_step hl hb hin h1] at h4
        have up : ∀ x, x ∈ S → 0 < rsF rs x := fun x hx => by
          have h5 := (h3 x hx).2.1
          unfold rsF at h5 ⊢
          rw [hset] at h5
          split at h5
          · rename_i e; rw [e]; omega
          · exact h5
        by_cases cd : (jA js b).d ≤ (jA js k).d
        · by_cases cr : ρ ≤ now + 1
          · by_cases cb : (b : Int) ∈ S
            · rw [if_pos cb] at h4
              exact ⟨S, now, h1, h2, fun x hx => ⟨(h3 x hx).1, up x hx, (h3 x hx).2.2.1, .inl (Int.le_refl _)⟩, by omega⟩
            · rw [if_neg cb] at h4
              refine ⟨(b : Int) :: S, now, List.nodup_cons.2 ⟨cb, h1⟩, by simp, fun x hx => ?_, ?_⟩
              · rcases List.mem_cons.1 hx with rfl | hx
                · exact ⟨⟨by omega, by omega⟩, by unfold rsF; rw [Int.toNat_natCast]; omega, cd, .inl (Int.le_refl _)⟩
                · exact ⟨(h3 x hx).1, up x hx, (h3 x hx).2.2.1, .inl (Int.le_refl _)⟩
              · rw [tsm_cons]
                have : rsF rs (b : Int) = gE rs b := by unfold rsF; rw [Int.toNat_natCast]
                omega
          · have hr : ∀ x, x ∈ S → ρ ≤ (jA js x).r := fun x hx => by
              rcases (h3 x hx).2.2.2 with g | g
              · omega
              · exact g
            have cb : ¬ (b : Int) ∈ S := fun g => by have := hr _ g; omega
            rw [if_neg cb] at h4
            exact ⟨S, ρ, h1, h2, fun x hx => ⟨(h3 x hx).1, up x hx, (h3 x hx).2.2.1, .inr (hr x hx)⟩, by omega⟩
        · have cb : ¬ (b : Int) ∈ S := fun g => by have := (h3 _ g).2.2.1; omega
          rw [if_neg cb] at h4
          refine ⟨S, ρ, h1, h2, fun x hx => ⟨(h3 x hx).1, up x hx, (h3 x hx).2.2.1, .inr ?_⟩, by omega⟩
          obtain ⟨a1, a2, a3, a4⟩ := h3 x hx
          have a5 := up x hx
          have : now < (jA js x).r := by
            by_cases q : now < (jA js x).r
            · exact q
            · have := bd x.toNat (by omega) (by unfold rsF at a5; omega) (by rw [show ((x.toNat : Nat) : Int) = x by omega]; omega)
              rw [show ((x.toNat : Nat) : Int) = x by omega] at this
              omega
          omega
      · have ekb : k = b := by
          rw [hset] at ck
          by_cases e : k = b
          · exact e
          · rw [if_neg e] at ck; exact absurd hk0 ck
        subst ekb
        rw [hset, if_pos rfl] at ck
        have e0 : gE (rs.set k (gE rs k - 1)) k = 0 := by rw [hset, if_pos rfl]; omega
        rw [picks_done C2.l hE2 e0, gE_set (by omega), if_pos rfl]
        refine ⟨[(k : Int)], now, by simp, by simp, fun x hx => ?_, ?_⟩
        · rw [List.mem_singleton.1 hx]
          exact ⟨⟨by omega, by omega⟩, by unfold rsF; rw [Int.toNat_natCast]; omega, Int.le_refl _, .inl (Int.le_refl _)⟩
        · rw [tsm_cons]
          have : rsF rs (k : Int) = gE rs k := by unfold rsF; rw [Int.toNat_natCast]
          have : tsm (rsF rs) [] = 0 := rfl
          omega
/-! ### the greatest lateness of a list of ends -/
theorem valGo4_le {js : List Job} : ∀ {es : List Int} {a : Int}, js.length = es.length → a ≤ valGo 4 false a js es ∧ (∀ i, i < js.length → gE es i - ((js[i]?).getD ⟨0, 0, 0, 0⟩).d ≤ valGo 4 false a js es) ∧ (valGo 4 false a js es = a ∨ ∃ i, i < js.length ∧ valGo 4 false a js es = gE es i - ((js[i]?).getD ⟨0, 0, 0, 0⟩).d) := by
  induction js with
  | nil => intro es a h; cases es with
    | nil => exact ⟨Int.le_refl _, fun i hi => by simp at hi, .inl rfl⟩
    | cons e es => simp at h
  | cons j js ih =>
    intro es a h
    cases es with
    | nil => simp at h
    | cons e es =>
      obtain ⟨h1, h2, h3⟩ := @ih es (max a (e - j.d)) (by simpa using h)
      have ev : valGo 4 false a (j :: js) (e :: es) = valGo 4 false (max a (e - j.d)) js es := by rw [valGo]; simp [stepV]
      rw [ev]
      refine ⟨by omega, fun i hi => ?_, ?_⟩
      · cases i with
        | zero => simp [gE]; omega
        | succ i => simpa [gE] using h2 i (by simpa using hi)
      · rcases h3 with h3 | ⟨i, hi, h3⟩
        · rw [h3]
          by_cases c : a ≤ e - j.d
          · right; exact ⟨0, by simp, by simp [gE]; omega⟩
          · left; omega
        · right; exact ⟨i + 1, by simpa using hi, by simpa [gE] using h3⟩
theorem val4_facts {js : List Job} {es : List Int} (h : es.length = js.length) (h0 : js ≠ []) : (∀ i, i < js.length → gE es i - (jA js i).d ≤ valE 4 js es) ∧ ∃ i, i < js.length ∧ valE 4 js es = gE es i - (jA js i).d := by
  have ej : ∀ i : Nat, jA js i = (js[i]?).getD ⟨0, 0, 0, 0⟩ := fun i => by unfold jA; rw [Int.toNat_natCast]
  cases js with
  | nil => exact absurd rfl h0
  | cons j js =>
    cases es with
    | nil => simp at h
    | cons e es =>
      obtain ⟨h1, h2, h3⟩ := @valGo4_le js es (e - j.d) (by simpa using h.symm)
      have ev : valE 4 (j :: js) (e :: es) = valGo 4 false (e - j.d) js es := by unfold valE; rw [valGo]; simp [stepV]
      rw [ev]
      refine ⟨fun i hi => ?_, ?_⟩
      · rw [ej]
        cases i with
        | zero => simpa [gE] using h1
        | succ i => simpa [gE] using h2 i (by simpa using hi)
      · rcases h3 with h3 | ⟨i, hi, h3⟩
        · exact ⟨0, by simp, by rw [h3, ej]; simp [gE]⟩
        · exact ⟨i + 1, by simpa using hi, by rw [h3, ej]; simp [gE]⟩
/-! ### bounds of sets -/
/-- S: a set with a release and a date that bound it. -/
structure Bset (js : List Job) (S : List Int) (ρ δ : Int) : Prop where
  nd : S.Nodup
  ne : S ≠ []
  inn : inN js.length S
  r : ∀ x, x ∈ S → ρ ≤ (jA js x).r
  d : ∀ x, x ∈ S → (jA js x).d ≤ δ
theorem rest_tsm {js : List Job} {S : List Int} (hin : inN js.length S) : tsm (rsF (restL js [])) S = tsm (fun x => (jA js x).t) S := tsm_same fun x hx => by
  have := hin x hx
  unfold rsF; rw [restL_gE (by omega), show ((x.toNat : Nat) : Int) = x by omega]
/-- Some set's bound is the greatest lateness of the choice by dates. -/
theorem bd_some {js : List Job} (hg : goodL js = true) (hn : js.length ≤ 8) (h0 : js ≠ []) : ∃ S ρ δ, Bset js S ρ δ ∧ 0 ≤ ρ ∧ valE 4 js (bdE 4 js []) ≤ ρ + tsm (fun x => (jA js x).t) S - δ := by
  obtain ⟨k, hk, e⟩ := (val4_facts (js := js) (es := bdE 4 js []) (by unfold bdE; rw [apS_len, endsL_len]) h0).2
  have kb := jA_bd hg hk
  obtain ⟨S, ρ, h1, h2, h3, h4⟩ := edd_upper hg (nil_ch hg hn) (E := List.replicate js.length 0) (by simp) k hk (by rw [restL_gE hk]; omega)
  have hin : inN js.length S := fun x hx => (h3 x hx).1
  rw [rest_tsm hin] at h4
  have rr : ∀ x, x ∈ S → 0 ≤ (jA js x).r := fun x hx => by
    have := jA_b hg (hin x hx); omega
  have eE : bdE 4 js [] = apS (List.replicate js.length 0) (picks 4 js FU 0 (restL js [])) := rfl
  rw [eE] at e ⊢
  by_cases c : ρ ≤ 0
  · exact ⟨S, 0, (jA js k).d, ⟨h1, h2, hin, rr, fun x hx => (h3 x hx).2.2.1⟩, Int.le_refl _, by omega⟩
  · exact ⟨S, ρ, (jA js k).d, ⟨h1, h2, hin, fun x hx => by
      rcases (h3 x hx).2.2.2 with g | g
      · omega
      · exact g, fun x hx => (h3 x hx).2.2.1⟩, by omega, by omega⟩
end Go.Pm.PP
