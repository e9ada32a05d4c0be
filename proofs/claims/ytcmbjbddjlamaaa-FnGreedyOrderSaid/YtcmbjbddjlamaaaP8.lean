/- The texts PvXg, PvSa, PvSb, PvSc, PvSd, PvSe, PvQa, PvTa, PvTb, PvTc, PvTd, PvTe, PvRa, PvFa, PvFb, PvFc, PvFd, PvFe, PvFh, PvFi, PvFk, PvFl, PvFj, PvSf, PvSg, PvSh, PvSi, PvFf, PvFg, PvFm, PvFn, PvFo, PvLa, PvLb, PvMa, PvCa, PvMb, PvMc, PvHa, PvMd, PvHb, PvHc, PvHd, PvHe, PvHf, PvHg, PvMe, PvMf, PvMg, PvHh, PvMh, PvPa, PvPb, PvPc, PvHi, PvPd, PvWa, PvXh, PvXi, PvXk, PvXj of this work: The greedy order by dates, its critical part and its blocking job, in plain terms. -/
import Derived.Test.YtcmbjbddjlamaaaP7
import Derived.Test.YtcmbjbddjlamaaaP6
/- The greedy order by dates, its critical part and its blocking job, in plain terms. -/
set_option linter.unusedVariables false
set_option linter.unusedSimpArgs false
namespace Go.Pm.PP
open Go.Pm Go.Pm.PE
/-! ### the greedy order -/
def nxF (js : List Job) (B : List Int) (now : Int) (b : Int) (i : Nat) : Int := if inP B i = true then b else if (jA js i).r ≤ now ∧ (b < 0 ∨ (jA js i).d < (jA js b).d) then i else b
def nxP (js : List Job) (B : List Int) (now : Int) : Int := (List.range' 0 js.length).foldl (nxF js B now) (-1)
def grT (js : List Job) (B : List Int) (now : Int) : Int := (rem js.length B).foldl (fun m x => min m (max now (jA js x).r)) 1000
def grG (js : List Job) : Nat → List Int → Int → List Int
  | 0, B, _ => B
  | k + 1, B, now => grG js k (B ++ [nxP js B (grT js B now)]) (grT js B now + (jA js (nxP js B (grT js B now))).t)
def grL (js : List Job) : List Int := grG js js.length [] 0
theorem rem_mem {n : Nat} {B : List Int} {x : Int} : x ∈ rem n B ↔ (0 ≤ x ∧ x < n) ∧ x ∉ B := by
  unfold rem
  rw [List.mem_filter, List.mem_map]
  constructor
  · rintro ⟨⟨i, hi, rfl⟩, h⟩
    have hi : i < n := by simpa [List.mem_range'_1] using hi
    refine ⟨by omega, fun g => ?_⟩
    rw [List.any_eq_true.2 ⟨_, g, by simp⟩] at h
    cases h
  · rintro ⟨⟨h1, h2⟩, h3⟩
    refine ⟨⟨x.toNat, by simp [List.mem_range'_1]; omega, by omega⟩, ?_⟩
    cases g : B.any (· == x)
    · rfl
    · obtain ⟨y, hy, e⟩ := List.any_eq_true.1 g
      rw [beq_iff_eq] at e
      exact absurd (e ▸ hy) h3
theorem inP_iff {B : List Int} {i : Nat} : inP B i = true ↔ (i : Int) ∈ B := by
  unfold inP
  rw [List.any_eq_true]
  constructor
  · rintro ⟨y, hy, e⟩; rw [beq_iff_eq] at e; exact e ▸ hy
  · intro h; exact ⟨_, h, by simp⟩
theorem nx_facts {js : List Job} {B : List Int} {now : Int} : ∀ {m i : Nat} {b : Int}, i + m = js.length → (b = -1 ∨ (0 ≤ b ∧ b < js.length ∧ b ∉ B ∧ (jA js b).r ≤ now)) → let c := (List.range' i m).foldl (nxF js B now) b
    (c = -1 ∧ b = -1 ∧ ∀ k, i ≤ k → k < js.length → (k : Int) ∈ B ∨ now < (jA js k).r) ∨ ((0 ≤ c ∧ c < js.length ∧ c ∉ B ∧ (jA js c).r ≤ now) ∧ (0 ≤ b → (jA js c).d ≤ (jA js b).d) ∧ ∀ k, i ≤ k → k < js.length → (k : Int) ∉ B → (jA js k).r ≤ now → (jA js c).d ≤ (jA js k).d)
  | 0, i, b, h, hb => by
    intro c
    have e : c = b := rfl
    rw [e]
    rcases hb with hb | hb
    · exact .inl ⟨hb, hb, fun k h1 h2 => by omega⟩
    · exact .inr ⟨hb, fun _ => Int.le_refl _, fun k h1 h2 => by omega⟩
  | m + 1, i, b, h, hb => by
    intro c
    have ec : c = (List.range' (i + 1) m).foldl (nxF js B now) (nxF js B now b i) := by show (List.range' i (m + 1)).foldl _ _ = _; rw [List.range'_succ, List.foldl_cons]
    rw [ec]
    by_cases c0 : inP B i = true
    · have e : nxF js B now b i = b := by unfold nxF; rw [if_pos c0]
      rw [e]
      have c0 := inP_iff.1 c0
      rcases nx_facts (m := m) (i := i + 1) (by omega) hb with ⟨g1, g2, g3⟩ | ⟨g1, g2, g3⟩
      · refine .inl ⟨g1, g2, fun k h1 h2 => ?_⟩
        by_cases q : k = i
        · subst q; exact .inl c0
        · exact g3 k (by omega) h2
      · refine .inr ⟨g1, g2, fun k h1 h2 h3 h4 => ?_⟩
        by_cases q : k = i
        · subst q; exact absurd c0 h3
        · exact g3 k (by omega) h2 h3 h4
    · have c0' : (i : Int) ∉ B := fun g => c0 (inP_iff.2 g)
      by_cases c1 : (jA js i).r ≤ now ∧ (b < 0 ∨ (jA js i).d < (jA js b).d)
      · have e : nxF js B now b i = i := by unfold nxF; rw [if_neg c0, if_pos c1]
        rw [e]
        rcases nx_facts (m := m) (i := i + 1) (b := (i : Int)) (by omega) (.inr ⟨by omega, by omega, c0', c1.1⟩) with ⟨g1, g2, g3⟩ | ⟨g1, g2, g3⟩
        · omega
        · have g2 := g2 (by omega)
          refine .inr ⟨g1, fun h0 => by omega, fun k h1 h2 h3 h4 => ?_⟩
          by_cases q : k = i
          · subst q; exact g2
          · exact g3 k (by omega) h2 h3 h4
      · have e : nxF js B now b i = b := by unfold nxF; rw [if_neg c0, if_neg c1]
        rw [e]
        rcases nx_facts (m := m) (i := i + 1) (by omega) hb with ⟨g1, g2, g3⟩ | ⟨g1, g2, g3⟩
        · refine .inl ⟨g1, g2, fun k h1 h2 => ?_⟩
          by_cases q : k = i
          · subst q; right; omega
          · exact g3 k (by omega) h2
        · refine .inr ⟨g1, g2, fun k h1 h2 h3 h4 => ?_⟩
          by_cases q : k = i
          · subst q
            rcases hb with hb | hb
            · subst hb; exact absurd ⟨h4, .inl (by omega)⟩ c1
            · have := g2 hb.1; omega
          · exact g3 k (by omega) h2 h3 h4
theorem nxP_facts {js : List Job} {B : List Int} {now : Int} : (nxP js B now = -1 ∧ ∀ x : Int, 0 ≤ x ∧ x < js.length → x ∉ B → now < (jA js x).r) ∨ ((0 ≤ nxP js B now ∧ nxP js B now < js.length) ∧ nxP js B now ∉ B ∧ (jA js (nxP js B now)).r ≤ now ∧ ∀ x : Int, 0 ≤ x ∧ x < js.length → x ∉ B → (jA js x).r ≤ now → (jA js (nxP js B now)).d ≤ (jA js x).d) := by
  have ex : ∀ {x : Int}, 0 ≤ x → ((x.toNat : Nat) : Int) = x := fun h => by omega
  rcases nx_facts (js := js) (B := B) (now := now) (m := js.length) (i := 0) (b := -1) (by omega) (.inl rfl) with ⟨g1, g2, g3⟩ | ⟨g1, g2, g3⟩
  · refine .inl ⟨g1, fun x hx hB => ?_⟩
    have := g3 x.toNat (Nat.zero_le _) (by omega)
    rw [ex hx.1] at this
    exact this.resolve_left hB
  · refine .inr ⟨⟨g1.1, g1.2.1⟩, g1.2.2.1, g1.2.2.2, fun x hx hB hr => ?_⟩
    have := g3 x.toNat (Nat.zero_le _) (by omega)
    rw [ex hx.1] at this
    exact this hB hr
theorem grT_go {js : List Job} {now : Int} : ∀ {l : List Int} {m : Int}, l.foldl (fun m x => min m (max now (jA js x).r)) m ≤ m ∧ (∀ x, x ∈ l → l.foldl (fun m x => min m (max now (jA js x).r)) m ≤ max now (jA js x).r) ∧ (l.foldl (fun m x => min m (max now (jA js x).r)) m = m ∨ ∃ x, x ∈ l ∧ l.foldl (fun m x => min m (max now (jA js x).r)) m = max now (jA js x).r)
  | [], m => ⟨Int.le_refl _, fun x hx => (by cases hx), .inl rfl⟩
  | y :: l, m => by
    obtain ⟨h1, h2, h3⟩ := @grT_go js now l (min m (max now (jA js y).r))
    rw [List.foldl_cons]
    refine ⟨by omega, fun x hx => ?_, ?_⟩
    · clear h3
      rcases List.mem_cons.1 hx with rfl | hx
      · omega
      · exact h2 x hx
    · rcases h3 with h3 | ⟨x, hx, h3⟩
      · rw [h3]
        by_cases c : m ≤ max now (jA js y).r
        · left; omega
        · right; exact ⟨y, List.mem_cons_self .., by omega⟩
      · right; exact ⟨x, List.mem_cons_of_mem _ hx, h3⟩
theorem grT_facts {js : List Job} {B : List Int} {now : Int} (hg : goodL js = true) (h1 : now < 1000) (hne : rem js.length B ≠ []) : now ≤ grT js B now ∧ (∃ x, x ∈ rem js.length B ∧ grT js B now = max now (jA js x).r) ∧ ∀ x, x ∈ rem js.length B → grT js B now ≤ max now (jA js x).r := by
  obtain ⟨h2, h3, h4⟩ := @grT_go js now (rem js.length B) 1000
  have e : grT js B now = (rem js.length B).foldl (fun m x => min m (max now (jA js x).r)) 1000 := rfl
  rw [← e] at h2 h3 h4
  obtain ⟨y, hy⟩ := List.exists_mem_of_ne_nil _ hne
  have hy2 := (rem_mem.1 hy).1
  have b := jA_b hg hy2
  have := h3 y hy
  rcases h4 with h4 | ⟨x, hx, h4⟩
  · omega
  · exact ⟨by omega, ⟨x, hx, h4⟩, h3⟩
theorem grT_at {js : List Job} {B : List Int} {now : Int} (hg : goodL js = true) (h1 : now < 1000) {x : Int} (hx : x ∈ rem js.length B) (hr : (jA js x).r ≤ now) : grT js B now = now := by
  obtain ⟨a, _, b⟩ := grT_facts (now := now) hg h1 (List.ne_nil_of_mem hx)
  have := b x hx; omega
theorem grT_skip {js : List Job} {B : List Int} {now : Int} (h : ∀ x, x ∈ rem js.length B → now < (jA js x).r) : grT js B (now + 1) = grT js B now := by
  unfold grT
  refine fold_congr fun x hx m => ?_
  have := h x hx
  omega
/-- What the greedy order takes next. -/
theorem gr_next {js : List Job} {B : List Int} {now : Int} (hg : goodL js = true) (h1 : now < 1000) (hne : rem js.length B ≠ []) : (0 ≤ nxP js B (grT js B now) ∧ nxP js B (grT js B now) < js.length) ∧ nxP js B (grT js B now) ∉ B ∧ grT js B now = max now (jA js (nxP js B (grT js B now))).r ∧
    ∀ x, x ∈ rem js.length B → grT js B now ≤ max now (jA js x).r ∧ ((jA js x).r ≤ grT js B now → (jA js (nxP js B (grT js B now))).d ≤ (jA js x).d) := by
  obtain ⟨a, ⟨x, hx, e⟩, b⟩ := grT_facts (now := now) hg h1 hne
  rcases @nxP_facts js B (grT js B now) with ⟨g1, g2⟩ | ⟨g1, g2, g3, g4⟩
  · have := g2 x (rem_mem.1 hx).1 (rem_mem.1 hx).2; omega
  · refine ⟨g1, g2, ?_, fun x hx => ⟨b x hx, fun hr => g4 x (rem_mem.1 hx).1 (rem_mem.1 hx).2 hr⟩⟩
    have := b _ (rem_mem.2 ⟨g1, g2⟩)
    omega
/-- xs is what the greedy order makes, at each place. -/
def Grd (js : List Job) (xs : List Int) : Prop := ∀ (k : Nat) (x : Int), xs[k]? = some x → ∀ y, y ∈ xs.drop k → max (nwGo js (xs.take k) 0) (jA js x).r ≤ max (nwGo js (xs.take k) 0) (jA js y).r ∧ ((jA js y).r ≤ max (nwGo js (xs.take k) 0) (jA js x).r → (jA js x).d ≤ (jA js y).d)
theorem nwGo_app {js : List Job} : ∀ {A C : List Int} {now : Int}, nwGo js (A ++ C) now = nwGo js C (nwGo js A now)
  | [], C, now => rfl
  | x :: A, C, now => by rw [List.cons_append, nwGo, nwGo, nwGo_app]
theorem rem_ne {n : Nat} {B : List Int} (hnd : B.Nodup) (hin : inN n B) (hl : B.length < n) : rem n B ≠ [] := by
  intro e
  have hsub : ((List.range' 0 n).map fun i : Nat => (i : Int)) ⊆ B := fun x hx => by
    obtain ⟨i, hi, rfl⟩ := List.mem_map.1 hx
    have hi : i < n := by simpa [List.mem_range'_1] using hi
    by_cases c : (i : Int) ∈ B
    · exact c
    · have : (i : Int) ∈ rem n B := rem_mem.2 ⟨by omega, c⟩
      rw [e] at this; cases this
  have hnd2 : ((List.range' 0 n).map fun i : Nat => (i : Int)).Nodup := List.Pairwise.map _ (fun a b h e => h (by omega)) List.nodup_range'
  have := nd_le hnd2 hsub
  simp at this
  omega
theorem nw_bd {js : List Job} (hg : goodL js = true) : ∀ {B : List Int} {now : Int} {k : Nat}, inN js.length B → 0 ≤ now → now ≤ 500 + 50 * k → 0 ≤ nwGo js B now ∧ nwGo js B now ≤ 500 + 50 * (k + B.length : Nat)
  | [], now, k, _, h1, h2 => by simp [nwGo]; omega
  | x :: r, now, k, hin, h1, h2 => by
    have hx := jA_b hg (hin x (List.mem_cons_self ..))
    have := @nw_bd js hg r (max now (jA js x).r + (jA js x).t) (k + 1) (fun y hy => hin y (List.mem_cons_of_mem _ hy)) (by omega) (by omega)
    rw [nwGo, List.length_cons]
    omega
theorem nw_lt {js : List Job} (hg : goodL js = true) {B : List Int} (hin : inN js.length B) (hl : B.length ≤ 8) : 0 ≤ nwGo js B 0 ∧ nwGo js B 0 < 1000 := by
  have := nw_bd hg (k := 0) hin (Int.le_refl 0) (by omega)
  omega
theorem grG_facts {js : List Job} (hg : goodL js = true) (hn : js.length ≤ 8) : ∀ {k : Nat} {B : List Int}, B.length + k = js.length → B.Nodup → inN js.length B →
    (∀ (i : Nat) (x : Int), B[i]? = some x → ∀ y : Int, ((0 ≤ y ∧ y < js.length) ∧ y ∉ B.take i) → max (nwGo js (B.take i) 0) (jA js x).r ≤ max (nwGo js (B.take i) 0) (jA js y).r ∧ ((jA js y).r ≤ max (nwGo js (B.take i) 0) (jA js x).r → (jA js x).d ≤ (jA js y).d)) →
    let xs := grG js k B (nwGo js B 0)
    xs.length = js.length ∧ xs.Nodup ∧ inN js.length xs ∧ ∀ (i : Nat) (x : Int), xs[i]? = some x → ∀ y : Int, ((0 ≤ y ∧ y < js.length) ∧ y ∉ xs.take i) → max (nwGo js (xs.take i) 0) (jA js x).r ≤ max (nwGo js (xs.take i) 0) (jA js y).r ∧ ((jA js y).r ≤ max (nwGo js (xs.take i) 0) (jA js x).r → (jA js x).d ≤ (jA js y).d) := by
  intro k
  induction k with
  | zero => intro B hl hnd hin hB; exact ⟨by simpa [grG] using hl, hnd, hin, hB⟩
  | succ k ih =>
    intro B hl hnd hin hB
    have hb := nw_lt hg hin (by omega)
    obtain ⟨g1, g2, g3, g4⟩ := gr_next (js := js) (B := B) (now := nwGo js B 0) hg hb.2 (rem_ne hnd hin (by omega))
    intro xs
    have ex : xs = grG js k (B ++ [nxP js B (grT js B (nwGo js B 0))]) (grT js B (nwGo js B 0) + (jA js (nxP js B (grT js B (nwGo js B 0)))).t) := rfl
    generalize nxP js B (grT js B (nwGo js B 0)) = j at *
    have en : grT js B (nwGo js B 0) + (jA js j).t = nwGo js (B ++ [j]) 0 := by rw [nwGo_app, nwGo, nwGo, g3]
    rw [en] at ex
    rw [ex]
    refine ih (by simp; omega) ?_ ?_ ?_
    · rw [List.nodup_append]
      exact ⟨hnd, by simp, fun a ha b hb e => g2 (by rw [List.mem_singleton.1 hb] at e; exact e ▸ ha)⟩
    · intro y hy
      rcases List.mem_append.1 hy with q | q
      · exact hin y q
      · rw [List.mem_singleton.1 q]; exact g1
    · intro i x hx y hy
      rcases Nat.lt_or_ge i B.length with q | q
      · rw [List.getElem?_append_left q] at hx
        rw [List.take_append_of_le_length (by omega)] at hy ⊢
        exact hB i x hx y hy
      · have hi : i < (B ++ [j]).length := (List.getElem?_eq_some_iff.1 hx).1
        have : i = B.length := by simp at hi; omega
        subst this
        rw [List.getElem?_append_right (Nat.le_refl _), Nat.sub_self] at hx
        have ex : j = x := by simpa using hx
        subst ex
        rw [List.take_append_of_le_length (Nat.le_refl _), List.take_length] at hy ⊢
        have := g4 y (rem_mem.2 hy)
        rw [g3] at this
        exact this
theorem prm_of {n : Nat} {xs : List Int} (hl : xs.length = n) (hnd : xs.Nodup) (hin : inN n xs) : Prm n xs := by
  have hnd2 : ((List.range' 0 n).map fun i : Nat => (i : Int)).Nodup := List.Pairwise.map _ (fun a b h e => h (by omega)) List.nodup_range'
  refine nd_perm hnd (fun x hx => ?_) (by simp; omega) hnd2
  have := hin x hx
  exact List.mem_map.2 ⟨x.toNat, by simp [List.mem_range'_1]; omega, by omega⟩
theorem grL_facts {js : List Job} (hg : goodL js = true) (hn : js.length ≤ 8) : Prm js.length (grL js) ∧ Grd js (grL js) := by
  obtain ⟨h1, h2, h3, h4⟩ := grG_facts hg hn (k := js.length) (B := []) (by simp) (by simp) (fun x hx => by cases hx) (fun i x hx => by simp at hx)
  refine ⟨prm_of h1 h2 h3, fun k x hx y hy => h4 k x hx y ⟨h3 y (List.mem_of_mem_drop hy), fun g => ?_⟩⟩
  have := List.nodup_append.1 (by rw [List.take_append_drop]; exact h2 : (List.take k (grL js) ++ List.drop k (grL js)).Nodup)
  exact this.2.2 y g y hy rfl
/-! ### ends by place -/
theorem end_pos {js : List Job} : ∀ {xs : List Int} {now : Int} {E : List Int}, inN E.length xs → xs.Nodup → ∀ {k : Nat} {x : Int}, xs[k]? = some x → gE (endGo js xs now E) x.toNat = nwGo js (xs.take (k + 1)) now
  | [], _, _, _, _, k, x, hx => by simp at hx
  | y :: r, now, E, hin, hnd, k, x, hx => by
    have hy := hin y (List.mem_cons_self ..)
    have hnd := List.nodup_cons.1 hnd
    have hin' : inN E.length r := fun z hz => hin z (List.mem_cons_of_mem _ hz)
    rw [endGo]
    cases k with
    | zero =>
      have e : y = x := by simpa using hx
      subst e
      rw [end_out (fun z hz => (hin' z hz).1) (by rw [show ((y.toNat : Nat) : Int) = y by omega]; exact hnd.1), gE_set (by omega), if_pos rfl]
      simp [nwGo]
    | succ k =>
      rw [end_pos (by rw [List.length_set]; exact hin') hnd.2 (by simpa using hx), List.take_succ_cons, nwGo]
theorem ends_pos {js : List Job} {xs : List Int} (hp : Prm js.length xs) {k : Nat} {x : Int} (hx : xs[k]? = some x) : gE (endsL js xs) x.toNat = nwGo js (xs.take (k + 1)) 0 :=
  end_pos (by simpa using hp.inn) hp.nd hx
/-! ### the critical part -/
def eN (js : List Job) (xs : List Int) (k : Nat) : Int := nwGo js (xs.take (k + 1)) 0
def ltN (js : List Job) (xs : List Int) (k : Nat) : Int := eN js xs k - (jA js (gE xs k)).d
def laI (js : List Job) (xs : List Int) (n : Nat) : Nat := (List.range' 0 n).foldl (fun l k => if ltN js xs l < ltN js xs k then k else l) 0
def fiI (js : List Job) (xs : List Int) : Nat → Nat
  | 0 => 0
  | f + 1 => if (jA js (gE xs (f + 1))).r ≤ eN js xs f then fiI js xs f else f + 1
def lasI (js : List Job) : Nat := laI js (grL js) (grL js).length
def firI (js : List Job) : Nat := fiI js (grL js) (lasI js)
def partL (js : List Job) : List Int := ((grL js).drop (firI js)).take (lasI js + 1 - firI js)
def blkI (js : List Job) (p : List Int) (d : Int) : Nat → Option Int
  | 0 => none
  | i + 1 => if d < (jA js (gE p i)).d then some (gE p i) else blkI js p d i
def blkO (js : List Job) : Option Int := blkI js (partL js) (jA js (gE (partL js) ((partL js).length - 1))).d (partL js).length
theorem laI_go {js : List Job} {xs : List Int} : ∀ {m i l : Nat}, l ≤ i → let q := (List.range' i m).foldl (fun l k => if ltN js xs l < ltN js xs k then k else l) l
    (q = l ∨ (i ≤ q ∧ q < i + m)) ∧ ltN js xs l ≤ ltN js xs q ∧ ∀ k, i ≤ k → k < i + m → ltN js xs k ≤ ltN js xs q
  | 0, i, l, h => ⟨.inl rfl, Int.le_refl _, fun k h1 h2 => by omega⟩
  | m + 1, i, l, h => by
    intro q
    have eq : q = (List.range' (i + 1) m).foldl (fun l k => if ltN js xs l < ltN js xs k then k else l) (if ltN js xs l < ltN js xs i then i else l) := by show (List.range' i (m + 1)).foldl _ _ = _; rw [List.range'_succ, List.foldl_cons]
    rw [eq]
    by_cases c : ltN js xs l < ltN js xs i
    · rw [if_pos c]
      obtain ⟨g1, g2, g3⟩ := @laI_go js xs m (i + 1) i (by omega)
      refine ⟨.inr (by omega), by omega, fun k h1 h2 => ?_⟩
      by_cases e : k = i
      · subst e; exact g2
      · exact g3 k (by omega) (by omega)
    · rw [if_neg c]
      obtain ⟨g1, g2, g3⟩ := @laI_go js xs m (i + 1) l (by omega)
      refine ⟨by omega, g2, fun k h1 h2 => ?_⟩
      by_cases e : k = i
      · subst e; omega
      · exact g3 k (by omega) (by omega)
theorem laI_facts {js : List Job} {xs : List Int} {n : Nat} (h : 0 < n) : laI js xs n < n ∧ ∀ k, k < n → ltN js xs k ≤ ltN js xs (laI js xs n) := by
  obtain ⟨g1, g2, g3⟩ := @laI_go js xs n 0 0 (Nat.le_refl _)
  have e : laI js xs n = (List.range' 0 n).foldl (fun l k => if ltN js xs l < ltN js xs k then k else l) 0 := rfl
  rw [e]
  exact ⟨by omega, fun k hk => g3 k (Nat.zero_le _) (by omega)⟩
theorem fiI_facts {js : List Job} {xs : List Int} : ∀ {l : Nat}, fiI js xs l ≤ l ∧ (0 < fiI js xs l → eN js xs (fiI js xs l - 1) < (jA js (gE xs (fiI js xs l))).r) ∧ ∀ k, fiI js xs l < k → k ≤ l → (jA js (gE xs k)).r ≤ eN js xs (k - 1)
  | 0 => ⟨Nat.le_refl _, fun h => by simp [fiI] at h, fun k h1 h2 => by omega⟩
  | f + 1 => by
    rw [fiI]
    by_cases c : (jA js (gE xs (f + 1))).r ≤ eN js xs f
    · rw [if_pos c]
      obtain ⟨g1, g2, g3⟩ := @fiI_facts js xs f
      refine ⟨by omega, g2, fun k h1 h2 => ?_⟩
      by_cases e : k = f + 1
      · subst e; exact c
      · exact g3 k h1 (by omega)
    · rw [if_neg c]
      refine ⟨Nat.le_refl _, fun _ => ?_, fun k h1 h2 => by omega⟩
      simp only [Nat.add_sub_cancel]; omega
theorem eN_succ {js : List Job} {xs : List Int} {k : Nat} (hk : k + 1 < xs.length) : eN js xs (k + 1) = max (eN js xs k) (jA js (gE xs (k + 1))).r + (jA js (gE xs (k + 1))).t := by
  unfold eN
  rw [take_succ' (gE_get hk), nwGo_app, nwGo, nwGo]
/-- Times of jobs without a gap. -/
theorem times_run {js : List Job} {xs : List Int} {a : Nat} : ∀ {m : Nat}, a + m < xs.length → (∀ k, a < k → k ≤ a + m → (jA js (gE xs k)).r ≤ eN js xs (k - 1)) → tsm (fun x => (jA js x).t) ((xs.drop (a + 1)).take m) = eN js xs (a + m) - eN js xs a
  | 0, h, hr => by simp [tsm]
  | m + 1, h, hr => by
    have ih := @times_run js xs a m (by omega) fun k h1 h2 => hr k h1 (by omega)
    have hx : (xs.drop (a + 1))[m]? = some (gE xs (a + m + 1)) := by rw [List.getElem?_drop, ← gE_get (by omega)]; congr 1; omega
    have h3 := hr (a + m + 1) (by omega) (by omega)
    have h4 := eN_succ (js := js) (xs := xs) (k := a + m) (by omega)
    rw [take_succ' hx, tsm_app, ih]
    have : tsm (fun x => (jA js x).t) [gE xs (a + m + 1)] = (jA js (gE xs (a + m + 1))).t := by simp [tsm]
    rw [this, show a + (m + 1) = a + m + 1 by omega, h4]
    simp only [Nat.add_sub_cancel] at h3
    omega
theorem val_last {js : List Job} {xs : List Int} (hp : Prm js.length xs) (h0 : js ≠ []) : valE 4 js (endsL js xs) = ltN js xs (laI js xs xs.length) := by
  have hl := hp.len
  have hpos : 0 < js.length := List.length_pos_iff.2 h0
  obtain ⟨h1, i, hi, h2⟩ := val4_facts (js := js) (es := endsL js xs) endsL_len h0
  obtain ⟨g1, g2⟩ := laI_facts (js := js) (xs := xs) (n := xs.length) (by omega)
  have at_ : ∀ k, k < xs.length → gE (endsL js xs) (gE xs k).toNat - (jA js (gE xs k)).d = ltN js xs k := fun k hk => by
    rw [ends_pos hp (gE_get hk)]; rfl
  have a1 : ltN js xs (laI js xs xs.length) ≤ valE 4 js (endsL js xs) := by
    have hm := hp.inn _ (List.mem_of_getElem? (gE_get g1))
    have := h1 (gE xs (laI js xs xs.length)).toNat (by omega)
    rw [show (((gE xs (laI js xs xs.length)).toNat : Nat) : Int) = gE xs (laI js xs xs.length) by omega, at_ _ g1] at this
    exact this
  have hm : (i : Int) ∈ xs := hp.mem_iff.2 (List.mem_map.2 ⟨i, by simp [List.mem_range'_1]; exact hi, rfl⟩)
  obtain ⟨k, hk⟩ := List.mem_iff_getElem?.1 hm
  have hkl := (List.getElem?_eq_some_iff.1 hk).1
  have ek : gE xs k = (i : Int) := by unfold gE; rw [hk]; rfl
  have := at_ k hkl
  rw [ek, Int.toNat_natCast] at this
  have g3 := g2 k hkl
  omega
end Go.Pm.PP

/- Sorting by the program: sortedBy for any comparison. -/
set_option linter.unusedVariables false
set_option linter.unusedSimpArgs false
set_option maxRecDepth 4000
set_option maxHeartbeats 8000000
namespace Go.Pm.PP
open Go.Pm Go.Proofs Go.Pm.PE
end Go.Pm.PP

/- Plain jobs, sets of digits, due orders, by both. -/
set_option linter.unusedVariables false
set_option linter.unusedSimpArgs false
set_option maxRecDepth 4000
set_option maxHeartbeats 8000000
namespace Go.Pm.PP
open Go.Pm Go.Proofs Go.Pm.PE
/-! ### no releases -/
def plainL (js : List Job) : Bool := js.all fun j => j.r == 0
def plOk (js : List Job) : Bool := jOk js && plainL js
theorem plOk_of {js : List Job} (h : plOk js = true) : js.length ≤ 8 ∧ goodL js = true ∧ plainL js = true := by
  rw [plOk, Bool.and_eq_true] at h
  exact ⟨(jOk_of h.1).1, (jOk_of h.1).2, h.2⟩
theorem jA_in {js : List Job} {x : Int} : jA js x ∈ js ∨ jA js x = ⟨0, 0, 0, 0⟩ := by
  unfold jA
  cases h : js[x.toNat]? with
  | none => right; rfl
  | some j => left; exact List.mem_of_getElem? h
theorem plOk_pl {js : List Job} (h : plOk js = true) : Pl js := by
  obtain ⟨_, hg, hp⟩ := plOk_of h
  constructor
  · intro x
    rcases @jA_in js x with g | g
    · simpa using List.all_eq_true.1 hp _ g
    · rw [g]
  · intro x
    rcases @jA_in js x with g | g
    · have := job_of (List.all_eq_true.1 hg _ g); omega
    · rw [g]; exact Int.le_refl _
theorem load_JX {h : Hp} {v : Value} {js : List Job} {x : Int} (hv : Jobs h v js) (hx : 0 ≤ x ∧ x < js.length) :
    indexAddrP P h t_S_impl_Job v (.int .i64 x) = some (.pointer (some (addP (base v) (x.toNat * 4)))) ∧ loadP P h t_impl_Job (.pointer (some (addP (base v) (x.toNat * 4)))) = some (jv (jA js x)) ∧
    loadP P h t_int (.pointer (some (addP (addP (base v) (x.toNat * 4)) 0))) = some (.int .i64 (jA js x).t) ∧
    loadP P h t_int (.pointer (some (addP (addP (base v) (x.toNat * 4)) 1))) = some (.int .i64 (jA js x).w) ∧
    loadP P h t_int (.pointer (some (addP (addP (base v) (x.toNat * 4)) 2))) = some (.int .i64 (jA js x).r) ∧
    loadP P h t_int (.pointer (some (addP (addP (base v) (x.toNat * 4)) 3))) = some (.int .i64 (jA js x).d) := by
  obtain ⟨k, hk, hkl, hy⟩ := jA_get (js := js) rfl hx
  have := load_J hv hy
  rw [← hk] at this
  rw [show x.toNat = k by omega]
  exact this
section
variable {h : Hp} {v : Value} {js : List Job}
end
/-! ### comparisons -/
section
variable {h : Hp} {vj : Value} {js : List Job} {r : Nat} {a b : Int}
end
/-! ### digits -/
end Go.Pm.PP

/- Due orders and timely sets, by both. -/
set_option linter.unusedVariables false
set_option linter.unusedSimpArgs false
set_option maxRecDepth 4000
set_option maxHeartbeats 8000000
namespace Go.Pm.PP
open Go.Pm Go.Proofs Go.Pm.PE
/-- Times and dates are not too great. -/
structure Bd (js : List Job) : Prop where
  t : ∀ x, 0 ≤ (jA js x).t ∧ (jA js x).t ≤ 2 ^ 20
  d : ∀ x, -(2 ^ 20) ≤ (jA js x).d ∧ (jA js x).d ≤ 2 ^ 20
theorem good_bd {js : List Job} (hg : goodL js = true) : Bd js := by
  constructor
  all_goals
    intro x
    rcases @jA_in js x with g | g
    · have := job_of (List.all_eq_true.1 hg _ g); omega
    · rw [g]; simp
section
variable {h : Hp} {vj v : Value} {js : List Job} {xs : List Int}
end
end Go.Pm.PP

/- The greatest lateness and delays, by both; the draw. -/
set_option linter.unusedVariables false
set_option linter.unusedSimpArgs false
set_option maxRecDepth 4000
set_option maxHeartbeats 8000000
namespace Go.Pm.PP
open Go.Pm Go.Proofs Go.Pm.PE
theorem ord_perm {n : Nat} {xs : List Int} (o : Ord n xs) : xs.Perm (upTo n) := (List.perm_ext_iff_of_nodup o.nd (upTo_nodup n)).2 fun x => by
  rw [mem_upTo]
  refine ⟨fun hx => o.inn x hx, fun hx => ?_⟩
  have := o.all (i := x.toNat) (by omega)
  rwa [show ((x.toNat : Nat) : Int) = x by omega] at this
theorem ord_prm {n : Nat} {xs : List Int} (o : Ord n xs) : Prm n xs := by
  have := ord_perm o
  rwa [upTo, List.range_eq_range'] at this
section
variable {h : Hp} {vj v : Value} {js : List Job} {xs : List Int}
/-! ### with a delay -/
end
/-! ### in plain terms -/
/-- Timely after a delay along an order of jobs. -/
def timD (js : List Job) (dl : Int) : Int → List Int → Bool
  | _, [] => true
  | now, x :: r => decide (now + (jA js x).t ≤ (jA js x).d + dl) && timD js dl (now + (jA js x).t) r
theorem timD_lat {js : List Job} (p : Pl js) {dl : Int} : ∀ {xs : List Int} {now m : Int}, 0 ≤ now → m ≤ dl → (timD js dl now xs = true ↔ latGo js now m xs ≤ dl)
  | [], now, m, _, hm => by simp [timD, latGo, hm]
  | x :: r, now, m, h, hm => by
    have := p.t x
    rw [timD, latGo, p.endAt h, Bool.and_eq_true, decide_eq_true_eq]
    have mono : ∀ {xs : List Int} {now m : Int}, m ≤ latGo js now m xs := by
      intro xs
      induction xs with
      | nil => intro now m; exact Int.le_refl _
      | cons x xs ih =>
        intro now m
        rw [latGo]
        exact Int.le_trans (by omega) ih
    constructor
    · rintro ⟨h1, h2⟩
      exact (timD_lat p (by omega) (by omega)).1 h2
    · intro hl
      have h1 := @mono r (now + (jA js x).t) (max m (now + (jA js x).t - (jA js x).d))
      have h2 : now + (jA js x).t ≤ (jA js x).d + dl := by omega
      exact ⟨h2, (timD_lat p (by omega) (by omega)).2 hl⟩
/-- The value of an order for the greatest lateness. -/
theorem valX_lat {js : List Job} (hok : plOk js = true) {xs : List Int} (o : Ord js.length xs) (hne : 0 < js.length) : valX 4 js xs = latGo js 0 (-(2 ^ 20)) xs := by
  obtain ⟨hn, hg, _⟩ := plOk_of hok
  refine val_lat (ord_prm o) ⟨(0 : Nat), o.all hne, ?_⟩
  have e0 : gE (endsL js xs) ((0 : Nat) : Int).toNat ∈ endsL js xs := by
    have : (0 : Nat) < (endsL js xs).length := by rw [endsL_len]; exact hne
    have := gE_get this
    exact List.mem_of_getElem? this
  have := endGo_bd hg (k := 0) o.inn (Int.le_refl 0) (by omega) (fun e he => by rw [List.eq_of_mem_replicate he]; omega) _ e0
  have := (good_bd hg).d ((0 : Nat) : Int)
  omega
end Go.Pm.PP

/- FnLateness in the small machine. -/
set_option linter.unusedVariables false
set_option linter.unusedSimpArgs false
set_option maxRecDepth 4000
set_option maxHeartbeats 8000000
namespace Go.Pm.PP
open Go.Pm Go.Proofs Go.Pm.PE
section
variable {h0 h : Hp} {r n : Nat} {vc : Value} {L : List Asn}
end
end Go.Pm.PP

/- Typed rules for slices: printed by a program of this work (wrap.py). -/
set_option linter.unusedVariables false
set_option linter.unusedSimpArgs false
set_option maxRecDepth 4000
namespace Go.Pm.PP
open Go.Pm Go.Proofs
end Go.Pm.PP

/- Rule differences, ruled orders and inversions, by both. -/
set_option linter.unusedVariables false
set_option linter.unusedSimpArgs false
set_option maxRecDepth 4000
set_option maxHeartbeats 8000000
namespace Go.Pm.PP
open Go.Pm Go.Proofs Go.Pm.PE
section
variable {h : Hp} {vj v : Value} {js : List Job} {xs : List Int} {o : Int}
theorem jobOk_jA (hg : goodL js = true) {x : Int} (hx : 0 ≤ x ∧ x < js.length) : jobOk (jA js x) = true := by
  obtain ⟨q, hq, hql, hqy⟩ := jA_get (js := js) rfl hx
  exact job_at hg hqy
end
end Go.Pm.PP

/- Inversions, losses, ruled orders, exchanges, by both. -/
set_option linter.unusedVariables false
set_option linter.unusedSimpArgs false
set_option maxRecDepth 4000
set_option maxHeartbeats 8000000
namespace Go.Pm.PP
open Go.Pm Go.Proofs Go.Pm.PE
section
variable {h : Hp} {vj v : Value} {js : List Job} {xs : List Int} {o : Int}
/-! ### losses -/
end
end Go.Pm.PP

/- Whether an order is ruled, exchanges, codes that are cut, pairs that are the same. -/
set_option linter.unusedVariables false
set_option linter.unusedSimpArgs false
set_option maxRecDepth 4000
set_option maxHeartbeats 8000000
namespace Go.Pm.PP
open Go.Pm Go.Proofs Go.Pm.PE
section
variable {h : Hp} {vj v u : Value} {js : List Job} {xs : List Int} {o : Int}
theorem vBig_run {bs : List Int} (hb : Sees h v 1 (bs.map encU)) : Ret P G n_laws_vBig [v] h (.bool (decide ((65536 : Int) < bs.length))) h := by
  refine enter_run e_laws_vBig (by simp) ?_
  obtain ⟨oa, c, rfl⟩ := hb.shapeT
  simp -implicitDefEqProofs
end
end Go.Pm.PP

/- Draws: plain jobs, ruled orders, inversions. -/
set_option linter.unusedVariables false
set_option linter.unusedSimpArgs false
set_option maxRecDepth 4000
set_option maxHeartbeats 8000000
namespace Go.Pm.PP
open Go.Pm Go.Proofs Go.Pm.PE
section
variable {h : Hp} {vj v : Value} {js : List Job} {o : Int}
end
/-! ### draws -/
section
variable {h0 h : Hp} {r n : Nat} {vc : Value} {L : List Asn}
end
end Go.Pm.PP

/- FnPairLoss in the small machine. -/
set_option linter.unusedVariables false
set_option linter.unusedSimpArgs false
set_option maxRecDepth 4000
set_option maxHeartbeats 16000000
namespace Go.Pm.PP
open Go.Pm Go.Proofs Go.Pm.PE
end Go.Pm.PP

/- Ruled orders, by both. -/
set_option linter.unusedVariables false
set_option linter.unusedSimpArgs false
set_option maxRecDepth 4000
set_option maxHeartbeats 8000000
namespace Go.Pm.PP
open Go.Pm Go.Proofs Go.Pm.PE
section
variable {h : Hp} {vj v u : Value} {js : List Job} {xs ys : List Int} {o : Int}
theorem vInts_run (hv : Ints h v xs) (hu : Ints h u xs) (hx : xs.length ≤ 2 ^ 40) : Ret P G n_laws_vInts [v, u] h (.bool true) h := by
  refine enter_run e_laws_vInts (by simp) ?_
  have hvs := hv
  have hus := hu
  obtain ⟨oa, c, rfl⟩ := hv.shapeT
  obtain ⟨ob, c', rfl⟩ := hu.shapeT
  simp -implicitDefEqProofs
  refine R_loopO (fun m s h' => ∃ i : Nat, i + m = xs.length ∧ s = [(0, .slice oa xs.length c), (1, .slice ob xs.length c'), (5, .int .i64 i)] ∧ h' = h) (fun I hI m s h' => ?_) (n := xs.length) ⟨0, Nat.zero_add _, by simp, rfl⟩
  rintro ⟨i, hi, rfl, rfl⟩
  by_cases hlt : i < xs.length
  · obtain ⟨x, hx', _⟩ := drop_at hlt
    simp -implicitDefEqProofs [-indexAddrP_some, hlt, load_I hvs hx', load_I hus hx', winc hlt hx]
    exact ⟨m - 1, by omega, on hI ⟨i + 1, by omega, rfl, rfl⟩⟩
  · simp -implicitDefEqProofs [hlt]
/-! ### rule differences -/
end
/-! ### ruled orders are best -/
end Go.Pm.PP

/- Points of orders, by both. -/
set_option linter.unusedVariables false
set_option linter.unusedSimpArgs false
set_option maxRecDepth 4000
set_option maxHeartbeats 8000000
namespace Go.Pm.PP
open Go.Pm Go.Proofs Go.Pm.PE
def ptX (f g : Int) (js : List Job) (xs : List Int) : Pt := (valX f js xs, valX g js xs)
section
variable {h : Hp} {vj v u : Value} {js : List Job} {xs : List Int} {f g : Int}
end
end Go.Pm.PP

/- Fronts by the reference. -/
set_option linter.unusedVariables false
set_option linter.unusedSimpArgs false
set_option maxRecDepth 4000
set_option maxHeartbeats 8000000
namespace Go.Pm.PP
open Go.Pm Go.Proofs Go.Pm.PE
theorem Sees.pl {h : Hp} {v : Value} {sz : Nat} {els : List (List Value)} (s : Sees h v sz els) (g : plain v = true) : plainC v = true := by
  obtain ⟨_, oa, c, rfl, _⟩ := s
  exact g
section
variable {h : Hp} {vj v u : Value} {js : List Job} {xs : List Int} {f g : Int}
def upF (f g : Int) (js : List Job) (F : List Pt) (xs : List Int) : List Pt := putF F (ptX f g js xs)
def frontR (f g : Int) (js : List Job) : List Pt := (ordsL js.length).foldl (upF f g js) []
end
end Go.Pm.PP

/- Fronts by the program; what both export. -/
set_option linter.unusedVariables false
set_option linter.unusedSimpArgs false
set_option maxRecDepth 4000
set_option maxHeartbeats 16000000
namespace Go.Pm.PP
open Go.Pm Go.Proofs Go.Pm.PE
section
variable {h : Hp} {vj v u : Value} {js : List Job} {xs : List Int} {f g : Int}
end
end Go.Pm.PP

/- Fronts: what both export. -/
set_option linter.unusedVariables false
set_option linter.unusedSimpArgs false
set_option maxRecDepth 4000
set_option maxHeartbeats 16000000
namespace Go.Pm.PP
open Go.Pm Go.Proofs Go.Pm.PE
section
variable {h : Hp} {vj v u : Value} {js : List Job} {xs : List Int} {f g : Int}
/-! ### the first order with a point -/
end
end Go.Pm.PP

/- The first order with a point of a front, by both; the draw. -/
set_option linter.unusedVariables false
set_option linter.unusedSimpArgs false
set_option maxRecDepth 4000
set_option maxHeartbeats 16000000
namespace Go.Pm.PP
open Go.Pm Go.Proofs Go.Pm.PE
/-! ### a search for the first one -/
section
variable {h : Hp} {vj v u : Value} {js : List Job} {xs : List Int} {f g : Int}
end
/-! ### in plain terms -/
theorem front_facts {f g : Int} {js : List Job} (hn : js.length ≤ 8) : Srt (frontR f g js) ∧ (∀ q, q ∈ frontR f g js → ∃ xs, Ord js.length xs ∧ ptX f g js xs = q) ∧ (∀ xs, Ord js.length xs → ∃ q, q ∈ frontR f g js ∧ q.1 ≤ valX f js xs ∧ q.2 ≤ valX g js xs) := by
  obtain ⟨h1, h2, h3⟩ := front_fold (pt := ptX f g js) (l := ordsL js.length) (F := []) (S := fun q => ∃ xs, Ord js.length xs ∧ ptX f g js xs = q) List.Pairwise.nil (fun q hq => by cases hq) fun xs hx => ⟨xs, ords_ord hx, rfl⟩
  exact ⟨h1, h2, fun xs ox => h3 (ptX f g js xs) (.inl ⟨xs, ord_mem ox, rfl⟩)⟩
end Go.Pm.PP

/- Searches of least mixtures and under limits, by the reference. -/
set_option linter.unusedVariables false
set_option linter.unusedSimpArgs false
set_option maxRecDepth 4000
set_option maxHeartbeats 16000000
namespace Go.Pm.PP
open Go.Pm Go.Proofs Go.Pm.PE
end Go.Pm.PP

/- Least mixtures, by both. -/
set_option linter.unusedVariables false
set_option linter.unusedSimpArgs false
set_option maxRecDepth 4000
set_option maxHeartbeats 16000000
namespace Go.Pm.PP
open Go.Pm Go.Proofs Go.Pm.PE
section
variable {h : Hp} {vj v u : Value} {js : List Job} {xs : List Int} {f g x y : Int}
end
end Go.Pm.PP

/- Supported points, by both. -/
set_option linter.unusedVariables false
set_option linter.unusedSimpArgs false
set_option maxRecDepth 4000
set_option maxHeartbeats 16000000
namespace Go.Pm.PP
open Go.Pm Go.Proofs Go.Pm.PE
section
variable {h : Hp} {vj v u vf : Value} {js : List Job} {F : List Pt} {f g : Int}
end
end Go.Pm.PP

/- Supported points: what both export. -/
set_option linter.unusedVariables false
set_option linter.unusedSimpArgs false
set_option maxRecDepth 4000
set_option maxHeartbeats 16000000
namespace Go.Pm.PP
open Go.Pm Go.Proofs Go.Pm.PE
section
variable {h : Hp} {vj v u vf : Value} {js : List Job} {F : List Pt} {f g : Int}
end
end Go.Pm.PP

/- Best orders under a limit, by both. -/
set_option linter.unusedVariables false
set_option linter.unusedSimpArgs false
set_option maxRecDepth 4000
set_option maxHeartbeats 16000000
namespace Go.Pm.PP
open Go.Pm Go.Proofs Go.Pm.PE
section
variable {h : Hp} {vj v u : Value} {js : List Job} {xs : List Int} {f g lim : Int}
end
end Go.Pm.PP

/- Tables of the least values of sets, by both. -/
set_option linter.unusedVariables false
set_option linter.unusedSimpArgs false
set_option maxRecDepth 4000
set_option maxHeartbeats 8000000
namespace Go.Pm.PP
open Go.Pm Go.Proofs Go.Pm.PE
/-! ### digits in the machine -/
section
variable {h : Hp} {vj v : Value} {js : List Job} {xs : List Int}
/-- A sum of times, bit by bit. -/
def timeGo (js : List Job) (xs : List Int) : Int := (xs.map fun x => (jA js x).t).sum
theorem time_bd {js : List Job} (bd : Bd js) : ∀ {xs : List Int}, 0 ≤ timeGo js xs ∧ timeGo js xs ≤ xs.length * 2 ^ 20
  | [] => by simp [timeGo]
  | x :: xs => by
    have ih := time_bd bd (xs := xs)
    have := bd.t x
    have e : timeGo js (x :: xs) = (jA js x).t + timeGo js xs := rfl
    rw [e, List.length_cons]; omega
/-! ### objectives that are sums -/
end
end Go.Pm.PP

/- Tables of the least values of sets, by both: the tables. -/
set_option linter.unusedVariables false
set_option linter.unusedSimpArgs false
set_option maxRecDepth 4000
set_option maxHeartbeats 8000000
namespace Go.Pm.PP
open Go.Pm Go.Proofs Go.Pm.PE
section
variable {h : Hp} {vj v : Value} {js : List Job} {xs : List Int} {o : Int}
/-! ### by the reference -/
end
end Go.Pm.PP

/- The order that is found from its end, by both; total times. -/
set_option linter.unusedVariables false
set_option linter.unusedSimpArgs false
set_option maxRecDepth 4000
set_option maxHeartbeats 8000000
namespace Go.Pm.PP
open Go.Pm Go.Proofs Go.Pm.PE
section
variable {h : Hp} {vj v : Value} {js : List Job} {xs : List Int} {o : Int}
/-! ### total times -/
end
end Go.Pm.PP

/- FnSetValues in the small machine. -/
set_option linter.unusedVariables false
set_option linter.unusedSimpArgs false
set_option maxRecDepth 4000
set_option maxHeartbeats 16000000
namespace Go.Pm.PP
open Go.Pm Go.Proofs Go.Pm.PE
section
variable {h0 h : Hp} {r n : Nat} {vc : Value} {L : List Asn}
end
/-! ### in plain terms -/
theorem ord_of_perm {n : Nat} {xs : List Int} (h : xs.Perm (upTo n)) : Ord n xs := ⟨by rw [h.length_eq, upTo_len], fun x hx => mem_upTo.1 (h.mem_iff.1 hx), h.nodup_iff.2 (upTo_nodup _)⟩
end Go.Pm.PP

/- FnFronts in the small machine. -/
set_option linter.unusedVariables false
set_option linter.unusedSimpArgs false
set_option maxRecDepth 4000
set_option maxHeartbeats 16000000
namespace Go.Pm.PP
open Go.Pm Go.Proofs Go.Pm.PE
section
variable {h0 h : Hp} {r n : Nat} {vc : Value} {L : List Asn}
end
end Go.Pm.PP

/- FnFronts. -/
set_option linter.unusedVariables false
set_option linter.unusedSimpArgs false
set_option maxRecDepth 4000
set_option maxHeartbeats 16000000
namespace Go.Pm.PP
open Go.Pm Go.Proofs Go.Pm.PE
/-! ### in plain terms -/
end Go.Pm.PP

/- Mixtures and limits, in plain terms. -/
set_option linter.unusedVariables false
set_option linter.unusedSimpArgs false
set_option maxRecDepth 4000
set_option maxHeartbeats 4000000
namespace Go.Pm.PP
open Go.Pm Go.Proofs Go.Pm.PE
end Go.Pm.PP

/- FnMixtures: its draws. -/
set_option linter.unusedVariables false
set_option linter.unusedSimpArgs false
set_option maxRecDepth 4000
set_option maxHeartbeats 16000000
namespace Go.Pm.PP
open Go.Pm Go.Proofs Go.Pm.PE
end Go.Pm.PP

/- FnMixtures, from the program's BestUnder. -/
set_option linter.unusedVariables false
set_option linter.unusedSimpArgs false
set_option maxRecDepth 4000
set_option maxHeartbeats 16000000
namespace Go.Pm.PP
open Go.Pm Go.Proofs Go.Pm.PE
end Go.Pm.PP

/- The front of sums and lateness from the ends of orders, in plain terms. -/
set_option linter.unusedVariables false
set_option linter.unusedSimpArgs false
set_option maxRecDepth 4000
namespace Go.Pm.PP
open Go.Pm Go.Proofs Go.Pm.PE
def tJ (js : List Job) (x : Int) : Int := (jA js x).t
def dJ (js : List Job) (x : Int) : Int := (jA js x).d
def backX (js : List Job) (lim : Int) : Option (List Int) := bkF (tJ js) (dJ js) lim js.length (upTo js.length)
theorem sum_smG {js : List Job} (p : Pl js) : ∀ {xs : List Int} {now : Int}, 0 ≤ now → sumGo 2 js now xs = smG (tJ js) now xs
  | [], _, _ => rfl
  | x :: r, now, h => by
    have := p.t x
    rw [sumGo, smG, p.endAt h, sum_smG p (by omega)]
    simp [costV, tJ]
theorem okG_timD {js : List Job} {lim : Int} : ∀ {xs : List Int} {now : Int}, okG (tJ js) (dJ js) lim now xs = timD js lim now xs
  | [], _ => rfl
  | x :: r, now => by rw [okG, timD, okG_timD]; rfl
theorem val_smG {js : List Job} (hok : plOk js = true) {xs : List Int} (o : Ord js.length xs) : valX 2 js xs = smG (tJ js) 0 xs := by
  unfold valX
  rw [val_sum (by omega) (by omega) (ord_prm o), sum_smG (plOk_pl hok) (Int.le_refl 0)]
theorem val_okG {js : List Job} (hok : plOk js = true) {xs : List Int} (o : Ord js.length xs) (hne : 0 < js.length) {lim : Int} (hl : -(2 ^ 20) ≤ lim) : okG (tJ js) (dJ js) lim 0 xs = true ↔ valX 4 js xs ≤ lim := by
  rw [valX_lat hok o hne, okG_timD]
  exact timD_lat (plOk_pl hok) (Int.le_refl 0) hl
theorem back_facts {js : List Job} (hok : plOk js = true) (hne : 0 < js.length) {lim : Int} (hl : -(2 ^ 20) ≤ lim) :
    (backX js lim = none → ∀ xs, Ord js.length xs → lim < valX 4 js xs) ∧
    ∀ o, backX js lim = some o → Ord js.length o ∧ valX 4 js o ≤ lim ∧ ∀ xs, Ord js.length xs → valX 4 js xs ≤ lim → valX 2 js o ≤ valX 2 js xs := by
  obtain ⟨h1, h2⟩ := bkF_spec (t := tJ js) (d := dJ js) (lim := lim) (plOk_pl hok).t (n := js.length) (left := upTo js.length) (upTo_len _) (upTo_nodup _) fun x hx => (mem_upTo.1 hx).1
  refine ⟨fun h xs ox => ?_, fun o ho => ?_⟩
  · have := h1 h xs (ord_perm ox)
    refine Int.not_le.1 fun g => ?_
    rw [(val_okG hok ox hne hl).2 g] at this
    cases this
  · obtain ⟨p1, p2, p3⟩ := h2 o ho
    have oo := ord_of_perm p1
    refine ⟨oo, (val_okG hok oo hne hl).1 p2, fun xs ox hx => ?_⟩
    rw [val_smG hok oo, val_smG hok ox]
    exact p3 xs (ord_perm ox) ((val_okG hok ox hne hl).2 hx)
/-- What holds of the front that has been found down to a limit. -/
structure LInv (js : List Job) (lim : Int) (F : List Pt) : Prop where
  srt : Srt F
  pt : ∀ q, q ∈ F → ∃ xs, Ord js.length xs ∧ ptX 2 4 js xs = q
  cov : ∀ xs, Ord js.length xs → lim < valX 4 js xs → ∃ q, q ∈ F ∧ q.1 ≤ valX 2 js xs ∧ q.2 ≤ valX 4 js xs
theorem LInv.step {js : List Job} {lim : Int} {F : List Pt} (hok : plOk js = true) (hne : 0 < js.length) (hl : -(2 ^ 20) ≤ lim) (I : LInv js lim F) {o : List Int} (ho : backX js lim = some o) : LInv js (valX 4 js o - 1) (putF F (ptX 2 4 js o)) := by
  obtain ⟨oo, h1, h2⟩ := (back_facts hok hne hl).2 o ho
  refine ⟨putF_srt I.srt, fun q hq => ?_, fun xs ox hx => ?_⟩
  · rcases putF_mem hq with rfl | g
    · exact ⟨o, oo, rfl⟩
    · exact I.pt q g
  · by_cases c : lim < valX 4 js xs
    · exact putF_cover (r := ptX 2 4 js xs) (.inr (I.cov xs ox c))
    · obtain ⟨q, hq, q1, q2⟩ := putF_cover (F := F) (p := ptX 2 4 js o) (r := ptX 2 4 js o) (.inl rfl)
      have e1 : (ptX 2 4 js o).1 = valX 2 js o := rfl
      have e2 : (ptX 2 4 js o).2 = valX 4 js o := rfl
      have := h2 xs ox (by omega)
      exact ⟨q, hq, by omega, by omega⟩
theorem LInv.all {js : List Job} {lim : Int} {F : List Pt} (hok : plOk js = true) (I : LInv js lim F) (h : ∀ xs, Ord js.length xs → lim < valX 4 js xs) : F = frontR 2 4 js := by
  obtain ⟨hn, _, _⟩ := plOk_of hok
  obtain ⟨s, m, c⟩ := front_facts (f := 2) (g := 4) (js := js) hn
  refine front_uniq I.srt s (fun q hq => ?_) fun q hq => ?_
  · obtain ⟨xs, ox, rfl⟩ := I.pt q hq
    exact c xs ox
  · obtain ⟨xs, ox, rfl⟩ := m q hq
    exact I.cov xs ox (h xs ox)
end Go.Pm.PP

/- The order that is found from its end, and the front that is found by it, of both. -/
set_option linter.unusedVariables false
set_option linter.unusedSimpArgs false
set_option maxRecDepth 4000
set_option maxHeartbeats 16000000
namespace Go.Pm.PP
open Go.Pm Go.Proofs Go.Pm.PE
theorem nil_L {h : Hp} : Ints h (.slice none 0 0) ([] : List Int) := ⟨by simp, none, 0, rfl, .inl ⟨rfl, rfl, rfl⟩⟩
section
variable {h : Hp} {vj v u : Value} {js : List Job} {xs ys : List Int} {lim : Int}
def delF (xs ys : List Int) : List Int := xs.filter fun x => !hasL x ys
/-! ### the choice -/
end
end Go.Pm.PP

/- Sets: guards of both; timely sets and their orders, of both. -/
set_option linter.unusedVariables false
set_option linter.unusedSimpArgs false
set_option maxRecDepth 4000
set_option maxHeartbeats 16000000
namespace Go.Pm.PP
open Go.Pm Go.Proofs Go.Pm.PE
def risL : List Int → Bool
  | a :: b :: r => !decide (b ≤ a) && risL (b :: r)
  | _ => true
theorem ris_iff : ∀ {xs : List Int}, risL xs = true ↔ xs.Pairwise (· < ·)
  | [] => by simp [risL]
  | [a] => by simp [risL]
  | a :: b :: r => by
    rw [risL, Bool.and_eq_true, ris_iff, Bool.not_eq_true', decide_eq_false_iff_not]
    constructor
    · rintro ⟨h1, h2⟩
      refine List.pairwise_cons.2 ⟨fun x hx => ?_, h2⟩
      rcases List.mem_cons.1 hx with rfl | g
      · omega
      · have := (List.pairwise_cons.1 h2).1 x g; omega
    · intro h
      have := (List.pairwise_cons.1 h).1 b (List.mem_cons_self ..)
      exact ⟨by omega, (List.pairwise_cons.1 h).2⟩
def setB (n : Nat) (xs : List Int) : Bool := xs.all (fun x => decide (0 ≤ x) && decide (x < n)) && risL xs
theorem setB_iff {n : Nat} {xs : List Int} : setB n xs = true ↔ inN n xs ∧ xs.Pairwise (· < ·) := by
  rw [setB, Bool.and_eq_true, ris_iff, List.all_eq_true]
  simp only [Bool.and_eq_true, decide_eq_true_eq]
  rfl
theorem arGoN_iff {n : Nat} (hn : n ≤ 2 ^ 40) : ∀ {xs us : List Int}, arGo n us xs = true ↔ inN n xs ∧ xs.Nodup ∧ ∀ x, x ∈ xs → hasL x us = false
  | [], us => by simp [arGo, inN]
  | x :: r, us => by
    have w1 : w64 ((n : Int) - 1) = (n : Int) - 1 := by unfold w64; rw [wrap_ok] <;> omega
    rw [arGo, Bool.and_eq_true, Bool.and_eq_true, w1, arGoN_iff hn, Bool.not_eq_true', List.nodup_cons]
    have hi : inB x 0 ((n : Int) - 1) = true ↔ 0 ≤ x ∧ x < n := by simp [inB]; omega
    have hh : ∀ y, hasL y (us ++ [x]) = (hasL y us || (x == y)) := fun y => by simp [hasL]
    rw [hi]
    constructor
    · rintro ⟨⟨a, b⟩, c, d, e⟩
      refine ⟨fun y hy => ?_, ⟨fun hx => ?_, d⟩, fun y hy => ?_⟩
      · rcases List.mem_cons.1 hy with rfl | g
        · exact a
        · exact c y g
      · have := e x hx
        rw [hh] at this
        simp at this
      · rcases List.mem_cons.1 hy with rfl | g
        · exact b
        · have := e y g
          rw [hh, Bool.or_eq_false_iff] at this
          exact this.1
    · rintro ⟨a, ⟨b, c⟩, d⟩
      refine ⟨⟨a x (List.mem_cons_self ..), d x (List.mem_cons_self ..)⟩, fun y hy => a y (List.mem_cons_of_mem _ hy), c, fun y hy => ?_⟩
      rw [hh, d y (List.mem_cons_of_mem _ hy)]
      have : ¬ x = y := fun g => b (g ▸ hy)
      simpa using this
theorem setB_eq {n : Nat} (hn : n ≤ 2 ^ 40) {xs : List Int} : (risL xs && arGo n [] xs) = setB n xs := by
  rw [Bool.eq_iff_iff, Bool.and_eq_true, ris_iff, arGoN_iff hn, setB_iff]
  constructor
  · rintro ⟨a, b, _⟩; exact ⟨b, a⟩
  · rintro ⟨a, b⟩; exact ⟨b, a, b.imp fun h => by omega, fun x _ => rfl⟩
section
variable {h : Hp} {vj v u : Value} {js : List Job} {xs : List Int}
theorem isRisingG_run (X : Ints h v xs) (hn : xs.length ≤ 2 ^ 40) : Ret P G n_impl_isRising [v] h (.bool (risL xs)) h := by
  refine enter_run e_impl_isRising (by simp) ?_
  have Xs := X
  obtain ⟨oa, c, rfl⟩ := X.shapeT
  simp -implicitDefEqProofs
  refine R_loopO (fun m s h' => ∃ i : Nat, i + m = xs.length ∧ s = [(0, .slice oa xs.length c), (3, .int .i64 ((i : Int) + 1))] ∧ h' = h ∧ risL xs = risL (xs.drop i)) (fun I hI m s h' => ?_) (n := xs.length) ⟨0, Nat.zero_add _, by simp⟩
  rintro ⟨i, hi, rfl, rfl, hx⟩
  by_cases hlt : i + 1 < xs.length
  · obtain ⟨y, hy, hd⟩ := drop_at (show i < xs.length by omega)
    obtain ⟨z, hz, hd2⟩ := drop_at hlt
    rw [hd, hd2, risL, ← hd2] at hx
    have ly := load_I Xs hy
    have lz := load_I Xs hz
    simp only [Int.natCast_add, Int.cast_ofNat_Int] at lz
    have w0 : IntKind.i64.wrap (i : Int) = i := by rw [wrap_ok] <;> omega
    have w2 : IntKind.i64.wrap ((i : Int) + 1 + 1) = (i : Int) + 1 + 1 := by rw [wrap_ok] <;> omega
    have hlt' : (i : Int) + 1 < xs.length := by omega
    by_cases h1 : z ≤ y
    · rw [decide_eq_true h1] at hx
      simp -implicitDefEqProofs [-indexAddrP_some, hlt, hlt', w0, w2, ly, lz, h1]
      simpa using hx
    · rw [decide_eq_false h1] at hx
      simp -implicitDefEqProofs [-indexAddrP_some, hlt, hlt', w0, w2, ly, lz, h1]
      exact ⟨m - 1, by omega, on hI ⟨i + 1, by omega, by simp, rfl, by simpa using hx⟩⟩
  · have hr : risL (xs.drop i) = true := by
      have : (xs.drop i).length ≤ 1 := by simp; omega
      match xs.drop i, this with
      | [], _ => rfl
      | [_], _ => rfl
    have hlt' : ¬ (i : Int) + 1 < xs.length := by omega
    simp -implicitDefEqProofs [hlt, hlt', hx, hr]
theorem isSetG_run {n : Nat} (X : Ints h v xs) (hn : xs.length ≤ 2 ^ 40) (hn2 : n ≤ 2 ^ 40) : Ret P G n_impl_isSet [.int .i64 n, v] h (.bool (setB n xs)) h := by
  refine enter_run e_impl_isSet (by simp) ?_
  have r1 := isRisingG_run X hn
  have r2 := areDifferent_run (n := n) X hn
  rw [← setB_eq hn2]
  obtain ⟨oa, c, rfl⟩ := X.shapeT
  cases h1 : risL xs
  · rw [h1] at r1
    simp -implicitDefEqProofs [CL_ret r1]
  · rw [h1] at r1
    simp -implicitDefEqProofs [CL_ret r1, CL_ret r2]
/-! ### timely sets -/
end
end Go.Pm.PP

/- Tables of truth values in the small machine; the closure of pairs, by both. -/
set_option linter.unusedVariables false
set_option linter.unusedSimpArgs false
set_option maxRecDepth 4000
set_option maxHeartbeats 16000000
namespace Go.Pm.PP
open Go.Pm Go.Proofs Go.Pm.PE
section
variable {h : Hp} {ve : Value} {es : List (Int × Int)} {n : Nat}
end
end Go.Pm.PP

/- Typed rules for slices: printed by a program of this work (wrap.py). -/
set_option linter.unusedVariables false
set_option linter.unusedSimpArgs false
set_option maxRecDepth 4000
namespace Go.Pm.PP
open Go.Pm Go.Proofs
end Go.Pm.PP

/- Sets in order: comparisons and insertion, of both. -/
set_option linter.unusedVariables false
set_option linter.unusedSimpArgs false
set_option maxRecDepth 4000
set_option maxHeartbeats 16000000
namespace Go.Pm.PP
open Go.Pm Go.Proofs Go.Pm.PE
section
variable {h : Hp} {v u : Value} {xs ys : List Int}
end
end Go.Pm.PP

/- Orders by vectors of ends; ascending lists; sums. -/
set_option linter.unusedVariables false
set_option linter.unusedSimpArgs false
set_option maxRecDepth 4000
set_option maxHeartbeats 16000000
namespace Go.Pm.PP
open Go.Pm Go.Proofs Go.Pm.PE
section
variable {h : Hp} {vj v ve vs : Value} {js : List Job} {xs es s : List Int}
theorem load_EX {x : Int} (E : Ints h ve es) (hx : 0 ≤ x ∧ x < es.length) : indexAddrP P h t_S_int ve (.int .i64 x) = some (.pointer (some (addP (base ve) x.toNat))) ∧ loadP P h t_int (.pointer (some (addP (base ve) x.toNat))) = some (.int .i64 (gE es x.toNat)) := by
  have := load_I E (gE_get (l := es) (i := x.toNat) (by omega))
  rw [show ((x.toNat : Nat) : Int) = x by omega] at this
  exact this
/-! ### put in ascending order -/
end
end Go.Pm.PP

/- Timely sets, of both. -/
set_option linter.unusedVariables false
set_option linter.unusedSimpArgs false
set_option maxRecDepth 4000
set_option maxHeartbeats 16000000
namespace Go.Pm.PP
open Go.Pm Go.Proofs Go.Pm.PE
section
variable {h : Hp} {vj v : Value} {js : List Job}
end
end Go.Pm.PP

/- Sums over sets; vectors. -/
set_option linter.unusedVariables false
set_option linter.unusedSimpArgs false
set_option maxRecDepth 4000
set_option maxHeartbeats 16000000
namespace Go.Pm.PP
open Go.Pm Go.Proofs Go.Pm.PE
section
variable {h : Hp} {vj v ve vs : Value} {js : List Job} {xs es s : List Int}
/-! ### sums -/
def supL (js : List Job) (es s : List Int) : Int := (s.map fun i => (jA js i).t * gE es i.toNat).sum
def timS (js : List Job) (s : List Int) : Int := (s.map fun i => (jA js i).t).sum
def sqrS (js : List Job) (s : List Int) : Int := (s.map fun i => (jA js i).t * (jA js i).t).sum
end
end Go.Pm.PP

/- Vectors of ends: guards, short sets. -/
set_option linter.unusedVariables false
set_option linter.unusedSimpArgs false
set_option maxRecDepth 4000
set_option maxHeartbeats 16000000
namespace Go.Pm.PP
open Go.Pm Go.Proofs Go.Pm.PE
section
variable {h : Hp} {vj v ve vs u : Value} {js : List Job} {xs ys es s : List Int}
/-! ### short sets -/
end
end Go.Pm.PP

/- Vectors of ends: what both export. -/
set_option linter.unusedVariables false
set_option linter.unusedSimpArgs false
set_option maxRecDepth 4000
set_option maxHeartbeats 16000000
namespace Go.Pm.PP
open Go.Pm Go.Proofs Go.Pm.PE
section
variable {h : Hp} {vj v ve vs u : Value} {js : List Job} {xs ys es s : List Int}
end
end Go.Pm.PP

/- Vectors of orders, demands and supplies of sets, mixtures. -/
set_option linter.unusedVariables false
set_option linter.unusedSimpArgs false
set_option maxRecDepth 4000
set_option maxHeartbeats 16000000
namespace Go.Pm.PP
open Go.Pm Go.Proofs Go.Pm.PE
section
variable {h : Hp} {vj v ve vs u va vb : Value} {js : List Job} {xs ys es s a b : List Int} {x y : Int}
/-! ### sets -/
end
end Go.Pm.PP

/- Mixtures of vectors. -/
set_option linter.unusedVariables false
set_option linter.unusedSimpArgs false
set_option maxRecDepth 4000
set_option maxHeartbeats 16000000
namespace Go.Pm.PP
open Go.Pm Go.Proofs Go.Pm.PE
section
variable {h : Hp} {vj v ve vs u va vb : Value} {js : List Job} {xs ys es s a b : List Int} {x y : Int}
end
end Go.Pm.PP

/- Vectors of ends, in plain terms: short sets are first parts; orders' vectors; mixtures. -/
set_option linter.unusedVariables false
set_option linter.unusedSimpArgs false
set_option maxRecDepth 4000
set_option maxHeartbeats 4000000
namespace Go.Pm.PP
open Go.Pm Go.Proofs Go.Pm.PE
/-- Twice what a set has above its demand. -/
def f2 (js : List Job) (es s : List Int) : Int := 2 * supL js es s - (timS js s * timS js s + sqrS js s)
/-! ### vectors of orders -/
/-! ### mixtures -/
end Go.Pm.PP

/- The table of weights, the least weight of late jobs and timely orders, in plain terms. -/
set_option linter.unusedVariables false
set_option linter.unusedSimpArgs false
set_option maxRecDepth 4000
namespace Go.Pm.PP
open Go.Pm Go.Proofs Go.Pm.PE
section
variable {js : List Job}
/-! ### the greatest one -/
/-! ### late jobs of an order -/
/-! ### an order that begins with a timely set -/
end
end Go.Pm.PP

/- The table of weights and the least weight of late jobs, of both; timely orders, of both. -/
set_option linter.unusedVariables false
set_option linter.unusedSimpArgs false
set_option maxRecDepth 4000
set_option maxHeartbeats 16000000
namespace Go.Pm.PP
open Go.Pm Go.Proofs Go.Pm.PE
section
variable {h : Hp} {vj v u : Value} {js : List Job} {xs ys : List Int}
end
end Go.Pm.PP

/- The table of weights by the reference; the least weight of late jobs and timely orders, of both; late jobs. -/
set_option linter.unusedVariables false
set_option linter.unusedSimpArgs false
set_option maxRecDepth 4000
set_option maxHeartbeats 16000000
namespace Go.Pm.PP
open Go.Pm Go.Proofs Go.Pm.PE
section
variable {h : Hp} {vj v u : Value} {js : List Job} {xs ys : List Int}
theorem set_same {T : List Int} {k : Nat} (hk : k < T.length) : T.set k (gE T k) = T := by
  apply List.ext_getElem?
  intro i
  rw [List.getElem?_set]
  split
  · rename_i e; subst e; exact (gE_get hk).symm
  · rfl
end
end Go.Pm.PP

/- FnVectors, from its draws. -/
set_option linter.unusedVariables false
set_option linter.unusedSimpArgs false
set_option maxRecDepth 4000
set_option maxHeartbeats 16000000
namespace Go.Pm.PP
open Go.Pm Go.Proofs Go.Pm.PE
end Go.Pm.PP

/- Timely orders, the least weight of late jobs, late jobs; comparisons of the laws. -/
set_option linter.unusedVariables false
set_option linter.unusedSimpArgs false
set_option maxRecDepth 4000
set_option maxHeartbeats 16000000
namespace Go.Pm.PP
open Go.Pm Go.Proofs Go.Pm.PE
section
variable {h : Hp} {vj v u : Value} {js : List Job} {xs ys : List Int}
/-! ### orders -/
theorem up_snoc {n : Nat} : upTo (n + 1) = upTo n ++ [(n : Int)] := by unfold upTo; rw [List.range_succ, List.map_append]; rfl
theorem others_run {n : Nat} (X : Ints h v xs) (hn : n ≤ 2 ^ 10) (hx : xs.length ≤ 2 ^ 40) : RunsC P G n_impl_others [.int .i64 n, v] h fun w h' => h <+: h' ∧ Own h.length h' w 1 ((delF (upTo n) xs).map encI) := by
  refine hideC fun K hK => enter_run e_impl_others (by simp) ?_
  have Xs := X
  obtain ⟨oa, c, rfl⟩ := X.shapeT
  have H0 := own_nil (Holds.start (h := h)) Int encI 1
  simp -implicitDefEqProofs
  refine R_loopO (fun m s h' => ∃ (i : Nat) (w : Value), i + m = n ∧ s = [(0, .int .i64 n), (1, .slice oa xs.length c), (5, w), (6, .int .i64 i)] ∧ Holds h h' [.own w 1 ((delF (upTo i) xs).map encI)]) (fun I hI m s h' => ?_) (n := n) ⟨0, .slice none 0 0, Nat.zero_add _, by simp, by simpa [delF, upTo] using H0⟩
  rintro ⟨i, w, hi, rfl, H⟩
  by_cases hlt : i < n
  · have hlt' : (i : Int) < n := by omega
    have rh := has_run (x := (i : Int)) (Xs.pre H.pre) hx
    have e : delF (upTo (i + 1)) xs = delF (upTo i) xs ++ if hasL (i : Int) xs = true then [] else [(i : Int)] := by
      unfold delF
      rw [up_snoc, List.filter_append]
      congr 1
      cases g : hasL (i : Int) xs <;> simp [List.filter_cons, g]
    have hle : (delF (upTo i) xs).length ≤ i := Nat.le_trans (List.length_filter_le ..) (by rw [upTo_len]; omega)
    cases c1 : hasL (i : Int) xs
    · rw [c1, if_neg (by simp)] at e
      rw [c1] at rh
      obtain ⟨v', h2, ha, H2, _⟩ := push_I0 H 0 rfl (i : Int) (by omega)
      rw [← e] at H2
      simp -implicitDefEqProofs [hlt, hlt', CL_ret rh, ha, winc hlt (by omega)]
      exact ⟨m - 1, by omega, on hI ⟨i + 1, v', by omega, rfl, H2⟩⟩
    · rw [c1, if_pos rfl, List.append_nil] at e
      rw [c1] at rh
      rw [← e] at H
      simp -implicitDefEqProofs [hlt, hlt', CL_ret rh, winc hlt (by omega)]
      exact ⟨m - 1, by omega, on hI ⟨i + 1, w, by omega, rfl, H⟩⟩
  · have hlt' : ¬ (i : Int) < n := by omega
    have : i = n := by omega
    subst this
    simp -implicitDefEqProofs [hlt, hlt']
    exact onK hK (H.ret 0 rfl)
/-! ### late jobs -/
end
end Go.Pm.PP

/- The late rule by the program. -/
set_option linter.unusedVariables false
set_option linter.unusedSimpArgs false
set_option maxRecDepth 4000
set_option maxHeartbeats 16000000
namespace Go.Pm.PP
open Go.Pm Go.Proofs Go.Pm.PE
theorem _root_.Go.Pm.Holds.base {h0 h1 h : Hp} {L : List Asn} (H : Holds h1 h L) (hp : h0 <+: h1) : Holds h0 h L := by
  have hl := hp.length_le
  refine ⟨hp.trans H.pre, fun i A e => ?_, H.dist⟩
  have := H.ok i A e
  cases A with
  | own v sz els => exact Own.low this hl
  | box r cs => exact ⟨Nat.le_trans hl this.1, this.2⟩
section
variable {h : Hp} {vj v u : Value} {js : List Job} {xs ys : List Int}
end
end Go.Pm.PP

/- The late rule by the reference. -/
set_option linter.unusedVariables false
set_option linter.unusedSimpArgs false
set_option maxRecDepth 4000
set_option maxHeartbeats 16000000
namespace Go.Pm.PP
open Go.Pm Go.Proofs Go.Pm.PE
section
variable {h : Hp} {vj v u : Value} {js : List Job} {xs ys : List Int}
theorem sum_take {t : Int → Int} {i : Nat} {y : Int} (hy : xs[i]? = some y) : tsm t (xs.take (i + 1)) = tsm t (xs.take i) + t y := by
  rw [take_succ' hy, tsm_app, tsm_cons]; simp [tsm]
theorem tj_bd (hg : goodL js = true) : 0 ≤ tsm (tJ js) xs ∧ tsm (tJ js) xs ≤ xs.length * 2 ^ 20 := time_bd (good_bd hg)
end
end Go.Pm.PP

/- What the late rule tells, of both. -/
set_option linter.unusedVariables false
set_option linter.unusedSimpArgs false
set_option maxRecDepth 4000
set_option maxHeartbeats 16000000
namespace Go.Pm.PP
open Go.Pm Go.Proofs Go.Pm.PE
theorem hasL_iff {x : Int} {l : List Int} : hasL x l = true ↔ x ∈ l := by
  constructor
  · intro h
    obtain ⟨y, hy, e⟩ := List.any_eq_true.1 h
    rw [beq_iff_eq] at e
    exact e ▸ hy
  · intro h
    exact List.any_eq_true.2 ⟨x, h, by simp⟩
section
variable {h : Hp} {vj v u : Value} {js : List Job} {xs ys : List Int}
/-! ### by the reference -/
/-! ### what is left after some steps -/
end
end Go.Pm.PP

/- FnVectors: its draws. -/
set_option linter.unusedVariables false
set_option linter.unusedSimpArgs false
set_option maxRecDepth 4000
set_option maxHeartbeats 16000000
namespace Go.Pm.PP
open Go.Pm Go.Proofs Go.Pm.PE
section
variable {h0 h : Hp} {r n : Nat} {vc : Value} {L T : List Asn}
end
end Go.Pm.PP

/- On time, of both; draws of FnLateRule; what late jobs an order has. -/
set_option linter.unusedVariables false
set_option linter.unusedSimpArgs false
set_option maxRecDepth 4000
set_option maxHeartbeats 16000000
namespace Go.Pm.PP
open Go.Pm Go.Proofs Go.Pm.PE
section
variable {h : Hp} {vj v u : Value} {js : List Job} {xs ys : List Int}
theorem vHas_run {x : Int} (X : Ints h v xs) (hx : xs.length ≤ 2 ^ 40) : Ret P G n_laws_vHas [v, .int .i64 x] h (.bool (hasL x xs)) h := by
  refine enter_run e_laws_vHas (by simp) ?_
  have Xs := X
  obtain ⟨oa, c, rfl⟩ := X.shapeT
  simp -implicitDefEqProofs
  refine R_loop (fun n s h' => ∃ i : Nat, i + n = xs.length ∧ s = [(0, .slice oa xs.length c), (1, .int .i64 x), (5, .int .i64 i)] ∧ h' = h ∧ hasL x xs = hasL x (xs.drop i)) (fun n s h' => ?_) ⟨0, Nat.zero_add _, by simp⟩
  rintro ⟨i, hi, rfl, rfl, hxx⟩
  by_cases hlt : i < xs.length
  · obtain ⟨y, hy, hd⟩ := drop_at hlt
    rw [hd, hasL_cons] at hxx
    simp -implicitDefEqProofs [hlt, load_I Xs hy]
    refine CB_split (fun h => ?_) (fun h => ?_)
    · simp -implicitDefEqProofs [hxx, h]
    · rw [h, Bool.false_or] at hxx
      simp -implicitDefEqProofs [winc hlt hx]
      exact ⟨n - 1, by omega, i + 1, by omega, rfl, hxx⟩
  · rw [List.drop_eq_nil_of_le (by omega), hasL_nil] at hxx
    simp -implicitDefEqProofs [hlt, hxx]
end
/-! ### draws -/
section
variable {h0 h : Hp} {r n : Nat} {vc : Value} {L : List Asn}
theorem Cur.putD {u : Value} {js : List Job} (C : Cur h0 h r vc n (L ++ [.own u 4 (js.map encJ)])) {k : Nat} {y : Job} (hy : js[k]? = some y) (z : Int) : ∃ h', storeP P h t_int (.int .i64 z) (.pointer (some (addP (addP (base u) (k * 4)) 3))) = some h' ∧ Cur h0 h' r vc n (L ++ [.own u 4 ((js.set k { y with d := z }).map encJ)]) := by
  obtain ⟨a, s, h1, h2, H⟩ := C
  obtain ⟨h', g1, g2, _⟩ := fput_J3 H (L.length + 1) (by rw [List.getElem?_cons_succ]; exact snoc_get) hy z
  refine ⟨h', g1, a, s, h1, h2, ?_⟩
  rw [List.set_cons_succ, List.set_append_right (h := Nat.le_refl _), Nat.sub_self] at g2
  exact g2
end
/-! ### in plain terms -/
end Go.Pm.PP

/- The bound of lateness of a set, by the program. -/
set_option linter.unusedVariables false
set_option linter.unusedSimpArgs false
set_option maxRecDepth 4000
set_option maxHeartbeats 16000000
namespace Go.Pm.PP
open Go.Pm Go.Proofs Go.Pm.PE
def leB (js : List Job) (xs : List Int) : Int := xs.foldl (fun b x => min b (jA js x).r) 500
def laB (js : List Job) (xs : List Int) : Int := xs.foldl (fun b x => max b (jA js x).d) 0
def lbG (js : List Job) (xs : List Int) : Int := leB js xs + tsm (tJ js) xs - laB js xs
theorem leB_succ {js : List Job} {xs : List Int} {i : Nat} {x : Int} (hx : xs[i]? = some x) : leB js (xs.take (i + 1)) = min (leB js (xs.take i)) (jA js x).r := by
  unfold leB; rw [take_succ' hx, List.foldl_append]; rfl
theorem laB_succ {js : List Job} {xs : List Int} {i : Nat} {x : Int} (hx : xs[i]? = some x) : laB js (xs.take (i + 1)) = max (laB js (xs.take i)) (jA js x).d := by
  unfold laB; rw [take_succ' hx, List.foldl_append]; rfl
theorem jrd_bd {js : List Job} (hg : goodL js = true) (x : Int) : (0 ≤ (jA js x).r ∧ (jA js x).r ≤ 500) ∧ 0 ≤ (jA js x).d ∧ (jA js x).d ≤ 500 := by
  by_cases h : 0 ≤ x ∧ x < js.length
  · have k := jobOk_jA hg h
    simp only [jobOk, inB, Bool.and_eq_true, decide_eq_true_eq] at k
    omega
  · have e : jA js x = ⟨0, 0, 0, 0⟩ ∨ ∃ i, x.toNat = i ∧ ∃ y, js[i]? = some y ∧ jA js x = y := by
      unfold jA
      cases hx : js[x.toNat]? with
      | none => left; rfl
      | some y => right; exact ⟨_, rfl, y, hx, rfl⟩
    rcases e with e | ⟨i, hi, y, hy, e⟩
    · rw [e]; simp
    · rw [e]
      have k := job_at hg hy
      simp only [jobOk, inB, Bool.and_eq_true, decide_eq_true_eq] at k
      omega
theorem leB_bd {js : List Job} (hg : goodL js = true) : ∀ {xs : List Int} {b : Int}, 0 ≤ b ∧ b ≤ 500 → 0 ≤ xs.foldl (fun b x => min b (jA js x).r) b ∧ xs.foldl (fun b x => min b (jA js x).r) b ≤ 500
  | [], b, h => h
  | x :: xs, b, h => by
    have := jrd_bd hg x
    exact leB_bd hg (xs := xs) (b := min b (jA js x).r) (by omega)
theorem laB_bd {js : List Job} (hg : goodL js = true) : ∀ {xs : List Int} {b : Int}, 0 ≤ b ∧ b ≤ 500 → 0 ≤ xs.foldl (fun b x => max b (jA js x).d) b ∧ xs.foldl (fun b x => max b (jA js x).d) b ≤ 500
  | [], b, h => h
  | x :: xs, b, h => by
    have := jrd_bd hg x
    exact laB_bd hg (xs := xs) (b := max b (jA js x).d) (by omega)
section
variable {h : Hp} {vj v u : Value} {js : List Job} {xs ys : List Int}
theorem latenessBound_run (J : Jobs h vj js) (X : Ints h v xs) (hin : inN js.length xs) (hg : goodL js = true) (hx : xs.length ≤ 2 ^ 10) : Ret P G n_impl_latenessBound [vj, v] h (.int .i64 (lbG js xs)) h := by
  refine enter_run e_impl_latenessBound (by simp) ?_
  have Js := J
  have Xs := X
  obtain ⟨oj, cj, rfl⟩ := J.shapeT
  obtain ⟨oa, ca, rfl⟩ := X.shapeT
  simp -implicitDefEqProofs
  refine R_loopO (fun m s h' => ∃ (i : Nat), i + m = xs.length ∧ s = [(0, .slice oj js.length cj), (5, .int .i64 (leB js (xs.take i))), (6, .int .i64 (laB js (xs.take i))), (7, .int .i64 (tsm (tJ js) (xs.take i))), (10, .slice oa xs.length ca), (11, .int .i64 xs.length), (12, .int .i64 i)] ∧ h' = h) (fun I hI m s h' => ?_) (n := xs.length) ⟨0, Nat.zero_add _, by simp [leB, laB, tsm], rfl⟩
  rintro ⟨i, hi, rfl, rfl⟩
  have tb := tj_bd hg (xs := xs.take i)
  have tl : (xs.take i).length ≤ 2 ^ 10 := by rw [List.length_take]; omega
  have b1 := leB_bd hg (xs := xs.take i) (b := 500) (by omega)
  have b2 := laB_bd hg (xs := xs.take i) (b := 0) (by omega)
  have e1 : (xs.take i).foldl (fun b x => min b (jA js x).r) 500 = leB js (xs.take i) := rfl
  have e2 : (xs.take i).foldl (fun b x => max b (jA js x).d) 0 = laB js (xs.take i) := rfl
  rw [e1] at b1
  rw [e2] at b2
  by_cases hlt : i < xs.length
  · have hlt' : (i : Int) < xs.length := by omega
    obtain ⟨y, hy, _⟩ := drop_at hlt
    have ly := load_I Xs hy
    have lj := load_JX Js (hin y (List.mem_of_getElem? hy))
    have e := sum_take (t := tJ js) hy
    have et : tJ js y = (jA js y).t := rfl
    have tb' := tj_bd hg (xs := xs.take (i + 1))
    have tl' : (xs.take (i + 1)).length ≤ 2 ^ 10 := by rw [List.length_take]; omega
    have w1 : IntKind.i64.wrap (tsm (tJ js) (xs.take i) + (jA js y).t) = tsm (tJ js) (xs.take (i + 1)) := by rw [← et, ← e, wrap_ok] <;> omega
    have m1 : (if (jA js y).r < leB js (xs.take i) then (jA js y).r else leB js (xs.take i)) = leB js (xs.take (i + 1)) := by rw [leB_succ hy]; split <;> omega
    have m2 : (if laB js (xs.take i) < (jA js y).d then (jA js y).d else laB js (xs.take i)) = laB js (xs.take (i + 1)) := by rw [laB_succ hy]; split <;> omega
    simp -implicitDefEqProofs [-indexAddrP_some, hlt, hlt', ly, lj, foldI, asI, m1, m2, w1, winc hlt (by omega)]
    exact ⟨m - 1, by omega, on hI ⟨i + 1, by omega, by simp, rfl⟩⟩
  · have hlt' : ¬ (i : Int) < xs.length := by omega
    rw [List.take_of_length_le (by omega)] at b1 b2 tb ⊢
    have w1 : IntKind.i64.wrap (leB js xs + tsm (tJ js) xs) = leB js xs + tsm (tJ js) xs := by rw [wrap_ok] <;> omega
    have w2 : IntKind.i64.wrap (leB js xs + tsm (tJ js) xs - laB js xs) = lbG js xs := by rw [lbG, wrap_ok] <;> omega
    simp -implicitDefEqProofs [hlt, hlt', w1, w2]
end
end Go.Pm.PP

/- The greedy order in plain terms: without a blocking job it is best, with one it is less than its time later than the choice by dates. -/
set_option linter.unusedVariables false
set_option linter.unusedSimpArgs false
namespace Go.Pm.PP
open Go.Pm Go.Pm.PE
theorem leB_eq {js : List Job} {ρ : Int} (h5 : ρ ≤ 500) : ∀ {S : List Int} {b : Int}, ρ ≤ b → (∀ x, x ∈ S → ρ ≤ (jA js x).r) → (b = ρ ∨ ∃ x, x ∈ S ∧ (jA js x).r = ρ) → S.foldl (fun b x => min b (jA js x).r) b = ρ
  | [], b, h1, h2, h3 => by
    rcases h3 with h3 | ⟨x, hx, _⟩
    · exact h3
    · cases hx
  | y :: S, b, h1, h2, h3 => by
    rw [List.foldl_cons]
    have hy := h2 y (List.mem_cons_self ..)
    refine leB_eq h5 (by omega) (fun x hx => h2 x (List.mem_cons_of_mem _ hx)) ?_
    rcases h3 with h3 | ⟨x, hx, e⟩
    · left; omega
    · rcases List.mem_cons.1 hx with rfl | hx
      · left; omega
      · right; exact ⟨x, hx, e⟩
theorem laB_eq {js : List Job} {δ : Int} : ∀ {S : List Int} {b : Int}, b ≤ δ → (∀ x, x ∈ S → (jA js x).d ≤ δ) → (b = δ ∨ ∃ x, x ∈ S ∧ (jA js x).d = δ) → S.foldl (fun b x => max b (jA js x).d) b = δ
  | [], b, h1, h2, h3 => by
    rcases h3 with h3 | ⟨x, hx, _⟩
    · exact h3
    · cases hx
  | y :: S, b, h1, h2, h3 => by
    rw [List.foldl_cons]
    have hy := h2 y (List.mem_cons_self ..)
    refine laB_eq (by omega) (fun x hx => h2 x (List.mem_cons_of_mem _ hx)) ?_
    rcases h3 with h3 | ⟨x, hx, e⟩
    · left; omega
    · rcases List.mem_cons.1 hx with rfl | hx
      · left; omega
      · right; exact ⟨x, hx, e⟩
theorem lb_eq {js : List Job} {S : List Int} {ρ δ : Int} (hg : goodL js = true) (B : Bset js S ρ δ) (hr : ∃ x, x ∈ S ∧ (jA js x).r = ρ) (hd : ∃ x, x ∈ S ∧ (jA js x).d = δ) : lbG js S = ρ + tsm (fun x => (jA js x).t) S - δ := by
  obtain ⟨x, hx, ex⟩ := hr
  have xb := jrd_bd hg x
  obtain ⟨y, hy, ey⟩ := hd
  have yb := jrd_bd hg y
  have e1 : leB js S = ρ := leB_eq (by omega) (by omega) B.r (.inr ⟨x, hx, ex⟩)
  have e2 : laB js S = δ := laB_eq (by omega) B.d (.inr ⟨y, hy, ey⟩)
  have e3 : lbG js S = leB js S + tsm (fun x => (jA js x).t) S - laB js S := rfl
  rw [e3, e1, e2]
/-! ### the critical part -/
theorem blk_facts {js : List Job} {p : List Int} {d : Int} : ∀ {m : Nat}, (blkI js p d m = none ∧ ∀ i, i < m → (jA js (gE p i)).d ≤ d) ∨ ∃ i, i < m ∧ blkI js p d m = some (gE p i) ∧ d < (jA js (gE p i)).d ∧ ∀ k, i < k → k < m → (jA js (gE p k)).d ≤ d
  | 0 => .inl ⟨rfl, fun i hi => by omega⟩
  | m + 1 => by
    rw [blkI]
    by_cases c : d < (jA js (gE p m)).d
    · rw [if_pos c]
      exact .inr ⟨m, by omega, rfl, c, fun k h1 h2 => by omega⟩
    · rw [if_neg c]
      rcases @blk_facts js p d m with ⟨h1, h2⟩ | ⟨i, hi, h1, h2, h3⟩
      · refine .inl ⟨h1, fun i hi => ?_⟩
        by_cases e : i = m
        · subst e; omega
        · exact h2 i (by omega)
      · refine .inr ⟨i, by omega, h1, h2, fun k hk1 hk2 => ?_⟩
        by_cases e : k = m
        · subst e; omega
        · exact h3 k hk1 (by omega)
theorem mem_drop_take {xs : List Int} {a m : Nat} {y : Int} (h : y ∈ (xs.drop a).take m) : ∃ i, i < m ∧ xs[a + i]? = some y := by
  obtain ⟨i, hi⟩ := List.mem_iff_getElem?.1 h
  rw [List.getElem?_take] at hi
  split at hi
  · rename_i c
    rw [List.getElem?_drop] at hi
    exact ⟨i, c, hi⟩
  · cases hi
section
variable {js : List Job}
theorem las_lt (hg : goodL js = true) (hn : js.length ≤ 8) (h0 : js ≠ []) : lasI js < js.length := by
  have hp := (grL_facts hg hn).1
  have hl := hp.len
  have hpos : 0 < js.length := List.length_pos_iff.2 h0
  have := (laI_facts (js := js) (xs := grL js) (n := (grL js).length) (by omega)).1
  unfold lasI; omega
theorem fir_le : firI js ≤ lasI js := fiI_facts.1
theorem part_len (hg : goodL js = true) (hn : js.length ≤ 8) (h0 : js ≠ []) : (partL js).length = lasI js + 1 - firI js := by
  have hl := (grL_facts hg hn).1.len
  have h1 := las_lt hg hn h0
  have h2 := @fir_le js
  unfold partL
  rw [List.length_take, List.length_drop]; omega
theorem part_at {i : Nat} (hi : i < lasI js + 1 - firI js) : gE (partL js) i = gE (grL js) (firI js + i) := by
  unfold gE partL
  rw [List.getElem?_take, if_pos hi, List.getElem?_drop]
/-- The start of the part. -/
theorem part_start (hg : goodL js = true) (hn : js.length ≤ 8) (h0 : js ≠ []) : (∀ y, y ∈ (grL js).drop (firI js) → max (nwGo js ((grL js).take (firI js)) 0) (jA js (gE (grL js) (firI js))).r ≤ (jA js y).r) ∧ (jA js (gE (grL js) (firI js))).r = max (nwGo js ((grL js).take (firI js)) 0) (jA js (gE (grL js) (firI js))).r := by
  obtain ⟨hp, gd⟩ := grL_facts hg hn
  have hl := hp.len
  have h1 := las_lt hg hn h0
  have h2 := @fir_le js
  have ff := @fiI_facts js (grL js) (lasI js)
  have hx := gE_get (l := grL js) (i := firI js) (by omega)
  have a1 : nwGo js ((grL js).take (firI js)) 0 ≤ (jA js (gE (grL js) (firI js))).r := by
    rcases Nat.eq_zero_or_pos (firI js) with e | e
    · rw [e]
      simp only [List.take_zero, nwGo]
      exact (jrd_bd hg _).1.1
    · have := ff.2.1 e
      have e2 : eN js (grL js) (firI js - 1) = nwGo js ((grL js).take (firI js)) 0 := by unfold eN; rw [show firI js - 1 + 1 = firI js by omega]
      unfold firI at e2 this ⊢
      omega
  refine ⟨fun y hy => ?_, by omega⟩
  have h3 := (gd _ _ hx y hy).1
  have yb := jrd_bd hg y
  rcases Nat.eq_zero_or_pos (firI js) with e | e
  · have : nwGo js ((grL js).take (firI js)) 0 = 0 := by rw [e]; rfl
    omega
  · have := ff.2.1 e
    have e2 : eN js (grL js) (firI js - 1) = nwGo js ((grL js).take (firI js)) 0 := by unfold eN; rw [show firI js - 1 + 1 = firI js by omega]
    unfold firI at e2 this h3 ⊢
    omega
theorem part_last (hg : goodL js = true) (hn : js.length ≤ 8) (h0 : js ≠ []) : gE (partL js) ((partL js).length - 1) = gE (grL js) (lasI js) := by
  have h2 := @fir_le js
  rw [part_len hg hn h0, part_at (by omega)]
  congr 1; omega
theorem gr_val (hg : goodL js = true) (hn : js.length ≤ 8) (h0 : js ≠ []) : valE 4 js (endsL js (grL js)) = eN js (grL js) (lasI js) - (jA js (gE (grL js) (lasI js))).d := val_last (grL_facts hg hn).1 h0
/-- Without a blocking job the part proves the order. -/
theorem part_proof (hg : goodL js = true) (hn : js.length ≤ 8) (h0 : js ≠ []) (hb : blkO js = none) : ∃ ρ δ, Bset js (partL js) ρ δ ∧ 0 ≤ ρ ∧ (∃ x, x ∈ partL js ∧ (jA js x).r = ρ) ∧ (∃ x, x ∈ partL js ∧ (jA js x).d = δ) ∧ ρ + tsm (fun x => (jA js x).t) (partL js) - δ = valE 4 js (endsL js (grL js)) := by
  obtain ⟨hp, gd⟩ := grL_facts hg hn
  have hl := hp.len
  have h1 := las_lt hg hn h0
  have h2 := @fir_le js
  have hpl := part_len hg hn h0
  obtain ⟨s1, s2⟩ := part_start hg hn h0
  have lst := part_last hg hn h0
  have hx := gE_get (l := grL js) (i := firI js) (by omega)
  have pn : (partL js).Nodup := (hp.nd.sublist (List.drop_sublist ..)).sublist (List.take_sublist ..)
  have mem : ∀ y, y ∈ partL js → y ∈ (grL js).drop (firI js) := fun y hy => List.mem_of_mem_take hy
  have hb' : ∀ i, i < (partL js).length → (jA js (gE (partL js) i)).d ≤ (jA js (gE (grL js) (lasI js))).d := by
    unfold blkO at hb
    rw [lst] at hb
    rcases @blk_facts js (partL js) (jA js (gE (grL js) (lasI js))).d (partL js).length with ⟨_, h⟩ | ⟨i, _, h, _⟩
    · exact h
    · rw [h] at hb; cases hb
  have efirst : (partL js)[0]? = some (gE (grL js) (firI js)) := by rw [gE_get (by omega), part_at (by omega)]; rfl
  have hlast : gE (grL js) (lasI js) ∈ partL js := by rw [← lst]; exact gE_mem (by omega)
  refine ⟨(jA js (gE (grL js) (firI js))).r, (jA js (gE (grL js) (lasI js))).d, ⟨pn, fun e => by rw [e] at hpl; simp at hpl; omega, fun y hy => hp.inn y (List.mem_of_mem_drop (mem y hy)), fun y hy => by rw [s2]; exact s1 y (mem y hy), fun y hy => ?_⟩, (jrd_bd hg _).1.1, ⟨_, List.mem_of_getElem? efirst, rfl⟩, ⟨_, hlast, rfl⟩, ?_⟩
  · obtain ⟨i, hi⟩ := List.mem_iff_getElem?.1 hy
    have hil := (List.getElem?_eq_some_iff.1 hi).1
    have e : gE (partL js) i = y := by unfold gE; rw [hi]; rfl
    rw [← e]; exact hb' i hil
  · rw [gr_val hg hn h0]
    have ed : partL js = gE (grL js) (firI js) :: ((grL js).drop (firI js + 1)).take (lasI js - firI js) := by
      unfold partL
      obtain ⟨x, hx', hd⟩ := drop_at (show firI js < (grL js).length by omega)
      rw [hx] at hx'; cases hx'
      rw [hd, show lasI js + 1 - firI js = (lasI js - firI js) + 1 by omega, List.take_succ_cons]
    have tr := times_run (js := js) (xs := grL js) (a := firI js) (m := lasI js - firI js) (by omega) fun k h3 h4 => fiI_facts.2.2 k h3 (by omega)
    rw [show firI js + (lasI js - firI js) = lasI js by omega] at tr
    have ef : eN js (grL js) (firI js) = max (nwGo js ((grL js).take (firI js)) 0) (jA js (gE (grL js) (firI js))).r + (jA js (gE (grL js) (firI js))).t := by
      unfold eN; rw [take_succ' hx, nwGo_app, nwGo, nwGo]
    rw [ed, tsm_cons, tr]
    omega
/-- With a blocking job. -/
theorem part_block (hg : goodL js = true) (hn : js.length ≤ 8) (h0 : js ≠ []) {b : Int} (hb : blkO js = some b) : b ∈ partL js ∧ valE 4 js (endsL js (grL js)) < valE 4 js (bdE 4 js []) + (jA js b).t := by
  obtain ⟨hp, gd⟩ := grL_facts hg hn
  have hl := hp.len
  have h1 := las_lt hg hn h0
  have h2 := @fir_le js
  have hpl := part_len hg hn h0
  have lst := part_last hg hn h0
  unfold blkO at hb
  rw [lst] at hb
  rcases @blk_facts js (partL js) (jA js (gE (grL js) (lasI js))).d (partL js).length with ⟨h, _⟩ | ⟨i, hi, h, hd, hk⟩
  · rw [h] at hb; cases hb
  rw [h] at hb
  cases hb
  refine ⟨gE_mem hi, ?_⟩
  rw [hpl] at hi hk
  have eb := part_at (js := js) hi
  rw [eb] at hd ⊢
  have hx := gE_get (l := grL js) (i := firI js + i) (by omega)
  have il : firI js + i < lasI js := by
    rcases Nat.lt_or_ge (firI js + i) (lasI js) with g | g
    · exact g
    · have : firI js + i = lasI js := by omega
      rw [this] at hd; omega
  have tr := times_run (js := js) (xs := grL js) (a := firI js + i) (m := lasI js - (firI js + i)) (by omega) fun k h3 h4 => fiI_facts.2.2 k (show firI js < k by omega) (by omega)
  rw [show firI js + i + (lasI js - (firI js + i)) = lasI js by omega] at tr
  have ef : eN js (grL js) (firI js + i) = max (nwGo js ((grL js).take (firI js + i)) 0) (jA js (gE (grL js) (firI js + i))).r + (jA js (gE (grL js) (firI js + i))).t := by
    unfold eN; rw [take_succ' hx, nwGo_app, nwGo, nwGo]
  have gdk := gd _ _ hx
  have B : Bset js (((grL js).drop (firI js + i + 1)).take (lasI js - (firI js + i))) (max (nwGo js ((grL js).take (firI js + i)) 0) (jA js (gE (grL js) (firI js + i))).r + 1) (jA js (gE (grL js) (lasI js))).d := by
    have mem : ∀ y, y ∈ ((grL js).drop (firI js + i + 1)).take (lasI js - (firI js + i)) → y ∈ grL js := fun y hy => List.mem_of_mem_drop (List.mem_of_mem_take hy)
    have due : ∀ y, y ∈ ((grL js).drop (firI js + i + 1)).take (lasI js - (firI js + i)) → (jA js y).d ≤ (jA js (gE (grL js) (lasI js))).d := fun y hy => by
      obtain ⟨q, hq, e⟩ := mem_drop_take hy
      have h3 := hk (i + 1 + q) (by omega) (by omega)
      rw [part_at (by omega), show firI js + (i + 1 + q) = firI js + i + 1 + q by omega] at h3
      have : gE (grL js) (firI js + i + 1 + q) = y := by unfold gE; rw [e]; rfl
      rw [this] at h3; exact h3
    refine ⟨(hp.nd.sublist (List.drop_sublist ..)).sublist (List.take_sublist ..), fun e => ?_, fun y hy => hp.inn y (mem y hy), fun y hy => ?_, due⟩
    · have := congrArg List.length e
      rw [List.length_take, List.length_drop, List.length_nil] at this; omega
    · have hy2 : y ∈ (grL js).drop (firI js + i) := by
        have h3 : y ∈ ((grL js).drop (firI js + i)).drop 1 := by rw [List.drop_drop]; exact List.mem_of_mem_take hy
        exact List.mem_of_mem_drop h3
      have h3 := (gdk y hy2).2
      have h4 := due y hy
      by_cases c : (jA js y).r ≤ max (nwGo js ((grL js).take (firI js + i)) 0) (jA js (gE (grL js) (firI js + i))).r
      · have := h3 c; omega
      · omega
  have := bd_split (o := 4) hg hn B
  rw [gr_val hg hn h0]
  omega
end
end Go.Pm.PP

/- The greedy order by dates, by both. -/
set_option linter.unusedVariables false
set_option linter.unusedSimpArgs false
set_option maxRecDepth 4000
set_option maxHeartbeats 16000000
namespace Go.Pm.PP
open Go.Pm Go.Proofs Go.Pm.PE
theorem del_rem {n : Nat} {B : List Int} : delF (upTo n) B = rem n B := by
  unfold delF upTo rem hasL
  rw [List.range_eq_range']
def nxR (js : List Job) (T : Int) (b x : Int) : Int := if (jA js x).r ≤ T ∧ (b < 0 ∨ (jA js x).d < (jA js b).d) then x else b
theorem nx_rem {js : List Job} {B : List Int} {T : Int} : (rem js.length B).foldl (nxR js T) (-1) = nxP js B T := by
  unfold rem nxP
  rw [List.foldl_filter, List.foldl_map]
  refine fold_congr fun i _ b => ?_
  unfold nxF nxR inP
  cases B.any (· == (i : Int)) <;> simp
theorem nxR_in {js : List Job} {T : Int} {n : Nat} : ∀ {l : List Int} {b : Int}, inN n l → (b = -1 ∨ (0 ≤ b ∧ b < n)) → (l.foldl (nxR js T) b = -1 ∨ (0 ≤ l.foldl (nxR js T) b ∧ l.foldl (nxR js T) b < n))
  | [], b, _, hb => hb
  | x :: l, b, h, hb => by
    rw [List.foldl_cons]
    refine nxR_in (fun y hy => h y (List.mem_cons_of_mem _ hy)) ?_
    unfold nxR
    split
    · exact .inr (h x (List.mem_cons_self ..))
    · exact hb
def tmR (js : List Job) (now : Int) (m x : Int) : Int := min m (max now (jA js x).r)
theorem tmR_bd {js : List Job} (hg : goodL js = true) {now : Int} (h0 : 0 ≤ now) : ∀ {l : List Int} {m : Int}, 0 ≤ m ∧ m ≤ 1000 → 0 ≤ l.foldl (tmR js now) m ∧ l.foldl (tmR js now) m ≤ 1000
  | [], m, h => h
  | x :: l, m, h => by
    rw [List.foldl_cons]
    refine tmR_bd hg h0 ?_
    unfold tmR; omega
theorem grG_succ {js : List Job} {k : Nat} {B : List Int} {now : Int} : grG js (k + 1) B now = grG js k (B ++ [nxP js B (grT js B now)]) (grT js B now + (jA js (nxP js B (grT js B now))).t) := rfl
section
variable {h : Hp} {vj v u : Value} {js : List Job} {xs ys B : List Int} {now : Int}
theorem greedyOrder_run (J : Jobs h vj js) (hg : goodL js = true) (hn : js.length ≤ 8) : RunsC P G n_impl_greedyOrder [vj] h fun v h' => h <+: h' ∧ Own h.length h' v 1 ((grL js).map encI) := by
  refine hideC fun K hK => enter_run e_impl_greedyOrder (by simp) ?_
  have Js := J
  obtain ⟨oj, cj, rfl⟩ := J.shapeT
  have H0 := own_nil (Holds.start (h := h)) Int encI 1
  simp -implicitDefEqProofs
  refine R_loopO (fun m s h' => ∃ (B : List Int) (now : Int) (u : Value), B.length + m = js.length ∧ s = [(0, .slice oj js.length cj), (3, u), (4, .int .i64 now)] ∧ B.Nodup ∧ inN js.length B ∧ grL js = grG js m B now ∧ (0 ≤ now ∧ now ≤ 500 + 50 * B.length) ∧ Holds h h' [.own u 1 (B.map encI)]) (fun I hI m s h' => ?_) (n := js.length)
    ⟨[], 0, .slice none 0 0, by simp, by simp, List.nodup_nil, fun x hx => (by cases hx), rfl, by simp, H0⟩
  rintro ⟨B, now, u, hm, rfl, hnd, hin, hgr, hb, H⟩
  obtain ⟨ua, uc, rfl⟩ : ∃ a c, u = .slice a B.length c := (H.sees 0 rfl : Ints h' u B).shapeT
  by_cases c : B.length < js.length
  case neg =>
    have c' : ¬ (B.length : Int) < js.length := by omega
    obtain rfl : m = 0 := by omega
    simp -implicitDefEqProofs [c, c']
    have e : grL js = B := hgr
    rw [e] at hK
    exact onK hK (H.ret 0 rfl)
  have c' : (B.length : Int) < js.length := by omega
  obtain ⟨m', rfl⟩ : ∃ m', m = m' + 1 := ⟨m - 1, by omega⟩
  rw [grG_succ] at hgr
  have hne := rem_ne hnd hin c
  obtain ⟨g1, g2, g3, g4⟩ := gr_next (js := js) (B := B) (now := now) hg (by omega) hne
  simp -implicitDefEqProofs [c, c']
  refine CL_post (others_run (n := js.length) (H.sees 0 rfl : Ints h' _ B) (by omega) (by omega)) fun w h2 ⟨hp2, o2⟩ => ?_
  rw [del_rem] at o2
  have H2 : Holds h h2 [.own (.slice ua B.length uc) 1 (B.map encI), .own w 1 ((rem js.length B).map encI)] := H.call hp2 o2
  have hT : grT js B now = (rem js.length B).foldl (tmR js now) 1000 := rfl
  have hN := @nx_rem js B (grT js B now)
  have hR : inN js.length (rem js.length B) := fun x hx => (rem_mem.1 hx).1
  have hRl : (rem js.length B).length ≤ js.length := by
    have := nd_le (l := upTo _) rem_nodup (fun x hx => mem_upTo.2 (hR x hx))
    simpa [upTo] using this
  generalize rem js.length B = R at *
  obtain ⟨wa, wc, rfl⟩ : ∃ a c, w = .slice a R.length c := (H2.sees 1 rfl : Ints h2 w R).shapeT
  have SR : Ints h2 (.slice wa R.length wc) R := H2.sees 1 rfl
  have J2 := Js.pre H2.pre
  simp -implicitDefEqProofs
  refine R_loopO (fun m s h' => ∃ (i : Nat), i + m = R.length ∧ s = [(0, .slice oj js.length cj), (3, .slice ua B.length uc), (4, .int .i64 now), (5, .slice wa R.length wc), (6, .int .i64 ((R.take i).foldl (tmR js now) 1000)), (21, .slice wa R.length wc), (22, .int .i64 R.length), (23, .int .i64 i)] ∧ h' = h2) (fun I2 hI2 m2 s2 h3 => ?_) (n := R.length) ⟨0, Nat.zero_add _, by simp, rfl⟩
  rintro ⟨i, hi, rfl, rfl⟩
  by_cases hlt : i < R.length
  · have hlt' : (i : Int) < R.length := by omega
    obtain ⟨x, hx, _⟩ := drop_at hlt
    have lx := load_I SR hx
    have lj := load_JX J2 (hR x (List.mem_of_getElem? hx))
    have e1 : (R.take (i + 1)).foldl (tmR js now) 1000 = tmR js now ((R.take i).foldl (tmR js now) 1000) x := by rw [take_succ' hx, List.foldl_append]; rfl
    generalize (R.take i).foldl (tmR js now) 1000 = T at *
    have m1 : (if now < (jA js x).r then (jA js x).r else now) = max now (jA js x).r := by split <;> omega
    have m2' : (if max now (jA js x).r < T then max now (jA js x).r else T) = tmR js now T x := by unfold tmR; split <;> omega
    simp -implicitDefEqProofs [-indexAddrP_some, hlt, hlt', lx, lj, foldI, asI, m1, m2', winc hlt (by omega)]
    exact ⟨m2 - 1, by omega, on hI2 ⟨i + 1, by omega, by rw [e1]; simp, rfl⟩⟩
  have hlt' : ¬ (i : Int) < R.length := by omega
  rw [List.take_of_length_le (by omega), ← hT]
  generalize grT js B now = T at *
  have Tb : 0 ≤ T ∧ T ≤ 1000 := by rw [hT]; exact tmR_bd hg hb.1 (by omega)
  simp -implicitDefEqProofs [hlt, hlt']
  refine R_loopO (fun m s h' => ∃ (i : Nat), i + m = R.length ∧ s = [(0, .slice oj js.length cj), (3, .slice ua B.length uc), (6, .int .i64 T), (9, .int .i64 ((R.take i).foldl (nxR js T) (-1))), (37, .slice wa R.length wc), (38, .int .i64 R.length), (39, .int .i64 i)] ∧ h' = h3) (fun I3 hI3 m3 s3 h4 => ?_) (n := R.length) ⟨0, Nat.zero_add _, by simp, rfl⟩
  rintro ⟨q, hq, rfl, rfl⟩
  by_cases hlq : q < R.length
  · have hlq' : (q : Int) < R.length := by omega
    obtain ⟨x, hx, _⟩ := drop_at hlq
    have lx := load_I SR hx
    have lj := load_JX J2 (hR x (List.mem_of_getElem? hx))
    have e1 : (R.take (q + 1)).foldl (nxR js T) (-1) = nxR js T ((R.take q).foldl (nxR js T) (-1)) x := by rw [take_succ' hx, List.foldl_append]; rfl
    have hbn := nxR_in (js := js) (T := T) (n := js.length) (l := R.take q) (b := -1) (fun y hy => hR y (List.mem_of_mem_take hy)) (.inl rfl)
    generalize (R.take q).foldl (nxR js T) (-1) = b at *
    have fin : ∀ z, nxR js T b x = z → I3 (m3 - 1) [(0, .slice oj js.length cj), (3, .slice ua B.length uc), (6, .int .i64 T), (9, .int .i64 z), (37, .slice wa R.length wc), (38, .int .i64 R.length), (39, .int .i64 ((q + 1 : Nat) : Int))] h4 := fun z hz => on hI3 ⟨q + 1, by omega, by rw [e1, hz], rfl⟩
    by_cases c1 : (jA js x).r ≤ T
    · rcases hbn with hbn | hbn
      · have e2 : nxR js T b x = x := by unfold nxR; rw [if_pos ⟨c1, .inl (by omega)⟩]
        have b0 : b < 0 := by omega
        simp -implicitDefEqProofs [-indexAddrP_some, hlq, hlq', lx, lj, c1, b0, winc hlq (by omega)]
        exact ⟨m3 - 1, by omega, by simpa using fin x e2⟩
      · have b0 : ¬ b < 0 := by omega
        have lb := load_JX J2 hbn
        by_cases c2 : (jA js x).d < (jA js b).d
        · have e2 : nxR js T b x = x := by unfold nxR; rw [if_pos ⟨c1, .inr c2⟩]
          simp -implicitDefEqProofs [-indexAddrP_some, hlq, hlq', lx, lj, lb, c1, b0, c2, winc hlq (by omega)]
          exact ⟨m3 - 1, by omega, by simpa using fin x e2⟩
        · have e2 : nxR js T b x = b := by unfold nxR; rw [if_neg (fun g => by rcases g.2 with g | g; exact b0 g; exact c2 g)]
          simp -implicitDefEqProofs [-indexAddrP_some, hlq, hlq', lx, lj, lb, c1, b0, c2, winc hlq (by omega)]
          exact ⟨m3 - 1, by omega, by simpa using fin b e2⟩
    · have e2 : nxR js T b x = b := by unfold nxR; rw [if_neg (fun g => c1 g.1)]
      simp -implicitDefEqProofs [-indexAddrP_some, hlq, hlq', lx, lj, c1, winc hlq (by omega)]
      exact ⟨m3 - 1, by omega, by simpa using fin b e2⟩
  have hlq' : ¬ (q : Int) < R.length := by omega
  rw [List.take_of_length_le (by omega), hN]
  generalize nxP js B T = j at *
  have H3 : Holds h h4 [.own (.slice ua B.length uc) 1 (B.map encI)] := H2.take 1
  obtain ⟨v', h5, a5, H5, _⟩ := push_I0 H3 0 rfl j (by omega)
  have H5 : Holds h h5 [.own v' 1 ((B ++ [j]).map encI)] := H5
  have lj := load_JX (Js.pre H5.pre) g1
  have jb := jA_b hg g1
  have w1 : IntKind.i64.wrap (T + (jA js j).t) = T + (jA js j).t := by rw [wrap_ok] <;> omega
  obtain ⟨v'a, v'n, v'c, rfl⟩ : ∃ a n c, v' = .slice a n c := by obtain ⟨a, c, e⟩ := (H5.sees 0 rfl).shape; exact ⟨_, _, _, e⟩
  have rb : (jA js j).r ≤ 500 := jb.2.2
  simp -implicitDefEqProofs [-indexAddrP_some, hlq, hlq', a5, lj, w1]
  refine ⟨m', by omega, on hI ⟨B ++ [j], T + (jA js j).t, .slice v'a v'n v'c, by simp; omega, by simp, ?_, ?_, hgr, ⟨by omega, by simp; omega⟩, H5⟩⟩
  · rw [List.nodup_append]
    exact ⟨hnd, by simp, fun a ha b hb e => g2 (by rw [List.mem_singleton.1 hb] at e; exact e ▸ ha)⟩
  · intro y hy
    rcases List.mem_append.1 hy with q | q
    · exact hin y q
    · rw [List.mem_singleton.1 q]; exact g1
theorem l5Next_run (J : Jobs h vj js) (X : Ints h v B) (hn : js.length ≤ 8) (hB : B.length ≤ 8) : Ret P G n_spec_l5Next [vj, v, .int .i64 now] h (.int .i64 (nxP js B now)) h := by
  refine enter_run e_spec_l5Next (by simp) ?_
  have Js := J
  have Xs := X
  obtain ⟨oj, cj, rfl⟩ := J.shapeT
  obtain ⟨oa, ca, rfl⟩ := X.shapeT
  simp -implicitDefEqProofs
  refine R_loopO (fun m s h' => ∃ (i : Nat) (b : Int), i + m = js.length ∧ s = [(0, .slice oj js.length cj), (1, .slice oa B.length ca), (2, .int .i64 now), (7, .int .i64 b), (8, .int .i64 i)] ∧ h' = h ∧ (b = -1 ∨ (0 ≤ b ∧ b < js.length)) ∧ nxP js B now = (List.range' i m).foldl (nxF js B now) b) (fun I hI m s h' => ?_) (n := js.length) ⟨0, -1, Nat.zero_add _, by simp, rfl, .inl rfl, rfl⟩
  rintro ⟨i, b, hi, rfl, rfl, hb, hx⟩
  by_cases hlt : i < js.length
  · have hlt' : (i : Int) < js.length := by omega
    obtain ⟨m', rfl⟩ : ∃ m', m = m' + 1 := ⟨m - 1, by omega⟩
    rw [List.range'_succ, List.foldl_cons] at hx
    have rh := l1Has_run (x := (i : Int)) Xs (by omega)
    have lj := load_JX (x := (i : Int)) Js ⟨by omega, by omega⟩
    simp only [Int.toNat_natCast] at lj
    have fin : ∀ z, nxF js B now b i = z → (z = -1 ∨ (0 ≤ z ∧ z < js.length)) → I m' [(0, .slice oj js.length cj), (1, .slice oa B.length ca), (2, .int .i64 now), (7, .int .i64 z), (8, .int .i64 ((i + 1 : Nat) : Int))] h' := fun z hz hz2 => on hI ⟨i + 1, z, by omega, rfl, rfl, hz2, by rw [← hz]; exact hx⟩
    have ei : inP B i = hasL (i : Int) B := rfl
    cases c0 : hasL (i : Int) B
    · rw [c0] at rh ei
      by_cases c1 : (jA js i).r ≤ now
      · rcases hb with hb | hb
        · have b0 : b < 0 := by omega
          have e2 : nxF js B now b i = i := by unfold nxF; rw [ei, if_neg (by simp), if_pos ⟨c1, .inl b0⟩]
          simp -implicitDefEqProofs [-indexAddrP_some, hlt, hlt', CL_ret rh, CH_at rh, lj, c1, b0, winc hlt (by omega)]
          exact ⟨m', by omega, by simpa using fin i e2 (.inr (by omega))⟩
        · have b0 : ¬ b < 0 := by omega
          have lb := load_JX Js hb
          by_cases c2 : (jA js i).d < (jA js b).d
          · have e2 : nxF js B now b i = i := by unfold nxF; rw [ei, if_neg (by simp), if_pos ⟨c1, .inr c2⟩]
            simp -implicitDefEqProofs [-indexAddrP_some, hlt, hlt', CL_ret rh, CH_at rh, lj, lb, c1, b0, c2, winc hlt (by omega)]
            exact ⟨m', by omega, by simpa using fin i e2 (.inr (by omega))⟩
          · have e2 : nxF js B now b i = b := by unfold nxF; rw [ei, if_neg (by simp), if_neg (fun g => by rcases g.2 with g | g; exact b0 g; exact c2 g)]
            simp -implicitDefEqProofs [-indexAddrP_some, hlt, hlt', CL_ret rh, CH_at rh, lj, lb, c1, b0, c2, winc hlt (by omega)]
            exact ⟨m', by omega, by simpa using fin b e2 (.inr hb)⟩
      · have e2 : nxF js B now b i = b := by unfold nxF; rw [ei, if_neg (by simp), if_neg (fun g => c1 g.1)]
        simp -implicitDefEqProofs [-indexAddrP_some, hlt, hlt', CL_ret rh, CH_at rh, lj, c1, winc hlt (by omega)]
        exact ⟨m', by omega, by simpa using fin b e2 hb⟩
    · rw [c0] at rh ei
      have e2 : nxF js B now b i = b := by unfold nxF; rw [ei, if_pos rfl]
      simp -implicitDefEqProofs [-indexAddrP_some, hlt, hlt', CL_ret rh, CH_at rh, winc hlt (by omega)]
      exact ⟨m', by omega, by simpa using fin b e2 hb⟩
  · have hlt' : ¬ (i : Int) < js.length := by omega
    obtain rfl : m = 0 := by omega
    have hx : nxP js B now = b := hx
    simp -implicitDefEqProofs [hlt, hlt', hx]
theorem grG_skip {k : Nat} (h : ∀ x, x ∈ rem js.length B → now < (jA js x).r) (hk : k ≠ 0) : grG js k B (now + 1) = grG js k B now := by
  obtain ⟨k', rfl⟩ : ∃ k', k = k' + 1 := ⟨k - 1, by omega⟩
  rw [grG_succ, grG_succ, grT_skip h]
theorem l5Greedy_run (J : Jobs h vj js) (hg : goodL js = true) (hn : js.length ≤ 8) : RunsC P G n_spec_l5Greedy [vj] h fun v h' => h <+: h' ∧ Own h.length h' v 1 ((grL js).map encI) := by
  refine hideC fun K hK => enter_run e_spec_l5Greedy (by simp) ?_
  have Js := J
  obtain ⟨oj, cj, rfl⟩ := J.shapeT
  have H0 := own_nil (Holds.start (h := h)) Int encI 1
  simp -implicitDefEqProofs
  refine R_loopO (fun m s h' => ∃ (B : List Int) (now : Int) (u : Value), (js.length - B.length) + (501 - now).toNat ≤ m ∧ B.length ≤ js.length ∧ s = [(0, .slice oj js.length cj), (3, u), (4, .int .i64 now)] ∧ B.Nodup ∧ inN js.length B ∧ grL js = grG js (js.length - B.length) B now ∧ (0 ≤ now ∧ now ≤ 500 + 50 * B.length) ∧ Holds h h' [.own u 1 (B.map encI)]) (fun I hI m s h' => ?_) (n := js.length + 501)
    ⟨[], 0, .slice none 0 0, by simp, by simp, by simp, List.nodup_nil, fun x hx => (by cases hx), rfl, by simp, H0⟩
  rintro ⟨B, now, u, hm, hBl, rfl, hnd, hin, hgr, hb, H⟩
  have SB : Ints h' u B := H.sees 0 rfl
  obtain ⟨ua, uc, rfl⟩ : ∃ a c, u = .slice a B.length c := SB.shapeT
  by_cases c : B.length < js.length
  case neg =>
    have c' : ¬ (B.length : Int) < js.length := by omega
    rw [show js.length - B.length = 0 by omega] at hgr
    simp -implicitDefEqProofs [c, c']
    have e : grL js = B := hgr
    rw [e] at hK
    exact onK hK (H.ret 0 rfl)
  have c' : (B.length : Int) < js.length := by omega
  have hne := rem_ne hnd hin c
  have rn := l5Next_run (now := now) (Js.pre H.pre) SB hn (by omega)
  rcases @nxP_facts js B now with ⟨k1, k2⟩ | ⟨k1, k2, k3, k4⟩
  · rw [k1] at rn
    have hr : ∀ x, x ∈ rem js.length B → now < (jA js x).r := fun x hx => k2 x (rem_mem.1 hx).1 (rem_mem.1 hx).2
    have n5 : now < 500 := by
      obtain ⟨x, hx⟩ := List.exists_mem_of_ne_nil _ hne
      have := hr x hx
      have := jA_b hg (rem_mem.1 hx).1
      omega
    have w1 : IntKind.i64.wrap (now + 1) = now + 1 := by rw [wrap_ok] <;> omega
    rw [← grG_skip hr (by omega)] at hgr
    simp -implicitDefEqProofs [c, c', CL_ret rn, w1]
    exact ⟨m - 1, by omega, on hI ⟨B, now + 1, _, by omega, hBl, by simp, hnd, hin, hgr, by omega, H⟩⟩
  · have eT : grT js B now = now := grT_at hg (by omega) (rem_mem.2 ⟨k1, k2⟩) k3
    rw [show js.length - B.length = (js.length - B.length - 1) + 1 by omega, grG_succ, eT] at hgr
    generalize nxP js B now = j at *
    have j0 : ¬ j < 0 := by omega
    obtain ⟨v', h5, a5, H5, _⟩ := push_I0 H 0 rfl j (by omega)
    have H5 : Holds h h5 [.own v' 1 ((B ++ [j]).map encI)] := H5
    have lj := load_JX (Js.pre H5.pre) k1
    have jb := jA_b hg k1
    have w1 : IntKind.i64.wrap (now + (jA js j).t) = now + (jA js j).t := by rw [wrap_ok] <;> omega
    obtain ⟨v'a, v'n, v'c, rfl⟩ : ∃ a n c, v' = .slice a n c := by obtain ⟨a, c, e⟩ := (H5.sees 0 rfl).shape; exact ⟨_, _, _, e⟩
    simp -implicitDefEqProofs [-indexAddrP_some, c, c', CL_ret rn, j0, a5, lj, w1]
    have hl : (B ++ [j]).length = B.length + 1 := by simp
    refine ⟨m - 1, by omega, on hI ⟨B ++ [j], now + (jA js j).t, .slice v'a v'n v'c, by omega, by omega, by simp, ?_, ?_, ?_, ⟨by omega, by omega⟩, H5⟩⟩
    · rw [List.nodup_append]
      exact ⟨hnd, by simp, fun a ha b hb e => k2 (by rw [List.mem_singleton.1 hb] at e; exact e ▸ ha)⟩
    · intro y hy
      rcases List.mem_append.1 hy with q | q
      · exact hin y q
      · rw [List.mem_singleton.1 q]; exact k1
    · rw [hl, show js.length - (B.length + 1) = js.length - B.length - 1 by omega]; exact hgr
end
end Go.Pm.PP

/- A part of a slice from the middle. -/
set_option linter.unusedVariables false
set_option linter.unusedSimpArgs false
set_option maxRecDepth 4000
set_option maxHeartbeats 16000000
namespace Go.Pm.PP
open Go.Pm Go.Proofs Go.Pm.PE
theorem slTwo {h : Hp} {v v1 v2 : Value} {a b : Int} {t : TypeId} (hs : ∃ (a : Addr) (n c : Nat), v = .slice (some a) n c) {e : TypeId} (hu : P.underlying t = some (.slice e)) (h1 : sliceP P h t v none (some (.int .i64 b)) = some v1) (h2 : sliceP P h t v1 (some (.int .i64 a)) none = some v2) : sliceP P h t v (some (.int .i64 a)) (some (.int .i64 b)) = some v2 := by
  obtain ⟨ad, n, c, rfl⟩ := hs
  simp only [sliceP, hu] at h1 ⊢
  cases hi : P.info? e with
  | none => simp [hi] at h1
  | some q =>
    cases hr : rowAt h ad with
    | none => simp [hi, hr] at h1
    | some x =>
      simp only [hi, hr, hiP, loP, asI] at h1 ⊢
      by_cases g : (0 : Int) ≤ 0 ∧ 0 ≤ b ∧ b ≤ c ∧ x.sz = q.size
      · rw [if_pos g] at h1
        cases h1
        simp only [sliceP, hu, hi, hiP, loP, asI] at h2
        have ez : rowAt h (addP ad ((0 : Int).toNat * q.size)) = some x := by simpa [rowAt, addP] using hr
        rw [ez] at h2
        simp only [Int.toNat_zero, Nat.sub_zero, Int.toNat_of_nonneg g.2.1] at h2
        by_cases g2 : 0 ≤ a ∧ a ≤ b ∧ b ≤ c ∧ x.sz = q.size
        · rw [if_pos g2] at h2 ⊢
          rw [← h2]
          simp [addP]
        · rw [if_neg g2] at h2; cases h2
      · rw [if_neg g] at h1; cases h1
section
variable {h : Hp} {v : Value} {xs : List Int}
theorem midG (X : Ints h v xs) {i j : Int} (hi : 0 ≤ i) (hij : i ≤ j) (hj : j ≤ xs.length) (hne : xs ≠ []) : ∃ w, sliceP P h t_S_int v (some (.int .i64 i)) (some (.int .i64 j)) = some w ∧ Ints h w ((xs.drop i.toNat).take (j.toNat - i.toNat)) := by
  obtain ⟨v1, e1, s1⟩ := X.front (P := P) u_S_int i_int (k := .i64) (j := j) (by omega) (by simp; omega)
  obtain ⟨v2, e2, s2, _⟩ := s1.back (P := P) u_S_int i_int (k := .i64) (j := i) (by omega) (by simp; omega)
  refine ⟨v2, slTwo ?_ u_S_int e1 e2, ?_⟩
  · obtain ⟨_, oa, c, rfl, h3⟩ := X
    rcases h3 with ⟨rfl, h4, h5⟩ | ⟨r, o, x, rfl, h5⟩
    · rw [List.map_eq_nil_iff] at h4
      exact absurd h4 hne
    · exact ⟨_, _, _, rfl⟩
  · have e : ((xs.map encI).take j.toNat).drop i.toNat = ((xs.drop i.toNat).take (j.toNat - i.toNat)).map encI := by
      rw [← List.map_take, ← List.map_drop, List.drop_take]
    rw [e] at s2
    exact s2
end
end Go.Pm.PP

/- The critical part of the greedy order and its blocking job, by both. -/
set_option linter.unusedVariables false
set_option linter.unusedSimpArgs false
set_option maxRecDepth 4000
set_option maxHeartbeats 16000000
namespace Go.Pm.PP
open Go.Pm Go.Proofs Go.Pm.PE
theorem laI_succ {js : List Job} {xs : List Int} {n : Nat} : laI js xs (n + 1) = if ltN js xs (laI js xs n) < ltN js xs n then n else laI js xs n := by
  unfold laI; rw [List.range'_concat, List.foldl_append]; simp
theorem laI_le {js : List Job} {xs : List Int} : ∀ {n : Nat}, laI js xs n ≤ n
  | 0 => Nat.le_refl _
  | n + 1 => by
    have := @laI_le js xs n
    rw [laI_succ]; split <;> omega
section
variable {h : Hp} {vj ve v u : Value} {js : List Job} {xs es : List Int}
theorem plS {h : Hp} {v : Value} {sz : Nat} {els : List (List Value)} (s : Sees h v sz els) (g : plain v = true) : plainC v = true := by
  obtain ⟨a, c, e⟩ := s.shape
  subst e; exact g
/-- What is told of an order and its ends. -/
structure Oe (js : List Job) (xs es : List Int) : Prop where
  p : Prm js.length xs
  l : es.length = js.length
  e : ∀ k, k < xs.length → gE es (gE xs k).toNat = eN js xs k
  b : ∀ k, k < xs.length → 0 ≤ eN js xs k ∧ eN js xs k ≤ 1000
  d : ∀ k, k < xs.length → 0 ≤ (jA js (gE xs k)).d ∧ (jA js (gE xs k)).d ≤ 500
theorem oe_gr (hg : goodL js = true) (hn : js.length ≤ 8) : Oe js (grL js) (endsL js (grL js)) := by
  obtain ⟨hp, _⟩ := grL_facts hg hn
  refine ⟨hp, endsL_len, fun k hk => ends_pos hp (gE_get hk), fun k hk => ?_, fun k hk => (jrd_bd hg _).2⟩
  have hl := hp.len
  have := nw_bd hg (B := (grL js).take (k + 1)) (k := 0) (now := 0) (fun x hx => hp.inn x (List.mem_of_mem_take hx)) (Int.le_refl _) (by omega)
  have hl2 : ((grL js).take (k + 1)).length ≤ 8 := by rw [List.length_take]; omega
  unfold eN; omega
/-- Loads by way of an order. -/
theorem Oe.ld (O : Oe js xs es) (X : Ints h v xs) (E : Ints h ve es) {k : Nat} (hk : k < xs.length) :
    (indexAddrP P h t_S_int v (.int .i64 k) = some (.pointer (some (addP (base v) k))) ∧ loadP P h t_int (.pointer (some (addP (base v) k))) = some (.int .i64 (gE xs k))) ∧
    indexAddrP P h t_S_int ve (.int .i64 (gE xs k)) = some (.pointer (some (addP (base ve) (gE xs k).toNat))) ∧ loadP P h t_int (.pointer (some (addP (base ve) (gE xs k).toNat))) = some (.int .i64 (eN js xs k)) := by
  have lx := load_I X (gE_get hk)
  have ix := O.p.inn _ (List.mem_of_getElem? (gE_get hk))
  have le := load_EX E (x := gE xs k) (by rw [O.l]; exact ix)
  rw [O.e k hk] at le
  exact ⟨lx, le⟩
theorem criticalPart_run (J : Jobs h vj js) (hg : goodL js = true) (hn : js.length ≤ 8) (h0 : js ≠ []) : RunsC P G n_impl_criticalPart [vj] h fun v h' => h <+: h' ∧ Ints h' v (partL js) := by
  refine hideC fun K hK => enter_run e_impl_criticalPart (by simp) ?_
  have Js := J
  obtain ⟨oj, cj, rfl⟩ := J.shapeT
  have O := oe_gr hg hn
  have hl := O.p.len
  have hfl := @fir_le js
  have hla := las_lt hg hn h0
  have hpl := part_len hg hn h0
  have hpart : partL js = ((grL js).drop (firI js)).take (lasI js + 1 - firI js) := rfl
  have hlas : lasI js = laI js (grL js) (grL js).length := rfl
  have hfir : firI js = fiI js (grL js) (lasI js) := rfl
  have hend : ∀ k, k < (grL js).length → eN js (grL js) k = max (nwGo js ((grL js).take k) 0) (jA js (gE (grL js) k)).r + (jA js (gE (grL js) k)).t := fun k hk => by
    unfold eN; rw [take_succ' (gE_get hk), nwGo_app, nwGo, nwGo]
  simp -implicitDefEqProofs
  refine CL_post (greedyOrder_run Js hg hn) fun v1 h1 ⟨hp1, o1⟩ => ?_
  obtain ⟨xa, xc, rfl⟩ : ∃ a c, v1 = .slice a (grL js).length c := (o1.sees : Ints h1 v1 (grL js)).shapeT
  have X1 : Ints h1 (.slice xa (grL js).length xc) (grL js) := o1.sees
  simp -implicitDefEqProofs
  refine CL_post (endsOf_run (Js.pre hp1) X1 hg hn (by omega) O.p.inn) fun v2 h2 ⟨hp2, o2, be⟩ => ?_
  obtain ⟨ea, ec, rfl⟩ : ∃ a c, v2 = .slice a (endsL js (grL js)).length c := (o2.sees : Ints h2 v2 (endsL js (grL js))).shapeT
  have E2 : Ints h2 (.slice ea (endsL js (grL js)).length ec) (endsL js (grL js)) := o2.sees
  have X2 := X1.pre hp2
  have J2 := Js.pre (hp1.trans hp2)
  have ld := fun {k : Nat} (hk : k < (grL js).length) => O.ld X2 E2 hk
  have lj := fun {k : Nat} (hk : k < (grL js).length) => load_JX J2 (O.p.inn _ (List.mem_of_getElem? (gE_get hk)))
  have ob := O.b
  have od := O.d
  generalize endsL js (grL js) = es at *
  generalize grL js = xs at *
  simp -implicitDefEqProofs
  refine R_loopO (fun m s h' => ∃ (i : Nat), i + m = xs.length ∧ s = [(0, .slice oj js.length cj), (3, .slice xa xs.length xc), (4, .slice ea es.length ec), (5, .int .i64 (laI js xs i)), (14, .slice xa xs.length xc), (15, .int .i64 xs.length), (16, .int .i64 i)] ∧ h' = h2) (fun I hI m s h' => ?_) (n := xs.length) ⟨0, Nat.zero_add _, by simp [laI], rfl⟩
  rintro ⟨i, hi, rfl, rfl⟩
  by_cases hlt : i < xs.length
  · have hlt' : (i : Int) < xs.length := by omega
    have hll : laI js xs i < xs.length := by have := @laI_le js xs i; omega
    obtain ⟨l1, l2⟩ := ld hlt
    obtain ⟨l3, l4⟩ := ld hll
    have j1 := lj hlt
    have j2 := lj hll
    have b1 := ob i hlt
    have b2 := ob _ hll
    have d1 := od i hlt
    have d2 := od _ hll
    have es := @laI_succ js xs i
    generalize laI js xs i = l at *
    have w1 : IntKind.i64.wrap (eN js xs i - (jA js (gE xs i)).d) = ltN js xs i := by unfold ltN; rw [wrap_ok] <;> omega
    have w2 : IntKind.i64.wrap (eN js xs l - (jA js (gE xs l)).d) = ltN js xs l := by unfold ltN; rw [wrap_ok] <;> omega
    by_cases c : ltN js xs l < ltN js xs i
    · rw [if_pos c] at es
      simp -implicitDefEqProofs [-indexAddrP_some, hlt, hlt', l1, l2, l3, l4, j1, j2, w1, w2, c, winc hlt (by omega)]
      exact ⟨m - 1, by omega, on hI ⟨i + 1, by omega, by rw [es]; simp, rfl⟩⟩
    · rw [if_neg c] at es
      simp -implicitDefEqProofs [-indexAddrP_some, hlt, hlt', l1, l2, l3, l4, j1, j2, w1, w2, c, winc hlt (by omega)]
      exact ⟨m - 1, by omega, on hI ⟨i + 1, by omega, by rw [es]; simp, rfl⟩⟩
  have hlt' : ¬ (i : Int) < xs.length := by omega
  obtain rfl : i = xs.length := by omega
  rw [← hlas]
  generalize lasI js = la at *
  simp -implicitDefEqProofs [hlt, hlt']
  refine R_loopO (fun m s hz => ∃ (q : Nat), q ≤ m ∧ q ≤ la ∧ s = [(0, .slice oj js.length cj), (3, .slice xa xs.length xc), (4, .slice ea es.length ec), (5, .int .i64 la), (8, .int .i64 q)] ∧ firI js = fiI js xs q ∧ hz = h') (fun I hI m s hz => ?_) (n := la) ⟨la, Nat.le_refl _, Nat.le_refl _, by simp, hfir, rfl⟩
  rintro ⟨q, hqm, hql, rfl, hf, rfl⟩
  have done : firI js = q → ∃ z, sliceP P hz t_S_int (.slice xa xs.length xc) (some (.int .i64 q)) (some (.int .i64 ((la : Int) + 1))) = some z ∧ K z (gc h hz z) := fun e => by
    obtain ⟨z, s1, f1⟩ := midG X2 (i := (q : Int)) (j := (la : Int) + 1) (by omega) (by omega) (by omega) (fun g => by rw [g] at hl; simp at hl; exact h0 (List.eq_nil_of_length_eq_zero hl.symm))
    refine ⟨z, s1, onK hK ⟨pre_gcU (hp1.trans hp2), Sees.gcU ?_ (plS f1)⟩⟩
    rw [show ((la : Int) + 1).toNat = la + 1 by omega, Int.toNat_natCast] at f1
    rw [hpart, e]; exact f1
  have w0 : IntKind.i64.wrap ((la : Int) + 1) = (la : Int) + 1 := by rw [wrap_ok] <;> omega
  rcases Nat.eq_zero_or_pos q with rfl | hq
  · obtain ⟨z, s1, k1⟩ := done (by rw [hf]; rfl)
    have s1 : sliceP P hz t_S_int (.slice xa xs.length xc) (some (.int .i64 0)) (some (.int .i64 ((la : Int) + 1))) = some z := by simpa using s1
    simp -implicitDefEqProofs [w0, s1]
    exact k1
  · obtain ⟨p, rfl⟩ : ∃ p, q = p + 1 := ⟨q - 1, by omega⟩
    have hp : p + 1 < xs.length := by omega
    obtain ⟨l1, l2⟩ := ld hp
    obtain ⟨l3, l4⟩ := ld (show p < xs.length by omega)
    have j1 := lj hp
    have b1 := ob _ hp
    have b2 := ob p (by omega)
    have he := hend (p + 1) hp
    have hnw : nwGo js (xs.take (p + 1)) 0 = eN js xs p := rfl
    rw [hnw] at he
    have tb : 0 ≤ (jA js (gE xs (p + 1))).t ∧ (jA js (gE xs (p + 1))).t ≤ 50 := by
      have := jA_b hg (O.p.inn _ (List.mem_of_getElem? (gE_get hp))); omega
    have w1 : IntKind.i64.wrap (eN js xs (p + 1) - (jA js (gE xs (p + 1))).t) = max (eN js xs p) (jA js (gE xs (p + 1))).r := by rw [he, wrap_ok] <;> omega
    have wp : IntKind.i64.wrap (p : Int) = (p : Int) := by rw [wrap_ok] <;> omega
    have c0 : (0 : Int) < (p : Int) + 1 := by omega
    rw [fiI] at hf
    have l1 : indexAddrP P hz t_S_int (.slice xa xs.length xc) (.int .i64 ((p : Int) + 1)) = some (.pointer (some (addP (base (.slice xa xs.length xc)) (p + 1)))) ∧ loadP P hz t_int (.pointer (some (addP (base (.slice xa xs.length xc)) (p + 1)))) = some (.int .i64 (gE xs (p + 1))) := by simpa using l1
    by_cases c : (jA js (gE xs (p + 1))).r ≤ eN js xs p
    · rw [if_pos c] at hf
      have c' : (max (eN js xs p) (jA js (gE xs (p + 1))).r == eN js xs p) = true := by rw [beq_iff_eq]; omega
      simp -implicitDefEqProofs [-indexAddrP_some, c0, l1, l2, l3, l4, j1, w1, wp, c']
      exact ⟨m - 1, by omega, on hI ⟨p, by omega, by omega, by simp, hf, rfl⟩⟩
    · rw [if_neg c] at hf
      have c' : (max (eN js xs p) (jA js (gE xs (p + 1))).r == eN js xs p) = false := by rw [beq_eq_false_iff_ne]; omega
      obtain ⟨z, s1, k1⟩ := done hf
      have s1 : sliceP P hz t_S_int (.slice xa xs.length xc) (some (.int .i64 ((p : Int) + 1))) (some (.int .i64 ((la : Int) + 1))) = some z := by simpa using s1
      simp -implicitDefEqProofs [-indexAddrP_some, c0, l1, l2, l3, l4, j1, w1, wp, c', w0, s1]
      exact k1
theorem l5Part_run (J : Jobs h vj js) (hg : goodL js = true) (hn : js.length ≤ 8) (h0 : js ≠ []) : RunsC P G n_spec_l5Part [vj] h fun v h' => h <+: h' ∧ Ints h' v (partL js) := by
  refine hideC fun K hK => enter_run e_spec_l5Part (by simp) ?_
  have Js := J
  obtain ⟨oj, cj, rfl⟩ := J.shapeT
  have O := oe_gr hg hn
  have hl := O.p.len
  have hfl := @fir_le js
  have hla := las_lt hg hn h0
  have hpl := part_len hg hn h0
  have hpart : partL js = ((grL js).drop (firI js)).take (lasI js + 1 - firI js) := rfl
  have hlas : lasI js = laI js (grL js) (grL js).length := rfl
  have hfir : firI js = fiI js (grL js) (lasI js) := rfl
  have hend : ∀ k, k < (grL js).length → eN js (grL js) k = max (nwGo js ((grL js).take k) 0) (jA js (gE (grL js) k)).r + (jA js (gE (grL js) k)).t := fun k hk => by
    unfold eN; rw [take_succ' (gE_get hk), nwGo_app, nwGo, nwGo]
  have hall : ∀ i : Nat, i < js.length → (i : Int) ∈ grL js := fun i hi => O.p.mem_iff.2 (List.mem_map.2 ⟨i, by simp [List.mem_range'_1]; exact hi, rfl⟩)
  have hst : ∀ k, k < (grL js).length → gE (stL js (grL js)) (gE (grL js) k).toNat = eN js (grL js) k - (jA js (gE (grL js) k)).t := fun k hk => by
    have ik := O.p.inn _ (List.mem_of_getElem? (gE_get hk))
    have := ends_eq O.p.inn O.p.nd hall (i := (gE (grL js) k).toNat) (by omega)
    rw [O.e k hk, show (((gE (grL js) k).toNat : Nat) : Int) = gE (grL js) k by omega] at this
    omega
  simp -implicitDefEqProofs
  refine CL_post (l5Greedy_run Js hg hn) fun v1 h1 ⟨hp1, o1⟩ => ?_
  obtain ⟨xa, xc, rfl⟩ : ∃ a c, v1 = .slice a (grL js).length c := (o1.sees : Ints h1 v1 (grL js)).shapeT
  have X1 : Ints h1 (.slice xa (grL js).length xc) (grL js) := o1.sees
  simp -implicitDefEqProofs
  refine CL_post (l2Starts_run (Js.pre hp1) X1 hg hn (by omega) O.p.inn) fun vs h2 ⟨hp2, os, bs⟩ => ?_
  obtain ⟨sa, sc, rfl⟩ : ∃ a c, vs = .slice a (stL js (grL js)).length c := (os.sees : Ints h2 vs (stL js (grL js))).shapeT
  simp -implicitDefEqProofs
  refine CL_post (l2Ends_run (Js.pre (hp1.trans hp2)) (X1.pre hp2) hg hn (by omega) O.p.inn O.p.nd hall) fun v2 h3 ⟨hp3, o2, be⟩ => ?_
  obtain ⟨ea, ec, rfl⟩ : ∃ a c, v2 = .slice a (endsL js (grL js)).length c := (o2.sees : Ints h3 v2 (endsL js (grL js))).shapeT
  have E2 : Ints h3 (.slice ea (endsL js (grL js)).length ec) (endsL js (grL js)) := o2.sees
  have S2 : Ints h3 (.slice sa (stL js (grL js)).length sc) (stL js (grL js)) := (os.sees : Ints h2 _ (stL js (grL js))).pre hp3
  have X2 := X1.pre (hp2.trans hp3)
  have hp9 := hp1.trans (hp2.trans hp3)
  have J2 := Js.pre hp9
  have ld := fun {k : Nat} (hk : k < (grL js).length) => O.ld X2 E2 hk
  have lj := fun {k : Nat} (hk : k < (grL js).length) => load_JX J2 (O.p.inn _ (List.mem_of_getElem? (gE_get hk)))
  have ls := fun {k : Nat} (hk : k < (grL js).length) => load_EX S2 (x := gE (grL js) k) (by rw [stL_len]; exact O.p.inn _ (List.mem_of_getElem? (gE_get hk)))
  have ob := O.b
  have od := O.d
  generalize endsL js (grL js) = es at *
  generalize stL js (grL js) = ss at *
  generalize grL js = xs at *
  have hpos : 0 < xs.length := by omega
  have la1 : laI js xs 1 = 0 := by simp [laI]
  simp -implicitDefEqProofs
  refine R_loopO (fun m s h' => ∃ (i : Nat), i + m = xs.length ∧ 1 ≤ i ∧ s = [(0, .slice oj js.length cj), (3, .slice xa xs.length xc), (4, .slice sa ss.length sc), (5, .slice ea es.length ec), (6, .int .i64 (laI js xs i)), (7, .int .i64 i)] ∧ h' = h3) (fun I hI m s h' => ?_) (n := xs.length - 1) ⟨1, by omega, by omega, by simp [la1], rfl⟩
  rintro ⟨i, hi, hi1, rfl, rfl⟩
  by_cases hlt : i < xs.length
  · have hlt' : (i : Int) < xs.length := by omega
    have hll : laI js xs i < xs.length := by have := @laI_le js xs i; omega
    obtain ⟨l1, l2⟩ := ld hlt
    obtain ⟨l3, l4⟩ := ld hll
    have j1 := lj hlt
    have j2 := lj hll
    have b1 := ob i hlt
    have b2 := ob _ hll
    have d1 := od i hlt
    have d2 := od _ hll
    have es := @laI_succ js xs i
    generalize laI js xs i = l at *
    have w1 : IntKind.i64.wrap (eN js xs i - (jA js (gE xs i)).d) = ltN js xs i := by unfold ltN; rw [wrap_ok] <;> omega
    have w2 : IntKind.i64.wrap (eN js xs l - (jA js (gE xs l)).d) = ltN js xs l := by unfold ltN; rw [wrap_ok] <;> omega
    by_cases c : ltN js xs l < ltN js xs i
    · rw [if_pos c] at es
      simp -implicitDefEqProofs [-indexAddrP_some, hlt, hlt', l1, l2, l3, l4, j1, j2, w1, w2, c, winc hlt (by omega)]
      exact ⟨m - 1, by omega, on hI ⟨i + 1, by omega, by omega, by rw [es]; simp, rfl⟩⟩
    · rw [if_neg c] at es
      simp -implicitDefEqProofs [-indexAddrP_some, hlt, hlt', l1, l2, l3, l4, j1, j2, w1, w2, c, winc hlt (by omega)]
      exact ⟨m - 1, by omega, on hI ⟨i + 1, by omega, by omega, by rw [es]; simp, rfl⟩⟩
  have hlt' : ¬ (i : Int) < xs.length := by omega
  obtain rfl : i = xs.length := by omega
  rw [← hlas]
  generalize lasI js = la at *
  simp -implicitDefEqProofs [hlt, hlt']
  refine R_loopO (fun m s hz => ∃ (q : Nat), q ≤ m ∧ q ≤ la ∧ s = [(3, .slice xa xs.length xc), (4, .slice sa ss.length sc), (5, .slice ea es.length ec), (6, .int .i64 la), (8, .int .i64 q)] ∧ firI js = fiI js xs q ∧ hz = h') (fun I hI m s hz => ?_) (n := la) ⟨la, Nat.le_refl _, Nat.le_refl _, by simp, hfir, rfl⟩
  rintro ⟨q, hqm, hql, rfl, hf, rfl⟩
  have done : firI js = q → ∃ z, sliceP P hz t_S_int (.slice xa xs.length xc) (some (.int .i64 q)) (some (.int .i64 ((la : Int) + 1))) = some z ∧ Ints hz z (partL js) := fun e => by
    obtain ⟨z, s1, f1⟩ := midG X2 (i := (q : Int)) (j := (la : Int) + 1) (by omega) (by omega) (by omega) (fun g => by rw [g] at hl; simp at hl; exact h0 (List.eq_nil_of_length_eq_zero hl.symm))
    rw [show ((la : Int) + 1).toNat = la + 1 by omega, Int.toNat_natCast] at f1
    exact ⟨z, s1, by rw [hpart, e]; exact f1⟩
  have w0 : IntKind.i64.wrap ((la : Int) + 1) = (la : Int) + 1 := by rw [wrap_ok] <;> omega
  have post : ∀ {w : Value} {h4 : Hp}, hz <+: h4 → Own hz.length h4 w 1 ((partL js).map encI) → K w (gc h h4 w) := fun {w h4} hp o => onK hK ⟨pre_gcU (hp9.trans hp), Sees.gcU o.sees (plS o.sees)⟩
  rcases Nat.eq_zero_or_pos q with rfl | hq
  · obtain ⟨z, s1, k1⟩ := done (by rw [hf]; rfl)
    have s1 : sliceP P hz t_S_int (.slice xa xs.length xc) (some (.int .i64 0)) (some (.int .i64 ((la : Int) + 1))) = some z := by simpa using s1
    simp -implicitDefEqProofs [w0, s1]
    refine CL_post (l1Own_run k1 (by omega)) fun w h4 ⟨hp4, o4⟩ => ?_
    obtain ⟨wa, wn, wc, rfl⟩ : ∃ a n c, w = .slice a n c := by obtain ⟨a, c, e⟩ := o4.sees.shape; exact ⟨_, _, _, e⟩
    simp -implicitDefEqProofs
    exact post hp4 o4
  · obtain ⟨p, rfl⟩ : ∃ p, q = p + 1 := ⟨q - 1, by omega⟩
    have hp : p + 1 < xs.length := by omega
    obtain ⟨l1, _⟩ := ld hp
    have l2 := ls hp
    rw [hst _ hp] at l2
    obtain ⟨l3, l4⟩ := ld (show p < xs.length by omega)
    have b1 := ob _ hp
    have b2 := ob p (by omega)
    have he := hend (p + 1) hp
    have hnw : nwGo js (xs.take (p + 1)) 0 = eN js xs p := rfl
    rw [hnw] at he
    have wp : IntKind.i64.wrap (p : Int) = (p : Int) := by rw [wrap_ok] <;> omega
    have c0 : (0 : Int) < (p : Int) + 1 := by omega
    rw [fiI] at hf
    have l1 : indexAddrP P hz t_S_int (.slice xa xs.length xc) (.int .i64 ((p : Int) + 1)) = some (.pointer (some (addP (base (.slice xa xs.length xc)) (p + 1)))) ∧ loadP P hz t_int (.pointer (some (addP (base (.slice xa xs.length xc)) (p + 1)))) = some (.int .i64 (gE xs (p + 1))) := by simpa using l1
    by_cases c : (jA js (gE xs (p + 1))).r ≤ eN js xs p
    · rw [if_pos c] at hf
      have c' : (eN js xs (p + 1) - (jA js (gE xs (p + 1))).t == eN js xs p) = true := by rw [beq_iff_eq]; omega
      simp -implicitDefEqProofs [-indexAddrP_some, c0, l1, l2, l3, l4, wp, c']
      exact ⟨m - 1, by omega, on hI ⟨p, by omega, by omega, by simp, hf, rfl⟩⟩
    · rw [if_neg c] at hf
      have c' : (eN js xs (p + 1) - (jA js (gE xs (p + 1))).t == eN js xs p) = false := by rw [beq_eq_false_iff_ne]; omega
      obtain ⟨z, s1, k1⟩ := done hf
      have s1 : sliceP P hz t_S_int (.slice xa xs.length xc) (some (.int .i64 ((p : Int) + 1))) (some (.int .i64 ((la : Int) + 1))) = some z := by simpa using s1
      simp -implicitDefEqProofs [-indexAddrP_some, c0, l1, l2, l3, l4, wp, c', w0, s1]
      refine CL_post (l1Own_run k1 (by omega)) fun w h4 ⟨hp4, o4⟩ => ?_
      obtain ⟨wa, wn, wc, rfl⟩ : ∃ a n c, w = .slice a n c := by obtain ⟨a, c, e⟩ := o4.sees.shape; exact ⟨_, _, _, e⟩
      simp -implicitDefEqProofs
      exact post hp4 o4
end
end Go.Pm.PP
