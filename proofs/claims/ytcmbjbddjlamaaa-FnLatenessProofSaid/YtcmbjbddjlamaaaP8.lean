/- The texts PvSi, PvFf, PvFg, PvFm, PvFn, PvFo, PvLa, PvLb, PsD, PsE, PvMa, PvCa, PvMb, PvMc, PvHa, PvMd, PvHb, PvHc, PvHd, PvHe, PvHf, PvHg, PvMe, PvMf, PvMg, PvHh, PvMh, PsF, PvPa, PvPb, PvPc, PvHi, PvPd, PvWa, PvMi, PvXm, PvXn, PvXc, PvXg, PvXh, PvXi, PvXk, PvXj, PvXl of this work: FnSetValues in the small machine. -/
import Derived.Test.YtcmbjbddjlamaaaP7
/- FnSetValues in the small machine. -/
set_option linter.unusedVariables false
set_option linter.unusedSimpArgs false
set_option maxRecDepth 4000
set_option maxHeartbeats 16000000
namespace Go.Pm.PP
open Go.Pm Go.Proofs Go.Pm.PE
section
variable {h0 h : Hp} {r n : Nat} {vc : Value} {L : List Asn}
end
/-! ### in plain terms -/
theorem ord_of_perm {n : Nat} {xs : List Int} (h : xs.Perm (upTo n)) : Ord n xs := ⟨by rw [h.length_eq, upTo_len], fun x hx => mem_upTo.1 (h.mem_iff.1 hx), h.nodup_iff.2 (upTo_nodup _)⟩
end Go.Pm.PP

/- FnFronts in the small machine. -/
set_option linter.unusedVariables false
set_option linter.unusedSimpArgs false
set_option maxRecDepth 4000
set_option maxHeartbeats 16000000
namespace Go.Pm.PP
open Go.Pm Go.Proofs Go.Pm.PE
section
variable {h0 h : Hp} {r n : Nat} {vc : Value} {L : List Asn}
end
end Go.Pm.PP

/- FnFronts. -/
set_option linter.unusedVariables false
set_option linter.unusedSimpArgs false
set_option maxRecDepth 4000
set_option maxHeartbeats 16000000
namespace Go.Pm.PP
open Go.Pm Go.Proofs Go.Pm.PE
/-! ### in plain terms -/
end Go.Pm.PP

/- Mixtures and limits, in plain terms. -/
set_option linter.unusedVariables false
set_option linter.unusedSimpArgs false
set_option maxRecDepth 4000
set_option maxHeartbeats 4000000
namespace Go.Pm.PP
open Go.Pm Go.Proofs Go.Pm.PE
end Go.Pm.PP

/- FnMixtures: its draws. -/
set_option linter.unusedVariables false
set_option linter.unusedSimpArgs false
set_option maxRecDepth 4000
set_option maxHeartbeats 16000000
namespace Go.Pm.PP
open Go.Pm Go.Proofs Go.Pm.PE
end Go.Pm.PP

/- FnMixtures, from the program's BestUnder. -/
set_option linter.unusedVariables false
set_option linter.unusedSimpArgs false
set_option maxRecDepth 4000
set_option maxHeartbeats 16000000
namespace Go.Pm.PP
open Go.Pm Go.Proofs Go.Pm.PE
end Go.Pm.PP

/- The front of sums and lateness from the ends of orders, in plain terms. -/
set_option linter.unusedVariables false
set_option linter.unusedSimpArgs false
set_option maxRecDepth 4000
namespace Go.Pm.PP
open Go.Pm Go.Proofs Go.Pm.PE
def tJ (js : List Job) (x : Int) : Int := (jA js x).t
def dJ (js : List Job) (x : Int) : Int := (jA js x).d
def backX (js : List Job) (lim : Int) : Option (List Int) := bkF (tJ js) (dJ js) lim js.length (upTo js.length)
theorem sum_smG {js : List Job} (p : Pl js) : ∀ {xs : List Int} {now : Int}, 0 ≤ now → sumGo 2 js now xs = smG (tJ js) now xs
  | [], _, _ => rfl
  | x :: r, now, h => by
    have := p.t x
    rw [sumGo, smG, p.endAt h, sum_smG p (by omega)]
    simp [costV, tJ]
theorem okG_timD {js : List Job} {lim : Int} : ∀ {xs : List Int} {now : Int}, okG (tJ js) (dJ js) lim now xs = timD js lim now xs
  | [], _ => rfl
  | x :: r, now => by rw [okG, timD, okG_timD]; rfl
theorem val_smG {js : List Job} (hok : plOk js = true) {xs : List Int} (o : Ord js.length xs) : valX 2 js xs = smG (tJ js) 0 xs := by
  unfold valX
  rw [val_sum (by omega) (by omega) (ord_prm o), sum_smG (plOk_pl hok) (Int.le_refl 0)]
theorem val_okG {js : List Job} (hok : plOk js = true) {xs : List Int} (o : Ord js.length xs) (hne : 0 < js.length) {lim : Int} (hl : -(2 ^ 20) ≤ lim) : okG (tJ js) (dJ js) lim 0 xs = true ↔ valX 4 js xs ≤ lim := by
  rw [valX_lat hok o hne, okG_timD]
  exact timD_lat (plOk_pl hok) (Int.le_refl 0) hl
theorem back_facts {js : List Job} (hok : plOk js = true) (hne : 0 < js.length) {lim : Int} (hl : -(2 ^ 20) ≤ lim) :
    (backX js lim = none → ∀ xs, Ord js.length xs → lim < valX 4 js xs) ∧
    ∀ o, backX js lim = some o → Ord js.length o ∧ valX 4 js o ≤ lim ∧ ∀ xs, Ord js.length xs → valX 4 js xs ≤ lim → valX 2 js o ≤ valX 2 js xs := by
  obtain ⟨h1, h2⟩ := bkF_spec (t := tJ js) (d := dJ js) (lim := lim) (plOk_pl hok).t (n := js.length) (left := upTo js.length) (upTo_len _) (upTo_nodup _) fun x hx => (mem_upTo.1 hx).1
  refine ⟨fun h xs ox => ?_, fun o ho => ?_⟩
  · have := h1 h xs (ord_perm ox)
    refine Int.not_le.1 fun g => ?_
    rw [(val_okG hok ox hne hl).2 g] at this
    cases this
  · obtain ⟨p1, p2, p3⟩ := h2 o ho
    have oo := ord_of_perm p1
    refine ⟨oo, (val_okG hok oo hne hl).1 p2, fun xs ox hx => ?_⟩
    rw [val_smG hok oo, val_smG hok ox]
    exact p3 xs (ord_perm ox) ((val_okG hok ox hne hl).2 hx)
/-- What holds of the front that has been found down to a limit. -/
structure LInv (js : List Job) (lim : Int) (F : List Pt) : Prop where
  srt : Srt F
  pt : ∀ q, q ∈ F → ∃ xs, Ord js.length xs ∧ ptX 2 4 js xs = q
  cov : ∀ xs, Ord js.length xs → lim < valX 4 js xs → ∃ q, q ∈ F ∧ q.1 ≤ valX 2 js xs ∧ q.2 ≤ valX 4 js xs
theorem LInv.step {js : List Job} {lim : Int} {F : List Pt} (hok : plOk js = true) (hne : 0 < js.length) (hl : -(2 ^ 20) ≤ lim) (I : LInv js lim F) {o : List Int} (ho : backX js lim = some o) : LInv js (valX 4 js o - 1) (putF F (ptX 2 4 js o)) := by
  obtain ⟨oo, h1, h2⟩ := (back_facts hok hne hl).2 o ho
  refine ⟨putF_srt I.srt, fun q hq => ?_, fun xs ox hx => ?_⟩
  · rcases putF_mem hq with rfl | g
    · exact ⟨o, oo, rfl⟩
    · exact I.pt q g
  · by_cases c : lim < valX 4 js xs
    · exact putF_cover (r := ptX 2 4 js xs) (.inr (I.cov xs ox c))
    · obtain ⟨q, hq, q1, q2⟩ := putF_cover (F := F) (p := ptX 2 4 js o) (r := ptX 2 4 js o) (.inl rfl)
      have e1 : (ptX 2 4 js o).1 = valX 2 js o := rfl
      have e2 : (ptX 2 4 js o).2 = valX 4 js o := rfl
      have := h2 xs ox (by omega)
      exact ⟨q, hq, by omega, by omega⟩
theorem LInv.all {js : List Job} {lim : Int} {F : List Pt} (hok : plOk js = true) (I : LInv js lim F) (h : ∀ xs, Ord js.length xs → lim < valX 4 js xs) : F = frontR 2 4 js := by
  obtain ⟨hn, _, _⟩ := plOk_of hok
  obtain ⟨s, m, c⟩ := front_facts (f := 2) (g := 4) (js := js) hn
  refine front_uniq I.srt s (fun q hq => ?_) fun q hq => ?_
  · obtain ⟨xs, ox, rfl⟩ := I.pt q hq
    exact c xs ox
  · obtain ⟨xs, ox, rfl⟩ := m q hq
    exact I.cov xs ox (h xs ox)
end Go.Pm.PP

/- The order that is found from its end, and the front that is found by it, of both. -/
set_option linter.unusedVariables false
set_option linter.unusedSimpArgs false
set_option maxRecDepth 4000
set_option maxHeartbeats 16000000
namespace Go.Pm.PP
open Go.Pm Go.Proofs Go.Pm.PE
theorem nil_L {h : Hp} : Ints h (.slice none 0 0) ([] : List Int) := ⟨by simp, none, 0, rfl, .inl ⟨rfl, rfl, rfl⟩⟩
section
variable {h : Hp} {vj v u : Value} {js : List Job} {xs ys : List Int} {lim : Int}
/-! ### the choice -/
end
end Go.Pm.PP

/- Tables of the greatest weights of timely sets, in plain terms: by sets, and by jobs in due order. -/
set_option linter.unusedVariables false
set_option linter.unusedSimpArgs false
namespace Go.Pm.PE
open Go.Pm.PP
/-- A table that tells for each sum of times the greatest weight of a class of sets, -1 where there is none. -/
structure TabK (t w : Int → Int) (N : Nat) (cls : List Int → Prop) (T : List Int) : Prop where
  len : T.length = N + 1
  low : ∀ k, k ≤ N → -1 ≤ gE T k
  up : ∀ S, cls S → ∀ k : Nat, k ≤ N → tsm t S = k → tsm w S ≤ gE T k
  att : ∀ k : Nat, k ≤ N → 0 ≤ gE T k → ∃ S, cls S ∧ tsm t S = k ∧ tsm w S = gE T k
section
variable {t w d : Int → Int} {N : Nat}
theorem tsm_nonneg (hw : ∀ x, 0 ≤ w x) : ∀ {S : List Int}, 0 ≤ tsm w S
  | [] => by simp [tsm]
  | x :: S => by rw [tsm_cons]; have := hw x; have := tsm_nonneg hw (S := S); omega
/-! ### by sets -/
def upT (T : List Int) (k : Int) (x : Int) : List Int := T.set k.toNat (max (gE T k.toNat) x)
theorem TabK.nil : TabK t w N (fun _ => False) (List.replicate (N + 1) (-1)) := by
  have e : ∀ k, k ≤ N → gE (List.replicate (N + 1) (-1 : Int)) k = -1 := fun k hk => by simp [gE, List.getElem?_replicate, show k < N + 1 by omega]
  exact ⟨by simp, fun k hk => by rw [e k hk]; omega, fun S h => h.elim, fun k hk h => by rw [e k hk] at h; omega⟩
theorem TabK.add {cls : List Int → Prop} {T S0 : List Int} (h : TabK t w N cls T) (hw : ∀ x, 0 ≤ w x) (h0 : 0 ≤ tsm t S0) (h1 : tsm t S0 ≤ N) : TabK t w N (fun S => cls S ∨ S = S0) (upT T (tsm t S0) (tsm w S0)) := by
  obtain ⟨m, hm⟩ : ∃ m : Nat, (m : Int) = tsm t S0 := ⟨(tsm t S0).toNat, by omega⟩
  have hl : m < T.length := by rw [h.len]; omega
  have e : ∀ k : Nat, gE (upT T (tsm t S0) (tsm w S0)) k = if k = m then max (gE T m) (tsm w S0) else gE T k := fun k => by
    unfold upT
    rw [← hm, Int.toNat_natCast, gE_set hl]
  have hw0 := tsm_nonneg hw (S := S0)
  refine ⟨by unfold upT; rw [List.length_set, h.len], fun k hk => ?_, fun S hS k hk hs => ?_, fun k hk hg => ?_⟩
  · have := h.low k hk
    rw [e]; split
    · have := h.low m (by omega); omega
    · exact this
  · rw [e]
    rcases hS with g | rfl
    · have := h.up S g k hk hs
      split
      · rename_i c; subst c; omega
      · exact this
    · rw [if_pos (by omega)]; omega
  · rw [e] at hg ⊢
    split
    · rename_i c
      subst c
      rw [if_pos rfl] at hg
      by_cases g : gE T k ≤ tsm w S0
      · exact ⟨S0, .inr rfl, hm.symm, by omega⟩
      · obtain ⟨S, hS, a1, a2⟩ := h.att k hk (by omega)
        exact ⟨S, .inl hS, a1, by omega⟩
    · rename_i c
      rw [if_neg c] at hg
      obtain ⟨S, hS, a1, a2⟩ := h.att k hk hg
      exact ⟨S, .inl hS, a1, a2⟩
theorem TabK.weak {cls cls' : List Int → Prop} {T : List Int} (h : TabK t w N cls T) (e : ∀ S, cls S ↔ cls' S) : TabK t w N cls' T :=
  ⟨h.len, h.low, fun S hS => h.up S ((e S).2 hS), fun k hk hg => by obtain ⟨S, hS, a⟩ := h.att k hk hg; exact ⟨S, (e S).1 hS, a⟩⟩
/-! ### by jobs -/
def clsP (t d : Int → Int) (D : List Int) (S : List Int) : Prop := S.Sublist D ∧ okG t d 0 0 S = true
theorem sub_snoc {D S : List Int} {x : Int} : S.Sublist (D ++ [x]) ↔ S.Sublist D ∨ ∃ S', S = S' ++ [x] ∧ S'.Sublist D := by
  constructor
  · intro h
    obtain ⟨A, B, rfl, hA, hB⟩ := List.sublist_append_iff.1 h
    rcases List.sublist_cons_iff.1 hB with g | ⟨r, rfl, g⟩
    · left; rw [List.sublist_nil.1 g, List.append_nil]; exact hA
    · right; rw [List.sublist_nil.1 g]; exact ⟨A, rfl, hA⟩
  · rintro (h | ⟨S', rfl, h⟩)
    · exact h.trans (List.sublist_append_left ..)
    · exact h.append (List.Sublist.refl _)
theorem TabK.one (hw : ∀ x, 0 ≤ w x) : TabK t w N (clsP t d []) (0 :: List.replicate N (-1)) := by
  have e : ∀ k : Nat, k ≤ N → gE ((0 : Int) :: List.replicate N (-1 : Int)) k = if k = 0 then 0 else -1 := fun k hk => by
    cases k with
    | zero => rfl
    | succ k => simp [gE, List.getElem?_replicate, show k < N by omega]
  have hn : ∀ {S}, clsP t d [] S → S = [] := fun h => List.sublist_nil.1 h.1
  refine ⟨by simp, fun k hk => by rw [e k hk]; split <;> omega, fun S hS k hk hs => ?_, fun k hk h => ?_⟩
  · rw [hn hS] at hs ⊢
    have hs : (0 : Int) = k := hs
    rw [e k hk, if_pos (by omega)]
    exact Int.le_refl _
  · rw [e k hk] at h ⊢
    split at h
    · rename_i c
      subst c
      exact ⟨[], ⟨List.Sublist.refl _, rfl⟩, rfl, rfl⟩
    · omega
end
end Go.Pm.PE

/- Sets ordered by their numbers of jobs and then lexicographically, in plain terms. -/
set_option linter.unusedVariables false
set_option linter.unusedSimpArgs false
namespace Go.Pm.PE
open Go.Pm.PP
/-- Each ascending list of numbers is that of a code. -/
theorem bits_of {n : Nat} : ∀ {m : Nat}, m ≤ n → ∀ {s : List Int}, s.Pairwise (· < ·) → (∀ x, x ∈ s → 0 ≤ x ∧ x < m) → ∃ c, c < 2 ^ m ∧ bitsL n c = s
  | 0, _, s, _, h => by
    have : s = [] := by
      cases s with
      | nil => rfl
      | cons x s => have := h x (List.mem_cons_self ..); omega
    subst this
    exact ⟨0, by simp, bits_zero⟩
  | m + 1, hm, s, hs, h => by
    by_cases g : (m : Int) ∈ s
    · obtain ⟨A, B, rfl⟩ := List.append_of_mem g
      have hB : B = [] := by
        cases B with
        | nil => rfl
        | cons y B =>
          have h1 := (List.pairwise_append.1 hs).2.1
          have := (List.pairwise_cons.1 h1).1 y (List.mem_cons_self ..)
          have := h y (by simp)
          omega
      subst hB
      obtain ⟨h1, _, h3⟩ := List.pairwise_append.1 hs
      obtain ⟨c, hc, e⟩ := bits_of (n := n) (m := m) (by omega) h1 fun x hx => ⟨(h x (List.mem_append_left _ hx)).1, h3 x hx m (by simp)⟩
      refine ⟨c + 2 ^ m, by rw [Nat.pow_succ]; omega, ?_⟩
      have tb : (c + 2 ^ m).testBit m = true := by
        rw [Nat.add_comm, Nat.testBit_two_pow_add_eq, Nat.testBit_lt_two_pow hc]; rfl
      have hp := bits_del (n := n) (c := c + 2 ^ m) (i := m) (by omega) tb
      rw [show c + 2 ^ m - 2 ^ m = c by omega, e] at hp
      exact sorted_eq (R := fun a b => a < b) (fun a b h1 h2 => by omega) bits_asc hs (hp.trans (List.perm_append_comm (l₁ := [(m : Int)])))
    · obtain ⟨c, hc, e⟩ := bits_of (n := n) (m := m) (by omega) hs fun x hx => ⟨(h x hx).1, by
        have := (h x hx).2
        have : x ≠ m := fun k => g (k ▸ hx)
        omega⟩
      exact ⟨c, by rw [Nat.pow_succ]; omega, e⟩
end Go.Pm.PE

/- Sets: guards of both; timely sets and their orders, of both. -/
set_option linter.unusedVariables false
set_option linter.unusedSimpArgs false
set_option maxRecDepth 4000
set_option maxHeartbeats 16000000
namespace Go.Pm.PP
open Go.Pm Go.Proofs Go.Pm.PE
def risL : List Int → Bool
  | a :: b :: r => !decide (b ≤ a) && risL (b :: r)
  | _ => true
theorem ris_iff : ∀ {xs : List Int}, risL xs = true ↔ xs.Pairwise (· < ·)
  | [] => by simp [risL]
  | [a] => by simp [risL]
  | a :: b :: r => by
    rw [risL, Bool.and_eq_true, ris_iff, Bool.not_eq_true', decide_eq_false_iff_not]
    constructor
    · rintro ⟨h1, h2⟩
      refine List.pairwise_cons.2 ⟨fun x hx => ?_, h2⟩
      rcases List.mem_cons.1 hx with rfl | g
      · omega
      · have := (List.pairwise_cons.1 h2).1 x g; omega
    · intro h
      have := (List.pairwise_cons.1 h).1 b (List.mem_cons_self ..)
      exact ⟨by omega, (List.pairwise_cons.1 h).2⟩
def setB (n : Nat) (xs : List Int) : Bool := xs.all (fun x => decide (0 ≤ x) && decide (x < n)) && risL xs
theorem setB_iff {n : Nat} {xs : List Int} : setB n xs = true ↔ inN n xs ∧ xs.Pairwise (· < ·) := by
  rw [setB, Bool.and_eq_true, ris_iff, List.all_eq_true]
  simp only [Bool.and_eq_true, decide_eq_true_eq]
  rfl
theorem arGoN_iff {n : Nat} (hn : n ≤ 2 ^ 40) : ∀ {xs us : List Int}, arGo n us xs = true ↔ inN n xs ∧ xs.Nodup ∧ ∀ x, x ∈ xs → hasL x us = false
  | [], us => by simp [arGo, inN]
  | x :: r, us => by
    have w1 : w64 ((n : Int) - 1) = (n : Int) - 1 := by unfold w64; rw [wrap_ok] <;> omega
    rw [arGo, Bool.and_eq_true, Bool.and_eq_true, w1, arGoN_iff hn, Bool.not_eq_true', List.nodup_cons]
    have hi : inB x 0 ((n : Int) - 1) = true ↔ 0 ≤ x ∧ x < n := by simp [inB]; omega
    have hh : ∀ y, hasL y (us ++ [x]) = (hasL y us || (x == y)) := fun y => by simp [hasL]
    rw [hi]
    constructor
    · rintro ⟨⟨a, b⟩, c, d, e⟩
      refine ⟨fun y hy => ?_, ⟨fun hx => ?_, d⟩, fun y hy => ?_⟩
      · rcases List.mem_cons.1 hy with rfl | g
        · exact a
        · exact c y g
      · have := e x hx
        rw [hh] at this
        simp at this
      · rcases List.mem_cons.1 hy with rfl | g
        · exact b
        · have := e y g
          rw [hh, Bool.or_eq_false_iff] at this
          exact this.1
    · rintro ⟨a, ⟨b, c⟩, d⟩
      refine ⟨⟨a x (List.mem_cons_self ..), d x (List.mem_cons_self ..)⟩, fun y hy => a y (List.mem_cons_of_mem _ hy), c, fun y hy => ?_⟩
      rw [hh, d y (List.mem_cons_of_mem _ hy)]
      have : ¬ x = y := fun g => b (g ▸ hy)
      simpa using this
theorem setB_eq {n : Nat} (hn : n ≤ 2 ^ 40) {xs : List Int} : (risL xs && arGo n [] xs) = setB n xs := by
  rw [Bool.eq_iff_iff, Bool.and_eq_true, ris_iff, arGoN_iff hn, setB_iff]
  constructor
  · rintro ⟨a, b, _⟩; exact ⟨b, a⟩
  · rintro ⟨a, b⟩; exact ⟨b, a, b.imp fun h => by omega, fun x _ => rfl⟩
section
variable {h : Hp} {vj v u : Value} {js : List Job} {xs : List Int}
theorem isRisingG_run (X : Ints h v xs) (hn : xs.length ≤ 2 ^ 40) : Ret P G n_impl_isRising [v] h (.bool (risL xs)) h := by
  refine enter_run e_impl_isRising (by simp) ?_
  have Xs := X
  obtain ⟨oa, c, rfl⟩ := X.shapeT
  simp -implicitDefEqProofs
  refine R_loopO (fun m s h' => ∃ i : Nat, i + m = xs.length ∧ s = [(0, .slice oa xs.length c), (3, .int .i64 ((i : Int) + 1))] ∧ h' = h ∧ risL xs = risL (xs.drop i)) (fun I hI m s h' => ?_) (n := xs.length) ⟨0, Nat.zero_add _, by simp⟩
  rintro ⟨i, hi, rfl, rfl, hx⟩
  by_cases hlt : i + 1 < xs.length
  · obtain ⟨y, hy, hd⟩ := drop_at (show i < xs.length by omega)
    obtain ⟨z, hz, hd2⟩ := drop_at hlt
    rw [hd, hd2, risL, ← hd2] at hx
    have ly := load_I Xs hy
    have lz := load_I Xs hz
    simp only [Int.natCast_add, Int.cast_ofNat_Int] at lz
    have w0 : IntKind.i64.wrap (i : Int) = i := by rw [wrap_ok] <;> omega
    have w2 : IntKind.i64.wrap ((i : Int) + 1 + 1) = (i : Int) + 1 + 1 := by rw [wrap_ok] <;> omega
    have hlt' : (i : Int) + 1 < xs.length := by omega
    by_cases h1 : z ≤ y
    · rw [decide_eq_true h1] at hx
      simp -implicitDefEqProofs [-indexAddrP_some, hlt, hlt', w0, w2, ly, lz, h1]
      simpa using hx
    · rw [decide_eq_false h1] at hx
      simp -implicitDefEqProofs [-indexAddrP_some, hlt, hlt', w0, w2, ly, lz, h1]
      exact ⟨m - 1, by omega, on hI ⟨i + 1, by omega, by simp, rfl, by simpa using hx⟩⟩
  · have hr : risL (xs.drop i) = true := by
      have : (xs.drop i).length ≤ 1 := by simp; omega
      match xs.drop i, this with
      | [], _ => rfl
      | [_], _ => rfl
    have hlt' : ¬ (i : Int) + 1 < xs.length := by omega
    simp -implicitDefEqProofs [hlt, hlt', hx, hr]
theorem isSetG_run {n : Nat} (X : Ints h v xs) (hn : xs.length ≤ 2 ^ 40) (hn2 : n ≤ 2 ^ 40) : Ret P G n_impl_isSet [.int .i64 n, v] h (.bool (setB n xs)) h := by
  refine enter_run e_impl_isSet (by simp) ?_
  have r1 := isRisingG_run X hn
  have r2 := areDifferent_run (n := n) X hn
  rw [← setB_eq hn2]
  obtain ⟨oa, c, rfl⟩ := X.shapeT
  cases h1 : risL xs
  · rw [h1] at r1
    simp -implicitDefEqProofs [CL_ret r1]
  · rw [h1] at r1
    simp -implicitDefEqProofs [CL_ret r1, CL_ret r2]
def upR (lo hi : Int) : List Int → Option Int → Bool
  | [], _ => true
  | x :: r, p => inB x lo hi && (match p with | some a => !decide (x ≤ a) | none => true) && upR lo hi r (some x)
theorem upR_nil {lo hi : Int} {p : Option Int} : upR lo hi [] p = true := rfl
theorem upR_cons0 {lo hi x : Int} {r : List Int} : upR lo hi (x :: r) none = (inB x lo hi && true && upR lo hi r (some x)) := rfl
theorem upR_cons1 {lo hi x a : Int} {r : List Int} : upR lo hi (x :: r) (some a) = (inB x lo hi && (!decide (x ≤ a)) && upR lo hi r (some x)) := rfl
theorem upR_some {lo hi : Int} : ∀ {xs : List Int} {p : Int}, upR lo hi xs (some p) = (xs.all (fun x => inB x lo hi) && risL (p :: xs))
  | [], p => rfl
  | x :: r, p => by
    rw [upR_cons1, upR_some, List.all_cons, risL]
    cases inB x lo hi <;> cases decide (x ≤ p) <;> simp
theorem upR_none {n : Nat} : upR 0 ((n : Int) - 1) xs none = setB n xs := by
  have e : ∀ x, inB x 0 ((n : Int) - 1) = (decide (0 ≤ x) && decide (x < n)) := fun x => by
    rw [Bool.eq_iff_iff]; simp [inB]; omega
  unfold setB
  cases xs with
  | nil => rfl
  | cons x r =>
    rw [upR_cons0, upR_some, List.all_cons]
    simp only [e, Bool.and_true, Bool.and_assoc]
theorem l1RisingG_run {lo hi : Int} (X : Ints h v xs) (hn : xs.length ≤ 2 ^ 40) : Ret P G n_spec_l1Rising [v, .int .i64 lo, .int .i64 hi] h (.bool (upR lo hi xs none)) h := by
  refine enter_run e_spec_l1Rising (by simp) ?_
  have Xs := X
  obtain ⟨oa, c, rfl⟩ := X.shapeT
  simp -implicitDefEqProofs
  refine R_loopO (fun m s h' => ∃ i : Nat, i + m = xs.length ∧ s = [(0, .slice oa xs.length c), (1, .int .i64 lo), (2, .int .i64 hi), (7, .int .i64 i)] ∧ h' = h ∧ upR lo hi xs none = upR lo hi (xs.drop i) (if i = 0 then none else xs[i - 1]?)) (fun I hI m s h' => ?_) (n := xs.length) ⟨0, Nat.zero_add _, by simp⟩
  rintro ⟨i, hi', rfl, rfl, hx⟩
  by_cases hlt : i < xs.length
  · obtain ⟨y, hy, hd⟩ := drop_at hlt
    rw [hd] at hx
    have ly := load_I Xs hy
    have next : upR lo hi (xs.drop (i + 1)) (some y) = upR lo hi (xs.drop (i + 1)) (if i + 1 = 0 then none else xs[i + 1 - 1]?) := by simp [hy]
    by_cases h0 : i = 0
    · subst h0
      rw [if_pos rfl, upR_cons0, next] at hx
      simp only [Int.cast_ofNat_Int] at ly
      have w0 : IntKind.i64.wrap 1 = 1 := by rw [wrap_ok] <;> omega
      have hlt' : (0 : Int) < xs.length := by omega
      cases h1 : inB y lo hi
      · rw [h1] at hx
        simp -implicitDefEqProofs [-indexAddrP_some, hlt, hlt', ly, CH_at l1In_run, CL_ret l1In_run, h1, w0]
        simpa using hx
      · rw [h1] at hx
        simp -implicitDefEqProofs [-indexAddrP_some, hlt, hlt', ly, CH_at l1In_run, CL_ret l1In_run, h1, w0]
        exact ⟨m - 1, by omega, on hI ⟨1, by omega, by simp, rfl, by simpa using hx⟩⟩
    · obtain ⟨k, rfl⟩ : ∃ k, i = k + 1 := ⟨i - 1, by omega⟩
      obtain ⟨z, hz, _⟩ := drop_at (show k < xs.length by omega)
      rw [if_neg h0, Nat.add_sub_cancel, hz, upR_cons1, next] at hx
      have lz := load_I Xs hz
      simp only [Int.natCast_add, Int.cast_ofNat_Int] at ly
      have w0 : IntKind.i64.wrap (k : Int) = k := by rw [wrap_ok] <;> omega
      have w2 : IntKind.i64.wrap ((k : Int) + 1 + 1) = (k : Int) + 1 + 1 := by rw [wrap_ok] <;> omega
      have hlt' : (k : Int) + 1 < xs.length := by omega
      have hp' : (0 : Int) < (k : Int) + 1 := by omega
      cases h1 : inB y lo hi
      · rw [h1] at hx
        simp -implicitDefEqProofs [-indexAddrP_some, hlt, hlt', hp', ly, lz, CH_at l1In_run, CL_ret l1In_run, h1, w0, w2]
        simpa using hx
      · by_cases h2 : y ≤ z
        · rw [h1, decide_eq_true h2] at hx
          simp -implicitDefEqProofs [-indexAddrP_some, hlt, hlt', hp', ly, lz, CH_at l1In_run, CL_ret l1In_run, h1, h2, w0, w2]
          simpa using hx
        · rw [h1, decide_eq_false h2] at hx
          simp -implicitDefEqProofs [-indexAddrP_some, hlt, hlt', hp', ly, lz, CH_at l1In_run, CL_ret l1In_run, h1, h2, w0, w2]
          exact ⟨m - 1, by omega, on hI ⟨k + 1 + 1, by omega, by simp, rfl, by simpa using hx⟩⟩
  · have hlt' : ¬ (i : Int) < xs.length := by omega
    rw [List.drop_eq_nil_of_le (by omega), upR_nil] at hx
    simp -implicitDefEqProofs [hlt, hlt', hx]
/-! ### timely sets -/
end
end Go.Pm.PP

/- Tables of truth values in the small machine; the closure of pairs, by both. -/
set_option linter.unusedVariables false
set_option linter.unusedSimpArgs false
set_option maxRecDepth 4000
set_option maxHeartbeats 16000000
namespace Go.Pm.PP
open Go.Pm Go.Proofs Go.Pm.PE
section
variable {h : Hp} {ve : Value} {es : List (Int × Int)} {n : Nat}
end
end Go.Pm.PP

/- Typed rules for slices: printed by a program of this work (wrap.py). -/
set_option linter.unusedVariables false
set_option linter.unusedSimpArgs false
set_option maxRecDepth 4000
namespace Go.Pm.PP
open Go.Pm Go.Proofs
end Go.Pm.PP

/- Sets in order: comparisons and insertion, of both. -/
set_option linter.unusedVariables false
set_option linter.unusedSimpArgs false
set_option maxRecDepth 4000
set_option maxHeartbeats 16000000
namespace Go.Pm.PP
open Go.Pm Go.Proofs Go.Pm.PE
section
variable {h : Hp} {v u : Value} {xs ys : List Int}
end
end Go.Pm.PP

/- Orders by vectors of ends; ascending lists; sums. -/
set_option linter.unusedVariables false
set_option linter.unusedSimpArgs false
set_option maxRecDepth 4000
set_option maxHeartbeats 16000000
namespace Go.Pm.PP
open Go.Pm Go.Proofs Go.Pm.PE
section
variable {h : Hp} {vj v ve vs : Value} {js : List Job} {xs es s : List Int}
theorem load_EX {x : Int} (E : Ints h ve es) (hx : 0 ≤ x ∧ x < es.length) : indexAddrP P h t_S_int ve (.int .i64 x) = some (.pointer (some (addP (base ve) x.toNat))) ∧ loadP P h t_int (.pointer (some (addP (base ve) x.toNat))) = some (.int .i64 (gE es x.toNat)) := by
  have := load_I E (gE_get (l := es) (i := x.toNat) (by omega))
  rw [show ((x.toNat : Nat) : Int) = x by omega] at this
  exact this
/-! ### put in ascending order -/
end
end Go.Pm.PP

/- Timely sets, of both. -/
set_option linter.unusedVariables false
set_option linter.unusedSimpArgs false
set_option maxRecDepth 4000
set_option maxHeartbeats 16000000
namespace Go.Pm.PP
open Go.Pm Go.Proofs Go.Pm.PE
section
variable {h : Hp} {vj v : Value} {js : List Job}
end
end Go.Pm.PP

/- Sums over sets; vectors. -/
set_option linter.unusedVariables false
set_option linter.unusedSimpArgs false
set_option maxRecDepth 4000
set_option maxHeartbeats 16000000
namespace Go.Pm.PP
open Go.Pm Go.Proofs Go.Pm.PE
section
variable {h : Hp} {vj v ve vs : Value} {js : List Job} {xs es s : List Int}
/-! ### sums -/
def supL (js : List Job) (es s : List Int) : Int := (s.map fun i => (jA js i).t * gE es i.toNat).sum
def timS (js : List Job) (s : List Int) : Int := (s.map fun i => (jA js i).t).sum
def sqrS (js : List Job) (s : List Int) : Int := (s.map fun i => (jA js i).t * (jA js i).t).sum
end
end Go.Pm.PP

/- Vectors of ends: guards, short sets. -/
set_option linter.unusedVariables false
set_option linter.unusedSimpArgs false
set_option maxRecDepth 4000
set_option maxHeartbeats 16000000
namespace Go.Pm.PP
open Go.Pm Go.Proofs Go.Pm.PE
section
variable {h : Hp} {vj v ve vs u : Value} {js : List Job} {xs ys es s : List Int}
/-! ### short sets -/
end
end Go.Pm.PP

/- Vectors of ends: what both export. -/
set_option linter.unusedVariables false
set_option linter.unusedSimpArgs false
set_option maxRecDepth 4000
set_option maxHeartbeats 16000000
namespace Go.Pm.PP
open Go.Pm Go.Proofs Go.Pm.PE
section
variable {h : Hp} {vj v ve vs u : Value} {js : List Job} {xs ys es s : List Int}
end
end Go.Pm.PP

/- Vectors of orders, demands and supplies of sets, mixtures. -/
set_option linter.unusedVariables false
set_option linter.unusedSimpArgs false
set_option maxRecDepth 4000
set_option maxHeartbeats 16000000
namespace Go.Pm.PP
open Go.Pm Go.Proofs Go.Pm.PE
section
variable {h : Hp} {vj v ve vs u va vb : Value} {js : List Job} {xs ys es s a b : List Int} {x y : Int}
/-! ### sets -/
end
end Go.Pm.PP

/- Mixtures of vectors. -/
set_option linter.unusedVariables false
set_option linter.unusedSimpArgs false
set_option maxRecDepth 4000
set_option maxHeartbeats 16000000
namespace Go.Pm.PP
open Go.Pm Go.Proofs Go.Pm.PE
section
variable {h : Hp} {vj v ve vs u va vb : Value} {js : List Job} {xs ys es s a b : List Int} {x y : Int}
end
end Go.Pm.PP

/- Vectors of ends, in plain terms: short sets are first parts; orders' vectors; mixtures. -/
set_option linter.unusedVariables false
set_option linter.unusedSimpArgs false
set_option maxRecDepth 4000
set_option maxHeartbeats 4000000
namespace Go.Pm.PP
open Go.Pm Go.Proofs Go.Pm.PE
/-- Twice what a set has above its demand. -/
def f2 (js : List Job) (es s : List Int) : Int := 2 * supL js es s - (timS js s * timS js s + sqrS js s)
/-! ### vectors of orders -/
/-! ### mixtures -/
end Go.Pm.PP

/- The table of weights, the least weight of late jobs and timely orders, in plain terms. -/
set_option linter.unusedVariables false
set_option linter.unusedSimpArgs false
set_option maxRecDepth 4000
namespace Go.Pm.PP
open Go.Pm Go.Proofs Go.Pm.PE
section
variable {js : List Job}
/-! ### the greatest one -/
/-! ### late jobs of an order -/
/-! ### an order that begins with a timely set -/
end
end Go.Pm.PP

/- The table of weights and the least weight of late jobs, of both; timely orders, of both. -/
set_option linter.unusedVariables false
set_option linter.unusedSimpArgs false
set_option maxRecDepth 4000
set_option maxHeartbeats 16000000
namespace Go.Pm.PP
open Go.Pm Go.Proofs Go.Pm.PE
section
variable {h : Hp} {vj v u : Value} {js : List Job} {xs ys : List Int}
end
end Go.Pm.PP

/- The table of weights by the reference; the least weight of late jobs and timely orders, of both; late jobs. -/
set_option linter.unusedVariables false
set_option linter.unusedSimpArgs false
set_option maxRecDepth 4000
set_option maxHeartbeats 16000000
namespace Go.Pm.PP
open Go.Pm Go.Proofs Go.Pm.PE
theorem l1Least_run {h : Hp} {a b : Int} : Ret P G n_spec_l1Least [.int .i64 a, .int .i64 b] h (.int .i64 (min a b)) h := by
  refine enter_run e_spec_l1Least (by simp) ?_
  by_cases c : a < b
  · simp -implicitDefEqProofs [c, Int.min_eq_left (Int.le_of_lt c)]
  · simp -implicitDefEqProofs [c, Int.min_eq_right (Int.not_lt.1 c)]
section
variable {h : Hp} {vj v u : Value} {js : List Job} {xs ys : List Int}
theorem set_same {T : List Int} {k : Nat} (hk : k < T.length) : T.set k (gE T k) = T := by
  apply List.ext_getElem?
  intro i
  rw [List.getElem?_set]
  split
  · rename_i e; subst e; exact (gE_get hk).symm
  · rfl
end
end Go.Pm.PP

/- FnVectors, from its draws. -/
set_option linter.unusedVariables false
set_option linter.unusedSimpArgs false
set_option maxRecDepth 4000
set_option maxHeartbeats 16000000
namespace Go.Pm.PP
open Go.Pm Go.Proofs Go.Pm.PE
end Go.Pm.PP

/- Timely orders, the least weight of late jobs, late jobs; comparisons of the laws. -/
set_option linter.unusedVariables false
set_option linter.unusedSimpArgs false
set_option maxRecDepth 4000
set_option maxHeartbeats 16000000
namespace Go.Pm.PP
open Go.Pm Go.Proofs Go.Pm.PE
section
variable {h : Hp} {vj v u : Value} {js : List Job} {xs ys : List Int}
/-! ### orders -/
/-! ### late jobs -/
end
end Go.Pm.PP

/- The late rule, in plain terms: what is left is a largest part of the jobs taken that can be on time, with the least sum of times. -/
set_option linter.unusedVariables false
set_option linter.unusedSimpArgs false
namespace Go.Pm.PE
open Go.Pm.PP
section
variable (t d : Int → Int)
/-- The index of the first one of the longest. -/
def lgS (l : List Int) (b i : Nat) : Nat := if t (gE l b) < t (gE l i) then i else b
def lgI (l : List Int) : Nat := (List.range' 0 l.length).foldl (lgS t l) 0
end
section
variable {t d : Int → Int}
theorem lg_go {l : List Int} : ∀ {m i b : Nat}, b < l.length → i + m ≤ l.length → let q := (List.range' i m).foldl (lgS t l) b
    q < l.length ∧ t (gE l b) ≤ t (gE l q) ∧ (∀ j, i ≤ j → j < i + m → t (gE l j) ≤ t (gE l q)) ∧ (q = b ∨ t (gE l b) < t (gE l q)) ∧ (q = b ∨ i ≤ q)
  | 0, i, b, hb, _ => ⟨hb, Int.le_refl _, fun j h1 h2 => by omega, .inl rfl, .inl rfl⟩
  | m + 1, i, b, hb, h => by
    rw [List.range'_succ, List.foldl_cons]
    by_cases c : t (gE l b) < t (gE l i)
    · have e : lgS t l b i = i := by unfold lgS; rw [if_pos c]
      rw [e]
      obtain ⟨h1, h2, h3, h4, h5⟩ := lg_go (l := l) (m := m) (i := i + 1) (b := i) (by omega) (by omega)
      refine ⟨h1, by omega, fun j j1 j2 => ?_, .inr (by omega), .inr (by omega)⟩
      rcases Nat.lt_or_ge i j with g | g
      · exact h3 j g (by omega)
      · have : j = i := by omega
        subst this; exact h2
    · have e : lgS t l b i = b := by unfold lgS; rw [if_neg c]
      rw [e]
      obtain ⟨h1, h2, h3, h4, h5⟩ := lg_go (l := l) (m := m) (i := i + 1) (b := b) hb (by omega)
      refine ⟨h1, h2, fun j j1 j2 => ?_, h4, by omega⟩
      rcases Nat.lt_or_ge i j with g | g
      · exact h3 j g (by omega)
      · have : j = i := by omega
        subst this; omega
theorem lg_spec {l : List Int} (h : l ≠ []) : lgI t l < l.length ∧ ∀ x, x ∈ l → t x ≤ t (gE l (lgI t l)) := by
  have hp : 0 < l.length := List.length_pos_iff.2 h
  obtain ⟨h1, h2, h3, _⟩ := lg_go (t := t) (l := l) (m := l.length) (i := 0) (b := 0) hp (by omega)
  refine ⟨h1, fun x hx => ?_⟩
  obtain ⟨j, hj⟩ := List.getElem?_of_mem hx
  have hjl := (List.getElem?_eq_some_iff.1 hj).1
  have := h3 j (by omega) (by omega)
  have e : gE l j = x := by unfold gE; rw [hj]; rfl
  rw [e] at this
  exact this
theorem erase_perm {l : List Int} {k : Nat} (h : k < l.length) : l.Perm (gE l k :: l.eraseIdx k) := by
  have e : l = l.take k ++ gE l k :: l.drop (k + 1) := by
    have h1 : l[k]? = some (gE l k) := gE_get h
    have := List.take_append_drop k l
    rw [List.drop_eq_getElem_cons h] at this
    have e2 : l[k] = gE l k := by have := List.getElem?_eq_some_iff.1 h1; exact this.2
    rw [e2] at this
    exact this.symm
  rw [List.eraseIdx_eq_take_drop_succ]
  conv => lhs; rw [e]
  exact List.perm_middle
theorem okG_drop {A B : List Int} {x : Int} (ht : ∀ x, 0 ≤ t x) {now : Int} (h : okG t d 0 now (A ++ x :: B) = true) : okG t d 0 now (A ++ B) = true := by
  rw [okG_app, Bool.and_eq_true] at h ⊢
  refine ⟨h.1, ?_⟩
  have h2 := h.2
  rw [okG, Bool.and_eq_true] at h2
  have := ht x
  exact okG_mono (by omega) h2.2
theorem okG_erase {l : List Int} {k : Nat} (ht : ∀ x, 0 ≤ t x) (hk : k < l.length) {now : Int} (h : okG t d 0 now l = true) : okG t d 0 now (l.eraseIdx k) = true := by
  have e : l = l.take k ++ l[k] :: l.drop (k + 1) := by
    have := List.take_append_drop k l
    rw [List.drop_eq_getElem_cons hk] at this
    exact this.symm
  rw [List.eraseIdx_eq_take_drop_succ]
  rw [e] at h
  exact okG_drop ht h
/-- The end of a list that is on time: its sum is no greater than the date of its last one. -/
theorem ok_last {l : List Int} {x : Int} (h : okG t d 0 0 (l ++ [x]) = true) : tsm t (l ++ [x]) ≤ d x := by
  rw [okG_app, Bool.and_eq_true] at h
  have h2 := h.2
  simp only [okG, Bool.and_true, decide_eq_true_eq] at h2
  rw [tsm_app, tsm_cons]
  simp only [show tsm t [] = 0 from rfl]
  omega
theorem nd_le {s l : List Int} (h : s.Nodup) (hm : ∀ x, x ∈ s → x ∈ l) : s.length ≤ l.length := by
  induction s generalizing l with
  | nil => simp
  | cons x s ih =>
    obtain ⟨h1, h2⟩ := List.nodup_cons.1 h
    have hx := hm x (List.mem_cons_self ..)
    have p := List.perm_cons_erase hx
    have := ih (l := l.erase x) h2 fun y hy => by
      have := p.mem_iff.1 (hm y (List.mem_cons_of_mem _ hy))
      rcases List.mem_cons.1 this with rfl | g
      · exact absurd hy h1
      · exact g
    have := p.length_eq
    simp only [List.length_cons] at this ⊢
    omega
theorem nd_perm {s l : List Int} (h : s.Nodup) (hm : ∀ x, x ∈ s → x ∈ l) (hl : l.length ≤ s.length) (hn : l.Nodup) : s.Perm l := by
  refine (List.perm_ext_iff_of_nodup h hn).2 fun x => ⟨hm x, fun hx => ?_⟩
  refine Classical.byContradiction fun g => ?_
  have := nd_le (s := x :: s) (l := l) (List.nodup_cons.2 ⟨g, h⟩) fun y hy => by
    rcases List.mem_cons.1 hy with rfl | k
    · exact hx
    · exact hm y k
  simp only [List.length_cons] at this
  omega
/-- What holds of the jobs that are left. -/
structure LRI (t d : Int → Int) (D E : List Int) : Prop where
  sub : E.Sublist D
  ok : okG t d 0 0 E = true
  dom : ∀ S, S.Sublist D → okG t d 0 0 S = true → ∃ S', S'.Nodup ∧ (∀ x, x ∈ S' → x ∈ E) ∧ S'.length = S.length ∧ tsm t S' ≤ tsm t S
theorem LRI.nil : LRI t d [] [] := ⟨List.Sublist.refl _, rfl, fun S hS _ => ⟨[], List.nodup_nil, fun x h => (by cases h), by rw [List.sublist_nil.1 hS], by rw [List.sublist_nil.1 hS]; exact Int.le_refl _⟩⟩
theorem LRI.step (ht : ∀ x, 0 ≤ t x) {D E : List Int} {x : Int} (I : LRI t d D E) (hnd : (D ++ [x]).Nodup) (hd : ∀ y, y ∈ D → d y ≤ d x) : LRI t d (D ++ [x]) (if tsm t (E ++ [x]) ≤ d x then E ++ [x] else (E ++ [x]).eraseIdx (lgI t (E ++ [x]))) := by
  have hxD : x ∉ D := fun g => by
    have := (List.nodup_append.1 hnd).2.2 x g x (List.mem_singleton.2 rfl)
    exact this rfl
  have hxE : x ∉ E := fun g => hxD (I.sub.subset g)
  have hsub : (E ++ [x]).Sublist (D ++ [x]) := I.sub.append (List.Sublist.refl _)
  have hndE : (E ++ [x]).Nodup := hnd.sublist hsub
  have last : ∀ S, S.Sublist (D ++ [x]) → okG t d 0 0 S = true → S ≠ [] → tsm t S ≤ d x := fun S hS ho hne => by
    obtain ⟨r, y, rfl⟩ := snoc_of hne
    have h1 := ok_last ho
    have hy : y ∈ D ++ [x] := hS.subset (by simp)
    rcases List.mem_append.1 hy with g | g
    · have := hd y g; omega
    · rw [List.mem_singleton.1 g] at h1 ⊢; exact h1
  -- some part of what was left, and of the one that is taken
  have wide : ∀ S, S.Sublist (D ++ [x]) → okG t d 0 0 S = true → ∃ S', S'.Nodup ∧ (∀ y, y ∈ S' → y ∈ E ++ [x]) ∧ S'.length = S.length ∧ tsm t S' ≤ tsm t S := fun S hS ho => by
    rcases sub_snoc.1 hS with g | ⟨S0, rfl, g⟩
    · obtain ⟨S', a, b, c, e⟩ := I.dom S g ho
      exact ⟨S', a, fun y hy => List.mem_append_left _ (b y hy), c, e⟩
    · rw [okG_app, Bool.and_eq_true] at ho
      obtain ⟨S', a, b, c, e⟩ := I.dom S0 g ho.1
      refine ⟨S' ++ [x], List.nodup_append.2 ⟨a, by simp, fun u hu v hv e => ?_⟩, fun y hy => ?_, by simp [c], ?_⟩
      · rw [List.mem_singleton.1 hv] at e
        exact hxE (e ▸ b u hu)
      · rcases List.mem_append.1 hy with g | g
        · exact List.mem_append_left _ (b y g)
        · exact List.mem_append_right _ g
      · rw [tsm_app, tsm_app]; omega
  by_cases c : tsm t (E ++ [x]) ≤ d x
  · rw [if_pos c]
    refine ⟨hsub, ?_, wide⟩
    rw [okG_app, I.ok]
    rw [tsm_app, tsm_cons] at c
    simp only [show tsm t [] = 0 from rfl] at c
    simp only [okG, Bool.and_true, Bool.true_and, decide_eq_true_eq]
    omega
  · rw [if_neg c]
    obtain ⟨k1, k2⟩ := lg_spec (t := t) (l := E ++ [x]) (by simp)
    generalize lgI t (E ++ [x]) = k at *
    have hp := erase_perm k1
    obtain ⟨l, hl⟩ : ∃ l, l = gE (E ++ [x]) k := ⟨_, rfl⟩
    rw [← hl] at hp k2
    have hndp := hp.nodup_iff.1 hndE
    obtain ⟨n1, n2⟩ := List.nodup_cons.1 hndp
    refine ⟨(List.eraseIdx_sublist ..).trans hsub, ?_, fun S hS ho => ?_⟩
    · -- still on time
      rcases Nat.lt_or_ge k E.length with g | g
      · rw [List.eraseIdx_append_of_lt_length g, okG_app, okG_erase ht g I.ok]
        have hpE := erase_perm g
        have e1 : gE E k = l := by
          rw [hl]; unfold gE; rw [List.getElem?_append_left g]
        rw [e1] at hpE
        have s1 := tsm_perm (t := t) hpE
        rw [tsm_cons] at s1
        have s2 := k2 x (by simp)
        have hne : E ≠ [] := List.length_pos_iff.1 (by omega)
        have s3 := last E (I.sub.trans (List.sublist_append_left ..)) I.ok hne
        simp only [okG, Bool.and_true, Bool.true_and, decide_eq_true_eq]
        omega
      · have : k = E.length := by simp at k1; omega
        subst this
        rw [List.eraseIdx_append_of_length_le (Nat.le_refl _), Nat.sub_self]
        simpa using I.ok
    · obtain ⟨S', a, b, c', e⟩ := wide S hS ho
      by_cases hlS : l ∈ S'
      · -- some one of them is not in it
        have : ∃ z, z ∈ E ++ [x] ∧ z ∉ S' := by
          refine Classical.byContradiction fun g => ?_
          have hall : ∀ z, z ∈ E ++ [x] → z ∈ S' := fun z hz => Classical.byContradiction fun k => g ⟨z, hz, k⟩
          have hpm := nd_perm a b (nd_le hndE hall) hndE
          have h1 := tsm_perm (t := t) hpm
          have h2 := last S hS ho (fun k => by
            rw [k] at c'
            have : S' = [] := List.length_eq_zero_iff.1 (by simpa using c')
            rw [this] at hlS; cases hlS)
          omega
        obtain ⟨z, hz, hzS⟩ := this
        have hpl := List.perm_cons_erase hlS
        have hne : z ≠ l := fun g => hzS (g ▸ hlS)
        have ndl := List.nodup_cons.1 (hpl.nodup_iff.1 a)
        refine ⟨z :: S'.erase l, List.nodup_cons.2 ⟨fun g => hzS (hpl.mem_iff.2 (List.mem_cons_of_mem _ g)), ndl.2⟩, fun y hy => ?_, ?_, ?_⟩
        · rcases List.mem_cons.1 hy with rfl | g
          · rcases List.mem_cons.1 (hp.mem_iff.1 hz) with g | g
            · exact absurd g hne
            · exact g
          · have h1 := b y (hpl.mem_iff.2 (List.mem_cons_of_mem _ g))
            rcases List.mem_cons.1 (hp.mem_iff.1 h1) with k | k
            · exact absurd (k ▸ g) ndl.1
            · exact k
        · have := hpl.length_eq
          simp only [List.length_cons] at this ⊢
          omega
        · have s1 := tsm_perm (t := t) hpl
          rw [tsm_cons] at s1 ⊢
          have := k2 z hz
          omega
      · refine ⟨S', a, fun y hy => ?_, c', e⟩
        rcases List.mem_cons.1 (hp.mem_iff.1 (b y hy)) with g | g
        · exact absurd (g ▸ hy) hlS
        · exact g
theorem LRI.most {D E S : List Int} (I : LRI t d D E) (hE : E.Nodup) (hS : S.Sublist D) (ho : okG t d 0 0 S = true) : S.length ≤ E.length ∧ (S.length = E.length → tsm t E ≤ tsm t S) := by
  obtain ⟨S', a, b, c, e⟩ := I.dom S hS ho
  have := nd_le a b
  refine ⟨by omega, fun h => ?_⟩
  have := tsm_perm (t := t) (nd_perm a b (by omega) hE)
  omega
/-! ### the steps -/
def gone (s : List (Int × Int)) : List Int := (s.map Prod.snd).filter fun x => decide (0 ≤ x)
end
end Go.Pm.PE

/- The late rule by the program. -/
set_option linter.unusedVariables false
set_option linter.unusedSimpArgs false
set_option maxRecDepth 4000
set_option maxHeartbeats 16000000
namespace Go.Pm.PP
open Go.Pm Go.Proofs Go.Pm.PE
theorem _root_.Go.Pm.Holds.base {h0 h1 h : Hp} {L : List Asn} (H : Holds h1 h L) (hp : h0 <+: h1) : Holds h0 h L := by
  have hl := hp.length_le
  refine ⟨hp.trans H.pre, fun i A e => ?_, H.dist⟩
  have := H.ok i A e
  cases A with
  | own v sz els => exact Own.low this hl
  | box r cs => exact ⟨Nat.le_trans hl this.1, this.2⟩
section
variable {h : Hp} {vj v u : Value} {js : List Job} {xs ys : List Int}
end
end Go.Pm.PP

/- The late rule by the reference. -/
set_option linter.unusedVariables false
set_option linter.unusedSimpArgs false
set_option maxRecDepth 4000
set_option maxHeartbeats 16000000
namespace Go.Pm.PP
open Go.Pm Go.Proofs Go.Pm.PE
section
variable {h : Hp} {vj v u : Value} {js : List Job} {xs ys : List Int}
theorem sum_take {t : Int → Int} {i : Nat} {y : Int} (hy : xs[i]? = some y) : tsm t (xs.take (i + 1)) = tsm t (xs.take i) + t y := by
  rw [take_succ' hy, tsm_app, tsm_cons]; simp [tsm]
theorem tj_bd (hg : goodL js = true) : 0 ≤ tsm (tJ js) xs ∧ tsm (tJ js) xs ≤ xs.length * 2 ^ 20 := time_bd (good_bd hg)
theorem l3Total_run (J : Jobs h vj js) (X : Ints h v xs) (hin : inN js.length xs) (hg : goodL js = true) (hx : xs.length ≤ 2 ^ 10) : Ret P G n_spec_l3Total [vj, v] h (.int .i64 (tsm (tJ js) xs)) h := by
  refine enter_run e_spec_l3Total (by simp) ?_
  have Js := J
  have Xs := X
  obtain ⟨oj, cj, rfl⟩ := J.shapeT
  obtain ⟨oa, ca, rfl⟩ := X.shapeT
  simp -implicitDefEqProofs
  refine R_loopO (fun m s h' => ∃ (i : Nat), i + m = xs.length ∧ s = [(0, .slice oj js.length cj), (1, .slice oa xs.length ca), (5, .int .i64 (tsm (tJ js) (xs.take i))), (6, .int .i64 i)] ∧ h' = h) (fun I hI m s h' => ?_) (n := xs.length) ⟨0, Nat.zero_add _, by simp [tsm], rfl⟩
  rintro ⟨i, hi, rfl, rfl⟩
  by_cases hlt : i < xs.length
  · have hlt' : (i : Int) < xs.length := by omega
    obtain ⟨y, hy, _⟩ := drop_at hlt
    have ly := load_I Xs hy
    have lj := load_JX Js (hin y (List.mem_of_getElem? hy))
    have e := sum_take (t := tJ js) hy
    have tb := tj_bd hg (xs := xs.take (i + 1))
    have tl : (xs.take (i + 1)).length ≤ 2 ^ 10 := by rw [List.length_take]; omega
    have et : tJ js y = (jA js y).t := rfl
    have w1 : IntKind.i64.wrap (tsm (tJ js) (xs.take i) + (jA js y).t) = tsm (tJ js) (xs.take (i + 1)) := by rw [← et, ← e, wrap_ok] <;> omega
    simp -implicitDefEqProofs [-indexAddrP_some, hlt, hlt', ly, lj, w1, winc hlt (by omega)]
    exact ⟨m - 1, by omega, on hI ⟨i + 1, by omega, by simp, rfl⟩⟩
  · have hlt' : ¬ (i : Int) < xs.length := by omega
    rw [List.take_of_length_le (by omega)]
    simp -implicitDefEqProofs [hlt, hlt']
end
end Go.Pm.PP

/- What the late rule tells, of both. -/
set_option linter.unusedVariables false
set_option linter.unusedSimpArgs false
set_option maxRecDepth 4000
set_option maxHeartbeats 16000000
namespace Go.Pm.PP
open Go.Pm Go.Proofs Go.Pm.PE
theorem hasL_iff {x : Int} {l : List Int} : hasL x l = true ↔ x ∈ l := by
  constructor
  · intro h
    obtain ⟨y, hy, e⟩ := List.any_eq_true.1 h
    rw [beq_iff_eq] at e
    exact e ▸ hy
  · intro h
    exact List.any_eq_true.2 ⟨x, h, by simp⟩
section
variable {h : Hp} {vj v u : Value} {js : List Job} {xs ys : List Int}
/-! ### by the reference -/
/-! ### what is left after some steps -/
end
end Go.Pm.PP

/- FnVectors: its draws. -/
set_option linter.unusedVariables false
set_option linter.unusedSimpArgs false
set_option maxRecDepth 4000
set_option maxHeartbeats 16000000
namespace Go.Pm.PP
open Go.Pm Go.Proofs Go.Pm.PE
section
variable {h0 h : Hp} {r n : Nat} {vc : Value} {L T : List Asn}
theorem Cur.pushI {u : Value} {xs : List Int} (C : Cur h0 h r vc n (L ++ [.own u 1 (xs.map encI)])) (x : Int) (hl : xs.length ≤ 2 ^ 30) : ∃ u' h', appendP P (h ++ [some ⟨[.int .i64 x], 1, false⟩]) t_S_int u (.slice (some ⟨h.length, 0, some 1⟩) 1 1) = some (u', h') ∧ Cur h0 h' r vc n (L ++ [.own u' 1 ((xs ++ [x]).map encI)]) := by
  obtain ⟨a, s, g1, g2, H⟩ := C
  obtain ⟨u', h5, g3, g4, _⟩ := push_I0 H (L.length + 1) (by rw [List.getElem?_cons_succ]; exact snoc_get) x (by omega)
  rw [List.set_cons_succ, List.set_append_right (h := Nat.le_refl _), Nat.sub_self] at g4
  exact ⟨u', h5, g3, a, s, g1, g2, g4⟩
theorem Cur.seesAt {i : Nat} {u : Value} {sz : Nat} {els : List (List Value)} (C : Cur h0 h r vc n (L ++ T)) (hi : L[i]? = some (.own u sz els)) : Sees h u sz els := by
  obtain ⟨a, s, h1, h2, H⟩ := C
  exact H.sees (i + 1) (by rw [List.getElem?_cons_succ, List.getElem?_append_left (List.getElem?_eq_some_iff.1 hi).1]; exact hi)
end
end Go.Pm.PP

/- On time, of both; draws of FnLateRule; what late jobs an order has. -/
set_option linter.unusedVariables false
set_option linter.unusedSimpArgs false
set_option maxRecDepth 4000
set_option maxHeartbeats 16000000
namespace Go.Pm.PP
open Go.Pm Go.Proofs Go.Pm.PE
section
variable {h : Hp} {vj v u : Value} {js : List Job} {xs ys : List Int}
end
/-! ### draws -/
section
variable {h0 h : Hp} {r n : Nat} {vc : Value} {L : List Asn}
theorem Cur.putD {u : Value} {js : List Job} (C : Cur h0 h r vc n (L ++ [.own u 4 (js.map encJ)])) {k : Nat} {y : Job} (hy : js[k]? = some y) (z : Int) : ∃ h', storeP P h t_int (.int .i64 z) (.pointer (some (addP (addP (base u) (k * 4)) 3))) = some h' ∧ Cur h0 h' r vc n (L ++ [.own u 4 ((js.set k { y with d := z }).map encJ)]) := by
  obtain ⟨a, s, h1, h2, H⟩ := C
  obtain ⟨h', g1, g2, _⟩ := fput_J3 H (L.length + 1) (by rw [List.getElem?_cons_succ]; exact snoc_get) hy z
  refine ⟨h', g1, a, s, h1, h2, ?_⟩
  rw [List.set_cons_succ, List.set_append_right (h := Nat.le_refl _), Nat.sub_self] at g2
  exact g2
end
/-! ### in plain terms -/
end Go.Pm.PP

/- The bound of lateness of a set, by the program. -/
set_option linter.unusedVariables false
set_option linter.unusedSimpArgs false
set_option maxRecDepth 4000
set_option maxHeartbeats 16000000
namespace Go.Pm.PP
open Go.Pm Go.Proofs Go.Pm.PE
def leB (js : List Job) (xs : List Int) : Int := xs.foldl (fun b x => min b (jA js x).r) 500
def laB (js : List Job) (xs : List Int) : Int := xs.foldl (fun b x => max b (jA js x).d) 0
def lbG (js : List Job) (xs : List Int) : Int := leB js xs + tsm (tJ js) xs - laB js xs
theorem leB_succ {js : List Job} {xs : List Int} {i : Nat} {x : Int} (hx : xs[i]? = some x) : leB js (xs.take (i + 1)) = min (leB js (xs.take i)) (jA js x).r := by
  unfold leB; rw [take_succ' hx, List.foldl_append]; rfl
theorem laB_succ {js : List Job} {xs : List Int} {i : Nat} {x : Int} (hx : xs[i]? = some x) : laB js (xs.take (i + 1)) = max (laB js (xs.take i)) (jA js x).d := by
  unfold laB; rw [take_succ' hx, List.foldl_append]; rfl
theorem jrd_bd {js : List Job} (hg : goodL js = true) (x : Int) : (0 ≤ (jA js x).r ∧ (jA js x).r ≤ 500) ∧ 0 ≤ (jA js x).d ∧ (jA js x).d ≤ 500 := by
  by_cases h : 0 ≤ x ∧ x < js.length
  · have k := jobOk_jA hg h
    simp only [jobOk, inB, Bool.and_eq_true, decide_eq_true_eq] at k
    omega
  · have e : jA js x = ⟨0, 0, 0, 0⟩ ∨ ∃ i, x.toNat = i ∧ ∃ y, js[i]? = some y ∧ jA js x = y := by
      unfold jA
      cases hx : js[x.toNat]? with
      | none => left; rfl
      | some y => right; exact ⟨_, rfl, y, hx, rfl⟩
    rcases e with e | ⟨i, hi, y, hy, e⟩
    · rw [e]; simp
    · rw [e]
      have k := job_at hg hy
      simp only [jobOk, inB, Bool.and_eq_true, decide_eq_true_eq] at k
      omega
theorem leB_bd {js : List Job} (hg : goodL js = true) : ∀ {xs : List Int} {b : Int}, 0 ≤ b ∧ b ≤ 500 → 0 ≤ xs.foldl (fun b x => min b (jA js x).r) b ∧ xs.foldl (fun b x => min b (jA js x).r) b ≤ 500
  | [], b, h => h
  | x :: xs, b, h => by
    have := jrd_bd hg x
    exact leB_bd hg (xs := xs) (b := min b (jA js x).r) (by omega)
theorem laB_bd {js : List Job} (hg : goodL js = true) : ∀ {xs : List Int} {b : Int}, 0 ≤ b ∧ b ≤ 500 → 0 ≤ xs.foldl (fun b x => max b (jA js x).d) b ∧ xs.foldl (fun b x => max b (jA js x).d) b ≤ 500
  | [], b, h => h
  | x :: xs, b, h => by
    have := jrd_bd hg x
    exact laB_bd hg (xs := xs) (b := max b (jA js x).d) (by omega)
section
variable {h : Hp} {vj v u : Value} {js : List Job} {xs ys : List Int}
theorem latenessBound_run (J : Jobs h vj js) (X : Ints h v xs) (hin : inN js.length xs) (hg : goodL js = true) (hx : xs.length ≤ 2 ^ 10) : Ret P G n_impl_latenessBound [vj, v] h (.int .i64 (lbG js xs)) h := by
  refine enter_run e_impl_latenessBound (by simp) ?_
  have Js := J
  have Xs := X
  obtain ⟨oj, cj, rfl⟩ := J.shapeT
  obtain ⟨oa, ca, rfl⟩ := X.shapeT
  simp -implicitDefEqProofs
  refine R_loopO (fun m s h' => ∃ (i : Nat), i + m = xs.length ∧ s = [(0, .slice oj js.length cj), (5, .int .i64 (leB js (xs.take i))), (6, .int .i64 (laB js (xs.take i))), (7, .int .i64 (tsm (tJ js) (xs.take i))), (10, .slice oa xs.length ca), (11, .int .i64 xs.length), (12, .int .i64 i)] ∧ h' = h) (fun I hI m s h' => ?_) (n := xs.length) ⟨0, Nat.zero_add _, by simp [leB, laB, tsm], rfl⟩
  rintro ⟨i, hi, rfl, rfl⟩
  have tb := tj_bd hg (xs := xs.take i)
  have tl : (xs.take i).length ≤ 2 ^ 10 := by rw [List.length_take]; omega
  have b1 := leB_bd hg (xs := xs.take i) (b := 500) (by omega)
  have b2 := laB_bd hg (xs := xs.take i) (b := 0) (by omega)
  have e1 : (xs.take i).foldl (fun b x => min b (jA js x).r) 500 = leB js (xs.take i) := rfl
  have e2 : (xs.take i).foldl (fun b x => max b (jA js x).d) 0 = laB js (xs.take i) := rfl
  rw [e1] at b1
  rw [e2] at b2
  by_cases hlt : i < xs.length
  · have hlt' : (i : Int) < xs.length := by omega
    obtain ⟨y, hy, _⟩ := drop_at hlt
    have ly := load_I Xs hy
    have lj := load_JX Js (hin y (List.mem_of_getElem? hy))
    have e := sum_take (t := tJ js) hy
    have et : tJ js y = (jA js y).t := rfl
    have tb' := tj_bd hg (xs := xs.take (i + 1))
    have tl' : (xs.take (i + 1)).length ≤ 2 ^ 10 := by rw [List.length_take]; omega
    have w1 : IntKind.i64.wrap (tsm (tJ js) (xs.take i) + (jA js y).t) = tsm (tJ js) (xs.take (i + 1)) := by rw [← et, ← e, wrap_ok] <;> omega
    have m1 : (if (jA js y).r < leB js (xs.take i) then (jA js y).r else leB js (xs.take i)) = leB js (xs.take (i + 1)) := by rw [leB_succ hy]; split <;> omega
    have m2 : (if laB js (xs.take i) < (jA js y).d then (jA js y).d else laB js (xs.take i)) = laB js (xs.take (i + 1)) := by rw [laB_succ hy]; split <;> omega
    simp -implicitDefEqProofs [-indexAddrP_some, hlt, hlt', ly, lj, foldI, asI, m1, m2, w1, winc hlt (by omega)]
    exact ⟨m - 1, by omega, on hI ⟨i + 1, by omega, by simp, rfl⟩⟩
  · have hlt' : ¬ (i : Int) < xs.length := by omega
    rw [List.take_of_length_le (by omega)] at b1 b2 tb ⊢
    have w1 : IntKind.i64.wrap (leB js xs + tsm (tJ js) xs) = leB js xs + tsm (tJ js) xs := by rw [wrap_ok] <;> omega
    have w2 : IntKind.i64.wrap (leB js xs + tsm (tJ js) xs - laB js xs) = lbG js xs := by rw [lbG, wrap_ok] <;> omega
    simp -implicitDefEqProofs [hlt, hlt', w1, w2]
end
end Go.Pm.PP

/- FnTimely: its draw; sets in plain terms. -/
set_option linter.unusedVariables false
set_option linter.unusedSimpArgs false
set_option maxRecDepth 4000
set_option maxHeartbeats 16000000
namespace Go.Pm.PP
open Go.Pm Go.Proofs Go.Pm.PE
/-! ### sets -/
end Go.Pm.PP

/- Split schedules by the program: which they are, their ends and values; the choice by dates; bounds of sets. -/
set_option linter.unusedVariables false
set_option linter.unusedSimpArgs false
set_option maxRecDepth 4000
set_option maxHeartbeats 16000000
namespace Go.Pm.PP
open Go.Pm Go.Proofs Go.Pm.PE
abbrev Spns (h : Hp) (v : Value) (S : List Sp) : Prop := Sees h v 3 (S.map encS)
theorem spGo_false {js : List Job} {now last : Int} {s : Sp} {S : List Sp} (h : spOk js now last s = false) : spGo js now last (s :: S) = false := by rw [spGo, h, Bool.false_and]
theorem spGo_true {js : List Job} {now last : Int} {s : Sp} {S : List Sp} (h : spOk js now last s = true) : spGo js now last (s :: S) = spGo js s.b s.j S := by rw [spGo, h, Bool.true_and]
theorem endOf_take {S : List Sp} {i : Nat} {s : Sp} (hs : S[i]? = some s) : endOf 0 (S.take (i + 1)) = s.b ∧ lastOf (-1) (S.take (i + 1)) = s.j := by
  rw [take_succ' hs, endOf_snoc, lastOf_snoc]; exact ⟨rfl, rfl⟩
theorem spOk_iff {js : List Job} {now last : Int} {s : Sp} : spOk js now last s = true ↔ (0 ≤ s.j ∧ s.j < js.length) ∧ now ≤ s.a ∧ (jA js s.j).r ≤ s.a ∧ s.a < s.b ∧ ¬ (s.j = last ∧ s.a = now) ∧ s.b ≤ 1000 := by
  unfold spOk
  simp only [Bool.and_eq_true, Bool.not_eq_true', decide_eq_true_eq, decide_eq_false_iff_not]
  constructor
  · rintro ⟨⟨⟨⟨⟨a1, a2⟩, a3⟩, a4⟩, a5⟩, a6⟩; exact ⟨a1, by omega, by omega, a4, a5, a6⟩
  · rintro ⟨a1, a2, a3, a4, a5, a6⟩; exact ⟨⟨⟨⟨⟨a1, by omega⟩, by omega⟩, a4⟩, a5⟩, a6⟩
theorem spOk_no {js : List Job} {now last : Int} {s : Sp} (h : ¬ ((0 ≤ s.j ∧ s.j < js.length) ∧ now ≤ s.a ∧ (jA js s.j).r ≤ s.a ∧ s.a < s.b ∧ ¬ (s.j = last ∧ s.a = now) ∧ s.b ≤ 1000)) : spOk js now last s = false := by
  cases g : spOk js now last s
  · rfl
  · exact absurd (spOk_iff.1 g) h
section
variable {h : Hp} {vj v u vs : Value} {js : List Job} {xs : List Int} {S : List Sp}
theorem isSplit_run (J : Jobs h vj js) (X : Spns h vs S) (hg : goodL js = true) (hn : js.length ≤ 8) (hS : S.length ≤ 2 ^ 20) : Ret P G n_impl_isSplit [vj, vs] h (.bool (splB js S)) h := by
  refine enter_run e_impl_isSplit (by simp) ?_
  have Js := J
  have Xs := X
  obtain ⟨oj, cj, rfl⟩ := J.shapeT
  obtain ⟨oa, ca, rfl⟩ := X.shapeT
  obtain ⟨vz, h1, mk, H1, hp1, oz, rfl⟩ := make_I (Holds.start (h := h)) (n := js.length) (by omega)
  simp -implicitDefEqProofs [mk]
  refine R_loopO (fun m s h' => ∃ (i : Nat) (D : List Int), i + m = S.length ∧ s = [(0, .slice oj js.length cj), (1, .slice oa S.length ca), (5, .slice oz js.length js.length), (13, .slice oa S.length ca), (14, .int .i64 S.length), (15, .int .i64 i)] ∧ Holds h h' [.own (.slice oz js.length js.length) 1 (D.map encI)] ∧
    D = doneL js (S.take i) ∧ (∀ x, x ∈ D → 0 ≤ x ∧ x ≤ 1000 * i) ∧ spGo js 0 (-1) S = spGo js (endOf 0 (S.take i)) (lastOf (-1) (S.take i)) (S.drop i) ∧ (0 < i → ∃ p : Sp, S[i - 1]? = some p ∧ endOf 0 (S.take i) = p.b ∧ lastOf (-1) (S.take i) = p.j)) (fun I hI m s h' => ?_) (n := S.length)
    ⟨0, List.replicate js.length 0, Nat.zero_add _, by simp, H1, rfl, fun x hx => by rw [List.eq_of_mem_replicate hx]; omega, by simp [endOf, lastOf], fun g => by omega⟩
  rintro ⟨i, D, hi, rfl, H, hD, hDb, he, hpv⟩
  by_cases hlt : i < S.length
  · have hlt' : (i : Int) < S.length := by omega
    obtain ⟨s, hs, hd⟩ := drop_at hlt
    have ls := load_S (Xs.pre H.pre) hs
    have HB := H.ext (List.prefix_append h' [some (⟨[.int .i64 s.j, .int .i64 s.a, .int .i64 s.b], 0, false⟩ : Row)])
    rw [hd] at he
    have nope : spOk js (endOf 0 (S.take i)) (lastOf (-1) (S.take i)) s = false → splB js S = false := fun g => by unfold splB; rw [he, spGo_false g, Bool.false_and]
    have ex := fun (g : splB js S = false) => g
    have hp9 : h <+: h' ++ [some (⟨[.int .i64 s.j, .int .i64 s.a, .int .i64 s.b], 0, false⟩ : Row)] := HB.pre
    have w8 : w64 ((js.length : Int) - 1) = (js.length : Int) - 1 := by unfold w64; rw [wrap_ok] <;> omega
    by_cases c1 : 0 ≤ s.j ∧ s.j < js.length
    case neg =>
      have b1 : inB s.j 0 (w64 ((js.length : Int) - 1)) = false := by rw [w8]; simp [inB]; omega
      have n1 := nope (spOk_no fun g => c1 g.1)
      simp -implicitDefEqProofs [-indexAddrP_some, hlt, hlt', ls, CL_ret isNumber_run, CH_at isNumber_run, b1, n1]
      try exact gcP hp9 rfl
    have b1 : inB s.j 0 (w64 ((js.length : Int) - 1)) = true := by rw [w8]; simp [inB]; omega
    have lj := load_JX (Js.pre HB.pre) c1
    by_cases c2 : s.a < (jA js s.j).r
    · have n1 := nope (spOk_no fun g => by omega)
      simp -implicitDefEqProofs [-indexAddrP_some, hlt, hlt', ls, CL_ret isNumber_run, CH_at isNumber_run, b1, lj, c2, n1]
      try exact gcP hp9 rfl
    by_cases c3 : s.b ≤ s.a
    · have n1 := nope (spOk_no fun g => by omega)
      simp -implicitDefEqProofs [-indexAddrP_some, hlt, hlt', ls, CL_ret isNumber_run, CH_at isNumber_run, b1, lj, c2, c3, n1]
      try exact gcP hp9 rfl
    by_cases c4 : 1000 < s.b
    · have n1 := nope (spOk_no fun g => by omega)
      simp -implicitDefEqProofs [-indexAddrP_some, hlt, hlt', ls, CL_ret isNumber_run, CH_at isNumber_run, b1, lj, c2, c3, c4, n1]
      try exact gcP hp9 rfl
    have jb := jA_b hg c1
    have fin : spOk js (endOf 0 (S.take i)) (lastOf (-1) (S.take i)) s = true → ∃ h2, storeP P (h' ++ [some (⟨[.int .i64 s.j, .int .i64 s.a, .int .i64 s.b], 0, false⟩ : Row)]) t_int (.int .i64 (gE D s.j.toNat + s.b - s.a)) (.pointer (some (addP (base (.slice oz js.length js.length)) s.j.toNat))) = some h2 ∧
        I (m - 1) [(0, .slice oj js.length cj), (1, .slice oa S.length ca), (5, .slice oz js.length js.length), (13, .slice oa S.length ca), (14, .int .i64 S.length), (15, .int .i64 ((i + 1 : Nat) : Int))] h2 := fun g => by
      have dl : D.length = js.length := by rw [hD, doneL_len]
      obtain ⟨h2, s2, H2, _⟩ := put_I HB 0 rfl (j := s.j.toNat) (by omega) (gE D s.j.toNat + s.b - s.a)
      obtain ⟨q1, q2⟩ := endOf_take hs
      refine ⟨h2, s2, on hI ⟨i + 1, _, by omega, rfl, H2, ?_, fun x hx => ?_, ?_, fun _ => ⟨s, by simpa using hs, q1, q2⟩⟩⟩
      · rw [take_succ' hs, doneL_snoc, ← hD]; rfl
      · have dj := hDb _ (gE_mem (show s.j.toNat < D.length by omega))
        rcases List.mem_or_eq_of_mem_set hx with q | q
        · have := hDb x q; omega
        · omega
      · rw [he, spGo_true g, q1, q2]
    have ld := load_EX (x := s.j) (HB.sees 0 rfl : Ints _ _ D) (by rw [hD, doneL_len]; exact c1)
    have dj := hDb _ (gE_mem (show s.j.toNat < D.length by rw [hD, doneL_len]; omega))
    have w1 : IntKind.i64.wrap (s.b - s.a) = s.b - s.a := by rw [wrap_ok] <;> omega
    have w2 : IntKind.i64.wrap (gE D s.j.toNat + (s.b - s.a)) = gE D s.j.toNat + s.b - s.a := by rw [wrap_ok] <;> omega
    rcases Nat.eq_zero_or_pos i with e0 | e0
    · have i0 : ¬ (0 : Int) < i := by omega
      have i1 : ¬ 0 < i := by omega
      obtain ⟨h2, s2, k2⟩ := fin (spOk_iff.2 ⟨c1, by simp [e0, endOf]; omega, by omega, by omega, by simp [e0, lastOf]; omega, by omega⟩)
      simp -implicitDefEqProofs [-indexAddrP_some, hlt, hlt', ls, CL_ret isNumber_run, CH_at isNumber_run, b1, lj, c2, c3, c4, i0, i1, ld, w1, w2, s2, winc hlt (by omega)]
      exact ⟨m - 1, by omega, by simpa using k2⟩
    · obtain ⟨p, hp, ep1, ep2⟩ := hpv e0
      rw [ep1, ep2] at nope fin
      have lp := load_S ((Xs.pre H.pre).pre (List.prefix_append h' [some (⟨[.int .i64 s.j, .int .i64 s.a, .int .i64 s.b], 0, false⟩ : Row)])) hp
      have wi : IntKind.i64.wrap ((i : Int) - 1) = ((i - 1 : Nat) : Int) := by rw [wrap_ok] <;> omega
      have i0 : (0 : Int) < i := by omega
      by_cases c5 : s.a < p.b
      · have n1 := nope (spOk_no fun g => by omega)
        simp -implicitDefEqProofs [-indexAddrP_some, hlt, hlt', ls, CL_ret isNumber_run, CH_at isNumber_run, b1, lj, c2, c3, c4, i0, e0, wi, lp, c5, n1]
        try exact gcP hp9 rfl
      · by_cases c6 : s.a = p.b
        · have c6' : (s.a == p.b) = true := by rw [beq_iff_eq]; exact c6
          by_cases c7 : s.j = p.j
          · have c7' : (s.j == p.j) = true := by rw [beq_iff_eq]; exact c7
            have n1 := nope (spOk_no fun g => g.2.2.2.2.1 ⟨c7, c6⟩)
            simp -implicitDefEqProofs [-indexAddrP_some, hlt, hlt', ls, CL_ret isNumber_run, CH_at isNumber_run, b1, lj, c2, c3, c4, i0, e0, wi, lp, c5, c6', c7', n1]
            try exact gcP hp9 rfl
          · obtain ⟨h2, s2, k2⟩ := fin (spOk_iff.2 ⟨c1, by omega, by omega, by omega, fun g => c7 g.1, by omega⟩)
            simp -implicitDefEqProofs [-indexAddrP_some, hlt, hlt', ls, CL_ret isNumber_run, CH_at isNumber_run, b1, lj, c2, c3, c4, i0, e0, wi, lp, c5, c6', nb c7, ld, w1, w2, s2, winc hlt (by omega)]
            exact ⟨m - 1, by omega, by simpa using k2⟩
        · obtain ⟨h2, s2, k2⟩ := fin (spOk_iff.2 ⟨c1, by omega, by omega, by omega, fun g => c6 g.2, by omega⟩)
          simp -implicitDefEqProofs [-indexAddrP_some, hlt, hlt', ls, CL_ret isNumber_run, CH_at isNumber_run, b1, lj, c2, c3, c4, i0, e0, wi, lp, c5, nb c6, ld, w1, w2, s2, winc hlt (by omega)]
          exact ⟨m - 1, by omega, by simpa using k2⟩
  have hlt' : ¬ (i : Int) < S.length := by omega
  rw [List.drop_eq_nil_of_le (by omega)] at he
  have he : spGo js 0 (-1) S = true := he
  rw [List.take_of_length_le (by omega)] at hD
  have dl : D.length = js.length := by rw [hD, doneL_len]
  have esp : splB js S = decide (D = js.map (·.t)) := by unfold splB; rw [he, Bool.true_and, hD]
  rw [esp]
  simp -implicitDefEqProofs [hlt, hlt']
  refine R_loopO (fun m s h2 => ∃ (k : Nat), k + m = js.length ∧ s = [(5, .slice oz js.length js.length), (97, .slice oj js.length cj), (98, .int .i64 js.length), (99, .int .i64 k)] ∧ h' <+: h2 ∧ ∀ q, q < k → gE D q = (jA js q).t) (fun I2 hI2 m2 s2 h2 => ?_) (n := js.length) ⟨0, Nat.zero_add _, by simp, List.prefix_rfl, fun q hq => by omega⟩
  rintro ⟨k, hk, rfl, hpk, hq⟩
  by_cases hlk : k < js.length
  · have hlk' : (k : Int) < js.length := by omega
    have lj := load_JX (x := (k : Int)) (Js.pre (H.pre.trans hpk)) ⟨by omega, by omega⟩
    simp only [Int.toNat_natCast] at lj
    have hpb := List.prefix_append h2 [some (⟨[.int .i64 (jA js k).t, .int .i64 (jA js k).w, .int .i64 (jA js k).r, .int .i64 (jA js k).d], 0, false⟩ : Row)]
    have ld := load_I ((H.sees 0 rfl : Ints h' _ D).pre (hpk.trans hpb)) (gE_get (show k < D.length by omega))
    by_cases c : gE D k = (jA js k).t
    · have c' : (gE D k != (jA js k).t) = false := by rw [bne_eq_false_iff_eq]; exact c
      simp -implicitDefEqProofs [-indexAddrP_some, hlk, hlk', lj, ld, c', winc hlk (by omega)]
      refine ⟨m2 - 1, by omega, on hI2 ⟨k + 1, by omega, by simp, hpk.trans hpb, fun q hqk => ?_⟩⟩
      by_cases e : q = k
      · subst e; exact c
      · exact hq q (by omega)
    · have ne : decide (D = js.map (·.t)) = false := by
        rw [decide_eq_false_iff_not]
        intro e
        apply c
        obtain ⟨y, hy, _⟩ := drop_at hlk
        have ey : jA js k = y := by unfold jA; rw [Int.toNat_natCast, hy]; rfl
        rw [e, ey]; unfold gE; rw [List.getElem?_map, hy]; rfl
      have hp8 := (H.pre.trans hpk).trans hpb
      simp -implicitDefEqProofs [-indexAddrP_some, hlk, hlk', lj, ld, nt c, ne]
      try exact gcP hp8 rfl
  · have hlk' : ¬ (k : Int) < js.length := by omega
    have yes : decide (D = js.map (·.t)) = true := by
      rw [decide_eq_true_eq]
      apply List.ext_getElem?
      intro q
      rcases Nat.lt_or_ge q js.length with g | g
      · obtain ⟨y, hy, _⟩ := drop_at g
        have ey : jA js q = y := by unfold jA; rw [Int.toNat_natCast, hy]; rfl
        rw [gE_get (by omega), hq q (by omega), ey, List.getElem?_map, hy]; rfl
      · rw [List.getElem?_eq_none (by omega), List.getElem?_eq_none (by simpa using g)]
    simp -implicitDefEqProofs [hlk, hlk', yes]
    exact gcP (H.pre.trans hpk) rfl
theorem splitEnds_run (J : Jobs h vj js) (X : Spns h vs S) (hn : js.length ≤ 8) (hS : S.length ≤ 2 ^ 20) (hin : ∀ s, s ∈ S → 0 ≤ s.j ∧ s.j < js.length) : RunsC P G n_impl_splitEnds [vj, vs] h fun v h' => h <+: h' ∧ Own h.length h' v 1 ((foldS (List.replicate js.length 0) S).map encI) := by
  refine hideC fun K hK => enter_run e_impl_splitEnds (by simp) ?_
  have Js := J
  have Xs := X
  obtain ⟨oj, cj, rfl⟩ := J.shapeT
  obtain ⟨oa, ca, rfl⟩ := X.shapeT
  obtain ⟨vz, h1, mk, H1, hp1, oz, rfl⟩ := make_I (Holds.start (h := h)) (n := js.length) (by omega)
  have fl : ∀ (T : List Sp) (E : List Int), (foldS E T).length = E.length := fun T => by
    induction T with
    | nil => intro E; rfl
    | cons s T ih => intro E; have := ih (E.set s.j.toNat s.b); rw [List.length_set] at this; exact this
  simp -implicitDefEqProofs [mk]
  refine R_loopO (fun m s h' => ∃ (i : Nat), i + m = S.length ∧ s = [(5, .slice oz js.length js.length), (11, .slice oa S.length ca), (12, .int .i64 S.length), (13, .int .i64 i)] ∧ Holds h h' [.own (.slice oz js.length js.length) 1 ((foldS (List.replicate js.length 0) (S.take i)).map encI)]) (fun I hI m s h' => ?_) (n := S.length)
    ⟨0, Nat.zero_add _, by simp, H1⟩
  rintro ⟨i, hi, rfl, H⟩
  have dl : (foldS (List.replicate js.length 0) (S.take i)).length = js.length := by rw [fl]; simp
  by_cases hlt : i < S.length
  · have hlt' : (i : Int) < S.length := by omega
    obtain ⟨s, hs, hd⟩ := drop_at hlt
    have is := hin s (List.mem_of_getElem? hs)
    have ls := load_S (Xs.pre H.pre) hs
    have HB := H.ext (List.prefix_append h' [some (⟨[.int .i64 s.j, .int .i64 s.a, .int .i64 s.b], 0, false⟩ : Row)])
    have ix := (load_EX (x := s.j) (HB.sees 0 rfl : Ints _ _ _) (by rw [dl]; exact is)).1
    obtain ⟨h2, s2, H2, _⟩ := put_I HB 0 rfl (j := s.j.toNat) (by omega) s.b
    simp -implicitDefEqProofs [-indexAddrP_some, hlt, hlt', ls, ix, s2, winc hlt (by omega)]
    exact ⟨m - 1, by omega, on hI ⟨i + 1, by omega, by simp, by rw [take_succ' hs, foldS_snoc]; exact H2⟩⟩
  · have hlt' : ¬ (i : Int) < S.length := by omega
    rw [List.take_of_length_le (by omega)] at H
    simp -implicitDefEqProofs [hlt, hlt']
    exact onK hK (H.ret 0 rfl)
def spE (js : List Job) (S : List Sp) : List Int := foldS (List.replicate js.length 0) S
def svOk (js : List Job) (S : List Sp) (o : Int) : Bool := (jOk js && splB js S) && inB o 1 8
def svV (js : List Job) (S : List Sp) (o : Int) : Int := if svOk js S o = true then valE o js (spE js S) else 0
theorem spGo_all {js : List Job} : ∀ {S : List Sp} {now last : Int}, spGo js now last S = true → ∀ s, s ∈ S → (0 ≤ s.j ∧ s.j < js.length) ∧ (jA js s.j).r ≤ s.a ∧ s.a < s.b ∧ s.b ≤ 1000
  | [], _, _, _, s, hs => by cases hs
  | x :: S, now, last, h, s, hs => by
    rw [spGo, Bool.and_eq_true] at h
    rcases List.mem_cons.1 hs with rfl | hs
    · have := spOk_iff.1 h.1
      exact ⟨this.1, this.2.2.1, this.2.2.2.1, this.2.2.2.2.2⟩
    · exact spGo_all h.2 s hs
theorem spl_all {js : List Job} {S : List Sp} (h : splB js S = true) : ∀ s, s ∈ S → (0 ≤ s.j ∧ s.j < js.length) ∧ (jA js s.j).r ≤ s.a ∧ s.a < s.b ∧ s.b ≤ 1000 := by
  unfold splB at h
  rw [Bool.and_eq_true] at h
  exact spGo_all h.1
theorem spE_bd {js : List Job} {S : List Sp} (hg : goodL js = true) (h : splB js S = true) : ∀ e, e ∈ spE js S → 0 ≤ e ∧ e ≤ 2 ^ 20 := by
  have go : ∀ (T : List Sp) (E : List Int), (∀ s, s ∈ T → 0 ≤ s.b ∧ s.b ≤ 1000) → (∀ e, e ∈ E → 0 ≤ e ∧ e ≤ 2 ^ 20) → ∀ e, e ∈ foldS E T → 0 ≤ e ∧ e ≤ 2 ^ 20 := fun T => by
    induction T with
    | nil => intro E _ hE e he; exact hE e he
    | cons s T ih =>
      intro E hT hE e he
      refine ih (E.set s.j.toNat s.b) (fun t ht => hT t (List.mem_cons_of_mem _ ht)) (fun e he => ?_) e he
      have := hT s (List.mem_cons_self ..)
      rcases List.mem_or_eq_of_mem_set he with g | g
      · exact hE e g
      · omega
  refine go S _ (fun s hs => ?_) fun e he => by rw [List.eq_of_mem_replicate he]; omega
  obtain ⟨a, b, c, d⟩ := spl_all h s hs
  have := jA_b hg a
  omega
theorem spE_len {js : List Job} {S : List Sp} : (spE js S).length = js.length := by
  have fl : ∀ (T : List Sp) (E : List Int), (foldS E T).length = E.length := fun T => by
    induction T with
    | nil => intro E; rfl
    | cons s T ih => intro E; have := ih (E.set s.j.toNat s.b); rw [List.length_set] at this; exact this
  unfold spE; rw [fl]; simp
theorem implSplitValue_run {o : Int} (J : Jobs h vj js) (X : Spns h vs S) (hl : js.length ≤ 2 ^ 40) (hS : S.length ≤ 2 ^ 20) : Ret P G n_impl_SplitValue [vj, vs, .int .i64 o] h (.tuple #[.int .i64 (svV js S o), .bool (svOk js S o)]) h := by
  refine enter_run e_impl_SplitValue (by simp) ?_
  have Js := J
  have Xs := X
  obtain ⟨oj, cj, rfl⟩ := J.shapeT
  obtain ⟨oa, ca, rfl⟩ := X.shapeT
  have r1 := isJobs_run Js hl
  cases c1 : jOk js
  · rw [c1] at r1
    simp -implicitDefEqProofs [CL_ret r1, svV, svOk, c1]
  rw [c1] at r1
  obtain ⟨hn, hg⟩ := jOk_of c1
  have r2 := isSplit_run Js Xs hg hn hS
  cases c2 : splB js S
  · rw [c2] at r2
    simp -implicitDefEqProofs [CL_ret r1, CL_ret r2, svV, svOk, c1, c2]
  rw [c2] at r2
  cases c3 : inB o 1 8
  · simp -implicitDefEqProofs [CL_ret r1, CL_ret r2, CL_ret isObjective_run, svV, svOk, c1, c2, c3]
  simp -implicitDefEqProofs [CL_ret r1, CL_ret r2, CL_ret isObjective_run, svV, svOk, c1, c2, c3]
  refine CL_post (splitEnds_run Js Xs hn hS fun s hs => (spl_all c2 s hs).1) fun w h1 ⟨hp1, o1⟩ => ?_
  have r4 := valueOfEnds_run (o := o) (Js.pre hp1) (o1.sees : Ints h1 w (spE js S)) hg hn spE_len (spE_bd hg c2) (inB_of c3)
  obtain ⟨wa, wn, wc, rfl⟩ : ∃ a n c, w = .slice a n c := by obtain ⟨a, c, e⟩ := o1.sees.shape; exact ⟨_, _, _, e⟩
  simp -implicitDefEqProofs [CL_ret r4]
  exact ⟨rfl, gcP hp1 rfl⟩
def edL (js : List Job) : List Sp := if jOk js = true then spanL 4 js 0 (restL js []) else []
theorem implByEarliestDate_run (J : Jobs h vj js) (hl : js.length ≤ 2 ^ 40) : RunsC P G n_impl_ByEarliestDate [vj] h fun w h' => h <+: h' ∧ ∃ d, w = .tuple #[d, .bool (jOk js)] ∧ Spns h' d (edL js) := by
  refine hideC fun K hK => enter_run e_impl_ByEarliestDate (by simp) ?_
  have Js := J
  obtain ⟨oj, cj, rfl⟩ := J.shapeT
  have r1 := isJobs_run Js hl
  cases c1 : jOk js
  · rw [c1] at r1
    rw [edL, c1] at hK
    simp -implicitDefEqProofs [CL_ret r1]
    exact onK hK ⟨List.prefix_rfl, _, rfl, by simp, none, 0, rfl, .inl ⟨rfl, rfl, rfl⟩⟩
  rw [c1] at r1
  rw [edL, c1, if_pos rfl] at hK
  obtain ⟨hn, hg⟩ := jOk_of c1
  simp -implicitDefEqProofs [CL_ret r1]
  refine CL_post (choose_run Js nil_L hg hn (by simp) (fun x hx => by cases hx) (.inr rfl)) fun w h1 ⟨u, z, ew, hp1, Sz, Su⟩ => ?_
  subst ew
  have Su : Spns h1 u (spanL 4 js 0 (restL js [])) := Su
  obtain ⟨ua, un, uc, rfl⟩ : ∃ a n c, u = .slice a n c := by obtain ⟨a, c, e⟩ := Su.shape; exact ⟨_, _, _, e⟩
  simp -implicitDefEqProofs
  exact onK hK ⟨pre_gcU hp1, _, rfl, Sees.gcU Su fun g => plainT (r := [_]) g⟩
def lbO (js : List Job) (xs : List Int) : Bool := (jOk js && setB js.length xs) && !decide (xs.length = 0)
def lbV (js : List Job) (xs : List Int) : Int := if lbO js xs = true then lbG js xs else 0
theorem set_len {n : Nat} {xs : List Int} (h : setB n xs = true) : xs.length ≤ n := by
  obtain ⟨hin, hs⟩ := setB_iff.1 h
  have hnd : xs.Nodup := hs.imp fun h => by omega
  have := nd_le (l := upTo _) hnd (fun x hx => mem_upTo.2 (hin x hx))
  simpa [upTo] using this
theorem implLatenessBound_run (J : Jobs h vj js) (X : Ints h v xs) (hl : js.length ≤ 2 ^ 40) (hx : xs.length ≤ 2 ^ 40) : Ret P G n_impl_LatenessBound [vj, v] h (.tuple #[.int .i64 (lbV js xs), .bool (lbO js xs)]) h := by
  refine enter_run e_impl_LatenessBound (by simp) ?_
  have Js := J
  have Xs := X
  obtain ⟨oj, cj, rfl⟩ := J.shapeT
  obtain ⟨oa, ca, rfl⟩ := X.shapeT
  have r1 := isJobs_run Js hl
  have r2 := isSetG_run (n := js.length) Xs hx hl
  cases c1 : jOk js
  · rw [c1] at r1
    simp -implicitDefEqProofs [CL_ret r1, lbV, lbO, c1]
  rw [c1] at r1
  obtain ⟨hn, hg⟩ := jOk_of c1
  cases c2 : setB js.length xs
  · rw [c2] at r2
    simp -implicitDefEqProofs [CL_ret r1, CL_ret r2, lbV, lbO, c1, c2]
  rw [c2] at r2
  by_cases c3 : xs.length = 0
  · obtain rfl : xs = [] := List.eq_nil_of_length_eq_zero c3
    simp only [List.length_nil] at r2
    simp -implicitDefEqProofs [CL_ret r1, CL_ret r2, lbV, lbO, c1, c2]
  have c3' : ((xs.length : Int) == 0) = false := nb (by omega)
  have sl := set_len c2
  have r3 := latenessBound_run Js Xs (setB_iff.1 c2).1 hg (by omega)
  simp -implicitDefEqProofs [CL_ret r1, CL_ret r2, lbV, lbO, c1, c2, c3, c3', CL_ret r3]
end
end Go.Pm.PP

/- Draws of jobs with releases and dates close together. -/
set_option linter.unusedVariables false
set_option linter.unusedSimpArgs false
set_option maxRecDepth 4000
set_option maxHeartbeats 16000000
namespace Go.Pm.PP
open Go.Pm Go.Proofs Go.Pm.PE
section
variable {h0 h : Hp} {r n : Nat} {vc : Value} {L : List Asn}
theorem Cur.putT {u : Value} {js : List Job} (C : Cur h0 h r vc n (L ++ [.own u 4 (js.map encJ)])) {k : Nat} {y : Job} (hy : js[k]? = some y) (z : Int) : ∃ h', storeP P h t_int (.int .i64 z) (.pointer (some (addP (addP (base u) (k * 4)) 0))) = some h' ∧ Cur h0 h' r vc n (L ++ [.own u 4 ((js.set k { y with t := z }).map encJ)]) := by
  obtain ⟨a, s, h1, h2, H⟩ := C
  obtain ⟨h', g1, g2, _⟩ := fput_J0 H (L.length + 1) (by rw [List.getElem?_cons_succ]; exact snoc_get) hy z
  refine ⟨h', g1, a, s, h1, h2, ?_⟩
  rw [List.set_cons_succ, List.set_append_right (h := Nat.le_refl _), Nat.sub_self] at g2
  exact g2
theorem Cur.putR {u : Value} {js : List Job} (C : Cur h0 h r vc n (L ++ [.own u 4 (js.map encJ)])) {k : Nat} {y : Job} (hy : js[k]? = some y) (z : Int) : ∃ h', storeP P h t_int (.int .i64 z) (.pointer (some (addP (addP (base u) (k * 4)) 2))) = some h' ∧ Cur h0 h' r vc n (L ++ [.own u 4 ((js.set k { y with r := z }).map encJ)]) := by
  obtain ⟨a, s, h1, h2, H⟩ := C
  obtain ⟨h', g1, g2, _⟩ := fput_J2 H (L.length + 1) (by rw [List.getElem?_cons_succ]; exact snoc_get) hy z
  refine ⟨h', g1, a, s, h1, h2, ?_⟩
  rw [List.set_cons_succ, List.set_append_right (h := Nat.le_refl _), Nat.sub_self] at g2
  exact g2
theorem some5_run (B : By h0 vc) (C : Cur h0 h r vc n L) (hn : n ≤ 2 ^ 17) : RunsC P G n_spec_l1Cur_some5 [.pointer (some ⟨r, 0, some 3⟩)] h fun v h' => ∃ js : List Job, js.length ≤ 9 ∧ Cur h0 h' r vc (n + 400) (L ++ [.own v 4 (js.map encJ)]) := by
  refine hideC fun K hK => enter_run e_spec_l1Cur_some5 (by simp) ?_
  simp -implicitDefEqProofs
  refine CL_post (someJobs_run B C (by omega) (b := true) (most := 6) (by omega)) fun u h1 ⟨js0, hl0, C1⟩ => ?_
  simp -implicitDefEqProofs
  refine R_loopO (fun m st h' => ∃ (i : Nat) (js : List Job), i + m = js.length ∧ js.length ≤ 9 ∧ st = [(0, .pointer (some ⟨r, 0, some 3⟩)), (3, u), (4, .int .i64 i)] ∧ Cur h0 h' r vc (n + 200 + 8 * i) (L ++ [.own u 4 (js.map encJ)])) (fun I hI m st h' => ?_) (n := js0.length) ⟨0, js0, by omega, hl0, by simp, C1.mono (by omega)⟩
  rintro ⟨i, js, hi, hl, rfl, C2⟩
  obtain ⟨ua, uc, rfl⟩ : ∃ a c, u = .slice a js.length c := C2.seesJ.shapeT
  by_cases hlt : i < js.length
  case' pos =>
    have hlt' : (i : Int) < js.length := by omega
    simp -implicitDefEqProofs [hlt, hlt']
    refine CL_post (one_run B C2 (by omega) (k := 6) (by omega)) fun v h3 ⟨b, ev, C3'⟩ => ?_
    subst ev
    cases b
    case' true =>
      have C3 : Cur h0 h3 r vc (n + 300) (L ++ [.own (.slice ua js.length uc) 4 (js.map encJ)]) := C3'.mono (by omega)
      simp -implicitDefEqProofs
    case' false =>
      obtain ⟨y, hy, _⟩ := drop_at hlt
      simp -implicitDefEqProofs
      refine CL_post (pick_run B C3' (by omega) (k := 14) (by omega)) fun v h4 ⟨x1, ev, _, _, _, C4⟩ => ?_
      subst ev
      have ix4 := (load_J C4.seesJ hy).1
      obtain ⟨h5, s5, C5⟩ := C4.putR hy x1
      have hy5 : (js.set i { y with r := x1 })[i]? = some { y with r := x1 } := by rw [List.getElem?_set_self hlt]
      simp -implicitDefEqProofs [-indexAddrP_some, ix4, s5]
      refine CL_post (pick_run B C5 (by omega) (k := 30) (by omega)) fun v h6 ⟨x2, ev, _, _, _, C6⟩ => ?_
      subst ev
      have ix6 := (load_J C6.seesJ hy5).1
      obtain ⟨h7, s7, C7⟩ := C6.putD hy5 x2
      have hy7 : ((js.set i { y with r := x1 }).set i { y with r := x1, d := x2 })[i]? = some { y with r := x1, d := x2 } := by rw [List.getElem?_set_self (by rw [List.length_set]; exact hlt)]
      simp -implicitDefEqProofs [-indexAddrP_some, ix6, s7]
      refine CL_post (pick_run B C7 (by omega) (k := 7) (by omega)) fun v h8 ⟨x3, ev, a3, b3, _, C8⟩ => ?_
      subst ev
      have ix8 := (load_J C8.seesJ hy7).1
      have w8 : IntKind.i64.wrap (1 + x3) = 1 + x3 := by rw [wrap_ok] <;> omega
      obtain ⟨h9, s9, C9⟩ := C8.putT hy7 (1 + x3)
      simp -implicitDefEqProofs [-indexAddrP_some, ix8, w8, s9, winc hlt (by omega)]
      exact ⟨m - 1, by omega, on hI ⟨i + 1, _, by simp only [List.length_set]; omega, by simp only [List.length_set]; omega, by simp, C9.mono (by omega)⟩⟩
  case' neg =>
    have hlt' : ¬ (i : Int) < js.length := by omega
    obtain ⟨h3, hh⟩ : ∃ h3, h3 = h' := ⟨_, rfl⟩
    have C3 : Cur h0 h3 r vc (n + 300) (L ++ [.own (.slice ua js.length uc) 4 (js.map encJ)]) := by rw [hh]; exact C2.mono (by omega)
    simp -implicitDefEqProofs [hlt, hlt']
    rw [← hh]
    clear hh
  all_goals
    by_cases c3 : 0 < js.length
    case neg =>
      have c3' : ¬ (0 : Int) < js.length := by omega
      simp -implicitDefEqProofs [c3, c3']
      exact onK hK ⟨js, hl, C.gcO (C3.mono (by omega)) fun h => h⟩
    case pos =>
      have c3' : (0 : Int) < js.length := by omega
      simp -implicitDefEqProofs [c3, c3']
      refine CL_post (one_run B C3 (by omega) (k := 40) (by omega)) fun v h4 ⟨b3, ev, C4⟩ => ?_
      subst ev
      cases b3
      case false =>
        simp -implicitDefEqProofs
        exact onK hK ⟨js, hl, C.gcO (C4.mono (by omega)) fun h => h⟩
      case true =>
        obtain ⟨y, hy, _⟩ := drop_at c3
        have ly := load_J C4.seesJ hy
        simp only [Nat.zero_mul, Int.natCast_zero] at ly
        simp -implicitDefEqProofs [-indexAddrP_some, ly]
        refine CL_post (spoiltJob_run B C4 (by omega) (j := y)) fun v h6 ⟨j', ev, C6⟩ => ?_
        subst ev
        have ix := (load_J C6.seesJ hy).1
        obtain ⟨h7, s7, C7⟩ := C6.putJ c3 j'
        simp only [Nat.zero_mul, Int.natCast_zero] at ix s7
        simp -implicitDefEqProofs [-indexAddrP_some, ix, s7]
        exact onK hK ⟨js.set 0 j', by rw [List.length_set]; exact hl, C.gcO (C7.mono (by omega)) fun h => h⟩
end
end Go.Pm.PP

/- The greatest lateness of the choice by dates is the greatest bound of a set, and bounds all orders, in plain terms. -/
set_option linter.unusedVariables false
set_option linter.unusedSimpArgs false
namespace Go.Pm.PP
open Go.Pm Go.Pm.PE
def rsF (rs : List Int) (x : Int) : Int := gE rs x.toNat
/-! ### picks -/
theorem pick_best {js : List Job} {rs : List Int} {now : Int} : ∀ {m i : Nat} {b : Int}, i + m = js.length → (b = -1 ∨ 0 ≤ b) → ∀ c : Nat, (List.range' i m).foldl (pickF 4 js rs now) b = c →
    (0 ≤ b → (jA js c).d ≤ (jA js b).d) ∧ ∀ k, i ≤ k → k < js.length → gE rs k ≠ 0 → (jA js k).r ≤ now → (jA js c).d ≤ (jA js k).d
  | 0, i, b, h, hb, c, hc => by
    have e : b = c := hc
    refine ⟨fun _ => by rw [e]; exact Int.le_refl _, fun k h1 h2 => by omega⟩
  | m + 1, i, b, h, hb, c, hc => by
    rw [List.range'_succ, List.foldl_cons] at hc
    by_cases c1 : gE rs i = 0 ∨ now < (jA js i).r
    · have e : pickF 4 js rs now b i = b := by unfold pickF; rw [if_pos c1]
      rw [e] at hc
      obtain ⟨g1, g2⟩ := pick_best (m := m) (i := i + 1) (by omega) hb c hc
      refine ⟨g1, fun k h1 h2 h3 h4 => ?_⟩
      by_cases e : k = i
      · subst e; rcases c1 with c1 | c1
        · exact absurd c1 h3
        · omega
      · exact g2 k (by omega) h2 h3 h4
    · by_cases c2 : b < 0 ∨ betB 4 js rs i b.toNat = true
      · have e : pickF 4 js rs now b i = i := by unfold pickF; rw [if_neg c1, if_pos c2]
        rw [e] at hc
        obtain ⟨g1, g2⟩ := pick_best (m := m) (i := i + 1) (by omega) (.inr (by omega)) c hc
        have g1 := g1 (by omega)
        refine ⟨fun h0 => ?_, fun k h1 h2 h3 h4 => ?_⟩
        · rcases c2 with c2 | c2
          · omega
          · unfold betB at c2
            rw [if_neg (by omega), decide_eq_true_eq, show ((b.toNat : Nat) : Int) = b by omega] at c2
            omega
        · by_cases e : k = i
          · subst e; exact g1
          · exact g2 k (by omega) h2 h3 h4
      · have e : pickF 4 js rs now b i = b := by unfold pickF; rw [if_neg c1, if_neg c2]
        rw [e] at hc
        have b0 : 0 ≤ b := by rcases hb with rfl | hb; exact absurd (.inl (by omega)) c2; exact hb
        obtain ⟨g1, g2⟩ := pick_best (m := m) (i := i + 1) (by omega) hb c hc
        have g1' := g1 b0
        refine ⟨g1, fun k h1 h2 h3 h4 => ?_⟩
        by_cases e : k = i
        · subst e
          have c3 : ¬ betB 4 js rs k b.toNat = true := fun g => c2 (.inr g)
          unfold betB at c3
          rw [if_neg (by omega), decide_eq_true_eq, show ((b.toNat : Nat) : Int) = b by omega] at c3
          omega
        · exact g2 k (by omega) h2 h3 h4
theorem pick_due {js : List Job} {rs : List Int} {now : Int} {b : Nat} (h : pickL 4 js rs now = b) : ∀ k, k < js.length → gE rs k ≠ 0 → (jA js k).r ≤ now → (jA js b).d ≤ (jA js k).d := fun k h2 h3 h4 =>
  (pick_best (m := js.length) (i := 0) (b := -1) (by omega) (.inl rfl) b h).2 k (Nat.zero_le _) h2 h3 h4
theorem picks_done {o : Int} {js : List Job} {k : Nat} : ∀ {m : Nat} {now : Int} {rs E : List Int}, rs.length = js.length → E.length = js.length → gE rs k = 0 → gE (apS E (picks o js m now rs)) k = gE E k
  | 0, now, rs, E, _, _, h => rfl
  | m + 1, now, rs, E, hl, hE, h => by
    rw [picks]
    split
    · rfl
    · rcases pick_cases (o := o) (js := js) (rs := rs) (now := now) with ⟨hp, _⟩ | ⟨b, hp, hb, hb0⟩
      · rw [hp, if_pos (by omega)]; exact picks_done hl hE h
      · have hne : k ≠ b := fun e => hb0 (e ▸ h)
        rw [hp, if_neg (by omega), Int.toNat_natCast, apS_cons, Int.toNat_natCast, picks_done (by rw [List.length_set]; exact hl) (by rw [List.length_set]; exact hE) (by rw [gE_set (by omega), if_neg hne]; exact h), gE_set (by omega), if_neg hne]
theorem tsm_same {t u : Int → Int} {S : List Int} (h : ∀ x, x ∈ S → t x = u x) : tsm t S = tsm u S := by unfold tsm; rw [List.map_congr_left h]
theorem tsm_erase {t : Int → Int} {S : List Int} {x : Int} (h : x ∈ S) : tsm t S = t x + tsm t (S.erase x) := by rw [tsm_perm (List.perm_cons_erase h), tsm_cons]
/-- The rests of a set behind one step. -/
theorem rs_step {js : List Job} {rs S : List Int} {b : Nat} (hl : rs.length = js.length) (hb : b < js.length) (hin : inN js.length S) (hnd : S.Nodup) :
    tsm (rsF (rs.set b (gE rs b - 1))) S = tsm (rsF rs) S - (if (b : Int) ∈ S then 1 else 0) := by
  have ne : ∀ x, x ∈ S → x ≠ (b : Int) → rsF (rs.set b (gE rs b - 1)) x = rsF rs x := fun x hx hne => by
    have := hin x hx
    unfold rsF; rw [gE_set (by omega), if_neg (by omega)]
  split
  · rename_i h
    have h2 := hnd.erase (b : Int)
    rw [tsm_erase h, tsm_erase (t := rsF rs) h, tsm_same (u := rsF rs) fun x hx => ne x (List.mem_of_mem_erase hx) fun e => ?_]
    · unfold rsF; rw [Int.toNat_natCast, gE_set (by omega), if_pos rfl]; omega
    · exact (List.Nodup.mem_erase_iff hnd).1 hx |>.1 e
  · rename_i h
    rw [tsm_same (u := rsF rs) fun x hx => ne x hx fun e => h (e ▸ hx)]; omega
/-- Each end is told by a set. -/
theorem edd_upper {js : List Job} (hg : goodL js = true) : ∀ {m : Nat} {now : Int} {rs E : List Int}, Ch js rs now m → E.length = js.length → ∀ k, k < js.length → 0 < gE rs k →
    ∃ (S : List Int) (ρ : Int), S.Nodup ∧ S ≠ [] ∧ (∀ x, x ∈ S → (0 ≤ x ∧ x < js.length) ∧ 0 < rsF rs x ∧ (jA js x).d ≤ (jA js k).d ∧ (ρ ≤ now ∨ ρ ≤ (jA js x).r)) ∧ gE (apS E (picks 4 js m now rs)) k ≤ ρ + tsm (rsF rs) S := by
  intro m
  induction m with
  | zero =>
    intro now rs E C hE k hk hk0
    have := C.m
    have h3 := sumL_set (l := rs) (i := k) (y := gE rs k - 1) (by rw [C.l]; exact hk)
    have h4 := sumL_nn (l := rs.set k (gE rs k - 1)) (fun x hx => by
      have hb := C.b _ (gE_mem (show k < rs.length by rw [C.l]; exact hk))
      rcases List.mem_or_eq_of_mem_set hx with q | q
      · exact C.b x q
      · omega)
    omega
  | succ m ih =>
    intro now rs E C hE k hk hk0
    have hl := C.l
    have hs : 0 < sumL rs := by
      have h3 := sumL_set (l := rs) (i := k) (y := gE rs k - 1) (by rw [C.l]; exact hk)
      have h4 := sumL_nn (l := rs.set k (gE rs k - 1)) (fun x hx => by
        have hb := C.b _ (gE_mem (show k < rs.length by rw [C.l]; exact hk))
        rcases List.mem_or_eq_of_mem_set hx with q | q
        · exact C.b x q
        · omega)
      omega
    rw [picks, if_neg (by omega)]
    rcases pick_cases (o := 4) (js := js) (rs := rs) (now := now) with ⟨hp, hfree⟩ | ⟨b, hp, hb, hb0⟩
    · obtain ⟨_, C2, _⟩ := C.skip hg hs (o := 4) (by omega)
      rw [hp, if_pos (by omega)]
      obtain ⟨S, ρ, h1, h2, h3, h4⟩ := ih (E := E) C2 hE k hk hk0
      refine ⟨S, ρ, h1, h2, fun x hx => ?_, h4⟩
      obtain ⟨a1, a2, a3, a4⟩ := h3 x hx
      refine ⟨a1, a2, a3, .inr ?_⟩
      have a5 := hfree x.toNat (by omega)
      rw [show ((x.toNat : Nat) : Int) = x by omega] at a5
      rcases a5 with a5 | a5
      · unfold rsF at a2; omega
      · omega
    · obtain ⟨C2, _, hsum⟩ := C.take hs hb hb0
      have bb := C.b _ (gE_mem (show b < rs.length by rw [hl]; exact hb))
      have br := pick_r hp
      have bd := pick_due hp
      rw [hp, if_neg (by omega), Int.toNat_natCast, apS_cons, Int.toNat_natCast]
      dsimp only
      have hE2 : (E.set b (now + 1)).length = js.length := by rw [List.length_set]; exact hE
      have hset : ∀ i, gE (rs.set b (gE rs b - 1)) i = if i = b then gE rs b - 1 else gE rs i := fun i => gE_set (by omega)
      by_cases ck : 0 < gE (rs.set b (gE rs b - 1)) k
      · obtain ⟨S, ρ, h1, h2, h3, h4⟩ := ih (E := E.set b (now + 1)) C2 hE2 k hk ck
        have hin : inN js.length S := fun x hx => (h3 x hx).1
        rw [rs_step hl hb hin h1] at h4
        have up : ∀ x, x ∈ S → 0 < rsF rs x := fun x hx => by
          have h5 := (h3 x hx).2.1
          unfold rsF at h5 ⊢
          rw [hset] at h5
          split at h5
          · rename_i e; rw [e]; omega
          · exact h5
        by_cases cd : (jA js b).d ≤ (jA js k).d
        · by_cases cr : ρ ≤ now + 1
          · by_cases cb : (b : Int) ∈ S
            · rw [if_pos cb] at h4
              exact ⟨S, now, h1, h2, fun x hx => ⟨(h3 x hx).1, up x hx, (h3 x hx).2.2.1, .inl (Int.le_refl _)⟩, by omega⟩
            · rw [if_neg cb] at h4
              refine ⟨(b : Int) :: S, now, List.nodup_cons.2 ⟨cb, h1⟩, by simp, fun x hx => ?_, ?_⟩
              · rcases List.mem_cons.1 hx with rfl | hx
                · exact ⟨⟨by omega, by omega⟩, by unfold rsF; rw [Int.toNat_natCast]; omega, cd, .inl (Int.le_refl _)⟩
                · exact ⟨(h3 x hx).1, up x hx, (h3 x hx).2.2.1, .inl (Int.le_refl _)⟩
              · rw [tsm_cons]
                have : rsF rs (b : Int) = gE rs b := by unfold rsF; rw [Int.toNat_natCast]
                omega
          · have hr : ∀ x, x ∈ S → ρ ≤ (jA js x).r := fun x hx => by
              rcases (h3 x hx).2.2.2 with g | g
              · omega
              · exact g
            have cb : ¬ (b : Int) ∈ S := fun g => by have := hr _ g; omega
            rw [if_neg cb] at h4
            exact ⟨S, ρ, h1, h2, fun x hx => ⟨(h3 x hx).1, up x hx, (h3 x hx).2.2.1, .inr (hr x hx)⟩, by omega⟩
        · have cb : ¬ (b : Int) ∈ S := fun g => by have := (h3 _ g).2.2.1; omega
          rw [if_neg cb] at h4
          refine ⟨S, ρ, h1, h2, fun x hx => ⟨(h3 x hx).1, up x hx, (h3 x hx).2.2.1, .inr ?_⟩, by omega⟩
          obtain ⟨a1, a2, a3, a4⟩ := h3 x hx
          have a5 := up x hx
          have : now < (jA js x).r := by
            by_cases q : now < (jA js x).r
            · exact q
            · have := bd x.toNat (by omega) (by unfold rsF at a5; omega) (by rw [show ((x.toNat : Nat) : Int) = x by omega]; omega)
              rw [show ((x.toNat : Nat) : Int) = x by omega] at this
              omega
          omega
      · have ekb : k = b := by
          rw [hset] at ck
          by_cases e : k = b
          · exact e
          · rw [if_neg e] at ck; exact absurd hk0 ck
        subst ekb
        rw [hset, if_pos rfl] at ck
        have e0 : gE (rs.set k (gE rs k - 1)) k = 0 := by rw [hset, if_pos rfl]; omega
        rw [picks_done C2.l hE2 e0, gE_set (by omega), if_pos rfl]
        refine ⟨[(k : Int)], now, by simp, by simp, fun x hx => ?_, ?_⟩
        · rw [List.mem_singleton.1 hx]
          exact ⟨⟨by omega, by omega⟩, by unfold rsF; rw [Int.toNat_natCast]; omega, Int.le_refl _, .inl (Int.le_refl _)⟩
        · rw [tsm_cons]
          have : rsF rs (k : Int) = gE rs k := by unfold rsF; rw [Int.toNat_natCast]
          have : tsm (rsF rs) [] = 0 := rfl
          omega
/-- Of each set some job ends no earlier than its bound. -/
theorem split_lower {o : Int} {js : List Job} (hg : goodL js = true) : ∀ {m : Nat} {now ρ : Int} {rs E S : List Int}, Ch js rs now m → E.length = js.length → S.Nodup → S ≠ [] → (∀ x, x ∈ S → (0 ≤ x ∧ x < js.length) ∧ 0 < rsF rs x ∧ (ρ ≤ now ∨ ρ ≤ (jA js x).r)) →
    ∃ k, k ∈ S ∧ ρ + tsm (rsF rs) S ≤ gE (apS E (picks o js m now rs)) k.toNat := by
  intro m
  induction m with
  | zero =>
    intro now ρ rs E S C hE h1 h2 h3
    obtain ⟨x, hx⟩ := List.exists_mem_of_ne_nil S h2
    obtain ⟨a1, a2, _⟩ := h3 x hx
    have := C.m
    have h3 := sumL_set (l := rs) (i := x.toNat) (y := gE rs x.toNat - 1) (by rw [C.l]; omega)
    have h4 := sumL_nn (l := rs.set x.toNat (gE rs x.toNat - 1)) (fun y hy => by
      have hb := C.b _ (gE_mem (show x.toNat < rs.length by rw [C.l]; omega))
      rcases List.mem_or_eq_of_mem_set hy with q | q
      · exact C.b y q
      · unfold rsF at a2; omega)
    unfold rsF at a2
    omega
  | succ m ih =>
    intro now ρ rs E S C hE h1 h2 h3
    have hl := C.l
    have hs : 0 < sumL rs := by
      obtain ⟨x, hx⟩ := List.exists_mem_of_ne_nil S h2
      obtain ⟨a1, a2, _⟩ := h3 x hx
      have h3 := sumL_set (l := rs) (i := x.toNat) (y := gE rs x.toNat - 1) (by rw [C.l]; omega)
      have h4 := sumL_nn (l := rs.set x.toNat (gE rs x.toNat - 1)) (fun y hy => by
        have hb := C.b _ (gE_mem (show x.toNat < rs.length by rw [C.l]; omega))
        rcases List.mem_or_eq_of_mem_set hy with q | q
        · exact C.b y q
        · unfold rsF at a2; omega)
      unfold rsF at a2
      omega
    rw [picks, if_neg (by omega)]
    rcases pick_cases (o := o) (js := js) (rs := rs) (now := now) with ⟨hp, hfree⟩ | ⟨b, hp, hb, hb0⟩
    · obtain ⟨_, C2, _⟩ := C.skip hg hs (o := o) (by omega)
      rw [hp, if_pos (by omega)]
      exact ih C2 hE h1 h2 fun x hx => ⟨(h3 x hx).1, (h3 x hx).2.1, (h3 x hx).2.2.imp (fun g => by omega) id⟩
    · obtain ⟨C2, _, hsum⟩ := C.take hs hb hb0
      have bb := C.b _ (gE_mem (show b < rs.length by rw [hl]; exact hb))
      have br := pick_r hp
      rw [hp, if_neg (by omega), Int.toNat_natCast, apS_cons, Int.toNat_natCast]
      dsimp only
      have hE2 : (E.set b (now + 1)).length = js.length := by rw [List.length_set]; exact hE
      have hset : ∀ i, gE (rs.set b (gE rs b - 1)) i = if i = b then gE rs b - 1 else gE rs i := fun i => gE_set (by omega)
      have hin : inN js.length S := fun x hx => (h3 x hx).1
      have oth : ∀ x, x ∈ S → x ≠ (b : Int) → 0 < rsF (rs.set b (gE rs b - 1)) x := fun x hx hne => by
        have a2 := (h3 x hx).2.1
        have a1 := hin x hx
        unfold rsF at a2 ⊢
        rw [hset, if_neg (by omega)]; exact a2
      by_cases cb : (b : Int) ∈ S
      · have hρ : ρ ≤ now := by
          rcases (h3 _ cb).2.2 with g | g <;> omega
        by_cases c1 : 1 < gE rs b
        · obtain ⟨k, hk, e⟩ := ih (ρ := now + 1) (E := E.set b (now + 1)) C2 hE2 h1 h2 fun x hx => ⟨hin x hx, by
            by_cases q : x = (b : Int)
            · subst q; unfold rsF; rw [Int.toNat_natCast, hset, if_pos rfl]; omega
            · exact oth x hx q, .inl (Int.le_refl _)⟩
          rw [rs_step hl hb hin h1, if_pos cb] at e
          exact ⟨k, hk, by omega⟩
        · have eb : gE rs b = 1 := by omega
          have et := tsm_erase (t := rsF rs) cb
          have erb : rsF rs (b : Int) = 1 := by unfold rsF; rw [Int.toNat_natCast]; exact eb
          have hnb : (b : Int) ∉ S.erase (b : Int) := fun g => ((List.Nodup.mem_erase_iff h1).1 g).1 rfl
          by_cases ce : S.erase (b : Int) = []
          · refine ⟨(b : Int), cb, ?_⟩
            rw [Int.toNat_natCast, picks_done C2.l hE2 (by rw [hset, if_pos rfl]; omega), gE_set (by omega), if_pos rfl]
            rw [ce] at et
            have : tsm (rsF rs) [] = 0 := rfl
            omega
          · have hin2 : inN js.length (S.erase (b : Int)) := fun x hx => hin x (List.mem_of_mem_erase hx)
            obtain ⟨k, hk, e⟩ := ih (ρ := now + 1) (E := E.set b (now + 1)) C2 hE2 (h1.erase _) ce fun x hx => ⟨hin2 x hx, oth x (List.mem_of_mem_erase hx) fun q => hnb (q ▸ hx), .inl (Int.le_refl _)⟩
            rw [rs_step hl hb hin2 (h1.erase _), if_neg hnb] at e
            exact ⟨k, List.mem_of_mem_erase hk, by omega⟩
      · obtain ⟨k, hk, e⟩ := ih (ρ := ρ) (E := E.set b (now + 1)) C2 hE2 h1 h2 fun x hx => ⟨hin x hx, oth x hx fun q => cb (q ▸ hx), (h3 x hx).2.2.imp (fun g => by omega) id⟩
        rw [rs_step hl hb hin h1, if_neg cb] at e
        exact ⟨k, hk, by omega⟩
/-- The same for an order. -/
theorem order_lower {js : List Job} (ht : ∀ x, 0 ≤ (jA js x).t) : ∀ {xs : List Int} {now ρ : Int} {E S : List Int}, inN js.length xs → xs.Nodup → E.length = js.length → S.Nodup → S ≠ [] → (∀ x, x ∈ S → x ∈ xs ∧ (ρ ≤ now ∨ ρ ≤ (jA js x).r)) →
    ∃ k, k ∈ S ∧ ρ + tsm (fun x => (jA js x).t) S ≤ gE (endGo js xs now E) k.toNat
  | [], now, ρ, E, S, _, _, _, _, h2, h3 => by
    obtain ⟨x, hx⟩ := List.exists_mem_of_ne_nil S h2
    cases (h3 x hx).1
  | x :: xs, now, ρ, E, S, hin, hnd, hE, h1, h2, h3 => by
    have hx := hin x (List.mem_cons_self ..)
    have hnd := List.nodup_cons.1 hnd
    have hin' : inN js.length xs := fun y hy => hin y (List.mem_cons_of_mem _ hy)
    have tx := ht x
    rw [endGo]
    have hE2 : (E.set x.toNat (max now (jA js x).r + (jA js x).t)).length = js.length := by rw [List.length_set]; exact hE
    by_cases cb : x ∈ S
    · have et := tsm_erase (t := fun x => (jA js x).t) cb
      have hnb : x ∉ S.erase x := fun g => ((List.Nodup.mem_erase_iff h1).1 g).1 rfl
      have hρ := (h3 _ cb).2
      by_cases ce : S.erase x = []
      · refine ⟨x, cb, ?_⟩
        rw [end_out (fun y hy => (hin' y hy).1) (by rw [show ((x.toNat : Nat) : Int) = x by omega]; exact hnd.1), gE_set (by omega), if_pos rfl]
        rw [ce] at et
        have : tsm (fun x => (jA js x).t) [] = 0 := rfl
        omega
      · obtain ⟨k, hk, e⟩ := order_lower ht (ρ := max now (jA js x).r + (jA js x).t) hin' hnd.2 hE2 (h1.erase _) ce fun y hy => by
          have hm := List.mem_of_mem_erase hy
          rcases List.mem_cons.1 (h3 y hm).1 with q | q
          · exact absurd hy (q ▸ hnb)
          · exact ⟨q, .inl (Int.le_refl _)⟩
        exact ⟨k, List.mem_of_mem_erase hk, by omega⟩
    · exact order_lower ht hin' hnd.2 hE2 h1 h2 fun y hy => by
        rcases List.mem_cons.1 (h3 y hy).1 with q | q
        · exact absurd hy (q ▸ cb)
        · exact ⟨q, (h3 y hy).2.imp (fun g => by omega) id⟩
/-! ### the greatest lateness of a list of ends -/
theorem valGo4_le {js : List Job} : ∀ {es : List Int} {a : Int}, js.length = es.length → a ≤ valGo 4 false a js es ∧ (∀ i, i < js.length → gE es i - ((js[i]?).getD ⟨0, 0, 0, 0⟩).d ≤ valGo 4 false a js es) ∧ (valGo 4 false a js es = a ∨ ∃ i, i < js.length ∧ valGo 4 false a js es = gE es i - ((js[i]?).getD ⟨0, 0, 0, 0⟩).d) := by
  induction js with
  | nil => intro es a h; cases es with
    | nil => exact ⟨Int.le_refl _, fun i hi => by simp at hi, .inl rfl⟩
    | cons e es => simp at h
  | cons j js ih =>
    intro es a h
    cases es with
    | nil => simp at h
    | cons e es =>
      obtain ⟨h1, h2, h3⟩ := @ih es (max a (e - j.d)) (by simpa using h)
      have ev : valGo 4 false a (j :: js) (e :: es) = valGo 4 false (max a (e - j.d)) js es := by rw [valGo]; simp [stepV]
      rw [ev]
      refine ⟨by omega, fun i hi => ?_, ?_⟩
      · cases i with
        | zero => simp [gE]; omega
        | succ i => simpa [gE] using h2 i (by simpa using hi)
      · rcases h3 with h3 | ⟨i, hi, h3⟩
        · rw [h3]
          by_cases c : a ≤ e - j.d
          · right; exact ⟨0, by simp, by simp [gE]; omega⟩
          · left; omega
        · right; exact ⟨i + 1, by simpa using hi, by simpa [gE] using h3⟩
theorem val4_facts {js : List Job} {es : List Int} (h : es.length = js.length) (h0 : js ≠ []) : (∀ i, i < js.length → gE es i - (jA js i).d ≤ valE 4 js es) ∧ ∃ i, i < js.length ∧ valE 4 js es = gE es i - (jA js i).d := by
  have ej : ∀ i : Nat, jA js i = (js[i]?).getD ⟨0, 0, 0, 0⟩ := fun i => by unfold jA; rw [Int.toNat_natCast]
  cases js with
  | nil => exact absurd rfl h0
  | cons j js =>
    cases es with
    | nil => simp at h
    | cons e es =>
      obtain ⟨h1, h2, h3⟩ := @valGo4_le js es (e - j.d) (by simpa using h.symm)
      have ev : valE 4 (j :: js) (e :: es) = valGo 4 false (e - j.d) js es := by unfold valE; rw [valGo]; simp [stepV]
      rw [ev]
      refine ⟨fun i hi => ?_, ?_⟩
      · rw [ej]
        cases i with
        | zero => simpa [gE] using h1
        | succ i => simpa [gE] using h2 i (by simpa using hi)
      · rcases h3 with h3 | ⟨i, hi, h3⟩
        · exact ⟨0, by simp, by rw [h3, ej]; simp [gE]⟩
        · exact ⟨i + 1, by simpa using hi, by rw [h3, ej]; simp [gE]⟩
/-! ### bounds of sets -/
/-- S: a set with a release and a date that bound it. -/
structure Bset (js : List Job) (S : List Int) (ρ δ : Int) : Prop where
  nd : S.Nodup
  ne : S ≠ []
  inn : inN js.length S
  r : ∀ x, x ∈ S → ρ ≤ (jA js x).r
  d : ∀ x, x ∈ S → (jA js x).d ≤ δ
theorem rest_tsm {js : List Job} {S : List Int} (hin : inN js.length S) : tsm (rsF (restL js [])) S = tsm (fun x => (jA js x).t) S := tsm_same fun x hx => by
  have := hin x hx
  unfold rsF; rw [restL_gE (by omega), show ((x.toNat : Nat) : Int) = x by omega]
/-- The bounds of sets are at most the greatest lateness of the choice by dates, or of any order. -/
theorem bd_split {o : Int} {js : List Job} {S : List Int} {ρ δ : Int} (hg : goodL js = true) (hn : js.length ≤ 8) (B : Bset js S ρ δ) : ρ + tsm (fun x => (jA js x).t) S - δ ≤ valE 4 js (bdE o js []) := by
  have h0 : js ≠ [] := by
    obtain ⟨x, hx⟩ := List.exists_mem_of_ne_nil S B.ne
    have := B.inn x hx
    intro e; subst e; simp at this; omega
  have hl : (List.replicate js.length (0 : Int)).length = js.length := by simp
  obtain ⟨k, hk, e⟩ := split_lower (o := o) hg (nil_ch hg hn) hl B.nd B.ne (ρ := ρ) fun x hx => ⟨B.inn x hx, by
    have hx' := B.inn x hx
    unfold rsF; rw [restL_gE (by omega)]
    have := jA_bd hg (show x.toNat < js.length by omega); omega, .inr (B.r x hx)⟩
  rw [rest_tsm B.inn] at e
  have ik := B.inn k hk
  have v := (val4_facts (js := js) (es := bdE o js []) (by unfold bdE; rw [apS_len, endsL_len]) h0).1 k.toNat (by omega)
  have d := B.d k hk
  rw [show ((k.toNat : Nat) : Int) = k by omega] at v
  have eE : bdE o js [] = apS (List.replicate js.length 0) (picks o js FU 0 (restL js [])) := rfl
  rw [eE] at v ⊢
  omega
theorem bd_order {js : List Job} {S xs : List Int} {ρ δ : Int} (hg : goodL js = true) (hp : Prm js.length xs) (B : Bset js S ρ δ) (h0 : 0 ≤ ρ) : ρ + tsm (fun x => (jA js x).t) S - δ ≤ valE 4 js (endsL js xs) := by
  have hne : js ≠ [] := by
    obtain ⟨x, hx⟩ := List.exists_mem_of_ne_nil S B.ne
    have := B.inn x hx
    intro e; subst e; simp at this; omega
  have ht : ∀ x, 0 ≤ (jA js x).t := fun x => by
    by_cases h : 0 ≤ x ∧ x < js.length
    · have := jA_b hg h; omega
    · by_cases c : x.toNat < js.length
      · have := jA_bd hg c
        have e : jA js x = jA js (x.toNat : Nat) := by unfold jA; rw [Int.toNat_natCast]
        rw [e]; omega
      · have e : jA js x = ⟨0, 0, 0, 0⟩ := by unfold jA; rw [List.getElem?_eq_none (by omega)]; rfl
        rw [e]; simp
  obtain ⟨k, hk, e⟩ := order_lower (js := js) ht (xs := xs) (now := 0) (ρ := ρ) (E := List.replicate js.length 0) hp.inn hp.nd (by simp) B.nd B.ne fun x hx => ⟨hp.mem_iff.2 (by
    have := B.inn x hx
    exact List.mem_map.2 ⟨x.toNat, by simp [List.mem_range'_1]; omega, by omega⟩), .inr (B.r x hx)⟩
  have ik := B.inn k hk
  have v := (val4_facts (js := js) (es := endsL js xs) endsL_len hne).1 k.toNat (by omega)
  have d := B.d k hk
  rw [show ((k.toNat : Nat) : Int) = k by omega] at v
  have eE : endsL js xs = endGo js xs 0 (List.replicate js.length 0) := rfl
  rw [eE] at v ⊢
  omega
/-- Some set's bound is the greatest lateness of the choice by dates. -/
theorem bd_some {js : List Job} (hg : goodL js = true) (hn : js.length ≤ 8) (h0 : js ≠ []) : ∃ S ρ δ, Bset js S ρ δ ∧ 0 ≤ ρ ∧ valE 4 js (bdE 4 js []) ≤ ρ + tsm (fun x => (jA js x).t) S - δ := by
  obtain ⟨k, hk, e⟩ := (val4_facts (js := js) (es := bdE 4 js []) (by unfold bdE; rw [apS_len, endsL_len]) h0).2
  have kb := jA_bd hg hk
  obtain ⟨S, ρ, h1, h2, h3, h4⟩ := edd_upper hg (nil_ch hg hn) (E := List.replicate js.length 0) (by simp) k hk (by rw [restL_gE hk]; omega)
  have hin : inN js.length S := fun x hx => (h3 x hx).1
  rw [rest_tsm hin] at h4
  have rr : ∀ x, x ∈ S → 0 ≤ (jA js x).r := fun x hx => by
    have := jA_b hg (hin x hx); omega
  have eE : bdE 4 js [] = apS (List.replicate js.length 0) (picks 4 js FU 0 (restL js [])) := rfl
  rw [eE] at e ⊢
  by_cases c : ρ ≤ 0
  · exact ⟨S, 0, (jA js k).d, ⟨h1, h2, hin, rr, fun x hx => (h3 x hx).2.2.1⟩, Int.le_refl _, by omega⟩
  · exact ⟨S, ρ, (jA js k).d, ⟨h1, h2, hin, fun x hx => by
      rcases (h3 x hx).2.2.2 with g | g
      · omega
      · exact g, fun x hx => (h3 x hx).2.2.1⟩, by omega, by omega⟩
end Go.Pm.PP

/- The greedy order by dates, its critical part and its blocking job, in plain terms. -/
set_option linter.unusedVariables false
set_option linter.unusedSimpArgs false
namespace Go.Pm.PP
open Go.Pm Go.Pm.PE
/-! ### the greedy order -/
/-! ### ends by place -/
/-! ### the critical part -/
def eN (js : List Job) (xs : List Int) (k : Nat) : Int := nwGo js (xs.take (k + 1)) 0
end Go.Pm.PP

/- The greedy order in plain terms: without a blocking job it is best, with one it is less than its time later than the choice by dates. -/
set_option linter.unusedVariables false
set_option linter.unusedSimpArgs false
namespace Go.Pm.PP
open Go.Pm Go.Pm.PE
theorem leB_min {js : List Job} : ∀ {S : List Int} {b : Int}, S.foldl (fun b x => min b (jA js x).r) b ≤ b ∧ (∀ x, x ∈ S → S.foldl (fun b x => min b (jA js x).r) b ≤ (jA js x).r) ∧ (S.foldl (fun b x => min b (jA js x).r) b = b ∨ ∃ x, x ∈ S ∧ S.foldl (fun b x => min b (jA js x).r) b = (jA js x).r)
  | [], b => ⟨Int.le_refl _, fun x hx => (by cases hx), .inl rfl⟩
  | y :: S, b => by
    obtain ⟨h1, h2, h3⟩ := @leB_min js S (min b (jA js y).r)
    rw [List.foldl_cons]
    refine ⟨by omega, fun x hx => ?_, ?_⟩
    · clear h3
      rcases List.mem_cons.1 hx with rfl | hx
      · omega
      · exact h2 x hx
    · rcases h3 with h3 | ⟨x, hx, h3⟩
      · rw [h3]
        by_cases c : b ≤ (jA js y).r
        · left; omega
        · right; exact ⟨y, List.mem_cons_self .., by omega⟩
      · right; exact ⟨x, List.mem_cons_of_mem _ hx, h3⟩
theorem laB_max {js : List Job} : ∀ {S : List Int} {b : Int}, b ≤ S.foldl (fun b x => max b (jA js x).d) b ∧ (∀ x, x ∈ S → (jA js x).d ≤ S.foldl (fun b x => max b (jA js x).d) b) ∧ (S.foldl (fun b x => max b (jA js x).d) b = b ∨ ∃ x, x ∈ S ∧ S.foldl (fun b x => max b (jA js x).d) b = (jA js x).d)
  | [], b => ⟨Int.le_refl _, fun x hx => (by cases hx), .inl rfl⟩
  | y :: S, b => by
    obtain ⟨h1, h2, h3⟩ := @laB_max js S (max b (jA js y).d)
    rw [List.foldl_cons]
    refine ⟨by omega, fun x hx => ?_, ?_⟩
    · clear h3
      rcases List.mem_cons.1 hx with rfl | hx
      · omega
      · exact h2 x hx
    · rcases h3 with h3 | ⟨x, hx, h3⟩
      · rw [h3]
        by_cases c : (jA js y).d ≤ b
        · left; omega
        · right; exact ⟨y, List.mem_cons_self .., by omega⟩
      · right; exact ⟨x, List.mem_cons_of_mem _ hx, h3⟩
/-- The bound that is told is one of sets' bounds, and no less than them. -/
theorem lb_bset {js : List Job} {S : List Int} (hg : goodL js = true) (hnd : S.Nodup) (hne : S ≠ []) (hin : inN js.length S) : Bset js S (leB js S) (laB js S) ∧ 0 ≤ leB js S ∧ lbG js S = leB js S + tsm (fun x => (jA js x).t) S - laB js S := by
  obtain ⟨_, h2, _⟩ := @leB_min js S 500
  obtain ⟨_, h3, _⟩ := @laB_max js S 0
  have hb := leB_bd hg (xs := S) (b := 500) (by omega)
  exact ⟨⟨hnd, hne, hin, h2, h3⟩, hb.1, rfl⟩
theorem lb_ge {js : List Job} {S : List Int} {ρ δ : Int} (hg : goodL js = true) (B : Bset js S ρ δ) : ρ + tsm (fun x => (jA js x).t) S - δ ≤ lbG js S := by
  obtain ⟨x, hx⟩ := List.exists_mem_of_ne_nil _ B.ne
  have xb := jrd_bd hg x
  obtain ⟨_, _, h2⟩ := @leB_min js S 500
  obtain ⟨_, _, h3⟩ := @laB_max js S 0
  have e1 : leB js S = S.foldl (fun b x => min b (jA js x).r) 500 := rfl
  have e2 : laB js S = S.foldl (fun b x => max b (jA js x).d) 0 := rfl
  rw [← e1] at h2
  rw [← e2] at h3
  have rx := B.r x hx
  have dx := B.d x hx
  have a1 : ρ ≤ leB js S := by
    rcases h2 with h2 | ⟨y, hy, h2⟩
    · omega
    · have := B.r y hy; omega
  have a2 : laB js S ≤ δ := by
    rcases h3 with h3 | ⟨y, hy, h3⟩
    · omega
    · have := B.d y hy; omega
  have e3 : lbG js S = leB js S + tsm (fun x => (jA js x).t) S - laB js S := rfl
  omega
/-! ### the critical part -/
section
variable {js : List Job}
end
end Go.Pm.PP

/- The greedy order by dates, by both. -/
set_option linter.unusedVariables false
set_option linter.unusedSimpArgs false
set_option maxRecDepth 4000
set_option maxHeartbeats 16000000
namespace Go.Pm.PP
open Go.Pm Go.Proofs Go.Pm.PE
section
variable {h : Hp} {vj v u : Value} {js : List Job} {xs ys B : List Int} {now : Int}
end
end Go.Pm.PP

/- A part of a slice from the middle. -/
set_option linter.unusedVariables false
set_option linter.unusedSimpArgs false
set_option maxRecDepth 4000
set_option maxHeartbeats 16000000
namespace Go.Pm.PP
open Go.Pm Go.Proofs Go.Pm.PE
section
variable {h : Hp} {v : Value} {xs : List Int}
end
end Go.Pm.PP

/- The critical part of the greedy order and its blocking job, by both. -/
set_option linter.unusedVariables false
set_option linter.unusedSimpArgs false
set_option maxRecDepth 4000
set_option maxHeartbeats 16000000
namespace Go.Pm.PP
open Go.Pm Go.Proofs Go.Pm.PE
section
variable {h : Hp} {vj ve v u : Value} {js : List Job} {xs es : List Int}
/-- What is told of an order and its ends. -/
structure Oe (js : List Job) (xs es : List Int) : Prop where
  p : Prm js.length xs
  l : es.length = js.length
  e : ∀ k, k < xs.length → gE es (gE xs k).toNat = eN js xs k
  b : ∀ k, k < xs.length → 0 ≤ eN js xs k ∧ eN js xs k ≤ 1000
  d : ∀ k, k < xs.length → 0 ≤ (jA js (gE xs k)).d ∧ (jA js (gE xs k)).d ≤ 500
/-- Loads by way of an order. -/
theorem Oe.ld (O : Oe js xs es) (X : Ints h v xs) (E : Ints h ve es) {k : Nat} (hk : k < xs.length) :
    (indexAddrP P h t_S_int v (.int .i64 k) = some (.pointer (some (addP (base v) k))) ∧ loadP P h t_int (.pointer (some (addP (base v) k))) = some (.int .i64 (gE xs k))) ∧
    indexAddrP P h t_S_int ve (.int .i64 (gE xs k)) = some (.pointer (some (addP (base ve) (gE xs k).toNat))) ∧ loadP P h t_int (.pointer (some (addP (base ve) (gE xs k).toNat))) = some (.int .i64 (eN js xs k)) := by
  have lx := load_I X (gE_get hk)
  have ix := O.p.inn _ (List.mem_of_getElem? (gE_get hk))
  have le := load_EX E (x := gE xs k) (by rw [O.l]; exact ix)
  rw [O.e k hk] at le
  exact ⟨lx, le⟩
end
end Go.Pm.PP

/- What both export of the greedy order: the order, its critical part, its blocking job. -/
set_option linter.unusedVariables false
set_option linter.unusedSimpArgs false
set_option maxRecDepth 4000
set_option maxHeartbeats 16000000
namespace Go.Pm.PP
open Go.Pm Go.Proofs Go.Pm.PE
def cpOk (js : List Job) : Bool := jOk js && !decide (js.length = 0)
theorem cpOk_of {js : List Job} (h : cpOk js = true) : jOk js = true ∧ js ≠ [] := by
  simp only [cpOk, Bool.and_eq_true, Bool.not_eq_true', decide_eq_false_iff_not] at h
  exact ⟨h.1, fun e => h.2 (by rw [e]; rfl)⟩
section
variable {h : Hp} {vj v u : Value} {js : List Job} {xs : List Int}
end
end Go.Pm.PP
