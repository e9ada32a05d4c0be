/- The texts Pv8, Pv9, Ps1, Ps2, Ps3, Ps4, Ps5, Ps6, Ps7, Ps8, Ps9, PsA, PsB, PsC, PvXa, PvXb, PvXd, PvXe, PvSa, PvSb, PvSc, PvSd, PvSe, PvQa, PvTa, PvTb, PvTc, PvTd, PvTe, PvRa, PvFa, PvFb, PvFc, PvFd, PvFe, PvFh, PvFi, PvFk, PvFl, PvFj, PvSf, PvSg, PvSh of this work: Values, best orders and exchanges, as the programs export them. -/
import Derived.Test.YtcmbjbddjlamaaaP6
/- Values, best orders and exchanges, as the programs export them. -/
set_option linter.unusedVariables false
set_option linter.unusedSimpArgs false
set_option maxRecDepth 4000
set_option maxHeartbeats 8000000
namespace Go.Pm.PP
open Go.Pm Go.Proofs Go.Pm.PE
/-! ### bounds -/
theorem val_bd {o : Int} : ∀ {js : List Job} {es : List Int} {f : Bool} {a B : Int}, goodL js = true → (∀ e, e ∈ es → 0 ≤ e ∧ e ≤ 2 ^ 20) → -B ≤ a → a ≤ B → 0 ≤ B → -(B + js.length * 2 ^ 27) ≤ valGo o f a js es ∧ valGo o f a js es ≤ B + js.length * 2 ^ 27
  | [], es, f, a, B, _, _, h1, h2, _ => by simp [valGo]; omega
  | j :: js, [], f, a, B, _, _, h1, h2, hB => by simp only [valGo, List.length_cons]; omega
  | j :: js, e :: es, f, a, B, hg, he, h1, h2, hB => by
    rw [goodL_cons, Bool.and_eq_true] at hg
    have e1 := he e (List.mem_cons_self ..)
    have s := step_bd (o := o) (f := f) hg.1 e1.1 e1.2 ⟨h1, h2⟩ hB
    have := @val_bd o js es false (stepV o f a j e) (B + 2 ^ 27) hg.2 (fun x hx => he x (List.mem_cons_of_mem _ hx)) s.1 s.2 (by omega)
    rw [valGo, List.length_cons]
    omega
theorem endGo_bd {js : List Job} (hg : goodL js = true) : ∀ {xs : List Int} {now : Int} {E : List Int} {k : Nat}, inN js.length xs → 0 ≤ now → now ≤ 550 * k → (∀ e, e ∈ E → 0 ≤ e ∧ e ≤ 550 * (k + xs.length : Nat)) → ∀ e, e ∈ endGo js xs now E → 0 ≤ e ∧ e ≤ 550 * (k + xs.length : Nat)
  | [], now, E, k, _, _, _, hE, e, he => hE e he
  | x :: r, now, E, k, hin, h0, h1, hE, e, he => by
    obtain ⟨i, hi, hil, hy⟩ := jA_get rfl (hin x (List.mem_cons_self ..))
    have jb := job_of (job_at hg hy)
    rw [endGo] at he
    have := endGo_bd hg (xs := r) (now := max now (jA js x).r + (jA js x).t) (k := k + 1) (fun y hy => hin y (List.mem_cons_of_mem _ hy)) (by omega) (by omega) (fun e he => by
      rcases List.mem_or_eq_of_mem_set he with g | g
      · have := hE e g
        simp only [List.length_cons] at this
        omega
      · omega) e he
    simp only [List.length_cons]
    omega
theorem valX_bd {o : Int} {js : List Job} {xs : List Int} (hg : goodL js = true) (hn : js.length ≤ 8) (hx : Ord js.length xs) : -(2 ^ 30) ≤ valX o js xs ∧ valX o js xs ≤ 2 ^ 30 := by
  have := @val_bd o js (endsL js xs) true 0 0 hg (fun e he => by
    have := endGo_bd hg (k := 0) hx.inn (Int.le_refl 0) (by omega) (fun e he => by rw [List.eq_of_mem_replicate he]; omega) e he
    have := hx.len
    omega) (by omega) (by omega) (by omega)
  unfold valX valE
  omega
def jOk (js : List Job) : Bool := decide (js.length ≤ 8) && goodL js
def okB (js : List Job) (o : Int) : Bool := jOk js && inB o 1 8
theorem jOk_of {js : List Job} (h : jOk js = true) : js.length ≤ 8 ∧ goodL js = true := by
  rw [jOk, Bool.and_eq_true, decide_eq_true_eq] at h; exact h
theorem inB_of {o : Int} (h : inB o 1 8 = true) : 1 ≤ o ∧ o ≤ 8 := by simpa [inB] using h
theorem okB_of {js : List Job} {o : Int} (h : okB js o = true) : js.length ≤ 8 ∧ goodL js = true ∧ (1 ≤ o ∧ o ≤ 8) := by
  rw [okB, Bool.and_eq_true] at h
  exact ⟨(jOk_of h.1).1, (jOk_of h.1).2, inB_of h.2⟩
theorem isObjective_run {h : Hp} {x : Int} : Ret P G n_impl_isObjective [.int .i64 x] h (.bool (inB x 1 8)) h := by
  refine enter_run e_impl_isObjective (by simp) ?_
  simp -implicitDefEqProofs [CL_ret within_run]
section
variable {h : Hp} {v u : Value} {js : List Job} {xs : List Int} {o : Int}
theorem good_run (hj : Jobs h v js) (hl : js.length ≤ 2 ^ 40) : Ret P G n_spec_l2Good [v] h (.bool (jOk js)) h := l2Good_run hj hl
theorem isJobs_run (hj : Jobs h v js) (hl : js.length ≤ 2 ^ 40) : Ret P G n_impl_IsJobs [v] h (.bool (jOk js)) h := IsJobs_run hj hl
def bR (js : List Job) (o : Int) : Sr := if okB js o = true then bestR (valX o js) js.length else sr0
theorem bR_v {js : List Job} {o : Int} (h : okB js o = true) : (bR js o).v = bestV o js := by rw [bR, if_pos h]; rfl
end
end Go.Pm.PP

/- Best values, counts, and exchanges of neighbours, as the programs export them. -/
set_option linter.unusedVariables false
set_option linter.unusedSimpArgs false
set_option maxRecDepth 4000
set_option maxHeartbeats 8000000
namespace Go.Pm.PP
open Go.Pm Go.Proofs Go.Pm.PE
section
variable {h : Hp} {v u : Value} {js : List Job} {xs ys : List Int} {o : Int}
theorem implBestValue_run (hj : Jobs h v js) (hl : js.length ≤ 2 ^ 40) : Ret P G n_impl_BestValue [v, .int .i64 o] h (.tuple #[.int .i64 (bR js o).v, .bool (okB js o)]) h := by
  refine enter_run e_impl_BestValue (by simp) ?_
  have r1 := isJobs_run hj hl
  have hjs := hj
  obtain ⟨oj, cj, rfl⟩ := hj.shapeT
  cases c1 : jOk js
  · simp -implicitDefEqProofs [CL_ret r1, CH_at r1, c1, bR, okB, sr0]
  · cases c2 : inB o 1 8
    · simp -implicitDefEqProofs [CL_ret r1, CH_at r1, c1, CL_ret isObjective_run, CH_at isObjective_run, c2, bR, okB, sr0]
    · have c3 : okB js o = true := by rw [okB, c1, c2]; rfl
      obtain ⟨hn, hg, ho⟩ := okB_of c3
      simp -implicitDefEqProofs [CL_ret r1, CH_at r1, c1, CL_ret isObjective_run, CH_at isObjective_run, c2]
      refine CL_post (best_run hjs hg hn ho) fun w h1 ⟨hp1, vf, ev, s1⟩ => ?_
      subst ev
      simp -implicitDefEqProofs
      exact ⟨⟨(bR_v c3).symm, c3⟩, gcP hp1 rfl⟩
/-! ### exchanges -/
end
end Go.Pm.PP

/- Exchanges of neighbours in plain terms; the value of an order, told along the order. -/
set_option linter.unusedVariables false
set_option linter.unusedSimpArgs false
namespace Go.Pm.PE
/-! ### exchanges -/
/-! ### sums -/
theorem sum_perm {l l' : List Int} (h : l.Perm l') : l.sum = l'.sum := by
  induction h with
  | nil => rfl
  | cons x _ ih => rw [List.sum_cons, List.sum_cons, ih]
  | swap x y l => simp only [List.sum_cons]; omega
  | trans _ _ h1 h2 => rw [h1, h2]
end Go.Pm.PE
namespace Go.Pm.PP
open Go.Pm Go.Pm.PE
/-! ### along an order -/
def endAt (j : Job) (now : Int) : Int := max now j.r + j.t
def nowGo (js : List Job) : Int → List Int → Int
  | now, [] => now
  | now, x :: r => nowGo js (endAt (jA js x) now) r
def sumGo (o : Int) (js : List Job) : Int → List Int → Int
  | _, [] => 0
  | now, x :: r => costV o (jA js x) (endAt (jA js x) now) + sumGo o js (endAt (jA js x) now) r
/-- The greatest one of a number and the latenesses. -/
def latGo (js : List Job) : Int → Int → List Int → Int
  | _, m, [] => m
  | now, m, x :: r => latGo js (endAt (jA js x) now) (max m (endAt (jA js x) now - (jA js x).d)) r
/-- Costs by the jobs' numbers. -/
def sumE (o : Int) (js : List Job) (E : List Int) (l : List Int) : Int := (l.map fun x => costV o (jA js x) (gE E x.toNat)).sum
theorem end_out {js : List Job} {i : Nat} : ∀ {xs : List Int} {now : Int} {E : List Int}, (∀ y, y ∈ xs → 0 ≤ y) → (i : Int) ∉ xs → gE (endGo js xs now E) i = gE E i
  | [], _, _, _, _ => rfl
  | x :: r, now, E, h0, hi => by
    have hx := h0 x (List.mem_cons_self ..)
    rw [endGo, end_out (fun y hy => h0 y (List.mem_cons_of_mem _ hy)) (fun g => hi (List.mem_cons_of_mem _ g))]
    have : ¬ x.toNat = i := fun g => hi (by rw [← g, show ((x.toNat : Nat) : Int) = x by omega]; exact List.mem_cons_self ..)
    unfold gE
    rw [List.getElem?_set_ne this]
/-- The costs along an order are those of the ends. -/
theorem sum_order {o : Int} {js : List Job} : ∀ {xs : List Int} {now : Int} {E : List Int}, inN E.length xs → xs.Nodup → sumE o js (endGo js xs now E) xs = sumGo o js now xs
  | [], _, _, _, _ => rfl
  | x :: r, now, E, hin, hnd => by
    have hx := hin x (List.mem_cons_self ..)
    have hnd := List.nodup_cons.1 hnd
    have h0 : ∀ y, y ∈ r → 0 ≤ y := fun y hy => (hin y (List.mem_cons_of_mem _ hy)).1
    have ih := sum_order (o := o) (js := js) (xs := r) (now := endAt (jA js x) now) (E := E.set x.toNat (endAt (jA js x) now)) (by rw [List.length_set]; exact fun y hy => hin y (List.mem_cons_of_mem _ hy)) hnd.2
    have he : gE (endGo js r (endAt (jA js x) now) (E.set x.toNat (endAt (jA js x) now))) x.toNat = endAt (jA js x) now := by
      rw [end_out h0 (by rw [show ((x.toNat : Nat) : Int) = x by omega]; exact hnd.1), gE_set (by omega), if_pos rfl]
    have e1 : endGo js (x :: r) now E = endGo js r (endAt (jA js x) now) (E.set x.toNat (endAt (jA js x) now)) := rfl
    rw [e1, sumGo, ← ih]
    show (List.map _ (x :: r)).sum = _
    rw [List.map_cons, List.sum_cons, he]
    rfl
theorem valGo_sum {o : Int} (h1 : ¬ o = 1) (h4 : ¬ o = 4) : ∀ {js : List Job} {es : List Int} {f : Bool} {a : Int}, js.length = es.length → valGo o f a js es = a + ((List.range' 0 js.length).map fun i => costV o ((js[i]?).getD ⟨0, 0, 0, 0⟩) (gE es i)).sum
  | [], [], f, a, _ => by simp [valGo]
  | [], e :: es, f, a, h => by simp at h
  | j :: js, [], f, a, h => by simp at h
  | j :: js, e :: es, f, a, h => by
    rw [valGo, valGo_sum h1 h4 (by simpa using h), List.length_cons, List.range'_succ, List.map_cons, List.sum_cons]
    have e1 : List.range' (0 + 1) js.length = (List.range' 0 js.length).map (1 + ·) := by rw [List.map_add_range' (a := 1)]
    have e2 : stepV o f a j e = a + costV o j e := by unfold stepV; rw [if_neg h1, if_neg h4]
    rw [e1, List.map_map, e2, Int.add_assoc]
    congr 1
    congr 1
    congr 1
    apply List.map_congr_left
    intro i _
    simp [gE, Nat.add_comm 1 i]
/-- An order of n jobs. -/
def Prm (n : Nat) (xs : List Int) : Prop := xs.Perm ((List.range' 0 n).map fun i : Nat => (i : Int))
theorem Prm.inn {n : Nat} {xs : List Int} (h : Prm n xs) : inN n xs := fun x hx => by
  have := h.mem_iff.1 hx
  obtain ⟨i, hi, rfl⟩ := List.mem_map.1 this
  simp [List.mem_range'_1] at hi
  omega
theorem Prm.nd {n : Nat} {xs : List Int} (h : Prm n xs) : xs.Nodup := h.nodup_iff.2 (List.Pairwise.map _ (fun a b h e => h (by omega)) List.nodup_range')
theorem Prm.len {n : Nat} {xs : List Int} (h : Prm n xs) : xs.length = n := by rw [h.length_eq]; simp
/-- Sums along an order. -/
theorem val_sum {o : Int} {js : List Job} {xs : List Int} (h1 : ¬ o = 1) (h4 : ¬ o = 4) (h : Prm js.length xs) : valE o js (endsL js xs) = sumGo o js 0 xs := by
  have hl : (List.replicate js.length (0 : Int)).length = js.length := by simp
  have e1 := sum_order (o := o) (js := js) (xs := xs) (now := 0) (E := List.replicate js.length 0) (by rw [hl]; exact h.inn) h.nd
  unfold valE
  rw [valGo_sum h1 h4 endsL_len.symm, Int.zero_add, ← e1]
  unfold sumE
  rw [sum_perm (h.map fun x => costV o (jA js x) (gE (endGo js xs 0 (List.replicate js.length 0)) x.toNat)), List.map_map]
  rfl
/-! ### the greatest lateness -/
def mxE (js : List Job) (E : List Int) (m : Int) (l : List Int) : Int := l.foldl (fun m x => max m (gE E x.toNat - (jA js x).d)) m
theorem mxE_perm {js : List Job} {E : List Int} {l l' : List Int} (h : l.Perm l') : ∀ {m : Int}, mxE js E m l = mxE js E m l' := by
  induction h with
  | nil => intro m; rfl
  | cons x _ ih => intro m; exact ih
  | swap x y l => intro m; unfold mxE; simp only [List.foldl_cons]; congr 1; omega
  | trans _ _ h1 h2 => intro m; rw [h1, h2]
theorem lat_order {js : List Job} : ∀ {xs : List Int} {now m : Int} {E : List Int}, inN E.length xs → xs.Nodup → mxE js (endGo js xs now E) m xs = latGo js now m xs
  | [], _, _, _, _, _ => rfl
  | x :: r, now, m, E, hin, hnd => by
    have hx := hin x (List.mem_cons_self ..)
    have hnd := List.nodup_cons.1 hnd
    have h0 : ∀ y, y ∈ r → 0 ≤ y := fun y hy => (hin y (List.mem_cons_of_mem _ hy)).1
    have ih := lat_order (js := js) (xs := r) (now := endAt (jA js x) now) (m := max m (endAt (jA js x) now - (jA js x).d)) (E := E.set x.toNat (endAt (jA js x) now)) (by rw [List.length_set]; exact fun y hy => hin y (List.mem_cons_of_mem _ hy)) hnd.2
    have he : gE (endGo js r (endAt (jA js x) now) (E.set x.toNat (endAt (jA js x) now))) x.toNat = endAt (jA js x) now := by
      rw [end_out h0 (by rw [show ((x.toNat : Nat) : Int) = x by omega]; exact hnd.1), gE_set (by omega), if_pos rfl]
    have e1 : endGo js (x :: r) now E = endGo js r (endAt (jA js x) now) (E.set x.toNat (endAt (jA js x) now)) := rfl
    rw [e1, latGo, ← ih]
    unfold mxE
    rw [List.foldl_cons, he]
theorem valGo_lat : ∀ {js : List Job} {es : List Int} {a : Int}, js.length = es.length → valGo 4 false a js es = (List.range' 0 js.length).foldl (fun m i => max m (gE es i - ((js[i]?).getD ⟨0, 0, 0, 0⟩).d)) a
  | [], [], a, _ => by simp [valGo]
  | [], e :: es, a, h => by simp at h
  | j :: js, [], a, h => by simp at h
  | j :: js, e :: es, a, h => by
    rw [valGo, valGo_lat (by simpa using h), List.length_cons, List.range'_succ, List.foldl_cons]
    have e1 : List.range' (0 + 1) js.length = (List.range' 0 js.length).map (1 + ·) := by rw [List.map_add_range' (a := 1)]
    rw [e1, List.foldl_map]
    have e2 : stepV 4 false a j e = max a (gE (e :: es) 0 - (((j :: js)[0]?).getD (⟨0, 0, 0, 0⟩ : Job)).d) := rfl
    rw [e2]
    exact fold_congr fun i _ m => by simp [gE, Nat.add_comm 1 i]
/-- The greatest lateness along an order: no number below all of them changes it. -/
theorem val_lat {js : List Job} {xs : List Int} (h : Prm js.length xs) {m : Int} (hm : ∃ x, x ∈ xs ∧ m ≤ gE (endsL js xs) x.toNat - (jA js x).d) : valE 4 js (endsL js xs) = latGo js 0 m xs := by
  have hl : (List.replicate js.length (0 : Int)).length = js.length := by simp
  have e1 := lat_order (js := js) (xs := xs) (now := 0) (m := m) (E := List.replicate js.length 0) (by rw [hl]; exact h.inn) h.nd
  rw [← e1, mxE_perm h]
  unfold valE
  have hel : (endsL js xs).length = js.length := endsL_len
  obtain ⟨x, hx, hmx⟩ := hm
  have hxm := h.mem_iff.1 hx
  show _ = mxE js (endsL js xs) m _
  generalize endsL js xs = es at *
  cases js with
  | nil => simp at hxm
  | cons j js =>
    cases es with
    | nil => simp at hel
    | cons e es =>
      have hmax : ∀ {l : List Int} {a b : Int}, (b ≤ a ∨ ∃ x, x ∈ l ∧ b ≤ gE (e :: es) x.toNat - (jA (j :: js) x).d) → mxE (j :: js) (e :: es) (max b a) l = mxE (j :: js) (e :: es) a l := by
        intro l
        induction l with
        | nil => intro a b g; rcases g with g | ⟨x, g, _⟩; (show max b a = a; omega); cases g
        | cons y l ih =>
          intro a b g
          unfold mxE at ih ⊢
          rw [List.foldl_cons, List.foldl_cons]
          rw [show max (max b a) (gE (e :: es) y.toNat - (jA (j :: js) y).d) = max b (max a (gE (e :: es) y.toNat - (jA (j :: js) y).d)) by omega]
          refine ih ?_
          rcases g with g | ⟨x, g, hb⟩
          · left; omega
          · rcases List.mem_cons.1 g with rfl | g
            · left; omega
            · exact .inr ⟨x, g, hb⟩
      rw [valGo, valGo_lat (by simpa using hel.symm)]
      rw [List.length_cons, List.range'_succ, List.map_cons]
      have e2 : stepV 4 true 0 j e = gE (e :: es) 0 - (jA (j :: js) 0).d := by simp [stepV, gE, jA]
      have e3 : List.foldl (fun m i => max m (gE es i - ((js[i]?).getD ⟨0, 0, 0, 0⟩).d)) (gE (e :: es) 0 - (jA (j :: js) 0).d) (List.range' 0 js.length) = mxE (j :: js) (e :: es) (gE (e :: es) 0 - (jA (j :: js) 0).d) ((List.range' (0 + 1) js.length).map fun i : Nat => (i : Int)) := by
        have e1 : List.range' (0 + 1) js.length = (List.range' 0 js.length).map (1 + ·) := by rw [List.map_add_range' (a := 1)]
        unfold mxE
        rw [e1, List.map_map, List.foldl_map]
        exact fold_congr fun i _ m => by simp [Function.comp, jA, Int.toNat_natCast, gE, Nat.add_comm 1 i]
      rw [e2, e3]
      show mxE _ _ _ _ = mxE _ _ (max m (gE (e :: es) ((0 : Nat) : Int).toNat - (jA (j :: js) ((0 : Nat) : Int)).d)) _
      rw [hmax]
      · rfl
      · rw [List.length_cons, List.range'_succ, List.map_cons] at hxm
        rcases List.mem_cons.1 hxm with g | g
        · left; rw [g] at hmx; exact hmx
        · exact .inr ⟨x, g, hmx⟩
end Go.Pm.PP

/- Exchanges of neighbours for jobs without releases: sums, weighted sums, lateness; losses by inversions. -/
set_option linter.unusedVariables false
set_option linter.unusedSimpArgs false
namespace Go.Pm.PP
open Go.Pm Go.Pm.PE
/-- Jobs without releases. -/
structure Pl (js : List Job) : Prop where
  r : ∀ x, (jA js x).r = 0
  t : ∀ x, 0 ≤ (jA js x).t
theorem Pl.endAt {js : List Job} (p : Pl js) {x now : Int} (h : 0 ≤ now) : endAt (jA js x) now = now + (jA js x).t := by
  unfold PP.endAt; rw [p.r]; omega
theorem Pl.now {js : List Job} (p : Pl js) : ∀ {A : List Int} {now : Int}, 0 ≤ now → 0 ≤ nowGo js now A
  | [], _, h => h
  | x :: A, now, h => by
    rw [nowGo, p.endAt h]
    exact p.now (by have := p.t x; omega)
/-! ### inversions -/
end Go.Pm.PP

/- Sorting in plain terms: the program's from behind, the reference's from the front. -/
set_option linter.unusedVariables false
set_option linter.unusedSimpArgs false
namespace Go.Pm.PE
variable {ah : Int → Int → Bool}
/-- A relation by which x goes ahead. -/
structure Weak (ah : Int → Int → Bool) : Prop where
  asy : ∀ {a b}, ah a b = true → ah b a = false
  tr : ∀ {a b c}, ah a b = false → ah b c = false → ah a c = false
/-- Two lists of the same elements that are sorted strictly are the same. -/
theorem sorted_eq {R : Int → Int → Prop} (hR : ∀ a b, R a b → R b a → False) : ∀ {l l' : List Int}, l.Pairwise R → l'.Pairwise R → l.Perm l' → l = l'
  | [], l', _, _, hp => (List.perm_nil.1 hp.symm).symm
  | x :: l, [], _, _, hp => by have := hp.length_eq; simp at this
  | x :: l, y :: l', h, h', hp => by
    have h := List.pairwise_cons.1 h
    have h' := List.pairwise_cons.1 h'
    have hx := hp.mem_iff.1 (List.mem_cons_self ..)
    have hy := hp.symm.mem_iff.1 (List.mem_cons_self ..)
    have e : x = y := by
      rcases List.mem_cons.1 hx with g | g
      · exact g
      · rcases List.mem_cons.1 hy with g2 | g2
        · exact g2.symm
        · exact (hR x y (h.1 y g2) (h'.1 x g)).elim
    subst e
    rw [sorted_eq hR h.2 h'.2 ((List.perm_cons x).1 hp)]
/-! ### from the front -/
end Go.Pm.PE

/- Sets as binary digits, in plain terms. -/
set_option linter.unusedVariables false
set_option linter.unusedSimpArgs false
namespace Go.Pm.PE
theorem bit_sub {c i j : Nat} (h : c.testBit i = true) : (c - 2 ^ i).testBit j = (c.testBit j && !decide (j = i)) := by
  have e1 := Nat.div_add_mod c (2 ^ (i + 1))
  have e2 := Nat.mod_lt c (Nat.two_pow_pos (i + 1))
  have e3 : (c % 2 ^ (i + 1)).testBit i = true := by rw [Nat.testBit_mod_two_pow, h]; simp
  generalize c / 2 ^ (i + 1) = q at *
  generalize c % 2 ^ (i + 1) = b at *
  have hb : 2 ^ i ≤ b := Nat.ge_two_pow_of_testBit e3
  obtain ⟨r, rfl⟩ : ∃ r, b = 2 ^ i * 1 + r := ⟨b - 2 ^ i, by omega⟩
  have hr : r < 2 ^ i := by rw [Nat.pow_succ] at e2; omega
  rw [← e1]
  have e4 : 2 ^ (i + 1) * q + (2 ^ i * 1 + r) - 2 ^ i = 2 ^ (i + 1) * q + r := by omega
  rw [e4, Nat.testBit_two_pow_mul_add q (by rw [Nat.pow_succ]; omega) j, Nat.testBit_two_pow_mul_add q e2 j]
  by_cases g : j < i + 1
  · rw [if_pos g, if_pos g, Nat.testBit_two_pow_mul_add 1 hr j]
    by_cases g2 : j < i
    · rw [if_pos g2]; simp; omega
    · have : j = i := by omega
      subst this
      rw [if_neg g2]
      simp [Nat.testBit_lt_two_pow hr]
  · rw [if_neg g, if_neg g]
    simp; omega
/-- The set with the digits of a number. -/
def bitsL (n c : Nat) : List Int := ((List.range' 0 n).filter fun i => c.testBit i).map fun i : Nat => (i : Int)
theorem mem_bits {n c : Nat} {x : Int} : x ∈ bitsL n c ↔ 0 ≤ x ∧ x < n ∧ c.testBit x.toNat = true := by
  unfold bitsL
  rw [List.mem_map]
  constructor
  · rintro ⟨i, hi, rfl⟩
    rw [List.mem_filter] at hi
    have := hi.1
    simp [List.mem_range'_1] at this
    exact ⟨by omega, by omega, by simpa using hi.2⟩
  · rintro ⟨h1, h2, h3⟩
    refine ⟨x.toNat, List.mem_filter.2 ⟨by simp [List.mem_range'_1]; omega, h3⟩, by omega⟩
theorem bits_asc {n c : Nat} : (bitsL n c).Pairwise (· < ·) := by
  unfold bitsL
  refine List.Pairwise.map _ (fun a b h => ?_) (List.Pairwise.filter _ List.pairwise_lt_range')
  omega
theorem bits_nodup {n c : Nat} : (bitsL n c).Nodup := bits_asc.imp fun h => by omega
theorem bits_zero {n : Nat} : bitsL n 0 = [] := by
  unfold bitsL
  rw [List.filter_eq_nil_iff.2]; rfl
  intro i _; simp
/-- One less. -/
theorem bits_del {n c i : Nat} (hi : i < n) (h : c.testBit i = true) : (bitsL n c).Perm ((i : Int) :: bitsL n (c - 2 ^ i)) := by
  refine (List.perm_ext_iff_of_nodup bits_nodup (List.nodup_cons.2 ⟨fun g => ?_, bits_nodup⟩)).2 fun x => ?_
  · have := (mem_bits.1 g).2.2
    rw [bit_sub h] at this
    simp at this
  · rw [List.mem_cons, mem_bits, mem_bits, bit_sub h]
    constructor
    · rintro ⟨h1, h2, h3⟩
      by_cases e : x = i
      · exact .inl e
      · refine .inr ⟨h1, h2, ?_⟩
        rw [h3]; simp; omega
    · rintro (rfl | ⟨h1, h2, h3⟩)
      · exact ⟨by omega, by omega, by simpa using h⟩
      · simp at h3; exact ⟨h1, h2, h3.1⟩
theorem bits_ne {n c : Nat} (hc : 0 < c) (hn : c < 2 ^ n) : ∃ i, i < n ∧ c.testBit i = true := by
  obtain ⟨i, hi⟩ := Nat.exists_testBit_of_ne_zero (by omega : c ≠ 0)
  refine ⟨i, ?_, hi⟩
  have := Nat.ge_two_pow_of_testBit hi
  exact (Nat.pow_lt_pow_iff_right (by omega : 1 < 2)).1 (Nat.lt_of_le_of_lt this hn)
/-- The digits of a number less than 2^n are among the first n. -/
theorem bit_lt {n c i : Nat} (hn : c < 2 ^ n) (h : c.testBit i = true) : i < n := (Nat.pow_lt_pow_iff_right (by omega : 1 < 2)).1 (Nat.lt_of_le_of_lt (Nat.ge_two_pow_of_testBit h) hn)
end Go.Pm.PE

/- The table of the least values of sets, in plain terms. -/
set_option linter.unusedVariables false
set_option linter.unusedSimpArgs false
namespace Go.Pm.PP
open Go.Pm Go.Pm.PE
/-- Costs are bounded, and no less for later ends. -/
structure Cb (o : Int) (js : List Job) : Prop where
  lo : ∀ x e, 0 ≤ e → 0 ≤ costV o (jA js x) e
  hi : ∀ x e, 0 ≤ e → e ≤ 2 ^ 20 → costV o (jA js x) e ≤ 2 ^ 27
  mo : ∀ x e e', 0 ≤ e → e ≤ e' → costV o (jA js x) e ≤ costV o (jA js x) e'
end Go.Pm.PP

/- Ruled orders, due orders, inversions, in plain terms. -/
set_option linter.unusedVariables false
set_option linter.unusedSimpArgs false
namespace Go.Pm.PP
open Go.Pm Go.Pm.PE
/-! ### the list of inversions -/
/-! ### due order -/
/-! ### timely -/
end Go.Pm.PP

/- The last end of an order; sets of digits of any length. -/
set_option linter.unusedVariables false
set_option linter.unusedSimpArgs false
namespace Go.Pm.PE
theorem bits_any {c i n : Nat} (h1 : c < 2 ^ i) (h2 : c < 2 ^ n) : bitsL i c = bitsL n c := by
  refine sorted_eq (R := (· < ·)) (fun a b h1 h2 => by omega) bits_asc bits_asc ((List.perm_ext_iff_of_nodup bits_nodup bits_nodup).2 fun x => ?_)
  rw [mem_bits, mem_bits]
  constructor
  · rintro ⟨g1, g2, g3⟩
    have := bit_lt h2 g3
    exact ⟨g1, by omega, g3⟩
  · rintro ⟨g1, g2, g3⟩
    have := bit_lt h1 g3
    exact ⟨g1, by omega, g3⟩
theorem bits_snoc {i c : Nat} : bitsL (i + 1) c = bitsL i c ++ (if c.testBit i = true then [(i : Int)] else []) := by
  unfold bitsL
  rw [List.range'_concat, List.filter_append, List.map_append]
  congr 1
  rw [Nat.zero_add, Nat.one_mul, List.filter_cons]
  split <;> rfl
theorem bits_len {i c : Nat} : (bitsL i c).length ≤ i := by
  unfold bitsL
  rw [List.length_map]
  refine Nat.le_trans (List.length_filter_le ..) ?_
  simp
end Go.Pm.PE
namespace Go.Pm.PP
open Go.Pm Go.Pm.PE
end Go.Pm.PP

/- Ruled orders are best, in plain terms: the last end too. -/
set_option linter.unusedVariables false
set_option linter.unusedSimpArgs false
namespace Go.Pm.PP
open Go.Pm Go.Pm.PE
end Go.Pm.PP

/- Fronts of points, in plain terms. -/
set_option linter.unusedVariables false
set_option linter.unusedSimpArgs false
namespace Go.Pm.PE
abbrev Pt := Int × Int
def domB (p q : Pt) : Bool := !(p.1 == q.1 && p.2 == q.2) && decide (p.1 ≤ q.1) && decide (p.2 ≤ q.2)
def sameB (p q : Pt) : Bool := p.1 == q.1 && p.2 == q.2
theorem sameB_iff {p q : Pt} : sameB p q = true ↔ p = q := by
  unfold sameB; rw [Bool.and_eq_true, beq_iff_eq, beq_iff_eq]
  constructor
  · rintro ⟨h1, h2⟩; exact Prod.ext h1 h2
  · rintro rfl; exact ⟨rfl, rfl⟩
theorem domB_iff {p q : Pt} : domB p q = true ↔ p ≠ q ∧ p.1 ≤ q.1 ∧ p.2 ≤ q.2 := by
  have := @sameB_iff p q
  unfold sameB at this
  unfold domB
  rw [Bool.and_eq_true, Bool.and_eq_true, Bool.not_eq_true', decide_eq_true_eq, decide_eq_true_eq, ← Bool.not_eq_true, this, and_assoc]
def insP (p : Pt) : List Pt → List Pt
  | [] => [p]
  | q :: l => if p.1 < q.1 then p :: q :: l else q :: insP p l
theorem insP_perm {p : Pt} : ∀ {l : List Pt}, (insP p l).Perm (p :: l)
  | [] => List.Perm.refl _
  | q :: l => by
    rw [insP]; split
    · exact List.Perm.refl _
    · exact (List.Perm.cons q insP_perm).trans (List.Perm.swap ..)
/-- A point or one that dominates it is there. -/
def coverB (F : List Pt) (p : Pt) : Bool := F.any fun q => sameB q p || domB q p
def restF (F : List Pt) (p : Pt) : List Pt := F.filter fun q => !domB p q
def putF (F : List Pt) (p : Pt) : List Pt := if coverB F p = true then F else insP p (restF F p)
def Srt (F : List Pt) : Prop := F.Pairwise fun a b => a.1 < b.1 ∧ b.2 < a.2
theorem rest_srt {F : List Pt} {p : Pt} (h : Srt F) : Srt (restF F p) := h.sublist List.filter_sublist
theorem rest_mem {F : List Pt} {p q : Pt} : q ∈ restF F p ↔ q ∈ F ∧ domB p q = false := by
  unfold restF; rw [List.mem_filter]; simp
theorem cover_iff {F : List Pt} {p : Pt} : coverB F p = true ↔ ∃ q, q ∈ F ∧ q.1 ≤ p.1 ∧ q.2 ≤ p.2 := by
  unfold coverB
  rw [List.any_eq_true]
  constructor
  · rintro ⟨q, hq, h⟩
    rw [Bool.or_eq_true, sameB_iff, domB_iff] at h
    refine ⟨q, hq, ?_⟩
    rcases h with rfl | h
    · exact ⟨Int.le_refl _, Int.le_refl _⟩
    · exact h.2
  · rintro ⟨q, hq, h1, h2⟩
    refine ⟨q, hq, ?_⟩
    rw [Bool.or_eq_true, sameB_iff, domB_iff]
    by_cases e : q = p
    · exact .inl e
    · exact .inr ⟨e, h1, h2⟩
/-- What is left and the new point part in both numbers. -/
theorem rest_part {F : List Pt} {p q : Pt} (hc : coverB F p = false) (hq : q ∈ restF F p) : (q.1 < p.1 ∧ p.2 < q.2) ∨ (p.1 < q.1 ∧ q.2 < p.2) := by
  obtain ⟨h1, h2⟩ := rest_mem.1 hq
  have h3 : ¬ (q.1 ≤ p.1 ∧ q.2 ≤ p.2) := fun g => by
    have := cover_iff.2 ⟨q, h1, g⟩
    rw [this] at hc; cases hc
  have h4 : ¬ (p ≠ q ∧ p.1 ≤ q.1 ∧ p.2 ≤ q.2) := fun g => by
    rw [domB_iff.2 g] at h2; cases h2
  have h5 : ¬ (p.1 ≤ q.1 ∧ p.2 ≤ q.2) := fun g => h4 ⟨fun e => h3 (by rw [e]; exact ⟨Int.le_refl _, Int.le_refl _⟩), g⟩
  omega
theorem insP_srt {p : Pt} : ∀ {l : List Pt}, Srt l → (∀ q, q ∈ l → (q.1 < p.1 ∧ p.2 < q.2) ∨ (p.1 < q.1 ∧ q.2 < p.2)) → Srt (insP p l)
  | [], _, _ => by rw [insP]; exact List.pairwise_singleton ..
  | q :: l, h, hp => by
    have h := List.pairwise_cons.1 h
    have hq := hp q (List.mem_cons_self ..)
    rw [insP]; split
    · rename_i g
      refine List.pairwise_cons.2 ⟨fun z hz => ?_, List.pairwise_cons.2 h⟩
      rcases List.mem_cons.1 hz with rfl | hz
      · omega
      · have := h.1 z hz; omega
    · rename_i g
      refine List.pairwise_cons.2 ⟨fun z hz => ?_, insP_srt h.2 fun z hz => hp z (List.mem_cons_of_mem _ hz)⟩
      rcases List.mem_cons.1 (insP_perm.mem_iff.1 hz) with rfl | hz
      · omega
      · exact h.1 z hz
theorem putF_srt {F : List Pt} {p : Pt} (h : Srt F) : Srt (putF F p) := by
  unfold putF; split
  · exact h
  · rename_i hc
    exact insP_srt (rest_srt h) fun q hq => rest_part (by simpa using hc) hq
theorem putF_mem {F : List Pt} {p q : Pt} (h : q ∈ putF F p) : q = p ∨ q ∈ F := by
  unfold putF at h; split at h
  · exact .inr h
  · rcases List.mem_cons.1 (insP_perm.mem_iff.1 h) with g | g
    · exact .inl g
    · exact .inr (rest_mem.1 g).1
theorem putF_cover {F : List Pt} {p r : Pt} (h : r = p ∨ ∃ q, q ∈ F ∧ q.1 ≤ r.1 ∧ q.2 ≤ r.2) : ∃ q, q ∈ putF F p ∧ q.1 ≤ r.1 ∧ q.2 ≤ r.2 := by
  unfold putF; split
  · rename_i hc
    rcases h with rfl | h
    · exact cover_iff.1 hc
    · exact h
  · have hp : p ∈ insP p (restF F p) := insP_perm.mem_iff.2 (List.mem_cons_self ..)
    rcases h with rfl | ⟨q, hq, h1, h2⟩
    · exact ⟨r, hp, Int.le_refl _, Int.le_refl _⟩
    · cases hd : domB p q with
      | true =>
        have := domB_iff.1 hd
        exact ⟨p, hp, by omega, by omega⟩
      | false => exact ⟨q, insP_perm.mem_iff.2 (List.mem_cons_of_mem _ (rest_mem.2 ⟨hq, hd⟩)), h1, h2⟩
/-- A front of the points of some things. -/
theorem front_fold {α : Type} {pt : α → Pt} : ∀ {l : List α} {F : List Pt} {S : Pt → Prop}, Srt F → (∀ q, q ∈ F → S q) → (∀ x, x ∈ l → S (pt x)) →
    Srt (l.foldl (fun F x => putF F (pt x)) F) ∧ (∀ q, q ∈ l.foldl (fun F x => putF F (pt x)) F → S q) ∧ ∀ r, ((∃ x, x ∈ l ∧ r = pt x) ∨ ∃ q, q ∈ F ∧ q.1 ≤ r.1 ∧ q.2 ≤ r.2) → ∃ q, q ∈ l.foldl (fun F x => putF F (pt x)) F ∧ q.1 ≤ r.1 ∧ q.2 ≤ r.2
  | [], F, S, h, hS, _ => ⟨h, hS, fun r hr => by
      rcases hr with ⟨x, hx, _⟩ | g
      · cases hx
      · exact g⟩
  | x :: l, F, S, h, hS, hl => by
    rw [List.foldl_cons]
    obtain ⟨h1, h2, h3⟩ := front_fold (l := l) (F := putF F (pt x)) (S := S) (putF_srt h) (fun q hq => by
      rcases putF_mem hq with rfl | g
      · exact hl x (List.mem_cons_self ..)
      · exact hS q g) fun y hy => hl y (List.mem_cons_of_mem _ hy)
    refine ⟨h1, h2, fun r hr => h3 r ?_⟩
    rcases hr with ⟨y, hy, e⟩ | g
    · rcases List.mem_cons.1 hy with rfl | hy
      · exact .inr (putF_cover (.inl e))
      · exact .inl ⟨y, hy, e⟩
    · exact .inr (putF_cover (.inr g))
/-! ### the first one that fits -/
end Go.Pm.PE
namespace Go.Pm.PP
open Go.Pm Go.Pm.PE
end Go.Pm.PP
namespace Go.Pm.PE
/-- A front with bounded first numbers is not long. -/
def FOk (F : List Pt) : Prop := Srt F ∧ ∀ q, q ∈ F → -(2 ^ 30) ≤ q.1 ∧ q.1 ≤ 2 ^ 30
theorem srt_len : ∀ {F : List Pt} {a : Int}, Srt F → (∀ q, q ∈ F → a ≤ q.1 ∧ q.1 ≤ 2 ^ 30) → a ≤ 2 ^ 30 + 1 → (F.length : Int) ≤ 2 ^ 30 + 1 - a
  | [], a, _, _, ha => by simp; omega
  | q :: F, a, h, hb, ha => by
    have h := List.pairwise_cons.1 h
    have hq := hb q (List.mem_cons_self ..)
    have := srt_len (F := F) (a := q.1 + 1) h.2 (fun z hz => by have := h.1 z hz; have := hb z (List.mem_cons_of_mem _ hz); omega) (by omega)
    rw [List.length_cons]; omega
theorem FOk.len {F : List Pt} (h : FOk F) : F.length ≤ 2 ^ 32 := by
  have := srt_len h.1 h.2 (by omega); omega
theorem FOk.put {F : List Pt} (h : FOk F) {p : Pt} (hp : -(2 ^ 30) ≤ p.1 ∧ p.1 ≤ 2 ^ 30) : FOk (putF F p) := ⟨putF_srt h.1, fun q hq => by
  rcases putF_mem hq with rfl | g
  · exact hp
  · exact h.2 q g⟩
theorem FOk.nil : FOk [] := ⟨List.Pairwise.nil, fun q hq => by cases hq⟩
end Go.Pm.PE

/- Tables of truth values and their closures, in plain terms. -/
set_option linter.unusedVariables false
set_option linter.unusedSimpArgs false
namespace Go.Pm.PE
def tG (T : List (List Bool)) (a b : Nat) : Bool := (((T[a]?).getD [])[b]?).getD false
def tS (T : List (List Bool)) (a b : Nat) (x : Bool) : List (List Bool) := T.set a (((T[a]?).getD []).set b x)
structure TOk (n : Nat) (T : List (List Bool)) : Prop where
  len : T.length = n
  row : ∀ r, r ∈ T → r.length = n
theorem TOk.at {n : Nat} {T : List (List Bool)} (k : TOk n T) {a : Nat} (ha : a < n) : ∃ r, T[a]? = some r ∧ r.length = n := by
  obtain ⟨r, hr, _⟩ := drop_at (show a < T.length by rw [k.len]; exact ha)
  exact ⟨r, hr, k.row r (List.mem_of_getElem? hr)⟩
theorem TOk.cell {n : Nat} {T : List (List Bool)} (k : TOk n T) {a b : Nat} (ha : a < n) (hb : b < n) : ∃ r, T[a]? = some r ∧ r.length = n ∧ r[b]? = some (tG T a b) := by
  obtain ⟨r, hr, hl⟩ := k.at ha
  obtain ⟨x, hx, _⟩ := drop_at (show b < r.length by omega)
  exact ⟨r, hr, hl, by simp [tG, hr, hx]⟩
theorem TOk.set {n : Nat} {T : List (List Bool)} (k : TOk n T) {a b : Nat} {x : Bool} (ha : a < n) : TOk n (tS T a b x) := by
  obtain ⟨r, hr, hl⟩ := k.at ha
  refine ⟨by unfold tS; rw [List.length_set, k.len], fun q hq => ?_⟩
  unfold tS at hq
  rw [hr, Option.getD_some] at hq
  rcases List.mem_or_eq_of_mem_set hq with g | g
  · exact k.row q g
  · rw [g, List.length_set, hl]
/-! ### closures -/
def falT (n : Nat) : List (List Bool) := List.replicate n (List.replicate n false)
def edT (T : List (List Bool)) (es : List (Int × Int)) : List (List Bool) := es.foldl (fun T e => tS T e.1.toNat e.2.toNat true) T
def cst (k i : Nat) (T : List (List Bool)) (j : Nat) : List (List Bool) := tS T i j (tG T i j || (tG T i k && tG T k j))
def cJ (k i : Nat) (T : List (List Bool)) (l : List Nat) : List (List Bool) := l.foldl (cst k i) T
def cI (n k : Nat) (T : List (List Bool)) (l : List Nat) : List (List Bool) := l.foldl (fun T i => cJ k i T (List.range' 0 n)) T
def cK (n : Nat) (T : List (List Bool)) (l : List Nat) : List (List Bool) := l.foldl (fun T k => cI n k T (List.range' 0 n)) T
def clo (n : Nat) (es : List (Int × Int)) : List (List Bool) := cK n (edT (falT n) es) (List.range' 0 n)
end Go.Pm.PE

/- Orders by a vector of ends, in plain terms. -/
set_option linter.unusedVariables false
set_option linter.unusedSimpArgs false
namespace Go.Pm.PE
open Go.Pm.PP
end Go.Pm.PE

/- The order that is found from its end under a limit of lateness, in plain terms: it is there if any order keeps to the limit, and then it has the least sum of ends of all these. -/
set_option linter.unusedVariables false
set_option linter.unusedSimpArgs false
namespace Go.Pm.PE
open Go.Pm.PP
section
variable (t d : Int → Int) (lim : Int)
def smG : Int → List Int → Int
  | _, [] => 0
  | now, x :: r => (now + t x) + smG (now + t x) r
def okG : Int → List Int → Bool
  | _, [] => true
  | now, x :: r => decide (now + t x ≤ d x + lim) && okG (now + t x) r
def tsm (l : List Int) : Int := (l.map t).sum
def bkP (e : Int) (left : List Int) : Int := left.foldl (fun b i => if e ≤ d i + lim ∧ (b < 0 ∨ t b ≤ t i) then i else b) (-1)
def bkF : Nat → List Int → Option (List Int)
  | 0, _ => some []
  | n + 1, left => if bkP t d lim (tsm t left) left < 0 then none else (bkF n (left.filter fun x => !(x == bkP t d lim (tsm t left) left))).map (· ++ [bkP t d lim (tsm t left) left])
end
section
variable {t d : Int → Int} {lim : Int}
theorem tsm_app {A C : List Int} : tsm t (A ++ C) = tsm t A + tsm t C := by simp [tsm]
theorem tsm_cons {x : Int} {C : List Int} : tsm t (x :: C) = t x + tsm t C := by simp [tsm]
theorem tsm_perm {l l' : List Int} (h : l.Perm l') : tsm t l = tsm t l' := sum_perm (h.map _)
theorem smG_app : ∀ {A C : List Int} {now : Int}, smG t now (A ++ C) = smG t now A + smG t (now + tsm t A) C
  | [], C, now => by simp [smG, tsm]
  | x :: A, C, now => by
    simp only [List.cons_append, smG, tsm_cons]
    rw [smG_app, show now + t x + tsm t A = now + (t x + tsm t A) by omega]; omega
theorem okG_app : ∀ {A C : List Int} {now : Int}, okG t d lim now (A ++ C) = (okG t d lim now A && okG t d lim (now + tsm t A) C)
  | [], C, now => by simp [okG, tsm]
  | x :: A, C, now => by
    simp only [List.cons_append, okG, tsm_cons]
    rw [okG_app, show now + t x + tsm t A = now + (t x + tsm t A) by omega, Bool.and_assoc]
theorem smG_mono : ∀ {C : List Int} {a b : Int}, a ≤ b → smG t a C ≤ smG t b C
  | [], _, _, _ => by simp [smG]
  | x :: C, a, b, h => by
    have := smG_mono (C := C) (a := a + t x) (b := b + t x) (by omega)
    simp only [smG]; omega
theorem okG_mono : ∀ {C : List Int} {a b : Int}, a ≤ b → okG t d lim b C = true → okG t d lim a C = true
  | [], _, _, _, _ => rfl
  | x :: C, a, b, h, e => by
    simp only [okG, Bool.and_eq_true, decide_eq_true_eq] at e ⊢
    exact ⟨by omega, okG_mono (by omega) e.2⟩
theorem bkP_go {e : Int} : ∀ {l : List Int} {b : Int}, (∀ x, x ∈ l → 0 ≤ x) → (b < 0 ∨ e ≤ d b + lim) → let q := l.foldl (fun b i => if e ≤ d i + lim ∧ (b < 0 ∨ t b ≤ t i) then i else b) b
    (q < 0 → b < 0 ∧ ∀ x, x ∈ l → ¬ e ≤ d x + lim) ∧ (0 ≤ q → (q = b ∨ q ∈ l) ∧ e ≤ d q + lim ∧ (0 ≤ b → t b ≤ t q) ∧ ∀ x, x ∈ l → e ≤ d x + lim → t x ≤ t q)
  | [], b, _, hb => by
    refine ⟨fun h => ⟨h, fun x hx => by cases hx⟩, fun h => ⟨.inl rfl, ?_, fun _ => Int.le_refl _, fun x hx => by cases hx⟩⟩
    simp only [List.foldl_nil] at h ⊢
    omega
  | y :: l, b, hl, hb => by
    simp only [List.foldl_cons]
    have hy := hl y (List.mem_cons_self ..)
    by_cases c : e ≤ d y + lim ∧ (b < 0 ∨ t b ≤ t y)
    · rw [if_pos c]
      obtain ⟨g1, g2⟩ := bkP_go (e := e) (l := l) (b := y) (fun x hx => hl x (List.mem_cons_of_mem _ hx)) (.inr c.1)
      refine ⟨fun h => by have := (g1 h).1; omega, fun h => ?_⟩
      obtain ⟨k1, k2, k3, k4⟩ := g2 h
      refine ⟨.inr ?_, k2, fun h0 => ?_, fun x hx hd => ?_⟩
      · rcases k1 with k1 | k1
        · rw [k1]; exact List.mem_cons_self ..
        · exact List.mem_cons_of_mem _ k1
      · have := k3 hy; omega
      · rcases List.mem_cons.1 hx with rfl | hx
        · exact k3 hy
        · exact k4 x hx hd
    · rw [if_neg c]
      obtain ⟨g1, g2⟩ := bkP_go (e := e) (l := l) (b := b) (fun x hx => hl x (List.mem_cons_of_mem _ hx)) hb
      refine ⟨fun h => ⟨(g1 h).1, fun x hx hd => ?_⟩, fun h => ?_⟩
      · rcases List.mem_cons.1 hx with rfl | hx
        · exact c ⟨hd, .inl (g1 h).1⟩
        · exact (g1 h).2 x hx hd
      · obtain ⟨k1, k2, k3, k4⟩ := g2 h
        refine ⟨?_, k2, k3, fun x hx hd => ?_⟩
        · rcases k1 with k1 | k1
          · exact .inl k1
          · exact .inr (List.mem_cons_of_mem _ k1)
        · rcases List.mem_cons.1 hx with rfl | hx
          · have : ¬ (b < 0 ∨ t b ≤ t x) := fun g => c ⟨hd, g⟩
            have := k3 (by omega)
            omega
          · exact k4 x hx hd
theorem bkP_neg {e : Int} {l : List Int} (hl : ∀ x, x ∈ l → 0 ≤ x) (h : bkP t d lim e l < 0) : ∀ x, x ∈ l → ¬ e ≤ d x + lim := ((bkP_go (t := t) hl (.inl (by omega))).1 h).2
theorem bkP_pos {e : Int} {l : List Int} (hl : ∀ x, x ∈ l → 0 ≤ x) (h : ¬ bkP t d lim e l < 0) : bkP t d lim e l ∈ l ∧ e ≤ d (bkP t d lim e l) + lim ∧ ∀ x, x ∈ l → e ≤ d x + lim → t x ≤ t (bkP t d lim e l) := by
  obtain ⟨k1, k2, _, k4⟩ := (bkP_go (t := t) (d := d) (lim := lim) (e := e) (b := -1) hl (.inl (by omega))).2 (by unfold bkP at h; omega)
  refine ⟨?_, k2, k4⟩
  rcases k1 with k1 | k1
  · unfold bkP at h; omega
  · exact k1
theorem filter_del {l : List Int} {b : Int} (hn : l.Nodup) (hb : b ∈ l) : l.Perm (b :: l.filter fun x => !(x == b)) := by
  induction l with
  | nil => cases hb
  | cons y l ih =>
    obtain ⟨h1, h2⟩ := List.nodup_cons.1 hn
    by_cases c : y = b
    · subst c
      rw [List.filter_cons]
      simp only [BEq.rfl, Bool.not_true, Bool.false_eq_true, if_false]
      rw [List.filter_eq_self.2]
      intro a ha
      have : ¬ a = y := fun g => h1 (g ▸ ha)
      simpa using this
    · rw [List.filter_cons, if_pos (by simpa using c)]
      have hb' : b ∈ l := by
        rcases List.mem_cons.1 hb with g | g
        · exact absurd g.symm c
        · exact g
      exact ((ih h2 hb').cons y).trans (List.Perm.swap ..)
/-- What is exchanged: the one that is chosen takes the last place. -/
theorem back_exch (ht : ∀ x, 0 ≤ t x) {r : List Int} {l b : Int} (hb : b ∈ r ++ [l]) (hle : t l ≤ t b) (hok : okG t d lim 0 (r ++ [l]) = true) : ∃ r', (b :: r').Perm (r ++ [l]) ∧ okG t d lim 0 r' = true ∧ smG t 0 r' ≤ smG t 0 r := by
  rw [okG_app, Bool.and_eq_true] at hok
  by_cases c : b = l
  · subst c
    exact ⟨r, List.perm_append_comm (l₁ := [b]), hok.1, Int.le_refl _⟩
  · have hbr : b ∈ r := by
      rcases List.mem_append.1 hb with g | g
      · exact g
      · exact absurd (by simpa using g) c
    obtain ⟨A, B, rfl⟩ := List.append_of_mem hbr
    refine ⟨A ++ l :: B, ?_, ?_, ?_⟩
    · have e1 : (A ++ l :: B).Perm (l :: (A ++ B)) := List.perm_middle
      have e2 : (A ++ b :: B ++ [l]).Perm (b :: (A ++ (B ++ [l]))) := by
        rw [List.append_assoc, List.cons_append]; exact List.perm_middle
      refine ((e1.trans ?_).cons b).trans e2.symm
      rw [← List.append_assoc]
      exact List.perm_append_comm (l₁ := [l]) (l₂ := A ++ B)
    · obtain ⟨h1, h2⟩ := hok
      rw [okG_app, Bool.and_eq_true] at h1 ⊢
      refine ⟨h1.1, ?_⟩
      have h3 := h1.2
      simp only [okG, Bool.and_eq_true, decide_eq_true_eq, tsm_app, tsm_cons, Bool.and_true] at h2 h3 ⊢
      have hB : 0 ≤ tsm t B := by
        have : ∀ C : List Int, 0 ≤ tsm t C := fun C => by
          induction C with
          | nil => simp [tsm]
          | cons y C ih => rw [tsm_cons]; have := ht y; omega
        exact this B
      have := ht b
      exact ⟨by omega, okG_mono (by omega) h3.2⟩
    · rw [smG_app, smG_app]
      simp only [smG]
      have := smG_mono (t := t) (C := B) (a := 0 + tsm t A + t l) (b := 0 + tsm t A + t b) (by omega)
      omega
theorem snoc_of {α : Type} {xs : List α} (h : xs ≠ []) : ∃ r x, xs = r ++ [x] := ⟨xs.dropLast, xs.getLast h, (List.dropLast_concat_getLast h).symm⟩
theorem bkF_spec (ht : ∀ x, 0 ≤ t x) : ∀ {n : Nat} {left : List Int}, left.length = n → left.Nodup → (∀ x, x ∈ left → 0 ≤ x) →
    (bkF t d lim n left = none → ∀ s, s.Perm left → okG t d lim 0 s = false) ∧
    ∀ o, bkF t d lim n left = some o → o.Perm left ∧ okG t d lim 0 o = true ∧ ∀ s, s.Perm left → okG t d lim 0 s = true → smG t 0 o ≤ smG t 0 s
  | 0, left, hl, _, _ => by
    obtain rfl : left = [] := List.length_eq_zero_iff.1 hl
    refine ⟨fun h => by simp [bkF] at h, fun o ho => ?_⟩
    simp only [bkF, Option.some.injEq] at ho
    subst ho
    refine ⟨List.Perm.refl _, rfl, fun s hs _ => ?_⟩
    rw [hs.eq_nil]; exact Int.le_refl _
  | n + 1, left, hl, hnd, h0 => by
    generalize hb : bkP t d lim (tsm t left) left = b
    generalize hL : left.filter (fun x => !(x == b)) = left'
    have hF : bkF t d lim (n + 1) left = if b < 0 then none else (bkF t d lim n left').map (· ++ [b]) := by simp only [bkF, hb, hL]
    rw [hF]
    have last : ∀ s, s.Perm left → okG t d lim 0 s = true → ∃ r l, s = r ++ [l] ∧ tsm t left ≤ d l + lim ∧ l ∈ left := fun s hs hok => by
      obtain ⟨r, l, rfl⟩ := snoc_of (xs := s) (by rintro rfl; have := hs.length_eq; simp at this; omega)
      refine ⟨r, l, rfl, ?_, hs.subset (by simp)⟩
      rw [okG_app, Bool.and_eq_true] at hok
      have h2 := hok.2
      simp only [okG, Bool.and_true, decide_eq_true_eq] at h2
      rw [← tsm_perm hs, tsm_app]
      simp only [tsm_cons, show tsm t [] = 0 from rfl]
      omega
    by_cases c : b < 0
    · rw [if_pos c]
      refine ⟨fun _ s hs => ?_, fun o ho => by cases ho⟩
      cases hok : okG t d lim 0 s
      · rfl
      obtain ⟨r, l, rfl, h2, hm⟩ := last s hs hok
      exact absurd h2 (bkP_neg h0 (by rw [hb]; exact c) l hm)
    · rw [if_neg c]
      obtain ⟨p1, p2, p3⟩ := bkP_pos (t := t) (d := d) (lim := lim) (e := tsm t left) h0 (by rw [hb]; exact c)
      rw [hb] at p1 p2 p3
      have hp : left.Perm (b :: left') := by rw [← hL]; exact filter_del hnd p1
      have hl' : left'.length = n := by have := hp.length_eq; simp at this; omega
      have hnd' : left'.Nodup := by rw [← hL]; exact hnd.sublist List.filter_sublist
      have h0' : ∀ x, x ∈ left' → 0 ≤ x := fun x hx => h0 x (by rw [← hL] at hx; exact (List.mem_filter.1 hx).1)
      obtain ⟨i1, i2⟩ := bkF_spec ht hl' hnd' h0'
      have key : ∀ s, s.Perm left → okG t d lim 0 s = true → ∃ r', r'.Perm left' ∧ okG t d lim 0 r' = true ∧ smG t 0 r' + tsm t left ≤ smG t 0 s := fun s hs hok => by
        obtain ⟨r, l, rfl, h2, hm⟩ := last s hs hok
        obtain ⟨r', q1, q2, q3⟩ := back_exch ht (hs.symm.subset p1) (p3 l hm h2) hok
        refine ⟨r', List.Perm.cons_inv (a := b) ((q1.trans hs).trans hp), q2, ?_⟩
        rw [← tsm_perm hs, smG_app, tsm_app]
        simp only [smG, tsm_cons, show tsm t [] = 0 from rfl]
        omega
      refine ⟨fun h s hs => ?_, fun o ho => ?_⟩
      · cases hok : okG t d lim 0 s
        · rfl
        obtain ⟨r', q1, q2, _⟩ := key s hs hok
        have := i1 (by cases g : bkF t d lim n left' with
          | none => rfl
          | some o => rw [g] at h; cases h) r' q1
        rw [this] at q2; cases q2
      · obtain ⟨o', ho', rfl⟩ := Option.map_eq_some_iff.1 ho
        obtain ⟨j1, j2, j3⟩ := i2 o' ho'
        have hpo : (o' ++ [b]).Perm left := (List.perm_append_comm.trans ((j1.cons b : (b :: o').Perm (b :: left')) : ([b] ++ o').Perm (b :: left'))).trans hp.symm
        have ht' : tsm t o' + t b = tsm t left := by rw [← tsm_perm hpo, tsm_app, tsm_cons]; simp [tsm]
        refine ⟨hpo, ?_, fun s hs hok => ?_⟩
        · rw [okG_app, j2]
          simp only [okG, Bool.and_true, Bool.true_and, decide_eq_true_eq]
          omega
        · obtain ⟨r', q1, q2, q3⟩ := key s hs hok
          have := j3 r' q1 q2
          rw [smG_app]
          simp only [smG]
          omega
end
/-- Two lists without dominated points that cover each other are the same. -/
theorem sorted_eqP {R : Pt → Pt → Prop} (hR : ∀ a b, R a b → R b a → False) : ∀ {l l' : List Pt}, l.Pairwise R → l'.Pairwise R → l.Perm l' → l = l'
  | [], l', _, _, h => (h.symm.eq_nil).symm
  | x :: l, [], _, _, h => by have := h.length_eq; simp at this
  | x :: l, y :: l', h1, h2, h => by
    obtain ⟨a1, a2⟩ := List.pairwise_cons.1 h1
    obtain ⟨b1, b2⟩ := List.pairwise_cons.1 h2
    have e : x = y := by
      rcases List.mem_cons.1 (h.subset (List.mem_cons_self ..)) with g | g
      · exact g
      · rcases List.mem_cons.1 (h.symm.subset (List.mem_cons_self ..)) with k | k
        · exact k.symm
        · exact (hR _ _ (a1 _ k) (b1 _ g)).elim
    subst e
    rw [sorted_eqP hR a2 b2 h.cons_inv]
theorem front_uniq {F F' : List Pt} (s : Srt F) (s' : Srt F') (h : ∀ q, q ∈ F → ∃ r, r ∈ F' ∧ r.1 ≤ q.1 ∧ r.2 ≤ q.2) (h' : ∀ q, q ∈ F' → ∃ r, r ∈ F ∧ r.1 ≤ q.1 ∧ r.2 ≤ q.2) : F = F' := by
  have nd : ∀ {G : List Pt}, Srt G → G.Nodup := fun sg => sg.imp fun {a b} g e => by subst e; omega
  have anti : ∀ {G : List Pt}, Srt G → ∀ a b, a ∈ G → b ∈ G → a.1 ≤ b.1 → a.2 ≤ b.2 → a = b := by
    intro G sg a b ha hb h1 h2
    obtain ⟨i, hi⟩ := List.getElem?_of_mem ha
    obtain ⟨j, hj⟩ := List.getElem?_of_mem hb
    obtain ⟨hi', ei⟩ := List.getElem?_eq_some_iff.1 hi
    obtain ⟨hj', ej⟩ := List.getElem?_eq_some_iff.1 hj
    have P := List.pairwise_iff_getElem.1 sg
    rcases Nat.lt_trichotomy i j with g | g | g
    · have := P i j hi' hj' g; rw [ei, ej] at this; omega
    · subst g; rw [← ei, ← ej]
    · have := P j i hj' hi' g; rw [ei, ej] at this; omega
  have sub : ∀ {F F' : List Pt}, Srt F → (∀ q, q ∈ F → ∃ r, r ∈ F' ∧ r.1 ≤ q.1 ∧ r.2 ≤ q.2) → (∀ q, q ∈ F' → ∃ r, r ∈ F ∧ r.1 ≤ q.1 ∧ r.2 ≤ q.2) → ∀ q, q ∈ F → q ∈ F' := by
    intro F F' s h h' q hq
    obtain ⟨r, hr, r1, r2⟩ := h q hq
    obtain ⟨u, hu, u1, u2⟩ := h' r hr
    have e := anti s u q hu hq (by omega) (by omega)
    subst e
    have : r = u := Prod.ext (by omega) (by omega)
    rw [← this]; exact hr
  exact sorted_eqP (R := fun a b => a.1 < b.1 ∧ b.2 < a.2) (fun a b h1 h2 => by omega) s s' ((List.perm_ext_iff_of_nodup (nd s) (nd s')).2 fun q => ⟨sub s h h' q, sub s' h' h q⟩)
end Go.Pm.PE

/- The choice by time and bounds of prefixes, in plain terms. -/
set_option linter.unusedVariables false
set_option linter.unusedSimpArgs false
namespace Go.Pm.PP
open Go.Pm Go.Pm.PE
structure Sp where
  j : Int
  a : Int
  b : Int
def encS (s : Sp) : List Value := [.int .i64 s.j, .int .i64 s.a, .int .i64 s.b]
/-! ### sums -/
def sumL : List Int → Int
  | [] => 0
  | x :: r => x + sumL r
theorem sumL_append : ∀ {l r : List Int}, sumL (l ++ r) = sumL l + sumL r
  | [], r => by simp [sumL]
  | x :: l, r => by rw [List.cons_append, sumL, sumL, sumL_append]; omega
theorem sumL_set : ∀ {l : List Int} {i : Nat} {y : Int}, i < l.length → sumL (l.set i y) = sumL l - gE l i + y
  | x :: l, 0, y, _ => by simp [sumL, gE]; omega
  | x :: l, i + 1, y, h => by
    have := @sumL_set l i y (by simpa using h)
    rw [List.set_cons_succ, sumL, sumL, this]
    simp [gE]; omega
theorem sumL_nn : ∀ {l : List Int}, (∀ x, x ∈ l → 0 ≤ x ∧ x ≤ 50) → 0 ≤ sumL l ∧ sumL l ≤ 50 * l.length
  | [], _ => by simp [sumL]
  | x :: l, h => by
    have h1 := h x (List.mem_cons_self ..)
    have h2 := sumL_nn fun y hy => h y (List.mem_cons_of_mem _ hy)
    rw [sumL, List.length_cons]; omega
theorem sumL_pos : ∀ {l : List Int}, (∀ x, x ∈ l → 0 ≤ x ∧ x ≤ 50) → 0 < sumL l → ∃ i, i < l.length ∧ 0 < gE l i
  | [], _, h => by simp [sumL] at h
  | x :: l, h, hs => by
    have h1 := h x (List.mem_cons_self ..)
    by_cases c : 0 < x
    · exact ⟨0, by simp, by simpa [gE] using c⟩
    · rw [sumL] at hs
      obtain ⟨i, h3, h4⟩ := sumL_pos (fun y hy => h y (List.mem_cons_of_mem _ hy)) (by omega)
      exact ⟨i + 1, by simpa using h3, by simpa [gE] using h4⟩
theorem gE_mem {l : List Int} {i : Nat} (h : i < l.length) : gE l i ∈ l := List.mem_of_getElem? (gE_get h)
/-! ### rests -/
def inP (B : List Int) (i : Nat) : Bool := B.any (· == (i : Int))
def restL (js : List Job) (B : List Int) : List Int := (List.range js.length).map fun i => if inP B i = true then 0 else (jA js i).t
theorem restL_len {js : List Job} {B : List Int} : (restL js B).length = js.length := by simp [restL]
theorem restL_at {js : List Job} {B : List Int} {i : Nat} (hi : i < js.length) : (restL js B)[i]? = some (if inP B i = true then 0 else (jA js i).t) := by
  unfold restL; rw [List.getElem?_map, List.getElem?_range hi]; rfl
theorem restL_bd {js : List Job} {B : List Int} (hg : goodL js = true) : ∀ x, x ∈ restL js B → 0 ≤ x ∧ x ≤ 50 := by
  intro x hx
  obtain ⟨i, hi, rfl⟩ := List.mem_map.1 hx
  have hi := List.mem_range.1 hi
  split
  · omega
  · obtain ⟨y, hy, _⟩ := drop_at hi
    have e : jA js i = y := by unfold jA; rw [Int.toNat_natCast, hy]; rfl
    rw [e]
    have := job_of (job_at hg hy)
    omega
theorem jA_bd {js : List Job} (hg : goodL js = true) {i : Nat} (hi : i < js.length) : (1 ≤ (jA js i).t ∧ (jA js i).t ≤ 50) ∧ (0 ≤ (jA js i).r ∧ (jA js i).r ≤ 500) ∧ 0 ≤ (jA js i).d ∧ (jA js i).d ≤ 500 := by
  obtain ⟨y, hy, _⟩ := drop_at hi
  have e : jA js i = y := by unfold jA; rw [Int.toNat_natCast, hy]; rfl
  rw [e]
  have := job_of (job_at hg hy)
  omega
/-! ### the choice -/
def betB (o : Int) (js : List Job) (rs : List Int) (i b : Nat) : Bool := if o = 2 then decide (gE rs i < gE rs b) else decide ((jA js i).d < (jA js b).d)
def pickF (o : Int) (js : List Job) (rs : List Int) (now : Int) (b : Int) (i : Nat) : Int := if gE rs i = 0 ∨ now < (jA js i).r then b else if b < 0 ∨ betB o js rs i b.toNat = true then i else b
def pickL (o : Int) (js : List Job) (rs : List Int) (now : Int) : Int := (List.range' 0 js.length).foldl (pickF o js rs now) (-1)
def pkOk (js : List Job) (rs : List Int) (b : Int) : Prop := 0 ≤ b ∧ b < js.length ∧ gE rs b.toNat ≠ 0
theorem pick_fact {o : Int} {js : List Job} {rs : List Int} {now : Int} : ∀ {m i : Nat} {b : Int}, i + m = js.length → (b = -1 ∨ pkOk js rs b) →
    ((List.range' i m).foldl (pickF o js rs now) b = -1 ∧ b = -1 ∧ ∀ k, i ≤ k → k < js.length → gE rs k = 0 ∨ now < (jA js k).r) ∨ pkOk js rs ((List.range' i m).foldl (pickF o js rs now) b)
  | 0, i, b, him, hb => by
    rw [List.range'_zero, List.foldl_nil]
    rcases hb with rfl | hb
    · exact .inl ⟨rfl, rfl, fun k h1 h2 => by omega⟩
    · exact .inr hb
  | m + 1, i, b, him, hb => by
    rw [List.range'_succ, List.foldl_cons]
    by_cases c1 : gE rs i = 0 ∨ now < (jA js i).r
    · have e : pickF o js rs now b i = b := by unfold pickF; rw [if_pos c1]
      rw [e]
      rcases pick_fact (o := o) (now := now) (m := m) (i := i + 1) (by omega) hb with ⟨h1, h2, h3⟩ | h
      · refine .inl ⟨h1, h2, fun k hk1 hk2 => ?_⟩
        by_cases e : k = i
        · subst e; exact c1
        · exact h3 k (by omega) hk2
      · exact .inr h
    · by_cases c2 : b < 0 ∨ betB o js rs i b.toNat = true
      · have e : pickF o js rs now b i = i := by unfold pickF; rw [if_neg c1, if_pos c2]
        rw [e]
        have ok : pkOk js rs (i : Int) := ⟨by omega, by omega, fun g => c1 (.inl g)⟩
        rcases pick_fact (o := o) (now := now) (m := m) (i := i + 1) (by omega) (.inr ok) with ⟨h1, h2, h3⟩ | h
        · omega
        · exact .inr h
      · have e : pickF o js rs now b i = b := by unfold pickF; rw [if_neg c1, if_neg c2]
        have hb' : pkOk js rs b := by rcases hb with rfl | hb; exact absurd (.inl (by omega)) c2; exact hb
        rw [e]
        rcases pick_fact (o := o) (now := now) (m := m) (i := i + 1) (by omega) (.inr hb') with ⟨h1, h2, h3⟩ | h
        · subst h2; exact absurd hb'.1 (by omega)
        · exact .inr h
theorem pick_cases {o : Int} {js : List Job} {rs : List Int} {now : Int} : (pickL o js rs now = -1 ∧ ∀ k, k < js.length → gE rs k = 0 ∨ now < (jA js k).r) ∨ ∃ b : Nat, pickL o js rs now = b ∧ b < js.length ∧ gE rs b ≠ 0 := by
  rcases pick_fact (o := o) (js := js) (rs := rs) (now := now) (m := js.length) (i := 0) (b := -1) (by omega) (.inl rfl) with ⟨h1, _, h3⟩ | ⟨h1, h2, h3⟩
  · exact .inl ⟨h1, fun k hk => h3 k (Nat.zero_le _) hk⟩
  · refine .inr ⟨(pickL o js rs now).toNat, ?_, ?_, h3⟩
    · unfold pickL; omega
    · unfold pickL; omega
def picks (o : Int) (js : List Job) : Nat → Int → List Int → List (Int × Int)
  | 0, _, _ => []
  | m + 1, now, rs => if sumL rs ≤ 0 then [] else if pickL o js rs now < 0 then picks o js m (now + 1) rs
      else (pickL o js rs now, now) :: picks o js m (now + 1) (rs.set (pickL o js rs now).toNat (gE rs (pickL o js rs now).toNat - 1))
def apS (E : List Int) (ps : List (Int × Int)) : List Int := ps.foldl (fun E p => E.set p.1.toNat (p.2 + 1)) E
theorem apS_len : ∀ {ps : List (Int × Int)} {E : List Int}, (apS E ps).length = E.length
  | [], E => rfl
  | p :: ps, E => by
    have := @apS_len ps (E.set p.1.toNat (p.2 + 1))
    unfold apS at this ⊢
    rw [List.foldl_cons, this, List.length_set]
theorem apS_mem {lo hi : Int} : ∀ {ps : List (Int × Int)} {E : List Int}, (∀ e, e ∈ E → lo ≤ e ∧ e ≤ hi) → (∀ p, p ∈ ps → lo ≤ p.2 + 1 ∧ p.2 + 1 ≤ hi) → ∀ e, e ∈ apS E ps → lo ≤ e ∧ e ≤ hi
  | [], E, hE, _, e, he => hE e he
  | p :: ps, E, hE, hp, e, he => by
    refine @apS_mem lo hi ps (E.set p.1.toNat (p.2 + 1)) (fun e he => ?_) (fun q hq => hp q (List.mem_cons_of_mem _ hq)) e he
    rcases List.mem_or_eq_of_mem_set he with g | g
    · exact hE e g
    · rw [g]; exact hp p (List.mem_cons_self ..)
theorem picks_mem {o : Int} {js : List Job} : ∀ {m : Nat} {now : Int} {rs : List Int}, ∀ p, p ∈ picks o js m now rs → now ≤ p.2 ∧ p.2 < now + m
  | 0, now, rs, p, hp => by simp [picks] at hp
  | m + 1, now, rs, p, hp => by
    rw [picks] at hp
    split at hp
    · cases hp
    · split at hp
      · have := picks_mem p hp; omega
      · rcases List.mem_cons.1 hp with rfl | hp
        · dsimp only; omega
        · have := picks_mem p hp; omega
/-- What the choice at a time asks. -/
structure Ch (js : List Job) (rs : List Int) (now : Int) (m : Nat) : Prop where
  l : rs.length = js.length
  b : ∀ x, x ∈ rs → 0 ≤ x ∧ x ≤ 50
  m : sumL rs + (501 - now).toNat ≤ m
theorem Ch.skip {o : Int} {js : List Job} {rs : List Int} {now : Int} {m : Nat} (hg : goodL js = true) (C : Ch js rs now m) (hs : 0 < sumL rs) (hp : pickL o js rs now < 0) : now < 500 ∧ Ch js rs (now + 1) (m - 1) ∧ 0 < m := by
  have h5 : now < 500 := by
    rcases pick_cases (o := o) (js := js) (rs := rs) (now := now) with ⟨_, h2⟩ | ⟨b, h1, _⟩
    · obtain ⟨i, h3, h4⟩ := sumL_pos C.b hs
      have h5 := C.l
      have h6 := jA_bd hg (show i < js.length by omega)
      rcases h2 i (by omega) with h7 | h7 <;> omega
    · omega
  have := C.m
  exact ⟨h5, ⟨C.l, C.b, by omega⟩, by omega⟩
theorem Ch.take {js : List Job} {rs : List Int} {now : Int} {m b : Nat} (C : Ch js rs now m) (hs : 0 < sumL rs) (hb : b < js.length) (h0 : gE rs b ≠ 0) : Ch js (rs.set b (gE rs b - 1)) (now + 1) (m - 1) ∧ 0 < m ∧ sumL (rs.set b (gE rs b - 1)) = sumL rs - 1 := by
  have h1 := C.b _ (gE_mem (show b < rs.length by rw [C.l]; exact hb))
  have h2 := sumL_set (l := rs) (i := b) (y := gE rs b - 1) (by rw [C.l]; exact hb)
  have := C.m
  refine ⟨⟨by rw [List.length_set]; exact C.l, fun x hx => ?_, by omega⟩, by omega, by omega⟩
  rcases List.mem_or_eq_of_mem_set hx with g | g
  · exact C.b x g
  · omega
/-! ### bounds of prefixes -/
def nwGo (js : List Job) : List Int → Int → Int
  | [], now => now
  | x :: r, now => nwGo js r (max now (jA js x).r + (jA js x).t)
def FU : Nat := 1000
def bdE (o : Int) (js : List Job) (B : List Int) : List Int := apS (endsL js B) (picks o js FU (nwGo js B 0) (restL js B))
def bdV (o : Int) (js : List Job) (B : List Int) : Int := valE o js (bdE o js B)
theorem jA_b {js : List Job} (hg : goodL js = true) {x : Int} (hx : 0 ≤ x ∧ x < js.length) : (1 ≤ (jA js x).t ∧ (jA js x).t ≤ 50) ∧ 0 ≤ (jA js x).r ∧ (jA js x).r ≤ 500 := by
  have := jA_bd hg (show x.toNat < js.length by omega)
  rw [show ((x.toNat : Nat) : Int) = x by omega] at this
  exact ⟨this.1, this.2.1⟩
theorem nwGo_bd {js : List Job} (hg : goodL js = true) : ∀ {B : List Int} {now : Int} {k : Nat}, inN js.length B → 0 ≤ now → now ≤ 550 * k → 0 ≤ nwGo js B now ∧ nwGo js B now ≤ 550 * (k + B.length : Nat)
  | [], now, k, _, h1, h2 => by simp [nwGo]; omega
  | x :: r, now, k, hin, h1, h2 => by
    have hx := jA_b hg (hin x (List.mem_cons_self ..))
    have := @nwGo_bd js hg r (max now (jA js x).r + (jA js x).t) (k + 1) (fun y hy => hin y (List.mem_cons_of_mem _ hy)) (by omega) (by omega)
    rw [nwGo, List.length_cons]
    omega
theorem bdE_bd {o : Int} {js : List Job} {B : List Int} (hg : goodL js = true) (hB : B.length ≤ 8) (hin : inN js.length B) : ∀ e, e ∈ bdE o js B → 0 ≤ e ∧ e ≤ 2 ^ 20 := by
  have nb := @nwGo_bd js hg B 0 0 hin (by omega) (by omega)
  refine apS_mem (fun e he => ?_) (fun p hp => ?_)
  · have := endGo_bd hg (k := 0) hin (Int.le_refl 0) (by omega) (fun e he => by rw [List.eq_of_mem_replicate he]; omega) e he
    omega
  · have := picks_mem p hp
    unfold FU at this
    omega
theorem bd_ch {js : List Job} {B : List Int} (hg : goodL js = true) (hn : js.length ≤ 8) (hin : inN js.length B) : Ch js (restL js B) (nwGo js B 0) FU := by
  have nb := @nwGo_bd js hg B 0 0 hin (by omega) (by omega)
  have s := sumL_nn (restL_bd (B := B) hg)
  rw [restL_len] at s
  exact ⟨restL_len, restL_bd hg, by unfold FU; omega⟩
end Go.Pm.PP

/- The spans of the choice by time, and its greatest lateness, in plain terms: it is the greatest bound of a set. -/
set_option linter.unusedVariables false
set_option linter.unusedSimpArgs false
namespace Go.Pm.PP
open Go.Pm Go.Pm.PE
/-! ### spans -/
def mgS (S : List Sp) (p : Int × Int) : List Sp := match S.getLast? with
  | some l => if l.j = p.1 ∧ l.b = p.2 then S.set (S.length - 1) { l with b := p.2 + 1 } else S ++ [⟨p.1, p.2, p.2 + 1⟩]
  | none => S ++ [⟨p.1, p.2, p.2 + 1⟩]
theorem mgS_nil {p : Int × Int} : mgS [] p = [⟨p.1, p.2, p.2 + 1⟩] := rfl
theorem mgS_eq {S : List Sp} {l : Sp} {p : Int × Int} (h1 : l.j = p.1) (h2 : l.b = p.2) : mgS (S ++ [l]) p = S ++ [{ l with b := p.2 + 1 }] := by
  unfold mgS
  rw [List.getLast?_concat]
  simp only [h1, h2, and_self, if_true, List.length_append, List.length_singleton, Nat.add_sub_cancel]
  rw [List.set_append_right (h := Nat.le_refl _), Nat.sub_self]; rfl
theorem mgS_ne {S : List Sp} {l : Sp} {p : Int × Int} (h : ¬ (l.j = p.1 ∧ l.b = p.2)) : mgS (S ++ [l]) p = (S ++ [l]) ++ [⟨p.1, p.2, p.2 + 1⟩] := by
  unfold mgS
  rw [List.getLast?_concat]
  simp only
  rw [if_neg h]
def foldS (E : List Int) (S : List Sp) : List Int := S.foldl (fun E s => E.set s.j.toNat s.b) E
theorem foldS_snoc {E : List Int} {S : List Sp} {s : Sp} : foldS E (S ++ [s]) = (foldS E S).set s.j.toNat s.b := by unfold foldS; rw [List.foldl_append]; rfl
theorem apS_cons {E : List Int} {p : Int × Int} {ps : List (Int × Int)} : apS E (p :: ps) = apS (E.set p.1.toNat (p.2 + 1)) ps := rfl
theorem foldS_mg {E : List Int} {S : List Sp} {p : Int × Int} : foldS E (mgS S p) = (foldS E S).set p.1.toNat (p.2 + 1) := by
  rcases List.eq_nil_or_concat S with rfl | ⟨S1, l, rfl⟩
  · rfl
  · rw [List.concat_eq_append]
    by_cases c : l.j = p.1 ∧ l.b = p.2
    · rw [mgS_eq c.1 c.2, foldS_snoc, foldS_snoc, ← c.1, List.set_set]
    · rw [mgS_ne c, foldS_snoc]
theorem foldS_mgs {E : List Int} : ∀ {ps : List (Int × Int)} {S : List Sp}, foldS E (ps.foldl mgS S) = apS (foldS E S) ps
  | [], S => rfl
  | p :: ps, S => by rw [List.foldl_cons, foldS_mgs, foldS_mg, apS_cons]
def spanL (o : Int) (js : List Job) (now : Int) (rs : List Int) : List Sp := (picks o js FU now rs).foldl mgS []
theorem foldS_span {o : Int} {js : List Job} {now : Int} {rs E : List Int} : foldS E (spanL o js now rs) = apS E (picks o js FU now rs) := foldS_mgs
theorem mgS_len {S : List Sp} {p : Int × Int} : (mgS S p).length ≤ S.length + 1 := by
  rcases List.eq_nil_or_concat S with rfl | ⟨S1, l, rfl⟩
  · simp [mgS_nil]
  · rw [List.concat_eq_append]
    by_cases c : l.j = p.1 ∧ l.b = p.2
    · rw [mgS_eq c.1 c.2]; simp
    · rw [mgS_ne c]; simp
theorem mgs_len : ∀ {ps : List (Int × Int)} {S : List Sp}, (ps.foldl mgS S).length ≤ S.length + ps.length
  | [], S => by simp
  | p :: ps, S => by
    have h1 := @mgs_len ps (mgS S p)
    have h2 := @mgS_len S p
    rw [List.foldl_cons, List.length_cons]; omega
theorem picks_len {o : Int} {js : List Job} : ∀ {m : Nat} {now : Int} {rs : List Int}, (picks o js m now rs).length ≤ m
  | 0, now, rs => by simp [picks]
  | m + 1, now, rs => by
    rw [picks]
    split
    · simp
    · split
      · have := @picks_len o js m (now + 1) rs; omega
      · rw [List.length_cons]
        have := @picks_len o js m (now + 1) (rs.set (pickL o js rs now).toNat (gE rs (pickL o js rs now).toNat - 1)); omega
theorem spanL_len {o : Int} {js : List Job} {now : Int} {rs : List Int} : (spanL o js now rs).length ≤ 1000 := by
  have h1 := @mgs_len (picks o js FU now rs) []
  have h2 := @picks_len o js FU now rs
  unfold spanL
  rw [List.length_nil] at h1
  unfold FU at *
  omega
/-! ### split schedules -/
def spOk (js : List Job) (now last : Int) (s : Sp) : Bool := decide (0 ≤ s.j ∧ s.j < js.length) && !decide (s.a < now) && !decide (s.a < (jA js s.j).r) && decide (s.a < s.b) && !decide (s.j = last ∧ s.a = now) && decide (s.b ≤ 1000)
def spGo (js : List Job) : Int → Int → List Sp → Bool
  | _, _, [] => true
  | now, last, s :: r => spOk js now last s && spGo js s.b s.j r
def addD (D : List Int) (s : Sp) : List Int := D.set s.j.toNat (gE D s.j.toNat + s.b - s.a)
def doneL (js : List Job) (S : List Sp) : List Int := S.foldl addD (List.replicate js.length 0)
def splB (js : List Job) (S : List Sp) : Bool := spGo js 0 (-1) S && decide (doneL js S = js.map (·.t))
def endOf (now : Int) (S : List Sp) : Int := (S.getLast?.map (·.b)).getD now
def lastOf (last : Int) (S : List Sp) : Int := (S.getLast?.map (·.j)).getD last
theorem endOf_cons {now : Int} {s : Sp} {S : List Sp} : endOf now (s :: S) = endOf s.b S := by
  unfold endOf
  cases S with
  | nil => rfl
  | cons x r => rw [List.getLast?_cons_cons]; rw [List.getLast?_eq_some_getLast (by simp)]; rfl
theorem lastOf_cons {last : Int} {s : Sp} {S : List Sp} : lastOf last (s :: S) = lastOf s.j S := by
  unfold lastOf
  cases S with
  | nil => rfl
  | cons x r => rw [List.getLast?_cons_cons]; rw [List.getLast?_eq_some_getLast (by simp)]; rfl
theorem spGo_snoc {js : List Job} {s : Sp} : ∀ {S : List Sp} {now last : Int}, spGo js now last (S ++ [s]) = (spGo js now last S && spOk js (endOf now S) (lastOf last S) s)
  | [], now, last => by simp [spGo, endOf, lastOf]
  | x :: S, now, last => by
    rw [List.cons_append, spGo, spGo, spGo_snoc, endOf_cons, lastOf_cons, Bool.and_assoc]
theorem doneL_snoc {js : List Job} {S : List Sp} {s : Sp} : doneL js (S ++ [s]) = addD (doneL js S) s := by unfold doneL; rw [List.foldl_append]; rfl
theorem doneL_len {js : List Job} {S : List Sp} : (doneL js S).length = js.length := by
  have go : ∀ (S : List Sp) (D : List Int), (S.foldl addD D).length = D.length := fun S => by
    induction S with
    | nil => intro D; rfl
    | cons s S ih => intro D; rw [List.foldl_cons, ih]; unfold addD; rw [List.length_set]
  unfold doneL; rw [go]; simp
theorem endOf_snoc {now : Int} {S : List Sp} {s : Sp} : endOf now (S ++ [s]) = s.b := by unfold endOf; rw [List.getLast?_concat]; rfl
theorem lastOf_snoc {now : Int} {S : List Sp} {s : Sp} : lastOf now (S ++ [s]) = s.j := by unfold lastOf; rw [List.getLast?_concat]; rfl
/-- One step of time more. -/
theorem sp_step {js : List Job} {S : List Sp} {b : Nat} {now : Int} (hb : b < js.length) (hr : (jA js b).r ≤ now) (h0 : 0 ≤ now) (h1 : now + 1 ≤ 1000) (hS : spGo js 0 (-1) S = true) (he : endOf 0 S ≤ now) :
    spGo js 0 (-1) (mgS S (b, now)) = true ∧ endOf 0 (mgS S (b, now)) ≤ now + 1 ∧ doneL js (mgS S (b, now)) = (doneL js S).set b (gE (doneL js S) b + 1) := by
  have new : ¬ (lastOf (-1) S = b ∧ endOf 0 S = now) → spGo js 0 (-1) (S ++ [⟨b, now, now + 1⟩]) = true ∧ endOf 0 (S ++ [⟨b, now, now + 1⟩]) ≤ now + 1 ∧ doneL js (S ++ [⟨b, now, now + 1⟩]) = (doneL js S).set b (gE (doneL js S) b + 1) := fun hn => by
    refine ⟨?_, ?_, ?_⟩
    · rw [spGo_snoc, hS, Bool.true_and]
      have e1 : decide (now < endOf 0 S) = false := by simpa using he
      have e2 : decide (now < (jA js b).r) = false := by simpa using hr
      have e3 : decide ((b : Int) = lastOf (-1) S ∧ now = endOf 0 S) = false := by
        rw [decide_eq_false_iff_not]; rintro ⟨g1, g2⟩; exact hn ⟨g1.symm, g2.symm⟩
      unfold spOk
      simp only [e1, e2, e3]
      simp; omega
    · rw [endOf_snoc]; exact Int.le_refl _
    · rw [doneL_snoc]; unfold addD; simp only [Int.toNat_natCast]
      congr 1; omega
  rcases List.eq_nil_or_concat S with rfl | ⟨S1, l, rfl⟩
  · exact new fun g => by simp [lastOf] at g
  · rw [List.concat_eq_append] at *
    by_cases c : l.j = (b : Int) ∧ l.b = now
    · rw [mgS_eq c.1 c.2]
      rw [spGo_snoc, Bool.and_eq_true] at hS
      obtain ⟨k1, k2⟩ := hS
      refine ⟨?_, by rw [endOf_snoc]; exact Int.le_refl _, ?_⟩
      · rw [spGo_snoc, k1, Bool.true_and]
        unfold spOk at k2 ⊢
        simp only [Bool.and_eq_true, Bool.not_eq_true', decide_eq_true_eq, decide_eq_false_iff_not] at k2 ⊢
        obtain ⟨⟨⟨⟨⟨a1, a2⟩, a3⟩, a4⟩, a5⟩, a6⟩ := k2
        exact ⟨⟨⟨⟨⟨a1, a2⟩, a3⟩, by omega⟩, a5⟩, by omega⟩
      · rw [doneL_snoc, doneL_snoc]
        unfold addD
        rw [c.1, Int.toNat_natCast, List.set_set, gE_set (by rw [doneL_len]; exact hb), if_pos rfl]
        simp only
        congr 1; omega
    · rw [mgS_ne c]
      exact new fun g => c (by rw [lastOf_snoc, endOf_snoc] at g; exact g)
theorem pick_free {o : Int} {js : List Job} {rs : List Int} {now : Int} : ∀ {m i : Nat} {b : Int}, i + m = js.length → (b = -1 ∨ (jA js b).r ≤ now) → ((List.range' i m).foldl (pickF o js rs now) b = -1 ∨ (jA js ((List.range' i m).foldl (pickF o js rs now) b)).r ≤ now)
  | 0, i, b, h, hb => hb
  | m + 1, i, b, h, hb => by
    rw [List.range'_succ, List.foldl_cons]
    refine pick_free (m := m) (i := i + 1) (by omega) ?_
    unfold pickF
    split
    · exact hb
    · rename_i c
      split
      · right; omega
      · exact hb
theorem pick_r {o : Int} {js : List Job} {rs : List Int} {now : Int} {b : Nat} (h : pickL o js rs now = b) : (jA js b).r ≤ now := by
  have := pick_free (o := o) (js := js) (rs := rs) (now := now) (m := js.length) (i := 0) (b := -1) (by omega) (.inl rfl)
  have e : (List.range' 0 js.length).foldl (pickF o js rs now) (-1) = b := h
  rw [e] at this
  rcases this with g | g
  · omega
  · exact g
theorem spans_ok {o : Int} {js : List Job} (hg : goodL js = true) : ∀ {m : Nat} {now : Int} {rs : List Int} {S : List Sp}, Ch js rs now m → 0 ≤ now → now + m ≤ 1000 → spGo js 0 (-1) S = true → endOf 0 S ≤ now → (∀ i, i < js.length → gE (doneL js S) i + gE rs i = (jA js i).t) →
    splB js ((picks o js m now rs).foldl mgS S) = true := by
  have fin : ∀ {rs : List Int} {S : List Sp} {now : Int} {m : Nat}, Ch js rs now m → sumL rs ≤ 0 → spGo js 0 (-1) S = true → (∀ i, i < js.length → gE (doneL js S) i + gE rs i = (jA js i).t) → splB js S = true := fun {rs S now m} C hs hS hd => by
    unfold splB
    rw [hS, Bool.true_and, decide_eq_true_eq]
    apply List.ext_getElem?
    intro i
    rcases Nat.lt_or_ge i js.length with g | g
    · have h1 := hd i g
      have h2 : gE rs i = 0 := by
        have hb := C.b _ (gE_mem (show i < rs.length by rw [C.l]; exact g))
        by_cases c : gE rs i = 0
        · exact c
        · exfalso
          have h3 := sumL_set (l := rs) (i := i) (y := gE rs i - 1) (by rw [C.l]; exact g)
          have h4 := sumL_nn (l := rs.set i (gE rs i - 1)) (fun x hx => by
            rcases List.mem_or_eq_of_mem_set hx with q | q
            · exact C.b x q
            · omega)
          omega
      rw [gE_get (by rw [doneL_len]; exact g), List.getElem?_map]
      obtain ⟨y, hy, _⟩ := drop_at g
      rw [hy]
      have : jA js i = y := by unfold jA; rw [Int.toNat_natCast, hy]; rfl
      simp only [Option.map_some]
      rw [← this]; congr 1; omega
    · rw [List.getElem?_eq_none (by rw [doneL_len]; exact g), List.getElem?_eq_none (by simpa using g)]
  intro m
  induction m with
  | zero =>
    intro now rs S C h0 h1 hS he hd
    have := C.m
    exact fin C (by omega) hS hd
  | succ m ih =>
    intro now rs S C h0 h1 hS he hd
    rw [picks]
    split
    · rename_i hs
      exact fin C hs hS hd
    · rename_i hs
      rcases pick_cases (o := o) (js := js) (rs := rs) (now := now) with ⟨hp, _⟩ | ⟨b, hp, hb, hb0⟩
      · obtain ⟨_, C2, _⟩ := C.skip hg (by omega) (o := o) (by omega)
        rw [hp, if_pos (by omega)]
        exact ih C2 (by omega) (by omega) hS (by omega) hd
      · obtain ⟨C2, _, _⟩ := C.take (by omega) hb hb0
        rw [hp, if_neg (by omega), Int.toNat_natCast, List.foldl_cons]
        obtain ⟨g1, g2, g3⟩ := sp_step hb (pick_r hp) h0 (by omega) hS he
        refine ih C2 (by omega) (by omega) g1 (by omega) fun i hi => ?_
        rw [g3, gE_set (by rw [doneL_len]; exact hb), gE_set (by rw [C.l]; exact hb)]
        have := hd i hi
        by_cases e : i = b
        · subst e; rw [if_pos rfl, if_pos rfl]; omega
        · rw [if_neg e, if_neg e]; exact this
theorem nil_ch {js : List Job} (hg : goodL js = true) (hn : js.length ≤ 8) : Ch js (restL js []) 0 FU := bd_ch (B := []) hg hn fun x hx => by cases hx
theorem restL_gE {js : List Job} {i : Nat} (hi : i < js.length) : gE (restL js []) i = (jA js i).t := by
  unfold gE; rw [restL_at hi]; rfl
theorem split_span {o : Int} {js : List Job} (hg : goodL js = true) (hn : js.length ≤ 8) : splB js (spanL o js 0 (restL js [])) = true := by
  refine spans_ok hg (nil_ch hg hn) (Int.le_refl _) (by unfold FU; omega) rfl (by simp [endOf]) fun i hi => ?_
  rw [restL_gE hi]
  have : gE (doneL js []) i = 0 := by unfold doneL gE; simp [hi]
  omega
end Go.Pm.PP

/- Typed rules for slices: printed by a program of this work (wrap.py). -/
set_option linter.unusedVariables false
set_option linter.unusedSimpArgs false
set_option maxRecDepth 4000
namespace Go.Pm.PP
open Go.Pm Go.Proofs
theorem load_S {h : Hp} {v : Value} {xs : List (Sp)} {i : Nat} {x : Sp} (hv : Sees h v 3 (xs.map encS)) (hx : xs[i]? = some x) :
    indexAddrP P h t_S_impl_Span v (.int .i64 i) = some (.pointer (some (addP (base v) (i * 3)))) ∧ loadP P h t_impl_Span (.pointer (some (addP (base v) (i * 3)))) = some (.agg #[.int .i64 x.j, .int .i64 x.a, .int .i64 x.b]) ∧
    loadP P h t_int (.pointer (some (addP (addP (base v) (i * 3)) 0))) = some (.int .i64 x.j) ∧
    loadP P h t_int (.pointer (some (addP (addP (base v) (i * 3)) 1))) = some (.int .i64 x.a) ∧
    loadP P h t_int (.pointer (some (addP (addP (base v) (i * 3)) 2))) = some (.int .i64 x.b) := by
  have hi := (List.getElem?_eq_some_iff.1 hx).1
  have h1 := hv.indexT (P := P) u_S_impl_Span i_impl_Span (k := .i64) (j := i) (by omega) (by omega)
  rw [Int.toNat_natCast] at h1
  have fld : ∀ k, k < 3 → loadP P h t_int (.pointer (some (addP (addP (base v) (i * 3)) k))) = (encS x)[k]? := by
    intro k hk
    have := hv.cellT (P := P) a_int i_int hx hk
    rw [← this]
    simp only [addP, Nat.add_assoc]
  exact ⟨h1, hv.aggT a_impl_Span i_impl_Span hx, fld 0 (by omega), fld 1 (by omega), fld 2 (by omega)⟩
theorem push_S0 {h0 h : Hp} {L : List Asn} (H : Holds h0 h L) (i : Nat) {v : Value} {xs : List (Sp)} (hi : L[i]? = some (.own v 3 (xs.map encS))) (x : Sp) (hn : xs.length ≤ 2 ^ 40) :
    ∃ v' h', appendP P (h ++ [some ⟨[.int .i64 x.j, .int .i64 x.a, .int .i64 x.b], 3, false⟩]) t_S_impl_Span v (.slice (some ⟨h.length, 0, some 3⟩) 1 1) = some (v', h') ∧ Holds h0 h' (L.set i (.own v' 3 ((xs ++ [x]).map encS))) ∧ Keeps (rowV v) h h' ∧ (rowV v = none → newOk (h ++ [some ⟨[.int .i64 x.j, .int .i64 x.a, .int .i64 x.b], 3, false⟩]) h') := by
  obtain ⟨v', h', g1, g2, g3, g4⟩ := (H.ext (List.prefix_append h [])).push (P := P) i (y := encS x) (n := 3) hi u_S_impl_Span e_t_impl_Span z_t_impl_Span s_t_impl_Span (by omega) (by rw [b_t_impl_Span]; omega) rfl rfl (by simp [encS]) (by rw [b_t_impl_Span]; simp; omega)
  rw [show xs.map encS ++ [encS x] = (xs ++ [x]).map encS by simp] at g2
  exact ⟨v', h', by simpa [encS] using g1, g2, Keeps.app.trans g3, by simpa [encS] using g4⟩
theorem fput_S2 {h0 h : Hp} {L : List Asn} (H : Holds h0 h L) (i : Nat) {v : Value} {xs : List (Sp)} (hi : L[i]? = some (.own v 3 (xs.map encS))) {j : Nat} {y : Sp} (hy : xs[j]? = some y) (z : Int) :
    ∃ h', storeP P h t_int (.int .i64 z) (.pointer (some (addP (addP (base v) (j * 3)) 2))) = some h' ∧ Holds h0 h' (L.set i (.own v 3 ((xs.set j ({ y with b := z })).map encS))) ∧ Keeps (rowV v) h h' := by
  have := H.store (P := P) i hi (t := t_int) (w := .int .i64 z) (j := j) (e := encS y) (l := [.int .i64 y.j, .int .i64 y.a]) (m := [.int .i64 y.b]) (c := []) e_t_int (by simp [hy]) rfl (by simp) (by simp) (by simp)
  simpa [List.map_set, encS, addP, Nat.add_assoc] using this
end Go.Pm.PP

/- The choice by time and the bound of a prefix, by the program. -/
set_option linter.unusedVariables false
set_option linter.unusedSimpArgs false
set_option maxRecDepth 4000
set_option maxHeartbeats 16000000
namespace Go.Pm.PP
open Go.Pm Go.Proofs Go.Pm.PE
theorem sumL_take {l : List Int} {i : Nat} {x : Int} (h : l[i]? = some x) : sumL (l.take (i + 1)) = sumL (l.take i) + x := by
  rw [take_succ' h, sumL_append]; simp [sumL]
theorem sumL_tk {l : List Int} {i : Nat} (h : ∀ x, x ∈ l → 0 ≤ x ∧ x ≤ 50) : 0 ≤ sumL (l.take i) ∧ sumL (l.take i) ≤ 50 * l.length := by
  have := sumL_nn (l := l.take i) fun x hx => h x (List.mem_of_mem_take hx)
  have h2 : (l.take i).length ≤ l.length := by rw [List.length_take]; omega
  omega
section
variable {h : Hp} {vj vr : Value} {js : List Job} {B : List Int} {o : Int}
theorem choose_run (hj : Jobs h vj js) (hr : Ints h vr B) (hg : goodL js = true) (hn : js.length ≤ 8) (hB : B.length ≤ 8) (hin : inN js.length B) (ho : o = 2 ∨ o = 4) :
    RunsC P G n_impl_choose [vj, vr, .int .i64 o] h fun v h' => ∃ u w, v = .tuple #[u, w] ∧ h <+: h' ∧ Ints h' w (bdE o js B) ∧ Sees h' u 3 ((spanL o js (nwGo js B 0) (restL js B)).map encS) := by
  refine hideC fun K hK => enter_run e_impl_choose (by simp) ?_
  have hjs := hj
  have hrs := hr
  obtain ⟨oj, cj, rfl⟩ := hj.shapeT
  obtain ⟨oa, c, rfl⟩ := hr.shapeT
  obtain ⟨vx, h1, mk1, H1, hp1, ox, rfl⟩ := make_I (Holds.start (h := h)) (n := js.length) (by omega)
  obtain ⟨vz, h2, mk2, H2, hp2, oz, rfl⟩ := make_I H1 (n := js.length) (by omega)
  have bC := bd_ch hg hn hin
  have bN := @nwGo_bd js hg B 0 0 hin (by omega) (by omega)
  have eE : bdE o js B = apS (endsL js B) (picks o js FU (nwGo js B 0) (restL js B)) := rfl
  generalize bdE o js B = X at eE hK
  have eY : spanL o js (nwGo js B 0) (restL js B) = (picks o js FU (nwGo js B 0) (restL js B)).foldl mgS [] := rfl
  generalize spanL o js (nwGo js B 0) (restL js B) = Y at eY hK
  have hF : FU = 1000 := rfl
  have bR := restL_bd (B := B) hg
  have lR : (restL js B).length = js.length := restL_len
  simp -implicitDefEqProofs [mk1, mk2]
  refine R_loopO (fun m s h' => ∃ (i : Nat) (R : List Int), i + m = js.length ∧ s = [(0, .slice oj js.length cj), (1, .slice oa B.length c), (2, .int .i64 o), (8, .slice ox js.length js.length), (9, .slice oz js.length js.length), (10, .int .i64 (sumL ((restL js B).take i))), (11, .int .i64 0), (27, .slice oj js.length cj), (28, .int .i64 js.length), (29, .int .i64 i)] ∧
    R.length = js.length ∧ (∀ k, k < js.length → gE R k = if k < i then gE (restL js B) k else 0) ∧ Holds h h' [.own (.slice ox js.length js.length) 1 (R.map encI), .own (.slice oz js.length js.length) 1 ((List.replicate js.length (0 : Int)).map encI)]) (fun I hI m s h' => ?_) (n := js.length)
    ⟨0, List.replicate js.length 0, Nat.zero_add _, by simp [sumL], by simp, fun k hk => by rw [if_neg (by omega)]; simp [gE, hk], H2⟩
  rintro ⟨i, R, hi, rfl, hR, hRk, H⟩
  by_cases hlt : i < js.length
  · obtain ⟨y, hy, _⟩ := drop_at hlt
    have ey : jA js i = y := by unfold jA; rw [Int.toNat_natCast, hy]; rfl
    have jb := job_of (job_at hg hy)
    have ly := load_J (hjs.pre H.pre) hy
    have hlt' : (i : Int) < js.length := by omega
    have rx := restL_at (B := B) hlt
    have bs := sumL_tk (i := i) bR
    rw [lR] at bs
    have HB := H.ext (List.prefix_append h' [some (⟨[.int .i64 y.t, .int .i64 y.w, .int .i64 y.r, .int .i64 y.d], 0, false⟩ : Row)])
    have rh := has_run (x := (i : Int)) (hrs.pre HB.pre) (by omega)
    cases c1 : hasL (i : Int) B
    · rw [if_neg (by rw [show inP B i = false from c1]; simp), ey] at rx
      have ix := (load_I (HB.sees 0 rfl) (gE_get (l := R) (i := i) (by omega))).1
      obtain ⟨h3, s3, H3, _⟩ := put_I HB 0 rfl (j := i) (by omega) y.t
      have bx : loadP P h3 t_int (.pointer (some ⟨h'.length, 0, some 4⟩)) = some (.int .i64 y.t) := by
        have HBx := (H.alloc [.int .i64 y.t, .int .i64 y.w, .int .i64 y.r, .int .i64 y.d])
        obtain ⟨h3', s3', H3', _⟩ := put_I HBx 0 rfl (j := i) (by omega) y.t
        rw [s3] at s3'; cases s3'
        exact H3'.bl (P := P) 2 4 rfl rfl t_int 0
      have ws : IntKind.i64.wrap (sumL ((restL js B).take i) + y.t) = sumL ((restL js B).take (i + 1)) := by rw [sumL_take rx, wrap_ok] <;> omega
      simp -implicitDefEqProofs [-indexAddrP_some, hlt, hlt', ly, CL_ret rh, c1, ix, s3, bx, ws, winc hlt (show js.length ≤ 2 ^ 40 by omega)]
      refine ⟨m - 1, by omega, on hI ⟨i + 1, R.set i y.t, by omega, rfl, by rw [List.length_set]; exact hR, fun k hk => ?_, H3⟩⟩
      rw [gE_set (by omega)]
      by_cases g : k = i
      · subst g
        rw [if_pos rfl, if_pos (by omega)]
        unfold gE; rw [rx]; rfl
      · rw [if_neg g, hRk k hk]
        by_cases g2 : k < i
        · rw [if_pos g2, if_pos (by omega)]
        · rw [if_neg g2, if_neg (by omega)]
    · rw [if_pos (show inP B i = true from c1)] at rx
      have ws : sumL ((restL js B).take i) = sumL ((restL js B).take (i + 1)) := by rw [sumL_take rx, Int.add_zero]
      simp -implicitDefEqProofs [-indexAddrP_some, hlt, hlt', ly, CL_ret rh, c1, winc hlt (show js.length ≤ 2 ^ 40 by omega)]
      refine ⟨m - 1, by omega, on hI ⟨i + 1, R, by omega, by rw [ws]; rfl, hR, fun k hk => ?_, HB⟩⟩
      rw [hRk k hk]
      by_cases g : k = i
      · subst g
        rw [if_neg (by omega), if_pos (by omega)]
        unfold gE; rw [rx]; rfl
      · by_cases g2 : k < i
        · rw [if_pos g2, if_pos (by omega)]
        · rw [if_neg g2, if_neg (by omega)]
  have hlt' : ¬ (i : Int) < js.length := by omega
  have hRX : R = restL js B := by
    apply List.ext_getElem?
    intro k
    rcases Nat.lt_or_ge k js.length with g | g
    · have := hRk k g
      rw [if_pos (by omega)] at this
      rw [gE_get (by omega), gE_get (by rw [lR]; omega), this]
    · rw [List.getElem?_eq_none (by omega), List.getElem?_eq_none (by rw [lR]; omega)]
  subst hRX
  rw [List.take_of_length_le (by omega)]
  simp -implicitDefEqProofs [hlt, hlt']
  refine R_loopO (fun m s h' => ∃ (i : Nat) (now : Int) (E : List Int), i + m = B.length ∧ s = [(0, .slice oj js.length cj), (2, .int .i64 o), (8, .slice ox js.length js.length), (9, .slice oz js.length js.length), (10, .int .i64 (sumL (restL js B))), (11, .int .i64 now), (48, .slice oa B.length c), (49, .int .i64 B.length), (50, .int .i64 i)] ∧
    Holds h h' [.own (.slice ox js.length js.length) 1 ((restL js B).map encI), .own (.slice oz js.length js.length) 1 (E.map encI)] ∧ endsL js B = endGo js (B.drop i) now E ∧ nwGo js B 0 = nwGo js (B.drop i) now ∧ E.length = js.length ∧ 0 ≤ now ∧ now ≤ 550 * i) (fun I2 hI2 m2 s h' => ?_) (n := B.length) ⟨0, 0, List.replicate js.length 0, Nat.zero_add _, by simp, H, rfl, rfl, by simp, by omega, by omega⟩
  rintro ⟨i2, nw, E, hi2, rfl, H2, hx, hw, hE, n0, n1⟩
  by_cases hlt2 : i2 < B.length
  · have hlt2' : (i2 : Int) < B.length := by omega
    obtain ⟨x, hxx, hd⟩ := drop_at hlt2
    rw [hd, endGo] at hx
    rw [hd, nwGo] at hw
    obtain ⟨k, hk, hkl, hky⟩ := jA_get rfl (hin x (List.mem_of_getElem? hxx))
    have jb := job_of (job_at hg hky)
    generalize hJ : jA js x = y at hx hw hky jb
    subst hk
    rw [Int.toNat_natCast] at hx
    have lx := load_I (hrs.pre H2.pre) hxx
    have ly := load_J (hjs.pre H2.pre) hky
    obtain ⟨M, hM⟩ : ∃ M, M = max nw y.r := ⟨_, rfl⟩
    rw [← hM] at hx hw
    have wM : IntKind.i64.wrap (max nw y.r + y.t) = M + y.t := by rw [← hM, wrap_ok] <;> omega
    have ix := (load_I (H2.sees 1 rfl) (gE_get (l := E) (i := k) (by omega))).1
    obtain ⟨h3, s3, H3, _⟩ := put_I H2 1 rfl (j := k) (by omega) (M + y.t)
    simp -implicitDefEqProofs [-indexAddrP_some, hlt2, hlt2', lx, ly, foldI, mx_if, wM, ix, s3, winc hlt2 (by omega)]
    exact ⟨m2 - 1, by omega, on hI2 ⟨i2 + 1, M + y.t, E.set k (M + y.t), by omega, rfl, H3, hx, hw, by rw [List.length_set]; exact hE, by omega, by omega⟩⟩
  have hlt2' : ¬ (i2 : Int) < B.length := by omega
  rw [List.drop_eq_nil_of_le (by omega)] at hx hw
  rw [endGo] at hx
  rw [nwGo] at hw
  rw [hx, hw] at eE
  rw [hw] at eY
  rw [hw] at bC bN
  simp -implicitDefEqProofs [hlt2, hlt2']
  have H3 := own_nil H2 Sp encS 3
  refine R_loopO (fun m s h' => ∃ (now' : Int) (rs' E' : List Int) (S : List Sp) (u : Value), s = [(0, .slice oj js.length cj), (2, .int .i64 o), (8, .slice ox js.length js.length), (9, .slice oz js.length js.length), (10, .int .i64 (sumL rs')), (11, .int .i64 now'), (16, u)] ∧ Ch js rs' now' m ∧ 0 ≤ now' ∧ now' + m ≤ 2 ^ 31 ∧ S.length + m ≤ FU ∧ E'.length = js.length ∧
    X = apS E' (picks o js m now' rs') ∧ Y = (picks o js m now' rs').foldl mgS S ∧ Holds h h' [.own (.slice ox js.length js.length) 1 (rs'.map encI), .own (.slice oz js.length js.length) 1 (E'.map encI), .own u 3 (S.map encS)]) (fun I3 hI3 m3 s h' => ?_) (n := FU) ⟨nw, restL js B, E, [], .slice none 0 0, by simp, bC, n0, by omega, by simp, hE, eE, eY, H3⟩
  rintro ⟨now', rs', E', S, u, rfl, C', n0', n1', hSl, hE', hX, hY, H'⟩
  have hl' := C'.l
  by_cases hs : 0 < sumL rs'
  · have wn : IntKind.i64.wrap (now' + 1) = now' + 1 := by rw [wrap_ok] <;> omega
    simp -implicitDefEqProofs [hs]
    refine R_loopO (fun m s h'' => ∃ (i : Nat) (b : Int), i + m = js.length ∧ s = [(0, .slice oj js.length cj), (2, .int .i64 o), (8, .slice ox js.length js.length), (9, .slice oz js.length js.length), (10, .int .i64 (sumL rs')), (11, .int .i64 now'), (16, u), (17, .int .i64 b), (76, .slice oj js.length cj), (77, .int .i64 js.length), (78, .int .i64 i)] ∧ h' <+: h'' ∧ (b = -1 ∨ pkOk js rs' b) ∧ pickL o js rs' now' = (List.range' i m).foldl (pickF o js rs' now') b) (fun I4 hI4 m4 s h'' => ?_) (n := js.length) ⟨0, -1, Nat.zero_add _, by simp, List.prefix_rfl, .inl rfl, rfl⟩
    rintro ⟨i4, b, hi4, rfl, hp4, hb, hx4⟩
    by_cases hlt4 : i4 < js.length
    · have hlt4' : (i4 : Int) < js.length := by omega
      obtain ⟨m', rfl⟩ : ∃ m', m4 = m' + 1 := ⟨m4 - 1, by omega⟩
      rw [List.range'_succ, List.foldl_cons] at hx4
      obtain ⟨y, hy, _⟩ := drop_at hlt4
      have ey : jA js i4 = y := by unfold jA; rw [Int.toNat_natCast, hy]; rfl
      have hp5 := hp4.trans (List.prefix_append h'' [some (⟨[.int .i64 y.t, .int .i64 y.w, .int .i64 y.r, .int .i64 y.d], 0, false⟩ : Row)])
      have ly := load_J (hjs.pre (H'.pre.trans hp4)) hy
      have lr := load_I ((H'.sees 0 rfl).pre hp5) (gE_get (l := rs') (i := i4) (by omega))
      have wi := winc hlt4 (show js.length ≤ 2 ^ 40 by omega)
      by_cases c1 : gE rs' i4 = 0
      · have e : pickF o js rs' now' b i4 = b := by unfold pickF; rw [if_pos (.inl c1)]
        rw [e] at hx4
        rw [c1] at lr
        simp -implicitDefEqProofs [-indexAddrP_some, hlt4, hlt4', ly, lr, wi]
        exact ⟨m', by omega, on hI4 ⟨i4 + 1, b, by omega, rfl, hp5, hb, hx4⟩⟩
      · by_cases c2 : now' < y.r
        · have e : pickF o js rs' now' b i4 = b := by unfold pickF; rw [ey, if_pos (.inr c2)]
          rw [e] at hx4
          simp -implicitDefEqProofs [-indexAddrP_some, hlt4, hlt4', ly, lr, nb c1, c2, wi]
          exact ⟨m', by omega, on hI4 ⟨i4 + 1, b, by omega, rfl, hp5, hb, hx4⟩⟩
        · have okI : pkOk js rs' (i4 : Int) := ⟨by omega, by omega, c1⟩
          rcases hb with rfl | hb
          · have e : pickF o js rs' now' (-1) i4 = i4 := by unfold pickF; rw [ey, if_neg (by omega), if_pos (.inl (by omega))]
            rw [e] at hx4
            simp -implicitDefEqProofs [-indexAddrP_some, hlt4, hlt4', ly, lr, nb c1, c2, wi]
            exact ⟨m', by omega, on hI4 ⟨i4 + 1, i4, by omega, rfl, hp5, .inr okI, hx4⟩⟩
          · obtain ⟨k, rfl⟩ : ∃ k : Nat, b = k := ⟨b.toNat, by have := hb.1; omega⟩
            have hkl : k < js.length := by have := hb.2.1; omega
            obtain ⟨z, hz, _⟩ := drop_at hkl
            have ez : jA js k = z := by unfold jA; rw [Int.toNat_natCast, hz]; rfl
            have lz := load_J (hjs.pre (H'.pre.trans hp5)) hz
            have lk := load_I ((H'.sees 0 rfl).pre hp5) (gE_get (l := rs') (i := k) (by omega))
            have hk0 : ¬ (k : Int) < 0 := by omega
            rcases ho with rfl | rfl
            · by_cases c3 : gE rs' i4 < gE rs' k
              · have e : pickF 2 js rs' now' k i4 = i4 := by unfold pickF; rw [ey, if_neg (by omega), if_pos (.inr (by simp [betB, c3]))]
                rw [e] at hx4
                simp -implicitDefEqProofs [-indexAddrP_some, hlt4, hlt4', ly, lr, nb c1, c2, wi, hk0, lk, c3]
                exact ⟨m', by omega, on hI4 ⟨i4 + 1, i4, by omega, rfl, hp5, .inr okI, hx4⟩⟩
              · have e : pickF 2 js rs' now' k i4 = k := by unfold pickF; rw [ey, if_neg (by omega), if_neg (by simp [betB, c3, hk0])]
                rw [e] at hx4
                simp -implicitDefEqProofs [-indexAddrP_some, hlt4, hlt4', ly, lr, nb c1, c2, wi, hk0, lk, c3]
                exact ⟨m', by omega, on hI4 ⟨i4 + 1, k, by omega, rfl, hp5, .inr hb, hx4⟩⟩
            · by_cases c3 : y.d < z.d
              · have e : pickF 4 js rs' now' k i4 = i4 := by unfold pickF; rw [ey, if_neg (by omega), if_pos (.inr (by simp [betB, ey, ez, c3]))]
                rw [e] at hx4
                simp -implicitDefEqProofs [-indexAddrP_some, hlt4, hlt4', ly, lr, nb c1, c2, wi, hk0, lz, c3]
                exact ⟨m', by omega, on hI4 ⟨i4 + 1, i4, by omega, rfl, hp5, .inr okI, hx4⟩⟩
              · have e : pickF 4 js rs' now' k i4 = k := by unfold pickF; rw [ey, if_neg (by omega), if_neg (by simp [betB, ey, ez, c3, hk0])]
                rw [e] at hx4
                simp -implicitDefEqProofs [-indexAddrP_some, hlt4, hlt4', ly, lr, nb c1, c2, wi, hk0, lz, c3]
                exact ⟨m', by omega, on hI4 ⟨i4 + 1, k, by omega, rfl, hp5, .inr hb, hx4⟩⟩
    have hlt4' : ¬ (i4 : Int) < js.length := by omega
    have hm4 : m4 = 0 := by omega
    subst hm4
    rw [List.range'_zero, List.foldl_nil] at hx4
    subst hx4
    have H4 := H'.ext hp4
    rcases pick_cases (o := o) (js := js) (rs := rs') (now := now') with ⟨hp, _⟩ | ⟨b, hp, hbl, hb0⟩
    · obtain ⟨_, C2, hm⟩ := C'.skip hg hs (o := o) (by omega)
      obtain ⟨m', rfl⟩ : ∃ m', m3 = m' + 1 := ⟨m3 - 1, by omega⟩
      rw [picks, if_neg (by omega), hp, if_pos (by omega)] at hX hY
      simp -implicitDefEqProofs [hlt4, hlt4', hp, wn]
      exact ⟨m', by omega, on hI3 ⟨now' + 1, rs', E', S, u, by simp, C2, by omega, by omega, by omega, hE', hX, hY, H4⟩⟩
    · obtain ⟨C2, hm, hsum⟩ := C'.take hs hbl hb0
      obtain ⟨m', rfl⟩ : ∃ m', m3 = m' + 1 := ⟨m3 - 1, by omega⟩
      rw [picks, if_neg (by omega), hp, if_neg (by omega), apS_cons, Int.toNat_natCast] at hX
      rw [picks, if_neg (by omega), hp, if_neg (by omega), List.foldl_cons, Int.toNat_natCast] at hY
      have bs := sumL_nn C'.b
      have bx := C'.b _ (gE_mem (l := rs') (i := b) (by omega))
      have wl : IntKind.i64.wrap (sumL rs' - 1) = sumL (rs'.set b (gE rs' b - 1)) := by rw [hsum, wrap_ok] <;> omega
      have wr : IntKind.i64.wrap (gE rs' b - 1) = gE rs' b - 1 := by rw [wrap_ok] <;> omega
      have hb1 : ¬ (b : Int) < 0 := by omega
      have put2 : ∀ {h2 : Hp} {u' : Value} {S' : List Sp}, S'.length + m' ≤ FU → mgS S (b, now') = S' → Holds h h2 [.own (.slice ox js.length js.length) 1 (rs'.map encI), .own (.slice oz js.length js.length) 1 (E'.map encI), .own u' 3 (S'.map encS)] →
          ∃ h3 h4, (indexAddrP P h2 t_S_int (.slice ox js.length js.length) (.int .i64 b) = some (.pointer (some (addP (base (.slice ox js.length js.length)) b))) ∧ loadP P h2 t_int (.pointer (some (addP (base (.slice ox js.length js.length)) b))) = some (.int .i64 (gE rs' b)) ∧
            storeP P h2 t_int (.int .i64 (gE rs' b - 1)) (.pointer (some (addP (base (.slice ox js.length js.length)) b))) = some h3) ∧
            (indexAddrP P h3 t_S_int (.slice oz js.length js.length) (.int .i64 b) = some (.pointer (some (addP (base (.slice oz js.length js.length)) b))) ∧ storeP P h3 t_int (.int .i64 (now' + 1)) (.pointer (some (addP (base (.slice oz js.length js.length)) b))) = some h4) ∧
            I3 m' [(0, .slice oj js.length cj), (2, .int .i64 o), (8, .slice ox js.length js.length), (9, .slice oz js.length js.length), (10, .int .i64 (sumL (rs'.set b (gE rs' b - 1)))), (11, .int .i64 (now' + 1)), (16, u')] h4 := fun {h2 u' S'} hS' hm HH => by
        have lr := load_I (HH.sees 0 rfl) (gE_get (l := rs') (i := b) (by omega))
        obtain ⟨h3, s3, H3, _⟩ := put_I HH 0 rfl (j := b) (by omega) (gE rs' b - 1)
        have ix := (load_I (H3.sees 1 rfl) (gE_get (l := E') (i := b) (by omega))).1
        obtain ⟨h4, s4, H4, _⟩ := put_I H3 1 rfl (j := b) (by omega) (now' + 1)
        exact ⟨h3, h4, ⟨lr.1, lr.2, s3⟩, ⟨ix, s4⟩, on hI3 ⟨now' + 1, _, E'.set b (now' + 1), S', u', rfl, C2, by omega, by omega, hS', by rw [List.length_set]; exact hE', hX, by rw [← hm]; exact hY, H4⟩⟩
      have new : mgS S (b, now') = S ++ [⟨b, now', now' + 1⟩] → ∃ u' h2 h3 h4, appendP P (h'' ++ [some ⟨[.int .i64 b, .int .i64 now', .int .i64 (now' + 1)], 3, false⟩]) t_S_impl_Span u (.slice (some ⟨h''.length, 0, some 3⟩) 1 1) = some (u', h2) ∧
          (indexAddrP P h2 t_S_int (.slice ox js.length js.length) (.int .i64 b) = some (.pointer (some (addP (base (.slice ox js.length js.length)) b))) ∧ loadP P h2 t_int (.pointer (some (addP (base (.slice ox js.length js.length)) b))) = some (.int .i64 (gE rs' b)) ∧
            storeP P h2 t_int (.int .i64 (gE rs' b - 1)) (.pointer (some (addP (base (.slice ox js.length js.length)) b))) = some h3) ∧
          (indexAddrP P h3 t_S_int (.slice oz js.length js.length) (.int .i64 b) = some (.pointer (some (addP (base (.slice oz js.length js.length)) b))) ∧ storeP P h3 t_int (.int .i64 (now' + 1)) (.pointer (some (addP (base (.slice oz js.length js.length)) b))) = some h4) ∧
          I3 m' [(0, .slice oj js.length cj), (2, .int .i64 o), (8, .slice ox js.length js.length), (9, .slice oz js.length js.length), (10, .int .i64 (sumL (rs'.set b (gE rs' b - 1)))), (11, .int .i64 (now' + 1)), (16, u')] h4 := fun hm => by
        obtain ⟨u', h2, ha, H2, _⟩ := push_S0 H4 2 rfl (⟨b, now', now' + 1⟩ : Sp) (by omega)
        obtain ⟨h3, h4, g1, g2, g3⟩ := put2 (by simp; omega) hm H2
        exact ⟨u', h2, h3, h4, ha, g1, g2, g3⟩
      rcases List.eq_nil_or_concat S with rfl | ⟨S1, l, rfl⟩
      · obtain ⟨ua, uc, rfl⟩ : ∃ a c, u = .slice a 0 c := (H'.sees 2 rfl).shapeT
        obtain ⟨u', h2, h3, h4, ha, ⟨i2, l2, s3⟩, ⟨i3, s4⟩, hf⟩ := new mgS_nil
        simp -implicitDefEqProofs [-indexAddrP_some, hlt4, hlt4', hp, hb1, show IntKind.i64.wrap (-1) = -1 by decide, wn, ha, i2, l2, wr, s3, wl, i3, s4]
        exact ⟨m', by omega, hf⟩
      · rw [List.concat_eq_append] at *
        obtain ⟨ua, uc, rfl⟩ : ∃ a c, u = .slice a (S1.length + 1) c := by obtain ⟨a, c, e⟩ := (H'.sees 2 rfl).shapeT; exact ⟨a, c, by rw [e]; simp⟩
        have hS1 : S1.length + 1 + (m' + 1) ≤ FU := by simpa using hSl
        have wS : IntKind.i64.wrap (S1.length : Int) = S1.length := by rw [wrap_ok] <;> omega
        have hS0 : (0 : Int) ≤ S1.length := by omega
        have lS := load_S (H4.sees 2 rfl) (i := S1.length) (x := l) (by simp)
        by_cases c1 : l.j = b
        · have c1' : (l.j == (b : Int)) = true := by simpa using c1
          by_cases c2 : l.b = now'
          · have c2' : (l.b == now') = true := by simpa using c2
            obtain ⟨h2, s2, H2, _⟩ := fput_S2 H4 2 rfl (j := S1.length) (y := l) (by simp) (now' + 1)
            have eset : (S1 ++ [l]).set S1.length { l with b := now' + 1 } = S1 ++ [{ l with b := now' + 1 }] := by rw [List.set_append_right (h := Nat.le_refl _), Nat.sub_self]; rfl
            rw [eset] at H2
            obtain ⟨h3, h4, ⟨i2, l2, s3⟩, ⟨i3, s4⟩, hf⟩ := put2 (S' := S1 ++ [({ l with b := now' + 1 } : Sp)]) (by simp; omega) (mgS_eq c1 c2) H2
            have w2 : IntKind.i64.wrap (l.b + 1) = now' + 1 := by rw [c2]; exact wn
            simp -implicitDefEqProofs [-indexAddrP_some, hlt4, hlt4', hp, hb1, wS, hS0, lS, c1', c2', wn, w2, s2, i2, l2, wr, s3, wl, i3, s4]
            exact ⟨m', by omega, hf⟩
          · obtain ⟨u', h2, h3, h4, ha, ⟨i2, l2, s3⟩, ⟨i3, s4⟩, hf⟩ := new (mgS_ne fun g => c2 g.2)
            simp -implicitDefEqProofs [-indexAddrP_some, hlt4, hlt4', hp, hb1, wS, hS0, lS, c1', nb c2, wn, ha, i2, l2, wr, s3, wl, i3, s4]
            exact ⟨m', by omega, hf⟩
        · obtain ⟨u', h2, h3, h4, ha, ⟨i2, l2, s3⟩, ⟨i3, s4⟩, hf⟩ := new (mgS_ne fun g => c1 g.1)
          simp -implicitDefEqProofs [-indexAddrP_some, hlt4, hlt4', hp, hb1, wS, hS0, lS, nb c1, wn, ha, i2, l2, wr, s3, wl, i3, s4]
          exact ⟨m', by omega, hf⟩
  · have hX2 : X = E' := by
      rw [hX]
      cases m3 with
      | zero => rfl
      | succ k => rw [picks, if_pos (by omega)]; rfl
    subst hX2
    have hY2 : Y = S := by
      rw [hY]
      cases m3 with
      | zero => rfl
      | succ k => rw [picks, if_pos (by omega)]; rfl
    subst hY2
    simp -implicitDefEqProofs [hs]
    refine onK hK ⟨_, _, rfl, pre_gcU H'.pre, Sees.gcU (H'.sees 1 rfl) fun g => ?_, Sees.gcU (H'.sees 2 rfl) fun g => plainT (r := [_]) g⟩
    have g' : (#[u, Value.slice oz js.length js.length] : Array Value).toList.all plainC = true := g
    simp only [List.all_cons, Bool.and_eq_true] at g'
    exact g'.2.1
theorem prefixBound_run (hj : Jobs h vj js) (hr : Ints h vr B) (hg : goodL js = true) (hn : js.length ≤ 8) (hB : B.length ≤ 8) (hin : inN js.length B) (ho : o = 2 ∨ o = 4) : Ret P G n_impl_prefixBound [vj, vr, .int .i64 o] h (.int .i64 (bdV o js B)) h := by
  refine enter_run e_impl_prefixBound (by simp) ?_
  have hjs := hj
  obtain ⟨oj, cj, rfl⟩ := hj.shapeT
  have lE : (bdE o js B).length = js.length := by unfold bdE; rw [apS_len, endsL_len]
  simp -implicitDefEqProofs
  refine CL_post (choose_run hjs hr hg hn hB hin ho) fun v h1 ⟨u, w, ev, hp1, hw, _⟩ => ?_
  subst ev
  have ro := valueOfEnds_run (o := o) (hjs.pre hp1) hw hg hn lE (bdE_bd hg hB hin) (by omega)
  simp -implicitDefEqProofs [CL_ret ro]
  exact ⟨rfl, gcP hp1 rfl⟩
end
end Go.Pm.PP

/- Sorting by the program: sortedBy for any comparison. -/
set_option linter.unusedVariables false
set_option linter.unusedSimpArgs false
set_option maxRecDepth 4000
set_option maxHeartbeats 8000000
namespace Go.Pm.PP
open Go.Pm Go.Proofs Go.Pm.PE
end Go.Pm.PP

/- Plain jobs, sets of digits, due orders, by both. -/
set_option linter.unusedVariables false
set_option linter.unusedSimpArgs false
set_option maxRecDepth 4000
set_option maxHeartbeats 8000000
namespace Go.Pm.PP
open Go.Pm Go.Proofs Go.Pm.PE
/-! ### no releases -/
def plainL (js : List Job) : Bool := js.all fun j => j.r == 0
def plOk (js : List Job) : Bool := jOk js && plainL js
theorem plOk_of {js : List Job} (h : plOk js = true) : js.length ≤ 8 ∧ goodL js = true ∧ plainL js = true := by
  rw [plOk, Bool.and_eq_true] at h
  exact ⟨(jOk_of h.1).1, (jOk_of h.1).2, h.2⟩
theorem jA_in {js : List Job} {x : Int} : jA js x ∈ js ∨ jA js x = ⟨0, 0, 0, 0⟩ := by
  unfold jA
  cases h : js[x.toNat]? with
  | none => right; rfl
  | some j => left; exact List.mem_of_getElem? h
theorem plOk_pl {js : List Job} (h : plOk js = true) : Pl js := by
  obtain ⟨_, hg, hp⟩ := plOk_of h
  constructor
  · intro x
    rcases @jA_in js x with g | g
    · simpa using List.all_eq_true.1 hp _ g
    · rw [g]
  · intro x
    rcases @jA_in js x with g | g
    · have := job_of (List.all_eq_true.1 hg _ g); omega
    · rw [g]; exact Int.le_refl _
theorem load_JX {h : Hp} {v : Value} {js : List Job} {x : Int} (hv : Jobs h v js) (hx : 0 ≤ x ∧ x < js.length) :
    indexAddrP P h t_S_impl_Job v (.int .i64 x) = some (.pointer (some (addP (base v) (x.toNat * 4)))) ∧ loadP P h t_impl_Job (.pointer (some (addP (base v) (x.toNat * 4)))) = some (jv (jA js x)) ∧
    loadP P h t_int (.pointer (some (addP (addP (base v) (x.toNat * 4)) 0))) = some (.int .i64 (jA js x).t) ∧
    loadP P h t_int (.pointer (some (addP (addP (base v) (x.toNat * 4)) 1))) = some (.int .i64 (jA js x).w) ∧
    loadP P h t_int (.pointer (some (addP (addP (base v) (x.toNat * 4)) 2))) = some (.int .i64 (jA js x).r) ∧
    loadP P h t_int (.pointer (some (addP (addP (base v) (x.toNat * 4)) 3))) = some (.int .i64 (jA js x).d) := by
  obtain ⟨k, hk, hkl, hy⟩ := jA_get (js := js) rfl hx
  have := load_J hv hy
  rw [← hk] at this
  rw [show x.toNat = k by omega]
  exact this
section
variable {h : Hp} {v : Value} {js : List Job}
end
/-! ### comparisons -/
section
variable {h : Hp} {vj : Value} {js : List Job} {r : Nat} {a b : Int}
end
/-! ### digits -/
theorem shr_eq {c i : Nat} (hc : c < 2 ^ 60) : shiftI .shr .i64 c i = some (.int .i64 ((c / 2 ^ i : Nat) : Int)) := by
  have h0 : ¬ (i : Int) < 0 := by omega
  simp only [shiftI, if_neg h0, Int.toNat_natCast]
  congr 2
  have e1 : ((2 : Int) ^ min i IntKind.i64.bits) = ((2 ^ min i IntKind.i64.bits : Nat) : Int) := by simp
  rw [e1, Int.fdiv_eq_ediv_of_nonneg _ (Int.natCast_nonneg _), ← Int.natCast_ediv]
  congr 1
  have hb : IntKind.i64.bits = 64 := rfl
  rw [hb]
  by_cases g : i ≤ 64
  · rw [Nat.min_eq_left g]
  · rw [Nat.min_eq_right (by omega), Nat.div_eq_of_lt (by omega), Nat.div_eq_of_lt]
    have : (2 : Nat) ^ 64 ≤ 2 ^ i := Nat.pow_le_pow_right (by omega) (by omega)
    omega
/-- A digit, as the machine has it. -/
theorem bit_val {c i : Nat} (hc : c < 2 ^ 60) : IntKind.i64.wrap ↑(((c : Int) / 2 ^ i % 2 ^ IntKind.i64.bits).toNat &&& (1 % 2 ^ IntKind.i64.bits : Int).toNat) = if c.testBit i = true then 1 else 0 := by
  have hb : IntKind.i64.bits = 64 := rfl
  have e1 : (1 % 2 ^ IntKind.i64.bits : Int).toNat = 1 := by rw [hb]; decide
  have e2 : ((c : Int) / 2 ^ i % 2 ^ IntKind.i64.bits).toNat = c / 2 ^ i := by
    have e3 : ((c : Int) / 2 ^ i) = ((c / 2 ^ i : Nat) : Int) := by simp
    have e4 : c / 2 ^ i ≤ c := Nat.div_le_self ..
    have e5 : ((c / 2 ^ i : Nat) : Int) < 2 ^ 64 := by have : ((c / 2 ^ i : Nat) : Int) ≤ (c : Int) := Int.ofNat_le.2 e4; omega
    rw [e3, hb, Int.emod_eq_of_lt (Int.natCast_nonneg _) e5, Int.toNat_natCast]
  rw [e1, e2, Nat.and_one_is_mod, ← Nat.shiftRight_eq_div_pow]
  have e5 : c.testBit i = decide (c >>> i % 2 = 1) := by rw [Nat.testBit_eq_decide_div_mod_eq, Nat.shiftRight_eq_div_pow]
  rw [e5]
  have : c >>> i % 2 < 2 := Nat.mod_lt _ (by omega)
  by_cases g : c >>> i % 2 = 1
  · rw [g, wrap_ok (by omega) (by omega)]; simp
  · have : c >>> i % 2 = 0 := by omega
    rw [this, wrap_ok (by omega) (by omega)]; simp
end Go.Pm.PP

/- Due orders and timely sets, by both. -/
set_option linter.unusedVariables false
set_option linter.unusedSimpArgs false
set_option maxRecDepth 4000
set_option maxHeartbeats 8000000
namespace Go.Pm.PP
open Go.Pm Go.Proofs Go.Pm.PE
/-- Times and dates are not too great. -/
structure Bd (js : List Job) : Prop where
  t : ∀ x, 0 ≤ (jA js x).t ∧ (jA js x).t ≤ 2 ^ 20
  d : ∀ x, -(2 ^ 20) ≤ (jA js x).d ∧ (jA js x).d ≤ 2 ^ 20
theorem good_bd {js : List Job} (hg : goodL js = true) : Bd js := by
  constructor
  all_goals
    intro x
    rcases @jA_in js x with g | g
    · have := job_of (List.all_eq_true.1 hg _ g); omega
    · rw [g]; simp
section
variable {h : Hp} {vj v : Value} {js : List Job} {xs : List Int}
end
end Go.Pm.PP

/- The greatest lateness and delays, by both; the draw. -/
set_option linter.unusedVariables false
set_option linter.unusedSimpArgs false
set_option maxRecDepth 4000
set_option maxHeartbeats 8000000
namespace Go.Pm.PP
open Go.Pm Go.Proofs Go.Pm.PE
theorem ord_perm {n : Nat} {xs : List Int} (o : Ord n xs) : xs.Perm (upTo n) := (List.perm_ext_iff_of_nodup o.nd (upTo_nodup n)).2 fun x => by
  rw [mem_upTo]
  refine ⟨fun hx => o.inn x hx, fun hx => ?_⟩
  have := o.all (i := x.toNat) (by omega)
  rwa [show ((x.toNat : Nat) : Int) = x by omega] at this
theorem ord_prm {n : Nat} {xs : List Int} (o : Ord n xs) : Prm n xs := by
  have := ord_perm o
  rwa [upTo, List.range_eq_range'] at this
section
variable {h : Hp} {vj v : Value} {js : List Job} {xs : List Int}
theorem shl_eq {i : Nat} (hi : i ≤ 60) : shiftI .shl .i64 1 i = some (.int .i64 ((2 ^ i : Nat) : Int)) := by
  have h0 : ¬ (i : Int) < 0 := by omega
  have hb : IntKind.i64.bits = 64 := rfl
  simp only [shiftI, if_neg h0, Int.toNat_natCast]
  rw [hb, Nat.min_eq_left (by omega), Int.one_mul]
  have e1 : ((2 : Int) ^ i) = ((2 ^ i : Nat) : Int) := by simp
  have e2 : 2 ^ i ≤ 2 ^ 60 := Nat.pow_le_pow_right (by omega) hi
  rw [e1]
  generalize 2 ^ i = d at e2 ⊢
  rw [wrap_ok (by omega) (by omega)]
/-! ### with a delay -/
end
/-! ### in plain terms -/
/-- Timely after a delay along an order of jobs. -/
def timD (js : List Job) (dl : Int) : Int → List Int → Bool
  | _, [] => true
  | now, x :: r => decide (now + (jA js x).t ≤ (jA js x).d + dl) && timD js dl (now + (jA js x).t) r
theorem timD_lat {js : List Job} (p : Pl js) {dl : Int} : ∀ {xs : List Int} {now m : Int}, 0 ≤ now → m ≤ dl → (timD js dl now xs = true ↔ latGo js now m xs ≤ dl)
  | [], now, m, _, hm => by simp [timD, latGo, hm]
  | x :: r, now, m, h, hm => by
    have := p.t x
    rw [timD, latGo, p.endAt h, Bool.and_eq_true, decide_eq_true_eq]
    have mono : ∀ {xs : List Int} {now m : Int}, m ≤ latGo js now m xs := by
      intro xs
      induction xs with
      | nil => intro now m; exact Int.le_refl _
      | cons x xs ih =>
        intro now m
        rw [latGo]
        exact Int.le_trans (by omega) ih
    constructor
    · rintro ⟨h1, h2⟩
      exact (timD_lat p (by omega) (by omega)).1 h2
    · intro hl
      have h1 := @mono r (now + (jA js x).t) (max m (now + (jA js x).t - (jA js x).d))
      have h2 : now + (jA js x).t ≤ (jA js x).d + dl := by omega
      exact ⟨h2, (timD_lat p (by omega) (by omega)).2 hl⟩
/-- The value of an order for the greatest lateness. -/
theorem valX_lat {js : List Job} (hok : plOk js = true) {xs : List Int} (o : Ord js.length xs) (hne : 0 < js.length) : valX 4 js xs = latGo js 0 (-(2 ^ 20)) xs := by
  obtain ⟨hn, hg, _⟩ := plOk_of hok
  refine val_lat (ord_prm o) ⟨(0 : Nat), o.all hne, ?_⟩
  have e0 : gE (endsL js xs) ((0 : Nat) : Int).toNat ∈ endsL js xs := by
    have : (0 : Nat) < (endsL js xs).length := by rw [endsL_len]; exact hne
    have := gE_get this
    exact List.mem_of_getElem? this
  have := endGo_bd hg (k := 0) o.inn (Int.le_refl 0) (by omega) (fun e he => by rw [List.eq_of_mem_replicate he]; omega) _ e0
  have := (good_bd hg).d ((0 : Nat) : Int)
  omega
end Go.Pm.PP

/- FnLateness in the small machine. -/
set_option linter.unusedVariables false
set_option linter.unusedSimpArgs false
set_option maxRecDepth 4000
set_option maxHeartbeats 8000000
namespace Go.Pm.PP
open Go.Pm Go.Proofs Go.Pm.PE
section
variable {h0 h : Hp} {r n : Nat} {vc : Value} {L : List Asn}
end
end Go.Pm.PP

/- Typed rules for slices: printed by a program of this work (wrap.py). -/
set_option linter.unusedVariables false
set_option linter.unusedSimpArgs false
set_option maxRecDepth 4000
namespace Go.Pm.PP
open Go.Pm Go.Proofs
end Go.Pm.PP

/- Rule differences, ruled orders and inversions, by both. -/
set_option linter.unusedVariables false
set_option linter.unusedSimpArgs false
set_option maxRecDepth 4000
set_option maxHeartbeats 8000000
namespace Go.Pm.PP
open Go.Pm Go.Proofs Go.Pm.PE
section
variable {h : Hp} {vj v : Value} {js : List Job} {xs : List Int} {o : Int}
theorem jobOk_jA (hg : goodL js = true) {x : Int} (hx : 0 ≤ x ∧ x < js.length) : jobOk (jA js x) = true := by
  obtain ⟨q, hq, hql, hqy⟩ := jA_get (js := js) rfl hx
  exact job_at hg hqy
end
end Go.Pm.PP

/- Inversions, losses, ruled orders, exchanges, by both. -/
set_option linter.unusedVariables false
set_option linter.unusedSimpArgs false
set_option maxRecDepth 4000
set_option maxHeartbeats 8000000
namespace Go.Pm.PP
open Go.Pm Go.Proofs Go.Pm.PE
section
variable {h : Hp} {vj v : Value} {js : List Job} {xs : List Int} {o : Int}
/-! ### losses -/
end
end Go.Pm.PP

/- Whether an order is ruled, exchanges, codes that are cut, pairs that are the same. -/
set_option linter.unusedVariables false
set_option linter.unusedSimpArgs false
set_option maxRecDepth 4000
set_option maxHeartbeats 8000000
namespace Go.Pm.PP
open Go.Pm Go.Proofs Go.Pm.PE
section
variable {h : Hp} {vj v u : Value} {js : List Job} {xs : List Int} {o : Int}
theorem vBig_run {bs : List Int} (hb : Sees h v 1 (bs.map encU)) : Ret P G n_laws_vBig [v] h (.bool (decide ((65536 : Int) < bs.length))) h := by
  refine enter_run e_laws_vBig (by simp) ?_
  obtain ⟨oa, c, rfl⟩ := hb.shapeT
  simp -implicitDefEqProofs
end
end Go.Pm.PP

/- Draws: plain jobs, ruled orders, inversions. -/
set_option linter.unusedVariables false
set_option linter.unusedSimpArgs false
set_option maxRecDepth 4000
set_option maxHeartbeats 8000000
namespace Go.Pm.PP
open Go.Pm Go.Proofs Go.Pm.PE
section
variable {h : Hp} {vj v : Value} {js : List Job} {o : Int}
end
/-! ### draws -/
section
variable {h0 h : Hp} {r n : Nat} {vc : Value} {L : List Asn}
end
theorem plain2T {a b : Value} {r : List Value} (h : plain (.tuple (a :: b :: r).toArray) = true) : plainC b = true := by
  have : ((a :: b :: r).toArray : Array Value).toList.all plainC = true := h
  simp only [List.all_cons, Bool.and_eq_true] at this
  exact this.2.1
theorem gc_JX {h h1 : Hp} {u w : Value} {r : List Value} {js : List Job} {xs : List Int} (hp : h <+: h1) (J : Jobs h1 u js) (X : Ints h1 w xs) : h <+: gc h h1 (.tuple (u :: w :: r).toArray) ∧ Jobs (gc h h1 (.tuple (u :: w :: r).toArray)) u js ∧ Ints (gc h h1 (.tuple (u :: w :: r).toArray)) w xs :=
  ⟨pre_gcU hp, Sees.gcU J fun g => plainT (r := w :: r) g, Sees.gcU X fun g => plain2T (r := r) g⟩
end Go.Pm.PP

/- FnPairLoss in the small machine. -/
set_option linter.unusedVariables false
set_option linter.unusedSimpArgs false
set_option maxRecDepth 4000
set_option maxHeartbeats 16000000
namespace Go.Pm.PP
open Go.Pm Go.Proofs Go.Pm.PE
end Go.Pm.PP

/- Ruled orders, by both. -/
set_option linter.unusedVariables false
set_option linter.unusedSimpArgs false
set_option maxRecDepth 4000
set_option maxHeartbeats 8000000
namespace Go.Pm.PP
open Go.Pm Go.Proofs Go.Pm.PE
section
variable {h : Hp} {vj v u : Value} {js : List Job} {xs ys : List Int} {o : Int}
theorem vInts_run (hv : Ints h v xs) (hu : Ints h u xs) (hx : xs.length ≤ 2 ^ 40) : Ret P G n_laws_vInts [v, u] h (.bool true) h := by
  refine enter_run e_laws_vInts (by simp) ?_
  have hvs := hv
  have hus := hu
  obtain ⟨oa, c, rfl⟩ := hv.shapeT
  obtain ⟨ob, c', rfl⟩ := hu.shapeT
  simp -implicitDefEqProofs
  refine R_loopO (fun m s h' => ∃ i : Nat, i + m = xs.length ∧ s = [(0, .slice oa xs.length c), (1, .slice ob xs.length c'), (5, .int .i64 i)] ∧ h' = h) (fun I hI m s h' => ?_) (n := xs.length) ⟨0, Nat.zero_add _, by simp, rfl⟩
  rintro ⟨i, hi, rfl, rfl⟩
  by_cases hlt : i < xs.length
  · obtain ⟨x, hx', _⟩ := drop_at hlt
    simp -implicitDefEqProofs [-indexAddrP_some, hlt, load_I hvs hx', load_I hus hx', winc hlt hx]
    exact ⟨m - 1, by omega, on hI ⟨i + 1, by omega, rfl, rfl⟩⟩
  · simp -implicitDefEqProofs [hlt]
/-! ### rule differences -/
end
/-! ### ruled orders are best -/
end Go.Pm.PP

/- Points of orders, by both. -/
set_option linter.unusedVariables false
set_option linter.unusedSimpArgs false
set_option maxRecDepth 4000
set_option maxHeartbeats 8000000
namespace Go.Pm.PP
open Go.Pm Go.Proofs Go.Pm.PE
def ptX (f g : Int) (js : List Job) (xs : List Int) : Pt := (valX f js xs, valX g js xs)
section
variable {h : Hp} {vj v u : Value} {js : List Job} {xs : List Int} {f g : Int}
end
end Go.Pm.PP

/- Fronts by the reference. -/
set_option linter.unusedVariables false
set_option linter.unusedSimpArgs false
set_option maxRecDepth 4000
set_option maxHeartbeats 8000000
namespace Go.Pm.PP
open Go.Pm Go.Proofs Go.Pm.PE
theorem Sees.pl {h : Hp} {v : Value} {sz : Nat} {els : List (List Value)} (s : Sees h v sz els) (g : plain v = true) : plainC v = true := by
  obtain ⟨_, oa, c, rfl, _⟩ := s
  exact g
section
variable {h : Hp} {vj v u : Value} {js : List Job} {xs : List Int} {f g : Int}
def upF (f g : Int) (js : List Job) (F : List Pt) (xs : List Int) : List Pt := putF F (ptX f g js xs)
def frontR (f g : Int) (js : List Job) : List Pt := (ordsL js.length).foldl (upF f g js) []
end
end Go.Pm.PP

/- Fronts by the program; what both export. -/
set_option linter.unusedVariables false
set_option linter.unusedSimpArgs false
set_option maxRecDepth 4000
set_option maxHeartbeats 16000000
namespace Go.Pm.PP
open Go.Pm Go.Proofs Go.Pm.PE
section
variable {h : Hp} {vj v u : Value} {js : List Job} {xs : List Int} {f g : Int}
end
end Go.Pm.PP

/- Fronts: what both export. -/
set_option linter.unusedVariables false
set_option linter.unusedSimpArgs false
set_option maxRecDepth 4000
set_option maxHeartbeats 16000000
namespace Go.Pm.PP
open Go.Pm Go.Proofs Go.Pm.PE
section
variable {h : Hp} {vj v u : Value} {js : List Job} {xs : List Int} {f g : Int}
/-! ### the first order with a point -/
end
end Go.Pm.PP

/- The first order with a point of a front, by both; the draw. -/
set_option linter.unusedVariables false
set_option linter.unusedSimpArgs false
set_option maxRecDepth 4000
set_option maxHeartbeats 16000000
namespace Go.Pm.PP
open Go.Pm Go.Proofs Go.Pm.PE
/-! ### a search for the first one -/
section
variable {h : Hp} {vj v u : Value} {js : List Job} {xs : List Int} {f g : Int}
end
/-! ### in plain terms -/
theorem front_facts {f g : Int} {js : List Job} (hn : js.length ≤ 8) : Srt (frontR f g js) ∧ (∀ q, q ∈ frontR f g js → ∃ xs, Ord js.length xs ∧ ptX f g js xs = q) ∧ (∀ xs, Ord js.length xs → ∃ q, q ∈ frontR f g js ∧ q.1 ≤ valX f js xs ∧ q.2 ≤ valX g js xs) := by
  obtain ⟨h1, h2, h3⟩ := front_fold (pt := ptX f g js) (l := ordsL js.length) (F := []) (S := fun q => ∃ xs, Ord js.length xs ∧ ptX f g js xs = q) List.Pairwise.nil (fun q hq => by cases hq) fun xs hx => ⟨xs, ords_ord hx, rfl⟩
  exact ⟨h1, h2, fun xs ox => h3 (ptX f g js xs) (.inl ⟨xs, ord_mem ox, rfl⟩)⟩
end Go.Pm.PP

/- Searches of least mixtures and under limits, by the reference. -/
set_option linter.unusedVariables false
set_option linter.unusedSimpArgs false
set_option maxRecDepth 4000
set_option maxHeartbeats 16000000
namespace Go.Pm.PP
open Go.Pm Go.Proofs Go.Pm.PE
end Go.Pm.PP

/- Least mixtures, by both. -/
set_option linter.unusedVariables false
set_option linter.unusedSimpArgs false
set_option maxRecDepth 4000
set_option maxHeartbeats 16000000
namespace Go.Pm.PP
open Go.Pm Go.Proofs Go.Pm.PE
section
variable {h : Hp} {vj v u : Value} {js : List Job} {xs : List Int} {f g x y : Int}
end
end Go.Pm.PP

/- Supported points, by both. -/
set_option linter.unusedVariables false
set_option linter.unusedSimpArgs false
set_option maxRecDepth 4000
set_option maxHeartbeats 16000000
namespace Go.Pm.PP
open Go.Pm Go.Proofs Go.Pm.PE
section
variable {h : Hp} {vj v u vf : Value} {js : List Job} {F : List Pt} {f g : Int}
end
end Go.Pm.PP

/- Supported points: what both export. -/
set_option linter.unusedVariables false
set_option linter.unusedSimpArgs false
set_option maxRecDepth 4000
set_option maxHeartbeats 16000000
namespace Go.Pm.PP
open Go.Pm Go.Proofs Go.Pm.PE
section
variable {h : Hp} {vj v u vf : Value} {js : List Job} {F : List Pt} {f g : Int}
end
end Go.Pm.PP

/- Best orders under a limit, by both. -/
set_option linter.unusedVariables false
set_option linter.unusedSimpArgs false
set_option maxRecDepth 4000
set_option maxHeartbeats 16000000
namespace Go.Pm.PP
open Go.Pm Go.Proofs Go.Pm.PE
section
variable {h : Hp} {vj v u : Value} {js : List Job} {xs : List Int} {f g lim : Int}
end
end Go.Pm.PP

/- Tables of the least values of sets, by both. -/
set_option linter.unusedVariables false
set_option linter.unusedSimpArgs false
set_option maxRecDepth 4000
set_option maxHeartbeats 8000000
namespace Go.Pm.PP
open Go.Pm Go.Proofs Go.Pm.PE
/-! ### digits in the machine -/
theorem listOf_run {h : Hp} {n c : Nat} (hn : n ≤ 50) (hc : c < 2 ^ n) : RunsC P G n_impl_listOf [.int .i64 c] h fun v h' => h <+: h' ∧ Own h.length h' v 1 ((bitsL n c).map encI) := by
  refine hideC fun K hK => enter_run e_impl_listOf (by simp) ?_
  have H0 := own_nil (Holds.start (h := h)) Int encI 1
  have hc60 : c < 2 ^ 60 := by have : 2 ^ n ≤ 2 ^ 50 := Nat.pow_le_pow_right (by omega) hn; omega
  simp -implicitDefEqProofs
  refine R_loopO (fun m s h' => ∃ (i : Nat) (u : Value), i + m = n ∧ s = [(0, .int .i64 c), (3, u), (4, .int .i64 i)] ∧ Holds h h' [.own u 1 ((bitsL i c).map encI)]) (fun I hI m s h' => ?_) (n := n) ⟨0, _, Nat.zero_add _, by simp; rfl, by simpa [bitsL] using H0⟩
  rintro ⟨i, u, hi, rfl, H⟩
  by_cases hlt : 0 < c / 2 ^ i
  · have hin : i < n := by
      have h1 : 2 ^ i ≤ c := (Nat.div_pos_iff.1 hlt).2
      exact (Nat.pow_lt_pow_iff_right (by omega : 1 < 2)).1 (Nat.lt_of_le_of_lt h1 hc)
    have hlt' : (0 : Int) < (c : Int) / 2 ^ i := by
      have : ((c : Int) / 2 ^ i) = ((c / 2 ^ i : Nat) : Int) := by simp
      omega
    have bl := @bits_len i c
    have bs := @bits_snoc i c
    have bv := bit_val (i := i) hc60
    cases ct : c.testBit i
    · rw [ct, if_neg (by simp)] at bs bv
      rw [List.append_nil] at bs
      simp -implicitDefEqProofs [hlt', shr_eq hc60, bv, winc hin (by omega)]
      exact ⟨m - 1, by omega, on hI ⟨i + 1, _, by omega, rfl, by rw [bs]; exact H⟩⟩
    · rw [ct, if_pos rfl] at bs bv
      obtain ⟨v', h2, ha, H2, _⟩ := push_I0 H 0 rfl (i : Int) (by omega)
      simp -implicitDefEqProofs [hlt', shr_eq hc60, bv, ha, winc hin (by omega)]
      exact ⟨m - 1, by omega, on hI ⟨i + 1, _, by omega, rfl, by rw [bs]; exact H2⟩⟩
  · have h1 : c < 2 ^ i := by
      rcases Nat.lt_or_ge c (2 ^ i) with g | g
      · exact g
      · exact absurd (Nat.div_pos g (Nat.two_pow_pos i)) hlt
    rw [bits_any h1 hc] at H
    have hlt' : ¬ (0 : Int) < (c : Int) / 2 ^ i := by
      have : ((c : Int) / 2 ^ i) = ((c / 2 ^ i : Nat) : Int) := by simp
      omega
    simp -implicitDefEqProofs [hlt', shr_eq hc60]
    exact onK hK (H.ret 0 rfl)
section
variable {h : Hp} {vj v : Value} {js : List Job} {xs : List Int}
/-- A sum of times, bit by bit. -/
def timeGo (js : List Job) (xs : List Int) : Int := (xs.map fun x => (jA js x).t).sum
theorem time_bd {js : List Job} (bd : Bd js) : ∀ {xs : List Int}, 0 ≤ timeGo js xs ∧ timeGo js xs ≤ xs.length * 2 ^ 20
  | [] => by simp [timeGo]
  | x :: xs => by
    have ih := time_bd bd (xs := xs)
    have := bd.t x
    have e : timeGo js (x :: xs) = (jA js x).t + timeGo js xs := rfl
    rw [e, List.length_cons]; omega
/-! ### objectives that are sums -/
end
end Go.Pm.PP

/- Tables of the least values of sets, by both: the tables. -/
set_option linter.unusedVariables false
set_option linter.unusedSimpArgs false
set_option maxRecDepth 4000
set_option maxHeartbeats 8000000
namespace Go.Pm.PP
open Go.Pm Go.Proofs Go.Pm.PE
section
variable {h : Hp} {vj v : Value} {js : List Job} {xs : List Int} {o : Int}
/-! ### by the reference -/
end
end Go.Pm.PP

/- The order that is found from its end, by both; total times. -/
set_option linter.unusedVariables false
set_option linter.unusedSimpArgs false
set_option maxRecDepth 4000
set_option maxHeartbeats 8000000
namespace Go.Pm.PP
open Go.Pm Go.Proofs Go.Pm.PE
section
variable {h : Hp} {vj v : Value} {js : List Job} {xs : List Int} {o : Int}
/-! ### total times -/
end
end Go.Pm.PP
