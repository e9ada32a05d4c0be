/- The texts Ps6, Ps7, PvV, PvN, PvW, PvX, PvY, Pv1, Pv2, Pv3 of this work: Ruled orders, due orders, inversions, in plain terms. -/
import Derived.Test.YtcmbjbddjlamaaaP6
/- Ruled orders, due orders, inversions, in plain terms. -/
set_option linter.unusedVariables false
set_option linter.unusedSimpArgs false
namespace Go.Pm.PP
open Go.Pm Go.Pm.PE
/-- A job, one with a time in any case. -/
def jB (js : List Job) (x : Int) : Job := if 1 ≤ (jA js x).t then jA js x else ⟨1, 0, 0, 0⟩
theorem jB_t {js : List Job} {x : Int} : 1 ≤ (jB js x).t := by
  unfold jB; split
  · assumption
  · exact Int.le_refl _
def aheadR (o : Int) (js : List Job) (a b : Int) : Bool := decide (gapJ o (jB js a) (jB js b) < 0)
theorem ratio_tr {a b c : Job} (h : 1 ≤ b.t) (ha : 0 ≤ a.t) (hc : 0 ≤ c.t) (h1 : 0 ≤ a.t * b.w - b.t * a.w) (h2 : 0 ≤ b.t * c.w - c.t * b.w) : 0 ≤ a.t * c.w - c.t * a.w := by
  have e1 : 0 ≤ c.t * (a.t * b.w - b.t * a.w) := Int.mul_nonneg hc h1
  have e2 : 0 ≤ a.t * (b.t * c.w - c.t * b.w) := Int.mul_nonneg ha h2
  have e3 : c.t * (a.t * b.w - b.t * a.w) + a.t * (b.t * c.w - c.t * b.w) = b.t * (a.t * c.w - c.t * a.w) := by
    generalize a.t = A; generalize b.t = B; generalize c.t = C; generalize a.w = u; generalize b.w = v; generalize c.w = w
    simp only [Int.mul_sub]
    have f1 : C * (A * v) = A * (C * v) := Int.mul_left_comm ..
    have f2 : C * (B * u) = B * (C * u) := Int.mul_left_comm ..
    have f3 : A * (B * w) = B * (A * w) := Int.mul_left_comm ..
    omega
  have e4 : 0 ≤ b.t * (a.t * c.w - c.t * a.w) := e3 ▸ Int.add_nonneg e1 e2
  rcases Int.lt_or_le (a.t * c.w - c.t * a.w) 0 with g | g
  · have := Int.mul_neg_of_pos_of_neg (show 0 < b.t by omega) g
    omega
  · exact g
theorem gapJ_tr {o : Int} {a b c : Job} (h : 1 ≤ b.t) (ha : 0 ≤ a.t) (hc : 0 ≤ c.t) (h1 : 0 ≤ gapJ o a b) (h2 : 0 ≤ gapJ o b c) : 0 ≤ gapJ o a c := by
  unfold gapJ at *
  split
  · rename_i e; rw [if_pos e] at h1 h2; omega
  · rename_i e; rw [if_neg e] at h1 h2
    split
    · rename_i e; rw [if_pos e] at h1 h2; omega
    · rename_i e; rw [if_neg e] at h1 h2
      split
      · rename_i e; rw [if_pos e] at h1 h2; exact ratio_tr h ha hc h1 h2
      · rename_i e; rw [if_neg e] at h1 h2; omega
theorem gapJ_swap {o : Int} {a b : Job} : gapJ o b a = - gapJ o a b := by
  unfold gapJ
  split
  · omega
  split
  · omega
  split
  · omega
  · omega
theorem ahead_weak {o : Int} {js : List Job} : Weak (aheadR o js) := by
  refine ⟨fun {a b} h => ?_, fun {a b c} h1 h2 => ?_⟩
  · simp only [aheadR, decide_eq_true_eq, decide_eq_false_iff_not] at h ⊢
    have := @gapJ_swap o (jB js a) (jB js b)
    omega
  · simp only [aheadR, decide_eq_false_iff_not, Int.not_lt] at h1 h2 ⊢
    exact gapJ_tr jB_t (by have := @jB_t js a; omega) (by have := @jB_t js c; omega) h1 h2
/-- Jobs with times. -/
def Tm (js : List Job) : Prop := ∀ x : Int, 0 ≤ x → x < js.length → 1 ≤ (jA js x).t
theorem jB_eq {js : List Job} (t : Tm js) {x : Int} (h : 0 ≤ x ∧ x < js.length) : jB js x = jA js x := by unfold jB; rw [if_pos (t x h.1 h.2)]
theorem ahead_eq {o : Int} {js : List Job} (t : Tm js) {a b : Int} (ha : 0 ≤ a ∧ a < js.length) (hb : 0 ≤ b ∧ b < js.length) : aheadR o js a b = decide (gapX o js a b < 0) := by
  unfold aheadR gapX; rw [jB_eq t ha, jB_eq t hb]
/-- Neighbours in order: all in order. -/
theorem pairwise_of_next {R : Int → Int → Prop} {D : Int → Prop} (tr : ∀ a b c, D a → D b → D c → R a b → R b c → R a c) : ∀ {l : List Int}, (∀ x, x ∈ l → D x) → (∀ i x y, l[i]? = some x → l[i + 1]? = some y → R x y) → l.Pairwise R
  | [], _, _ => List.Pairwise.nil
  | [x], _, _ => List.pairwise_singleton ..
  | x :: y :: l, hD, h => by
    have ih := pairwise_of_next tr (l := y :: l) (fun z hz => hD z (List.mem_cons_of_mem _ hz)) fun i a b h1 h2 => h (i + 1) a b (by simpa using h1) (by simpa using h2)
    refine List.pairwise_cons.2 ⟨fun z hz => ?_, ih⟩
    have h1 := h 0 x y rfl rfl
    rcases List.mem_cons.1 hz with rfl | g
    · exact h1
    · exact tr x y z (hD x (List.mem_cons_self ..)) (hD y (by simp)) (hD z (by simp [g])) h1 ((List.pairwise_cons.1 ih).1 z g)
/-- Whether an order is ruled. -/
def ruledB (o : Int) (js : List Job) : List Int → Bool
  | x :: y :: l => decide (gapX o js x y ≤ 0) && ruledB o js (y :: l)
  | _ => true
theorem ruled_next {o : Int} {js : List Job} : ∀ {l : List Int}, ruledB o js l = true ↔ ∀ i x y, l[i]? = some x → l[i + 1]? = some y → gapX o js x y ≤ 0
  | [] => by simp [ruledB]
  | [x] => by simp [ruledB]
  | x :: y :: l => by
    rw [ruledB, Bool.and_eq_true, decide_eq_true_eq, ruled_next]
    constructor
    · rintro ⟨h1, h2⟩ i a b ha hb
      cases i with
      | zero => simp at ha hb; subst ha; subst hb; exact h1
      | succ i => exact h2 i a b (by simpa using ha) (by simpa using hb)
    · intro h
      exact ⟨h 0 x y rfl rfl, fun i a b ha hb => h (i + 1) a b (by simpa using ha) (by simpa using hb)⟩
theorem ruled_iff {o : Int} {js : List Job} (t : Tm js) {l : List Int} (hin : inN js.length l) : ruledB o js l = true ↔ l.Pairwise fun a b => gapX o js a b ≤ 0 := by
  constructor
  · intro h
    refine pairwise_of_next (D := fun x => 0 ≤ x ∧ x < js.length) (fun a b c ha hb hc h1 h2 => ?_) hin (ruled_next.1 h)
    have s1 := @gap_swap o js a b
    have s2 := @gap_swap o js b c
    have s3 := @gap_swap o js a c
    have ta := t a ha.1 ha.2
    have tc := t c hc.1 hc.2
    have := gapJ_tr (o := o) (a := jA js c) (b := jA js b) (c := jA js a) (t b hb.1 hb.2) (by omega) (by omega) (show 0 ≤ gapX o js c b by omega) (show 0 ≤ gapX o js b a by omega)
    have : 0 ≤ gapX o js c a := this
    omega
  · intro h
    refine ruled_next.2 fun i x y hx hy => ?_
    have := List.pairwise_iff_getElem.1 h i (i + 1) (List.getElem?_eq_some_iff.1 hx).1 (List.getElem?_eq_some_iff.1 hy).1 (by omega)
    rw [(List.getElem?_eq_some_iff.1 hx).2, (List.getElem?_eq_some_iff.1 hy).2] at this
    exact this
/-! ### the list of inversions -/
def invL1 (o : Int) (js : List Job) (x : Int) (r : List Int) : List (Int × Int) := (r.filter fun y => decide (0 < gapX o js x y)).map fun y => (x, y)
def invL (o : Int) (js : List Job) : List Int → List (Int × Int)
  | [] => []
  | x :: r => invL1 o js x r ++ invL o js r
theorem inv1_sum {o : Int} {js : List Job} {x : Int} : ∀ {r : List Int}, ((invL1 o js x r).map fun p => gapX o js p.1 p.2).sum = invR o js x r
  | [] => rfl
  | y :: r => by
    have ih := inv1_sum (o := o) (js := js) (x := x) (r := r)
    unfold invL1 at ih ⊢
    rw [invR_cons, List.filter_cons]
    split
    · rename_i g
      simp only [decide_eq_true_eq] at g
      rw [List.map_cons, List.map_cons, List.sum_cons, ih]
      simp only
      omega
    · rename_i g
      simp only [decide_eq_true_eq] at g
      rw [ih]
      omega
theorem inv_sum {o : Int} {js : List Job} : ∀ {l : List Int}, ((invL o js l).map fun p => gapX o js p.1 p.2).sum = invS o js l
  | [] => rfl
  | x :: r => by rw [invL, invS, List.map_append, List.sum_append, inv1_sum, inv_sum]
theorem inv_nil {o : Int} {js : List Job} : ∀ {l : List Int}, invL o js l = [] ↔ l.Pairwise fun a b => gapX o js a b ≤ 0
  | [] => by simp [invL]
  | x :: r => by
    rw [invL, List.append_eq_nil_iff, inv_nil, List.pairwise_cons]
    refine and_congr ?_ Iff.rfl
    unfold invL1
    rw [List.map_eq_nil_iff, List.filter_eq_nil_iff]
    constructor
    · intro h y hy
      have := h y hy
      simp only [decide_eq_true_eq] at this
      omega
    · intro h y hy
      have := h y hy
      simp only [decide_eq_true_eq]
      omega
/-! ### due order -/
def dueAh (js : List Job) (a b : Int) : Bool := decide ((jA js a).d < (jA js b).d) || (((jA js a).d == (jA js b).d) && decide ((jA js a).t < (jA js b).t))
theorem due_weak {js : List Job} : Weak (dueAh js) := by
  constructor
  · intro a b h
    simp only [dueAh, Bool.or_eq_true, decide_eq_true_eq, Bool.and_eq_true, beq_iff_eq, Bool.or_eq_false_iff, decide_eq_false_iff_not, Bool.and_eq_false_iff, beq_eq_false_iff_ne] at h ⊢
    omega
  · intro a b c h1 h2
    simp only [dueAh, Bool.or_eq_false_iff, decide_eq_false_iff_not, Bool.and_eq_false_iff, beq_eq_false_iff_ne] at h1 h2 ⊢
    omega
theorem due_d {js : List Job} {a b : Int} (h : dueAh js b a = false) : (jA js a).d ≤ (jA js b).d := by
  simp only [dueAh, Bool.or_eq_false_iff, decide_eq_false_iff_not] at h
  omega
def dueL (js : List Job) (xs : List Int) : List Int := sortB (dueAh js) xs
theorem dueL_d {js : List Job} {xs : List Int} : (dueL js xs).Pairwise fun a b => (jA js a).d ≤ (jA js b).d := (sortB_weak due_weak).imp due_d
/-- By dates alone. -/
def dAh (js : List Job) (a b : Int) : Bool := decide ((jA js a).d < (jA js b).d)
theorem dAh_weak {js : List Job} : Weak (dAh js) := ⟨fun h => by simp [dAh] at h ⊢; omega, fun h1 h2 => by simp [dAh] at h1 h2 ⊢; omega⟩
theorem dAhL_d {js : List Job} {xs : List Int} : (sortB (dAh js) xs).Pairwise fun a b => (jA js a).d ≤ (jA js b).d := (sortB_weak dAh_weak).imp fun h => by simp [dAh] at h; exact h
/-- By the reference: insertion from the front. -/
def sooner (js : List Job) (a b : Int) : Bool := if (jA js a).d ≠ (jA js b).d then decide ((jA js a).d < (jA js b).d) else if (jA js a).t ≠ (jA js b).t then decide ((jA js a).t < (jA js b).t) else decide (a < b)
theorem sooner_lex {js : List Job} {a b : Int} : sooner js a b = true ↔ Lex (dueAh js) a b := by
  unfold sooner Lex dueAh
  simp only [Bool.or_eq_true, decide_eq_true_eq, Bool.and_eq_true, beq_iff_eq, Bool.or_eq_false_iff, decide_eq_false_iff_not, Bool.and_eq_false_iff, beq_eq_false_iff_ne]
  split
  · simp only [decide_eq_true_eq]; omega
  · split
    · simp only [decide_eq_true_eq]; omega
    · simp only [decide_eq_true_eq]; omega
def dueF (js : List Job) (xs : List Int) : List Int := xs.foldl (fun l x => insF (fun y => sooner js y x) x l) []
theorem dueF_go {js : List Job} : ∀ {xs acc : List Int}, acc.Pairwise (Lex (dueAh js)) → (acc ++ xs).Nodup → (xs.foldl (fun l x => insF (fun y => sooner js y x) x l) acc).Pairwise (Lex (dueAh js)) ∧ (xs.foldl (fun l x => insF (fun y => sooner js y x) x l) acc).Perm (acc ++ xs)
  | [], acc, h, _ => by rw [List.foldl_nil, List.append_nil]; exact ⟨h, List.Perm.refl _⟩
  | x :: xs, acc, h, hnd => by
    rw [List.foldl_cons]
    have hp : (insF (fun y => sooner js y x) x acc).Perm (x :: acc) := insF_perm
    have hx : ∀ y, y ∈ acc → y ≠ x := fun y hy e => by
      subst e
      have := List.nodup_append.1 hnd
      exact this.2.2 y hy y (List.mem_cons_self ..) rfl
    have tot : ∀ y, y ≠ x → sooner js y x = false → Lex (dueAh js) x y := fun y hy hs => by
      rw [← sooner_lex]
      unfold sooner at hs ⊢
      split at hs
      · rename_i e
        rw [if_pos (fun g => e g.symm)]
        simp only [decide_eq_false_iff_not, decide_eq_true_eq] at hs ⊢
        omega
      · rename_i e
        rw [if_neg (fun g => e fun g' => g g'.symm)]
        split at hs
        · rename_i e
          rw [if_pos (fun g => e g.symm)]
          simp only [decide_eq_false_iff_not, decide_eq_true_eq] at hs ⊢
          omega
        · rename_i e
          rw [if_neg (fun g => e fun g' => g g'.symm)]
          simp only [decide_eq_false_iff_not, decide_eq_true_eq] at hs ⊢
          omega
    have lt : ∀ {a b c : Int}, Lex (dueAh js) a b → Lex (dueAh js) b c → Lex (dueAh js) a c := fun {a b c} h1 h2 => by
      rw [← sooner_lex] at h1 h2 ⊢
      unfold sooner at h1 h2 ⊢
      split at h1 <;> split at h2 <;> (try split at h1) <;> (try split at h2) <;> simp only [decide_eq_true_eq] at h1 h2 <;> split <;> (try split) <;> simp only [decide_eq_true_eq] <;> omega
    have hs := insF_sorted (R := Lex (dueAh js)) (p := fun y => sooner js y x) (x := x) h (fun y hy g => sooner_lex.1 g) (fun y hy g => tot y (hx y hy) g) fun y z hy hz hr g => by
      cases c : sooner js z x with
      | false => rfl
      | true =>
        have := lt hr (sooner_lex.1 c)
        rw [← sooner_lex] at this
        rw [this] at g; cases g
    have hq : (insF (fun y => sooner js y x) x acc ++ xs).Perm (acc ++ x :: xs) := ((hp.append_right xs).trans (by rw [List.cons_append])).trans List.perm_middle.symm
    obtain ⟨r1, r2⟩ := dueF_go (xs := xs) hs (hq.nodup_iff.2 hnd)
    exact ⟨r1, r2.trans hq⟩
/-- Both due orders are the same, for ascending sets. -/
theorem due_eq {js : List Job} {xs : List Int} (h : xs.Pairwise (· < ·)) : dueF js xs = dueL js xs := by
  have hnd : ([] ++ xs).Nodup := by rw [List.nil_append]; exact h.imp fun g => by omega
  obtain ⟨h1, h2⟩ := dueF_go (js := js) (xs := xs) (acc := []) List.Pairwise.nil hnd
  exact sorted_eq (R := Lex (dueAh js)) (fun a b => Lex.asymm due_weak) h1 (sortB_sorted due_weak h) (h2.trans sortB_perm.symm)
/-! ### timely -/
def timGo (js : List Job) : Int → List Int → Bool
  | _, [] => true
  | now, x :: r => decide (now + (jA js x).t ≤ (jA js x).d) && timGo js (now + (jA js x).t) r
/-- Timely if the greatest lateness is not above 0. -/
theorem tim_lat {js : List Job} (p : Pl js) : ∀ {xs : List Int} {now m : Int}, 0 ≤ now → m ≤ 0 → (timGo js now xs = true ↔ latGo js now m xs ≤ 0)
  | [], now, m, _, hm => by simp [timGo, latGo, hm]
  | x :: r, now, m, h, hm => by
    have := p.t x
    rw [timGo, latGo, p.endAt h, Bool.and_eq_true, decide_eq_true_eq]
    have mono : ∀ {xs : List Int} {now m : Int}, m ≤ latGo js now m xs := by
      intro xs
      induction xs with
      | nil => intro now m; exact Int.le_refl _
      | cons x xs ih =>
        intro now m
        rw [latGo]
        exact Int.le_trans (by omega) ih
    constructor
    · rintro ⟨h1, h2⟩
      exact (tim_lat p (by omega) (by omega)).1 h2
    · intro hl
      have h1 := @mono r (now + (jA js x).t) (max m (now + (jA js x).t - (jA js x).d))
      have h2 : now + (jA js x).t ≤ (jA js x).d := by omega
      exact ⟨h2, (tim_lat p (by omega) (by omega)).2 hl⟩
/-- In any order by dates the same. -/
theorem tim_sorted {js : List Job} (p : Pl js) {xs ys : List Int} (hx : xs.Pairwise fun a b => (jA js a).d ≤ (jA js b).d) (hy : ys.Pairwise fun a b => (jA js a).d ≤ (jA js b).d) (hp : xs.Perm ys) : timGo js 0 xs = timGo js 0 ys := by
  have h1 := lat_best p (m := 0) hx hp.symm
  have h2 := lat_best p (m := 0) hy hp
  have t1 := tim_lat p (xs := xs) (Int.le_refl 0) (Int.le_refl 0)
  have t2 := tim_lat p (xs := ys) (Int.le_refl 0) (Int.le_refl 0)
  rw [Bool.eq_iff_iff, t1, t2]
  omega
end Go.Pm.PP

/- The last end of an order; sets of digits of any length. -/
set_option linter.unusedVariables false
set_option linter.unusedSimpArgs false
namespace Go.Pm.PE
theorem bits_any {c i n : Nat} (h1 : c < 2 ^ i) (h2 : c < 2 ^ n) : bitsL i c = bitsL n c := by
  refine sorted_eq (R := (· < ·)) (fun a b h1 h2 => by omega) bits_asc bits_asc ((List.perm_ext_iff_of_nodup bits_nodup bits_nodup).2 fun x => ?_)
  rw [mem_bits, mem_bits]
  constructor
  · rintro ⟨g1, g2, g3⟩
    have := bit_lt h2 g3
    exact ⟨g1, by omega, g3⟩
  · rintro ⟨g1, g2, g3⟩
    have := bit_lt h1 g3
    exact ⟨g1, by omega, g3⟩
theorem bits_snoc {i c : Nat} : bitsL (i + 1) c = bitsL i c ++ (if c.testBit i = true then [(i : Int)] else []) := by
  unfold bitsL
  rw [List.range'_concat, List.filter_append, List.map_append]
  congr 1
  rw [Nat.zero_add, Nat.one_mul, List.filter_cons]
  split <;> rfl
theorem bits_len {i c : Nat} : (bitsL i c).length ≤ i := by
  unfold bitsL
  rw [List.length_map]
  refine Nat.le_trans (List.length_filter_le ..) ?_
  simp
end Go.Pm.PE
namespace Go.Pm.PP
open Go.Pm Go.Pm.PE
theorem end_order {js : List Job} : ∀ {xs : List Int} {now m : Int} {E : List Int}, inN E.length xs → xs.Nodup → xs.foldl (fun m x => max m (gE (endGo js xs now E) x.toNat)) m = (xs.foldl (fun (p : Int × Int) x => (endAt (jA js x) p.1, max p.2 (endAt (jA js x) p.1))) (now, m)).2
  | [], _, _, _, _, _ => rfl
  | x :: r, now, m, E, hin, hnd => by
    have hx := hin x (List.mem_cons_self ..)
    have hnd := List.nodup_cons.1 hnd
    have h0 : ∀ y, y ∈ r → 0 ≤ y := fun y hy => (hin y (List.mem_cons_of_mem _ hy)).1
    have ih := end_order (js := js) (xs := r) (now := endAt (jA js x) now) (m := max m (endAt (jA js x) now)) (E := E.set x.toNat (endAt (jA js x) now)) (by rw [List.length_set]; exact fun y hy => hin y (List.mem_cons_of_mem _ hy)) hnd.2
    have he : gE (endGo js r (endAt (jA js x) now) (E.set x.toNat (endAt (jA js x) now))) x.toNat = endAt (jA js x) now := by
      rw [end_out h0 (by rw [show ((x.toNat : Nat) : Int) = x by omega]; exact hnd.1), gE_set (by omega), if_pos rfl]
    have e1 : endGo js (x :: r) now E = endGo js r (endAt (jA js x) now) (E.set x.toNat (endAt (jA js x) now)) := rfl
    rw [e1, List.foldl_cons, List.foldl_cons, he]
    exact ih
theorem end_last {js : List Job} (ht : ∀ x, 0 ≤ (jA js x).t) : ∀ {xs : List Int} {now : Int}, (xs.foldl (fun (p : Int × Int) x => (endAt (jA js x) p.1, max p.2 (endAt (jA js x) p.1))) (now, now)).2 = nowGo js now xs
  | [], _ => rfl
  | x :: r, now => by
    have h := ht x
    have h1 : now ≤ endAt (jA js x) now := by unfold endAt; omega
    rw [List.foldl_cons, nowGo]
    simp only
    rw [show max now (endAt (jA js x) now) = endAt (jA js x) now by omega]
    exact end_last ht
theorem valGo_end : ∀ {js : List Job} {es : List Int} {f : Bool} {a : Int}, js.length = es.length → valGo 1 f a js es = (List.range' 0 js.length).foldl (fun m i => max m (gE es i)) a
  | [], [], f, a, _ => by simp [valGo]
  | [], e :: es, f, a, h => by simp at h
  | j :: js, [], f, a, h => by simp at h
  | j :: js, e :: es, f, a, h => by
    rw [valGo, valGo_end (by simpa using h), List.length_cons, List.range'_succ, List.foldl_cons]
    have e1 : List.range' (0 + 1) js.length = (List.range' 0 js.length).map (1 + ·) := by rw [List.map_add_range' (a := 1)]
    rw [e1, List.foldl_map]
    have e2 : stepV 1 f a j e = max a (gE (e :: es) 0) := rfl
    rw [e2]
    exact fold_congr fun i _ m => by simp [gE, Nat.add_comm 1 i]
theorem max_perm {f : Int → Int} {l l' : List Int} (h : l.Perm l') : ∀ {m : Int}, l.foldl (fun m x => max m (f x)) m = l'.foldl (fun m x => max m (f x)) m := by
  induction h with
  | nil => intro m; rfl
  | cons x _ ih => intro m; exact ih
  | swap x y l => intro m; simp only [List.foldl_cons]; congr 1; omega
  | trans _ _ h1 h2 => intro m; rw [h1, h2]
/-- The last end. -/
theorem val_end {js : List Job} {xs : List Int} (ht : ∀ x, 0 ≤ (jA js x).t) (h : Prm js.length xs) : valE 1 js (endsL js xs) = nowGo js 0 xs := by
  have hl : (List.replicate js.length (0 : Int)).length = js.length := by simp
  have e1 := end_order (js := js) (xs := xs) (now := 0) (m := 0) (E := List.replicate js.length 0) (by rw [hl]; exact h.inn) h.nd
  rw [end_last ht] at e1
  rw [← e1, max_perm (f := fun x => gE (endGo js xs 0 (List.replicate js.length 0)) x.toNat) h]
  unfold valE
  rw [valGo_end endsL_len.symm, List.foldl_map]
  rfl
end Go.Pm.PP

/- Ends and values of objectives, by both. -/
set_option linter.unusedVariables false
set_option linter.unusedSimpArgs false
set_option maxRecDepth 4000
set_option maxHeartbeats 8000000
namespace Go.Pm.PP
open Go.Pm Go.Proofs
theorem mx_if (a b : Int) : (if a < b then b else a) = max a b := by rw [Int.max_def]; split <;> split <;> omega
theorem job_of {j : Job} (h : jobOk j = true) : (1 ≤ j.t ∧ j.t ≤ 50) ∧ (0 ≤ j.w ∧ j.w ≤ 50) ∧ (0 ≤ j.r ∧ j.r ≤ 500) ∧ 0 ≤ j.d ∧ j.d ≤ 500 := by
  simp only [jobOk, inB, Bool.and_eq_true, decide_eq_true_eq] at h
  omega
theorem job_at {js : List Job} (h : goodL js = true) {i : Nat} {y : Job} (hy : js[i]? = some y) : jobOk y = true := List.all_eq_true.1 h y (List.mem_of_getElem? hy)
theorem mul_bd {w e : Int} (h1 : 0 ≤ w) (h2 : w ≤ 50) (h3 : 0 ≤ e) (h4 : e ≤ 2 ^ 21) : 0 ≤ w * e ∧ w * e ≤ 50 * 2 ^ 21 := ⟨Int.mul_nonneg h1 h3, Int.mul_le_mul h2 h4 h3 (by omega)⟩
theorem cost_bd {o : Int} {j : Job} {e : Int} (hj : jobOk j = true) (h1 : 0 ≤ e) (h2 : e ≤ 2 ^ 20) : 0 ≤ costV o j e ∧ costV o j e ≤ 2 ^ 27 := by
  obtain ⟨_, hw, _, hd⟩ := job_of hj
  have m1 := mul_bd hw.1 hw.2 h1 (by omega)
  have m2 := mul_bd hw.1 hw.2 (e := max (e - j.d) 0) (by omega) (by omega)
  unfold costV
  split
  · omega
  split
  · omega
  split
  · omega
  split
  · omega
  split
  · omega
  split <;> omega
theorem l2Greatest_run {h : Hp} {o : Int} : Ret P G n_spec_l2Greatest [.int .i64 o] h (.bool ((o == 1) || (o == 4))) h := by
  refine enter_run e_spec_l2Greatest (by simp) ?_
  cases c1 : (o == 1) <;> simp -implicitDefEqProofs [c1]
theorem l2Cost_run {h : Hp} {j : Job} {e o : Int} (hj : jobOk j = true) (h1 : 0 ≤ e) (h2 : e ≤ 2 ^ 20) (ho : 1 ≤ o ∧ o ≤ 8) (ho1 : ¬ o = 1) (ho4 : ¬ o = 4) : Ret P G n_spec_l2Cost [jv j, .int .i64 e, .int .i64 o] h (.int .i64 (costV o j e)) h := by
  refine enter_run e_spec_l2Cost (by simp) ?_
  obtain ⟨_, hw, _, hd⟩ := job_of hj
  have m1 := mul_bd hw.1 hw.2 h1 (by omega)
  have m2 := mul_bd hw.1 hw.2 (e := max (e - j.d) 0) (by omega) (by omega)
  have w1 : IntKind.i64.wrap (e - j.d) = e - j.d := by rw [wrap_ok] <;> omega
  have w2 : IntKind.i64.wrap (j.w * e) = j.w * e := by rw [wrap_ok] <;> omega
  have w3 : IntKind.i64.wrap (j.w * max (e - j.d) 0) = j.w * max (e - j.d) 0 := by rw [wrap_ok] <;> omega
  obtain ⟨L, hL⟩ : ∃ L, L = max (e - j.d) 0 := ⟨_, rfl⟩
  unfold costV
  rw [← hL]
  rw [← hL] at w3
  have lr : ∀ {h : Hp}, Ret P G n_spec_l1Most [.int .i64 (e - j.d), .int .i64 0] h (.int .i64 L) h := fun {h} => by rw [hL]; exact l1Most_run
  have hc : o = 2 ∨ o = 3 ∨ o = 5 ∨ o = 6 ∨ o = 7 ∨ o = 8 := by omega
  rcases hc with rfl | rfl | rfl | rfl | rfl | rfl
  · simp -implicitDefEqProofs [w1, CL_ret lr]
  · simp -implicitDefEqProofs [w1, CL_ret lr, w2]
  · simp -implicitDefEqProofs [w1, CL_ret lr]
  · simp -implicitDefEqProofs [w1, CL_ret lr, w3]
  · by_cases c : L = 0
    · simp -implicitDefEqProofs [w1, CL_ret lr, c]
    · simp -implicitDefEqProofs [w1, CL_ret lr, c, nb c]
  · by_cases c : L = 0
    · simp -implicitDefEqProofs [w1, CL_ret lr, c]
    · simp -implicitDefEqProofs [w1, CL_ret lr, c, nb c]
theorem add_run {h : Hp} {j : Job} {a e o : Int} {f : Bool} (hj : jobOk j = true) (h1 : 0 ≤ e) (h2 : e ≤ 2 ^ 20) (ho : 1 ≤ o ∧ o ≤ 8) (ha : -(2 ^ 50) ≤ a ∧ a ≤ 2 ^ 50) : Ret P G n_impl_add [.int .i64 a, jv j, .int .i64 e, .int .i64 o, .bool f] h (.int .i64 (stepV o f a j e)) h := by
  refine enter_run e_impl_add (by simp) ?_
  obtain ⟨_, hw, _, hd⟩ := job_of hj
  have m1 := mul_bd hw.1 hw.2 h1 (by omega)
  have m2 := mul_bd hw.1 hw.2 (e := max 0 (e - j.d)) (by omega) (by omega)
  have w1 : IntKind.i64.wrap (e - j.d) = e - j.d := by rw [wrap_ok] <;> omega
  have w2 : IntKind.i64.wrap (j.w * e) = j.w * e := by rw [wrap_ok] <;> omega
  have w3 : IntKind.i64.wrap (j.w * max 0 (e - j.d)) = j.w * max 0 (e - j.d) := by rw [wrap_ok] <;> omega
  have w4 : IntKind.i64.wrap (a + e) = a + e := by rw [wrap_ok] <;> omega
  have w5 : IntKind.i64.wrap (a + j.w * e) = a + j.w * e := by rw [wrap_ok] <;> omega
  have w6 : IntKind.i64.wrap (a + max 0 (e - j.d)) = a + max 0 (e - j.d) := by rw [wrap_ok] <;> omega
  have w7 : IntKind.i64.wrap (a + j.w * max 0 (e - j.d)) = a + j.w * max 0 (e - j.d) := by rw [wrap_ok] <;> omega
  have w8 : IntKind.i64.wrap (a + 1) = a + 1 := by rw [wrap_ok] <;> omega
  have w9 : IntKind.i64.wrap (a + j.w) = a + j.w := by rw [wrap_ok] <;> omega
  have mc : max 0 (e - j.d) = max (e - j.d) 0 := Int.max_comm ..
  rw [mc] at w3 w6 w7
  have hc : o = 1 ∨ o = 2 ∨ o = 3 ∨ o = 4 ∨ o = 5 ∨ o = 6 ∨ o = 7 ∨ o = 8 := by omega
  rcases hc with rfl | rfl | rfl | rfl | rfl | rfl | rfl | rfl
  · simp -implicitDefEqProofs [w1, foldI, mx_if, stepV]
  · simp -implicitDefEqProofs [w1, w4, stepV, costV]
  · simp -implicitDefEqProofs [w1, w2, w5, stepV, costV]
  · cases f <;> simp -implicitDefEqProofs [w1, foldI, mx_if, stepV]
  · simp -implicitDefEqProofs [w1, foldI, mx_if, w6, stepV, costV, mc]
  · simp -implicitDefEqProofs [w1, foldI, mx_if, w3, w7, stepV, costV, mc]
  · by_cases c : e - j.d ≤ 0
    · have c' : max (e - j.d) 0 = 0 := by omega
      simp -implicitDefEqProofs [w1, c, stepV, costV, c']
    · have c' : ¬ max (e - j.d) 0 = 0 := by omega
      simp -implicitDefEqProofs [w1, c, w8, stepV, costV, c']
  · by_cases c : e - j.d ≤ 0
    · have c' : max (e - j.d) 0 = 0 := by omega
      simp -implicitDefEqProofs [w1, c, stepV, costV, c']
    · have c' : ¬ max (e - j.d) 0 = 0 := by omega
      simp -implicitDefEqProofs [w1, c, w9, stepV, costV, c']
theorem step_bd {o : Int} {f : Bool} {a : Int} {j : Job} {e : Int} {B : Int} (hj : jobOk j = true) (h1 : 0 ≤ e) (h2 : e ≤ 2 ^ 20) (ha : -B ≤ a ∧ a ≤ B) (hB : 0 ≤ B) : -(B + 2 ^ 27) ≤ stepV o f a j e ∧ stepV o f a j e ≤ B + 2 ^ 27 := by
  have hc := cost_bd (o := o) hj h1 h2
  obtain ⟨_, _, _, hd⟩ := job_of hj
  unfold stepV
  split
  · omega
  · split
    · split <;> omega
    · omega
theorem val_drop {o : Int} {f : Bool} {a : Int} {js : List Job} {es : List Int} {i : Nat} {y : Job} {e : Int} (hy : js[i]? = some y) (he : es[i]? = some e) : valGo o f a (js.drop i) (es.drop i) = valGo o false (stepV o f a y e) (js.drop (i + 1)) (es.drop (i + 1)) := by
  obtain ⟨y', hy', hd⟩ := drop_at (List.getElem?_eq_some_iff.1 hy).1
  obtain ⟨e', he', hd'⟩ := drop_at (List.getElem?_eq_some_iff.1 he).1
  rw [hy] at hy'; cases hy'
  rw [he] at he'; cases he'
  rw [hd, hd', valGo]
theorem l2Of_run {h : Hp} {v u : Value} {js : List Job} {es : List Int} {o : Int} (hj : Jobs h v js) (hu : Ints h u es) (hg : goodL js = true) (hn : js.length ≤ 8) (hl : es.length = js.length) (he : ∀ e, e ∈ es → 0 ≤ e ∧ e ≤ 2 ^ 20) (ho : 1 ≤ o ∧ o ≤ 8) :
    Ret P G n_spec_l2Of [v, u, .int .i64 o] h (.int .i64 (valE o js es)) h := by
  refine enter_run e_spec_l2Of (by simp) ?_
  have hjs := hj
  have hus := hu
  obtain ⟨oj, cj, rfl⟩ := hj.shapeT
  obtain ⟨oa, c, rfl⟩ := hu.shapeT
  simp -implicitDefEqProofs
  refine R_loopO (fun m s h' => ∃ (i : Nat) (a : Int), i + m = js.length ∧ s = [(0, .slice oj js.length cj), (1, .slice oa es.length c), (2, .int .i64 o), (7, .int .i64 a), (8, .int .i64 i)] ∧ h' = h ∧ valE o js es = valGo o (decide (i = 0)) a (js.drop i) (es.drop i) ∧ -((i : Int) * 2 ^ 27) ≤ a ∧ a ≤ (i : Int) * 2 ^ 27 ∧ (i = 0 → a = 0)) (fun I hI m s h' => ?_) ⟨0, 0, Nat.zero_add _, by simp, rfl, rfl, by omega, by omega, fun _ => rfl⟩
  rintro ⟨i, a, hi, rfl, rfl, hx, ha1, ha2, ha0⟩
  by_cases hlt : i < js.length
  · obtain ⟨y, hy, _⟩ := drop_at hlt
    obtain ⟨e, he', _⟩ := drop_at (show i < es.length by omega)
    have hjy := job_at hg hy
    have hey := he e (List.mem_of_getElem? he')
    rw [val_drop hy he'] at hx
    have sb := step_bd (o := o) (f := decide (i = 0)) hjy hey.1 hey.2 ⟨ha1, ha2⟩ (by omega)
    have cb := cost_bd (o := o) hjy hey.1 hey.2
    obtain ⟨_, _, _, hd⟩ := job_of hjy
    have lj := load_J hjs hy
    have le := load_I hus he'
    have wi := winc hlt (show js.length ≤ 2 ^ 40 by omega)
    have go : ∃ k, k < m ∧ I k [(0, .slice oj js.length cj), (1, .slice oa es.length c), (2, .int .i64 o), (7, .int .i64 (stepV o (decide (i = 0)) a y e)), (8, .int .i64 ((i + 1 : Nat) : Int))] h' :=
      ⟨m - 1, by omega, on hI ⟨i + 1, _, by omega, rfl, rfl, by simpa using hx, by omega, by omega, by omega⟩⟩
    by_cases o1 : o = 1
    · subst o1
      have ew : stepV 1 (decide (i = 0)) a y e = if i = 0 then e else max a e := by
        unfold stepV; rw [if_pos rfl]
        split
        · rename_i g; rw [ha0 g]; omega
        · rfl
      rw [ew] at go
      by_cases i0 : i = 0
      · subst i0
        rw [if_pos rfl] at go
        rw [show ((0 : Nat) : Int) = 0 from rfl] at le
        simp -implicitDefEqProofs [-indexAddrP_some, hlt, CL_ret l2Greatest_run, le, wrap_ok]
        simpa using go
      · rw [if_neg i0] at go
        have i0' : ((i : Int) == 0) = false := nb (by omega)
        by_cases c2 : a < e
        · rw [show max a e = e by omega] at go
          simp -implicitDefEqProofs [-indexAddrP_some, hlt, CL_ret l2Greatest_run, le, i0', c2, wi]
          simpa using go
        · rw [show max a e = a by omega] at go
          simp -implicitDefEqProofs [-indexAddrP_some, hlt, CL_ret l2Greatest_run, le, i0', c2, wi]
          simpa using go
    · by_cases o4 : o = 4
      · subst o4
        have we : IntKind.i64.wrap (e - y.d) = e - y.d := by rw [wrap_ok] <;> omega
        have ew : stepV 4 (decide (i = 0)) a y e = if i = 0 then e - y.d else max a (e - y.d) := by
          unfold stepV; rw [if_neg (by decide), if_pos rfl]; simp
        rw [ew] at go
        by_cases i0 : i = 0
        · subst i0
          rw [if_pos rfl] at go
          rw [show ((0 : Nat) : Int) = 0 from rfl] at le lj
          rw [Nat.zero_mul] at lj
          simp -implicitDefEqProofs [-indexAddrP_some, hlt, CL_ret l2Greatest_run, le, lj, we, wrap_ok]
          simpa using go
        · rw [if_neg i0] at go
          have i0' : ((i : Int) == 0) = false := nb (by omega)
          by_cases c2 : a < e - y.d
          · rw [show max a (e - y.d) = e - y.d by omega] at go
            simp -implicitDefEqProofs [-indexAddrP_some, hlt, CL_ret l2Greatest_run, le, lj, we, i0', c2, wi]
            simpa using go
          · rw [show max a (e - y.d) = a by omega] at go
            simp -implicitDefEqProofs [-indexAddrP_some, hlt, CL_ret l2Greatest_run, le, lj, we, i0', c2, wi]
            simpa using go
      · have rc := l2Cost_run (h := h') hjy hey.1 hey.2 ho o1 o4
        have ew : stepV o (decide (i = 0)) a y e = a + costV o y e := by unfold stepV; rw [if_neg o1, if_neg o4]
        rw [ew] at go
        have wa : IntKind.i64.wrap (a + costV o y e) = a + costV o y e := by rw [wrap_ok] <;> omega
        simp -implicitDefEqProofs [-indexAddrP_some, hlt, CL_ret l2Greatest_run, nb o1, nb o4, le, lj, CL_ret rc, CH_at rc, wa, wi]
        simpa using go
  · rw [List.drop_eq_nil_of_le (by omega)] at hx
    have hx' : valE o js es = a := by rw [hx]; simp [valGo]
    simp -implicitDefEqProofs [hlt, hx']
theorem valueOfEnds_run {h : Hp} {v u : Value} {js : List Job} {es : List Int} {o : Int} (hj : Jobs h v js) (hu : Ints h u es) (hg : goodL js = true) (hn : js.length ≤ 8) (hl : es.length = js.length) (he : ∀ e, e ∈ es → 0 ≤ e ∧ e ≤ 2 ^ 20) (ho : 1 ≤ o ∧ o ≤ 8) :
    Ret P G n_impl_valueOfEnds [v, u, .int .i64 o] h (.int .i64 (valE o js es)) h := by
  refine enter_run e_impl_valueOfEnds (by simp) ?_
  have hjs := hj
  have hus := hu
  obtain ⟨oj, cj, rfl⟩ := hj.shapeT
  obtain ⟨oa, c, rfl⟩ := hu.shapeT
  simp -implicitDefEqProofs
  refine R_loopO (fun m s h' => ∃ (i : Nat) (a : Int), i + m = js.length ∧ s = [(1, .slice oa es.length c), (2, .int .i64 o), (7, .int .i64 a), (10, .slice oj js.length cj), (11, .int .i64 js.length), (12, .int .i64 i)] ∧ h <+: h' ∧ valE o js es = valGo o (decide (i = 0)) a (js.drop i) (es.drop i) ∧ -((i : Int) * 2 ^ 27) ≤ a ∧ a ≤ (i : Int) * 2 ^ 27) (fun I hI m s h' => ?_) ⟨0, 0, Nat.zero_add _, by simp, List.prefix_rfl, rfl, by omega, by omega⟩
  rintro ⟨i, a, hi, rfl, hp, hx, ha1, ha2⟩
  by_cases hlt : i < js.length
  · obtain ⟨y, hy, _⟩ := drop_at hlt
    obtain ⟨e, he', _⟩ := drop_at (show i < es.length by omega)
    have hjy := job_at hg hy
    have hey := he e (List.mem_of_getElem? he')
    rw [val_drop hy he'] at hx
    have sb := step_bd (o := o) (f := decide (i = 0)) hjy hey.1 hey.2 ⟨ha1, ha2⟩ (by omega)
    have lj := load_J (hjs.pre hp) hy
    have le := fun l => load_I (hus.pre (hp.trans (List.prefix_append h' l))) he'
    have wi := winc hlt (show js.length ≤ 2 ^ 40 by omega)
    have ra := fun (h : Hp) => add_run (h := h) (a := a) (f := decide (i = 0)) hjy hey.1 hey.2 ho (by omega)
    have hb : ((i : Int) == 0) = decide (i = 0) := by
      by_cases g : i = 0
      · subst g; rfl
      · rw [nb (by omega)]; simp [g]
    simp -implicitDefEqProofs [-indexAddrP_some, hlt, lj, le, hb, CL_ret (ra _), CH_at (ra _), wi]
    exact ⟨m - 1, by omega, on hI ⟨i + 1, _, by omega, rfl, hp.trans (List.prefix_append ..), by simpa using hx, by omega, by omega⟩⟩
  · rw [List.drop_eq_nil_of_le (by omega)] at hx
    have hx' : valE o js es = a := by rw [hx]; simp [valGo]
    simp -implicitDefEqProofs [hlt, hx']
    exact gcP hp rfl
/-! ### ends -/
theorem jA_get {js : List Job} {x : Int} {n : Nat} (hn : n = js.length) (h : 0 ≤ x ∧ x < n) : ∃ k : Nat, x = k ∧ k < js.length ∧ js[k]? = some (jA js x) := by
  obtain ⟨y, hy, _⟩ := drop_at (show x.toNat < js.length by omega)
  exact ⟨x.toNat, by omega, by omega, by rw [hy]; unfold jA; rw [hy]; rfl⟩
theorem l2Starts_run {h : Hp} {v u : Value} {js : List Job} {xs : List Int} (hj : Jobs h v js) (hu : Ints h u xs) (hg : goodL js = true) (hn : js.length ≤ 8) (hl : xs.length ≤ 8) (hin : inN js.length xs) :
    RunsC P G n_spec_l2Starts [v, u] h fun v' h' => h <+: h' ∧ Own h.length h' v' 1 ((stL js xs).map encI) ∧ ∀ e, e ∈ stL js xs → 0 ≤ e ∧ e ≤ 5000 := by
  refine hideC fun K hK => enter_run e_spec_l2Starts (by simp) ?_
  have hjs := hj
  have hus := hu
  obtain ⟨oj, cj, rfl⟩ := hj.shapeT
  obtain ⟨oa, c, rfl⟩ := hu.shapeT
  obtain ⟨vz, h1, mk, H1, hp1, oz, rfl⟩ := make_I (Holds.start (h := h)) (n := js.length) (by omega)
  generalize hX : stL js xs = X at hK
  simp -implicitDefEqProofs [mk]
  refine R_loopO (fun m s h' => ∃ (i : Nat) (now : Int) (S : List Int), i + m = xs.length ∧ s = [(0, .slice oj js.length cj), (1, .slice oa xs.length c), (5, .slice oz js.length js.length), (6, .int .i64 now), (7, .int .i64 i)] ∧
    Holds h h' [.own (.slice oz js.length js.length) 1 (S.map encI)] ∧ X = stGo js (xs.drop i) now S ∧ S.length = js.length ∧ 0 ≤ now ∧ now ≤ 550 * i ∧ ∀ e, e ∈ S → 0 ≤ e ∧ e ≤ 5000) (fun I hI m s h' => ?_) ⟨0, 0, List.replicate js.length 0, Nat.zero_add _, by simp, H1, hX.symm, by simp, by omega, by omega, fun e he => by rw [List.eq_of_mem_replicate he]; omega⟩
  rintro ⟨i, now, S, hi, rfl, H, hx, hS, n0, n1, hSe⟩
  by_cases hlt : i < xs.length
  · obtain ⟨x, hxx, hd⟩ := drop_at hlt
    rw [hd, stGo] at hx
    obtain ⟨k, hk, hkl, hky⟩ := jA_get rfl (hin x (List.mem_of_getElem? hxx))
    have jb := job_of (job_at hg hky)
    generalize hJ : jA js x = y at hx hky jb
    subst hk
    rw [Int.toNat_natCast] at hx
    have lx := load_I (hus.pre H.pre) hxx
    have ly := load_J (hjs.pre H.pre) hky
    obtain ⟨M, hM⟩ : ∃ M, M = max now y.r := ⟨_, rfl⟩
    rw [← hM] at hx
    have lm : ∀ {h : Hp}, Ret P G n_spec_l1Most [.int .i64 now, .int .i64 y.r] h (.int .i64 M) h := fun {h} => by rw [hM]; exact l1Most_run
    have ix := (load_I (H.sees 0 rfl) (gE_get (l := S) (i := k) (by omega))).1
    obtain ⟨h2, s2, H2, _⟩ := put_I H 0 rfl (j := k) (by omega) M
    have lx2 := load_I (hus.pre H2.pre) hxx
    have ly2 := load_J (hjs.pre H2.pre) hky
    have lS := load_I (H2.sees 0 rfl) (i := k) (x := M) (List.getElem?_set_self (by omega))
    have wM : IntKind.i64.wrap (M + y.t) = M + y.t := by rw [wrap_ok] <;> omega
    simp -implicitDefEqProofs [-indexAddrP_some, hlt, lx, ly, CL_ret lm, CH_at lm, ix, s2, lx2, ly2, lS, wM, winc hlt (by omega)]
    refine ⟨m - 1, by omega, on hI ⟨i + 1, M + y.t, S.set k M, by omega, rfl, H2, hx, by rw [List.length_set]; exact hS, by omega, by omega, fun e he => ?_⟩⟩
    rcases List.mem_or_eq_of_mem_set he with g | g
    · exact hSe e g
    · omega
  · rw [List.drop_eq_nil_of_le (by omega), stGo] at hx
    subst hx
    simp -implicitDefEqProofs [hlt]
    exact onK hK ⟨(H.ret 0 rfl).1, (H.ret 0 rfl).2, hSe⟩
theorem l2Ends_run {h : Hp} {v u : Value} {js : List Job} {xs : List Int} (hj : Jobs h v js) (hu : Ints h u xs) (hg : goodL js = true) (hn : js.length ≤ 8) (hl : xs.length ≤ 8) (hin : inN js.length xs) (hnd : xs.Nodup) (hall : ∀ i : Nat, i < js.length → (i : Int) ∈ xs) :
    RunsC P G n_spec_l2Ends [v, u] h fun v' h' => h <+: h' ∧ Own h.length h' v' 1 ((endsL js xs).map encI) ∧ ∀ e, e ∈ endsL js xs → 0 ≤ e ∧ e ≤ 5050 := by
  refine hideC fun K hK => enter_run e_spec_l2Ends (by simp) ?_
  have hjs := hj
  obtain ⟨oj, cj, rfl⟩ := hj.shapeT
  simp -implicitDefEqProofs
  refine CL_post (l2Starts_run hjs hu hg hn hl hin) fun v1 h1 ⟨hp1, ho1, hb1⟩ => ?_
  have H1 := (Holds.start (h := h)).call hp1 ho1
  have hsl : (stL js xs).length = js.length := stL_len
  obtain ⟨o1, c1, rfl⟩ : ∃ a c, v1 = .slice a js.length c := by obtain ⟨a, c, e⟩ := ho1.sees.shapeT; exact ⟨a, c, by rw [e, hsl]⟩
  have heq : ∀ i : Nat, i < js.length → gE (endsL js xs) i = gE (stL js xs) i + (jA js i).t := fun i hi => ends_eq hin hnd hall hi
  have hel : (endsL js xs).length = js.length := endsL_len
  generalize endsL js xs = X at hK heq hel
  generalize stL js xs = S0 at H1 hsl heq hb1
  simp -implicitDefEqProofs
  refine R_loopO (fun m s h' => ∃ (i : Nat) (E : List Int), i + m = js.length ∧ s = [(0, .slice oj js.length cj), (5, .slice o1 js.length c1), (6, .int .i64 i)] ∧ Holds h h' [.own (.slice o1 js.length c1) 1 (E.map encI)] ∧ E.length = js.length ∧
    (∀ k : Nat, k < js.length → gE E k = if k < i then gE X k else gE S0 k)) (fun I hI m s h' => ?_) ⟨0, S0, Nat.zero_add _, by simp, H1, hsl, fun k hk => by rw [if_neg (by omega)]⟩
  rintro ⟨i, E, hi, rfl, H, hE, hk⟩
  have gX : ∀ k : Nat, k < js.length → 0 ≤ gE S0 k ∧ gE S0 k ≤ 5000 := fun k hk => hb1 _ (List.mem_of_getElem? (gE_get (by omega)))
  by_cases hlt : i < js.length
  · obtain ⟨y, hy, _⟩ := drop_at hlt
    have jb := job_of (job_at hg hy)
    have ly := load_J (hjs.pre H.pre) hy
    have e0 : gE E i = gE S0 i := by rw [hk i hlt, if_neg (by omega)]
    have eX : gE X i = gE S0 i + y.t := by
      rw [heq i hlt]
      unfold jA
      rw [Int.toNat_natCast, hy]; rfl
    have lE := load_I (H.sees 0 rfl) (gE_get (l := E) (i := i) (by omega))
    rw [e0] at lE
    have b0 := gX i hlt
    have w1 : IntKind.i64.wrap (gE S0 i + y.t) = gE S0 i + y.t := by rw [wrap_ok] <;> omega
    obtain ⟨h2, s2, H2, _⟩ := put_I H 0 rfl (j := i) (by omega) (gE S0 i + y.t)
    simp -implicitDefEqProofs [-indexAddrP_some, hlt, lE, ly, w1, s2, winc hlt (by omega)]
    refine ⟨m - 1, by omega, on hI ⟨i + 1, _, by omega, rfl, H2, by rw [List.length_set]; exact hE, fun k hkl => ?_⟩⟩
    rw [gE_set (by omega)]
    by_cases g : k = i
    · subst g; rw [if_pos rfl, if_pos (by omega), eX]
    · rw [if_neg g, hk k hkl]
      by_cases g2 : k < i
      · rw [if_pos g2, if_pos (by omega)]
      · rw [if_neg g2, if_neg (by omega)]
  · have hEX : E = X := by
      apply List.ext_getElem?
      intro k
      rcases Nat.lt_or_ge k js.length with g | g
      · have := hk k g
        rw [if_pos (by omega)] at this
        rw [gE_get (by omega), gE_get (by omega), this]
      · rw [List.getElem?_eq_none (by omega), List.getElem?_eq_none (by omega)]
    subst hEX
    simp -implicitDefEqProofs [hlt]
    refine onK hK ⟨(H.ret 0 rfl).1, (H.ret 0 rfl).2, fun e he => ?_⟩
    obtain ⟨k, hk'⟩ := List.getElem?_of_mem he
    have hkl : k < js.length := by rw [← hE]; exact (List.getElem?_eq_some_iff.1 hk').1
    have h1 := heq k hkl
    obtain ⟨y, hy, _⟩ := drop_at hkl
    have jb := job_of (job_at hg hy)
    unfold jA at h1
    rw [Int.toNat_natCast, hy, Option.getD_some] at h1
    have h2 : gE E k = e := by unfold gE; rw [hk']; rfl
    have h3 := gX k hkl
    omega
theorem endsOf_run {h : Hp} {v u : Value} {js : List Job} {xs : List Int} (hj : Jobs h v js) (hu : Ints h u xs) (hg : goodL js = true) (hn : js.length ≤ 8) (hl : xs.length ≤ 8) (hin : inN js.length xs) :
    RunsC P G n_impl_endsOf [v, u] h fun v' h' => h <+: h' ∧ Own h.length h' v' 1 ((endsL js xs).map encI) ∧ ∀ e, e ∈ endsL js xs → 0 ≤ e ∧ e ≤ 5050 := by
  refine hideC fun K hK => enter_run e_impl_endsOf (by simp) ?_
  have hjs := hj
  have hus := hu
  obtain ⟨oj, cj, rfl⟩ := hj.shapeT
  obtain ⟨oa, c, rfl⟩ := hu.shapeT
  obtain ⟨vz, h1, mk, H1, hp1, oz, rfl⟩ := make_I (Holds.start (h := h)) (n := js.length) (by omega)
  generalize hX : endsL js xs = X at hK
  simp -implicitDefEqProofs [mk]
  refine R_loopO (fun m s h' => ∃ (i : Nat) (now : Int) (S : List Int), i + m = xs.length ∧ s = [(0, .slice oj js.length cj), (5, .slice oz js.length js.length), (6, .int .i64 now), (12, .slice oa xs.length c), (13, .int .i64 xs.length), (14, .int .i64 i)] ∧
    Holds h h' [.own (.slice oz js.length js.length) 1 (S.map encI)] ∧ X = endGo js (xs.drop i) now S ∧ S.length = js.length ∧ 0 ≤ now ∧ now ≤ 550 * i ∧ ∀ e, e ∈ S → 0 ≤ e ∧ e ≤ 5050) (fun I hI m s h' => ?_) ⟨0, 0, List.replicate js.length 0, Nat.zero_add _, by simp, H1, hX.symm, by simp, by omega, by omega, fun e he => by rw [List.eq_of_mem_replicate he]; omega⟩
  rintro ⟨i, now, S, hi, rfl, H, hx, hS, n0, n1, hSe⟩
  by_cases hlt : i < xs.length
  · obtain ⟨x, hxx, hd⟩ := drop_at hlt
    rw [hd, endGo] at hx
    obtain ⟨k, hk, hkl, hky⟩ := jA_get rfl (hin x (List.mem_of_getElem? hxx))
    have jb := job_of (job_at hg hky)
    generalize hJ : jA js x = y at hx hky jb
    subst hk
    rw [Int.toNat_natCast] at hx
    have lx := load_I (hus.pre H.pre) hxx
    have ly := load_J (hjs.pre H.pre) hky
    have ix := (load_I (H.sees 0 rfl) (gE_get (l := S) (i := k) (by omega))).1
    obtain ⟨h2, s2, H2, _⟩ := put_I H 0 rfl (j := k) (by omega) (max now y.r + y.t)
    have wM : IntKind.i64.wrap (max now y.r + y.t) = max now y.r + y.t := by rw [wrap_ok] <;> omega
    simp -implicitDefEqProofs [-indexAddrP_some, hlt, lx, ly, foldI, mx_if, wM, ix, s2, winc hlt (by omega)]
    refine ⟨m - 1, by omega, on hI ⟨i + 1, _, _, by omega, rfl, H2, hx, by rw [List.length_set]; exact hS, by omega, by omega, fun e he => ?_⟩⟩
    rcases List.mem_or_eq_of_mem_set he with g | g
    · exact hSe e g
    · omega
  · rw [List.drop_eq_nil_of_le (by omega), endGo] at hx
    subst hx
    simp -implicitDefEqProofs [hlt]
    exact onK hK ⟨(H.ret 0 rfl).1, (H.ret 0 rfl).2, hSe⟩
end Go.Pm.PP

/- The next order of a list, in place. -/
set_option linter.unusedVariables false
set_option linter.unusedSimpArgs false
set_option maxRecDepth 4000
set_option maxHeartbeats 4000000
namespace Go.Pm.PE
theorem next_pre {pre r r' : List Int} (h : nextP r = some r') : nextP (pre ++ r) = some (pre ++ r') := by
  induction pre with
  | nil => exact h
  | cons z pre ih => rw [List.cons_append, nextP, ih]; rfl
/-- A list whose p outermost elements on both sides are turned round. -/
def revP (p : Nat) (t : List Int) : List Int := (List.range t.length).map fun j => if j < p ∨ t.length - p ≤ j then t[t.length - 1 - j]?.getD 0 else t[j]?.getD 0
theorem revP_len {p : Nat} {t : List Int} : (revP p t).length = t.length := by simp [revP]
theorem revP_get {p : Nat} {t : List Int} {j : Nat} (hj : j < t.length) : (revP p t)[j]? = some (if j < p ∨ t.length - p ≤ j then t[t.length - 1 - j]?.getD 0 else t[j]?.getD 0) := by simp [revP, hj]
theorem revP_zero {t : List Int} : revP 0 t = t := by
  apply List.ext_getElem?
  intro j
  rcases Nat.lt_or_ge j t.length with h | h
  · rw [revP_get h, if_neg (by omega), List.getElem?_eq_getElem h]; rfl
  · rw [List.getElem?_eq_none (by rw [revP_len]; omega), List.getElem?_eq_none h]
theorem revP_end {p : Nat} {t : List Int} (h : t.length ≤ 2 * p + 1) : revP p t = t.reverse := by
  apply List.ext_getElem?
  intro j
  rcases Nat.lt_or_ge j t.length with hj | hj
  · rw [revP_get hj, List.getElem?_reverse hj]
    by_cases c : j < p ∨ t.length - p ≤ j
    · rw [if_pos c, List.getElem?_eq_getElem (by omega)]; rfl
    · rw [if_neg c, List.getElem?_eq_getElem hj, show t.length - 1 - j = j by omega, List.getElem?_eq_getElem hj]; rfl
  · rw [List.getElem?_eq_none (by rw [revP_len]; omega), List.getElem?_eq_none (by simpa using hj)]
theorem revP_step {p : Nat} {t : List Int} {x y : Int} (h : 2 * p + 1 < t.length) (hx : t[p]? = some x) (hy : t[t.length - 1 - p]? = some y) : ((revP p t).set p y).set (t.length - 1 - p) x = revP (p + 1) t := by
  apply List.ext_getElem?
  intro j
  rcases Nat.lt_or_ge j t.length with hj | hj
  · rw [revP_get hj, List.getElem?_set]
    by_cases c1 : t.length - 1 - p = j
    · rw [if_pos c1, if_pos (by rw [List.length_set, revP_len]; omega), if_pos (by omega), ← c1, show t.length - 1 - (t.length - 1 - p) = p by omega, hx]; rfl
    · rw [if_neg c1, List.getElem?_set]
      by_cases c2 : p = j
      · rw [if_pos c2, if_pos (by rw [revP_len]; omega), if_pos (by omega), ← c2, hy]; rfl
      · rw [if_neg c2, revP_get hj]
        by_cases c3 : j < p ∨ t.length - p ≤ j
        · rw [if_pos c3, if_pos (by omega)]
        · rw [if_neg c3, if_neg (by omega)]
  · rw [List.getElem?_eq_none (by simp [revP_len]; omega), List.getElem?_eq_none (by rw [revP_len]; omega)]
/-- What the program finds: from the end, the first that is less than the one behind it; the last one greater than this. -/
theorem next_at {xs pre b a : List Int} {x y : Int} (h : xs = pre ++ x :: (a ++ y :: b)) (hd : (a ++ y :: b).Pairwise (· > ·)) (hb : ∀ z, z ∈ b → ¬ x < z) (hy : x < y) : nextP xs = some (pre ++ y :: (a ++ x :: b).reverse) := by
  rw [h]
  refine next_pre ?_
  rw [nextP, desc_next hd, swapL_some hb hy]
end Go.Pm.PE
namespace Go.Pm.PP
open Go.Pm Go.Proofs Go.Pm.PE
theorem keeps_gc {v u : Value} {h h' : Hp} (k : Keeps (rowV v) h h') : Keeps (rowV v) h (gc h h' u) := by
  rcases gc_cases' h h' u with g | ⟨_, g⟩ <;> rw [g]
  · exact k
  · exact .ofPre List.prefix_rfl
theorem nextOrder_run {h0 h : Hp} {v : Value} {xs : List Int} (H0 : Holds h0 h [.own v 1 (xs.map encI)]) (hn : xs.length ≤ 2 ^ 20) (nd : xs.Nodup) :
    RunsC P G n_impl_nextOrder [v] h fun r h' => r = .bool (nextP xs).isSome ∧ Own h0.length h' v 1 (((nextP xs).getD xs).map encI) ∧ Keeps (rowV v) h h' := by
  refine hideC fun K hK => enter_run e_impl_nextOrder (by simp) ?_
  have Hs := H0.sees 0 rfl
  obtain ⟨oa, c, ev⟩ := Hs.shapeT
  subst ev
  have w2 : IntKind.i64.wrap ((xs.length : Int) - 2) = (xs.length : Int) - 2 := by rw [wrap_ok] <;> omega
  have lt_of : ∀ {i j : Nat} {a b : Int}, xs[i]? = some a → xs[j]? = some b → i ≠ j → a ≠ b := fun {i j a b} h1 h2 hne e => by
    subst e
    obtain ⟨g1, e1⟩ := List.getElem?_eq_some_iff.1 h1
    obtain ⟨g2, e2⟩ := List.getElem?_eq_some_iff.1 h2
    exact hne ((List.getElem_inj nd).1 (e1.trans e2.symm))
  simp -implicitDefEqProofs [w2]
  -- from the end
  refine R_loopO (fun m s h' => ((m : Int) ≤ xs.length - 1 ∨ m = 0) ∧ s = [(0, .slice oa xs.length c), (3, .int .i64 (if xs.length = 0 then -2 else (m : Int) - 1))] ∧ h' = h ∧ (xs.drop m).Pairwise (· > ·)) (fun I hI m s h' => ?_) (n := xs.length - 1)
    ⟨by omega, by
      rw [show (if xs.length = 0 then (-2 : Int) else ((xs.length - 1 : Nat) : Int) - 1) = (xs.length : Int) - 2 by split <;> omega]
      simp [w2], rfl, by
      rcases Nat.eq_zero_or_pos xs.length with g | g
      · rw [List.eq_nil_of_length_eq_zero g]; simp
      · obtain ⟨z, hz, hd⟩ := drop_at (show xs.length - 1 < xs.length by omega)
        rw [hd, List.drop_eq_nil_of_le (by omega)]; simp⟩
  rintro ⟨hm, rfl, rfl, hd⟩
  rcases Nat.eq_zero_or_pos m with m0 | m0
  · -- none
    subst m0
    have hnone : nextP xs = none := desc_next (by simpa using hd)
    rw [hnone] at hK
    have i0 : (if xs.length = 0 then (-2 : Int) else ((0 : Nat) : Int) - 1) < 0 := by split <;> omega
    generalize (if xs.length = 0 then (-2 : Int) else ((0 : Nat) : Int) - 1) = iv at i0 ⊢
    have i1 : ¬ 0 ≤ iv := by omega
    simp -implicitDefEqProofs [i0, i1]
    exact onK hK ⟨rfl, H0.own 0 rfl, .ofPre List.prefix_rfl⟩
  · obtain ⟨q, rfl⟩ : ∃ q, m = q + 1 := ⟨m - 1, by omega⟩
    have hql : q + 1 < xs.length := by omega
    rw [if_neg (by omega), show ((q + 1 : Nat) : Int) - 1 = (q : Int) by omega]
    obtain ⟨x, hx, hdx⟩ := drop_at (show q < xs.length by omega)
    obtain ⟨x1, hx1, hdx1⟩ := drop_at hql
    have lx := load_I Hs hx
    have lx1 := load_I Hs hx1
    have q0 : (0 : Int) ≤ (q : Int) := by omega
    have wq := winc (show q < xs.length by omega) (by omega)
    have wd : IntKind.i64.wrap ((q : Int) - 1) = (q : Int) - 1 := by rw [wrap_ok] <;> omega
    rw [show ((q + 1 : Nat) : Int) = (q : Int) + 1 from rfl] at lx1 wq
    by_cases c1 : x1 < x
    · simp -implicitDefEqProofs [-indexAddrP_some, q0, lx, lx1, wq, wd, c1]
      refine ⟨q, by omega, on hI ⟨by omega, ?_, rfl, ?_⟩⟩
      · rw [if_neg (by omega)]
      · rw [hdx]
        refine List.pairwise_cons.2 ⟨fun z hz => ?_, hd⟩
        rw [hdx1] at hz hd
        rcases List.mem_cons.1 hz with rfl | hz
        · exact c1
        · have := (List.pairwise_cons.1 hd).1 z hz; omega
    · have hlt : x < x1 := by have := lt_of hx hx1 (by omega); omega
      have nq0 : ¬ (q : Int) < 0 := by omega
      have w1 : IntKind.i64.wrap ((xs.length : Int) - 1) = (xs.length : Int) - 1 := by rw [wrap_ok] <;> omega
      simp -implicitDefEqProofs [-indexAddrP_some, q0, lx, lx1, wq, c1, nq0, w1]
      -- the last one greater
      refine R_loopO (fun m s h2 => q + 1 ≤ m ∧ m < xs.length ∧ s = [(0, .slice oa xs.length c), (3, .int .i64 q), (4, .int .i64 m)] ∧ h2 = h' ∧ ∀ z, z ∈ xs.drop (m + 1) → ¬ x < z) (fun I2 hI2 m s h2 => ?_) (n := xs.length - 1)
        ⟨by omega, by omega, by simp; omega, rfl, fun z hz => by rw [List.drop_eq_nil_of_le (by omega)] at hz; cases hz⟩
      rintro ⟨hm1, hm2, rfl, rfl, hgt⟩
      obtain ⟨y, hy, hdy⟩ := drop_at hm2
      have ly := load_I Hs hy
      have hne := lt_of hx hy (by omega)
      by_cases c2 : y < x
      · have hmq : q + 1 ≠ m := fun e => by subst e; rw [hx1] at hy; cases hy; omega
        have wm : IntKind.i64.wrap ((m : Int) - 1) = ((m - 1 : Nat) : Int) := by rw [wrap_ok] <;> omega
        simp -implicitDefEqProofs [-indexAddrP_some, lx, ly, c2, wm]
        refine ⟨m - 1, by omega, on hI2 ⟨by omega, by omega, rfl, rfl, fun z hz => ?_⟩⟩
        rw [show m - 1 + 1 = m by omega, hdy] at hz
        rcases List.mem_cons.1 hz with rfl | hz
        · omega
        · exact hgt z hz
      · have hxy : x < y := by omega
        -- the change
        obtain ⟨a, ha⟩ : ∃ a, a = (xs.drop (q + 1)).take (m - (q + 1)) := ⟨_, rfl⟩
        obtain ⟨b, hb⟩ : ∃ b, b = xs.drop (m + 1) := ⟨_, rfl⟩
        have hal : a.length = m - (q + 1) := by rw [ha]; simp; omega
        have e1 : xs.drop (q + 1) = a ++ y :: b := by
          have := List.take_append_drop (m - (q + 1)) (xs.drop (q + 1))
          rw [List.drop_drop, show q + 1 + (m - (q + 1)) = m by omega, hdy] at this
          rw [ha, hb]; exact this.symm
        have e2 : xs = xs.take q ++ x :: (a ++ y :: b) := by
          conv => lhs; rw [← List.take_append_drop q xs, hdx, e1]
        have hres : nextP xs = some (xs.take q ++ y :: (a ++ x :: b).reverse) := next_at e2 (by rw [← e1]; exact hd) (by rw [hb]; exact hgt) hxy
        rw [hres] at hK
        have htq : (xs.take q).length = q := by simp; omega
        have htl : (a ++ x :: b).length = xs.length - (q + 1) := by
          have := congrArg List.length e1
          simp only [List.length_append, List.length_cons, List.length_drop] at this ⊢
          omega
        obtain ⟨h3, s3, H3, k3⟩ := put_I H0 0 rfl (j := q) (by omega) y
        have ixm : indexAddrP P h3 t_S_int (.slice oa xs.length c) (.int .i64 m) = some (.pointer (some (addP (base (.slice oa xs.length c)) m))) := by
          obtain ⟨z, hz, _⟩ := drop_at (show m < (xs.set q y).length by simpa using hm2)
          exact (load_I (H3.sees 0 rfl) hz).1
        obtain ⟨h4, s4, H4, k4⟩ := put_I H3 0 rfl (j := m) (by simpa using hm2) x
        have e3 : (xs.set q y).set m x = xs.take q ++ y :: (a ++ x :: b) := by
          conv => lhs; rw [e2]
          rw [List.set_append_right (h := by omega), htq, Nat.sub_self, List.set_cons_zero, List.set_append_right (h := by omega), htq]
          rw [show m - q = (m - (q + 1)) + 1 by omega, List.set_cons_succ, List.set_append_right (h := by omega), hal, Nat.sub_self, List.set_cons_zero]
        simp only [List.set_cons_zero] at H4
        rw [e3] at H4
        have wm : IntKind.i64.wrap ((xs.length : Int) - 1) = (xs.length : Int) - 1 := by rw [wrap_ok] <;> omega
        simp -implicitDefEqProofs [-indexAddrP_some, lx, ly, c2, s3, ixm, s4, wq, wm]
        -- turning round
        generalize ht : a ++ x :: b = t at hres hK htl H4
        refine R_loopO (fun n s h5 => ∃ p : Nat, 2 * p ≤ t.length + 1 ∧ n = t.length + 1 - 2 * p ∧ s = [(0, .slice oa xs.length c), (5, .int .i64 (q + 1 + p : Nat)), (6, .int .i64 ((xs.length : Int) - 1 - p))] ∧ Keeps (rowV (.slice oa xs.length c)) h2 h5 ∧
          Holds h0 h5 [.own (.slice oa xs.length c) 1 ((xs.take q ++ y :: revP p t).map encI)]) (fun I3 hI3 n s h5 => ?_) (n := t.length + 1)
          ⟨0, by omega, by omega, by simp, k3.trans k4, by rw [revP_zero]; exact H4⟩
        rintro ⟨p, hp, rfl, rfl, k5, H5⟩
        have hrl : (revP p t).length = t.length := revP_len
        by_cases hlt2 : 2 * p + 1 < t.length
        · obtain ⟨u, hu, _⟩ := drop_at (show p < t.length by omega)
          obtain ⟨w, hw, _⟩ := drop_at (show t.length - 1 - p < t.length by omega)
          have gu : (revP p t)[p]? = some u := by rw [revP_get (by omega), if_neg (by omega), hu]; rfl
          have gw : (revP p t)[t.length - 1 - p]? = some w := by rw [revP_get (by omega), if_neg (by omega), hw]; rfl
          have gu' : (xs.take q ++ y :: revP p t)[q + 1 + p]? = some u := by
            rw [List.getElem?_append_right (by omega), htq, show q + 1 + p - q = p + 1 by omega, List.getElem?_cons_succ]; exact gu
          have gw' : (xs.take q ++ y :: revP p t)[q + 1 + (t.length - 1 - p)]? = some w := by
            rw [List.getElem?_append_right (by omega), htq, show q + 1 + (t.length - 1 - p) - q = (t.length - 1 - p) + 1 by omega, List.getElem?_cons_succ]; exact gw
          have lu := load_I (H5.sees 0 rfl) gu'
          have lw := load_I (H5.sees 0 rfl) gw'
          have eb : ((xs.length : Int) - 1 - p) = ((q + 1 + (t.length - 1 - p) : Nat) : Int) := by omega
          rw [eb]
          have hlt3 : ((q + 1 + p : Nat) : Int) < ((q + 1 + (t.length - 1 - p) : Nat) : Int) := by omega
          have hll : (xs.take q ++ y :: revP p t).length = xs.length := by rw [List.length_append, List.length_cons, hrl, htq]; omega
          obtain ⟨h6, s6, H6, k6⟩ := put_I H5 0 rfl (j := q + 1 + p) (by rw [hll]; omega) w
          have ix6 : indexAddrP P h6 t_S_int (.slice oa xs.length c) (.int .i64 (q + 1 + (t.length - 1 - p) : Nat)) = some (.pointer (some (addP (base (.slice oa xs.length c)) (q + 1 + (t.length - 1 - p))))) := by
            obtain ⟨z, hz, _⟩ := drop_at (show q + 1 + (t.length - 1 - p) < ((xs.take q ++ y :: revP p t).set (q + 1 + p) w).length by rw [List.length_set, hll]; omega)
            exact (load_I (H6.sees 0 rfl) hz).1
          obtain ⟨h7, s7, H7, k7⟩ := put_I H6 0 rfl (j := q + 1 + (t.length - 1 - p)) (by rw [List.length_set, hll]; omega) u
          simp only [List.set_cons_zero] at H7
          have e4 : ((xs.take q ++ y :: revP p t).set (q + 1 + p) w).set (q + 1 + (t.length - 1 - p)) u = xs.take q ++ y :: revP (p + 1) t := by
            rw [List.set_append_right (h := by omega), htq, show q + 1 + p - q = p + 1 by omega, List.set_cons_succ, List.set_append_right (h := by omega), htq, show q + 1 + (t.length - 1 - p) - q = (t.length - 1 - p) + 1 by omega, List.set_cons_succ, revP_step hlt2 hu hw]
          rw [e4] at H7
          obtain ⟨A, hA⟩ : ∃ A : Nat, A = q + 1 + p := ⟨_, rfl⟩
          obtain ⟨B, hB⟩ : ∃ B : Nat, B = q + 1 + (t.length - 1 - p) := ⟨_, rfl⟩
          rw [← hA, ← hB] at hlt3
          rw [← hA] at lu s6
          rw [← hB] at lw ix6 s7
          rw [← hA, ← hB]
          have hltN : A < B := by omega
          have wA := winc (show A < xs.length by omega) (by omega)
          have wB : IntKind.i64.wrap ((B : Int) - 1) = (B : Int) - 1 := by rw [wrap_ok] <;> omega
          simp -implicitDefEqProofs [-indexAddrP_some, hltN, lu, lw, s6, ix6, s7, wA, wB]
          refine ⟨t.length + 1 - 2 * (p + 1), by omega, on hI3 ⟨p + 1, by omega, rfl, ?_, k5.trans (k6.trans k7), H7⟩⟩
          simp; omega
        · rw [revP_end (by omega)] at H5
          have hnl : ¬ ((q : Int) + 1 + (p : Int)) < (xs.length : Int) - 1 - p := by omega
          simp -implicitDefEqProofs [hnl]
          refine onK hK ⟨rfl, ?_, keeps_gc k5⟩
          rw [Option.getD_some]
          exact (Holds.gcR H0 H5 rfl).own 0 rfl
end Go.Pm.PP

/- What is seen stands where a box is written; what may be written in a head; numbers up to n. -/
set_option linter.unusedVariables false
set_option linter.unusedSimpArgs false
set_option maxRecDepth 4000
set_option maxHeartbeats 4000000
namespace Go.Pm.PP
open Go.Pm Go.Proofs
theorem Sees.boxK {h h' : Hp} {v : Value} {sz r : Nat} {els : List (List Value)} {cs : List Value} {ro : Bool} (s : Sees h v sz els) (hz : 0 < sz) (hb : h[r]? = some (some ⟨cs, 0, ro⟩)) (k : Keeps (some r) h h') : Sees h' v sz els := by
  refine Go.Pm.Sees.keeps s k fun j hj hv => ?_
  cases hj
  obtain ⟨_, oa, c, rfl, h3⟩ := s
  rcases h3 with ⟨rfl, _, _⟩ | ⟨r', o, x, rfl, h5, h6, _⟩
  · cases hv
  · cases hv
    rw [hb] at h5
    cases h5
    have h7 : (0 : Nat) = sz := h6
    omega
theorem nr_mod {b : Nat} {h h' : Hp} (n : NR b h') (m : NR h.length h') (hp : h.take b <+: h') : modOk b h h' := ⟨m.1, hp, by
  rw [List.all_eq_true]
  intro x hx
  cases x with
  | none => rfl
  | some x =>
    obtain ⟨k, hk⟩ := List.getElem?_of_mem hx
    rw [List.getElem?_drop] at hk
    simp [n.2 _ x (by omega) hk]⟩
theorem nr_self {h : Hp} : NR h.length h := ⟨Nat.le_refl _, fun r x hr hx => by rw [List.getElem?_eq_none hr] at hx; cases hx⟩
theorem app_mod {b : Nat} {h h1 h' : Hp} {t : TypeId} {s x v : Value} (hb : h.length = b) (n : NR b h1) (e : appendP P h1 t s x = some (v, h')) (hp : h <+: h1) (hp' : h <+: h') : modOk b h1 h' :=
  nr_mod (append_nr n e) (append_nr nr_self e) (by
    subst hb
    obtain ⟨l, rfl⟩ := hp
    rw [List.take_left' rfl]
    exact hp')
end Go.Pm.PP
namespace Go.Pm
theorem Holds.one {h0 h : Hp} {L : List Asn} {A : Asn} (H : Holds h0 h L) (i : Nat) (hi : L[i]? = some A) : Holds h0 h [A] :=
  H.sub (fun _ => i) (fun j B hB => by
    match j, hB with
    | 0, hB => cases hB; exact hi
    | j + 1, hB => cases hB) fun j k B C hB hC _ => by
    match j, k, hB, hC with
    | 0, 0, _, _ => rfl
    | j + 1, _, hB, _ => cases hB
    | _, k + 1, _, hC => cases hC
end Go.Pm

/- The best order of jobs: the reference's search. -/
set_option linter.unusedVariables false
set_option linter.unusedSimpArgs false
set_option maxRecDepth 4000
set_option maxHeartbeats 8000000
namespace Go.Pm.PP
open Go.Pm Go.Proofs Go.Pm.PE
/-- What a search has found. -/
structure Sr where
  o : List Int
  v : Int
  c : Int
def valX (o : Int) (js : List Job) (xs : List Int) : Int := valE o js (endsL js xs)
def updS (f : List Int → Int) (b : Sr) (xs : List Int) : Sr := if b.c = 0 ∨ f xs < b.v then ⟨xs, f xs, 1⟩ else if f xs = b.v then ⟨b.o, b.v, w64 (b.c + 1)⟩ else b
theorem Sees.gcU {h0 h : Hp} {v u : Value} {sz : Nat} {els : List (List Value)} (s : Sees h v sz els) (hu : plain u = true → plainC v = true) : Sees (gc h0 h u) v sz els := by
  rcases gc_cases h0 h u with g | ⟨hp, g⟩ <;> rw [g]
  · exact s
  · have hv := hu hp
    obtain ⟨h1, oa, c, rfl, h3⟩ := s
    rcases h3 with ⟨rfl, rfl, rfl⟩ | ⟨r, o, x, rfl, _⟩
    · exact ⟨by simp, none, 0, rfl, .inl ⟨rfl, rfl, rfl⟩⟩
    · cases hv
/-- An order of all jobs. -/
structure Ord (n : Nat) (xs : List Int) : Prop where
  len : xs.length = n
  inn : inN n xs
  nd : xs.Nodup
theorem Ord.all {n : Nat} {xs : List Int} (o : Ord n xs) {i : Nat} (hi : i < n) : (i : Int) ∈ xs :=
  pigeon xs (upTo n) o.nd (fun x hx => mem_upTo.2 (o.inn x hx)) (by rw [upTo_len, o.len]; omega) i (mem_upTo.2 (by omega))
section
variable {h : Hp} {v u : Value} {js : List Job} {xs : List Int} {o : Int}
theorem l2Value_run (hj : Jobs h v js) (hu : Ints h u xs) (hg : goodL js = true) (hn : js.length ≤ 8) (ho : 1 ≤ o ∧ o ≤ 8) (hx : Ord js.length xs) : Ret P G n_spec_l2Value [v, u, .int .i64 o] h (.int .i64 (valX o js xs)) h := by
  refine enter_run e_spec_l2Value (by simp) ?_
  have hjs := hj
  obtain ⟨oj, cj, rfl⟩ := hj.shapeT
  simp -implicitDefEqProofs
  refine CL_post (l2Ends_run hjs hu hg hn (by rw [hx.len]; exact hn) hx.inn hx.nd fun i hi => hx.all hi) fun v1 h1 ⟨hp1, ho1, hb1⟩ => ?_
  have r := l2Of_run (o := o) (hjs.pre hp1) ho1.sees hg hn endsL_len (fun e he => by have := hb1 e he; omega) ho
  simp -implicitDefEqProofs [CL_ret r]
  exact ⟨rfl, gcP hp1 rfl⟩
theorem valueOf_run (hj : Jobs h v js) (hu : Ints h u xs) (hg : goodL js = true) (hn : js.length ≤ 8) (ho : 1 ≤ o ∧ o ≤ 8) (hx : Ord js.length xs) : Ret P G n_impl_valueOf [v, u, .int .i64 o] h (.int .i64 (valX o js xs)) h := by
  refine enter_run e_impl_valueOf (by simp) ?_
  have hjs := hj
  obtain ⟨oj, cj, rfl⟩ := hj.shapeT
  simp -implicitDefEqProofs
  refine CL_post (endsOf_run hjs hu hg hn (by rw [hx.len]; exact hn) hx.inn) fun v1 h1 ⟨hp1, ho1, hb1⟩ => ?_
  have r := valueOfEnds_run (o := o) (hjs.pre hp1) ho1.sees hg hn endsL_len (fun e he => by have := hb1 e he; omega) ho
  simp -implicitDefEqProofs [CL_ret r]
  exact ⟨rfl, gcP hp1 rfl⟩
end
abbrev sv3 (v : Value) (b : Sr) : Value := .agg #[v, .int .i64 b.v, .int .i64 b.c]
theorem plain3 {v : Value} {b : Sr} (hp : plain (sv3 v b) = true) : plainC v = true := by simpa [plain, plainC] using hp
theorem l2Try_run {js : List Job} {o : Int} (hg : goodL js = true) (hn : js.length ≤ 8) (ho : 1 ≤ o ∧ o ≤ 8) : ∀ {k : Nat} {h : Hp} {vj vb vo : Value} {begun : List Int} {b : Sr}, Jobs h vj js → Ints h vb begun → Ints h vo b.o → begun.length + k = js.length → inN js.length begun → begun.Nodup → b.o.length ≤ 8 →
    RunsC P G n_spec_l2Try [vj, vb, .int .i64 o, sv3 vo b] h fun v h' => h <+: h' ∧ (dfs (updS (valX o js)) js.length k begun b).o.length ≤ 8 ∧ ∃ vo', v = sv3 vo' (dfs (updS (valX o js)) js.length k begun b) ∧ Ints h' vo' (dfs (updS (valX o js)) js.length k begun b).o
  | 0, h, vj, vb, vo, begun, b, J, B, O, hk, hin, hnd, hol => by
    refine hideC fun K hK => enter_run e_spec_l2Try (by simp) ?_
    have Js := J
    have Bs := B
    have Os := O
    obtain ⟨oj, cj, rfl⟩ := J.shapeT
    obtain ⟨ob, cb, rfl⟩ : ∃ a c, vb = .slice a js.length c := by obtain ⟨a, c, e⟩ := B.shapeT; exact ⟨a, c, by rw [e]; congr 1⟩
    obtain ⟨od, cd, rfl⟩ := O.shapeT
    have hx : Ord js.length begun := ⟨by omega, hin, hnd⟩
    have hl : begun.length = js.length := hx.len
    have H0 := (Holds.start.alloc [.slice od b.o.length cd, .int .i64 b.v, .int .i64 b.c] (h := h)).alloc [.slice none 0 0, .int .i64 0, .int .i64 0]
    simp only [List.append_assoc, List.cons_append, List.nil_append, List.length_append, List.length_cons, List.length_nil, Nat.zero_add] at H0
    have rv := l2Value_run (o := o) (Js.pre H0.pre) (Bs.pre H0.pre) hg hn ho hx
    rw [dfs] at hK
    obtain ⟨V, hV⟩ : ∃ V, V = valX o js begun := ⟨_, rfl⟩
    rw [← hV] at rv
    by_cases c1 : b.c = 0 ∨ V < b.v
    · have e : updS (valX o js) b begun = ⟨begun, V, 1⟩ := by unfold updS; rw [← hV, if_pos c1]
      rw [e] at hK
      have rest : ∃ m, m = 0 := ⟨0, rfl⟩
      have fin : RunsC P G n_spec_l1Own [.slice ob js.length cb] (h ++ [some ⟨[.slice od b.o.length cd, .int .i64 b.v, .int .i64 b.c], 0, false⟩, some ⟨[.slice none 0 0, .int .i64 0, .int .i64 0], 0, false⟩]) fun v1 h1 => ∃ a n c h2, v1 = .slice a n c ∧ storeP P h1 t_spec_l2Search (sv3 (.slice a n c) ⟨begun, V, 1⟩) (.pointer (some ⟨h.length + 1, 0, some 3⟩)) = some h2 ∧
          loadP P h2 t_spec_l2Search (.pointer (some ⟨h.length + 1, 0, some 3⟩)) = some (sv3 (.slice a n c) ⟨begun, V, 1⟩) ∧ K (sv3 (.slice a n c) ⟨begun, V, 1⟩) (gc h h2 (sv3 (.slice a n c) ⟨begun, V, 1⟩)) := by
        refine RunsC.mono (l1Own_run (Bs.pre H0.pre) (by omega)) fun v1 h1 ⟨hp1, ho1⟩ => ?_
        have H1 := H0.call hp1 ho1
        obtain ⟨a, c, rfl⟩ := ho1.sees.shape
        obtain ⟨h2, s2, H2, _⟩ := H1.set (P := P) 1 (n := 3) (o := 0) (ty := t_spec_l2Search) (w := sv3 (.slice a _ c) ⟨begun, V, 1⟩) rfl rfl e_t_spec_l2Search (by simp) (by simp) (by simp)
        exact ⟨a, _, c, h2, rfl, s2, by simpa using H2.bl (P := P) 1 3 rfl rfl t_spec_l2Search 0, onK hK ⟨pre_gcU H2.pre, by rw [hl]; exact hn, _, rfl, Sees.gcU (H2.sees 2 rfl) plain3⟩⟩
      rcases Classical.em (b.c = 0) with c2 | c2
      · simp -implicitDefEqProofs [CL_ret rv, show (b.c == 0) = true by simpa using c2]
        refine CL_post fin fun v1 h1 ⟨a, n1, c, h2, ev, s2, l2, f2⟩ => ?_
        subst ev
        simp -implicitDefEqProofs [s2, l2]
        exact f2
      · have c3 : V < b.v := by rcases c1 with g | g; exact absurd g c2; exact g
        simp -implicitDefEqProofs [CL_ret rv, nb c2, c3]
        refine CL_post fin fun v1 h1 ⟨a, n1, c, h2, ev, s2, l2, f2⟩ => ?_
        subst ev
        simp -implicitDefEqProofs [s2, l2]
        exact f2
    · have c2 : ¬ b.c = 0 := fun g => c1 (.inl g)
      have c3 : ¬ V < b.v := fun g => c1 (.inr g)
      by_cases c4 : V = b.v
      · have e : updS (valX o js) b begun = ⟨b.o, b.v, w64 (b.c + 1)⟩ := by unfold updS; rw [← hV, if_neg c1, if_pos c4]
        rw [e] at hK
        obtain ⟨h1, s1, H1, k1⟩ := H0.set (P := P) 0 (n := 3) (o := 2) (ty := t_int) (w := .int .i64 (IntKind.i64.wrap (b.c + 1))) rfl rfl e_t_int (by simp) (by simp) (by simp)
        obtain ⟨h2, s2, H2, k2⟩ := H1.set (P := P) 1 (n := 3) (o := 0) (ty := t_spec_l2Search) (w := sv3 (.slice od b.o.length cd) ⟨b.o, b.v, w64 (b.c + 1)⟩) rfl rfl e_t_spec_l2Search (by simp) (by simp) (by simp)
        have s2' : storeP P h1 t_spec_l2Search (.agg #[.slice od b.o.length cd, .int .i64 b.v, .int .i64 (IntKind.i64.wrap (b.c + 1))]) (.pointer (some ⟨h.length + 1, 0, some 3⟩)) = some h2 := s2
        have l1 := H1.bl (P := P) 0 3 rfl rfl
        have l2 := H2.bl (P := P) 1 3 rfl rfl
        have l0 := H0.bl (P := P) 0 3 rfl rfl
        have c4' : (V == b.v) = true := by simpa using c4
        simp -implicitDefEqProofs [-storeP_app0, CL_ret rv, nb c2, c3, c4', s1, l1, s2', l2]
        exact onK hK ⟨pre_gcU H2.pre, hol, _, rfl, Sees.gcU (Os.pre H2.pre) plain3⟩
      · have e : updS (valX o js) b begun = b := by unfold updS; rw [← hV, if_neg c1, if_neg c4]
        rw [e] at hK
        obtain ⟨h2, s2, H2, k2⟩ := H0.set (P := P) 1 (n := 3) (o := 0) (ty := t_spec_l2Search) (w := sv3 (.slice od b.o.length cd) b) rfl rfl e_t_spec_l2Search (by simp) (by simp) (by simp)
        have l2 := H2.bl (P := P) 1 3 rfl rfl
        simp -implicitDefEqProofs [-storeP_app0, CL_ret rv, nb c2, c3, nb c4, s2, l2]
        exact onK hK ⟨pre_gcU H2.pre, hol, _, rfl, Sees.gcU (Os.pre H2.pre) plain3⟩
  | k + 1, h, vj, vb, vo, begun, b, J, B, O, hk, hin, hnd, hol => by
    refine hideC fun K hK => enter_run e_spec_l2Try (by simp) ?_
    have Js := J
    have Bs := B
    have Os := O
    obtain ⟨oj, cj, rfl⟩ := J.shapeT
    obtain ⟨ob, cb, rfl⟩ := B.shapeT
    obtain ⟨od, cd, rfl⟩ := O.shapeT
    have hne : ((begun.length : Int) == (js.length : Int)) = false := nb (by omega)
    have H0 := (Holds.start.alloc [.slice od b.o.length cd, .int .i64 b.v, .int .i64 b.c] (h := h)).alloc [.slice none 0 0, .int .i64 0, .int .i64 0]
    simp only [List.append_assoc, List.cons_append, List.nil_append, List.length_append, List.length_cons, List.length_nil, Nat.zero_add] at H0
    generalize hX : dfs (updS (valX o js)) js.length (k + 1) begun b = X at hK
    rw [dfs] at hX
    have hne' : ¬ begun.length = js.length := by omega
    simp -implicitDefEqProofs [hne, hne']
    refine R_loopO (fun m st h' => ∃ (i : Nat) (b' : Sr) (vo' : Value), i + m = js.length ∧ st = [(0, .slice oj js.length cj), (1, .slice ob begun.length cb), (2, .int .i64 o), (7, .pointer (some ⟨h.length, 0, some 3⟩)), (8, .pointer (some ⟨h.length + 1, 0, some 3⟩)), (10, .int .i64 i)] ∧
      X = (List.range' i m).foldl (fun b (j : Nat) => if begun.any (· == (j : Int)) = true then b else dfs (updS (valX o js)) js.length k (begun ++ [(j : Int)]) b) b' ∧ b'.o.length ≤ 8 ∧ Ints h' vo' b'.o ∧
      Holds h h' [.box h.length [vo', .int .i64 b'.v, .int .i64 b'.c], .box (h.length + 1) [.slice none 0 0, .int .i64 0, .int .i64 0]]) (fun I hI m st h' => ?_) (n := js.length)
      ⟨0, b, .slice od b.o.length cd, Nat.zero_add _, by simp, hX.symm, hol, Os.pre H0.pre, H0⟩
    rintro ⟨i, b', vo', hi, rfl, hx, hbl, O', H⟩
    have Ons := O'
    obtain ⟨oq, cn, rfl⟩ := O'.shapeT
    by_cases hlt : i < js.length
    · obtain ⟨m', rfl⟩ : ∃ m', m = m' + 1 := ⟨m - 1, by omega⟩
      rw [List.range'_succ, List.foldl_cons] at hx
      have rh := l1Has_run (x := (i : Int)) (Bs.pre H.pre) (by omega)
      have wi := winc hlt (show js.length ≤ 2 ^ 40 by omega)
      cases c1 : hasL (i : Int) begun
      · have hx' : X = (List.range' (i + 1) m').foldl (fun b (j : Nat) => if begun.any (· == (j : Int)) = true then b else dfs (updS (valX o js)) js.length k (begun ++ [(j : Int)]) b) (dfs (updS (valX o js)) js.length k (begun ++ [(i : Int)]) b') := by
          rw [hx, show begun.any (· == (i : Int)) = false from c1]; rfl
        have hni : (i : Int) ∉ begun := fun g => by rw [hasL_iff'.2 g] at c1; cases c1
        simp -implicitDefEqProofs [hlt, CL_ret rh, c1]
        refine CG_post (l1Own_run (Bs.pre H.pre) (by omega)).new fun v5 h5 ⟨⟨hp5, ho5⟩, hn5⟩ => ⟨hn5 hp5, ?_⟩
        have H5 : Holds h' h5 [.own v5 1 (begun.map encI)] := (Holds.start (h := h')).call hp5 ho5
        obtain ⟨v6, h6, ha6, H6, k6, _⟩ := push_I0 H5 0 rfl (i : Int) (by omega)
        have H6' : Holds h' h6 [.own v6 1 ((begun ++ [(i : Int)]).map encI)] := H6
        have n6 : NR h'.length (h5 ++ [some ⟨[.int .i64 (i : Int)], 1, false⟩]) := (hn5 hp5).nr.new [.int .i64 (i : Int)] 1
        have md := app_mod (b := h'.length) rfl n6 ha6 (hp5.trans (List.prefix_append ..)) H6'.pre
        have HH6 := H.ext H6'.pre
        have ih := l2Try_run hg hn ho (k := k) (Js.pre HH6.pre) (H6'.sees 0 rfl) (Ons.pre H6'.pre) (by simp; omega) (fun x hx => by
          rcases List.mem_append.1 hx with g | g
          · exact hin x g
          · rw [List.mem_singleton.1 g]; omega) (List.nodup_append.2 ⟨hnd, by simp, fun a ha c hc => by rw [List.mem_singleton.1 hc]; intro e; exact hni (e ▸ ha)⟩) hbl
        obtain ⟨d1, d2, d3, rfl⟩ : ∃ a n c, v5 = .slice a n c := by obtain ⟨a, c, e⟩ := ho5.sees.shape; exact ⟨_, _, _, e⟩
        obtain ⟨e1, e2, e3, rfl⟩ : ∃ a n c, v6 = .slice a n c := by obtain ⟨a, c, e⟩ := (H6'.sees 0 rfl).shape; exact ⟨_, _, _, e⟩
        simp -implicitDefEqProofs [ha6, md, HH6.bl 0 3 rfl rfl]
        refine CL_post ih fun v h7 ⟨hp7, hb7, vo7, ev7, O7⟩ => ?_
        subst ev7
        generalize dfs (updS (valX o js)) js.length k (begun ++ [(i : Int)]) b' = b7 at hx' hb7 O7
        have O7s := O7
        obtain ⟨f1, f2, rfl⟩ := O7.shapeT
        have H7 := HH6.ext hp7
        obtain ⟨h8, s8, H8, k8⟩ := H7.set (P := P) 0 (n := 3) (o := 0) (ty := t_spec_l2Search) (w := sv3 (.slice f1 b7.o.length f2) b7) rfl rfl e_t_spec_l2Search (by simp) (by simp) (by simp)
        have bx := H7.box 0 rfl
        simp -implicitDefEqProofs [s8, wi]
        exact ⟨m', by omega, on hI ⟨i + 1, b7, _, by omega, rfl, hx', hb7, Sees.boxK O7s (by omega) bx k8, by simpa using H8⟩⟩
      · have hx' : X = (List.range' (i + 1) m').foldl (fun b (j : Nat) => if begun.any (· == (j : Int)) = true then b else dfs (updS (valX o js)) js.length k (begun ++ [(j : Int)]) b) b' := by
          rw [hx, show begun.any (· == (i : Int)) = true from c1]; rfl
        simp -implicitDefEqProofs [hlt, CL_ret rh, c1, wi]
        exact ⟨m', by omega, on hI ⟨i + 1, b', _, by omega, rfl, hx', hbl, Ons, H⟩⟩
    · have hm : m = 0 := by omega
      subst hm
      rw [List.range'_zero, List.foldl_nil] at hx
      subst hx
      obtain ⟨h8, s8, H8, k8⟩ := H.set (P := P) 1 (n := 3) (o := 0) (ty := t_spec_l2Search) (w := sv3 (.slice oq X.o.length cn) X) rfl rfl e_t_spec_l2Search (by simp) (by simp) (by simp)
      have bx := H.box 1 rfl
      simp -implicitDefEqProofs [hlt, H.bl 0 3 rfl rfl, s8, H8.bl 1 3 rfl rfl]
      exact onK hK ⟨pre_gcU H8.pre, hbl, _, rfl, Sees.gcU (Sees.boxK Ons (by omega) bx k8) plain3⟩
end Go.Pm.PP

/- The best order of jobs: both. -/
set_option linter.unusedVariables false
set_option linter.unusedSimpArgs false
set_option maxRecDepth 4000
set_option maxHeartbeats 8000000
namespace Go.Pm.PE
theorem perms_perm : ∀ {n : Nat} {l p : List Int}, l.length = n → p ∈ perms l n → p.Perm l
  | 0, l, p, h, hp => by
    rw [List.eq_nil_of_length_eq_zero h]
    simp [perms] at hp
    rw [hp]
  | n + 1, l, p, h, hp => by
    rw [perms, List.mem_flatMap] at hp
    obtain ⟨i, hi, hp⟩ := hp
    have hi : i < l.length := by simpa [List.mem_range'_1] using hi
    obtain ⟨q, hq, rfl⟩ := List.mem_map.1 hp
    have h1 := perms_perm (by rw [List.length_eraseIdx_of_lt hi]; omega) hq
    obtain ⟨x, hx, hd⟩ := drop_at hi
    rw [hx, Option.getD_some]
    refine (List.Perm.cons x h1).trans ?_
    have e : l = l.take i ++ x :: l.drop (i + 1) := by conv => lhs; rw [← List.take_append_drop i l, hd]
    rw [List.eraseIdx_eq_take_drop_succ]
    conv => rhs; rw [e]
    exact List.perm_middle.symm
end Go.Pm.PE
namespace Go.Pm
/-- What stands in between is let go. -/
theorem Holds.cut {h0 h : Hp} {A B C : List Asn} (H : Holds h0 h ((A ++ B) ++ C)) : Holds h0 h (A ++ C) := by
  refine Holds.weak (T := B) (H.perm ?_)
  rw [List.append_assoc, List.append_assoc]
  exact List.Perm.append_left A List.perm_append_comm
end Go.Pm
namespace Go.Pm.PP
open Go.Pm Go.Proofs Go.Pm.PE
def ordsL (n : Nat) : List (List Int) := perms (upTo n) n
theorem up_rem {n : Nat} : rem n [] = upTo n := by rw [rem_nil, upTo, List.range_eq_range']
theorem up_asc {n : Nat} : (upTo n).Pairwise (· < ·) := by
  refine List.Pairwise.map _ (fun a b h => ?_) List.pairwise_lt_range
  omega
theorem ords_ord {n : Nat} {xs : List Int} (h : xs ∈ ordsL n) : Ord n xs := by
  have p := perms_perm (upTo_len n) h
  exact ⟨by rw [p.length_eq, upTo_len], fun x hx => mem_upTo.1 (p.mem_iff.1 hx), p.nodup_iff.2 (upTo_nodup n)⟩
def sr0 : Sr := ⟨[], 0, 0⟩
def bestR (f : List Int → Int) (n : Nat) : Sr := (ordsL n).foldl (updS f) sr0
theorem best_dfs {f : List Int → Int} {n : Nat} : dfs (updS f) n n [] sr0 = bestR f n := by
  rw [dfs_perms (by rw [up_rem, upTo_len]), up_rem]; rfl
def bestV (o : Int) (js : List Job) : Int := (bestR (valX o js) js.length).v
theorem l2All_run {h : Hp} {vj : Value} {js : List Job} {o : Int} (J : Jobs h vj js) (hg : goodL js = true) (hn : js.length ≤ 8) (ho : 1 ≤ o ∧ o ≤ 8) : RunsC P G n_spec_l2All [vj, .int .i64 o] h fun v h' => h <+: h' ∧ ∃ a c, v = sv3 (.slice a (bestR (valX o js) js.length).o.length c) (bestR (valX o js) js.length) ∧ Ints h' (.slice a (bestR (valX o js) js.length).o.length c) (bestR (valX o js) js.length).o := by
  refine hideC fun K hK => enter_run e_spec_l2All (by simp) ?_
  have Js := J
  obtain ⟨oj, cj, rfl⟩ := J.shapeT
  have H0 := Holds.start.alloc [.slice none 0 0, .int .i64 0, .int .i64 0] (h := h)
  have N0 : Ints (h ++ [some ⟨[.slice none 0 0, .int .i64 0, .int .i64 0], 0, false⟩]) (.slice none 0 0) ([] : List Int) := ⟨by simp, none, 0, rfl, .inl ⟨rfl, rfl, rfl⟩⟩
  have r := l2Try_run hg hn ho (k := js.length) (b := sr0) (Js.pre H0.pre) N0 N0 (by simp) (fun x hx => by cases hx) List.nodup_nil (by simp [sr0])
  simp -implicitDefEqProofs
  refine CL_post r fun v h1 ⟨hp1, hb1, vo, ev, O1⟩ => ?_
  subst ev
  rw [best_dfs] at O1 hb1
  have O1s := O1
  obtain ⟨a, c, rfl⟩ := O1.shapeT
  have H1 := H0.ext hp1
  obtain ⟨h2, s2, H2, k2⟩ := H1.set (P := P) 0 (n := 3) (o := 0) (ty := t_spec_l2Search) (w := sv3 (.slice a (bestR (valX o js) js.length).o.length c) (bestR (valX o js) js.length)) rfl rfl e_t_spec_l2Search (by simp) (by simp) (by simp)
  have bx := H1.box 0 rfl
  rw [best_dfs]
  simp -implicitDefEqProofs [s2, H2.bl 0 3 rfl rfl]
  exact onK hK ⟨pre_gcU H2.pre, a, c, rfl, Sees.gcU (Sees.boxK O1s (by omega) bx k2) plain3⟩
theorem plainT {vo : Value} {r : List Value} (h : plain (.tuple (vo :: r).toArray) = true) : plainC vo = true := by
  have : ((vo :: r).toArray : Array Value).toList.all plainC = true := h
  simp only [List.all_cons, Bool.and_eq_true] at this
  exact this.1
theorem l2Best_run {h : Hp} {vj : Value} {js : List Job} {o : Int} (J : Jobs h vj js) (hg : goodL js = true) (hn : js.length ≤ 8) (ho : 1 ≤ o ∧ o ≤ 8) : RunsC P G n_spec_l2Best [vj, .int .i64 o] h fun v h' => h <+: h' ∧ ∃ vo, v = .tuple #[vo, .int .i64 (bestV o js)] ∧ Ints h' vo (bestR (valX o js) js.length).o := by
  refine hideC fun K hK => enter_run e_spec_l2Best (by simp) ?_
  have Js := J
  obtain ⟨oj, cj, rfl⟩ := J.shapeT
  simp -implicitDefEqProofs
  refine CL_post (l2All_run Js hg hn ho) fun v h1 ⟨hp1, a, c, ev, O1⟩ => ?_
  subst ev
  simp -implicitDefEqProofs
  exact onK hK ⟨pre_gcU (hp1.trans (List.prefix_append ..)), _, rfl, Sees.gcU (O1.pre (List.prefix_append ..)) fun g => plainT (r := [.int .i64 (bestV o js)]) g⟩
/-! ### all orders by the program -/
theorem numbersTo_run {h : Hp} {n : Nat} (hn : n ≤ 2 ^ 30) : RunsC P G n_impl_numbersTo [.int .i64 n] h fun v h' => h <+: h' ∧ Own h.length h' v 1 ((upTo n).map encI) := by
  refine hideC fun K hK => enter_run e_impl_numbersTo (by simp) ?_
  have H0 := own_nil (Holds.start (h := h)) Int encI 1
  simp -implicitDefEqProofs
  refine R_loopO (fun m s h' => ∃ (i : Nat) (u : Value), i + m = n ∧ s = [(0, .int .i64 n), (3, u), (4, .int .i64 i)] ∧ Holds h h' [.own u 1 ((upTo i).map encI)]) (fun I hI m s h' => ?_) (n := n) ⟨0, _, Nat.zero_add _, by simp; rfl, by simpa [upTo] using H0⟩
  rintro ⟨i, u, hi, rfl, H⟩
  by_cases hlt : i < n
  · have hlt' : (i : Int) < n := by omega
    obtain ⟨v', h2, ha, H2, _⟩ := push_I0 H 0 rfl (i : Int) (by rw [upTo_len]; omega)
    simp -implicitDefEqProofs [hlt, hlt', ha, winc hlt (by omega)]
    refine ⟨m - 1, by omega, on hI ⟨i + 1, v', by omega, rfl, ?_⟩⟩
    have e : upTo (i + 1) = upTo i ++ [(i : Int)] := by simp [upTo, List.range_succ]
    rw [e]
    exact H2
  · have hlt' : ¬ (i : Int) < n := by omega
    have e : i = n := by omega
    subst e
    simp -implicitDefEqProofs [hlt']
    exact onK hK (H.ret 0 rfl)
theorem eachOrder_run {hb : Hp} {g : FuncId} {c : Array Value} {n : Nat} (hn : n ≤ 8) {Q : Nat → List Asn → Prop} (gq : ∀ i BX i' BX' h h' L u, Q i BX → Q i' BX' → Holds hb h (BX ++ L) → Holds hb h' (BX' ++ L) → Holds hb (gc h h' u) (BX' ++ L))
    (tell : ∀ i xs h BX vg, Q i BX → (ordsL n)[i]? = some xs → Holds hb h (BX ++ [.own vg 1 (xs.map encI)]) → RunsC P G g (vg :: c.toList) h fun v h' => ∃ BX', Q (i + 1) BX' ∧ ∀ L, Holds hb h (BX ++ L) → Holds hb h' (BX' ++ L))
    {h : Hp} {BX : List Asn} (hQ : Q 0 BX) (HB : Holds hb h (BX ++ [])) :
    RunsC P G n_impl_eachOrder [.int .i64 n, .func (.func g) #[] c] h fun v h' => ∃ BX', Q (ordsL n).length BX' ∧ ∀ L, Holds hb h (BX ++ L) → Holds hb h' (BX' ++ L) := by
  refine hideC fun K hK => enter_run e_impl_eachOrder (by simp) ?_
  obtain ⟨pm1, pm2, pm3⟩ := perms_main (upTo_len n) up_asc
  simp -implicitDefEqProofs
  refine CL_post (numbersTo_run (by omega)) fun v0 h0 ⟨hp0, ho0⟩ => ?_
  obtain ⟨o0, n0, c0, rfl⟩ : ∃ a n c, v0 = .slice a n c := by obtain ⟨a, c, e⟩ := ho0.sees.shape; exact ⟨_, _, _, e⟩
  have first : ∀ L, Holds hb h (BX ++ L) → Holds hb h0 (BX ++ ([.own (.slice o0 n0 c0) 1 ((upTo n).map encI)] ++ L)) := fun L HL => by
    have := Holds.joinT (L := BX) (T := L) (A := [.own (.slice o0 n0 c0) 1 ((upTo n).map encI)]) (M := []) HL ((Holds.start (h := h)).call hp0 ho0)
    simpa [List.append_assoc] using this
  simp -implicitDefEqProofs
  refine R_loopO (fun m st hk => ∃ (i : Nat) (xs : List Int) (BXk : List Asn), (ordsL n)[i]? = some xs ∧ i + m = (ordsL n).length ∧ st = [(1, .func (.func g) #[] c), (4, .slice o0 n0 c0)] ∧ Q i BXk ∧
    (∀ L, Holds hb h (BX ++ L) → Holds hb hk (BXk ++ ([.own (.slice o0 n0 c0) 1 (xs.map encI)] ++ L)))) (fun I hI m st hk => ?_) (n := (ordsL n).length)
    ⟨0, upTo n, BX, pm1, Nat.zero_add _, by simp, hQ, first⟩
  rintro ⟨i, xs, BXk, hxs, him, rfl, hQk, I1⟩
  have ox := ords_ord (List.mem_of_getElem? hxs)
  have hil := (List.getElem?_eq_some_iff.1 hxs).1
  have HA : Holds hb hk (BXk ++ [.own (.slice o0 n0 c0) 1 (xs.map encI)]) := by simpa using I1 [] HB
  simp -implicitDefEqProofs
  refine CL_post (tell i xs hk BXk _ hQk hxs HA) fun v h2 ⟨BX', hQ', F2⟩ => ?_
  have H2 := F2 _ HA
  have H2o := H2.one BX'.length (A := .own (.slice o0 n0 c0) 1 (xs.map encI)) (by rw [List.getElem?_append_right (Nat.le_refl _), Nat.sub_self]; rfl)
  simp -implicitDefEqProofs
  refine CL_post (nextOrder_run H2o (by rw [ox.len]; omega) ox.nd) fun r h3 ⟨er, ow3, k3⟩ => ?_
  subst er
  have J1 : ∀ L, Holds hb h (BX ++ L) → Holds hb h3 (BX' ++ ([.own (.slice o0 n0 c0) 1 (((nextP xs).getD xs).map encI)] ++ L)) := fun L HL => by
    have h1 := F2 _ (I1 L HL)
    have h2 := h1.upd (i := BX'.length) (A := .own (.slice o0 n0 c0) 1 (xs.map encI)) (B := .own (.slice o0 n0 c0) 1 (((nextP xs).getD xs).map encI)) (by rw [List.getElem?_append_right (Nat.le_refl _), Nat.sub_self]; rfl) k3 ow3 fun r hr => .inl hr
    rw [List.set_append_right (h := Nat.le_refl _), Nat.sub_self] at h2
    exact h2
  cases hnx : nextP xs with
  | some xs' =>
    rw [hnx] at J1
    have hi1 : (ordsL n)[i + 1]? = some xs' := by rw [← hnx]; exact (pm2 i xs hxs).symm
    simp -implicitDefEqProofs
    exact ⟨m - 1, by omega, on hI ⟨i + 1, xs', BX', hi1, by omega, rfl, hQ', J1⟩⟩
  | none =>
    rw [hnx] at J1
    have hi1 : (ordsL n)[i + 1]? = none := by rw [← hnx]; exact (pm2 i xs hxs).symm
    have hlen : (ordsL n).length = i + 1 := by have := List.getElem?_eq_none_iff.1 hi1; omega
    simp -implicitDefEqProofs
    rw [hlen] at hK
    refine onK hK ⟨BX', hQ', fun L HL => ?_⟩
    have h1 := J1 L HL
    have h2 : Holds hb h3 (BX' ++ L) := by
      refine Holds.weak (T := [.own (.slice o0 n0 c0) 1 (xs.map encI)]) (h1.perm ?_)
      rw [List.append_assoc]
      exact List.Perm.append_left BX' List.perm_append_comm
    exact gq _ _ _ _ _ _ _ _ hQ hQ' HL h2
theorem load_pre {hb h' : Hp} {r n : Nat} {cs : List Value} (hp : hb <+: h') (hr : hb[r]? = some (some ⟨cs, 0, false⟩)) (hn : cs.length = n) (t : TypeId) : loadP P h' t (.pointer (some ⟨r, 0, some n⟩)) = rowLoad P t ⟨cs, 0, false⟩ 0 := by
  have h5 : h'[r]? = some (some ⟨cs, 0, false⟩) := by
    obtain ⟨l, rfl⟩ := hp
    rw [List.getElem?_append_left (List.getElem?_eq_some_iff.1 hr).1]; exact hr
  rw [loadP_eq]
  simp only [rowAt, h5, hn, if_true, Option.bind_some]
def bx4 (p q r : Nat) (vf : Value) (b : Sr) : List Asn := [.box p [vf], .box q [.int .i64 b.v], .box r [.int .i64 b.c], .own vf 1 (b.o.map encI)]
theorem gc4 {hb h h' : Hp} {p q r : Nat} {vf vf' u : Value} {b b' : Sr} {L : List Asn} (HL : Holds hb h (bx4 p q r vf b ++ L)) (H' : Holds hb h' (bx4 p q r vf' b' ++ L)) : Holds hb (gc h h' u) (bx4 p q r vf' b' ++ L) := by
  rcases gc_cases' h h' u with g | ⟨hp, g⟩
  · rw [g]; exact H'
  · have e1 := HL.box (cs := [vf]) (r := p) 0 rfl
    have e2 := H'.box (cs := [vf']) (r := p) 0 rfl
    obtain ⟨t, rfl⟩ := hp
    rw [List.getElem?_append_left (List.getElem?_eq_some_iff.1 e1).1, e1] at e2
    cases e2
    exact HL.gcR H' rfl
/-- The program's look at an order. -/
theorem tell1_run {hb h : Hp} {p q r rj ro : Nat} {vj vf vg : Value} {js : List Job} {o : Int} {xs : List Int} {b : Sr} (J : Jobs hb vj js) (bj : hb[rj]? = some (some ⟨[vj], 0, false⟩)) (bo : hb[ro]? = some (some ⟨[.int .i64 o], 0, false⟩))
    (hg : goodL js = true) (hn : js.length ≤ 8) (ho : 1 ≤ o ∧ o ≤ 8) (hx : Ord js.length xs) (H : Holds hb h (bx4 p q r vf b ++ [.own vg 1 (xs.map encI)])) :
    RunsC P G n_impl_best_1 [vg, .pointer (some ⟨rj, 0, some 1⟩), .pointer (some ⟨ro, 0, some 1⟩), .pointer (some ⟨r, 0, some 1⟩), .pointer (some ⟨q, 0, some 1⟩), .pointer (some ⟨p, 0, some 1⟩)] h fun v h' =>
      ∃ vf', ∀ L, Holds hb h (bx4 p q r vf b ++ L) → Holds hb h' (bx4 p q r vf' (updS (valX o js) b xs) ++ L) := by
  refine hideC fun K hK => enter_run e_impl_best_1 (by simp) ?_
  obtain ⟨f1, f2, f3, rfl⟩ : ∃ a n c, vf = .slice a n c := by obtain ⟨a, c, e⟩ := (H.sees 3 (v := vf) (sz := 1) (els := b.o.map encI) rfl).shape; exact ⟨_, _, _, e⟩
  have Js := J
  obtain ⟨oj, cj, rfl⟩ := J.shapeT
  have Sg : Ints h vg xs := H.sees 4 rfl
  have lj := load_pre H.pre bj (n := 1) rfl
  have lo := load_pre H.pre bo (n := 1) rfl
  have rv := valueOf_run (o := o) (Js.pre H.pre) Sg hg hn ho hx
  obtain ⟨V, hV⟩ : ∃ V, V = valX o js xs := ⟨_, rfl⟩
  rw [← hV] at rv
  have lq := H.bl (P := P) 1 1 rfl rfl
  have lr := H.bl (P := P) 2 1 rfl rfl
  by_cases c1 : b.c = 0 ∨ V < b.v
  · have e : updS (valX o js) b xs = ⟨xs, V, 1⟩ := by unfold updS; rw [← hV, if_pos c1]
    rw [e] at hK
    have fin : RunsC P G n_impl_copyInts [vg] h fun v1 h1 => ∃ a n c h2 h3 h4, v1 = .slice a n c ∧ storeP P h1 t_S_int (.slice a n c) (.pointer (some ⟨p, 0, some 1⟩)) = some h2 ∧ storeP P h2 t_int (.int .i64 V) (.pointer (some ⟨q, 0, some 1⟩)) = some h3 ∧
        storeP P h3 t_int (.int .i64 1) (.pointer (some ⟨r, 0, some 1⟩)) = some h4 ∧ ∀ u, K u (gc h h4 u) := by
      refine RunsC.mono (copyInts_run Sg (by rw [hx.len]; omega)) fun v1 h1 ⟨hp1, ho1⟩ => ?_
      obtain ⟨a, c, rfl⟩ := ho1.sees.shapeT
      obtain ⟨h2, s2, H2, _⟩ := (H.ext hp1).set (P := P) 0 (n := 1) (o := 0) (ty := t_S_int) (w := .slice a xs.length c) rfl rfl e_t_S_int (by simp) (by simp) (by simp)
      obtain ⟨h3, s3, H3, _⟩ := H2.set (P := P) 1 (n := 1) (o := 0) (ty := t_int) (w := .int .i64 V) rfl rfl e_t_int (by simp) (by simp) (by simp)
      obtain ⟨h4, s4, H4, _⟩ := H3.set (P := P) 2 (n := 1) (o := 0) (ty := t_int) (w := .int .i64 1) rfl rfl e_t_int (by simp) (by simp) (by simp)
      refine ⟨a, xs.length, c, h2, h3, h4, rfl, s2, s3, s4, fun u => onK hK ⟨.slice a xs.length c, fun L HL => ?_⟩⟩
      have HJ := Holds.joinT (A := [.own (.slice a xs.length c) 1 (xs.map encI)]) (M := []) HL ((Holds.start (h := h)).call hp1 ho1)
      obtain ⟨h2', s2', H2', _⟩ := HJ.set (P := P) 0 (n := 1) (o := 0) (ty := t_S_int) (w := .slice a xs.length c) rfl rfl e_t_S_int (by simp) (by simp) (by simp)
      rw [s2] at s2'; cases s2'
      obtain ⟨h3', s3', H3', _⟩ := H2'.set (P := P) 1 (n := 1) (o := 0) (ty := t_int) (w := .int .i64 V) rfl rfl e_t_int (by simp) (by simp) (by simp)
      rw [s3] at s3'; cases s3'
      obtain ⟨h4', s4', H4', _⟩ := H3'.set (P := P) 2 (n := 1) (o := 0) (ty := t_int) (w := .int .i64 1) rfl rfl e_t_int (by simp) (by simp) (by simp)
      rw [s4] at s4'; cases s4'
      have H5 : Holds hb h4 (([.box p [.slice a xs.length c], .box q [.int .i64 V], .box r [.int .i64 1]] ++ [.own (.slice f1 f2 f3) 1 (b.o.map encI)]) ++ ([.own (.slice a xs.length c) 1 (xs.map encI)] ++ L)) := H4'
      have H6 : Holds hb h4 (bx4 p q r (.slice a xs.length c) ⟨xs, V, 1⟩ ++ L) := H5.cut
      exact gc4 HL H6
    rcases Classical.em (b.c = 0) with c2 | c2
    · simp -implicitDefEqProofs [lj, lo, CL_ret rv, lr, lq, show (b.c == 0) = true by simpa using c2]
      refine CL_post fin fun v1 h1 ⟨a, n1, c, h2, h3, h4, ev, s2, s3, s4, f2⟩ => ?_
      subst ev
      simp -implicitDefEqProofs [s2, s3, s4]
      exact f2 _
    · have c3 : V < b.v := by rcases c1 with g | g; exact absurd g c2; exact g
      simp -implicitDefEqProofs [lj, lo, CL_ret rv, lr, lq, nb c2, c3]
      refine CL_post fin fun v1 h1 ⟨a, n1, c, h2, h3, h4, ev, s2, s3, s4, f2⟩ => ?_
      subst ev
      simp -implicitDefEqProofs [s2, s3, s4]
      exact f2 _
  · have c2 : ¬ b.c = 0 := fun g => c1 (.inl g)
    have c3 : ¬ V < b.v := fun g => c1 (.inr g)
    by_cases c4 : V = b.v
    · have e : updS (valX o js) b xs = ⟨b.o, b.v, w64 (b.c + 1)⟩ := by unfold updS; rw [← hV, if_neg c1, if_pos c4]
      rw [e] at hK
      obtain ⟨h4, s4, H4, _⟩ := H.set (P := P) 2 (n := 1) (o := 0) (ty := t_int) (w := .int .i64 (IntKind.i64.wrap (b.c + 1))) rfl rfl e_t_int (by simp) (by simp) (by simp)
      have c4' : (V == b.v) = true := by simpa using c4
      simp -implicitDefEqProofs [lj, lo, CL_ret rv, lr, lq, nb c2, c3, c4', s4]
      refine onK hK ⟨.slice f1 f2 f3, fun L HL => ?_⟩
      obtain ⟨h4', s4', H4', _⟩ := HL.set (P := P) 2 (n := 1) (o := 0) (ty := t_int) (w := .int .i64 (IntKind.i64.wrap (b.c + 1))) rfl rfl e_t_int (by simp) (by simp) (by simp)
      rw [s4] at s4'; cases s4'
      exact gc4 (b' := ⟨b.o, b.v, w64 (b.c + 1)⟩) HL H4'
    · have e : updS (valX o js) b xs = b := by unfold updS; rw [← hV, if_neg c1, if_neg c4]
      rw [e] at hK
      simp -implicitDefEqProofs [lj, lo, CL_ret rv, lr, lq, nb c2, c3, nb c4]
      exact onK hK ⟨.slice f1 f2 f3, fun L HL => HL⟩
theorem best_run {h : Hp} {vj : Value} {js : List Job} {o : Int} (J : Jobs h vj js) (hg : goodL js = true) (hn : js.length ≤ 8) (ho : 1 ≤ o ∧ o ≤ 8) : RunsC P G n_impl_best [vj, .int .i64 o] h fun v h' => h <+: h' ∧ ∃ vf, v = .tuple #[vf, .int .i64 (bestV o js), .int .i64 (bestR (valX o js) js.length).c] ∧ Ints h' vf (bestR (valX o js) js.length).o := by
  refine hideC fun K hK => enter_run e_impl_best (by simp) ?_
  have Js := J
  obtain ⟨oj, cj, rfl⟩ := J.shapeT
  have H0 := (Holds.start.alloc [.slice oj js.length cj] (h := h)).alloc [.int .i64 o]
  simp only [List.append_assoc, List.cons_append, List.nil_append, List.length_append, List.length_cons, List.length_nil, Nat.zero_add] at H0
  generalize hHb : h ++ [some ⟨[.slice oj js.length cj], 0, false⟩, some ⟨[.int .i64 o], 0, false⟩] = hb at H0
  have hbl : hb.length = h.length + 1 + 1 := by rw [← hHb]; simp
  have E0 := own_nil (((Holds.start.alloc [.slice none 0 0] (h := hb)).alloc [.int .i64 0]).alloc [.int .i64 0]) Int encI 1
  simp only [List.append_assoc, List.cons_append, List.nil_append, List.length_append, List.length_cons, List.length_nil, Nat.zero_add] at E0
  have E : Holds hb (hb ++ [some ⟨[.slice none 0 0], 0, false⟩, some ⟨[.int .i64 0], 0, false⟩, some ⟨[.int .i64 0], 0, false⟩]) (bx4 hb.length (hb.length + 1) (hb.length + 1 + 1) (.slice none 0 0) sr0 ++ []) := E0
  have er := eachOrder_run (hb := hb) (g := n_impl_best_1) (c := #[.pointer (some ⟨h.length, 0, some 1⟩), .pointer (some ⟨h.length + 1, 0, some 1⟩), .pointer (some ⟨hb.length + 1 + 1, 0, some 1⟩), .pointer (some ⟨hb.length + 1, 0, some 1⟩), .pointer (some ⟨hb.length, 0, some 1⟩)]) hn
    (Q := fun i BX => ∃ vf, BX = bx4 hb.length (hb.length + 1) (hb.length + 1 + 1) vf (((ordsL js.length).take i).foldl (updS (valX o js)) sr0))
    (fun i BX i' BX' h h' L u ⟨vf, e⟩ ⟨vf', e'⟩ HL H' => by subst e; subst e'; exact gc4 HL H')
    (fun i xs h BX vg ⟨vf, eBX⟩ hxs HB => by
      subst eBX
      refine RunsC.mono (tell1_run (Js.pre H0.pre) (H0.box 0 rfl) (H0.box 1 rfl) hg hn ho (ords_ord (List.mem_of_getElem? hxs)) HB) fun v h' ⟨vf', F⟩ => ?_
      refine ⟨_, ⟨vf', rfl⟩, fun L HL => ?_⟩
      have := F L HL
      rw [take_succ' hxs, List.foldl_append, List.foldl_cons, List.foldl_nil]
      exact this) ⟨_, rfl⟩ E
  have hcount : hb ++ [some ⟨[.slice none 0 0], 0, false⟩, some ⟨[.int .i64 0], 0, false⟩, some ⟨[.int .i64 0], 0, false⟩] = h ++ [some ⟨[.slice oj js.length cj], 0, false⟩, some ⟨[.int .i64 o], 0, false⟩, some ⟨[.slice none 0 0], 0, false⟩, some ⟨[.int .i64 0], 0, false⟩, some ⟨[.int .i64 0], 0, false⟩] := by rw [← hHb]; simp
  rw [hcount, hbl] at er
  rw [hcount] at E
  simp -implicitDefEqProofs
  refine CL_post er fun v h4 ⟨BX', ⟨vf, eBX⟩, F⟩ => ?_
  subst eBX
  have H4 := F [] (by rw [← hbl]; exact E)
  rw [List.take_length] at H4
  have s4 : Ints h4 vf (bestR (valX o js) js.length).o := H4.sees 3 rfl
  obtain ⟨a, c, rfl⟩ := s4.shapeT
  have l0 := H4.bl (P := P) 0 1 rfl rfl
  have l1 := H4.bl (P := P) 1 1 rfl rfl
  have l2 := H4.bl (P := P) 2 1 rfl rfl
  simp only [Nat.add_assoc, Nat.reduceAdd] at l0 l1 l2
  simp -implicitDefEqProofs [l0, l1, l2]
  exact onK hK ⟨pre_gcU (H0.pre.trans H4.pre), _, rfl, Sees.gcU s4 fun g => plainT (r := [_, _]) g⟩
end Go.Pm.PP

/- Best orders and exchanges of neighbours, in plain terms. -/
set_option linter.unusedVariables false
set_option linter.unusedSimpArgs false
namespace Go.Pm.PE
theorem perms_all : ∀ {n : Nat} {l xs : List Int}, l.length = n → xs.Perm l → xs ∈ perms l n
  | 0, l, xs, h, hp => by
    have hl : l = [] := List.eq_nil_of_length_eq_zero h
    subst hl
    rw [List.perm_nil.1 hp]; simp [perms]
  | n + 1, l, [], h, hp => by
    have := hp.length_eq
    rw [h] at this; simp at this
  | n + 1, l, x :: r, h, hp => by
    have hx : x ∈ l := hp.mem_iff.1 (List.mem_cons_self ..)
    obtain ⟨i, hi⟩ := List.getElem?_of_mem hx
    have hil := (List.getElem?_eq_some_iff.1 hi).1
    have e : l.Perm (x :: l.eraseIdx i) := by
      have e2 : l = l.take i ++ x :: l.drop (i + 1) := by
        obtain ⟨y, hy, hd⟩ := drop_at hil
        rw [hi] at hy; cases hy
        conv => lhs; rw [← List.take_append_drop i l, hd]
      rw [List.eraseIdx_eq_take_drop_succ]
      conv => lhs; rw [e2]
      exact List.perm_middle
    have hr : r.Perm (l.eraseIdx i) := (List.perm_cons x).1 (hp.trans e)
    rw [perms, List.mem_flatMap]
    refine ⟨i, by simp [List.mem_range'_1, hil], List.mem_map.2 ⟨r, perms_all (by rw [List.length_eraseIdx_of_lt hil]; omega) hr, ?_⟩⟩
    rw [hi, Option.getD_some]
theorem perms_le {n : Nat} : ∀ {m : Nat} {l : List Int}, l.length = m → m ≤ n → (perms l m).length ≤ n ^ m
  | 0, l, _, _ => by simp [perms]
  | m + 1, l, h, hm => by
    rw [perms]
    have go : ∀ (is : List Nat), (∀ i, i ∈ is → i < l.length) → (is.flatMap fun i => (perms (l.eraseIdx i) m).map ((l[i]?.getD 0) :: ·)).length ≤ is.length * n ^ m := fun is => by
      induction is with
      | nil => intro _; simp
      | cons i is ih =>
        intro hi
        have h1 := ih fun j hj => hi j (List.mem_cons_of_mem _ hj)
        have h2 := perms_le (n := n) (m := m) (l := l.eraseIdx i) (by rw [List.length_eraseIdx_of_lt (hi i (List.mem_cons_self ..))]; omega) (by omega)
        rw [List.flatMap_cons, List.length_append, List.length_map, List.length_cons, Nat.add_mul]
        omega
    refine Nat.le_trans (go _ fun i hi => by simpa [List.mem_range'_1] using hi) ?_
    rw [List.length_range', h, Nat.pow_succ, Nat.mul_comm]
    exact Nat.mul_le_mul_left _ hm
end Go.Pm.PE
namespace Go.Pm.PP
open Go.Pm Go.Pm.PE
theorem ord_mem {n : Nat} {xs : List Int} (h : Ord n xs) : xs ∈ ordsL n := by
  refine perms_all (upTo_len n) ((List.perm_ext_iff_of_nodup h.nd (upTo_nodup n)).2 fun x => ?_)
  rw [mem_upTo]
  refine ⟨fun hx => h.inn x hx, fun hx => ?_⟩
  have := h.all (i := x.toNat) (by omega)
  rwa [show ((x.toNat : Nat) : Int) = x by omega] at this
theorem ords_le {n : Nat} (hn : n ≤ 8) : (ordsL n).length ≤ 8 ^ 8 := by
  refine Nat.le_trans (perms_le (n := 8) (upTo_len n) hn) (Nat.pow_le_pow_right (by omega) hn)
theorem best_fold {f : List Int → Int} {B : Nat} (hB : B ≤ 2 ^ 40) : ∀ {l : List (List Int)} {b : Sr} {k : Nat} {S : List Int → Prop}, (∀ xs, xs ∈ l → S xs) → k + l.length ≤ B → ((k = 0 ∧ b.c = 0) ∨ (1 ≤ b.c ∧ b.c ≤ k ∧ f b.o = b.v ∧ S b.o)) →
    (l = [] ∧ l.foldl (updS f) b = b) ∨ (1 ≤ (l.foldl (updS f) b).c ∧ f (l.foldl (updS f) b).o = (l.foldl (updS f) b).v ∧ S (l.foldl (updS f) b).o ∧ (k = 0 ∨ (l.foldl (updS f) b).v ≤ b.v) ∧ ∀ xs, xs ∈ l → (l.foldl (updS f) b).v ≤ f xs)
  | [], b, k, S, _, _, _ => .inl ⟨rfl, rfl⟩
  | x :: l, b, k, S, hS, hk, hb => by
    right
    rw [List.foldl_cons]
    simp only [List.length_cons] at hk
    have hx := hS x (List.mem_cons_self ..)
    have key : (1 ≤ (updS f b x).c ∧ (updS f b x).c ≤ (k + 1 : Nat) ∧ f (updS f b x).o = (updS f b x).v ∧ S (updS f b x).o) ∧ (updS f b x).v ≤ f x ∧ (k = 0 ∨ (updS f b x).v ≤ b.v) := by
      unfold updS
      split
      · rename_i g
        refine ⟨⟨by simp, by simp; omega, rfl, hx⟩, by simp, ?_⟩
        rcases hb with ⟨h0, _⟩ | ⟨h1, h2, h3, h4⟩
        · exact .inl h0
        · refine .inr ?_
          rcases g with g | g
          · omega
          · simp only; omega
      · rename_i g
        rcases hb with ⟨h0, h1⟩ | ⟨h1, h2, h3, h4⟩
        · exact absurd (.inl h1) g
        · split
          · rename_i g2
            have w : w64 (b.c + 1) = b.c + 1 := by unfold w64; rw [wrap_ok] <;> omega
            refine ⟨⟨?_, ?_, h3, h4⟩, ?_, .inr (Int.le_refl _)⟩
            · simp only [w]; omega
            · simp only [w]; omega
            · simp only; omega
          · refine ⟨⟨h1, by omega, h3, h4⟩, ?_, .inr (Int.le_refl _)⟩
            have : ¬ f x < b.v := fun h => g (.inr h)
            omega
    obtain ⟨k1, k2, k3⟩ := key
    rcases best_fold hB (l := l) (b := updS f b x) (k := k + 1) (S := S) (fun y hy => hS y (List.mem_cons_of_mem _ hy)) (by omega) (.inr k1) with ⟨e, h⟩ | ⟨h1, h2, h3, h4, h5⟩
    · subst e
      rw [List.foldl_nil]
      refine ⟨k1.1, k1.2.2.1, k1.2.2.2, k3, fun xs hxs => ?_⟩
      rcases List.mem_cons.1 hxs with rfl | g
      · exact k2
      · cases g
    · refine ⟨h1, h2, h3, ?_, fun xs hxs => ?_⟩
      · rcases k3 with g | g
        · exact .inl g
        · right; rcases h4 with h4 | h4 <;> omega
      · rcases List.mem_cons.1 hxs with rfl | g
        · rcases h4 with h4 | h4 <;> omega
        · exact h5 xs g
theorem best_facts {f : List Int → Int} {n : Nat} (hn : n ≤ 8) : 1 ≤ (bestR f n).c ∧ f (bestR f n).o = (bestR f n).v ∧ Ord n (bestR f n).o ∧ ∀ xs, Ord n xs → (bestR f n).v ≤ f xs := by
  have h0 : upTo n ∈ ordsL n := perms_all (upTo_len n) (List.Perm.refl _)
  have l8 := ords_le hn
  have e8 : (8 : Nat) ^ 8 = 16777216 := by decide
  rcases best_fold (f := f) (B := 2 ^ 40) (Nat.le_refl _) (l := ordsL n) (b := sr0) (k := 0) (S := Ord n) (fun xs hx => ords_ord hx) (by omega) (.inl ⟨rfl, rfl⟩) with ⟨e, _⟩ | ⟨h1, h2, h3, _, h5⟩
  · rw [e] at h0; cases h0
  · exact ⟨h1, h2, h3, fun xs hx => h5 xs (ord_mem hx)⟩
/-! ### exchanges of neighbours -/
def swp (xs : List Int) (i : Nat) : List Int := (xs.set i (gE xs (i + 1))).set (i + 1) (gE xs i)
theorem swp_len {xs : List Int} {i : Nat} : (swp xs i).length = xs.length := by simp [swp]
theorem swp_split {xs : List Int} {i : Nat} (h : i + 1 < xs.length) : ∃ A x y C, xs = A ++ x :: y :: C ∧ A.length = i ∧ swp xs i = A ++ y :: x :: C := by
  obtain ⟨x, hx, hd⟩ := drop_at (show i < xs.length by omega)
  obtain ⟨y, hy, hd2⟩ := drop_at h
  have e : xs = xs.take i ++ x :: y :: xs.drop (i + 2) := by conv => lhs; rw [← List.take_append_drop i xs, hd, hd2]
  have lt : (xs.take i).length = i := by rw [List.length_take]; omega
  refine ⟨xs.take i, x, y, xs.drop (i + 2), e, lt, ?_⟩
  have gx : gE xs i = x := by unfold gE; rw [hx]; rfl
  have gy : gE xs (i + 1) = y := by unfold gE; rw [hy]; rfl
  unfold swp
  rw [gx, gy]
  conv => lhs; rw [e]
  rw [List.set_append_right (h := by omega), lt, Nat.sub_self, List.set_cons_zero, List.set_append_right (h := by omega), lt, Nat.add_sub_cancel_left]
  rfl
theorem swp_perm {xs : List Int} {i : Nat} (h : i + 1 < xs.length) : (swp xs i).Perm xs := by
  obtain ⟨A, x, y, C, e1, _, e2⟩ := swp_split h
  rw [e2]
  conv => rhs; rw [e1]
  exact List.Perm.append_left A (List.Perm.swap ..)
theorem swp_ord {n : Nat} {xs : List Int} {i : Nat} (o : Ord n xs) (h : i + 1 < xs.length) : Ord n (swp xs i) := by
  have p := swp_perm h
  exact ⟨by rw [swp_len]; exact o.len, fun x hx => o.inn x (p.mem_iff.1 hx), p.nodup_iff.2 o.nd⟩
def gn (f : List Int → Int) (xs : List Int) (i : Nat) : Int := f xs - f (swp xs i)
/-- The first place from i on, of m places, at which an exchange gains. -/
def nxGo (f : List Int → Int) (xs : List Int) : Nat → Nat → Option Nat
  | i, 0 => none
  | i, m + 1 => if 0 < gn f xs i then some i else nxGo f xs (i + 1) m
def nxt (f : List Int → Int) (xs : List Int) : Option Nat := nxGo f xs 0 (xs.length - 1)
theorem nxGo_some {f : List Int → Int} {xs : List Int} : ∀ {m i k : Nat}, nxGo f xs i m = some k → i ≤ k ∧ k < i + m ∧ 0 < gn f xs k
  | 0, i, k, h => by cases h
  | m + 1, i, k, h => by
    rw [nxGo] at h
    split at h
    · rename_i g; cases h; exact ⟨Nat.le_refl _, by omega, g⟩
    · have := nxGo_some h; exact ⟨by omega, by omega, this.2.2⟩
theorem nxt_some {f : List Int → Int} {xs : List Int} {k : Nat} (h : nxt f xs = some k) : k + 1 < xs.length ∧ 0 < gn f xs k := by
  have := nxGo_some h; exact ⟨by omega, this.2.2⟩
def nxV (o : Option Nat) : Int := match o with | some i => i | none => -1
def down (f : List Int → Int) : Nat → List Int → List Int × Nat
  | 0, xs => (xs, 0)
  | m + 1, xs => match nxt f xs with
    | none => (xs, 0)
    | some i => ((down f m (swp xs i)).1, (down f m (swp xs i)).2 + 1)
theorem down_facts {f : List Int → Int} {n : Nat} {B : Int} (hf : ∀ xs, Ord n xs → -B ≤ f xs) : ∀ {m : Nat} {xs : List Int}, Ord n xs → f xs + B < m →
    Ord n (down f m xs).1 ∧ f (down f m xs).1 ≤ f xs ∧ nxt f (down f m xs).1 = none ∧ ((down f m xs).2 = 0 ↔ nxt f xs = none) ∧ (down f m xs).2 ≤ m
  | 0, xs, o, h => by have := hf xs o; omega
  | m + 1, xs, o, h => by
    rw [down]
    cases e : nxt f xs with
    | none => exact ⟨o, Int.le_refl _, e, by simp, by simp⟩
    | some i =>
      obtain ⟨h1, h2⟩ := nxt_some e
      unfold gn at h2
      have ih := down_facts hf (m := m) (swp_ord o h1) (by omega)
      refine ⟨ih.1, by have := ih.2.1; simp only; omega, ih.2.2.1, by simp, by have := ih.2.2.2.2; simp only; omega⟩
end Go.Pm.PP

/- Typed rules for slices: printed by a program of this work (wrap.py). -/
set_option linter.unusedVariables false
set_option linter.unusedSimpArgs false
set_option maxRecDepth 4000
namespace Go.Pm.PP
def encU (x : Int) : List Value := [.int .u8 x]
open Go.Pm Go.Proofs
theorem load_U {h : Hp} {v : Value} {xs : List (Int)} {i : Nat} {x : Int} (hv : Sees h v 1 (xs.map encU)) (hx : xs[i]? = some x) :
    indexAddrP P h t_S_u8 v (.int .i64 i) = some (.pointer (some (addP (base v) (i)))) ∧ loadP P h t_u8 (.pointer (some (addP (base v) (i)))) = some (.int .u8 x) := by
  have hi := (List.getElem?_eq_some_iff.1 hx).1
  have h1 := hv.indexT (P := P) u_S_u8 i_u8 (k := .i64) (j := i) (by omega) (by omega)
  rw [Int.toNat_natCast] at h1
  have h2 := hv.cellT (P := P) (ty := t_u8) a_u8 i_u8 hx (k := 0) (by omega)
  exact ⟨by simpa using h1, by simpa [encU] using h2⟩
theorem len_U (xs : List (Int)) : ∀ e ∈ xs.map encU, e.length = 1 := by
  intro e he
  obtain ⟨x, _, rfl⟩ := List.mem_map.1 he
  rfl
theorem ones_U (xs : List (Int)) : (xs.map encU).flatten.all one = true := by
  induction xs with
  | nil => rfl
  | cons x xs ih => rw [List.map_cons, List.flatten_cons, List.all_append, ih]; rfl
theorem push_U0 {h0 h : Hp} {L : List Asn} (H : Holds h0 h L) (i : Nat) {v : Value} {xs : List (Int)} (hi : L[i]? = some (.own v 1 (xs.map encU))) (x : Int) (hn : xs.length ≤ 2 ^ 40) :
    ∃ v' h', appendP P (h ++ [some ⟨[.int .u8 x], 1, false⟩]) t_S_u8 v (.slice (some ⟨h.length, 0, some 1⟩) 1 1) = some (v', h') ∧ Holds h0 h' (L.set i (.own v' 1 ((xs ++ [x]).map encU))) ∧ Keeps (rowV v) h h' ∧ (rowV v = none → newOk (h ++ [some ⟨[.int .u8 x], 1, false⟩]) h') := by
  obtain ⟨v', h', g1, g2, g3, g4⟩ := (H.ext (List.prefix_append h [])).push (P := P) i (y := encU x) (n := 1) hi u_S_u8 e_t_u8 z_t_u8 s_t_u8 (by omega) (by rw [b_t_u8]; omega) rfl rfl (by simp [encU]) (by rw [b_t_u8]; simp; omega)
  rw [show xs.map encU ++ [encU x] = (xs ++ [x]).map encU by simp] at g2
  exact ⟨v', h', by simpa [encU] using g1, g2, Keeps.app.trans g3, by simpa [encU] using g4⟩
theorem push_U1 {h0 h : Hp} {L : List Asn} (H : Holds h0 h L) (i : Nat) {v : Value} {xs : List (Int)} (hi : L[i]? = some (.own v 1 (xs.map encU))) (x : Int) {a1 : Option Row} (hn : xs.length ≤ 2 ^ 40) :
    ∃ v' h', appendP P (h ++ [a1, some ⟨[.int .u8 x], 1, false⟩]) t_S_u8 v (.slice (some ⟨h.length + 1, 0, some 1⟩) 1 1) = some (v', h') ∧ Holds h0 h' (L.set i (.own v' 1 ((xs ++ [x]).map encU))) ∧ Keeps (rowV v) h h' ∧ (rowV v = none → newOk (h ++ [a1, some ⟨[.int .u8 x], 1, false⟩]) h') := by
  obtain ⟨v', h', g1, g2, g3, g4⟩ := (H.ext (List.prefix_append h [a1])).push (P := P) i (y := encU x) (n := 1) hi u_S_u8 e_t_u8 z_t_u8 s_t_u8 (by omega) (by rw [b_t_u8]; omega) rfl rfl (by simp [encU]) (by rw [b_t_u8]; simp; omega)
  rw [show xs.map encU ++ [encU x] = (xs ++ [x]).map encU by simp] at g2
  exact ⟨v', h', by simpa [encU] using g1, g2, Keeps.app.trans g3, by simpa [encU] using g4⟩
theorem push_U2 {h0 h : Hp} {L : List Asn} (H : Holds h0 h L) (i : Nat) {v : Value} {xs : List (Int)} (hi : L[i]? = some (.own v 1 (xs.map encU))) (x : Int) {a1 a2 : Option Row} (hn : xs.length ≤ 2 ^ 40) :
    ∃ v' h', appendP P (h ++ [a1, a2, some ⟨[.int .u8 x], 1, false⟩]) t_S_u8 v (.slice (some ⟨h.length + 2, 0, some 1⟩) 1 1) = some (v', h') ∧ Holds h0 h' (L.set i (.own v' 1 ((xs ++ [x]).map encU))) ∧ Keeps (rowV v) h h' ∧ (rowV v = none → newOk (h ++ [a1, a2, some ⟨[.int .u8 x], 1, false⟩]) h') := by
  obtain ⟨v', h', g1, g2, g3, g4⟩ := (H.ext (List.prefix_append h [a1, a2])).push (P := P) i (y := encU x) (n := 1) hi u_S_u8 e_t_u8 z_t_u8 s_t_u8 (by omega) (by rw [b_t_u8]; omega) rfl rfl (by simp [encU]) (by rw [b_t_u8]; simp; omega)
  rw [show xs.map encU ++ [encU x] = (xs ++ [x]).map encU by simp] at g2
  exact ⟨v', h', by simpa [encU] using g1, g2, Keeps.app.trans g3, by simpa [encU] using g4⟩
theorem app_U {h0 h : Hp} {L : List Asn} (H : Holds h0 h L) (i : Nat) {v u : Value} {xs ys : List (Int)} (hi : L[i]? = some (.own v 1 (xs.map encU))) (s : Sees h u 1 (ys.map encU)) (hn : xs.length + ys.length ≤ 2 ^ 40) :
    ∃ v' h', appendP P h t_S_u8 v u = some (v', h') ∧ Holds h0 h' (L.set i (.own v' 1 ((xs ++ ys).map encU))) ∧ Keeps (rowV v) h h' := by
  obtain ⟨v', h', g1, g2, g3⟩ := H.app (P := P) i hi u_S_u8 e_t_u8 z_t_u8 s_t_u8 (by omega) (by rw [b_t_u8]; omega) s (ones_U ys) (by rw [b_t_u8]; simp; omega)
  rw [← List.map_append] at g2
  exact ⟨v', h', g1, g2, g3⟩
theorem put_U {h0 h : Hp} {L : List Asn} (H : Holds h0 h L) (i : Nat) {v : Value} {xs : List (Int)} (hi : L[i]? = some (.own v 1 (xs.map encU))) {j : Nat} (hj : j < xs.length) (x : Int) :
    ∃ h', storeP P h t_u8 (.int .u8 x) (.pointer (some (addP (base v) (j)))) = some h' ∧ Holds h0 h' (L.set i (.own v 1 ((xs.set j x).map encU))) ∧ Keeps (rowV v) h h' := by
  have := H.put (P := P) i (t := t_u8) (w := .int .u8 x) (j := j) hi i_u8 (by simpa using hj) rfl (by simp)
  simpa [List.map_set, encU] using this
end Go.Pm.PP

/- Draws: bytes, numbers, one of some. -/
set_option linter.unusedVariables false
set_option linter.unusedSimpArgs false
set_option maxRecDepth 4000
set_option maxHeartbeats 8000000
namespace Go.Pm.PP
open Go.Pm Go.Proofs Go.Pm.PE
/-- A cursor over bytes. -/
abbrev cu (r : Nat) (vc : Value) (at' sd : Int) : Asn := .box r [vc, .int .i64 at', .int .u64 sd]
/-- A code that is read. -/
def By (h0 : Hp) (vc : Value) : Prop := ∃ bs : List Int, Sees h0 vc 1 (bs.map encU) ∧ (∀ b, b ∈ bs → 0 ≤ b ∧ b ≤ 255) ∧ bs.length ≤ 2 ^ 20
def Cur (h0 h : Hp) (r : Nat) (vc : Value) (n : Nat) (L : List Asn) : Prop := ∃ a s : Int, 0 ≤ a ∧ a ≤ n ∧ Holds h0 h (cu r vc a s :: L)
section
variable {h0 h h' : Hp} {r n m : Nat} {vc u w : Value} {L T : List Asn}
theorem Cur.mono (C : Cur h0 h r vc n L) (hm : n ≤ m) : Cur h0 h r vc m L := by
  obtain ⟨a, s, h1, h2, H⟩ := C
  exact ⟨a, s, h1, by omega, H⟩
theorem Cur.weak (C : Cur h0 h r vc n (L ++ T)) : Cur h0 h r vc n L := by
  obtain ⟨a, s, h1, h2, H⟩ := C
  exact ⟨a, s, h1, h2, Holds.weak (T := T) H⟩
theorem Cur.pre (C : Cur h0 h r vc n L) : h0 <+: h := by
  obtain ⟨a, s, h1, h2, H⟩ := C
  exact H.pre
/-- At a function's end. -/
theorem Cur.gc (C : Cur h0 h r vc n L) (C' : Cur h0 h' r vc m L) : Cur h0 (gc h h' u) r vc m L := by
  obtain ⟨a, s, _, _, H⟩ := C
  obtain ⟨a', s', h1, h2, H'⟩ := C'
  exact ⟨a', s', h1, h2, H.gcR H' rfl⟩
theorem Cur.gcO {sz : Nat} {els : List (List Value)} (C : Cur h0 h r vc n L) (C' : Cur h0 h' r vc m (L ++ [.own w sz els])) (hu : plain u = true → plainC w = true) : Cur h0 (Pm.gc h h' u) r vc m (L ++ [.own w sz els]) := by
  obtain ⟨a, s, _, _, H⟩ := C
  obtain ⟨a', s', h1, h2, H'⟩ := C'
  refine ⟨a', s', h1, h2, ?_⟩
  rcases gc_cases h h' u with g | ⟨hp, g⟩
  · rw [g]; exact H'
  · have G := H.gcR (u := u) (L' := cu r vc a' s' :: L) (Holds.weak (L := cu r vc a' s' :: L) (T := [.own w sz els]) H') rfl
    rw [g] at G ⊢
    have hw := hu hp
    have ho := H'.own (L.length + 1) (v := w) (sz := sz) (els := els) (by
      rw [List.getElem?_cons_succ, List.getElem?_append_right (Nat.le_refl _), Nat.sub_self]; rfl)
    have hn : els = [] := by
      rcases ho.2 with ⟨_, h2⟩ | ⟨_, _, _, _, _, h2, _⟩
      · exact h2
      · rw [h2] at hw; cases hw
    subst hn
    have hw2 : w = nilV := by
      obtain ⟨a, c, e⟩ := ho.sees.shape
      rw [e] at hw ⊢
      simp only [List.length_nil] at hw ⊢
      match a, c, hw with
      | none, 0, _ => rfl
    subst hw2
    exact G.call List.prefix_rfl Own.nil
end
theorem wrap_u64 {n : Int} (h1 : 0 ≤ n) (h2 : n ≤ 255) : IntKind.u64.wrap n = n := by
  unfold IntKind.wrap
  simp [IntKind.signed, IntKind.bits]
  omega
theorem and_bd (p : Nat) : 0 ≤ IntKind.i64.wrap (IntKind.u64.wrap ↑(p &&& (255 % 2 ^ IntKind.u64.bits : Int).toNat)) ∧ IntKind.i64.wrap (IntKind.u64.wrap ↑(p &&& (255 % 2 ^ IntKind.u64.bits : Int).toNat)) ≤ 255 := by
  have e : (255 % 2 ^ IntKind.u64.bits : Int).toNat = 255 := by decide
  rw [e]
  have : p &&& 255 ≤ 255 := Nat.and_le_right
  rw [wrap_u64 (by omega) (by omega), wrap_ok (by omega) (by omega)]
  omega
theorem emod_le' {a k : Int} (h : 0 ≤ a) (hk : 0 ≤ k) : a % k ≤ a := by
  obtain ⟨n, rfl⟩ := Int.eq_ofNat_of_zero_le h
  obtain ⟨m, rfl⟩ := Int.eq_ofNat_of_zero_le hk
  have := Nat.mod_le n m
  rw [← Int.natCast_emod]
  exact Int.ofNat_le.2 this
theorem cv1 {b : Int} : convP P t_u8 t_int (.int .u8 b) = some (.int .i64 (IntKind.i64.wrap b)) := by unfold convP; rw [u_u8, u_int]
theorem cv2 {b : Int} : convP P t_int t_u64 (.int .i64 b) = some (.int .u64 (IntKind.u64.wrap b)) := by unfold convP; rw [u_int, u_u64]
theorem cv3 {b : Int} : convP P t_u64 t_int (.int .u64 b) = some (.int .i64 (IntKind.i64.wrap b)) := by unfold convP; rw [u_u64, u_int]
theorem shr40 (a : Int) : ∃ z : Int, shiftI .shr .u64 a 40 = some (.int .u64 z) := ⟨_, rfl⟩
section
variable {h0 h : Hp} {r n : Nat} {vc : Value} {L : List Asn}
theorem next_run (B : By h0 vc) (C : Cur h0 h r vc n L) (hn : n ≤ 2 ^ 50) : RunsC P G n_spec_l1Cur_next [.pointer (some ⟨r, 0, some 3⟩)] h fun v h' => ∃ x : Int, v = .int .i64 x ∧ 0 ≤ x ∧ x ≤ 255 ∧ Cur h0 h' r vc (n + 1) L := by
  refine hideC fun K hK => enter_run e_spec_l1Cur_next (by simp) ?_
  have Cs := C
  obtain ⟨bs, Sb, hb, hl⟩ := B
  obtain ⟨a, s, a0, a1, H⟩ := C
  obtain ⟨ob, cb, rfl⟩ := Sb.shapeT
  have Sb' := Sb.pre H.pre
  have l1 := H.bl (P := P) 0 3 rfl rfl
  obtain ⟨h1, s1, H1, _⟩ := H.set (P := P) 0 (n := 3) (o := 1) (ty := t_int) (w := .int .i64 (a + 1)) rfl rfl e_t_int (by simp) (by simp) (by simp)
  have l2 := H1.bl (P := P) 0 3 rfl rfl
  have wa : IntKind.i64.wrap (a + 1) = a + 1 := by rw [wrap_ok] <;> omega
  by_cases c1 : a < bs.length
  · obtain ⟨b, hbb, _⟩ := drop_at (show a.toNat < bs.length by omega)
    have lb := load_U Sb' hbb
    rw [show ((a.toNat : Nat) : Int) = a by omega] at lb
    have hb' := hb b (List.mem_of_getElem? hbb)
    have wb : IntKind.i64.wrap b = b := by rw [wrap_ok] <;> omega
    have c2 : a + 1 ≤ bs.length := by omega
    obtain ⟨h2, s2, H2, _⟩ := H1.set (P := P) 0 (n := 3) (o := 2) (ty := t_u64) (w := .int .u64 (IntKind.u64.wrap (IntKind.u64.wrap (IntKind.u64.wrap (s * 6364136223846793005) + IntKind.u64.wrap b) + 462197))) rfl rfl e_t_u64 (by simp) (by simp) (by simp)
    have l3 := H2.bl (P := P) 0 3 rfl rfl
    simp -implicitDefEqProofs [-indexAddrP_some, l1, c1, lb, wb, wa, s1, l2, s2, l3, c2, cv1, cv2, cv3]
    exact onK hK ⟨b, rfl, hb'.1, hb'.2, Cs.gc ⟨a + 1, _, by omega, by omega, H2⟩⟩
  · have c2 : ¬ a + 1 ≤ bs.length := by omega
    obtain ⟨h2, s2, H2, _⟩ := H1.set (P := P) 0 (n := 3) (o := 2) (ty := t_u64) (w := .int .u64 (IntKind.u64.wrap (IntKind.u64.wrap (IntKind.u64.wrap (s * 6364136223846793005) + IntKind.u64.wrap 0) + 462197))) rfl rfl e_t_u64 (by simp) (by simp) (by simp)
    have l3 := H2.bl (P := P) 0 3 rfl rfl
    obtain ⟨z, hz⟩ := shr40 (IntKind.u64.wrap (IntKind.u64.wrap (IntKind.u64.wrap (s * 6364136223846793005) + IntKind.u64.wrap 0) + 462197))
    simp -implicitDefEqProofs [-indexAddrP_some, l1, c1, wa, s1, l2, s2, l3, c2, cv1, cv2, cv3, hz]
    exact onK hK ⟨_, rfl, (and_bd _).1, (and_bd _).2, Cs.gc ⟨a + 1, _, by omega, by omega, H2⟩⟩
theorem pick_run (B : By h0 vc) (C : Cur h0 h r vc n L) (hn : n ≤ 2 ^ 40) {k : Int} (hk : k ≤ 2 ^ 40) : RunsC P G n_spec_l1Cur_pick [.pointer (some ⟨r, 0, some 3⟩), .int .i64 k] h fun v h' => ∃ x : Int, v = .int .i64 x ∧ 0 ≤ x ∧ x ≤ 2 ^ 20 ∧ (1 ≤ k → x < k) ∧ Cur h0 h' r vc (n + 2) L := by
  refine hideC fun K hK => enter_run e_spec_l1Cur_pick (by simp) ?_
  by_cases c0 : k ≤ 1
  · simp -implicitDefEqProofs [c0]
    exact onK hK ⟨0, rfl, by omega, by omega, fun h => by omega, C.mono (by omega)⟩
  · simp -implicitDefEqProofs [c0]
    refine CL_post (next_run B C (by omega)) fun v h1 ⟨x, ev, x0, x1, C1⟩ => ?_
    subst ev
    have k0 : ¬ k = 0 := by omega
    by_cases c1 : 200 < k
    · have w1 : IntKind.i64.wrap (x * 256) = x * 256 := by rw [wrap_ok] <;> omega
      simp -implicitDefEqProofs [c1, w1]
      refine CL_post (next_run B C1 (by omega)) fun v h2 ⟨y, ev, y0, y1, C2⟩ => ?_
      subst ev
      have w2 : IntKind.i64.wrap (x * 256 + y) = x * 256 + y := by rw [wrap_ok] <;> omega
      have e : (x * 256 + y).tmod k = (x * 256 + y) % k := Int.tmod_eq_emod_of_nonneg (by omega)
      have m1 := Int.emod_nonneg (x * 256 + y) k0
      have m2 := Int.emod_lt_of_pos (x * 256 + y) (show 0 < k by omega)
      have m3 : (x * 256 + y) % k ≤ x * 256 + y := emod_le' (by omega) (by omega)
      simp -implicitDefEqProofs [w2, k0, e]
      exact onK hK ⟨_, rfl, m1, by omega, fun _ => m2, C.gc C2⟩
    · have e : x.tmod k = x % k := Int.tmod_eq_emod_of_nonneg x0
      have m1 := Int.emod_nonneg x k0
      have m2 := Int.emod_lt_of_pos x (show 0 < k by omega)
      have m3 : x % k ≤ x := emod_le' x0 (by omega)
      simp -implicitDefEqProofs [c1, k0, e]
      exact onK hK ⟨_, rfl, m1, by omega, fun _ => m2, C.gc (C1.mono (by omega))⟩
theorem one_run (B : By h0 vc) (C : Cur h0 h r vc n L) (hn : n ≤ 2 ^ 40) {k : Int} (hk : k ≤ 2 ^ 40) : RunsC P G n_spec_l1Cur_one [.pointer (some ⟨r, 0, some 3⟩), .int .i64 k] h fun v h' => ∃ b : Bool, v = .bool b ∧ Cur h0 h' r vc (n + 2) L := by
  refine hideC fun K hK => enter_run e_spec_l1Cur_one (by simp) ?_
  simp -implicitDefEqProofs
  refine CL_post (pick_run B C hn hk) fun v h1 ⟨x, ev, _, _, _, C1⟩ => ?_
  subst ev
  simp -implicitDefEqProofs
  exact onK hK ⟨_, rfl, C.gc C1⟩
theorem among_run (B : By h0 vc) {xs : List Int} {vl : Value} {i : Nat} (C : Cur h0 h r vc n L) (hn : n ≤ 2 ^ 40) (hi : L[i]? = some (.own vl 1 (xs.map encI))) (h1 : 1 ≤ xs.length) (h2 : xs.length ≤ 2 ^ 40) :
    RunsC P G n_spec_l1Cur_among [.pointer (some ⟨r, 0, some 3⟩), vl] h fun v h' => ∃ x : Int, v = .int .i64 x ∧ x ∈ xs ∧ Cur h0 h' r vc (n + 2) L := by
  refine hideC fun K hK => enter_run e_spec_l1Cur_among (by simp) ?_
  have S0 : Ints h vl xs := by obtain ⟨a, s, _, _, H⟩ := C; exact H.sees (i + 1) (by rw [List.getElem?_cons_succ]; exact hi)
  obtain ⟨oa, ca, rfl⟩ := S0.shapeT
  simp -implicitDefEqProofs
  refine CL_post (pick_run B C hn (k := xs.length) (by omega)) fun v h3 ⟨x, ev, x0, _, xk, C1⟩ => ?_
  subst ev
  have hx := xk (by omega)
  have S1 : Ints h3 (.slice oa xs.length ca) xs := by obtain ⟨a, s, _, _, H⟩ := C1; exact H.sees (i + 1) (by rw [List.getElem?_cons_succ]; exact hi)
  obtain ⟨y, hy, _⟩ := drop_at (show x.toNat < xs.length by omega)
  have ly := load_I S1 hy
  rw [show ((x.toNat : Nat) : Int) = x by omega] at ly
  simp -implicitDefEqProofs [-indexAddrP_some, ly]
  exact onK hK ⟨y, rfl, List.mem_of_getElem? hy, C.gc C1⟩
/-- A list that is told. -/
theorem Cur.lit (C : Cur h0 h r vc n L) (xs : List Int) : Cur h0 (h ++ [some ⟨xs.map fun x => .int .i64 x, 1, false⟩]) r vc n (L ++ [.own (.slice (some ⟨h.length, 0, some xs.length⟩) xs.length xs.length) 1 (xs.map encI)]) := by
  obtain ⟨a, s, h1, h2, H⟩ := C
  refine ⟨a, s, h1, h2, ?_⟩
  have e : (xs.map encI).flatten = xs.map fun x => Value.int .i64 x := by
    induction xs with
    | nil => rfl
    | cons x xs ih => rw [List.map_cons, List.flatten_cons, ih]; rfl
  have := H.lit (sz := 1) (n := xs.length) (els := xs.map encI) (len_I xs) (by simp)
  rw [e, List.length_map] at this
  exact this
theorem snoc_get {A : Asn} : (L ++ [A])[L.length]? = some A := by rw [List.getElem?_append_right (Nat.le_refl _), Nat.sub_self]; rfl
theorem objective_run (B : By h0 vc) (C : Cur h0 h r vc n L) (hn : n ≤ 2 ^ 30) : RunsC P G n_spec_l1Cur_objective [.pointer (some ⟨r, 0, some 3⟩)] h fun v h' => ∃ x : Int, v = .int .i64 x ∧ Cur h0 h' r vc (n + 4) L := by
  refine hideC fun K hK => enter_run e_spec_l1Cur_objective (by simp) ?_
  simp -implicitDefEqProofs
  refine CL_post (one_run B C (by omega) (by omega)) fun v h1 ⟨b, ev, C1⟩ => ?_
  subst ev
  cases b
  · simp -implicitDefEqProofs
    refine CL_post (pick_run B C1 (by omega) (k := 8) (by omega)) fun v h2 ⟨x, ev, x0, x1, _, C2⟩ => ?_
    subst ev
    simp -implicitDefEqProofs
    exact onK hK ⟨_, rfl, C.gc (C2.mono (by omega))⟩
  · have C2 := C1.lit [0, 9, -1]
    simp -implicitDefEqProofs
    refine CL_post (among_run B C2 (by omega) snoc_get (by simp) (by simp)) fun v h2 ⟨x, ev, _, C3⟩ => ?_
    subst ev
    simp -implicitDefEqProofs
    exact onK hK ⟨_, rfl, C.gc (C3.weak.mono (by omega))⟩
end
end Go.Pm.PP
