/- The texts PsE, PvMa, PvCa, PvMb, PvMc, PvHa, PvMd, PvHb, PvHc, PvHd, PvHe, PvHf, PvHg, PvMe, PvMf, PvMg, PvHh of this work: Sets ordered by their numbers of jobs and then lexicographically, in plain terms. -/
import Derived.Test.YtcmbjbddjlamaaaP7
/- Sets ordered by their numbers of jobs and then lexicographically, in plain terms. -/
set_option linter.unusedVariables false
set_option linter.unusedSimpArgs false
namespace Go.Pm.PE
open Go.Pm.PP
def lexB : List Int → List Int → Bool
  | a :: l, b :: r => if a = b then lexB l r else decide (a < b)
  | _, _ => false
def lessS (a b : List Int) : Bool := if a.length = b.length then lexB a b else decide (a.length < b.length)
theorem lexB_asymm : ∀ {a b : List Int}, lexB a b = true → lexB b a = false
  | [], [], h => by simp [lexB] at h
  | [], _ :: _, h => by simp [lexB] at h
  | _ :: _, [], h => by simp [lexB] at h
  | x :: a, y :: b, h => by
    simp only [lexB] at h ⊢
    by_cases c : x = y
    · subst c
      simp only [if_true] at h ⊢
      exact lexB_asymm h
    · rw [if_neg c] at h
      rw [if_neg (fun g => c g.symm)]
      simp only [decide_eq_true_eq] at h
      simp only [decide_eq_false_iff_not]
      omega
theorem lexB_trans : ∀ {a b c : List Int}, lexB a b = true → lexB b c = true → lexB a c = true
  | [], [], _, h, _ => by simp [lexB] at h
  | [], _ :: _, _, h, _ => by simp [lexB] at h
  | _ :: _, [], _, h, _ => by simp [lexB] at h
  | _ :: _, _ :: _, [], _, h => by simp [lexB] at h
  | x :: a, y :: b, z :: c, h1, h2 => by
    simp only [lexB] at h1 h2 ⊢
    by_cases c1 : x = y
    · subst c1
      simp only [if_true] at h1
      by_cases c2 : x = z
      · subst c2
        simp only [if_true] at h2 ⊢
        exact lexB_trans h1 h2
      · rw [if_neg c2] at h2 ⊢
        exact h2
    · rw [if_neg c1] at h1
      by_cases c2 : y = z
      · subst c2
        rw [if_neg c1]
        exact h1
      · rw [if_neg c2] at h2
        simp only [decide_eq_true_eq] at h1 h2
        rw [if_neg (by omega)]
        simp only [decide_eq_true_eq]
        omega
theorem lexB_total : ∀ {a b : List Int}, a.length = b.length → a ≠ b → lexB a b = true ∨ lexB b a = true
  | [], [], _, h => absurd rfl h
  | [], _ :: _, h, _ => by simp at h
  | _ :: _, [], h, _ => by simp at h
  | x :: a, y :: b, hl, h => by
    simp only [lexB]
    by_cases c : x = y
    · subst c
      simp only [if_true]
      exact lexB_total (by simpa using hl) fun g => h (by rw [g])
    · rw [if_neg c, if_neg (fun g => c g.symm)]
      simp only [decide_eq_true_eq]
      omega
theorem lessS_asymm {a b : List Int} (h : lessS a b = true) : lessS b a = false := by
  unfold lessS at h ⊢
  by_cases c : a.length = b.length
  · rw [if_pos c] at h; rw [if_pos c.symm]; exact lexB_asymm h
  · rw [if_neg c] at h
    rw [if_neg (fun g => c g.symm)]
    simp only [decide_eq_true_eq] at h
    simp only [decide_eq_false_iff_not]
    omega
theorem lessS_trans {a b c : List Int} (h1 : lessS a b = true) (h2 : lessS b c = true) : lessS a c = true := by
  unfold lessS at h1 h2 ⊢
  by_cases c1 : a.length = b.length
  · rw [if_pos c1] at h1
    by_cases c2 : b.length = c.length
    · rw [if_pos c2] at h2
      rw [if_pos (c1.trans c2)]
      exact lexB_trans h1 h2
    · rw [if_neg c2] at h2
      rw [if_neg (by omega)]
      simp only [decide_eq_true_eq] at h2 ⊢
      omega
  · rw [if_neg c1] at h1
    simp only [decide_eq_true_eq] at h1
    by_cases c2 : b.length = c.length
    · rw [if_neg (by omega)]; simp only [decide_eq_true_eq]; omega
    · rw [if_neg c2] at h2
      simp only [decide_eq_true_eq] at h2
      rw [if_neg (by omega)]; simp only [decide_eq_true_eq]; omega
theorem lessS_total {a b : List Int} (h : a ≠ b) : lessS a b = true ∨ lessS b a = true := by
  unfold lessS
  by_cases c : a.length = b.length
  · rw [if_pos c, if_pos c.symm]; exact lexB_total c h
  · rw [if_neg c, if_neg (fun g => c g.symm)]
    simp only [decide_eq_true_eq]
    omega
def insS (x : List Int) : List (List Int) → List (List Int)
  | [] => [x]
  | y :: l => if lessS y x = true then y :: insS x l else x :: y :: l
theorem insS_perm {x : List Int} : ∀ {l : List (List Int)}, (insS x l).Perm (x :: l)
  | [] => List.Perm.refl _
  | y :: l => by
    rw [insS]
    split
    · exact (insS_perm.cons y).trans (List.Perm.swap ..)
    · exact List.Perm.refl _
theorem insS_take {x : List Int} : ∀ {l : List (List Int)} {k : Nat}, k ≤ l.length → (∀ i y, i < k → l[i]? = some y → lessS y x = true) → (∀ y, l[k]? = some y → lessS y x = false) → insS x l = l.take k ++ x :: l.drop k
  | [], k, hk, _, _ => by
    obtain rfl : k = 0 := by simpa using hk
    rfl
  | y :: l, 0, _, _, h => by
    rw [insS, if_neg (by rw [h y rfl]; simp)]
    rfl
  | y :: l, k + 1, hk, h1, h2 => by
    rw [insS, if_pos (h1 0 y (by omega) rfl), insS_take (k := k) (by simpa using hk) (fun i z hi hz => h1 (i + 1) z (by omega) (by simpa using hz)) fun z hz => h2 z (by simpa using hz)]
    rfl
abbrev SrtS (l : List (List Int)) : Prop := l.Pairwise fun a b => lessS a b = true
theorem insS_srt {x : List Int} : ∀ {l : List (List Int)}, SrtS l → x ∉ l → SrtS (insS x l)
  | [], _, _ => List.pairwise_singleton ..
  | y :: l, h, hx => by
    obtain ⟨h1, h2⟩ := List.pairwise_cons.1 h
    have hxy : x ≠ y := fun g => hx (by rw [g]; exact List.mem_cons_self ..)
    rw [insS]
    split
    · rename_i c
      refine List.pairwise_cons.2 ⟨fun z hz => ?_, insS_srt h2 fun g => hx (List.mem_cons_of_mem _ g)⟩
      rcases List.mem_cons.1 (insS_perm.mem_iff.1 hz) with rfl | g
      · exact c
      · exact h1 z g
    · rename_i c
      have hxy' : lessS x y = true := (lessS_total hxy).resolve_right c
      refine List.pairwise_cons.2 ⟨fun z hz => ?_, h⟩
      rcases List.mem_cons.1 hz with rfl | g
      · exact hxy'
      · exact lessS_trans hxy' (h1 z g)
/-- The place that is found from behind is the same one. -/
theorem insS_back {x : List Int} {l : List (List Int)} (hs : SrtS l) (hx : x ∉ l) {k : Nat} (hk : k ≤ l.length) (h1 : ∀ i y, k ≤ i → l[i]? = some y → lessS x y = true) (h2 : ∀ y, 0 < k → l[k - 1]? = some y → lessS x y = false) : insS x l = l.take k ++ x :: l.drop k := by
  refine insS_take hk (fun i y hi hy => ?_) fun y hy => lessS_asymm (h1 k y (Nat.le_refl _) hy)
  have hl : k - 1 < l.length := by omega
  have hz : l[k - 1]? = some l[k - 1] := List.getElem?_eq_getElem hl
  have g := h2 _ (by omega) hz
  have hzx : l[k - 1] ≠ x := fun e => hx (e ▸ List.getElem_mem hl)
  have hzl : lessS l[k - 1] x = true := by
    rcases lessS_total hzx with a | a
    · exact a
    · rw [g] at a; cases a
  rcases Nat.lt_or_ge i (k - 1) with e | e
  · obtain ⟨hi', ey⟩ := List.getElem?_eq_some_iff.1 hy
    have := List.pairwise_iff_getElem.1 hs i (k - 1) hi' hl e
    rw [ey] at this
    exact lessS_trans this hzl
  · have : i = k - 1 := by omega
    subst this
    rw [hz] at hy; cases hy
    exact hzl
theorem foldS_perm : ∀ {l acc : List (List Int)}, (l.foldl (fun l x => insS x l) acc).Perm (acc ++ l)
  | [], acc => by rw [List.foldl_nil, List.append_nil]
  | x :: l, acc => by
    rw [List.foldl_cons]
    refine foldS_perm.trans ?_
    exact (insS_perm.append_right l).trans (List.perm_middle (l₁ := acc)).symm
theorem foldS_srt : ∀ {l acc : List (List Int)}, SrtS acc → (acc ++ l).Nodup → SrtS (l.foldl (fun l x => insS x l) acc)
  | [], acc, h, _ => h
  | x :: l, acc, h, hn => by
    rw [List.foldl_cons]
    have hn' : (x :: (acc ++ l)).Nodup := (List.perm_middle.nodup_iff).1 hn
    refine foldS_srt (insS_srt h fun g => (List.nodup_cons.1 hn').1 (List.mem_append_left _ g)) ?_
    exact ((insS_perm.append_right l).nodup_iff).2 hn'
theorem bits_inj {n c d : Nat} (hc : c < 2 ^ n) (hd : d < 2 ^ n) (h : bitsL n c = bitsL n d) : c = d := by
  apply Nat.eq_of_testBit_eq
  intro i
  by_cases hi : i < n
  · have e : ∀ {c : Nat}, (i : Int) ∈ bitsL n c ↔ c.testBit i = true := fun {c} => by rw [mem_bits]; simp [hi]
    have : c.testBit i = true ↔ d.testBit i = true := by rw [← e, ← e, h]
    cases hx : c.testBit i <;> cases hy : d.testBit i <;> simp_all
  · rw [Nat.testBit_lt_two_pow (Nat.lt_of_lt_of_le hc (Nat.pow_le_pow_right (by omega) (by omega))), Nat.testBit_lt_two_pow (Nat.lt_of_lt_of_le hd (Nat.pow_le_pow_right (by omega) (by omega)))]
/-- Each ascending list of numbers is that of a code. -/
theorem bits_of {n : Nat} : ∀ {m : Nat}, m ≤ n → ∀ {s : List Int}, s.Pairwise (· < ·) → (∀ x, x ∈ s → 0 ≤ x ∧ x < m) → ∃ c, c < 2 ^ m ∧ bitsL n c = s
  | 0, _, s, _, h => by
    have : s = [] := by
      cases s with
      | nil => rfl
      | cons x s => have := h x (List.mem_cons_self ..); omega
    subst this
    exact ⟨0, by simp, bits_zero⟩
  | m + 1, hm, s, hs, h => by
    by_cases g : (m : Int) ∈ s
    · obtain ⟨A, B, rfl⟩ := List.append_of_mem g
      have hB : B = [] := by
        cases B with
        | nil => rfl
        | cons y B =>
          have h1 := (List.pairwise_append.1 hs).2.1
          have := (List.pairwise_cons.1 h1).1 y (List.mem_cons_self ..)
          have := h y (by simp)
          omega
      subst hB
      obtain ⟨h1, _, h3⟩ := List.pairwise_append.1 hs
      obtain ⟨c, hc, e⟩ := bits_of (n := n) (m := m) (by omega) h1 fun x hx => ⟨(h x (List.mem_append_left _ hx)).1, h3 x hx m (by simp)⟩
      refine ⟨c + 2 ^ m, by rw [Nat.pow_succ]; omega, ?_⟩
      have tb : (c + 2 ^ m).testBit m = true := by
        rw [Nat.add_comm, Nat.testBit_two_pow_add_eq, Nat.testBit_lt_two_pow hc]; rfl
      have hp := bits_del (n := n) (c := c + 2 ^ m) (i := m) (by omega) tb
      rw [show c + 2 ^ m - 2 ^ m = c by omega, e] at hp
      exact sorted_eq (R := fun a b => a < b) (fun a b h1 h2 => by omega) bits_asc hs (hp.trans (List.perm_append_comm (l₁ := [(m : Int)])))
    · obtain ⟨c, hc, e⟩ := bits_of (n := n) (m := m) (by omega) hs fun x hx => ⟨(h x hx).1, by
        have := (h x hx).2
        have : x ≠ m := fun k => g (k ▸ hx)
        omega⟩
      exact ⟨c, by rw [Nat.pow_succ]; omega, e⟩
end Go.Pm.PE

/- Sets: guards of both; timely sets and their orders, of both. -/
set_option linter.unusedVariables false
set_option linter.unusedSimpArgs false
set_option maxRecDepth 4000
set_option maxHeartbeats 16000000
namespace Go.Pm.PP
open Go.Pm Go.Proofs Go.Pm.PE
def risL : List Int → Bool
  | a :: b :: r => !decide (b ≤ a) && risL (b :: r)
  | _ => true
theorem ris_iff : ∀ {xs : List Int}, risL xs = true ↔ xs.Pairwise (· < ·)
  | [] => by simp [risL]
  | [a] => by simp [risL]
  | a :: b :: r => by
    rw [risL, Bool.and_eq_true, ris_iff, Bool.not_eq_true', decide_eq_false_iff_not]
    constructor
    · rintro ⟨h1, h2⟩
      refine List.pairwise_cons.2 ⟨fun x hx => ?_, h2⟩
      rcases List.mem_cons.1 hx with rfl | g
      · omega
      · have := (List.pairwise_cons.1 h2).1 x g; omega
    · intro h
      have := (List.pairwise_cons.1 h).1 b (List.mem_cons_self ..)
      exact ⟨by omega, (List.pairwise_cons.1 h).2⟩
def setB (n : Nat) (xs : List Int) : Bool := xs.all (fun x => decide (0 ≤ x) && decide (x < n)) && risL xs
theorem setB_iff {n : Nat} {xs : List Int} : setB n xs = true ↔ inN n xs ∧ xs.Pairwise (· < ·) := by
  rw [setB, Bool.and_eq_true, ris_iff, List.all_eq_true]
  simp only [Bool.and_eq_true, decide_eq_true_eq]
  rfl
theorem arGoN_iff {n : Nat} (hn : n ≤ 2 ^ 40) : ∀ {xs us : List Int}, arGo n us xs = true ↔ inN n xs ∧ xs.Nodup ∧ ∀ x, x ∈ xs → hasL x us = false
  | [], us => by simp [arGo, inN]
  | x :: r, us => by
    have w1 : w64 ((n : Int) - 1) = (n : Int) - 1 := by unfold w64; rw [wrap_ok] <;> omega
    rw [arGo, Bool.and_eq_true, Bool.and_eq_true, w1, arGoN_iff hn, Bool.not_eq_true', List.nodup_cons]
    have hi : inB x 0 ((n : Int) - 1) = true ↔ 0 ≤ x ∧ x < n := by simp [inB]; omega
    have hh : ∀ y, hasL y (us ++ [x]) = (hasL y us || (x == y)) := fun y => by simp [hasL]
    rw [hi]
    constructor
    · rintro ⟨⟨a, b⟩, c, d, e⟩
      refine ⟨fun y hy => ?_, ⟨fun hx => ?_, d⟩, fun y hy => ?_⟩
      · rcases List.mem_cons.1 hy with rfl | g
        · exact a
        · exact c y g
      · have := e x hx
        rw [hh] at this
        simp at this
      · rcases List.mem_cons.1 hy with rfl | g
        · exact b
        · have := e y g
          rw [hh, Bool.or_eq_false_iff] at this
          exact this.1
    · rintro ⟨a, ⟨b, c⟩, d⟩
      refine ⟨⟨a x (List.mem_cons_self ..), d x (List.mem_cons_self ..)⟩, fun y hy => a y (List.mem_cons_of_mem _ hy), c, fun y hy => ?_⟩
      rw [hh, d y (List.mem_cons_of_mem _ hy)]
      have : ¬ x = y := fun g => b (g ▸ hy)
      simpa using this
theorem setB_eq {n : Nat} (hn : n ≤ 2 ^ 40) {xs : List Int} : (risL xs && arGo n [] xs) = setB n xs := by
  rw [Bool.eq_iff_iff, Bool.and_eq_true, ris_iff, arGoN_iff hn, setB_iff]
  constructor
  · rintro ⟨a, b, _⟩; exact ⟨b, a⟩
  · rintro ⟨a, b⟩; exact ⟨b, a, b.imp fun h => by omega, fun x _ => rfl⟩
section
variable {h : Hp} {vj v u : Value} {js : List Job} {xs : List Int}
theorem isRisingG_run (X : Ints h v xs) (hn : xs.length ≤ 2 ^ 40) : Ret P G n_impl_isRising [v] h (.bool (risL xs)) h := by
  refine enter_run e_impl_isRising (by simp) ?_
  have Xs := X
  obtain ⟨oa, c, rfl⟩ := X.shapeT
  simp -implicitDefEqProofs
  refine R_loopO (fun m s h' => ∃ i : Nat, i + m = xs.length ∧ s = [(0, .slice oa xs.length c), (3, .int .i64 ((i : Int) + 1))] ∧ h' = h ∧ risL xs = risL (xs.drop i)) (fun I hI m s h' => ?_) (n := xs.length) ⟨0, Nat.zero_add _, by simp⟩
  rintro ⟨i, hi, rfl, rfl, hx⟩
  by_cases hlt : i + 1 < xs.length
  · obtain ⟨y, hy, hd⟩ := drop_at (show i < xs.length by omega)
    obtain ⟨z, hz, hd2⟩ := drop_at hlt
    rw [hd, hd2, risL, ← hd2] at hx
    have ly := load_I Xs hy
    have lz := load_I Xs hz
    simp only [Int.natCast_add, Int.cast_ofNat_Int] at lz
    have w0 : IntKind.i64.wrap (i : Int) = i := by rw [wrap_ok] <;> omega
    have w2 : IntKind.i64.wrap ((i : Int) + 1 + 1) = (i : Int) + 1 + 1 := by rw [wrap_ok] <;> omega
    have hlt' : (i : Int) + 1 < xs.length := by omega
    by_cases h1 : z ≤ y
    · rw [decide_eq_true h1] at hx
      simp -implicitDefEqProofs [-indexAddrP_some, hlt, hlt', w0, w2, ly, lz, h1]
      simpa using hx
    · rw [decide_eq_false h1] at hx
      simp -implicitDefEqProofs [-indexAddrP_some, hlt, hlt', w0, w2, ly, lz, h1]
      exact ⟨m - 1, by omega, on hI ⟨i + 1, by omega, by simp, rfl, by simpa using hx⟩⟩
  · have hr : risL (xs.drop i) = true := by
      have : (xs.drop i).length ≤ 1 := by simp; omega
      match xs.drop i, this with
      | [], _ => rfl
      | [_], _ => rfl
    have hlt' : ¬ (i : Int) + 1 < xs.length := by omega
    simp -implicitDefEqProofs [hlt, hlt', hx, hr]
theorem isSetG_run {n : Nat} (X : Ints h v xs) (hn : xs.length ≤ 2 ^ 40) (hn2 : n ≤ 2 ^ 40) : Ret P G n_impl_isSet [.int .i64 n, v] h (.bool (setB n xs)) h := by
  refine enter_run e_impl_isSet (by simp) ?_
  have r1 := isRisingG_run X hn
  have r2 := areDifferent_run (n := n) X hn
  rw [← setB_eq hn2]
  obtain ⟨oa, c, rfl⟩ := X.shapeT
  cases h1 : risL xs
  · rw [h1] at r1
    simp -implicitDefEqProofs [CL_ret r1]
  · rw [h1] at r1
    simp -implicitDefEqProofs [CL_ret r1, CL_ret r2]
def upR (lo hi : Int) : List Int → Option Int → Bool
  | [], _ => true
  | x :: r, p => inB x lo hi && (match p with | some a => !decide (x ≤ a) | none => true) && upR lo hi r (some x)
theorem upR_nil {lo hi : Int} {p : Option Int} : upR lo hi [] p = true := rfl
theorem upR_cons0 {lo hi x : Int} {r : List Int} : upR lo hi (x :: r) none = (inB x lo hi && true && upR lo hi r (some x)) := rfl
theorem upR_cons1 {lo hi x a : Int} {r : List Int} : upR lo hi (x :: r) (some a) = (inB x lo hi && (!decide (x ≤ a)) && upR lo hi r (some x)) := rfl
theorem upR_some {lo hi : Int} : ∀ {xs : List Int} {p : Int}, upR lo hi xs (some p) = (xs.all (fun x => inB x lo hi) && risL (p :: xs))
  | [], p => rfl
  | x :: r, p => by
    rw [upR_cons1, upR_some, List.all_cons, risL]
    cases inB x lo hi <;> cases decide (x ≤ p) <;> simp
theorem upR_none {n : Nat} : upR 0 ((n : Int) - 1) xs none = setB n xs := by
  have e : ∀ x, inB x 0 ((n : Int) - 1) = (decide (0 ≤ x) && decide (x < n)) := fun x => by
    rw [Bool.eq_iff_iff]; simp [inB]; omega
  unfold setB
  cases xs with
  | nil => rfl
  | cons x r =>
    rw [upR_cons0, upR_some, List.all_cons]
    simp only [e, Bool.and_true, Bool.and_assoc]
theorem l1RisingG_run {lo hi : Int} (X : Ints h v xs) (hn : xs.length ≤ 2 ^ 40) : Ret P G n_spec_l1Rising [v, .int .i64 lo, .int .i64 hi] h (.bool (upR lo hi xs none)) h := by
  refine enter_run e_spec_l1Rising (by simp) ?_
  have Xs := X
  obtain ⟨oa, c, rfl⟩ := X.shapeT
  simp -implicitDefEqProofs
  refine R_loopO (fun m s h' => ∃ i : Nat, i + m = xs.length ∧ s = [(0, .slice oa xs.length c), (1, .int .i64 lo), (2, .int .i64 hi), (7, .int .i64 i)] ∧ h' = h ∧ upR lo hi xs none = upR lo hi (xs.drop i) (if i = 0 then none else xs[i - 1]?)) (fun I hI m s h' => ?_) (n := xs.length) ⟨0, Nat.zero_add _, by simp⟩
  rintro ⟨i, hi', rfl, rfl, hx⟩
  by_cases hlt : i < xs.length
  · obtain ⟨y, hy, hd⟩ := drop_at hlt
    rw [hd] at hx
    have ly := load_I Xs hy
    have next : upR lo hi (xs.drop (i + 1)) (some y) = upR lo hi (xs.drop (i + 1)) (if i + 1 = 0 then none else xs[i + 1 - 1]?) := by simp [hy]
    by_cases h0 : i = 0
    · subst h0
      rw [if_pos rfl, upR_cons0, next] at hx
      simp only [Int.cast_ofNat_Int] at ly
      have w0 : IntKind.i64.wrap 1 = 1 := by rw [wrap_ok] <;> omega
      have hlt' : (0 : Int) < xs.length := by omega
      cases h1 : inB y lo hi
      · rw [h1] at hx
        simp -implicitDefEqProofs [-indexAddrP_some, hlt, hlt', ly, CH_at l1In_run, CL_ret l1In_run, h1, w0]
        simpa using hx
      · rw [h1] at hx
        simp -implicitDefEqProofs [-indexAddrP_some, hlt, hlt', ly, CH_at l1In_run, CL_ret l1In_run, h1, w0]
        exact ⟨m - 1, by omega, on hI ⟨1, by omega, by simp, rfl, by simpa using hx⟩⟩
    · obtain ⟨k, rfl⟩ : ∃ k, i = k + 1 := ⟨i - 1, by omega⟩
      obtain ⟨z, hz, _⟩ := drop_at (show k < xs.length by omega)
      rw [if_neg h0, Nat.add_sub_cancel, hz, upR_cons1, next] at hx
      have lz := load_I Xs hz
      simp only [Int.natCast_add, Int.cast_ofNat_Int] at ly
      have w0 : IntKind.i64.wrap (k : Int) = k := by rw [wrap_ok] <;> omega
      have w2 : IntKind.i64.wrap ((k : Int) + 1 + 1) = (k : Int) + 1 + 1 := by rw [wrap_ok] <;> omega
      have hlt' : (k : Int) + 1 < xs.length := by omega
      have hp' : (0 : Int) < (k : Int) + 1 := by omega
      cases h1 : inB y lo hi
      · rw [h1] at hx
        simp -implicitDefEqProofs [-indexAddrP_some, hlt, hlt', hp', ly, lz, CH_at l1In_run, CL_ret l1In_run, h1, w0, w2]
        simpa using hx
      · by_cases h2 : y ≤ z
        · rw [h1, decide_eq_true h2] at hx
          simp -implicitDefEqProofs [-indexAddrP_some, hlt, hlt', hp', ly, lz, CH_at l1In_run, CL_ret l1In_run, h1, h2, w0, w2]
          simpa using hx
        · rw [h1, decide_eq_false h2] at hx
          simp -implicitDefEqProofs [-indexAddrP_some, hlt, hlt', hp', ly, lz, CH_at l1In_run, CL_ret l1In_run, h1, h2, w0, w2]
          exact ⟨m - 1, by omega, on hI ⟨k + 1 + 1, by omega, by simp, rfl, by simpa using hx⟩⟩
  · have hlt' : ¬ (i : Int) < xs.length := by omega
    rw [List.drop_eq_nil_of_le (by omega), upR_nil] at hx
    simp -implicitDefEqProofs [hlt, hlt', hx]
theorem l6SetG_run (J : Jobs h vj js) (X : Ints h v xs) (hn : xs.length ≤ 2 ^ 40) (hjn : js.length ≤ 2 ^ 40) : Ret P G n_spec_l6Set [vj, v] h (.bool (setB js.length xs)) h := by
  refine enter_run e_spec_l6Set (by simp) ?_
  have r1 := l1RisingG_run (lo := 0) (hi := (js.length : Int) - 1) X hn
  rw [upR_none] at r1
  obtain ⟨oa, c, rfl⟩ := J.shapeT
  have w : IntKind.i64.wrap ((js.length : Int) - 1) = (js.length : Int) - 1 := by rw [wrap_ok] <;> omega
  simp -implicitDefEqProofs [w, CL_ret r1]
/-! ### timely sets -/
def timB (js : List Job) (xs : List Int) : Bool := timGo js 0 (dueL js xs)
theorem tim_imp {js : List Job} (p : Pl js) {xs : List Int} : timGo js 0 (sortB (dAh js) xs) = timB js xs := tim_sorted p dAhL_d dueL_d (sortB_perm.trans sortB_perm.symm)
theorem tim_spec {js : List Job} {xs : List Int} (hs : xs.Pairwise (· < ·)) : timGo js 0 (dueF js xs) = timB js xs := by rw [due_eq hs]; rfl
def tmlOk (js : List Job) (xs : List Int) : Bool := plOk js && setB js.length xs
theorem tmlOk_of (hk : tmlOk js xs = true) : plOk js = true ∧ inN js.length xs ∧ xs.Pairwise (· < ·) := by
  rw [tmlOk, Bool.and_eq_true, setB_iff] at hk; exact hk
theorem implIsTimely_run (J : Jobs h vj js) (X : Ints h v xs) (hl : js.length ≤ 2 ^ 40) (hx : xs.length ≤ 2 ^ 10) : Ret P G n_impl_IsTimely [vj, v] h (.tuple #[.bool (tmlOk js xs && timB js xs), .bool (tmlOk js xs)]) h := by
  have key : Ret P G n_impl_OnTime [vj, v] h (.tuple #[.bool (tmlOk js xs && timB js xs), .bool (tmlOk js xs)]) h := by
    refine enter_run e_impl_OnTime (by simp) ?_
    have r1 := IsPlain_run J hl
    have r2 := isSetG_run (n := js.length) X (by omega) hl
    have Js := J
    have Xs := X
    obtain ⟨oj, cj, rfl⟩ := J.shapeT
    obtain ⟨ox, cx, rfl⟩ := X.shapeT
    cases c1 : plOk js
    · rw [c1] at r1
      simp -implicitDefEqProofs [CL_ret r1, tmlOk, c1]
    · rw [c1] at r1
      cases c2 : setB js.length xs
      · rw [c2] at r2
        simp -implicitDefEqProofs [CL_ret r1, CL_ret r2, tmlOk, c1, c2]
      · rw [c2] at r2
        obtain ⟨hin, hs⟩ := setB_iff.1 c2
        obtain ⟨_, hg, _⟩ := plOk_of c1
        have r3 := onTime_run Js Xs hin hx (good_bd hg)
        rw [tim_imp (plOk_pl c1)] at r3
        simp -implicitDefEqProofs [CL_ret r1, CL_ret r2, CL_ret r3, tmlOk, c1, c2]
  refine enter_run e_impl_IsTimely (by simp) ?_
  obtain ⟨oj, cj, rfl⟩ := J.shapeT
  obtain ⟨ox, cx, rfl⟩ := X.shapeT
  simp -implicitDefEqProofs [CL_ret key]
theorem specIsTimely_run (J : Jobs h vj js) (X : Ints h v xs) (hl : js.length ≤ 2 ^ 40) (hx : xs.length ≤ 2 ^ 10) : Ret P G n_spec_IsTimely [vj, v] h (.tuple #[.bool (tmlOk js xs && timB js xs), .bool (tmlOk js xs)]) h := by
  refine enter_run e_spec_IsTimely (by simp) ?_
  have r1 := l6Good_run J hl
  have r2 := l6SetG_run J X (by omega) hl
  have Js := J
  have Xs := X
  obtain ⟨oj, cj, rfl⟩ := J.shapeT
  obtain ⟨ox, cx, rfl⟩ := X.shapeT
  cases c1 : plOk js
  · rw [c1] at r1
    simp -implicitDefEqProofs [CL_ret r1, tmlOk, c1]
  · rw [c1] at r1
    cases c2 : setB js.length xs
    · rw [c2] at r2
      simp -implicitDefEqProofs [CL_ret r1, CL_ret r2, tmlOk, c1, c2]
    · rw [c2] at r2
      obtain ⟨hin, hs⟩ := setB_iff.1 c2
      obtain ⟨_, hg, _⟩ := plOk_of c1
      have r3 := l6Timely_run Js Xs hin hx (good_bd hg)
      rw [tim_spec hs] at r3
      simp -implicitDefEqProofs [CL_ret r1, CL_ret r2, CL_ret r3, tmlOk, c1, c2]
end
end Go.Pm.PP

/- Tables of truth values in the small machine; the closure of pairs, by both. -/
set_option linter.unusedVariables false
set_option linter.unusedSimpArgs false
set_option maxRecDepth 4000
set_option maxHeartbeats 16000000
namespace Go.Pm.PP
open Go.Pm Go.Proofs Go.Pm.PE
section
variable {h : Hp} {ve : Value} {es : List (Int × Int)} {n : Nat}
end
end Go.Pm.PP

/- Typed rules for slices: printed by a program of this work (wrap.py). -/
set_option linter.unusedVariables false
set_option linter.unusedSimpArgs false
set_option maxRecDepth 4000
namespace Go.Pm.PP
open Go.Pm Go.Proofs
theorem load_N {h : Hp} {v : Value} {xs : List (Value)} {i : Nat} {x : Value} (hv : Sees h v 1 (xs.map encV)) (hx : xs[i]? = some x) :
    indexAddrP P h t_S_S_int v (.int .i64 i) = some (.pointer (some (addP (base v) (i)))) ∧ loadP P h t_S_int (.pointer (some (addP (base v) (i)))) = some (x) := by
  have hi := (List.getElem?_eq_some_iff.1 hx).1
  have h1 := hv.indexT (P := P) u_S_S_int i_S_int (k := .i64) (j := i) (by omega) (by omega)
  rw [Int.toNat_natCast] at h1
  have h2 := hv.cellT (P := P) (ty := t_S_int) a_S_int i_S_int hx (k := 0) (by omega)
  exact ⟨by simpa using h1, by simpa [encV] using h2⟩
theorem ones_N (xs : List (Value)) (hone : ∀ x ∈ xs, one x = true) : (xs.map encV).flatten.all one = true := by
  induction xs with
  | nil => rfl
  | cons x xs ih => rw [List.map_cons, List.flatten_cons, List.all_append, ih fun y hy => hone y (List.mem_cons_of_mem _ hy)]; simp [encV, -one, hone x (List.mem_cons_self ..)]
theorem push_N0 {h0 h : Hp} {L : List Asn} (H : Holds h0 h L) (i : Nat) {v : Value} {xs : List (Value)} (hi : L[i]? = some (.own v 1 (xs.map encV))) (x : Value) (hone : one x = true) (hn : xs.length ≤ 2 ^ 40) :
    ∃ v' h', appendP P (h ++ [some ⟨[x], 1, false⟩]) t_S_S_int v (.slice (some ⟨h.length, 0, some 1⟩) 1 1) = some (v', h') ∧ Holds h0 h' (L.set i (.own v' 1 ((xs ++ [x]).map encV))) ∧ Keeps (rowV v) h h' ∧ (rowV v = none → newOk (h ++ [some ⟨[x], 1, false⟩]) h') := by
  obtain ⟨v', h', g1, g2, g3, g4⟩ := (H.ext (List.prefix_append h [])).push (P := P) i (y := encV x) (n := 1) hi u_S_S_int e_t_S_int z_t_S_int s_t_S_int (by omega) (by rw [b_t_S_int]; omega) rfl rfl (by simp [encV, -one, hone]) (by rw [b_t_S_int]; simp; omega)
  rw [show xs.map encV ++ [encV x] = (xs ++ [x]).map encV by simp] at g2
  exact ⟨v', h', by simpa [encV] using g1, g2, Keeps.app.trans g3, by simpa [encV] using g4⟩
theorem app_N {h0 h : Hp} {L : List Asn} (H : Holds h0 h L) (i : Nat) {v u : Value} {xs ys : List (Value)} (hi : L[i]? = some (.own v 1 (xs.map encV))) (s : Sees h u 1 (ys.map encV)) (hone : ∀ x ∈ ys, one x = true) (hn : xs.length + ys.length ≤ 2 ^ 40) :
    ∃ v' h', appendP P h t_S_S_int v u = some (v', h') ∧ Holds h0 h' (L.set i (.own v' 1 ((xs ++ ys).map encV))) ∧ Keeps (rowV v) h h' := by
  obtain ⟨v', h', g1, g2, g3⟩ := H.app (P := P) i hi u_S_S_int e_t_S_int z_t_S_int s_t_S_int (by omega) (by rw [b_t_S_int]; omega) s (ones_N ys hone) (by rw [b_t_S_int]; simp; omega)
  rw [← List.map_append] at g2
  exact ⟨v', h', g1, g2, g3⟩
theorem put_N {h0 h : Hp} {L : List Asn} (H : Holds h0 h L) (i : Nat) {v : Value} {xs : List (Value)} (hi : L[i]? = some (.own v 1 (xs.map encV))) {j : Nat} (hj : j < xs.length) (x : Value) (hone : one x = true) :
    ∃ h', storeP P h t_S_int (x) (.pointer (some (addP (base v) (j)))) = some h' ∧ Holds h0 h' (L.set i (.own v 1 ((xs.set j x).map encV))) ∧ Keeps (rowV v) h h' := by
  have := H.put (P := P) i (t := t_S_int) (w := x) (j := j) hi i_S_int (by simpa using hj) (by cases x <;> first | rfl | cases hone) (by cases x <;> first | rfl | cases hone)
  rw [show (x : Value).cells.toList = [x] by cases x <;> first | rfl | cases hone] at this
  simpa [List.map_set, encV] using this
end Go.Pm.PP

/- Sets in order: comparisons and insertion, of both. -/
set_option linter.unusedVariables false
set_option linter.unusedSimpArgs false
set_option maxRecDepth 4000
set_option maxHeartbeats 16000000
namespace Go.Pm.PP
open Go.Pm Go.Proofs Go.Pm.PE
theorem shift_setG {α : Type} {us : List α} {z x : α} {j : Nat} (hj : j ≤ us.length) : (((us ++ [z]).take (j + 1) ++ ((us ++ [z]).drop j).take ((us ++ [z]).length - (j + 1))).set j x) = us.take j ++ x :: us.drop j := by
  apply List.ext_getElem?
  intro i
  have hl : ((us ++ [z]).take (j + 1)).length = j + 1 := by simp; omega
  rw [List.getElem?_set]
  have htl : (us.take j).length = j := by simp; omega
  split
  · rename_i e
    subst e
    rw [if_pos (by simp; omega), List.getElem?_append_right (by omega), htl, Nat.sub_self]; rfl
  · rename_i hne
    rcases Nat.lt_or_ge i j with g | g
    · rw [List.getElem?_append_left (by omega), List.getElem?_append_left (by omega), List.getElem?_take, List.getElem?_take, if_pos (by omega), if_pos g, List.getElem?_append_left (by omega)]
    · rw [List.getElem?_append_right (by omega), List.getElem?_append_right (by omega), hl, htl, List.getElem?_take, List.getElem?_drop]
      rw [show i - j = (i - (j + 1)) + 1 by omega, List.getElem?_cons_succ, List.getElem?_drop]
      simp only [List.length_append, List.length_cons, List.length_nil]
      split
      · rw [List.getElem?_append_left (by omega)]
      · rw [List.getElem?_eq_none (by omega)]
def cmpL : List Int → List Int → Int
  | x :: xs, y :: ys => if x = y then cmpL xs ys else x - y
  | _, _ => 0
theorem cmp_lex : ∀ {xs ys : List Int}, decide (0 < cmpL xs ys) = lexB ys xs
  | [], [] => rfl
  | [], _ :: _ => rfl
  | _ :: _, [] => rfl
  | x :: xs, y :: ys => by
    rw [cmpL, lexB]
    by_cases c : x = y
    · rw [if_pos c, if_pos c.symm]; exact cmp_lex
    · rw [if_neg c, if_neg (fun g => c g.symm), Bool.eq_iff_iff, decide_eq_true_eq, decide_eq_true_eq]; omega
section
variable {h : Hp} {v u : Value} {xs ys : List Int}
theorem compareG_run (X : Ints h v xs) (Y : Ints h u ys) (hl : xs.length = ys.length) (hb : ys.length ≤ 2 ^ 40) (bx : ∀ e, e ∈ xs → 0 ≤ e ∧ e ≤ 2 ^ 20) (byy : ∀ e, e ∈ ys → 0 ≤ e ∧ e ≤ 2 ^ 20) : Ret P G n_impl_compareLists [v, u] h (.int .i64 (cmpL xs ys)) h := by
  have Xs := X
  have Ys := Y
  obtain ⟨ox, cx, rfl⟩ := X.shapeT
  obtain ⟨oy, cy, rfl⟩ := Y.shapeT
  refine enter_run e_impl_compareLists (by simp) ?_
  simp -implicitDefEqProofs
  refine R_loopO (fun m s h' => ∃ (i : Nat), i + m = ys.length ∧ s = [(0, .slice ox xs.length cx), (1, .slice oy ys.length cy), (5, .int .i64 i)] ∧ cmpL xs ys = cmpL (xs.drop i) (ys.drop i) ∧ h' = h) (fun I hI m s h' => ?_) (n := ys.length) ⟨0, Nat.zero_add _, by simp, rfl, rfl⟩
  rintro ⟨i, hi, rfl, hx, rfl⟩
  by_cases hlt : i < ys.length
  · have hlx : i < xs.length := by omega
    have hlt' : (i : Int) < ys.length := by omega
    have hlx' : (i : Int) < xs.length := by omega
    obtain ⟨a, ha, hda⟩ := drop_at hlx
    obtain ⟨b, hb', hdb⟩ := drop_at hlt
    have ea := bx a (List.mem_of_getElem? ha)
    have eb := byy b (List.mem_of_getElem? hb')
    rw [hda, hdb, cmpL] at hx
    by_cases c : a = b
    · rw [if_pos c] at hx
      subst c
      simp -implicitDefEqProofs [-indexAddrP_some, hlt, hlx, hlt', hlx', load_I Xs ha, load_I Ys hb', winc hlt (by omega)]
      exact ⟨m - 1, by omega, on hI ⟨i + 1, by omega, rfl, hx, rfl⟩⟩
    · rw [if_neg c] at hx
      have w : IntKind.i64.wrap (a - b) = a - b := by rw [wrap_ok] <;> omega
      simp -implicitDefEqProofs [-indexAddrP_some, hlt, hlx, hlt', hlx', load_I Xs ha, load_I Ys hb', nb c, nt c, w]
      rw [hx]
  · have hlx : ¬ i < xs.length := by omega
    have hlt' : ¬ (i : Int) < ys.length := by omega
    have hlx' : ¬ (i : Int) < xs.length := by omega
    rw [List.drop_eq_nil_of_le (by omega), List.drop_eq_nil_of_le (by omega)] at hx
    have hx : cmpL xs ys = 0 := hx
    have w : IntKind.i64.wrap ((xs.length : Int) - ys.length) = 0 := by rw [hl, wrap_ok] <;> omega
    simp -implicitDefEqProofs [hlt, hlx, hlt', hlx', w]
    rw [hx]
theorem l4Less_run (X : Ints h v xs) (Y : Ints h u ys) (hx0 : xs.length ≤ 2 ^ 40) (hb : ys.length ≤ 2 ^ 40) : Ret P G n_spec_l4Less [v, u] h (.bool (lessS xs ys)) h := by
  have Xs := X
  have Ys := Y
  obtain ⟨ox, cx, rfl⟩ := X.shapeT
  obtain ⟨oy, cy, rfl⟩ := Y.shapeT
  refine enter_run e_spec_l4Less (by simp) ?_
  unfold lessS
  by_cases hl : xs.length = ys.length
  case neg =>
    rw [if_neg hl]
    have hl' : ¬ (xs.length : Int) = ys.length := by omega
    by_cases c : xs.length < ys.length
    · have c' : (xs.length : Int) < ys.length := by omega
      simp -implicitDefEqProofs [hl, hl', nt hl', c, c']
    · have c' : ¬ (xs.length : Int) < ys.length := by omega
      simp -implicitDefEqProofs [hl, hl', nt hl', c, c']
  rw [if_pos hl]
  simp -implicitDefEqProofs [hl]
  refine R_loopO (fun m s h' => ∃ (i : Nat), i + m = ys.length ∧ s = [(0, .slice ox ys.length cx), (1, .slice oy ys.length cy), (5, .int .i64 i)] ∧ lexB xs ys = lexB (xs.drop i) (ys.drop i) ∧ h' = h) (fun I hI m s h' => ?_) (n := ys.length) ⟨0, Nat.zero_add _, by simp, rfl, rfl⟩
  rintro ⟨i, hi, rfl, hx, rfl⟩
  have Xs : Ints h' (.slice ox ys.length cx) xs := by rw [← hl]; exact Xs
  by_cases hlt : i < ys.length
  · have hlx : i < xs.length := by omega
    have hlt' : (i : Int) < ys.length := by omega
    obtain ⟨a, ha, hda⟩ := drop_at hlx
    obtain ⟨b, hb', hdb⟩ := drop_at hlt
    rw [hda, hdb, lexB] at hx
    by_cases c : a = b
    · rw [if_pos c] at hx
      subst c
      simp -implicitDefEqProofs [-indexAddrP_some, hlt, hlt', load_I Xs ha, load_I Ys hb', winc hlt (by omega)]
      exact ⟨m - 1, by omega, on hI ⟨i + 1, by omega, rfl, hx, rfl⟩⟩
    · rw [if_neg c] at hx
      by_cases c2 : a < b
      · simp -implicitDefEqProofs [-indexAddrP_some, hlt, hlt', load_I Xs ha, load_I Ys hb', nb c, nt c, c2]
        rw [hx]; simpa using c2
      · simp -implicitDefEqProofs [-indexAddrP_some, hlt, hlt', load_I Xs ha, load_I Ys hb', nb c, nt c, c2]
        rw [hx]; simpa using c2
  · have hlt' : ¬ (i : Int) < ys.length := by omega
    rw [List.drop_eq_nil_of_le (by omega), List.drop_eq_nil_of_le (by omega)] at hx
    have hx : lexB xs ys = false := hx
    simp -implicitDefEqProofs [hlt, hlt']
    exact hx
end
theorem one_of {h : Hp} {u : Value} {x : List Int} (S : Ints h u x) : one u = true := by
  obtain ⟨a, c, rfl⟩ := S.shapeT; rfl
/-- Inner lists that are seen at first; each told with its slice. -/
abbrev fsV (ps : List (Value × List Int)) : List Value := ps.map Prod.fst
abbrev snL (ps : List (Value × List Int)) : List (List Int) := ps.map Prod.snd
theorem orderedSets_run {h : Hp} {v : Value} {xss : List (List Int)} {us : List Value} (N : Nest h v encI 1 xss us) (hn : xss.length ≤ 2 ^ 20) (hb : ∀ x, x ∈ xss → x.length ≤ 2 ^ 10 ∧ ∀ e, e ∈ x → 0 ≤ e ∧ e ≤ 2 ^ 20) (hnd : xss.Nodup) :
    RunsC P G n_impl_orderedSets [v] h fun w h' => h <+: h' ∧ ∃ ps : List (Value × List Int), snL ps = xss.foldl (fun l x => insS x l) [] ∧ Own h.length h' w 1 ((fsV ps).map encV) ∧ ∀ p, p ∈ ps → Ints h p.1 p.2 := by
  refine hideC fun K hK => enter_run e_impl_orderedSets (by simp) ?_
  have Ns := N
  obtain ⟨oa, ca, rfl⟩ := N.shape
  simp -implicitDefEqProofs
  refine R_loopO (fun m st h' => ∃ (i : Nat) (vo : Value) (ps : List (Value × List Int)), i + m = xss.length ∧ st = [(3, vo), (7, .slice oa xss.length ca), (8, .int .i64 xss.length), (9, .int .i64 i)] ∧
    Holds h h' [.own vo 1 ((fsV ps).map encV)] ∧ ps.length = i ∧ snL ps = (xss.take i).foldl (fun l x => insS x l) [] ∧ ∀ p, p ∈ ps → Ints h p.1 p.2) (fun I hI m st h' => ?_) (n := xss.length) ⟨0, .slice none 0 0, [], Nat.zero_add _, by simp, own_nil Holds.start _ _ _, rfl, rfl, fun p hp => by cases hp⟩
  rintro ⟨i, vo, ps, hi, rfl, H, hpl, hps, hsee⟩
  have hfl : (fsV ps).length = i := by rw [List.length_map, hpl]
  have So : Sees h' vo 1 ((fsV ps).map encV) := H.sees 0 rfl
  obtain ⟨ob, cb, rfl⟩ : ∃ a c, vo = .slice a i c := by obtain ⟨a, c, e⟩ := So.shapeT; exact ⟨a, c, by rw [e, hfl]⟩
  by_cases hlt : i < xss.length
  · have hlt' : (i : Int) < xss.length := by omega
    obtain ⟨x, hx, _⟩ := drop_at hlt
    obtain ⟨ux, hux, Sx⟩ := Ns.at hx
    obtain ⟨bxl, bxe⟩ := hb x (List.mem_of_getElem? hx)
    obtain ⟨xa, xc, rfl⟩ : ∃ a c, ux = .slice a x.length c := Sx.shapeT
    have lx := load_N ((Ns.pre H.pre).out : Sees h' _ 1 (us.map encV)) hux
    have hfold : (xss.take (i + 1)).foldl (fun l x => insS x l) [] = insS x (snL ps) := by rw [take_succ' hx, List.foldl_append, ← hps]; rfl
    have hperm : (snL ps).Perm (xss.take i) := by rw [hps]; have := @foldS_perm (xss.take i) []; simpa using this
    have hsrt : SrtS (snL ps) := by
      rw [hps]
      exact foldS_srt List.Pairwise.nil (by simpa using hnd.sublist (List.take_sublist ..))
    have hxn : x ∉ snL ps := fun g => by
      have g := hperm.mem_iff.1 g
      have e : xss.take (i + 1) = xss.take i ++ [x] := take_succ' hx
      have : (xss.take (i + 1)).Nodup := hnd.sublist (List.take_sublist ..)
      rw [e, List.nodup_append] at this
      exact this.2.2 x g x (List.mem_singleton.2 rfl) rfl
    have hpb : ∀ p, p ∈ ps → p.2.length ≤ 2 ^ 10 ∧ ∀ e, e ∈ p.2 → 0 ≤ e ∧ e ≤ 2 ^ 20 := fun p hp => hb p.2 (List.mem_of_mem_take (hperm.mem_iff.1 (List.mem_map.2 ⟨p, hp, rfl⟩)))
    simp -implicitDefEqProofs [-indexAddrP_some, hlt, hlt', lx]
    refine R_loopO (fun m2 st h2 => ∃ (k : Nat), k = m2 ∧ st = [(3, .slice ob i cb), (5, .slice xa x.length xc), (6, .int .i64 k), (7, .slice oa xss.length ca), (8, .int .i64 xss.length), (9, .int .i64 i)] ∧ h2 = h' ∧ k ≤ i ∧ ∀ j p, k ≤ j → ps[j]? = some p → lessS x p.2 = true) (fun I2 hI2 m2 st h2 => ?_) (n := i)
      ⟨i, rfl, by simp, rfl, Nat.le_refl _, fun j p hj hp => by have := (List.getElem?_eq_some_iff.1 hp).1; omega⟩
    rintro ⟨k, rfl, rfl, rfl, hk, hall⟩
    have fin : (∀ p, 0 < k → ps[k - 1]? = some p → lessS x p.2 = false) → ∃ v2 h3 dv mv nn h4 h5, appendP P (h2 ++ [some ⟨[.slice none 0 0], 1, false⟩]) t_S_S_int (.slice ob i cb) (.slice (some ⟨h2.length, 0, some 1⟩) 1 1) = some (v2, h3) ∧
        sliceP P h3 t_S_S_int v2 (some (.int .i64 ((k : Int) + 1))) none = some dv ∧ sliceP P h3 t_S_S_int v2 (some (.int .i64 k)) none = some mv ∧ copyP P h3 t_S_S_int dv mv = some (.int .i64 nn, h4) ∧
        indexAddrP P h4 t_S_S_int v2 (.int .i64 k) = some (.pointer (some (addP (base v2) k))) ∧ storeP P h4 t_S_int (.slice xa x.length xc) (.pointer (some (addP (base v2) k))) = some h5 ∧
        ∃ qs : List (Value × List Int), Holds h h5 [.own v2 1 ((fsV qs).map encV)] ∧ qs.length = i + 1 ∧ snL qs = insS x (snL ps) ∧ ∀ p, p ∈ qs → Ints h p.1 p.2 := fun hk2 => by
      have ones : ∀ y, y ∈ fsV ps ++ [Value.slice none 0 0] → one y = true := fun y hy => by
        rcases List.mem_append.1 hy with g | g
        · obtain ⟨p, hp, rfl⟩ := List.mem_map.1 g
          exact one_of (hsee p hp)
        · rw [List.mem_singleton.1 g]; rfl
      obtain ⟨v2, h3, ha, H3, k3, _⟩ := push_N0 H 0 rfl (Value.slice none 0 0) rfl (by omega)
      obtain ⟨dv, mv, nn, h4, s1, s2, s3, H4, k4⟩ := H3.shift (P := P) 0 rfl (k := k) u_S_S_int i_S_int (ones_N _ ones) (by simp; omega)
      have e1 : (((fsV ps ++ [Value.slice none 0 0]).map encV).take (k + 1) ++ (((fsV ps ++ [Value.slice none 0 0]).map encV).drop k).take (((fsV ps ++ [Value.slice none 0 0]).map encV).length - (k + 1))) = ((fsV ps ++ [Value.slice none 0 0]).take (k + 1) ++ ((fsV ps ++ [Value.slice none 0 0]).drop k).take ((fsV ps ++ [Value.slice none 0 0]).length - (k + 1))).map encV := by
        generalize fsV ps ++ [Value.slice none 0 0] = ws
        rw [List.map_append, List.map_take, List.map_take, List.map_drop, List.length_map]
      rw [e1] at H4
      have hlen : ((fsV ps ++ [Value.slice none 0 0]).take (k + 1) ++ ((fsV ps ++ [Value.slice none 0 0]).drop k).take ((fsV ps ++ [Value.slice none 0 0]).length - (k + 1))).length = i + 1 := by simp; omega
      obtain ⟨h5, s5, H5, k5⟩ := put_N H4 0 rfl (j := k) (by rw [hlen]; omega) (.slice xa x.length xc) rfl
      rw [shift_setG (by rw [hfl]; exact hk)] at H5
      obtain ⟨z, hz, _⟩ := drop_at (show k < ((fsV ps ++ [Value.slice none 0 0]).take (k + 1) ++ ((fsV ps ++ [Value.slice none 0 0]).drop k).take ((fsV ps ++ [Value.slice none 0 0]).length - (k + 1))).length by rw [hlen]; omega)
      have ix := (load_N (H4.sees 0 rfl) hz).1
      refine ⟨v2, h3, dv, mv, nn, h4, h5, ha, s1, s2, s3, ix, s5, ps.take k ++ (.slice xa x.length xc, x) :: ps.drop k, ?_, ?_, ?_, fun p hp => ?_⟩
      · rw [fsV, List.map_append, List.map_cons, List.map_take, List.map_drop]; exact H5
      · simp; omega
      · rw [snL, List.map_append, List.map_cons, List.map_take, List.map_drop]
        refine (insS_back hsrt hxn (by rw [List.length_map]; omega) (fun j y hj hy => ?_) fun y hk0 hy => ?_).symm
        · rw [List.getElem?_map] at hy
          obtain ⟨p, hp, rfl⟩ := Option.map_eq_some_iff.1 hy
          exact hall j p hj hp
        · rw [List.getElem?_map] at hy
          obtain ⟨p, hp, rfl⟩ := Option.map_eq_some_iff.1 hy
          exact hk2 p hk0 hp
      · rcases List.mem_append.1 hp with g | g
        · exact hsee p (List.mem_of_mem_take g)
        · rcases List.mem_cons.1 g with rfl | g
          · exact Sx
          · exact hsee p (List.mem_of_mem_drop g)
    have wj : IntKind.i64.wrap ((k : Int) + 1) = (k : Int) + 1 := by rw [wrap_ok] <;> omega
    by_cases h0 : 0 < k
    · have h0' : (0 : Int) < k := by omega
      obtain ⟨p, hp, _⟩ := drop_at (show k - 1 < ps.length by omega)
      have hpm := List.mem_of_getElem? hp
      have w1 : IntKind.i64.wrap ((k : Int) - 1) = ((k - 1 : Nat) : Int) := by rw [wrap_ok] <;> omega
      have Sp := (hsee p hpm).pre H.pre
      obtain ⟨pbl, pbe⟩ := hpb p hpm
      obtain ⟨pv, y⟩ := p
      obtain ⟨ya, yc, rfl⟩ : ∃ a c, pv = .slice a y.length c := Sp.shapeT
      have Sp : Ints h2 (.slice ya y.length yc) y := Sp
      have pbl : y.length ≤ 2 ^ 10 := pbl
      have pbe : ∀ e, e ∈ y → 0 ≤ e ∧ e ≤ 2 ^ 20 := pbe
      have lz := load_N So (i := k - 1) (x := .slice ya y.length yc) (by rw [List.getElem?_map, hp]; rfl)
      have back : lessS x y = true → I2 (k - 1) [(3, .slice ob i cb), (5, .slice xa x.length xc), (6, .int .i64 ((k - 1 : Nat) : Int)), (7, .slice oa xss.length ca), (8, .int .i64 xss.length), (9, .int .i64 i)] h2 := fun hl =>
        on hI2 ⟨k - 1, rfl, rfl, rfl, by omega, fun j q hj hq => by
          rcases Nat.lt_or_ge j k with g | g
          · have : j = k - 1 := by omega
            subst this
            rw [hp] at hq; cases hq; exact hl
          · exact hall j q g hq⟩
      have stop : lessS x y = false → ∀ q, 0 < k → ps[k - 1]? = some q → lessS x q.2 = false := fun hl q _ hq => by
        rw [hp] at hq; cases hq; exact hl
      by_cases c1 : x.length < y.length
      · have c1' : (x.length : Int) < y.length := by omega
        have hl : lessS x y = true := by unfold lessS; rw [if_neg (by omega)]; simpa using c1
        simp -implicitDefEqProofs [-indexAddrP_some, h0, h0', w1, lz, c1, c1']
        exact ⟨k - 1, by omega, back hl⟩
      · have c1' : ¬ (x.length : Int) < y.length := by omega
        by_cases c2 : x.length = y.length
        · have c2' : ((y.length : Int) == x.length) = true := by rw [c2]; simp
          have cr := compareG_run Sp (Sx.pre H.pre) c2.symm (by omega) pbe bxe
          have el : lessS x y = lexB x y := by unfold lessS; rw [if_pos c2]
          have cl := @cmp_lex y x
          rw [← el] at cl
          cases c3 : lessS x y
          · rw [c3, decide_eq_false_iff_not] at cl
            obtain ⟨v2, h3, dv, mv, nn, h4, h5, ha, s1, s2, s3, ix, s5, qs, H5, q1, q2, q3⟩ := fin (stop c3)
            simp -implicitDefEqProofs [-indexAddrP_some, h0, h0', w1, lz, c1, c1', c2', CL_ret cr, cl, ha, wj, s1, s2, s3, ix, s5, winc hlt (by omega)]
            exact ⟨m - 1, by omega, on hI ⟨i + 1, v2, qs, by omega, rfl, H5, q1, by rw [q2, hfold], q3⟩⟩
          · rw [c3, decide_eq_true_eq] at cl
            simp -implicitDefEqProofs [-indexAddrP_some, h0, h0', w1, lz, c1, c1', c2', CL_ret cr, cl]
            exact ⟨k - 1, by omega, back c3⟩
        · have c2' : ((y.length : Int) == x.length) = false := by rw [beq_eq_false_iff_ne]; omega
          have hl : lessS x y = false := by unfold lessS; rw [if_neg c2]; simpa using c1
          obtain ⟨v2, h3, dv, mv, nn, h4, h5, ha, s1, s2, s3, ix, s5, qs, H5, q1, q2, q3⟩ := fin (stop hl)
          simp -implicitDefEqProofs [-indexAddrP_some, h0, h0', w1, lz, c1, c1', c2', ha, wj, s1, s2, s3, ix, s5, winc hlt (by omega)]
          exact ⟨m - 1, by omega, on hI ⟨i + 1, v2, qs, by omega, rfl, H5, q1, by rw [q2, hfold], q3⟩⟩
    · have h0' : ¬ (0 : Int) < k := by omega
      obtain ⟨v2, h3, dv, mv, nn, h4, h5, ha, s1, s2, s3, ix, s5, qs, H5, q1, q2, q3⟩ := fin (fun q g _ => absurd g h0)
      simp -implicitDefEqProofs [-indexAddrP_some, h0, h0', ha, wj, s1, s2, s3, ix, s5, winc hlt (by omega)]
      exact ⟨m - 1, by omega, on hI ⟨i + 1, v2, qs, by omega, rfl, H5, q1, by rw [q2, hfold], q3⟩⟩
  · have hlt' : ¬ (i : Int) < xss.length := by omega
    rw [List.take_of_length_le (by omega)] at hps
    simp -implicitDefEqProofs [hlt, hlt']
    exact onK hK ⟨(H.ret 0 rfl).1, ps, hps, (H.ret 0 rfl).2, hsee⟩
end Go.Pm.PP

/- Orders by vectors of ends; ascending lists; sums. -/
set_option linter.unusedVariables false
set_option linter.unusedSimpArgs false
set_option maxRecDepth 4000
set_option maxHeartbeats 16000000
namespace Go.Pm.PP
open Go.Pm Go.Proofs Go.Pm.PE
section
variable {h : Hp} {vj v ve vs : Value} {js : List Job} {xs es s : List Int}
/-! ### put in ascending order -/
end
end Go.Pm.PP

/- Timely sets, of both. -/
set_option linter.unusedVariables false
set_option linter.unusedSimpArgs false
set_option maxRecDepth 4000
set_option maxHeartbeats 16000000
namespace Go.Pm.PP
open Go.Pm Go.Proofs Go.Pm.PE
def okC (js : List Job) (c : Nat) : Bool := timB js (bitsL js.length c)
def setsU (js : List Job) (k : Nat) : List (List Int) := ((List.range k).filter (okC js)).map (bitsL js.length)
def setsS (js : List Job) : List (List Int) := (setsU js (2 ^ js.length)).foldl (fun l x => insS x l) []
def tsR (js : List Job) : List (List Int) := if plOk js = true then setsS js else []
theorem setsU_succ {js : List Job} {k : Nat} : setsU js (k + 1) = setsU js k ++ if okC js k = true then [bitsL js.length k] else [] := by
  unfold setsU
  rw [List.range_succ, List.filter_append, List.map_append]
  congr 1
  cases g : okC js k <;> simp [List.filter_cons, g]
theorem setsU_len {js : List Job} {k : Nat} : (setsU js k).length ≤ k := by
  unfold setsU
  rw [List.length_map]
  exact Nat.le_trans (List.length_filter_le ..) (by simp)
theorem setsU_mem {js : List Job} {k : Nat} {x : List Int} : x ∈ setsU js k ↔ ∃ c, c < k ∧ okC js c = true ∧ bitsL js.length c = x := by
  unfold setsU
  rw [List.mem_map]
  constructor
  · rintro ⟨c, hc, rfl⟩
    obtain ⟨h1, h2⟩ := List.mem_filter.1 hc
    exact ⟨c, List.mem_range.1 h1, h2, rfl⟩
  · rintro ⟨c, h1, h2, rfl⟩
    exact ⟨c, List.mem_filter.2 ⟨List.mem_range.2 h1, h2⟩, rfl⟩
theorem setsU_nd {js : List Job} {k : Nat} (hk : k ≤ 2 ^ js.length) : (setsU js k).Nodup := by
  unfold setsU
  refine List.pairwise_map.2 (List.Pairwise.imp_of_mem (fun {a b} ha hb hne e => ?_) (List.nodup_range.sublist (List.filter_sublist (p := okC js))))
  have h1 := List.mem_range.1 (List.mem_filter.1 ha).1
  have h2 := List.mem_range.1 (List.mem_filter.1 hb).1
  exact hne (bits_inj (n := js.length) (by omega) (by omega) e)
theorem setsU_bd {js : List Job} (hn : js.length ≤ 8) {k : Nat} : ∀ x, x ∈ setsU js k → x.length ≤ 2 ^ 10 ∧ ∀ e, e ∈ x → 0 ≤ e ∧ e ≤ 2 ^ 20 := fun x hx => by
  obtain ⟨c, _, _, rfl⟩ := setsU_mem.1 hx
  refine ⟨Nat.le_trans bits_len (by omega), fun e he => ?_⟩
  have := mem_bits.1 he
  omega
theorem nest_gc {h h' : Hp} {d : Value} {r : List Value} {xss : List (List Int)} {us : List Value} (N : Nest h' d encI 1 xss us) : Nest (gc h h' (.tuple (d :: r).toArray)) d encI 1 xss us := by
  refine ⟨Sees.gcU N.out fun g => plainT (r := r) g, N.len, fun i u xs h1 h2 => ?_⟩
  rcases gc_cases h h' (.tuple (d :: r).toArray) with g | ⟨hp, g⟩
  · rw [g]; exact N.inn i u xs h1 h2
  · exfalso
    have hd : plainC d = true := plainT (r := r) hp
    obtain ⟨oa, c, e⟩ := N.out.shapeT
    have hi := (List.getElem?_eq_some_iff.1 h1).1
    rw [e] at hd
    match oa, us.length, c, hd, hi with
    | none, 0, 0, _, hi => exact absurd hi (Nat.not_lt_zero _)
theorem nest_of {h : Hp} {v : Value} {ps : List (Value × List Int)} (S : Sees h v 1 ((fsV ps).map encV)) (hs : ∀ p, p ∈ ps → Ints h p.1 p.2) : Nest h v encI 1 (snL ps) (fsV ps) := by
  refine ⟨S, by simp, fun i u xs h1 h2 => ?_⟩
  rw [List.getElem?_map] at h1 h2
  obtain ⟨p, hp, rfl⟩ := Option.map_eq_some_iff.1 h1
  rw [hp] at h2
  cases h2
  exact hs p (List.mem_of_getElem? hp)
theorem push_own {h0 h h1 : Hp} {L1 : List Asn} {v : Value} {us : List Value} {u : Value} {xss : List (List Int)} {x : List Int} (hl : us.length = xss.length) (H : Holds h0 h (L1 ++ (inL encI 1 us xss ++ []))) (o : Nat) (ho : L1[o]? = some (.own v 1 (us.map encV))) (hp : h <+: h1) (C : Own h.length h1 u 1 (x.map encI)) (hn : us.length ≤ 2 ^ 40) :
    ∃ v' h', appendP P (h1 ++ [some ⟨[u], 1, false⟩]) t_S_S_int v (.slice (some ⟨h1.length, 0, some 1⟩) 1 1) = some (v', h') ∧ Holds h0 h' ((L1.set o (.own v' 1 ((us ++ [u]).map encV))) ++ (inL encI 1 (us ++ [u]) (xss ++ [x]) ++ [])) := by
  have H1 : Holds h0 h1 (L1 ++ (inL encI 1 (us ++ [u]) (xss ++ [x]) ++ [])) := by
    have := H.call hp C
    rw [inL_snoc hl, List.append_nil]
    rw [List.append_nil, List.append_assoc] at this
    exact this
  have hol := (List.getElem?_eq_some_iff.1 ho).1
  obtain ⟨v', h', g1, g2, g3, g4⟩ := push_N0 H1 o (by rw [List.getElem?_append_left hol]; exact ho) u (one_of C.sees) hn
  rw [List.set_append_left _ _ hol] at g2
  exact ⟨v', h', g1, g2⟩
section
variable {h : Hp} {vj v : Value} {js : List Job}
theorem implTimelySets_run (J : Jobs h vj js) (hl : js.length ≤ 2 ^ 40) : RunsC P G n_impl_TimelySets [vj] h fun w h' => h <+: h' ∧ ∃ d us, w = .tuple #[d, .bool (plOk js)] ∧ Nest h' d encI 1 (tsR js) us := by
  refine hideC fun K hK => enter_run e_impl_TimelySets (by simp) ?_
  have Js := J
  obtain ⟨oj, cj, rfl⟩ := J.shapeT
  have r1 := IsPlain_run Js hl
  cases c1 : plOk js
  · rw [c1] at r1
    rw [tsR, c1] at hK
    simp -implicitDefEqProofs [CL_ret r1]
    exact onK hK ⟨List.prefix_rfl, _, [], rfl, ⟨⟨by simp, none, 0, rfl, .inl ⟨rfl, rfl, rfl⟩⟩, rfl, fun i u xs h1 h2 => by cases h1⟩⟩
  rw [c1] at r1
  rw [tsR, c1, if_pos rfl] at hK
  obtain ⟨hn, hg, _⟩ := plOk_of c1
  have p2 := Nat.two_pow_pos js.length
  have p8 : 2 ^ js.length ≤ 2 ^ 8 := Nat.pow_le_pow_right (by omega) hn
  have sh := shl_eq (i := js.length) (by omega)
  have hnd := setsU_nd (js := js) (Nat.le_refl _)
  obtain ⟨d, hd⟩ : ∃ d, d = 2 ^ js.length := ⟨_, rfl⟩
  have eS : setsS js = (setsU js d).foldl (fun l x => insS x l) [] := by rw [hd]; rfl
  rw [← hd] at sh p2 p8 hnd
  rw [eS] at hK
  simp -implicitDefEqProofs [CL_ret r1]
  refine R_loopO (fun m st h' => ∃ (k : Nat) (vo : Value) (us : List Value), k + m = d ∧ st = [(0, .slice oj js.length cj), (4, vo), (5, .int .i64 k)] ∧ us.length = (setsU js k).length ∧ Holds h h' ([.own vo 1 (us.map encV)] ++ (inL encI 1 us (setsU js k) ++ []))) (fun I hI m st h' => ?_) (n := d)
    ⟨0, .slice none 0 0, [], Nat.zero_add _, by simp, rfl, own_nil Holds.start _ _ _⟩
  rintro ⟨k, vo, us, hk, rfl, hul, H⟩
  have hsl := @setsU_len js k
  obtain ⟨ob, cb, rfl⟩ : ∃ a c, vo = .slice a us.length c := by obtain ⟨a, c, e⟩ := (H.sees 0 rfl : Sees h' vo 1 (us.map encV)).shapeT; exact ⟨a, c, e⟩
  by_cases hlt : k < d
  · have hlt' : (k : Int) < d := by omega
    simp -implicitDefEqProofs [sh, hlt, hlt']
    refine CL_post (listOf_run (h := h') (n := js.length) (c := k) (by omega) (by omega)) fun vl h2 ⟨hp2, o2⟩ => ?_
    have Sl : Ints h2 vl (bitsL js.length k) := o2.sees
    have hin : inN js.length (bitsL js.length k) := fun x hx => by have := mem_bits.1 hx; omega
    have rt := onTime_run (Js.pre (H.pre.trans hp2)) Sl hin (Nat.le_trans bits_len (by omega)) (good_bd hg)
    rw [tim_imp (plOk_pl c1)] at rt
    have eo : timB js (bitsL js.length k) = okC js k := rfl
    rw [eo] at rt
    have su := @setsU_succ js k
    obtain ⟨la, lc, rfl⟩ : ∃ a c, vl = .slice a (bitsL js.length k).length c := Sl.shapeT
    cases c2 : okC js k
    · rw [c2] at rt
      rw [c2, if_neg (by simp), List.append_nil] at su
      simp -implicitDefEqProofs [CL_ret rt, winc hlt (by omega)]
      exact ⟨m - 1, by omega, on hI ⟨k + 1, _, us, by omega, rfl, by rw [su]; exact hul, by rw [su]; exact H.ext hp2⟩⟩
    · rw [c2] at rt
      rw [c2, if_pos rfl] at su
      obtain ⟨v', h3, a3, H3⟩ := push_own hul H 0 rfl hp2 o2 (by omega)
      simp -implicitDefEqProofs [CL_ret rt, a3, winc hlt (by omega)]
      exact ⟨m - 1, by omega, on hI ⟨k + 1, v', us ++ [.slice la (bitsL js.length k).length lc], by omega, rfl, by rw [su]; simp [hul], by rw [su]; exact H3⟩⟩
  · have hlt' : ¬ (k : Int) < d := by omega
    have : k = d := by omega
    subst this
    have N := H.nest (L1 := [.own (.slice ob us.length cb) 1 (us.map encV)]) (o := 0) rfl hul
    simp -implicitDefEqProofs [sh, hlt, hlt']
    refine CL_post (orderedSets_run N (by omega) (setsU_bd hn) hnd) fun w h4 ⟨hp4, ps, e4, o4, s4⟩ => ?_
    obtain ⟨wa, wn, wc, rfl⟩ : ∃ a n c, w = .slice a n c := by obtain ⟨a, c, e⟩ := o4.sees.shape; exact ⟨_, _, _, e⟩
    have N4 := nest_of (ps := ps) o4.sees fun p hp => (s4 p hp).pre hp4
    rw [e4] at N4
    simp -implicitDefEqProofs
    exact onK hK ⟨pre_gcU (H.pre.trans hp4), _, _, rfl, nest_gc (r := [_]) N4⟩
theorem insN_see {u : Value} {xs : List Value} (S2 : Sees h u 1 (xs.map encV)) (hone : ∀ y, y ∈ xs → one y = true) {k : Nat} (hk : k ≤ xs.length) (x : Value) (hx : one x = true) (hn : xs.length ≤ 2 ^ 20) :
    ∃ (a3 : Option Addr) (b3 c3 : Nat) (a4 : Option Addr) (b4 c4 : Nat) (h4 : Hp) (a5 : Option Addr) (b5 c5 : Nat) (h5 : Hp) (a6 : Option Addr) (b6 c6 : Nat) (a7 : Option Addr) (b7 c7 : Nat) (h7 : Hp),
      sliceP P h t_S_S_int u none (some (.int .i64 k)) = some (.slice a3 b3 c3) ∧ appendP P h t_S_S_int (.slice none 0 0) (.slice a3 b3 c3) = some (.slice a4 b4 c4, h4) ∧ newOk h h4 ∧
      appendP P (h4 ++ [some ⟨[x], 1, false⟩]) t_S_S_int (.slice a4 b4 c4) (.slice (some ⟨h4.length, 0, some 1⟩) 1 1) = some (.slice a5 b5 c5, h5) ∧ modOk h.length (h4 ++ [some ⟨[x], 1, false⟩]) h5 ∧ newOk h h5 ∧
      sliceP P h5 t_S_S_int u (some (.int .i64 k)) none = some (.slice a6 b6 c6) ∧ appendP P h5 t_S_S_int (.slice a5 b5 c5) (.slice a6 b6 c6) = some (.slice a7 b7 c7, h7) ∧ h <+: h4 ∧ Holds h h7 [.own (.slice a7 b7 c7) 1 ((xs.take k ++ x :: xs.drop k).map encV)] ∧ h <+: h7 := by
  obtain ⟨v3, s3, f3⟩ := S2.front (P := P) u_S_S_int i_S_int (k := .i64) (j := (k : Int)) (by omega) (by simp; omega)
  rw [Int.toNat_natCast, ← List.map_take] at f3
  have H0 := own_nil (Holds.start (h := h)) Value encV 1
  obtain ⟨v4, h4, ha4, H4', _⟩ := app_N H0 0 rfl f3 (fun y hy => hone y (List.mem_of_mem_take hy)) (by simp; omega)
  have H4 : Holds h h4 [.own v4 1 ((xs.take k).map encV)] := H4'
  have n4 : NR h.length h4 := append_nr nr_self ha4
  have no4 := newOk_of H4.pre n4
  obtain ⟨v5, h5, ha5, H5', k5, _⟩ := push_N0 H4 0 rfl x hx (by simp; omega)
  have H5 : Holds h h5 [.own v5 1 ((xs.take k ++ [x]).map encV)] := H5'
  have n5 : NR h.length (h4 ++ [some ⟨[x], 1, false⟩]) := n4.new [x] 1
  have md := app_mod (b := h.length) rfl n5 ha5 (H4.pre.trans (List.prefix_append ..)) H5.pre
  have n6 := append_nr n5 ha5
  obtain ⟨v6, s6, f6, _⟩ := (S2.pre H5.pre).back (P := P) u_S_S_int i_S_int (k := .i64) (j := (k : Int)) (by omega) (by simp; omega)
  rw [Int.toNat_natCast, ← List.map_drop] at f6
  obtain ⟨v7, h7, ha7, H7', _⟩ := app_N H5 0 rfl f6 (fun y hy => hone y (List.mem_of_mem_drop hy)) (by simp; omega)
  have H7 : Holds h h7 [.own v7 1 ((xs.take k ++ x :: xs.drop k).map encV)] := by
    have : Holds h h7 [.own v7 1 ((xs.take k ++ [x] ++ xs.drop k).map encV)] := H7'
    rw [List.append_assoc] at this
    exact this
  obtain ⟨a3, b3, c3, rfl⟩ : ∃ a n c, v3 = .slice a n c := by obtain ⟨a, c, e⟩ := f3.shape; exact ⟨_, _, _, e⟩
  obtain ⟨a4, b4, c4, rfl⟩ : ∃ a n c, v4 = .slice a n c := by obtain ⟨a, c, e⟩ := (H4.sees 0 rfl).shape; exact ⟨_, _, _, e⟩
  obtain ⟨a5, b5, c5, rfl⟩ : ∃ a n c, v5 = .slice a n c := by obtain ⟨a, c, e⟩ := (H5.sees 0 rfl).shape; exact ⟨_, _, _, e⟩
  obtain ⟨a6, b6, c6, rfl⟩ : ∃ a n c, v6 = .slice a n c := by obtain ⟨a, c, e⟩ := f6.shape; exact ⟨_, _, _, e⟩
  obtain ⟨a7, b7, c7, rfl⟩ : ∃ a n c, v7 = .slice a n c := by obtain ⟨a, c, e⟩ := (H7.sees 0 rfl).shape; exact ⟨_, _, _, e⟩
  exact ⟨a3, b3, c3, a4, b4, c4, h4, a5, b5, c5, h5, a6, b6, c6, a7, b7, c7, h7, s3, ha4, no4, ha5, md, newOk_of H5.pre n6, s6, ha7, H4.pre, H7, H7.pre⟩
theorem specTimelySets_run (J : Jobs h vj js) (hl : js.length ≤ 2 ^ 40) : RunsC P G n_spec_TimelySets [vj] h fun w h' => h <+: h' ∧ ∃ d us, w = .tuple #[d, .bool (plOk js)] ∧ Nest h' d encI 1 (tsR js) us := by
  refine hideC fun K hK => enter_run e_spec_TimelySets (by simp) ?_
  have Js := J
  obtain ⟨oj, cj, rfl⟩ := J.shapeT
  have r1 := l6Good_run Js hl
  cases c1 : plOk js
  · rw [c1] at r1
    rw [tsR, c1] at hK
    simp -implicitDefEqProofs [CL_ret r1]
    exact onK hK ⟨List.prefix_rfl, _, [], rfl, ⟨⟨by simp, none, 0, rfl, .inl ⟨rfl, rfl, rfl⟩⟩, rfl, fun i u xs h1 h2 => by cases h1⟩⟩
  rw [c1] at r1
  rw [tsR, c1, if_pos rfl] at hK
  obtain ⟨hn, hg, _⟩ := plOk_of c1
  have p2 := Nat.two_pow_pos js.length
  have p8 : 2 ^ js.length ≤ 2 ^ 8 := Nat.pow_le_pow_right (by omega) hn
  have sh := shl_eq (i := js.length) (by omega)
  have hnd := fun {k} => @setsU_nd js k
  obtain ⟨d, hd⟩ : ∃ d, d = 2 ^ js.length := ⟨_, rfl⟩
  have eS : setsS js = (setsU js d).foldl (fun l x => insS x l) [] := by rw [hd]; rfl
  rw [← hd] at sh p2 p8
  simp only [← hd] at hnd
  rw [eS] at hK
  simp -implicitDefEqProofs [CL_ret r1]
  refine R_loopO (fun m st h' => ∃ (k : Nat) (vo : Value) (ps : List (Value × List Int)), k + m = d ∧ st = [(0, .slice oj js.length cj), (4, vo), (5, .int .i64 k)] ∧ h <+: h' ∧ ps.length = (setsU js k).length ∧ snL ps = (setsU js k).foldl (fun l x => insS x l) [] ∧ Sees h' vo 1 ((fsV ps).map encV) ∧ ∀ p, p ∈ ps → Ints h' p.1 p.2) (fun I hI m st h' => ?_) (n := d)
    ⟨0, .slice none 0 0, [], Nat.zero_add _, by simp, List.prefix_rfl, rfl, rfl, ⟨by simp, none, 0, rfl, .inl ⟨rfl, rfl, rfl⟩⟩, fun p hp => by cases hp⟩
  rintro ⟨k, vo, ps, hk, rfl, hp, hpl, hps, So, hsee⟩
  have hsl := @setsU_len js k
  have hfl : (fsV ps).length = ps.length := by simp
  obtain ⟨ob, cb, rfl⟩ : ∃ a c, vo = .slice a ps.length c := by obtain ⟨a, c, e⟩ := So.shapeT; exact ⟨a, c, by rw [e, hfl]⟩
  by_cases hlt : k < d
  · have hlt' : (k : Int) < d := by omega
    simp -implicitDefEqProofs [sh, hlt, hlt']
    refine CL_post (l4Set_run (h := h') (n := js.length) (c := k) (by omega) (by omega)) fun vl h2 ⟨hp2, o2⟩ => ?_
    have Sl : Ints h2 vl (bitsL js.length k) := o2.sees
    have hin : inN js.length (bitsL js.length k) := fun x hx => by have := mem_bits.1 hx; omega
    have hbl : (bitsL js.length k).length ≤ 8 := Nat.le_trans bits_len hn
    have rt := l6Timely_run (Js.pre (hp.trans hp2)) Sl hin (Nat.le_trans bits_len (by omega)) (good_bd hg)
    rw [tim_spec bits_asc] at rt
    have eo : timB js (bitsL js.length k) = okC js k := rfl
    rw [eo] at rt
    have su := @setsU_succ js k
    have hsrt : SrtS (snL ps) := by
      rw [hps]; exact foldS_srt List.Pairwise.nil (by simpa using hnd (k := k) (by omega))
    have hperm : (snL ps).Perm (setsU js k) := by rw [hps]; have := @foldS_perm (setsU js k) []; simpa using this
    have hpb : ∀ p, p ∈ ps → p.2.length ≤ 2 ^ 10 := fun p hp => (setsU_bd hn (k := k) p.2 (hperm.mem_iff.1 (List.mem_map.2 ⟨p, hp, rfl⟩))).1
    obtain ⟨x, hx⟩ : ∃ x, x = bitsL js.length k := ⟨_, rfl⟩
    rw [← hx] at Sl su hbl
    obtain ⟨la, lc, rfl⟩ : ∃ a c, vl = .slice a x.length c := Sl.shapeT
    have S2 := So.pre hp2
    have see2 : ∀ p, p ∈ ps → Ints h2 p.1 p.2 := fun p hp => (hsee p hp).pre hp2
    cases c2 : okC js k
    · rw [c2] at rt
      rw [c2, if_neg (by simp), List.append_nil] at su
      simp -implicitDefEqProofs [CL_ret rt, winc hlt (by omega)]
      exact ⟨m - 1, by omega, on hI ⟨k + 1, _, ps, by omega, rfl, hp.trans hp2, by rw [su]; exact hpl, by rw [su]; exact hps, S2, see2⟩⟩
    · rw [c2] at rt
      rw [c2, if_pos rfl] at su
      simp -implicitDefEqProofs [CL_ret rt]
      refine R_loopO (fun m2 st h3 => ∃ (q : Nat), q + m2 = ps.length ∧ st = [(0, .slice oj js.length cj), (4, .slice ob ps.length cb), (5, .int .i64 k), (6, .slice la x.length lc), (7, .int .i64 q)] ∧ h3 = h2 ∧ ∀ j p, j < q → ps[j]? = some p → lessS p.2 x = true) (fun I2 hI2 m2 st h3 => ?_) (n := ps.length)
        ⟨0, Nat.zero_add _, by simp, rfl, fun j p hj => by omega⟩
      rintro ⟨q, hq, rfl, rfl, hall⟩
      have fin : (∀ p, ps[q]? = some p → lessS p.2 x = false) → ∃ (a3 : Option Addr) (b3 c3 : Nat) (a4 : Option Addr) (b4 c4 : Nat) (h4 : Hp) (a5 : Option Addr) (b5 c5 : Nat) (h5 : Hp) (a6 : Option Addr) (b6 c6 : Nat) (a7 : Option Addr) (b7 c7 : Nat) (h7 : Hp),
          sliceP P h3 t_S_S_int (.slice ob ps.length cb) none (some (.int .i64 q)) = some (.slice a3 b3 c3) ∧ appendP P h3 t_S_S_int (.slice none 0 0) (.slice a3 b3 c3) = some (.slice a4 b4 c4, h4) ∧ newOk h3 h4 ∧
          appendP P (h4 ++ [some ⟨[.slice la x.length lc], 1, false⟩]) t_S_S_int (.slice a4 b4 c4) (.slice (some ⟨h4.length, 0, some 1⟩) 1 1) = some (.slice a5 b5 c5, h5) ∧ modOk h3.length (h4 ++ [some ⟨[.slice la x.length lc], 1, false⟩]) h5 ∧ newOk h3 h5 ∧
          sliceP P h5 t_S_S_int (.slice ob ps.length cb) (some (.int .i64 q)) none = some (.slice a6 b6 c6) ∧ appendP P h5 t_S_S_int (.slice a5 b5 c5) (.slice a6 b6 c6) = some (.slice a7 b7 c7, h7) ∧ I (m - 1) [(0, .slice oj js.length cj), (4, .slice a7 b7 c7), (5, .int .i64 ((k : Int) + 1))] h7 := fun g => by
        obtain ⟨a3, b3, c3, a4, b4, c4, h4, a5, b5, c5, h5, a6, b6, c6, a7, b7, c7, h7, s3, ha4, no4, ha5, md, no5, s6, ha7, hp4, H7, hp7⟩ := insN_see S2 (fun y hy => by obtain ⟨p, hp, rfl⟩ := List.mem_map.1 hy; exact one_of (see2 p hp)) (k := q) (by rw [hfl]; omega) (.slice la x.length lc) rfl (by rw [hfl]; omega)
        refine ⟨a3, b3, c3, a4, b4, c4, h4, a5, b5, c5, h5, a6, b6, c6, a7, b7, c7, h7, s3, ha4, no4, ha5, md, no5, s6, ha7, on hI ⟨k + 1, .slice a7 b7 c7, ps.take q ++ (.slice la x.length lc, x) :: ps.drop q, by omega, by simp, (hp.trans hp2).trans hp7, ?_, ?_, ?_, fun p hp => ?_⟩⟩
        · rw [su]; simp; omega
        · rw [su, List.foldl_append, ← hps, snL, List.map_append, List.map_cons, List.map_take, List.map_drop]
          refine (insS_take (by rw [List.length_map]; omega) (fun j y hj hy => ?_) fun y hy => ?_).symm
          · rw [List.getElem?_map] at hy
            obtain ⟨p, hp, rfl⟩ := Option.map_eq_some_iff.1 hy
            exact hall j p hj hp
          · rw [List.getElem?_map] at hy
            obtain ⟨p, hp, rfl⟩ := Option.map_eq_some_iff.1 hy
            exact g p hp
        · rw [fsV, List.map_append, List.map_cons, List.map_take, List.map_drop]; exact H7.sees 0 rfl
        · rcases List.mem_append.1 hp with g | g
          · exact (see2 p (List.mem_of_mem_take g)).pre hp7
          · rcases List.mem_cons.1 g with rfl | g
            · exact Sl.pre hp7
            · exact (see2 p (List.mem_of_mem_drop g)).pre hp7
      by_cases hlq : q < ps.length
      · have hlq' : (q : Int) < ps.length := by omega
        obtain ⟨p, hpq, _⟩ := drop_at hlq
        have hpm := List.mem_of_getElem? hpq
        have lz := load_N S2 (i := q) (x := p.1) (by rw [List.getElem?_map, hpq]; rfl)
        have rl := l4Less_run (see2 p hpm) Sl (by have := hpb p hpm; omega) (by omega)
        obtain ⟨pv, y⟩ := p
        obtain ⟨ya, yn, yc, rfl⟩ : ∃ a n c, pv = .slice a n c := by obtain ⟨a, c, e⟩ := (see2 _ hpm).shape; exact ⟨_, _, _, e⟩
        cases c3 : lessS y x
        · have rl : Ret P G n_spec_l4Less [.slice ya yn yc, .slice la x.length lc] h3 (.bool (lessS y x)) h3 := rl
          rw [c3] at rl
          obtain ⟨a3, b3, c3', a4, b4, c4, h4, a5, b5, c5, h5, a6, b6, c6, a7, b7, c7, h7, s3, ha4, no4, ha5, md, no5, s6, ha7, fI⟩ := fin (fun p' g => by rw [hpq] at g; cases g; exact c3)
          simp -implicitDefEqProofs [-indexAddrP_some, hlq, hlq', lz, CL_ret rl, s3, ha4, no4, ha5, md, no5, s6, ha7, winc hlt (by omega)]
          exact ⟨m - 1, by omega, fI⟩
        · have rl : Ret P G n_spec_l4Less [.slice ya yn yc, .slice la x.length lc] h3 (.bool (lessS y x)) h3 := rl
          rw [c3] at rl
          simp -implicitDefEqProofs [-indexAddrP_some, hlq, hlq', lz, CL_ret rl, winc hlq (by omega)]
          exact ⟨m2 - 1, by omega, on hI2 ⟨q + 1, by omega, rfl, rfl, fun j p' hj hp' => by
            rcases Nat.lt_or_ge j q with g | g
            · exact hall j p' g hp'
            · have : j = q := by omega
              subst this
              rw [hpq] at hp'; cases hp'; exact c3⟩⟩
      · have hlq' : ¬ (q : Int) < ps.length := by omega
        obtain ⟨a3, b3, c3', a4, b4, c4, h4, a5, b5, c5, h5, a6, b6, c6, a7, b7, c7, h7, s3, ha4, no4, ha5, md, no5, s6, ha7, fI⟩ := fin (fun p' g => by rw [List.getElem?_eq_none (by omega)] at g; cases g)
        simp -implicitDefEqProofs [-indexAddrP_some, hlq, hlq', s3, ha4, no4, ha5, md, no5, s6, ha7, winc hlt (by omega)]
        exact ⟨m - 1, by omega, fI⟩
  · have hlt' : ¬ (k : Int) < d := by omega
    have : k = d := by omega
    subst this
    have N4 := nest_of (ps := ps) So hsee
    rw [hps] at N4
    simp -implicitDefEqProofs [sh, hlt, hlt']
    exact onK hK ⟨pre_gcU hp, _, _, rfl, nest_gc (r := [_]) N4⟩
end
end Go.Pm.PP

/- Sums over sets; vectors. -/
set_option linter.unusedVariables false
set_option linter.unusedSimpArgs false
set_option maxRecDepth 4000
set_option maxHeartbeats 16000000
namespace Go.Pm.PP
open Go.Pm Go.Proofs Go.Pm.PE
section
variable {h : Hp} {vj v ve vs : Value} {js : List Job} {xs es s : List Int}
/-! ### sums -/
def supL (js : List Job) (es s : List Int) : Int := (s.map fun i => (jA js i).t * gE es i.toNat).sum
def timS (js : List Job) (s : List Int) : Int := (s.map fun i => (jA js i).t).sum
def sqrS (js : List Job) (s : List Int) : Int := (s.map fun i => (jA js i).t * (jA js i).t).sum
end
end Go.Pm.PP

/- Vectors of ends: guards, short sets. -/
set_option linter.unusedVariables false
set_option linter.unusedSimpArgs false
set_option maxRecDepth 4000
set_option maxHeartbeats 16000000
namespace Go.Pm.PP
open Go.Pm Go.Proofs Go.Pm.PE
section
variable {h : Hp} {vj v ve vs u : Value} {js : List Job} {xs ys es s : List Int}
/-! ### short sets -/
end
end Go.Pm.PP

/- Vectors of ends: what both export. -/
set_option linter.unusedVariables false
set_option linter.unusedSimpArgs false
set_option maxRecDepth 4000
set_option maxHeartbeats 16000000
namespace Go.Pm.PP
open Go.Pm Go.Proofs Go.Pm.PE
section
variable {h : Hp} {vj v ve vs u : Value} {js : List Job} {xs ys es s : List Int}
end
end Go.Pm.PP

/- Vectors of orders, demands and supplies of sets, mixtures. -/
set_option linter.unusedVariables false
set_option linter.unusedSimpArgs false
set_option maxRecDepth 4000
set_option maxHeartbeats 16000000
namespace Go.Pm.PP
open Go.Pm Go.Proofs Go.Pm.PE
section
variable {h : Hp} {vj v ve vs u va vb : Value} {js : List Job} {xs ys es s a b : List Int} {x y : Int}
/-! ### sets -/
end
end Go.Pm.PP

/- Mixtures of vectors. -/
set_option linter.unusedVariables false
set_option linter.unusedSimpArgs false
set_option maxRecDepth 4000
set_option maxHeartbeats 16000000
namespace Go.Pm.PP
open Go.Pm Go.Proofs Go.Pm.PE
section
variable {h : Hp} {vj v ve vs u va vb : Value} {js : List Job} {xs ys es s a b : List Int} {x y : Int}
end
end Go.Pm.PP

/- Vectors of ends, in plain terms: short sets are first parts; orders' vectors; mixtures. -/
set_option linter.unusedVariables false
set_option linter.unusedSimpArgs false
set_option maxRecDepth 4000
set_option maxHeartbeats 4000000
namespace Go.Pm.PP
open Go.Pm Go.Proofs Go.Pm.PE
/-- Twice what a set has above its demand. -/
def f2 (js : List Job) (es s : List Int) : Int := 2 * supL js es s - (timS js s * timS js s + sqrS js s)
theorem t_pos {js : List Job} (hg : goodL js = true) {x : Int} (hx : 0 ≤ x ∧ x < js.length) : 1 ≤ (jA js x).t := by
  obtain ⟨y, hy, _⟩ := drop_at (show x.toNat < js.length by omega)
  have e : jA js x = y := by unfold jA; rw [hy]; rfl
  have := job_of (job_at hg hy)
  rw [e]; omega
/-! ### vectors of orders -/
theorem end_mid {js : List Job} {x : Int} {C : List Int} : ∀ {A : List Int} {now : Int} {E : List Int}, inN E.length (A ++ x :: C) → (A ++ x :: C).Nodup → gE (endGo js (A ++ x :: C) now E) x.toNat = endAt (jA js x) (nowGo js now A)
  | [], now, E, hin, hnd => by
    have hx := hin x (List.mem_cons_self ..)
    have hnd := List.nodup_cons.1 hnd
    have e : endGo js ([] ++ x :: C) now E = endGo js C (endAt (jA js x) now) (E.set x.toNat (endAt (jA js x) now)) := rfl
    rw [e, end_out (fun y hy => (hin y (List.mem_cons_of_mem _ hy)).1) (by rw [show ((x.toNat : Nat) : Int) = x by omega]; exact hnd.1), gE_set (by omega), if_pos rfl]
    rfl
  | a :: A, now, E, hin, hnd => by
    have hnd' := List.nodup_cons.1 hnd
    have e : endGo js (a :: A ++ x :: C) now E = endGo js (A ++ x :: C) (endAt (jA js a) now) (E.set a.toNat (endAt (jA js a) now)) := rfl
    rw [e, end_mid (by rw [List.length_set]; exact fun y hy => hin y (List.mem_cons_of_mem _ hy)) hnd'.2]
    rfl
/-! ### mixtures -/
end Go.Pm.PP

/- The table of weights, the least weight of late jobs and timely orders, in plain terms. -/
set_option linter.unusedVariables false
set_option linter.unusedSimpArgs false
set_option maxRecDepth 4000
namespace Go.Pm.PP
open Go.Pm Go.Proofs Go.Pm.PE
def wJ (js : List Job) (x : Int) : Int := (jA js x).w
def nT (js : List Job) : Nat := (totT js).toNat
def wtab (js : List Job) : List Int := (dueL js (upTo js.length)).foldl (fun T x => wstT T (tJ js x) (wJ js x) (dJ js x)) (0 :: List.replicate (nT js) (-1))
def clsC (js : List Job) (k : Nat) (S : List Int) : Prop := ∃ c, c < k ∧ okC js c = true ∧ bitsL js.length c = S
theorem okG_timGo {js : List Job} : ∀ {xs : List Int} {now : Int}, okG (tJ js) (dJ js) 0 now xs = timGo js now xs
  | [], _ => rfl
  | x :: r, now => by
    rw [okG, timGo, okG_timGo, Int.add_zero]; rfl
theorem dueL_perm {js : List Job} {xs : List Int} : (dueL js xs).Perm xs := sortB_perm
theorem dueL_lex {js : List Job} {xs : List Int} (hs : xs.Pairwise (· < ·)) : (dueL js xs).Pairwise (Lex (dueAh js)) := sortB_sorted due_weak hs
/-- Sorted lists are parts of sorted lists that have their members. -/
theorem lex_sub {ah : Int → Int → Bool} (w : Weak ah) {A D : List Int} (hA : A.Pairwise (Lex ah)) (hD : D.Pairwise (Lex ah)) (nA : A.Nodup) (nD : D.Nodup) (hm : ∀ x, x ∈ A → x ∈ D) : A.Sublist D := by
  have e : A = D.filter fun x => decide (x ∈ A) := by
    refine sorted_eq (R := Lex ah) (fun a b h1 h2 => Lex.asymm w h1 h2) hA (hD.sublist List.filter_sublist) ?_
    refine (List.perm_ext_iff_of_nodup nA (nD.sublist List.filter_sublist)).2 fun x => ?_
    rw [List.mem_filter, decide_eq_true_eq]
    exact ⟨fun h => ⟨hm x h, h⟩, fun h => h.2⟩
  rw [e]
  exact List.filter_sublist
theorem due_bits {js : List Job} {c : Nat} : (dueL js (bitsL js.length c)).Sublist (dueL js (upTo js.length)) := by
  refine lex_sub due_weak (dueL_lex bits_asc) (dueL_lex up_asc) ?_ ?_ fun x hx => ?_
  · exact dueL_perm.nodup_iff.2 bits_nodup
  · exact dueL_perm.nodup_iff.2 (upTo_nodup _)
  · have := mem_bits.1 (dueL_perm.mem_iff.1 hx)
    exact dueL_perm.mem_iff.2 (mem_upTo.2 ⟨this.1, this.2.1⟩)
section
variable {js : List Job}
theorem wJ_nn (hg : goodL js = true) (x : Int) : 0 ≤ wJ js x := (jw_bd hg x).1
theorem tot_up : totT js = tsm (tJ js) (upTo js.length) := tot_sum
theorem tsm_sub {t : Int → Int} (ht : ∀ x, 0 ≤ t x) : ∀ {S D : List Int}, S.Sublist D → tsm t S ≤ tsm t D := fun {S D} h => by
  induction h with
  | slnil => exact Int.le_refl _
  | cons a _ ih => rw [tsm_cons]; have := ht a; omega
  | cons_cons a _ ih => rw [tsm_cons, tsm_cons]; omega
theorem bits_sub {n c : Nat} : (bitsL n c).Sublist (upTo n) := by
  unfold bitsL upTo
  rw [List.range_eq_range']
  exact List.filter_sublist.map _
theorem bits_tot (hok : plOk js = true) {c : Nat} : 0 ≤ tsm (tJ js) (bitsL js.length c) ∧ tsm (tJ js) (bitsL js.length c) ≤ nT js := by
  have p := plOk_pl hok
  have h1 : tsm (tJ js) (bitsL js.length c) ≤ totT js := by rw [tot_up]; exact tsm_sub (t := tJ js) p.t bits_sub
  have h2 := tsm_nonneg (w := tJ js) p.t (S := bitsL js.length c)
  unfold nT
  omega
theorem wtab_ok (hok : plOk js = true) : TabK (tJ js) (wJ js) (nT js) (clsP (tJ js) (dJ js) (dueL js (upTo js.length))) (wtab js) := by
  obtain ⟨_, hg, _⟩ := plOk_of hok
  have := TabK.fold (t := tJ js) (w := wJ js) (d := dJ js) (N := nT js) (wJ_nn hg) (plOk_pl hok).t (l := dueL js (upTo js.length)) (D := []) (T := 0 :: List.replicate (nT js) (-1)) (fun x hx => t_pos hg (mem_upTo.1 (dueL_perm.mem_iff.1 hx))) (TabK.one (wJ_nn hg))
  rwa [List.nil_append] at this
/-- A timely list in any order is a timely set. -/
theorem tim_any (hok : plOk js = true) {S s : List Int} (hp : S.Perm s) (h : timGo js 0 S = true) : timB js s = true := by
  have p := plOk_pl hok
  have h1 := (tim_lat p (xs := S) (Int.le_refl 0) (Int.le_refl 0)).1 h
  have h2 := lat_best (js := js) (m := 0) p (xs := S) (ys := dueL js s) dueL_d (hp.trans dueL_perm.symm)
  exact (tim_lat p (xs := dueL js s) (Int.le_refl 0) (Int.le_refl 0)).2 (Int.le_trans h2 h1)
theorem code_of {S : List Int} (hnd : S.Nodup) (hin : inN js.length S) : ∃ c, c < 2 ^ js.length ∧ (bitsL js.length c).Perm S := by
  have hs : (ascL S).Pairwise (· < ·) := by
    have h1 : (ascL S).Perm S := sortB_perm
    have h2 := sortB_weak (ah := fun a b => decide (a < b)) ⟨fun h => by simp at h ⊢; omega, fun h1 h2 => by simp at h1 h2 ⊢; omega⟩ (l := S)
    have h3 : (ascL S).Nodup := h1.nodup_iff.2 hnd
    have h2 : (ascL S).Pairwise fun a b => a ≤ b := h2.imp fun h => by simpa using h
    exact List.Pairwise.imp (fun h => by omega) (h2.and h3)
  obtain ⟨c, hc, e⟩ := bits_of (n := js.length) (m := js.length) (Nat.le_refl _) hs fun x hx => hin x ((sortB_perm (ah := fun a b => decide (a < b)) (l := S)).mem_iff.1 hx)
  exact ⟨c, hc, by rw [e]; exact sortB_perm⟩
theorem tab_same (hok : plOk js = true) {T : List Int} (h : TabK (tJ js) (wJ js) (nT js) (clsC js (2 ^ js.length)) T) : T = wtab js := by
  obtain ⟨_, hg, _⟩ := plOk_of hok
  refine h.uniq (wtab_ok hok) (wJ_nn hg) (fun S hS => ?_) fun S hS => ?_
  · obtain ⟨c, hc, ho, rfl⟩ := hS
    exact ⟨dueL js (bitsL js.length c), ⟨due_bits, by rw [okG_timGo]; exact ho⟩, dueL_perm⟩
  · obtain ⟨h1, h2⟩ := hS
    rw [okG_timGo] at h2
    have hin : inN js.length S := fun x hx => mem_upTo.1 (dueL_perm.mem_iff.1 (h1.subset hx))
    have hnd : S.Nodup := (dueL_perm.nodup_iff.2 (upTo_nodup _)).sublist h1
    obtain ⟨c, hc, hp⟩ := code_of hnd hin
    exact ⟨_, ⟨c, hc, tim_any hok hp.symm h2, rfl⟩, hp⟩
/-! ### the greatest one -/
def mxT (T : List Int) : Int := T.foldl (fun m x => max m x) 0
theorem mx_go : ∀ {l : List Int} {m : Int}, m ≤ l.foldl (fun m x => max m x) m ∧ (∀ x, x ∈ l → x ≤ l.foldl (fun m x => max m x) m) ∧ (l.foldl (fun m x => max m x) m = m ∨ l.foldl (fun m x => max m x) m ∈ l)
  | [], m => ⟨Int.le_refl _, fun x h => (by cases h), .inl rfl⟩
  | y :: l, m => by
    obtain ⟨h1, h2, h3⟩ := mx_go (l := l) (m := max m y)
    rw [List.foldl_cons]
    refine ⟨by omega, fun x hx => ?_, ?_⟩
    · rcases List.mem_cons.1 hx with rfl | g
      · omega
      · exact h2 x g
    · rcases h3 with g | g
      · rcases Int.le_total m y with k | k
        · right; rw [g, Int.max_eq_right k]; exact List.mem_cons_self ..
        · left; rw [g, Int.max_eq_left k]
      · right; exact List.mem_cons_of_mem _ g
theorem wtab_len (hok : plOk js = true) : (wtab js).length = nT js + 1 := (wtab_ok hok).len
theorem wtab_up (hok : plOk js = true) {c : Nat} (hc : okC js c = true) : tsm (wJ js) (bitsL js.length c) ≤ gE (wtab js) (tsm (tJ js) (bitsL js.length c)).toNat ∧ gE (wtab js) (tsm (tJ js) (bitsL js.length c)).toNat ≤ mxT (wtab js) := by
  have b := bits_tot hok (c := c)
  have k := (wtab_ok hok).up (dueL js (bitsL js.length c)) ⟨due_bits, by rw [okG_timGo]; exact hc⟩ (tsm (tJ js) (bitsL js.length c)).toNat (by omega) (by rw [tsm_perm dueL_perm]; omega)
  rw [tsm_perm dueL_perm] at k
  refine ⟨k, mx_go.2.1 _ ?_⟩
  exact List.mem_of_getElem? (gE_get (by rw [wtab_len hok]; omega))
theorem wtab_att (hok : plOk js = true) : ∃ c, c < 2 ^ js.length ∧ okC js c = true ∧ tsm (wJ js) (bitsL js.length c) = mxT (wtab js) := by
  obtain ⟨hn, hg, _⟩ := plOk_of hok
  have nil : ∃ c, c < 2 ^ js.length ∧ okC js c = true ∧ tsm (wJ js) (bitsL js.length c) = 0 := ⟨0, Nat.two_pow_pos _, by unfold okC timB; rw [bits_zero]; rfl, by rw [bits_zero]; rfl⟩
  obtain ⟨g1, g2, g3⟩ := mx_go (l := wtab js) (m := 0)
  rcases g3 with g | g
  · obtain ⟨c, h1, h2, h3⟩ := nil
    exact ⟨c, h1, h2, by rw [h3]; exact g.symm⟩
  · obtain ⟨k, hk⟩ := List.getElem?_of_mem g
    have hkl := (List.getElem?_eq_some_iff.1 hk).1
    rw [wtab_len hok] at hkl
    have e : gE (wtab js) k = mxT (wtab js) := by unfold gE; rw [hk]; rfl
    have g1 : 0 ≤ mxT (wtab js) := g1
    obtain ⟨S, ⟨s1, s2⟩, h1, h2⟩ := (wtab_ok hok).att k (by omega) (by rw [e]; exact g1)
    rw [okG_timGo] at s2
    have hin : inN js.length S := fun x hx => mem_upTo.1 (dueL_perm.mem_iff.1 (s1.subset hx))
    have hnd : S.Nodup := (dueL_perm.nodup_iff.2 (upTo_nodup _)).sublist s1
    obtain ⟨c, hc, hp⟩ := code_of hnd hin
    exact ⟨c, hc, tim_any hok hp.symm s2, by rw [tsm_perm hp, h2, e]⟩
def llW (js : List Job) : Int := if plOk js = true then tsm (wJ js) (upTo js.length) - mxT (wtab js) else 0
/-! ### late jobs of an order -/
def onT (js : List Job) : Int → List Int → List Int
  | _, [] => []
  | now, x :: r => if now + (jA js x).t ≤ (jA js x).d then x :: onT js (now + (jA js x).t) r else onT js (now + (jA js x).t) r
theorem onT_sub : ∀ {xs : List Int} {now : Int}, (onT js now xs).Sublist xs
  | [], _ => List.Sublist.refl _
  | x :: r, now => by
    rw [onT]
    split
    · exact onT_sub.cons_cons x
    · exact onT_sub.cons x
theorem onT_tim (p : Pl js) : ∀ {xs : List Int} {a b : Int}, a ≤ b → timGo js a (onT js b xs) = true
  | [], _, _, _ => rfl
  | x :: r, a, b, h => by
    have := p.t x
    rw [onT]
    split
    · rw [timGo, Bool.and_eq_true, decide_eq_true_eq]
      exact ⟨by omega, onT_tim p (by omega)⟩
    · exact onT_tim p (by omega)
theorem onT_sum (p : Pl js) : ∀ {xs : List Int} {now : Int}, 0 ≤ now → sumGo 8 js now xs + tsm (wJ js) (onT js now xs) = tsm (wJ js) xs
  | [], _, _ => rfl
  | x :: r, now, h => by
    have := p.t x
    have ih := onT_sum p (xs := r) (now := now + (jA js x).t) (by omega)
    rw [sumGo, onT, p.endAt h, tsm_cons]
    have ew : wJ js x = (jA js x).w := rfl
    have ec : costV 8 (jA js x) (now + (jA js x).t) = if now + (jA js x).t ≤ (jA js x).d then 0 else (jA js x).w := by
      unfold costV
      simp only [show ¬ ((8 : Int) = 2) by decide, show ¬ ((8 : Int) = 3) by decide, show ¬ ((8 : Int) = 5) by decide, show ¬ ((8 : Int) = 6) by decide, show ¬ ((8 : Int) = 7) by decide, if_false]
      by_cases c : now + (jA js x).t ≤ (jA js x).d
      · rw [if_pos c, if_pos (by omega)]
      · rw [if_neg c, if_neg (by omega)]
    rw [ec]
    split
    · rw [tsm_cons]; omega
    · omega
/-- The value of no order is less. -/
theorem late_low (hok : plOk js = true) {xs : List Int} (o : Ord js.length xs) : llW js ≤ valX 8 js xs := by
  have p := plOk_pl hok
  have e : valX 8 js xs = sumGo 8 js 0 xs := by
    unfold valX
    exact val_sum (by omega) (by omega) (ord_prm o)
  have hs := onT_sum p (xs := xs) (now := 0) (Int.le_refl 0)
  have hnd : (onT js 0 xs).Nodup := o.nd.sublist onT_sub
  obtain ⟨c, hc, hp⟩ := code_of hnd fun x hx => o.inn x (onT_sub.subset hx)
  have ht := tim_any hok hp.symm (onT_tim p (Int.le_refl 0))
  have k := wtab_up hok (c := c) ht
  rw [tsm_perm hp] at k
  have hu : tsm (wJ js) xs = tsm (wJ js) (upTo js.length) := tsm_perm (ord_perm o)
  rw [llW, if_pos hok, e]
  omega
/-! ### an order that begins with a timely set -/
def toR (js : List Job) (s : List Int) : List Int := dueL js s ++ delF (upTo js.length) s
theorem toR_ord {s : List Int} (hin : inN js.length s) (hs : s.Pairwise (· < ·)) : Ord js.length (toR js s) := by
  refine ord_of_perm ?_
  have h1 : (toR js s).Perm (s ++ delF (upTo js.length) s) := dueL_perm.append_right _
  refine h1.trans ?_
  have hnd : s.Nodup := hs.imp fun h => by omega
  refine (List.perm_ext_iff_of_nodup ?_ (upTo_nodup _)).2 fun x => ?_
  · refine List.nodup_append.2 ⟨hnd, (upTo_nodup _).sublist List.filter_sublist, fun a ha b hb e => ?_⟩
    subst e
    have := (List.mem_filter.1 hb).2
    have h2 : hasL a s = true := List.any_eq_true.2 ⟨a, ha, by simp⟩
    rw [h2] at this
    simp at this
  · rw [List.mem_append]
    constructor
    · rintro (h | h)
      · exact mem_upTo.2 (hin x h)
      · exact (List.mem_filter.1 h).1
    · intro h
      by_cases g : hasL x s = true
      · left
        obtain ⟨y, hy, e⟩ := List.any_eq_true.1 g
        rw [beq_iff_eq] at e
        exact e ▸ hy
      · right
        exact List.mem_filter.2 ⟨h, by simpa using g⟩
theorem tim_at : ∀ {A C : List Int} {x now : Int}, timGo js now (A ++ x :: C) = true → now + tsm (tJ js) A + (jA js x).t ≤ (jA js x).d
  | [], C, x, now, h => by
    have h : timGo js now (x :: C) = true := h
    rw [timGo, Bool.and_eq_true, decide_eq_true_eq] at h
    have : tsm (tJ js) ([] : List Int) = 0 := rfl
    omega
  | a :: A, C, x, now, h => by
    have h : timGo js now (a :: (A ++ x :: C)) = true := h
    rw [timGo, Bool.and_eq_true] at h
    have := tim_at h.2
    rw [tsm_cons]
    have e : tJ js a = (jA js a).t := rfl
    omega
theorem toR_time (hok : plOk js = true) {s : List Int} (hin : inN js.length s) (hs : s.Pairwise (· < ·)) (ht : timB js s = true) {x : Int} (hx : x ∈ s) : gE (endsL js (toR js s)) x.toNat ≤ (jA js x).d := by
  have p := plOk_pl hok
  have oo := toR_ord hin hs
  obtain ⟨A, B, e⟩ := List.append_of_mem (dueL_perm.mem_iff.2 hx : x ∈ dueL js s)
  have e2 : toR js s = A ++ x :: (B ++ delF (upTo js.length) s) := by unfold toR; rw [e]; simp
  have hin2 := oo.inn
  have hnd2 := oo.nd
  rw [e2] at hin2 hnd2
  have := end_mid (js := js) (x := x) (C := B ++ delF (upTo js.length) s) (A := A) (now := 0) (E := List.replicate js.length 0) (by rw [List.length_replicate]; exact hin2) hnd2
  unfold endsL
  rw [e2, this, nowGo_plain p (Int.le_refl 0), p.endAt]
  · unfold timB at ht
    rw [e] at ht
    have := tim_at ht
    unfold tsm at this
    have e3 : (A.map fun x => (jA js x).t).sum = (A.map (tJ js)).sum := rfl
    omega
  · have := time_nonneg p (l := A)
    omega
end
end Go.Pm.PP

/- The table of weights and the least weight of late jobs, of both; timely orders, of both. -/
set_option linter.unusedVariables false
set_option linter.unusedSimpArgs false
set_option maxRecDepth 4000
set_option maxHeartbeats 16000000
namespace Go.Pm.PP
open Go.Pm Go.Proofs Go.Pm.PE
section
variable {h : Hp} {vj v u : Value} {js : List Job} {xs ys : List Int}
theorem ratioOf_run (J : Jobs h vj js) (X : Ints h v xs) (hin : inN js.length xs) (hg : goodL js = true) (hx : xs.length ≤ 2 ^ 10) : Ret P G n_impl_ratioOf [vj, v] h (ptv (rat1 js xs)) h := by
  refine enter_run e_impl_ratioOf (by simp) ?_
  have Js := J
  have Xs := X
  obtain ⟨oj, cj, rfl⟩ := J.shapeT
  obtain ⟨oa, ca, rfl⟩ := X.shapeT
  have H0 := ((Holds.start (h := h)).alloc [.int .i64 0, .int .i64 0]).alloc [.int .i64 0, .int .i64 0]
  simp only [List.append_assoc, List.cons_append, List.nil_append, List.length_append, List.length_cons, List.length_nil, Nat.zero_add] at H0
  simp -implicitDefEqProofs
  refine R_loopO (fun m s h' => ∃ (i : Nat), i + m = xs.length ∧ s = [(0, .slice oj js.length cj), (4, .pointer (some ⟨h.length, 0, some 2⟩)), (5, .pointer (some ⟨h.length + 1, 0, some 2⟩)), (8, .slice oa xs.length ca), (9, .int .i64 xs.length), (10, .int .i64 i)] ∧ Holds h h' [.box h.length [.int .i64 0, .int .i64 0], .box (h.length + 1) [.int .i64 (rat1 js (xs.take i)).1, .int .i64 (rat1 js (xs.take i)).2]]) (fun I hI m s h' => ?_) (n := xs.length)
    ⟨0, Nat.zero_add _, by simp, by simpa [rat1] using H0⟩
  rintro ⟨i, hi, rfl, H⟩
  have l1 := H.bl (P := P) 1 2 rfl rfl
  by_cases hlt : i < xs.length
  · have hlt' : (i : Int) < xs.length := by omega
    obtain ⟨y, hy, _⟩ := drop_at hlt
    have ly := load_I (Xs.pre H.pre) hy
    have iy := hin y (List.mem_of_getElem? hy)
    have lj := load_JX (Js.pre H.pre) iy
    have rt := rat_take (js := js) hy
    have rb := rat_bd hg (xs := xs.take i)
    have b1 := jw_bd hg y
    have b2 := (good_bd hg).t y
    have tl : (xs.take i).length ≤ 2 ^ 10 := by rw [List.length_take]; omega
    obtain ⟨⟨a, b⟩, hab⟩ : ∃ p, p = rat1 js (xs.take i) := ⟨_, rfl⟩
    rw [← hab] at rt rb H l1
    have w1 : IntKind.i64.wrap (a + (jA js y).w) = a + (jA js y).w := by rw [wrap_ok] <;> simp only at rb <;> omega
    have w2 : IntKind.i64.wrap (b + (jA js y).t) = b + (jA js y).t := by rw [wrap_ok] <;> simp only at rb <;> omega
    obtain ⟨h2, s2, H2, _⟩ := H.set (P := P) 1 (n := 2) (o := 0) (ty := t_int) (w := .int .i64 (a + (jA js y).w)) rfl rfl e_t_int (by simp) (by simp) (by simp)
    have H2 : Holds h h2 [.box h.length [.int .i64 0, .int .i64 0], .box (h.length + 1) [.int .i64 (a + (jA js y).w), .int .i64 b]] := H2
    have l2 := H2.bl (P := P) 1 2 rfl rfl
    have lj2 := load_JX (Js.pre H2.pre) iy
    obtain ⟨h3, s3, H3, _⟩ := H2.set (P := P) 1 (n := 2) (o := 1) (ty := t_int) (w := .int .i64 (b + (jA js y).t)) rfl rfl e_t_int (by simp) (by simp) (by simp)
    have H3 : Holds h h3 [.box h.length [.int .i64 0, .int .i64 0], .box (h.length + 1) [.int .i64 (a + (jA js y).w), .int .i64 (b + (jA js y).t)]] := H3
    simp -implicitDefEqProofs [-indexAddrP_some, hlt, hlt', ly, lj, lj2, ia20, ia21, l1, l2, w1, w2, s2, s3, winc hlt (by omega)]
    exact ⟨m - 1, by omega, on hI ⟨i + 1, by omega, rfl, by rw [rt]; exact H3⟩⟩
  · have hlt' : ¬ (i : Int) < xs.length := by omega
    rw [List.take_of_length_le (by omega)] at H l1
    obtain ⟨h2, s2, H2, _⟩ := H.set (P := P) 0 (n := 2) (o := 0) (ty := t_A2_int) (w := ptv (rat1 js xs)) rfl rfl e_t_A2_int (by simp) (by simp) (by simp)
    have l2 := H2.bl (P := P) 0 2 rfl rfl
    have s2' : storeP P h' t_A2_int (.agg #[.int .i64 (rat1 js xs).1, .int .i64 (rat1 js xs).2]) (.pointer (some ⟨h.length, 0, some 2⟩)) = some h2 := s2
    simp -implicitDefEqProofs [hlt, hlt', l1, s2', l2]
    exact gcP H2.pre (by simp)
theorem tot400 (hok : plOk js = true) : 0 ≤ totT js ∧ totT js ≤ 2 ^ 10 ∧ (nT js : Int) = totT js := by
  obtain ⟨hn, hg, _⟩ := plOk_of hok
  have h1 := tsm_nonneg (w := tJ js) (plOk_pl hok).t (S := upTo js.length)
  have key : ∀ l : List Int, tsm (tJ js) l ≤ l.length * 50 := by
    intro l
    induction l with
    | nil => simp [tsm]
    | cons x l ih =>
      have := good_t50 hg x
      rw [tsm_cons, List.length_cons]
      have e : tJ js x = (jA js x).t := rfl
      push_cast
      omega
  have h2 := key (upTo js.length)
  rw [upTo_len] at h2
  rw [tot_up]
  unfold nT
  rw [tot_up]
  omega
theorem weightTable_run (J : Jobs h vj js) (hok : plOk js = true) : RunsC P G n_impl_weightTable [vj] h fun w h' => h <+: h' ∧ Own h.length h' w 1 ((wtab js).map encI) := by
  refine hideC fun K hK => enter_run e_impl_weightTable (by simp) ?_
  have Js := J
  obtain ⟨oj, cj, rfl⟩ := J.shapeT
  obtain ⟨hn, hg, _⟩ := plOk_of hok
  obtain ⟨t0, t1, t2⟩ := tot400 hok
  have rt := totalOf_run Js hn hg
  rw [← t2] at rt
  have hN : nT js ≤ 2 ^ 10 := by omega
  have p2 := Nat.two_pow_pos js.length
  have p8 : 2 ^ js.length ≤ 2 ^ 8 := Nat.pow_le_pow_right (by omega) hn
  have sh := shl_eq (i := js.length) (by omega)
  have same := fun T => @tab_same js hok T
  obtain ⟨d, hd⟩ : ∃ d, d = 2 ^ js.length := ⟨_, rfl⟩
  rw [← hd] at sh p2 p8
  simp only [← hd] at same
  have wN : IntKind.i64.wrap ((nT js : Int) + 1) = ((nT js + 1 : Nat) : Int) := by rw [wrap_ok] <;> omega
  have bt := fun c => bits_tot hok (c := c)
  have wnn := wJ_nn hg
  have tk0 := TabK.nil (t := tJ js) (w := wJ js) (N := nT js)
  generalize wtab js = W at *
  obtain ⟨N, hNN⟩ : ∃ N, N = nT js := ⟨_, rfl⟩
  rw [← hNN] at rt wN hN tk0
  simp only [← hNN] at same bt
  simp -implicitDefEqProofs [CL_ret rt, wN]
  refine R_loopO (fun m s h' => ∃ (i : Nat) (vo : Value), i + m = N + 1 ∧ s = [(0, .slice oj js.length cj), (3, vo), (9, .int .i64 ((N + 1 : Nat) : Int)), (10, .int .i64 i)] ∧ Holds h h' [.own vo 1 ((List.replicate i (-1 : Int)).map encI)]) (fun I hI m s h' => ?_) (n := N + 1)
    ⟨0, .slice none 0 0, Nat.zero_add _, by simp, own_nil Holds.start _ _ _⟩
  rintro ⟨i, vo, hi, rfl, H⟩
  obtain ⟨ob, cb, rfl⟩ : ∃ a c, vo = .slice a i c := by obtain ⟨a, c, e⟩ := (H.sees 0 rfl : Ints h' vo (List.replicate i (-1))).shapeT; exact ⟨a, c, by rw [e, List.length_replicate]⟩
  by_cases hlt : i < N + 1
  · have hlt' : (i : Int) < (N : Int) + 1 := by omega
    obtain ⟨v', h2, ha, H2, _⟩ := push_I0 H 0 rfl (-1) (by simp; omega)
    have H2 : Holds h h2 [.own v' 1 ((List.replicate (i + 1) (-1 : Int)).map encI)] := by rw [List.replicate_succ']; exact H2
    simp -implicitDefEqProofs [hlt, hlt', ha, winc hlt (by omega)]
    exact ⟨m - 1, by omega, on hI ⟨i + 1, v', by omega, by simp, H2⟩⟩
  · have hlt' : ¬ (i : Int) < (N : Int) + 1 := by omega
    have : i = N + 1 := by omega
    subst this
    simp -implicitDefEqProofs [hlt, hlt']
    refine R_loopO (fun m2 s h2 => ∃ (k : Nat) (T : List Int) (vo : Value), k + m2 = d ∧ s = [(0, .slice oj js.length cj), (3, vo), (4, .int .i64 k)] ∧ TabK (tJ js) (wJ js) N (clsC js k) T ∧ Holds h h2 [.own vo 1 (T.map encI)]) (fun I2 hI2 m2 s h2 => ?_) (n := d)
      ⟨0, List.replicate (N + 1) (-1), _, Nat.zero_add _, by simp, tk0.weak fun S => ⟨fun g => g.elim, fun ⟨c, hc, _⟩ => by omega⟩, H⟩
    rintro ⟨k, T, vo, hk, rfl, tk, H⟩
    have ST : Ints h2 vo T := H.sees 0 rfl
    have hTl := tk.len
    obtain ⟨ob, cb, rfl⟩ : ∃ a c, vo = .slice a T.length c := ST.shapeT
    by_cases hlk : k < d
    · have hlk' : (k : Int) < d := by omega
      simp -implicitDefEqProofs [sh, hlk, hlk']
      refine CL_post (listOf_run (h := h2) (n := js.length) (c := k) (by omega) (by omega)) fun vl h3 ⟨hp3, o3⟩ => ?_
      have Sl : Ints h3 vl (bitsL js.length k) := o3.sees
      have hin : inN js.length (bitsL js.length k) := fun x hx => by have := mem_bits.1 hx; omega
      have hbl : (bitsL js.length k).length ≤ 8 := Nat.le_trans bits_len hn
      have rt := onTime_run (Js.pre (H.pre.trans hp3)) Sl hin (by omega) (good_bd hg)
      rw [tim_imp (plOk_pl hok)] at rt
      have eo : timB js (bitsL js.length k) = okC js k := rfl
      rw [eo] at rt
      have rr := ratioOf_run (Js.pre (H.pre.trans hp3)) Sl hin hg (by omega)
      have bk := bt k
      have k1 : (rat1 js (bitsL js.length k)).2 = tsm (tJ js) (bitsL js.length k) := rfl
      have k2 : (rat1 js (bitsL js.length k)).1 = tsm (wJ js) (bitsL js.length k) := rfl
      have H3 := H.ext hp3
      obtain ⟨la, lc, rfl⟩ : ∃ a c, vl = .slice a (bitsL js.length k).length c := Sl.shapeT
      have step : ∀ S, clsC js (k + 1) S ↔ clsC js k S ∨ (okC js k = true ∧ S = bitsL js.length k) := fun S => by
        constructor
        · rintro ⟨c, h1, h2, h3⟩
          rcases Nat.lt_or_ge c k with g | g
          · exact .inl ⟨c, g, h2, h3⟩
          · have : c = k := by omega
            subst this
            exact .inr ⟨h2, h3.symm⟩
        · rintro (⟨c, h1, h2, h3⟩ | ⟨h2, h3⟩)
          · exact ⟨c, by omega, h2, h3⟩
          · exact ⟨k, by omega, h2, h3.symm⟩
      cases c2 : okC js k
      · rw [c2] at rt
        simp -implicitDefEqProofs [CL_ret rt, winc hlk (by omega)]
        exact ⟨m2 - 1, by omega, on hI2 ⟨k + 1, T, _, by omega, rfl, tk.weak fun S => by rw [step, c2]; simp, H3⟩⟩
      · rw [c2] at rt
        have tk2 := (tk.add wnn bk.1 bk.2).weak (cls' := clsC js (k + 1)) fun S => by rw [step, c2]; simp
        obtain ⟨q, hq⟩ : ∃ q : Nat, (q : Int) = tsm (tJ js) (bitsL js.length k) := ⟨(tsm (tJ js) (bitsL js.length k)).toNat, by omega⟩
        obtain ⟨z, hz⟩ : ∃ z, z = tsm (wJ js) (bitsL js.length k) := ⟨_, rfl⟩
        rw [← hq, ← hz] at tk2
        have hql : q < T.length := by omega
        have HB := H3.alloc [.int .i64 z, .int .i64 q]
        have lb := HB.bl (P := P) 1 2 rfl rfl
        have lT := load_I (HB.sees 0 rfl : Ints _ (.slice ob T.length cb) T) (gE_get hql)
        obtain ⟨h5, s5, H5, _⟩ := put_I HB 0 rfl (j := q) hql (max (gE T q) z)
        have H5 : Holds h h5 [.own (.slice ob T.length cb) 1 ((T.set q (max (gE T q) z)).map encI), .box h3.length [.int .i64 z, .int .i64 q]] := H5
        have eu : upT T (q : Int) z = T.set q (max (gE T q) z) := by unfold upT; rw [Int.toNat_natCast]
        rw [eu] at tk2
        have mx : foldI (fun x y => if x < y then y else x) (gE T q) [.int .i64 z] = some (max (gE T q) z) := by simp [foldI, mx_if]
        have rr' : Ret P G n_impl_ratioOf [.slice oj js.length cj, .slice la (bitsL js.length k).length lc] h3 (.agg #[.int .i64 z, .int .i64 q]) h3 := by
          have := rr
          rw [ptv, k1, k2, ← hq, ← hz] at this
          exact this
        simp -implicitDefEqProofs [-indexAddrP_some, CL_ret rt, CL_ret rr', ia20, ia21, lb, lT, mx, s5, winc hlk (by omega)]
        exact ⟨m2 - 1, by omega, on hI2 ⟨k + 1, T.set q (max (gE T q) z), _, by omega, by simp, tk2, H5.take 1⟩⟩
    · have hlk' : ¬ (k : Int) < d := by omega
      have : k = d := by omega
      subst this
      have e := same T tk
      subst e
      simp -implicitDefEqProofs [sh, hlk, hlk']
      exact onK hK (H.ret 0 rfl)
theorem implWeightTable_run (J : Jobs h vj js) (hl : js.length ≤ 2 ^ 40) : RunsC P G n_impl_WeightTable [vj] h fun w h' => h <+: h' ∧ ∃ d, w = .tuple #[d, .bool (plOk js)] ∧ Ints h' d (if plOk js = true then wtab js else []) := by
  refine hideC fun K hK => enter_run e_impl_WeightTable (by simp) ?_
  have Js := J
  obtain ⟨oj, cj, rfl⟩ := J.shapeT
  have r1 := IsPlain_run Js hl
  cases c1 : plOk js
  · rw [c1] at r1
    rw [c1] at hK
    simp -implicitDefEqProofs [CL_ret r1]
    exact onK hK ⟨List.prefix_rfl, _, rfl, nil_L⟩
  · rw [c1] at r1
    rw [c1, if_pos rfl] at hK
    simp -implicitDefEqProofs [CL_ret r1]
    refine CL_post (weightTable_run Js c1) fun w h1 ⟨hp1, o1⟩ => ?_
    obtain ⟨wa, wn, wc, rfl⟩ : ∃ a n c, w = .slice a n c := by obtain ⟨a, c, e⟩ := o1.sees.shape; exact ⟨_, _, _, e⟩
    have H := (Holds.start (h := h)).call hp1 o1
    simp -implicitDefEqProofs
    exact onK hK ⟨(H.ret2 0 rfl).1, _, rfl, (H.ret2 0 rfl).2.sees⟩
end
end Go.Pm.PP

/- The table of weights by the reference; the least weight of late jobs and timely orders, of both; late jobs. -/
set_option linter.unusedVariables false
set_option linter.unusedSimpArgs false
set_option maxRecDepth 4000
set_option maxHeartbeats 16000000
namespace Go.Pm.PP
open Go.Pm Go.Proofs Go.Pm.PE
theorem l1Least_run {h : Hp} {a b : Int} : Ret P G n_spec_l1Least [.int .i64 a, .int .i64 b] h (.int .i64 (min a b)) h := by
  refine enter_run e_spec_l1Least (by simp) ?_
  by_cases c : a < b
  · simp -implicitDefEqProofs [c, Int.min_eq_left (Int.le_of_lt c)]
  · simp -implicitDefEqProofs [c, Int.min_eq_right (Int.not_lt.1 c)]
section
variable {h : Hp} {vj v u : Value} {js : List Job} {xs ys : List Int}
theorem l2Last_run (X : Ints h v xs) (hx : xs.length ≤ 2 ^ 40) : Ret P G n_spec_l2Last [v] h (.int .i64 (mxT xs)) h := by
  refine enter_run e_spec_l2Last (by simp) ?_
  have Xs := X
  obtain ⟨oa, ca, rfl⟩ := X.shapeT
  simp -implicitDefEqProofs
  refine R_loopO (fun m s h' => ∃ (i : Nat), i + m = xs.length ∧ s = [(0, .slice oa xs.length ca), (3, .int .i64 (mxT (xs.take i))), (4, .int .i64 i)] ∧ h' = h) (fun I hI m s h' => ?_) (n := xs.length) ⟨0, Nat.zero_add _, by simp [mxT], rfl⟩
  rintro ⟨i, hi, rfl, rfl⟩
  by_cases hlt : i < xs.length
  · have hlt' : (i : Int) < xs.length := by omega
    obtain ⟨y, hy, _⟩ := drop_at hlt
    have e : mxT (xs.take (i + 1)) = max (mxT (xs.take i)) y := by unfold mxT; rw [take_succ' hy, List.foldl_append]; rfl
    simp -implicitDefEqProofs [-indexAddrP_some, hlt, hlt', load_I Xs hy, CL_ret l1Most_run, winc hlt (by omega)]
    exact ⟨m - 1, by omega, on hI ⟨i + 1, by omega, by rw [e]; rfl, rfl⟩⟩
  · have hlt' : ¬ (i : Int) < xs.length := by omega
    rw [List.take_of_length_le (by omega)]
    simp -implicitDefEqProofs [hlt, hlt']
theorem dnT_next {t w : Int} {k : Nat} {T : List Int} (h : ¬ (k : Int) < t) (ht : 1 ≤ t) : dnT t w k T = dnT t w (k - 1) (T.set k (newT T t w k)) := by
  obtain ⟨j, rfl⟩ : ∃ j, k = j + 1 := ⟨k - 1, by omega⟩
  rw [dnT, if_neg h]; rfl
theorem dnT_stop {t w : Int} {k : Nat} {T : List Int} (h : (k : Int) < t) : dnT t w k T = T := by
  cases k with
  | zero => rfl
  | succ j => rw [dnT, if_pos h]
theorem set_same {T : List Int} {k : Nat} (hk : k < T.length) : T.set k (gE T k) = T := by
  apply List.ext_getElem?
  intro i
  rw [List.getElem?_set]
  split
  · rename_i e; subst e; exact (gE_get hk).symm
  · rfl
theorem l6Table_run (J : Jobs h vj js) (hok : plOk js = true) : RunsC P G n_spec_l6Table [vj] h fun w h' => h <+: h' ∧ Own h.length h' w 1 ((wtab js).map encI) := by
  refine hideC fun K hK => enter_run e_spec_l6Table (by simp) ?_
  have Js := J
  obtain ⟨oj, cj, rfl⟩ := J.shapeT
  obtain ⟨hn, hg, _⟩ := plOk_of hok
  obtain ⟨t0, t1, t2⟩ := tot400 hok
  have hN : nT js ≤ 2 ^ 10 := by omega
  simp -implicitDefEqProofs
  refine CL_post (l6All_run Js (by omega)) fun va h1 ⟨hp1, o1⟩ => ?_
  have Sa : Ints h1 va (upTo js.length) := o1.sees
  obtain ⟨aa, ac, rfl⟩ : ∃ a c, va = .slice a (upTo js.length).length c := Sa.shapeT
  simp -implicitDefEqProofs
  refine CL_post (l6Due_run (Js.pre hp1) Sa (fun x hx => mem_upTo.1 hx) (by rw [upTo_len]; omega)) fun vd h2 ⟨hp2, o2⟩ => ?_
  rw [due_eq up_asc] at o2
  have hD : wtab js = (dueL js (upTo js.length)).foldl (fun T x => wstT T (tJ js x) (wJ js x) (dJ js x)) (0 :: List.replicate (nT js) (-1)) := rfl
  rw [hD] at hK
  have hDl : (dueL js (upTo js.length)).length = js.length := by rw [dueL_perm.length_eq, upTo_len]
  have hDin : inN js.length (dueL js (upTo js.length)) := fun x hx => mem_upTo.1 (dueL_perm.mem_iff.1 hx)
  generalize dueL js (upTo js.length) = D at *
  obtain ⟨da, dc, rfl⟩ : ∃ a c, vd = .slice a D.length c := (o2.sees : Ints h2 vd D).shapeT
  have H2 := (Holds.start (h := h)).call (hp1.trans hp2) (o2.low hp1.length_le)
  have H3 : Holds h (h2 ++ [some ⟨[.int .i64 0], 1, false⟩]) [.own (.slice da D.length dc) 1 (D.map encI), .own (.slice (some ⟨h2.length, 0, some 1⟩) 1 1) 1 ([0].map encI)] := H2.litI [0]
  obtain ⟨N, hNN⟩ : ∃ N, N = nT js := ⟨_, rfl⟩
  rw [← hNN] at hN hK t2
  simp -implicitDefEqProofs
  refine R_loopO (fun m s h' => ∃ (i : Nat) (vo : Value), i + m = N ∧ s = [(0, .slice oj js.length cj), (3, .slice da D.length dc), (4, vo), (5, .int .i64 i)] ∧ Holds h h' [.own (.slice da D.length dc) 1 (D.map encI), .own vo 1 ((0 :: List.replicate i (-1 : Int)).map encI)]) (fun I hI m s h' => ?_) (n := N)
    ⟨0, _, Nat.zero_add _, by simp, H3⟩
  rintro ⟨i, vo, hi, rfl, H⟩
  have rt := l2Times_run (Js.pre H.pre) hn hg
  rw [← t2] at rt
  obtain ⟨ob, cb, rfl⟩ : ∃ a c, vo = .slice a (i + 1) c := by obtain ⟨a, c, e⟩ := (H.sees 1 rfl : Ints h' vo (0 :: List.replicate i (-1))).shapeT; exact ⟨a, c, by rw [e]; simp⟩
  by_cases hlt : i < N
  · have hlt' : (i : Int) < N := by omega
    obtain ⟨v', h4, ha, H4, _⟩ := push_I0 H 1 rfl (-1) (by simp; omega)
    have H4 : Holds h h4 [.own (.slice da D.length dc) 1 (D.map encI), .own v' 1 ((0 :: List.replicate (i + 1) (-1 : Int)).map encI)] := by rw [List.replicate_succ']; exact H4
    simp -implicitDefEqProofs [CL_ret rt, hlt, hlt', ha, winc hlt (by omega)]
    exact ⟨m - 1, by omega, on hI ⟨i + 1, v', by omega, by simp, H4⟩⟩
  have hlt' : ¬ (i : Int) < N := by omega
  have : i = N := by omega
  subst this
  simp -implicitDefEqProofs [CL_ret rt, hlt, hlt']
  refine R_loopO (fun m2 s h3 => ∃ (k : Nat) (T : List Int), k + m2 = D.length ∧ s = [(0, .slice oj js.length cj), (3, .slice da D.length dc), (4, .slice ob (i + 1) cb), (6, .int .i64 k)] ∧ T = (D.take k).foldl (fun T x => wstT T (tJ js x) (wJ js x) (dJ js x)) (0 :: List.replicate i (-1)) ∧ T.length = i + 1 ∧ (∀ q : Nat, -1 ≤ gE T q ∧ gE T q ≤ 50 * k) ∧ Holds h h3 [.own (.slice da D.length dc) 1 (D.map encI), .own (.slice ob (i + 1) cb) 1 (T.map encI)]) (fun I2 hI2 m2 s h3 => ?_) (n := D.length)
    ⟨0, 0 :: List.replicate i (-1), Nat.zero_add _, by simp, rfl, by simp, fun q => ?_, H⟩
  case refine_2 =>
    cases q with
    | zero => simp [gE]
    | succ q =>
      by_cases g : q < i
      · simp [gE, List.getElem?_replicate, g]
      · simp [gE, List.getElem?_replicate, g]
  rintro ⟨k, T, hk, rfl, hT, hTl, hTb, H⟩
  by_cases hlk : k < D.length
  case neg =>
    have hlk' : ¬ (k : Int) < D.length := by omega
    rw [List.take_of_length_le (by omega)] at hT
    rw [← hT] at hK
    simp -implicitDefEqProofs [hlk, hlk']
    exact onK hK (H.ret 1 rfl)
  have hlk' : (k : Int) < D.length := by omega
  obtain ⟨y, hy, _⟩ := drop_at hlk
  have iy := hDin y (List.mem_of_getElem? hy)
  have ld := load_I (H.sees 0 rfl : Ints h3 _ D) hy
  have lj := load_JX (Js.pre H.pre) iy
  have HB := H.alloc [.int .i64 (jA js y).t, .int .i64 (jA js y).w, .int .i64 (jA js y).r, .int .i64 (jA js y).d]
  have lb := HB.bl (P := P) 2 4 rfl rfl
  have jo := jobOk_jA hg iy
  simp only [jobOk, inB, Bool.and_eq_true, decide_eq_true_eq] at jo
  obtain ⟨⟨⟨⟨t1', t50⟩, ⟨w0, w50⟩⟩, _⟩, ⟨d0, d5⟩⟩ := jo
  have wl : IntKind.i64.wrap (i : Int) = i := by rw [wrap_ok] <;> omega
  have hnext : (D.take (k + 1)).foldl (fun T x => wstT T (tJ js x) (wJ js x) (dJ js x)) (0 :: List.replicate i (-1)) = wstT T (jA js y).t (jA js y).w (jA js y).d := by
    rw [take_succ' hy, List.foldl_append, ← hT]; rfl
  simp -implicitDefEqProofs [-indexAddrP_some, hlk, hlk', ld, lj, lb, wl, CL_ret l1Least_run]
  refine R_loopO (fun m3 s h4 => ∃ (q : Int) (T' : List Int), s = [(0, .slice oj js.length cj), (3, .slice da D.length dc), (4, .slice ob (i + 1) cb), (6, .int .i64 k), (7, .pointer (some ⟨h3.length, 0, some 4⟩)), (8, .int .i64 q)] ∧ 0 ≤ q ∧ q ≤ i ∧ m3 = q.toNat ∧ T'.length = i + 1 ∧ (∀ j : Nat, -1 ≤ gE T' j ∧ gE T' j ≤ 50 * (k + 1)) ∧ (∀ j : Nat, (j : Int) ≤ q → gE T' j ≤ 50 * k) ∧ wstT T (jA js y).t (jA js y).w (jA js y).d = dnT (jA js y).t (jA js y).w q.toNat T' ∧
      Holds h h4 [.own (.slice da D.length dc) 1 (D.map encI), .own (.slice ob (i + 1) cb) 1 (T'.map encI), .box h3.length [.int .i64 (jA js y).t, .int .i64 (jA js y).w, .int .i64 (jA js y).r, .int .i64 (jA js y).d]]) (fun I3 hI3 m3 s h4 => ?_) (n := (min (jA js y).d (i : Int)).toNat)
    ⟨min (jA js y).d i, T, by simp, by omega, by omega, rfl, hTl, fun j => by have := hTb j; omega, fun j _ => (hTb j).2, ?_, HB⟩
  case refine_2 =>
    unfold wstT
    rw [hTl, show (((i + 1 : Nat) : Int) - 1) = i by omega]
    split
    · rename_i c
      rw [dnT_stop (by omega)]
    · rfl
  rintro ⟨q, T', rfl, q0, qi, hm3, hTl', hb1, hb2, hst, H4⟩
  obtain ⟨n, rfl⟩ : ∃ n : Nat, q = n := ⟨q.toNat, by omega⟩
  rw [Int.toNat_natCast] at hst hm3
  have lb4 := H4.bl (P := P) 2 4 rfl rfl
  have ST : Ints h4 (.slice ob (i + 1) cb) T' := H4.sees 1 rfl
  by_cases c : (n : Int) < (jA js y).t
  · rw [dnT_stop c] at hst
    have c' : ¬ (jA js y).t ≤ (n : Int) := by omega
    rw [hst] at hnext
    simp -implicitDefEqProofs [-indexAddrP_some, lb4, c, c', winc hlk (by omega)]
    exact ⟨m2 - 1, by omega, on hI2 ⟨k + 1, T', by omega, by simp, hnext.symm, hTl', fun j => by have := hb1 j; push_cast; omega, H4.take 2⟩⟩
  · have c' : (jA js y).t ≤ (n : Int) := by omega
    rw [dnT_next c t1'] at hst
    obtain ⟨p, hp⟩ : ∃ p : Nat, (p : Int) = (n : Int) - (jA js y).t := ⟨((n : Int) - (jA js y).t).toNat, by omega⟩
    have wp : IntKind.i64.wrap ((n : Int) - (jA js y).t) = p := by rw [← hp, wrap_ok] <;> omega
    have lp := load_I ST (gE_get (show p < T'.length by omega))
    have ln := load_I ST (gE_get (show n < T'.length by omega))
    have bp := hb1 p
    have bp2 := hb2 p (by omega)
    have bn := hb2 n (by omega)
    have bn1 := hb1 n
    have wn : IntKind.i64.wrap ((n : Int) - 1) = ((n - 1 : Nat) : Int) := by rw [wrap_ok] <;> omega
    have hpt : n - (jA js y).t.toNat = p := by omega
    have ws : IntKind.i64.wrap (gE T' p + (jA js y).w) = gE T' p + (jA js y).w := by rw [wrap_ok] <;> omega
    have step : ∀ x, newT T' (jA js y).t (jA js y).w n = x → -1 ≤ x → x ≤ 50 * (k + 1) → ∀ h5, Holds h h5 [.own (.slice da D.length dc) 1 (D.map encI), .own (.slice ob (i + 1) cb) 1 ((T'.set n x).map encI), .box h3.length [.int .i64 (jA js y).t, .int .i64 (jA js y).w, .int .i64 (jA js y).r, .int .i64 (jA js y).d]] →
        I3 (n - 1) [(0, .slice oj js.length cj), (3, .slice da D.length dc), (4, .slice ob (i + 1) cb), (6, .int .i64 k), (7, .pointer (some ⟨h3.length, 0, some 4⟩)), (8, .int .i64 ((n - 1 : Nat) : Int))] h5 := fun x hx x0 x1 h5 H5 =>
      on hI3 ⟨((n - 1 : Nat) : Int), T'.set n x, rfl, by omega, by omega, by simp, by rw [List.length_set]; exact hTl', fun j => by
        rw [gE_set (by omega)]
        split
        · exact ⟨x0, x1⟩
        · exact hb1 j, fun j hj => by
        rw [gE_set (by omega), if_neg (by omega)]
        exact hb2 j (by omega), by rw [hst, hx, Int.toNat_natCast], H5⟩
    by_cases c2 : 0 ≤ gE T' p
    · have c2' : ¬ gE T' p < 0 := by omega
      obtain ⟨h5, s5, H5, _⟩ := put_I H4 1 rfl (j := n) (by omega) (max (gE T' n) (gE T' p + (jA js y).w))
      have := step (max (gE T' n) (gE T' p + (jA js y).w)) (by unfold newT; rw [hpt, if_pos c2]) (by omega) (by omega) h5 H5
      simp -implicitDefEqProofs [-indexAddrP_some, lb4, c, c', wp, lp, ln, c2, c2', ws, wn, CL_ret l1Most_run, CH_at l1Most_run, s5]
      exact ⟨n - 1, by omega, this⟩
    · have e : T'.set n (gE T' n) = T' := set_same (by omega)
      have := step (gE T' n) (by unfold newT; rw [hpt, if_neg c2]) (by omega) (by omega) h4 (by rw [e]; exact H4)
      simp -implicitDefEqProofs [-indexAddrP_some, lb4, c, c', wp, lp, c2, wn]
      exact ⟨n - 1, by omega, this⟩
end
end Go.Pm.PP

/- FnVectors, from its draws. -/
set_option linter.unusedVariables false
set_option linter.unusedSimpArgs false
set_option maxRecDepth 4000
set_option maxHeartbeats 16000000
namespace Go.Pm.PP
open Go.Pm Go.Proofs Go.Pm.PE
theorem rIntsG_run {h : Hp} {v u : Value} {xs ys : List Int} (X : Ints h v xs) (Y : Ints h u ys) (hb : xs.length ≤ 2 ^ 40) : Ret P G n_laws_rInts [v, u] h (.bool (xs == ys)) h := by
  by_cases hl : xs.length = ys.length
  case neg =>
    refine enter_run e_laws_rInts (by simp) ?_
    obtain ⟨ox, cx, rfl⟩ := X.shapeT
    obtain ⟨oy, cy, rfl⟩ := Y.shapeT
    have e : (xs == ys) = false := by
      rw [beq_eq_false_iff_ne]
      intro g; exact hl (by rw [g])
    simp -implicitDefEqProofs [hl, e, nt (show ¬ (xs.length : Int) = ys.length by omega)]
    try simpa using e
  refine enter_run e_laws_rInts (by simp) ?_
  have Xs := X
  have Ys := Y
  obtain ⟨ox, cx, rfl⟩ := X.shapeT
  obtain ⟨oy, cy, rfl⟩ := Y.shapeT
  rw [hl] at Xs hb
  simp -implicitDefEqProofs [hl]
  refine R_loopO (fun m s h' => ∃ (i : Nat), i + m = ys.length ∧ s = [(0, .slice ox ys.length cx), (1, .slice oy ys.length cy), (5, .int .i64 i)] ∧ (xs == ys) = (xs.drop i == ys.drop i) ∧ h' = h) (fun I hI m s h' => ?_) (n := ys.length) ⟨0, Nat.zero_add _, by simp [hl], rfl, rfl⟩
  rintro ⟨i, hi, rfl, hx, rfl⟩
  by_cases hlt : i < ys.length
  · have hlx : i < xs.length := by omega
    have hlt' : (i : Int) < ys.length := by omega
    obtain ⟨a, ha, hda⟩ := drop_at hlx
    obtain ⟨b, hb', hdb⟩ := drop_at hlt
    rw [hda, hdb] at hx
    by_cases c : a = b
    · subst c
      have hx : (xs == ys) = (xs.drop (i + 1) == ys.drop (i + 1)) := by rw [hx]; simp
      simp -implicitDefEqProofs [-indexAddrP_some, hlt, hlt', load_I Xs ha, load_I Ys hb', winc hlt (by omega)]
      exact ⟨m - 1, by omega, on hI ⟨i + 1, by omega, rfl, hx, rfl⟩⟩
    · have hx : (xs == ys) = false := by rw [hx]; simp [c]
      simp -implicitDefEqProofs [-indexAddrP_some, hlt, hlt', load_I Xs ha, load_I Ys hb', nb c, nt c]
      simpa using hx
  · have hlt' : ¬ (i : Int) < ys.length := by omega
    rw [List.drop_eq_nil_of_le (by omega), List.drop_eq_nil_of_le (by omega)] at hx
    have hx : (xs == ys) = true := hx
    simp -implicitDefEqProofs [hlt, hlt']
    simpa using hx
end Go.Pm.PP
