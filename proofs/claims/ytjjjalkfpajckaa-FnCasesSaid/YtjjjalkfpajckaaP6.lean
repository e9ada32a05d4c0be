/- The texts PqA, PlJ, PwA, PwB, PwG, PwV, PwN, PwW, PwX of this work: Orders of a list, one after the other, in plain terms: the next order of the program is the next one of the reference's list. -/
import Derived.Test.YtjjjalkfpajckaaM3
import Derived.Test.YtjjjalkfpajckaaF5
import Derived.Test.YtjjjalkfpajckaaM4
/- Orders of a list, one after the other, in plain terms: the next order of the program is the next one of the reference's list. -/
set_option linter.unusedVariables false
set_option linter.unusedSimpArgs false
namespace Go.Pm.PE
/-- All orders, by the first element. -/
def perms : List Int → Nat → List (List Int)
  | _, 0 => [[]]
  | l, n + 1 => (List.range' 0 l.length).flatMap fun i => (perms (l.eraseIdx i) n).map ((l[i]?.getD 0) :: ·)
/-- The last element greater than x gives way to x: the element and what there is then. -/
def swapL (x : Int) : List Int → Option (Int × List Int)
  | [] => none
  | y :: r => match swapL x r with
    | some (z, r') => some (z, y :: r')
    | none => if x < y then some (y, x :: r) else none
def nextP : List Int → Option (List Int)
  | [] => none
  | x :: t => match nextP t with
    | some t' => some (x :: t')
    | none => match swapL x t with
      | some (y, t') => some (y :: t'.reverse)
      | none => none
def Asc (l : List Int) : Prop := l.Pairwise (· < ·)
theorem swapL_none {x : Int} : ∀ {l : List Int}, swapL x l = none ↔ ∀ y, y ∈ l → ¬ x < y
  | [] => by simp [swapL]
  | z :: r => by
    rw [swapL]
    cases h : swapL x r with
    | some p =>
      simp only [reduceCtorEq, false_iff]
      intro g
      have : swapL x r = none := swapL_none.2 fun y hy => g y (List.mem_cons_of_mem _ hy)
      rw [h] at this; cases this
    | none =>
      have hr := swapL_none.1 h
      show (if x < z then some (z, x :: r) else none) = none ↔ _
      split
      · rename_i hz
        simp only [reduceCtorEq, false_iff]
        intro g; exact g z (List.mem_cons_self ..) hz
      · rename_i hz
        simp only [true_iff]
        intro y hy
        rcases List.mem_cons.1 hy with rfl | hy
        · exact hz
        · exact hr y hy
theorem swapL_some {x y : Int} {b : List Int} (hb : ∀ z, z ∈ b → ¬ x < z) (hy : x < y) : ∀ {a : List Int}, swapL x (a ++ y :: b) = some (y, a ++ x :: b)
  | [] => by
    rw [List.nil_append, swapL, swapL_none.2 hb, List.nil_append]
    simp [hy]
  | z :: a => by
    rw [List.cons_append, swapL, swapL_some hb hy]
    rfl
theorem desc_next : ∀ {l : List Int}, l.Pairwise (· > ·) → nextP l = none
  | [], _ => rfl
  | x :: t, h => by
    have h := List.pairwise_cons.1 h
    rw [nextP, desc_next h.2, swapL_none.2 fun y hy => by have := h.1 y hy; omega]
theorem asc_rev {l : List Int} (h : Asc l) : l.reverse.Pairwise (· > ·) := by
  rw [List.pairwise_reverse]
  exact h
/-- Each one's next one is the one behind it. -/
def Chn (L : List (List Int)) : Prop := ∀ i p, L[i]? = some p → nextP p = L[i + 1]?
theorem erase_asc {l : List Int} (h : Asc l) (i : Nat) : Asc (l.eraseIdx i) := h.sublist (List.eraseIdx_sublist ..)
/-- From the end of a block to the next one. -/
theorem next_block {l : List Int} (h : Asc l) {i : Nat} {x y : Int} (hx : l[i]? = some x) (hy : l[i + 1]? = some y) : nextP (x :: (l.eraseIdx i).reverse) = some (y :: l.eraseIdx (i + 1)) := by
  obtain ⟨a, b, rfl, rfl⟩ : ∃ a b, l = a ++ x :: y :: b ∧ i = a.length := by
    have h1 := (List.getElem?_eq_some_iff.1 hx).1
    have h2 := (List.getElem?_eq_some_iff.1 hy).1
    refine ⟨l.take i, l.drop (i + 2), ?_, by simp; omega⟩
    have e1 : l.drop i = x :: l.drop (i + 1) := by
      rw [List.drop_eq_getElem_cons h1]; congr 1; exact (List.getElem?_eq_some_iff.1 hx).2
    have e2 : l.drop (i + 1) = y :: l.drop (i + 2) := by
      rw [List.drop_eq_getElem_cons h2]; congr 1; exact (List.getElem?_eq_some_iff.1 hy).2
    rw [← e2, ← e1, List.take_append_drop]
  have e1 : (a ++ x :: y :: b).eraseIdx a.length = a ++ y :: b := by
    rw [List.eraseIdx_append_of_length_le (Nat.le_refl _), Nat.sub_self]; rfl
  have e2 : (a ++ x :: y :: b).eraseIdx (a.length + 1) = a ++ x :: b := by
    rw [List.eraseIdx_append_of_length_le (by omega), Nat.add_sub_cancel_left]; rfl
  rw [e1, e2]
  have hp := List.pairwise_append.1 h
  have hxy := List.pairwise_cons.1 hp.2.1
  have hax : ∀ z, z ∈ a.reverse → ¬ x < z := fun z hz => by
    have := hp.2.2 z (List.mem_reverse.1 hz) x (List.mem_cons_self ..)
    omega
  have hxly : x < y := hxy.1 y (List.mem_cons_self ..)
  have hsub : (a ++ y :: b).Sublist (a ++ x :: y :: b) := List.Sublist.append_left (List.sublist_cons_self ..) a
  have hd : nextP (a ++ y :: b).reverse = none := desc_next (asc_rev (h.sublist hsub))
  rw [nextP, hd]
  have er : (a ++ y :: b).reverse = b.reverse ++ y :: a.reverse := by simp
  rw [er, swapL_some hax hxly]
  simp
theorem flat_get {α β : Type} {f : α → List β} : ∀ {l : List α} {i j : Nat} {x : α} {y : β}, l[i]? = some x → (f x)[j]? = some y → ∃ k, (l.flatMap f)[k]? = some y ∧ ((l.flatMap f)[k + 1]? = match (f x)[j + 1]? with | some z => some z | none => ((l.drop (i + 1)).flatMap f)[0]?)
  | a :: l, 0, j, x, y, h1, h2 => by
    simp at h1; subst h1
    refine ⟨j, ?_, ?_⟩
    · rw [List.flatMap_cons, List.getElem?_append_left (List.getElem?_eq_some_iff.1 h2).1]; exact h2
    · rw [List.flatMap_cons]
      have hj := (List.getElem?_eq_some_iff.1 h2).1
      cases h3 : (f a)[j + 1]? with
      | some z => rw [List.getElem?_append_left (List.getElem?_eq_some_iff.1 h3).1]; exact h3
      | none =>
        have h4 := List.getElem?_eq_none_iff.1 h3
        rw [List.getElem?_append_right h4, show j + 1 - (f a).length = 0 by omega]
        rfl
  | a :: l, i + 1, j, x, y, h1, h2 => by
    obtain ⟨k, h3, h4⟩ := @flat_get α β f l i j x y (by simpa using h1) h2
    refine ⟨(f a).length + k, ?_, ?_⟩
    · rw [List.flatMap_cons, List.getElem?_append_right (by omega), Nat.add_sub_cancel_left]; exact h3
    · rw [List.flatMap_cons, List.getElem?_append_right (by omega), show (f a).length + k + 1 - (f a).length = k + 1 by omega, h4, List.drop_succ_cons]
/-- Where an element of a list of lists, told one after the other, comes from. -/
theorem flat_at {α β : Type} {f : α → List β} : ∀ {l : List α} {k : Nat} {y : β}, (l.flatMap f)[k]? = some y → ∃ i j x, l[i]? = some x ∧ (f x)[j]? = some y ∧ (l.flatMap f)[k + 1]? = match (f x)[j + 1]? with | some z => some z | none => ((l.drop (i + 1)).flatMap f)[0]?
  | [], k, y, h => by simp at h
  | a :: l, k, y, h => by
    rw [List.flatMap_cons] at h
    rcases Nat.lt_or_ge k (f a).length with g | g
    · rw [List.getElem?_append_left g] at h
      refine ⟨0, k, a, rfl, h, ?_⟩
      rw [List.flatMap_cons]
      cases h3 : (f a)[k + 1]? with
      | some z => rw [List.getElem?_append_left (List.getElem?_eq_some_iff.1 h3).1]; exact h3
      | none =>
        have h4 := List.getElem?_eq_none_iff.1 h3
        rw [List.getElem?_append_right h4, show k + 1 - (f a).length = 0 by omega]
        rfl
    · rw [List.getElem?_append_right g] at h
      obtain ⟨i, j, x, h1, h2, h3⟩ := flat_at h
      refine ⟨i + 1, j, x, by simpa using h1, h2, ?_⟩
      rw [List.flatMap_cons, List.getElem?_append_right (by omega), show k + 1 - (f a).length = k - (f a).length + 1 by omega, h3, List.drop_succ_cons]
theorem perms_main : ∀ {n : Nat} {l : List Int}, l.length = n → Asc l → (perms l n)[0]? = some l ∧ Chn (perms l n) ∧ ∀ i p, (perms l n)[i]? = some p → (perms l n)[i + 1]? = none → p = l.reverse
  | 0, l, hn, _ => by
    have : l = [] := List.eq_nil_of_length_eq_zero hn
    subst this
    refine ⟨rfl, fun i p h => ?_, fun i p h _ => ?_⟩
    · match i with
      | 0 => simp [perms] at h; subst h; rfl
      | i + 1 => simp [perms] at h
    · match i with
      | 0 => simp [perms] at h; subst h; rfl
      | i + 1 => simp [perms] at h
  | n + 1, l, hn, ha => by
    have sub : ∀ i, i < l.length → (perms (l.eraseIdx i) n)[0]? = some (l.eraseIdx i) ∧ Chn (perms (l.eraseIdx i) n) ∧ ∀ j p, (perms (l.eraseIdx i) n)[j]? = some p → (perms (l.eraseIdx i) n)[j + 1]? = none → p = (l.eraseIdx i).reverse := fun i hi =>
      perms_main (by rw [List.length_eraseIdx_of_lt hi]; omega) (erase_asc ha i)
    have first : ∀ i, i < l.length → ((List.range' i (l.length - i)).flatMap fun i => (perms (l.eraseIdx i) n).map ((l[i]?.getD 0) :: ·))[0]? = some (l[i]?.getD 0 :: l.eraseIdx i) := fun i hi => by
      rw [show l.length - i = (l.length - (i + 1)) + 1 by omega, List.range'_succ, List.flatMap_cons]
      have h1 := (sub i hi).1
      have h2 : 0 < ((perms (l.eraseIdx i) n).map ((l[i]?.getD 0) :: ·)).length := by rw [List.length_map]; exact (List.getElem?_eq_some_iff.1 h1).1
      rw [List.getElem?_append_left h2, List.getElem?_map, h1]; rfl
    rw [perms]
    refine ⟨?_, fun k p hk => ?_, fun k p hk hk2 => ?_⟩
    · rw [show l.length = l.length - 0 by omega, first 0 (by omega)]
      match l, hn with
      | a :: l, _ => rfl
    · obtain ⟨i, j, x, h1, h2, h3⟩ := flat_at hk
      have hi : i < l.length := by have := (List.getElem?_eq_some_iff.1 h1).1; simpa using this
      have hx : x = i := by rw [List.getElem?_range' hi] at h1; simp at h1; omega
      subst hx
      rw [List.getElem?_map] at h2
      obtain ⟨q, hq, rfl⟩ := Option.map_eq_some_iff.1 h2
      obtain ⟨g1, g2, g3⟩ := sub x hi
      have hnx := g2 j q hq
      rw [h3, List.getElem?_map]
      rw [nextP, hnx]
      cases hq2 : (perms (l.eraseIdx x) n)[j + 1]? with
      | some q' => rfl
      | none =>
        have hrev := g3 j q hq hq2
        subst hrev
        simp only [Option.map_none]
        rw [List.drop_range' , show 0 + (x + 1) * 1 = x + 1 by omega]
        obtain ⟨a, hxa, _⟩ := drop_at hi
        by_cases hlt : x + 1 < l.length
        · obtain ⟨y, hy, _⟩ := drop_at hlt
          rw [first (x + 1) hlt, hy, hxa]
          have := next_block ha hxa hy
          rw [nextP, hnx, hq2] at this
          simpa using this
        · rw [show l.length - (x + 1) = 0 by omega]
          have hd : nextP (a :: (l.eraseIdx x).reverse) = none := by
            refine desc_next (List.pairwise_cons.2 ⟨fun z hz => ?_, asc_rev (erase_asc ha x)⟩)
            have hz := List.mem_reverse.1 hz
            have e : l.eraseIdx x = l.take x := by
              rw [List.eraseIdx_eq_take_drop_succ, List.drop_eq_nil_of_le (by omega), List.append_nil]
            rw [e] at hz
            obtain ⟨m, hm, rfl⟩ := List.mem_take_iff_getElem.1 hz
            have := List.pairwise_iff_getElem.1 ha m x (by omega) hi (by omega)
            rw [(List.getElem?_eq_some_iff.1 hxa).2] at this
            exact this
          rw [nextP, hnx, hq2] at hd
          rw [hxa]
          simpa using hd
    · obtain ⟨i, j, x, h1, h2, h3⟩ := flat_at hk
      have hi : i < l.length := by have := (List.getElem?_eq_some_iff.1 h1).1; simpa using this
      have hx : x = i := by rw [List.getElem?_range' hi] at h1; simp at h1; omega
      subst hx
      rw [List.getElem?_map] at h2
      obtain ⟨q, hq, rfl⟩ := Option.map_eq_some_iff.1 h2
      obtain ⟨g1, g2, g3⟩ := sub x hi
      rw [h3, List.getElem?_map] at hk2
      cases hq2 : (perms (l.eraseIdx x) n)[j + 1]? with
      | some q' => rw [hq2] at hk2; simp at hk2
      | none =>
        rw [hq2] at hk2
        simp only [Option.map_none] at hk2
        rw [List.drop_range', show 0 + (x + 1) * 1 = x + 1 by omega] at hk2
        have hlt : ¬ x + 1 < l.length := fun hlt => by rw [first (x + 1) hlt] at hk2; cases hk2
        have hrev := g3 j q hq hq2
        subst hrev
        obtain ⟨a, hxa, hd⟩ := drop_at hi
        have e : l.eraseIdx x = l.take x := by
          rw [List.eraseIdx_eq_take_drop_succ, List.drop_eq_nil_of_le (by omega), List.append_nil]
        rw [e, hxa, Option.getD_some]
        have : l = l.take x ++ [a] := by
          conv => lhs; rw [← List.take_append_drop x l, hd, List.drop_eq_nil_of_le (by omega)]
        conv => rhs; rw [this]
        simp
end Go.Pm.PE

/- Jobs, ends and values of objectives, in plain terms; searches through all orders. -/
set_option linter.unusedVariables false
set_option linter.unusedSimpArgs false
namespace Go.Pm.PP
open Go.Pm Go.Pm.PE
structure Job where
  t : Int
  w : Int
  r : Int
  d : Int
def jA (js : List Job) (x : Int) : Job := (js[x.toNat]?).getD ⟨0, 0, 0, 0⟩
def gE (l : List Int) (i : Nat) : Int := (l[i]?).getD 0
theorem gE_set {l : List Int} {j i : Nat} {x : Int} (h : j < l.length) : gE (l.set j x) i = if i = j then x else gE l i := by
  unfold gE
  rw [List.getElem?_set]
  by_cases e : j = i
  · subst e; simp [h]
  · rw [if_neg e, if_neg fun g => e g.symm]
theorem gE_get {l : List Int} {i : Nat} (h : i < l.length) : l[i]? = some (gE l i) := by simp [gE, List.getElem?_eq_getElem h]
def endGo (js : List Job) : List Int → Int → List Int → List Int
  | [], _, E => E
  | x :: r, now, E => endGo js r (max now (jA js x).r + (jA js x).t) (E.set x.toNat (max now (jA js x).r + (jA js x).t))
def stGo (js : List Job) : List Int → Int → List Int → List Int
  | [], _, S => S
  | x :: r, now, S => stGo js r (max now (jA js x).r + (jA js x).t) (S.set x.toNat (max now (jA js x).r))
def endsL (js : List Job) (xs : List Int) : List Int := endGo js xs 0 (List.replicate js.length 0)
def stL (js : List Job) (xs : List Int) : List Int := stGo js xs 0 (List.replicate js.length 0)
theorem endGo_len {js : List Job} : ∀ {xs : List Int} {now : Int} {E : List Int}, (endGo js xs now E).length = E.length
  | [], _, _ => rfl
  | x :: r, now, E => by rw [endGo, endGo_len, List.length_set]
theorem stGo_len {js : List Job} : ∀ {xs : List Int} {now : Int} {E : List Int}, (stGo js xs now E).length = E.length
  | [], _, _ => rfl
  | x :: r, now, E => by rw [stGo, stGo_len, List.length_set]
theorem endsL_len {js : List Job} {xs : List Int} : (endsL js xs).length = js.length := by rw [endsL, endGo_len, List.length_replicate]
theorem stL_len {js : List Job} {xs : List Int} : (stL js xs).length = js.length := by rw [stL, stGo_len, List.length_replicate]
def inN (n : Nat) (xs : List Int) : Prop := ∀ x, x ∈ xs → 0 ≤ x ∧ x < n
theorem st_out {js : List Job} {n i : Nat} : ∀ {xs : List Int} {now : Int} {S : List Int}, S.length = n → inN n xs → (i : Int) ∉ xs → gE (stGo js xs now S) i = gE S i
  | [], _, _, _, _, _ => rfl
  | x :: r, now, S, hS, hin, hi => by
    have hx := hin x (List.mem_cons_self ..)
    rw [stGo, st_out (by rw [List.length_set]; exact hS) (fun y hy => hin y (List.mem_cons_of_mem _ hy)) (fun g => hi (List.mem_cons_of_mem _ g)), gE_set (by omega), if_neg]
    intro e
    exact hi (by rw [e, show ((x.toNat : Nat) : Int) = x by omega]; exact List.mem_cons_self ..)
theorem end_st {js : List Job} {n i : Nat} (hi : i < n) : ∀ {xs : List Int} {now : Int} {E S : List Int}, E.length = n → S.length = n → inN n xs → xs.Nodup →
    gE (endGo js xs now E) i = if (i : Int) ∈ xs then gE (stGo js xs now S) i + (jA js i).t else gE E i
  | [], _, _, _, _, _, _, _ => by simp [endGo]
  | x :: r, now, E, S, hE, hS, hin, hnd => by
    have hx := hin x (List.mem_cons_self ..)
    have hnd := List.nodup_cons.1 hnd
    have hin' : inN n r := fun y hy => hin y (List.mem_cons_of_mem _ hy)
    rw [endGo, stGo, end_st hi (S := S.set x.toNat (max now (jA js x).r)) (by rw [List.length_set]; exact hE) (by rw [List.length_set]; exact hS) hin' hnd.2]
    by_cases h1 : (i : Int) ∈ r
    · rw [if_pos h1, if_pos (List.mem_cons_of_mem _ h1)]
    · rw [if_neg h1, gE_set (by omega)]
      by_cases h2 : (i : Int) = x
      · subst h2
        rw [if_pos (by omega), if_pos (List.mem_cons_self ..), st_out (by rw [List.length_set]; exact hS) hin' h1, gE_set (by omega), if_pos (by omega)]
      · rw [if_neg (by omega), if_neg (fun g => by rcases List.mem_cons.1 g with g | g; exact h2 g; exact h1 g)]
/-- Starts and times are ends. -/
theorem ends_eq {js : List Job} {xs : List Int} (hin : inN js.length xs) (hnd : xs.Nodup) (hall : ∀ i : Nat, i < js.length → (i : Int) ∈ xs) {i : Nat} (hi : i < js.length) : gE (endsL js xs) i = gE (stL js xs) i + (jA js i).t := by
  unfold endsL stL
  rw [end_st hi (S := List.replicate js.length 0) (by simp) (by simp) hin hnd, if_pos (hall i hi)]
/-! ### values -/
def costV (o : Int) (j : Job) (e : Int) : Int := if o = 2 then e else if o = 3 then j.w * e else if o = 5 then max (e - j.d) 0 else if o = 6 then j.w * max (e - j.d) 0 else if max (e - j.d) 0 = 0 then 0 else if o = 7 then 1 else j.w
def stepV (o : Int) (first : Bool) (acc : Int) (j : Job) (e : Int) : Int := if o = 1 then max acc e else if o = 4 then (if first = true then e - j.d else max acc (e - j.d)) else acc + costV o j e
def valGo (o : Int) : Bool → Int → List Job → List Int → Int
  | f, acc, j :: js, e :: es => valGo o false (stepV o f acc j e) js es
  | _, acc, _, _ => acc
def valE (o : Int) (js : List Job) (es : List Int) : Int := valGo o true 0 js es
/-! ### searches -/
def rem (n : Nat) (begun : List Int) : List Int := ((List.range' 0 n).map fun i : Nat => (i : Int)).filter fun x => !begun.any (· == x)
def dfs {β : Type} (upd : β → List Int → β) (n : Nat) : Nat → List Int → β → β
  | 0, begun, b => upd b begun
  | k + 1, begun, b => (List.range' 0 n).foldl (fun b (j : Nat) => if begun.any (· == (j : Int)) = true then b else dfs upd n k (begun ++ [(j : Int)]) b) b
theorem erase_filter : ∀ {l : List Int} {i : Nat} {x : Int}, l.Nodup → l[i]? = some x → l.eraseIdx i = l.filter fun y => !(x == y)
  | a :: l, 0, x, hnd, h => by
    simp at h; subst h
    have hnd := List.nodup_cons.1 hnd
    rw [List.eraseIdx_cons_zero, List.filter_cons]
    simp only [beq_self_eq_true, Bool.not_true, Bool.false_eq_true, if_false]
    rw [List.filter_eq_self.2]
    intro y hy
    have : ¬ a = y := fun e => hnd.1 (e ▸ hy)
    simpa using this
  | a :: l, i + 1, x, hnd, h => by
    have hnd := List.nodup_cons.1 hnd
    have h' : l[i]? = some x := by simpa using h
    rw [List.eraseIdx_cons_succ, List.filter_cons, if_pos, erase_filter hnd.2 h']
    have : ¬ x = a := fun e => hnd.1 (e ▸ List.mem_of_getElem? h')
    simpa using this
theorem rem_nodup {n : Nat} {begun : List Int} : (rem n begun).Nodup := by
  refine List.Pairwise.filter _ ?_
  refine List.Pairwise.map _ (fun a b h e => h ?_) List.nodup_range'
  omega
theorem rem_snoc {n : Nat} {begun : List Int} {i : Nat} {x : Int} (h : (rem n begun)[i]? = some x) : rem n (begun ++ [x]) = (rem n begun).eraseIdx i := by
  rw [erase_filter rem_nodup h]
  unfold rem
  rw [List.filter_filter]
  congr 1
  funext y
  simp only [List.any_append, List.any_cons, List.any_nil, Bool.or_false, Bool.not_or]
  rw [Bool.and_comm]
theorem rem_len {n : Nat} {begun : List Int} {i : Nat} {x : Int} (h : (rem n begun)[i]? = some x) : (rem n (begun ++ [x])).length + 1 = (rem n begun).length := by
  rw [rem_snoc h]
  have := (List.getElem?_eq_some_iff.1 h).1
  rw [List.length_eraseIdx_of_lt this]; omega
theorem fold_idx {β : Type} {f : β → Int → β} {l : List Int} : ∀ {m i : Nat} {b : β}, i + m = l.length → (List.range' i m).foldl (fun b i => f b ((l[i]?).getD 0)) b = (l.drop i).foldl f b
  | 0, i, b, h => by rw [List.drop_eq_nil_of_le (by omega)]; rfl
  | m + 1, i, b, h => by
    obtain ⟨x, hx, hd⟩ := drop_at (show i < l.length by omega)
    rw [List.range'_succ, List.foldl_cons, hd, List.foldl_cons, hx, Option.getD_some]
    exact fold_idx (by omega)
theorem fold_flat {α β γ : Type} {f : α → List β} {g : γ → β → γ} : ∀ {l : List α} {b : γ}, (l.flatMap f).foldl g b = l.foldl (fun b x => (f x).foldl g b) b
  | [], b => rfl
  | x :: l, b => by rw [List.flatMap_cons, List.foldl_append, List.foldl_cons, fold_flat]
theorem fold_congr {α β : Type} {f g : β → α → β} : ∀ {l : List α} {b : β}, (∀ x, x ∈ l → ∀ b, f b x = g b x) → l.foldl f b = l.foldl g b
  | [], _, _ => rfl
  | x :: l, b, h => by rw [List.foldl_cons, List.foldl_cons, h x (List.mem_cons_self ..)]; exact fold_congr fun y hy => h y (List.mem_cons_of_mem _ hy)
theorem dfs_perms {β : Type} {upd : β → List Int → β} {n : Nat} : ∀ {k : Nat} {begun : List Int} {b : β}, (rem n begun).length = k → dfs upd n k begun b = (perms (rem n begun) k).foldl (fun b o => upd b (begun ++ o)) b
  | 0, begun, b, _ => by simp [dfs, perms]
  | k + 1, begun, b, h => by
    rw [dfs, perms, fold_flat]
    have e1 : (List.range' 0 n).foldl (fun b (j : Nat) => if begun.any (· == (j : Int)) = true then b else dfs upd n k (begun ++ [(j : Int)]) b) b = (rem n begun).foldl (fun b x => dfs upd n k (begun ++ [x]) b) b := by
      unfold rem
      rw [List.foldl_filter, List.foldl_map]
      refine fold_congr fun j _ c => ?_
      cases begun.any (· == (j : Int)) <;> simp
    have e2 := fold_idx (f := fun b x => dfs upd n k (begun ++ [x]) b) (l := rem n begun) (m := (rem n begun).length) (i := 0) (b := b) (by omega)
    rw [List.drop_zero] at e2
    rw [e1, ← e2]
    refine fold_congr fun i hi c => ?_
    have hi : i < (rem n begun).length := by simpa [List.mem_range'_1] using hi
    obtain ⟨x, hx, _⟩ := drop_at hi
    rw [hx, Option.getD_some, List.foldl_map, dfs_perms (by have := rem_len hx; omega), rem_snoc hx]
    refine fold_congr fun o _ c => ?_
    rw [List.append_assoc]; rfl
theorem rem_nil {n : Nat} : rem n [] = (List.range' 0 n).map fun i : Nat => (i : Int) := by
  unfold rem
  rw [List.filter_eq_self.2]
  intro x _; rfl
end Go.Pm.PP

/- Jobs, scenarios: what stands in slices. -/
set_option linter.unusedVariables false
set_option linter.unusedSimpArgs false
set_option maxRecDepth 4000
set_option maxHeartbeats 4000000
namespace Go.Pm.PP
open Go.Pm Go.Proofs
attribute [simp] evParts buildSliceP fillP buildP places reps
def encJ (j : Job) : List Value := [.int .i64 j.t, .int .i64 j.w, .int .i64 j.r, .int .i64 j.d]
abbrev jv (j : Job) : Value := .agg #[.int .i64 j.t, .int .i64 j.w, .int .i64 j.r, .int .i64 j.d]
abbrev Jobs (h : Hp) (v : Value) (js : List Job) : Prop := Sees h v 4 (js.map encJ)
def encV (u : Value) : List Value := [u]
def w64 (n : Int) : Int := IntKind.i64.wrap n
abbrev nilV : Value := .slice none 0 0
end Go.Pm.PP

/- Typed rules for slices: printed by a program of this work (wrap.py). -/
set_option linter.unusedVariables false
set_option linter.unusedSimpArgs false
set_option maxRecDepth 4000
namespace Go.Pm.PP
open Go.Pm Go.Proofs
theorem load_I {h : Hp} {v : Value} {xs : List (Int)} {i : Nat} {x : Int} (hv : Sees h v 1 (xs.map encI)) (hx : xs[i]? = some x) :
    indexAddrP P h t_S_int v (.int .i64 i) = some (.pointer (some (addP (base v) (i)))) ∧ loadP P h t_int (.pointer (some (addP (base v) (i)))) = some (.int .i64 x) := by
  have hi := (List.getElem?_eq_some_iff.1 hx).1
  have h1 := hv.indexT (P := P) u_S_int i_int (k := .i64) (j := i) (by omega) (by omega)
  rw [Int.toNat_natCast] at h1
  have h2 := hv.cellT (P := P) (ty := t_int) a_int i_int hx (k := 0) (by omega)
  exact ⟨by simpa using h1, by simpa [encI] using h2⟩
theorem len_I (xs : List (Int)) : ∀ e ∈ xs.map encI, e.length = 1 := by
  intro e he
  obtain ⟨x, _, rfl⟩ := List.mem_map.1 he
  rfl
theorem ones_I (xs : List (Int)) : (xs.map encI).flatten.all one = true := by
  induction xs with
  | nil => rfl
  | cons x xs ih => rw [List.map_cons, List.flatten_cons, List.all_append, ih]; rfl
theorem push_I0 {h0 h : Hp} {L : List Asn} (H : Holds h0 h L) (i : Nat) {v : Value} {xs : List (Int)} (hi : L[i]? = some (.own v 1 (xs.map encI))) (x : Int) (hn : xs.length ≤ 2 ^ 40) :
    ∃ v' h', appendP P (h ++ [some ⟨[.int .i64 x], 1, false⟩]) t_S_int v (.slice (some ⟨h.length, 0, some 1⟩) 1 1) = some (v', h') ∧ Holds h0 h' (L.set i (.own v' 1 ((xs ++ [x]).map encI))) ∧ Keeps (rowV v) h h' ∧ (rowV v = none → newOk (h ++ [some ⟨[.int .i64 x], 1, false⟩]) h') := by
  obtain ⟨v', h', g1, g2, g3, g4⟩ := (H.ext (List.prefix_append h [])).push (P := P) i (y := encI x) (n := 1) hi u_S_int e_t_int z_t_int s_t_int (by omega) (by rw [b_t_int]; omega) rfl rfl (by simp [encI]) (by rw [b_t_int]; simp; omega)
  rw [show xs.map encI ++ [encI x] = (xs ++ [x]).map encI by simp] at g2
  exact ⟨v', h', by simpa [encI] using g1, g2, Keeps.app.trans g3, by simpa [encI] using g4⟩
theorem app_I {h0 h : Hp} {L : List Asn} (H : Holds h0 h L) (i : Nat) {v u : Value} {xs ys : List (Int)} (hi : L[i]? = some (.own v 1 (xs.map encI))) (s : Sees h u 1 (ys.map encI)) (hn : xs.length + ys.length ≤ 2 ^ 40) :
    ∃ v' h', appendP P h t_S_int v u = some (v', h') ∧ Holds h0 h' (L.set i (.own v' 1 ((xs ++ ys).map encI))) ∧ Keeps (rowV v) h h' := by
  obtain ⟨v', h', g1, g2, g3⟩ := H.app (P := P) i hi u_S_int e_t_int z_t_int s_t_int (by omega) (by rw [b_t_int]; omega) s (ones_I ys) (by rw [b_t_int]; simp; omega)
  rw [← List.map_append] at g2
  exact ⟨v', h', g1, g2, g3⟩
theorem put_I {h0 h : Hp} {L : List Asn} (H : Holds h0 h L) (i : Nat) {v : Value} {xs : List (Int)} (hi : L[i]? = some (.own v 1 (xs.map encI))) {j : Nat} (hj : j < xs.length) (x : Int) :
    ∃ h', storeP P h t_int (.int .i64 x) (.pointer (some (addP (base v) (j)))) = some h' ∧ Holds h0 h' (L.set i (.own v 1 ((xs.set j x).map encI))) ∧ Keeps (rowV v) h h' := by
  have := H.put (P := P) i (t := t_int) (w := .int .i64 x) (j := j) hi i_int (by simpa using hj) rfl (by simp)
  simpa [List.map_set, encI] using this
theorem make_I {h0 h : Hp} {L : List Asn} (H : Holds h0 h L) {n : Nat} (hn : n ≤ 2 ^ 40) :
    ∃ v h', makeP P h t_S_int (.int .i64 n) (.int .i64 n) = some (v, h') ∧ Holds h0 h' (L ++ [.own v 1 ((List.replicate n (0 : Int)).map encI)]) ∧ h <+: h' ∧ (∃ oa, v = .slice oa n n) := by
  have mk := make_eq (h := h) u_S_int e_t_int z_t_int rfl (by rw [s_t_int]; omega) (by rw [b_t_int]; omega) (n := n) (by omega) (by rw [b_t_int]; omega)
  rw [s_t_int] at mk
  simp only [Value.cells] at mk
  have hlz : ∀ e ∈ List.replicate n ([.int .i64 0] : List Value), e.length = 1 := fun e he => by rw [List.eq_of_mem_replicate he]; rfl
  refine ⟨_, _, mk, ?_, List.prefix_append .., _, rfl⟩
  have := H.lit (els := List.replicate n ([.int .i64 0] : List Value)) (sz := 1) (n := n * 1) hlz (by simp)
  simpa [encI] using this
theorem load_J {h : Hp} {v : Value} {xs : List (Job)} {i : Nat} {x : Job} (hv : Sees h v 4 (xs.map encJ)) (hx : xs[i]? = some x) :
    indexAddrP P h t_S_impl_Job v (.int .i64 i) = some (.pointer (some (addP (base v) (i * 4)))) ∧ loadP P h t_impl_Job (.pointer (some (addP (base v) (i * 4)))) = some (.agg #[.int .i64 x.t, .int .i64 x.w, .int .i64 x.r, .int .i64 x.d]) ∧
    loadP P h t_int (.pointer (some (addP (addP (base v) (i * 4)) 0))) = some (.int .i64 x.t) ∧
    loadP P h t_int (.pointer (some (addP (addP (base v) (i * 4)) 1))) = some (.int .i64 x.w) ∧
    loadP P h t_int (.pointer (some (addP (addP (base v) (i * 4)) 2))) = some (.int .i64 x.r) ∧
    loadP P h t_int (.pointer (some (addP (addP (base v) (i * 4)) 3))) = some (.int .i64 x.d) := by
  have hi := (List.getElem?_eq_some_iff.1 hx).1
  have h1 := hv.indexT (P := P) u_S_impl_Job i_impl_Job (k := .i64) (j := i) (by omega) (by omega)
  rw [Int.toNat_natCast] at h1
  have fld : ∀ k, k < 4 → loadP P h t_int (.pointer (some (addP (addP (base v) (i * 4)) k))) = (encJ x)[k]? := by
    intro k hk
    have := hv.cellT (P := P) a_int i_int hx hk
    rw [← this]
    simp only [addP, Nat.add_assoc]
  exact ⟨h1, hv.aggT a_impl_Job i_impl_Job hx, fld 0 (by omega), fld 1 (by omega), fld 2 (by omega), fld 3 (by omega)⟩
theorem push_J0 {h0 h : Hp} {L : List Asn} (H : Holds h0 h L) (i : Nat) {v : Value} {xs : List (Job)} (hi : L[i]? = some (.own v 4 (xs.map encJ))) (x : Job) (hn : xs.length ≤ 2 ^ 40) :
    ∃ v' h', appendP P (h ++ [some ⟨[.int .i64 x.t, .int .i64 x.w, .int .i64 x.r, .int .i64 x.d], 4, false⟩]) t_S_impl_Job v (.slice (some ⟨h.length, 0, some 4⟩) 1 1) = some (v', h') ∧ Holds h0 h' (L.set i (.own v' 4 ((xs ++ [x]).map encJ))) ∧ Keeps (rowV v) h h' ∧ (rowV v = none → newOk (h ++ [some ⟨[.int .i64 x.t, .int .i64 x.w, .int .i64 x.r, .int .i64 x.d], 4, false⟩]) h') := by
  obtain ⟨v', h', g1, g2, g3, g4⟩ := (H.ext (List.prefix_append h [])).push (P := P) i (y := encJ x) (n := 4) hi u_S_impl_Job e_t_impl_Job z_t_impl_Job s_t_impl_Job (by omega) (by rw [b_t_impl_Job]; omega) rfl rfl (by simp [encJ]) (by rw [b_t_impl_Job]; simp; omega)
  rw [show xs.map encJ ++ [encJ x] = (xs ++ [x]).map encJ by simp] at g2
  exact ⟨v', h', by simpa [encJ] using g1, g2, Keeps.app.trans g3, by simpa [encJ] using g4⟩
theorem put_J {h0 h : Hp} {L : List Asn} (H : Holds h0 h L) (i : Nat) {v : Value} {xs : List (Job)} (hi : L[i]? = some (.own v 4 (xs.map encJ))) {j : Nat} (hj : j < xs.length) (x : Job) :
    ∃ h', storeP P h t_impl_Job (.agg #[.int .i64 x.t, .int .i64 x.w, .int .i64 x.r, .int .i64 x.d]) (.pointer (some (addP (base v) (j * 4)))) = some h' ∧ Holds h0 h' (L.set i (.own v 4 ((xs.set j x).map encJ))) ∧ Keeps (rowV v) h h' := by
  have := H.put (P := P) i (t := t_impl_Job) (w := .agg #[.int .i64 x.t, .int .i64 x.w, .int .i64 x.r, .int .i64 x.d]) (j := j) hi i_impl_Job (by simpa using hj) rfl (by simp)
  simpa [List.map_set, encJ] using this
theorem fput_J0 {h0 h : Hp} {L : List Asn} (H : Holds h0 h L) (i : Nat) {v : Value} {xs : List (Job)} (hi : L[i]? = some (.own v 4 (xs.map encJ))) {j : Nat} {y : Job} (hy : xs[j]? = some y) (z : Int) :
    ∃ h', storeP P h t_int (.int .i64 z) (.pointer (some (addP (addP (base v) (j * 4)) 0))) = some h' ∧ Holds h0 h' (L.set i (.own v 4 ((xs.set j ({ y with t := z })).map encJ))) ∧ Keeps (rowV v) h h' := by
  have := H.store (P := P) i hi (t := t_int) (w := .int .i64 z) (j := j) (e := encJ y) (l := []) (m := [.int .i64 y.t]) (c := [.int .i64 y.w, .int .i64 y.r, .int .i64 y.d]) e_t_int (by simp [hy]) rfl (by simp) (by simp) (by simp)
  simpa [List.map_set, encJ, addP, Nat.add_assoc] using this
theorem fput_J2 {h0 h : Hp} {L : List Asn} (H : Holds h0 h L) (i : Nat) {v : Value} {xs : List (Job)} (hi : L[i]? = some (.own v 4 (xs.map encJ))) {j : Nat} {y : Job} (hy : xs[j]? = some y) (z : Int) :
    ∃ h', storeP P h t_int (.int .i64 z) (.pointer (some (addP (addP (base v) (j * 4)) 2))) = some h' ∧ Holds h0 h' (L.set i (.own v 4 ((xs.set j ({ y with r := z })).map encJ))) ∧ Keeps (rowV v) h h' := by
  have := H.store (P := P) i hi (t := t_int) (w := .int .i64 z) (j := j) (e := encJ y) (l := [.int .i64 y.t, .int .i64 y.w]) (m := [.int .i64 y.r]) (c := [.int .i64 y.d]) e_t_int (by simp [hy]) rfl (by simp) (by simp) (by simp)
  simpa [List.map_set, encJ, addP, Nat.add_assoc] using this
theorem fput_J3 {h0 h : Hp} {L : List Asn} (H : Holds h0 h L) (i : Nat) {v : Value} {xs : List (Job)} (hi : L[i]? = some (.own v 4 (xs.map encJ))) {j : Nat} {y : Job} (hy : xs[j]? = some y) (z : Int) :
    ∃ h', storeP P h t_int (.int .i64 z) (.pointer (some (addP (addP (base v) (j * 4)) 3))) = some h' ∧ Holds h0 h' (L.set i (.own v 4 ((xs.set j ({ y with d := z })).map encJ))) ∧ Keeps (rowV v) h h' := by
  have := H.store (P := P) i hi (t := t_int) (w := .int .i64 z) (j := j) (e := encJ y) (l := [.int .i64 y.t, .int .i64 y.w, .int .i64 y.r]) (m := [.int .i64 y.d]) (c := []) e_t_int (by simp [hy]) rfl (by simp) (by simp) (by simp)
  simpa [List.map_set, encJ, addP, Nat.add_assoc] using this
end Go.Pm.PP

/- What is asked of jobs and orders; numbers in lists. -/
set_option linter.unusedVariables false
set_option linter.unusedSimpArgs false
set_option maxRecDepth 4000
set_option maxHeartbeats 4000000
namespace Go.Pm.PP
open Go.Pm Go.Proofs
def inB (x a b : Int) : Bool := decide (a ≤ x) && decide (x ≤ b)
def hasL (x : Int) (xs : List Int) : Bool := xs.any (· == x)
theorem l1In_run {h : Hp} {x a b : Int} : Ret P G n_spec_l1In [.int .i64 x, .int .i64 a, .int .i64 b] h (.bool (inB x a b)) h := by
  refine enter_run e_spec_l1In (by simp) ?_
  simp -implicitDefEqProofs
  refine WL_split (fun h => ?_) (fun h => ?_) <;> simp [h, inB]
theorem within_run {h : Hp} {x a b : Int} : Ret P G n_impl_within [.int .i64 x, .int .i64 a, .int .i64 b] h (.bool (inB x a b)) h := by
  refine enter_run e_impl_within (by simp) ?_
  simp -implicitDefEqProofs
  refine WL_split (fun h => ?_) (fun h => ?_) <;> simp [h, inB]
theorem isNumber_run {h : Hp} {i n : Int} : Ret P G n_impl_isNumber [.int .i64 i, .int .i64 n] h (.bool (inB i 0 (w64 (n - 1)))) h := by
  refine enter_run e_impl_isNumber (by simp) ?_
  simp -implicitDefEqProofs [CL_ret within_run, w64]
theorem l1Most_run {h : Hp} {a b : Int} : Ret P G n_spec_l1Most [.int .i64 a, .int .i64 b] h (.int .i64 (max a b)) h := by
  refine enter_run e_spec_l1Most (by simp) ?_
  simp -implicitDefEqProofs
  refine CB_split (fun h => ?_) (fun h => ?_) <;> simp at h <;> simp [h] <;> omega
theorem hasL_cons {x y : Int} {xs : List Int} : hasL x (y :: xs) = ((y == x) || hasL x xs) := rfl
theorem hasL_nil {x : Int} : hasL x [] = false := rfl
theorem l1Has_run {h : Hp} {v : Value} {xs : List Int} {x : Int} (hv : Ints h v xs) (hn : xs.length ≤ 2 ^ 40) :
    Ret P G n_spec_l1Has [v, .int .i64 x] h (.bool (hasL x xs)) h := by
  refine enter_run e_spec_l1Has (by simp) ?_
  obtain ⟨oa, c, rfl⟩ := hv.shapeT
  simp -implicitDefEqProofs
  refine R_loop (fun n s h' => ∃ i : Nat, i + n = xs.length ∧ s = [(0, .slice oa xs.length c), (1, .int .i64 x), (5, .int .i64 i)] ∧ h' = h ∧ hasL x xs = hasL x (xs.drop i)) (fun n s h' => ?_) ⟨0, Nat.zero_add _, by simp⟩
  rintro ⟨i, hi, rfl, rfl, hx⟩
  by_cases hlt : i < xs.length
  · obtain ⟨y, hy, hd⟩ := drop_at hlt
    rw [hd, hasL_cons] at hx
    simp -implicitDefEqProofs [hlt, load_I hv hy]
    refine CB_split (fun h => ?_) (fun h => ?_)
    · simp -implicitDefEqProofs [hx, h]
    · rw [h, Bool.false_or] at hx
      simp -implicitDefEqProofs [winc hlt hn]
      exact ⟨n - 1, by omega, i + 1, by omega, rfl, hx⟩
  · rw [List.drop_eq_nil_of_le (by omega), hasL_nil] at hx
    simp -implicitDefEqProofs [hlt, hx]
theorem has_run {h : Hp} {v : Value} {xs : List Int} {x : Int} (hv : Ints h v xs) (hn : xs.length ≤ 2 ^ 40) :
    Ret P G n_impl_has [v, .int .i64 x] h (.bool (hasL x xs)) h := by
  refine enter_run e_impl_has (by simp) ?_
  obtain ⟨oa, c, rfl⟩ := hv.shapeT
  simp -implicitDefEqProofs
  refine R_loop (fun n s h' => ∃ i : Nat, i + n = xs.length ∧ s = [(1, .int .i64 x), (7, .slice oa xs.length c), (8, .int .i64 xs.length), (9, .int .i64 i)] ∧ h' = h ∧ hasL x xs = hasL x (xs.drop i)) (fun n s h' => ?_) ⟨0, Nat.zero_add _, by simp⟩
  rintro ⟨i, hi, rfl, rfl, hx⟩
  by_cases hlt : i < xs.length
  · obtain ⟨y, hy, hd⟩ := drop_at hlt
    rw [hd, hasL_cons] at hx
    simp -implicitDefEqProofs [hlt, load_I hv hy]
    refine CB_split (fun h => ?_) (fun h => ?_)
    · simp -implicitDefEqProofs [hx, h]
    · rw [h, Bool.false_or] at hx
      simp -implicitDefEqProofs [winc hlt hn]
      exact ⟨n - 1, by omega, i + 1, by omega, rfl, hx⟩
  · rw [List.drop_eq_nil_of_le (by omega), hasL_nil] at hx
    simp -implicitDefEqProofs [hlt, hx]
theorem own_nil {h0 h : Hp} {L : List Asn} (H : Holds h0 h L) (α : Type) (enc : α → List Value) (sz : Nat) : Holds h0 h (L ++ [.own (.slice none 0 0) sz (([] : List α).map enc)]) := H.call List.prefix_rfl (by simpa using Own.nil)
def arGo (n : Int) : List Int → List Int → Bool
  | _, [] => true
  | us, x :: r => inB x 0 (w64 (n - 1)) && !hasL x us && arGo n (us ++ [x]) r
theorem areDifferent_run {h : Hp} {v : Value} {xs : List Int} {n : Int} (hv : Ints h v xs) (hn : xs.length ≤ 2 ^ 40) : Ret P G n_impl_areDifferent [.int .i64 n, v] h (.bool (arGo n [] xs)) h := by
  refine enter_run e_impl_areDifferent (by simp) ?_
  have hvs := hv
  obtain ⟨oa, c, rfl⟩ := hv.shapeT
  simp -implicitDefEqProofs
  refine R_loopO (fun m s h' => ∃ i : Nat, i + m = xs.length ∧ s = [(0, .int .i64 n), (1, .slice oa xs.length c), (7, .slice oa xs.length c), (8, .int .i64 xs.length), (9, .int .i64 i)] ∧ h' = h ∧ arGo n [] xs = arGo n (xs.take i) (xs.drop i)) (fun I hI m s h' => ?_) ⟨0, Nat.zero_add _, by simp, rfl, by simp⟩
  rintro ⟨i, hi, rfl, rfl, hx⟩
  by_cases hlt : i < xs.length
  · obtain ⟨y, hy, hd⟩ := drop_at hlt
    rw [hd, arGo, ← take_succ' hy] at hx
    obtain ⟨v', hs, hu⟩ := hvs.front (P := P) u_S_int i_int (k := .i64) (j := (i : Int)) (by omega) (by simp; omega)
    rw [Int.toNat_natCast, ← List.map_take] at hu
    have rh := has_run (x := y) hu (by simp; omega)
    cases c1 : inB y 0 (w64 (n - 1))
    · rw [c1, Bool.false_and, Bool.false_and] at hx
      simp -implicitDefEqProofs [-indexAddrP_some, hlt, load_I hvs hy, CL_ret isNumber_run, c1, hx]
    · cases c2 : hasL y (xs.take i)
      · rw [c1, c2] at hx
        simp -implicitDefEqProofs [-indexAddrP_some, hlt, load_I hvs hy, CL_ret isNumber_run, c1, hs, CL_ret rh, c2, winc hlt hn]
        exact ⟨m - 1, by omega, on hI ⟨i + 1, by omega, rfl, rfl, by simpa using hx⟩⟩
      · rw [c1, c2] at hx
        simp -implicitDefEqProofs [-indexAddrP_some, hlt, load_I hvs hy, CL_ret isNumber_run, c1, hs, CL_ret rh, c2]
        simpa using hx
  · rw [List.drop_eq_nil_of_le (by omega), arGo] at hx
    simp -implicitDefEqProofs [hlt, hx]
theorem l1Own_run {h : Hp} {v : Value} {xs : List Int} (hv : Ints h v xs) (hn : xs.length ≤ 2 ^ 40) : RunsC P G n_spec_l1Own [v] h fun v' h' => h <+: h' ∧ Own h.length h' v' 1 (xs.map encI) := by
  refine hideC fun K hK => enter_run e_spec_l1Own (by simp) ?_
  have H0 := own_nil (Holds.start (h := h)) Int encI 1
  obtain ⟨v', h', ha, H1, k⟩ := app_I H0 0 rfl hv (by simp; omega)
  simp -implicitDefEqProofs [ha]
  exact onK hK (H1.ret 0 rfl)
theorem copyInts_run {h : Hp} {v : Value} {xs : List Int} (hv : Ints h v xs) (hn : xs.length ≤ 2 ^ 40) : RunsC P G n_impl_copyInts [v] h fun v' h' => h <+: h' ∧ Own h.length h' v' 1 (xs.map encI) := by
  refine hideC fun K hK => enter_run e_impl_copyInts (by simp) ?_
  have H0 := own_nil (Holds.start (h := h)) Int encI 1
  obtain ⟨v', h', ha, H1, k⟩ := app_I H0 0 rfl hv (by simp; omega)
  simp -implicitDefEqProofs [ha]
  exact onK hK (H1.ret 0 rfl)
theorem isDate_run {h : Hp} {x : Int} : Ret P G n_impl_isDate [.int .i64 x] h (.bool (inB x 0 500)) h := by
  refine enter_run e_impl_isDate (by simp) ?_
  simp -implicitDefEqProofs [CL_ret within_run]
def jobOk (j : Job) : Bool := inB j.t 1 50 && inB j.w 0 50 && inB j.r 0 500 && inB j.d 0 500
theorem jobOk_eq (j : Job) : jobOk j = (inB j.t 1 50 && inB j.w 0 50 && inB j.r 0 500 && inB j.d 0 500) := rfl
theorem l2Job_run {h : Hp} {j : Job} : Ret P G n_spec_l2Job [jv j] h (.bool (jobOk j)) h := by
  refine enter_run e_spec_l2Job (by simp) ?_
  cases h1 : inB j.t 1 50 <;> cases h2 : inB j.w 0 50 <;> cases h3 : inB j.r 0 500 <;> cases h4 : inB j.d 0 500 <;>
    simp -implicitDefEqProofs [CL_ret l1In_run, h1, h2, h3, h4, jobOk]
def goodL (js : List Job) : Bool := js.all jobOk
theorem goodL_cons {j : Job} {js : List Job} : goodL (j :: js) = (jobOk j && goodL js) := rfl
theorem goodL_nil : goodL [] = true := rfl
theorem l2Good_run {h : Hp} {v : Value} {js : List Job} (hv : Jobs h v js) (hn : js.length ≤ 2 ^ 40) :
    Ret P G n_spec_l2Good [v] h (.bool (decide (js.length ≤ 8) && goodL js)) h := by
  refine enter_run e_spec_l2Good (by simp) ?_
  obtain ⟨oa, c, rfl⟩ := hv.shapeT
  simp -implicitDefEqProofs
  refine R_loopO (fun n s h' => ∃ i : Nat, i + n = js.length ∧ s = [(0, .slice oa js.length c), (3, .int .i64 i)] ∧ h' = h ∧ goodL js = goodL (js.drop i)) (fun I hI n s h' => ?_) ⟨0, Nat.zero_add _, by simp⟩
  rintro ⟨i, hi, rfl, rfl, hx⟩
  by_cases hlt : i < js.length
  · obtain ⟨y, hy, hd⟩ := drop_at hlt
    rw [hd, goodL_cons] at hx
    cases c1 : jobOk y
    · rw [c1, Bool.false_and] at hx
      simp -implicitDefEqProofs [-indexAddrP_some, hlt, load_J hv hy, CL_ret l2Job_run, c1, hx]
    · rw [c1, Bool.true_and] at hx
      simp -implicitDefEqProofs [-indexAddrP_some, hlt, load_J hv hy, CL_ret l2Job_run, c1, winc hlt hn]
      exact ⟨n - 1, by omega, on hI ⟨i + 1, by omega, rfl, rfl, hx⟩⟩
  · rw [List.drop_eq_nil_of_le (by omega), goodL_nil] at hx
    simp -implicitDefEqProofs [hlt, hx]
    try omega
theorem IsJobs_run {h : Hp} {v : Value} {js : List Job} (hv : Jobs h v js) (hn : js.length ≤ 2 ^ 40) :
    Ret P G n_impl_IsJobs [v] h (.bool (decide (js.length ≤ 8) && goodL js)) h := by
  refine enter_run e_impl_IsJobs (by simp) ?_
  obtain ⟨oa, c, rfl⟩ := hv.shapeT
  simp -implicitDefEqProofs
  refine CB_split (fun h => ?_) (fun h => ?_)
  · simp at h
    simp -implicitDefEqProofs [show ¬ js.length ≤ 8 by omega]
  · have h8 : js.length ≤ 8 := by simp at h; omega
    simp -implicitDefEqProofs [h8]
    rename_i h0
    refine R_loop (fun n s h' => ∃ i : Nat, i + n = js.length ∧ s = [(8, .slice oa js.length c), (9, .int .i64 js.length), (10, .int .i64 i)] ∧ h0 <+: h' ∧ goodL js = goodL (js.drop i)) (fun n s h' => ?_) ⟨0, Nat.zero_add _, by simp⟩
    rintro ⟨i, hi, rfl, hp, hx⟩
    have hv' := hv.pre hp
    by_cases hlt : i < js.length
    · obtain ⟨y, hy, hd⟩ := drop_at hlt
      rw [hd, goodL_cons, jobOk_eq] at hx
      cases h1 : inB y.t 1 50 <;> cases h2 : inB y.w 0 50 <;> cases h3 : inB y.r 0 500 <;> cases h4 : inB y.d 0 500 <;>
        (rw [h1, h2, h3, h4] at hx; simp -implicitDefEqProofs [-indexAddrP_some, hlt, load_J hv' hy, CL_ret within_run, CL_ret isDate_run, h1, h2, h3, h4, winc hlt hn])
      all_goals first
        | (simp at hx; simp -implicitDefEqProofs [hx, gcB' hp]; done)
        | exact ⟨n - 1, by omega, i + 1, by omega, rfl, hp.trans (List.prefix_append ..), by simpa using hx⟩
    · rw [List.drop_eq_nil_of_le (by omega), goodL_nil] at hx
      simp -implicitDefEqProofs [hlt, hx, gcB hp]
def allIn (xs : List Int) (n : Nat) : Bool := (List.range n).all fun i => hasL i xs
def l2OrderL (n : Int) (xs : List Int) : Bool := inB n 0 8 && ((xs.length : Int) == n) && allIn xs xs.length
theorem isOrder_run {h : Hp} {v : Value} {xs : List Int} {n : Int} (hv : Ints h v xs) (hn : xs.length ≤ 2 ^ 40) :
    Ret P G n_impl_isOrder [.int .i64 n, v] h (.bool (((xs.length : Int) == n) && arGo n [] xs)) h := by
  refine enter_run e_impl_isOrder (by simp) ?_
  have hvs := hv
  obtain ⟨oa, c, rfl⟩ := hv.shapeT
  cases h1 : ((xs.length : Int) == n) <;>
    simp -implicitDefEqProofs [CL_ret (areDifferent_run hvs hn), h1]
theorem hasL_mem {x : Int} {xs : List Int} : hasL x xs = true ↔ x ∈ xs := by
  unfold hasL
  rw [List.any_eq_true]
  constructor
  · rintro ⟨y, hy, h⟩
    have : y = x := by simpa using h
    exact this ▸ hy
  · intro h; exact ⟨x, h, by simp⟩
theorem arGo_iff {n : Int} (hn : w64 (n - 1) = n - 1) : ∀ {xs us : List Int}, arGo n us xs = true ↔ (∀ x ∈ xs, 0 ≤ x ∧ x < n) ∧ xs.Nodup ∧ ∀ x ∈ xs, x ∉ us
  | [], us => by simp [arGo]
  | x :: r, us => by
    rw [arGo, Bool.and_eq_true, Bool.and_eq_true, arGo_iff hn, hn]
    simp only [inB, Bool.and_eq_true, decide_eq_true_eq, Bool.not_eq_true', List.mem_cons, List.nodup_cons, List.mem_append, List.not_mem_nil, or_false, not_or]
    have hh : hasL x us = false ↔ x ∉ us := by rw [← hasL_mem]; simp
    rw [hh]
    constructor
    · rintro ⟨⟨h1, h2⟩, h3, h4, h5⟩
      refine ⟨fun y hy => ?_, ⟨fun hx => (h5 x hx).2 rfl, h4⟩, fun y hy => ?_⟩
      · rcases hy with rfl | hy
        · omega
        · exact h3 y hy
      · rcases hy with rfl | hy
        · exact h2
        · exact (h5 y hy).1
    · rintro ⟨h1, ⟨h2, h3⟩, h4⟩
      refine ⟨⟨by have := h1 x (.inl rfl); omega, h4 x (.inl rfl)⟩, fun y hy => h1 y (.inr hy), h3, fun y hy => ⟨h4 y (.inr hy), fun e => h2 (by rw [← e]; exact hy)⟩⟩
theorem pigeon : ∀ (xs S : List Int), xs.Nodup → (∀ x ∈ xs, x ∈ S) → S.length ≤ xs.length → ∀ y ∈ S, y ∈ xs
  | [], S, _, _, hl, y, hy => by
    have : S = [] := List.eq_nil_of_length_eq_zero (by simpa using hl)
    rw [this] at hy; cases hy
  | a :: xs, S, hnd, hs, hl, y, hy => by
    have hnd := List.nodup_cons.1 hnd
    have ha := hs a (List.mem_cons_self ..)
    by_cases hya : y = a
    · rw [hya]; exact List.mem_cons_self ..
    · refine List.mem_cons_of_mem _ (pigeon xs (S.erase a) hnd.2 (fun x hx => ?_) ?_ y ((List.mem_erase_of_ne hya).2 hy))
      · have hxa : x ≠ a := fun e => hnd.1 (e ▸ hx)
        exact (List.mem_erase_of_ne hxa).2 (hs x (List.mem_cons_of_mem _ hx))
      · rw [List.length_erase_of_mem ha]
        simp only [List.length_cons] at hl
        omega
theorem pigeon2 : ∀ (S xs : List Int), S.Nodup → (∀ x ∈ S, x ∈ xs) → xs.length ≤ S.length → xs.Nodup
  | [], xs, _, _, hl => by
    have : xs = [] := List.eq_nil_of_length_eq_zero (by simpa using hl)
    rw [this]; exact List.nodup_nil
  | a :: S, xs, hnd, hs, hl => by
    have hnd' := List.nodup_cons.1 hnd
    have ha := hs a (List.mem_cons_self ..)
    have h1 : ∀ x ∈ S, x ∈ xs.erase a := fun x hx => by
      have hxa : x ≠ a := fun e => hnd'.1 (e ▸ hx)
      exact (List.mem_erase_of_ne hxa).2 (hs x (List.mem_cons_of_mem _ hx))
    have h2 : (xs.erase a).length ≤ S.length := by
      rw [List.length_erase_of_mem ha]
      simp only [List.length_cons] at hl
      omega
    have h3 := pigeon2 S (xs.erase a) hnd'.2 h1 h2
    have h4 := pigeon S (xs.erase a) hnd'.2 h1 h2
    exact (List.perm_cons_erase ha).nodup_iff.2 (List.nodup_cons.2 ⟨fun h => hnd'.1 (h4 a h), h3⟩)
def upTo (n : Nat) : List Int := (List.range n).map fun i : Nat => (i : Int)
theorem mem_upTo {n : Nat} {x : Int} : x ∈ upTo n ↔ 0 ≤ x ∧ x < n := by
  simp only [upTo, List.mem_map, List.mem_range]
  constructor
  · rintro ⟨i, hi, rfl⟩; omega
  · rintro ⟨h1, h2⟩; exact ⟨x.toNat, by omega, by omega⟩
theorem upTo_nodup (n : Nat) : (upTo n).Nodup := by
  refine List.Pairwise.map _ (fun a b h e => h ?_) List.nodup_range
  omega
theorem upTo_len (n : Nat) : (upTo n).length = n := by simp [upTo]
theorem hasL_iff' {x : Int} {xs : List Int} : hasL x xs = true ↔ x ∈ xs := by simp [hasL]
theorem order_eq {n : Nat} {xs : List Int} (hn : n ≤ 8) : (((xs.length : Int) == n) && arGo n [] xs) = (((xs.length : Int) == n) && allIn xs xs.length) := by
  cases h2 : ((xs.length : Int) == n) with
  | false => rfl
  | true =>
    have hl : xs.length = n := by have := beq_iff_eq.1 h2; omega
    have wn : w64 ((n : Int) - 1) = (n : Int) - 1 := by unfold w64; rw [wrap_ok] <;> omega
    rw [Bool.true_and, Bool.true_and, Bool.eq_iff_iff, arGo_iff wn]
    constructor
    · rintro ⟨h3, h4, _⟩
      refine List.all_eq_true.2 fun i hi => hasL_iff'.2 ?_
      have hi := List.mem_range.1 hi
      exact pigeon xs (upTo n) h4 (fun x hx => mem_upTo.2 (h3 x hx)) (by rw [upTo_len]; omega) i (mem_upTo.2 (by omega))
    · intro h3
      have h4 : ∀ i : Nat, i < n → (i : Int) ∈ xs := fun i hi => hasL_iff'.1 (List.all_eq_true.1 h3 i (List.mem_range.2 (by omega)))
      have h5 : ∀ x ∈ upTo n, x ∈ xs := fun x hx => by
        have := mem_upTo.1 hx
        have h6 := h4 x.toNat (by omega)
        rwa [show ((x.toNat : Nat) : Int) = x by omega] at h6
      have h6 := pigeon (upTo n) xs (upTo_nodup n) h5 (by rw [upTo_len]; omega)
      exact ⟨fun x hx => mem_upTo.1 (h6 x hx), pigeon2 (upTo n) xs (upTo_nodup n) h5 (by rw [upTo_len]; omega), by simp⟩
end Go.Pm.PP

/- Ends and values of objectives, by both. -/
set_option linter.unusedVariables false
set_option linter.unusedSimpArgs false
set_option maxRecDepth 4000
set_option maxHeartbeats 8000000
namespace Go.Pm.PP
open Go.Pm Go.Proofs
theorem mx_if (a b : Int) : (if a < b then b else a) = max a b := by rw [Int.max_def]; split <;> split <;> omega
theorem job_of {j : Job} (h : jobOk j = true) : (1 ≤ j.t ∧ j.t ≤ 50) ∧ (0 ≤ j.w ∧ j.w ≤ 50) ∧ (0 ≤ j.r ∧ j.r ≤ 500) ∧ 0 ≤ j.d ∧ j.d ≤ 500 := by
  simp only [jobOk, inB, Bool.and_eq_true, decide_eq_true_eq] at h
  omega
theorem job_at {js : List Job} (h : goodL js = true) {i : Nat} {y : Job} (hy : js[i]? = some y) : jobOk y = true := List.all_eq_true.1 h y (List.mem_of_getElem? hy)
theorem mul_bd {w e : Int} (h1 : 0 ≤ w) (h2 : w ≤ 50) (h3 : 0 ≤ e) (h4 : e ≤ 2 ^ 21) : 0 ≤ w * e ∧ w * e ≤ 50 * 2 ^ 21 := ⟨Int.mul_nonneg h1 h3, Int.mul_le_mul h2 h4 h3 (by omega)⟩
theorem cost_bd {o : Int} {j : Job} {e : Int} (hj : jobOk j = true) (h1 : 0 ≤ e) (h2 : e ≤ 2 ^ 20) : 0 ≤ costV o j e ∧ costV o j e ≤ 2 ^ 27 := by
  obtain ⟨_, hw, _, hd⟩ := job_of hj
  have m1 := mul_bd hw.1 hw.2 h1 (by omega)
  have m2 := mul_bd hw.1 hw.2 (e := max (e - j.d) 0) (by omega) (by omega)
  unfold costV
  split
  · omega
  split
  · omega
  split
  · omega
  split
  · omega
  split
  · omega
  split <;> omega
theorem l2Greatest_run {h : Hp} {o : Int} : Ret P G n_spec_l2Greatest [.int .i64 o] h (.bool ((o == 1) || (o == 4))) h := by
  refine enter_run e_spec_l2Greatest (by simp) ?_
  cases c1 : (o == 1) <;> simp -implicitDefEqProofs [c1]
theorem l2Cost_run {h : Hp} {j : Job} {e o : Int} (hj : jobOk j = true) (h1 : 0 ≤ e) (h2 : e ≤ 2 ^ 20) (ho : 1 ≤ o ∧ o ≤ 8) (ho1 : ¬ o = 1) (ho4 : ¬ o = 4) : Ret P G n_spec_l2Cost [jv j, .int .i64 e, .int .i64 o] h (.int .i64 (costV o j e)) h := by
  refine enter_run e_spec_l2Cost (by simp) ?_
  obtain ⟨_, hw, _, hd⟩ := job_of hj
  have m1 := mul_bd hw.1 hw.2 h1 (by omega)
  have m2 := mul_bd hw.1 hw.2 (e := max (e - j.d) 0) (by omega) (by omega)
  have w1 : IntKind.i64.wrap (e - j.d) = e - j.d := by rw [wrap_ok] <;> omega
  have w2 : IntKind.i64.wrap (j.w * e) = j.w * e := by rw [wrap_ok] <;> omega
  have w3 : IntKind.i64.wrap (j.w * max (e - j.d) 0) = j.w * max (e - j.d) 0 := by rw [wrap_ok] <;> omega
  obtain ⟨L, hL⟩ : ∃ L, L = max (e - j.d) 0 := ⟨_, rfl⟩
  unfold costV
  rw [← hL]
  rw [← hL] at w3
  have lr : ∀ {h : Hp}, Ret P G n_spec_l1Most [.int .i64 (e - j.d), .int .i64 0] h (.int .i64 L) h := fun {h} => by rw [hL]; exact l1Most_run
  have hc : o = 2 ∨ o = 3 ∨ o = 5 ∨ o = 6 ∨ o = 7 ∨ o = 8 := by omega
  rcases hc with rfl | rfl | rfl | rfl | rfl | rfl
  · simp -implicitDefEqProofs [w1, CL_ret lr]
  · simp -implicitDefEqProofs [w1, CL_ret lr, w2]
  · simp -implicitDefEqProofs [w1, CL_ret lr]
  · simp -implicitDefEqProofs [w1, CL_ret lr, w3]
  · by_cases c : L = 0
    · simp -implicitDefEqProofs [w1, CL_ret lr, c]
    · simp -implicitDefEqProofs [w1, CL_ret lr, c, nb c]
  · by_cases c : L = 0
    · simp -implicitDefEqProofs [w1, CL_ret lr, c]
    · simp -implicitDefEqProofs [w1, CL_ret lr, c, nb c]
theorem add_run {h : Hp} {j : Job} {a e o : Int} {f : Bool} (hj : jobOk j = true) (h1 : 0 ≤ e) (h2 : e ≤ 2 ^ 20) (ho : 1 ≤ o ∧ o ≤ 8) (ha : -(2 ^ 50) ≤ a ∧ a ≤ 2 ^ 50) : Ret P G n_impl_add [.int .i64 a, jv j, .int .i64 e, .int .i64 o, .bool f] h (.int .i64 (stepV o f a j e)) h := by
  refine enter_run e_impl_add (by simp) ?_
  obtain ⟨_, hw, _, hd⟩ := job_of hj
  have m1 := mul_bd hw.1 hw.2 h1 (by omega)
  have m2 := mul_bd hw.1 hw.2 (e := max 0 (e - j.d)) (by omega) (by omega)
  have w1 : IntKind.i64.wrap (e - j.d) = e - j.d := by rw [wrap_ok] <;> omega
  have w2 : IntKind.i64.wrap (j.w * e) = j.w * e := by rw [wrap_ok] <;> omega
  have w3 : IntKind.i64.wrap (j.w * max 0 (e - j.d)) = j.w * max 0 (e - j.d) := by rw [wrap_ok] <;> omega
  have w4 : IntKind.i64.wrap (a + e) = a + e := by rw [wrap_ok] <;> omega
  have w5 : IntKind.i64.wrap (a + j.w * e) = a + j.w * e := by rw [wrap_ok] <;> omega
  have w6 : IntKind.i64.wrap (a + max 0 (e - j.d)) = a + max 0 (e - j.d) := by rw [wrap_ok] <;> omega
  have w7 : IntKind.i64.wrap (a + j.w * max 0 (e - j.d)) = a + j.w * max 0 (e - j.d) := by rw [wrap_ok] <;> omega
  have w8 : IntKind.i64.wrap (a + 1) = a + 1 := by rw [wrap_ok] <;> omega
  have w9 : IntKind.i64.wrap (a + j.w) = a + j.w := by rw [wrap_ok] <;> omega
  have mc : max 0 (e - j.d) = max (e - j.d) 0 := Int.max_comm ..
  rw [mc] at w3 w6 w7
  have hc : o = 1 ∨ o = 2 ∨ o = 3 ∨ o = 4 ∨ o = 5 ∨ o = 6 ∨ o = 7 ∨ o = 8 := by omega
  rcases hc with rfl | rfl | rfl | rfl | rfl | rfl | rfl | rfl
  · simp -implicitDefEqProofs [w1, foldI, mx_if, stepV]
  · simp -implicitDefEqProofs [w1, w4, stepV, costV]
  · simp -implicitDefEqProofs [w1, w2, w5, stepV, costV]
  · cases f <;> simp -implicitDefEqProofs [w1, foldI, mx_if, stepV]
  · simp -implicitDefEqProofs [w1, foldI, mx_if, w6, stepV, costV, mc]
  · simp -implicitDefEqProofs [w1, foldI, mx_if, w3, w7, stepV, costV, mc]
  · by_cases c : e - j.d ≤ 0
    · have c' : max (e - j.d) 0 = 0 := by omega
      simp -implicitDefEqProofs [w1, c, stepV, costV, c']
    · have c' : ¬ max (e - j.d) 0 = 0 := by omega
      simp -implicitDefEqProofs [w1, c, w8, stepV, costV, c']
  · by_cases c : e - j.d ≤ 0
    · have c' : max (e - j.d) 0 = 0 := by omega
      simp -implicitDefEqProofs [w1, c, stepV, costV, c']
    · have c' : ¬ max (e - j.d) 0 = 0 := by omega
      simp -implicitDefEqProofs [w1, c, w9, stepV, costV, c']
theorem step_bd {o : Int} {f : Bool} {a : Int} {j : Job} {e : Int} {B : Int} (hj : jobOk j = true) (h1 : 0 ≤ e) (h2 : e ≤ 2 ^ 20) (ha : -B ≤ a ∧ a ≤ B) (hB : 0 ≤ B) : -(B + 2 ^ 27) ≤ stepV o f a j e ∧ stepV o f a j e ≤ B + 2 ^ 27 := by
  have hc := cost_bd (o := o) hj h1 h2
  obtain ⟨_, _, _, hd⟩ := job_of hj
  unfold stepV
  split
  · omega
  · split
    · split <;> omega
    · omega
theorem val_drop {o : Int} {f : Bool} {a : Int} {js : List Job} {es : List Int} {i : Nat} {y : Job} {e : Int} (hy : js[i]? = some y) (he : es[i]? = some e) : valGo o f a (js.drop i) (es.drop i) = valGo o false (stepV o f a y e) (js.drop (i + 1)) (es.drop (i + 1)) := by
  obtain ⟨y', hy', hd⟩ := drop_at (List.getElem?_eq_some_iff.1 hy).1
  obtain ⟨e', he', hd'⟩ := drop_at (List.getElem?_eq_some_iff.1 he).1
  rw [hy] at hy'; cases hy'
  rw [he] at he'; cases he'
  rw [hd, hd', valGo]
theorem l2Of_run {h : Hp} {v u : Value} {js : List Job} {es : List Int} {o : Int} (hj : Jobs h v js) (hu : Ints h u es) (hg : goodL js = true) (hn : js.length ≤ 8) (hl : es.length = js.length) (he : ∀ e, e ∈ es → 0 ≤ e ∧ e ≤ 2 ^ 20) (ho : 1 ≤ o ∧ o ≤ 8) :
    Ret P G n_spec_l2Of [v, u, .int .i64 o] h (.int .i64 (valE o js es)) h := by
  refine enter_run e_spec_l2Of (by simp) ?_
  have hjs := hj
  have hus := hu
  obtain ⟨oj, cj, rfl⟩ := hj.shapeT
  obtain ⟨oa, c, rfl⟩ := hu.shapeT
  simp -implicitDefEqProofs
  refine R_loopO (fun m s h' => ∃ (i : Nat) (a : Int), i + m = js.length ∧ s = [(0, .slice oj js.length cj), (1, .slice oa es.length c), (2, .int .i64 o), (7, .int .i64 a), (8, .int .i64 i)] ∧ h' = h ∧ valE o js es = valGo o (decide (i = 0)) a (js.drop i) (es.drop i) ∧ -((i : Int) * 2 ^ 27) ≤ a ∧ a ≤ (i : Int) * 2 ^ 27 ∧ (i = 0 → a = 0)) (fun I hI m s h' => ?_) ⟨0, 0, Nat.zero_add _, by simp, rfl, rfl, by omega, by omega, fun _ => rfl⟩
  rintro ⟨i, a, hi, rfl, rfl, hx, ha1, ha2, ha0⟩
  by_cases hlt : i < js.length
  · obtain ⟨y, hy, _⟩ := drop_at hlt
    obtain ⟨e, he', _⟩ := drop_at (show i < es.length by omega)
    have hjy := job_at hg hy
    have hey := he e (List.mem_of_getElem? he')
    rw [val_drop hy he'] at hx
    have sb := step_bd (o := o) (f := decide (i = 0)) hjy hey.1 hey.2 ⟨ha1, ha2⟩ (by omega)
    have cb := cost_bd (o := o) hjy hey.1 hey.2
    obtain ⟨_, _, _, hd⟩ := job_of hjy
    have lj := load_J hjs hy
    have le := load_I hus he'
    have wi := winc hlt (show js.length ≤ 2 ^ 40 by omega)
    have go : ∃ k, k < m ∧ I k [(0, .slice oj js.length cj), (1, .slice oa es.length c), (2, .int .i64 o), (7, .int .i64 (stepV o (decide (i = 0)) a y e)), (8, .int .i64 ((i + 1 : Nat) : Int))] h' :=
      ⟨m - 1, by omega, on hI ⟨i + 1, _, by omega, rfl, rfl, by simpa using hx, by omega, by omega, by omega⟩⟩
    by_cases o1 : o = 1
    · subst o1
      have ew : stepV 1 (decide (i = 0)) a y e = if i = 0 then e else max a e := by
        unfold stepV; rw [if_pos rfl]
        split
        · rename_i g; rw [ha0 g]; omega
        · rfl
      rw [ew] at go
      by_cases i0 : i = 0
      · subst i0
        rw [if_pos rfl] at go
        rw [show ((0 : Nat) : Int) = 0 from rfl] at le
        simp -implicitDefEqProofs [-indexAddrP_some, hlt, CL_ret l2Greatest_run, le, wrap_ok]
        simpa using go
      · rw [if_neg i0] at go
        have i0' : ((i : Int) == 0) = false := nb (by omega)
        by_cases c2 : a < e
        · rw [show max a e = e by omega] at go
          simp -implicitDefEqProofs [-indexAddrP_some, hlt, CL_ret l2Greatest_run, le, i0', c2, wi]
          simpa using go
        · rw [show max a e = a by omega] at go
          simp -implicitDefEqProofs [-indexAddrP_some, hlt, CL_ret l2Greatest_run, le, i0', c2, wi]
          simpa using go
    · by_cases o4 : o = 4
      · subst o4
        have we : IntKind.i64.wrap (e - y.d) = e - y.d := by rw [wrap_ok] <;> omega
        have ew : stepV 4 (decide (i = 0)) a y e = if i = 0 then e - y.d else max a (e - y.d) := by
          unfold stepV; rw [if_neg (by decide), if_pos rfl]; simp
        rw [ew] at go
        by_cases i0 : i = 0
        · subst i0
          rw [if_pos rfl] at go
          rw [show ((0 : Nat) : Int) = 0 from rfl] at le lj
          rw [Nat.zero_mul] at lj
          simp -implicitDefEqProofs [-indexAddrP_some, hlt, CL_ret l2Greatest_run, le, lj, we, wrap_ok]
          simpa using go
        · rw [if_neg i0] at go
          have i0' : ((i : Int) == 0) = false := nb (by omega)
          by_cases c2 : a < e - y.d
          · rw [show max a (e - y.d) = e - y.d by omega] at go
            simp -implicitDefEqProofs [-indexAddrP_some, hlt, CL_ret l2Greatest_run, le, lj, we, i0', c2, wi]
            simpa using go
          · rw [show max a (e - y.d) = a by omega] at go
            simp -implicitDefEqProofs [-indexAddrP_some, hlt, CL_ret l2Greatest_run, le, lj, we, i0', c2, wi]
            simpa using go
      · have rc := l2Cost_run (h := h') hjy hey.1 hey.2 ho o1 o4
        have ew : stepV o (decide (i = 0)) a y e = a + costV o y e := by unfold stepV; rw [if_neg o1, if_neg o4]
        rw [ew] at go
        have wa : IntKind.i64.wrap (a + costV o y e) = a + costV o y e := by rw [wrap_ok] <;> omega
        simp -implicitDefEqProofs [-indexAddrP_some, hlt, CL_ret l2Greatest_run, nb o1, nb o4, le, lj, CL_ret rc, CH_at rc, wa, wi]
        simpa using go
  · rw [List.drop_eq_nil_of_le (by omega)] at hx
    have hx' : valE o js es = a := by rw [hx]; simp [valGo]
    simp -implicitDefEqProofs [hlt, hx']
theorem valueOfEnds_run {h : Hp} {v u : Value} {js : List Job} {es : List Int} {o : Int} (hj : Jobs h v js) (hu : Ints h u es) (hg : goodL js = true) (hn : js.length ≤ 8) (hl : es.length = js.length) (he : ∀ e, e ∈ es → 0 ≤ e ∧ e ≤ 2 ^ 20) (ho : 1 ≤ o ∧ o ≤ 8) :
    Ret P G n_impl_valueOfEnds [v, u, .int .i64 o] h (.int .i64 (valE o js es)) h := by
  refine enter_run e_impl_valueOfEnds (by simp) ?_
  have hjs := hj
  have hus := hu
  obtain ⟨oj, cj, rfl⟩ := hj.shapeT
  obtain ⟨oa, c, rfl⟩ := hu.shapeT
  simp -implicitDefEqProofs
  refine R_loopO (fun m s h' => ∃ (i : Nat) (a : Int), i + m = js.length ∧ s = [(1, .slice oa es.length c), (2, .int .i64 o), (7, .int .i64 a), (10, .slice oj js.length cj), (11, .int .i64 js.length), (12, .int .i64 i)] ∧ h <+: h' ∧ valE o js es = valGo o (decide (i = 0)) a (js.drop i) (es.drop i) ∧ -((i : Int) * 2 ^ 27) ≤ a ∧ a ≤ (i : Int) * 2 ^ 27) (fun I hI m s h' => ?_) ⟨0, 0, Nat.zero_add _, by simp, List.prefix_rfl, rfl, by omega, by omega⟩
  rintro ⟨i, a, hi, rfl, hp, hx, ha1, ha2⟩
  by_cases hlt : i < js.length
  · obtain ⟨y, hy, _⟩ := drop_at hlt
    obtain ⟨e, he', _⟩ := drop_at (show i < es.length by omega)
    have hjy := job_at hg hy
    have hey := he e (List.mem_of_getElem? he')
    rw [val_drop hy he'] at hx
    have sb := step_bd (o := o) (f := decide (i = 0)) hjy hey.1 hey.2 ⟨ha1, ha2⟩ (by omega)
    have lj := load_J (hjs.pre hp) hy
    have le := fun l => load_I (hus.pre (hp.trans (List.prefix_append h' l))) he'
    have wi := winc hlt (show js.length ≤ 2 ^ 40 by omega)
    have ra := fun (h : Hp) => add_run (h := h) (a := a) (f := decide (i = 0)) hjy hey.1 hey.2 ho (by omega)
    have hb : ((i : Int) == 0) = decide (i = 0) := by
      by_cases g : i = 0
      · subst g; rfl
      · rw [nb (by omega)]; simp [g]
    simp -implicitDefEqProofs [-indexAddrP_some, hlt, lj, le, hb, CL_ret (ra _), CH_at (ra _), wi]
    exact ⟨m - 1, by omega, on hI ⟨i + 1, _, by omega, rfl, hp.trans (List.prefix_append ..), by simpa using hx, by omega, by omega⟩⟩
  · rw [List.drop_eq_nil_of_le (by omega)] at hx
    have hx' : valE o js es = a := by rw [hx]; simp [valGo]
    simp -implicitDefEqProofs [hlt, hx']
    exact gcP hp rfl
/-! ### ends -/
theorem jA_get {js : List Job} {x : Int} {n : Nat} (hn : n = js.length) (h : 0 ≤ x ∧ x < n) : ∃ k : Nat, x = k ∧ k < js.length ∧ js[k]? = some (jA js x) := by
  obtain ⟨y, hy, _⟩ := drop_at (show x.toNat < js.length by omega)
  exact ⟨x.toNat, by omega, by omega, by rw [hy]; unfold jA; rw [hy]; rfl⟩
theorem l2Starts_run {h : Hp} {v u : Value} {js : List Job} {xs : List Int} (hj : Jobs h v js) (hu : Ints h u xs) (hg : goodL js = true) (hn : js.length ≤ 8) (hl : xs.length ≤ 8) (hin : inN js.length xs) :
    RunsC P G n_spec_l2Starts [v, u] h fun v' h' => h <+: h' ∧ Own h.length h' v' 1 ((stL js xs).map encI) ∧ ∀ e, e ∈ stL js xs → 0 ≤ e ∧ e ≤ 5000 := by
  refine hideC fun K hK => enter_run e_spec_l2Starts (by simp) ?_
  have hjs := hj
  have hus := hu
  obtain ⟨oj, cj, rfl⟩ := hj.shapeT
  obtain ⟨oa, c, rfl⟩ := hu.shapeT
  obtain ⟨vz, h1, mk, H1, hp1, oz, rfl⟩ := make_I (Holds.start (h := h)) (n := js.length) (by omega)
  generalize hX : stL js xs = X at hK
  simp -implicitDefEqProofs [mk]
  refine R_loopO (fun m s h' => ∃ (i : Nat) (now : Int) (S : List Int), i + m = xs.length ∧ s = [(0, .slice oj js.length cj), (1, .slice oa xs.length c), (5, .slice oz js.length js.length), (6, .int .i64 now), (7, .int .i64 i)] ∧
    Holds h h' [.own (.slice oz js.length js.length) 1 (S.map encI)] ∧ X = stGo js (xs.drop i) now S ∧ S.length = js.length ∧ 0 ≤ now ∧ now ≤ 550 * i ∧ ∀ e, e ∈ S → 0 ≤ e ∧ e ≤ 5000) (fun I hI m s h' => ?_) ⟨0, 0, List.replicate js.length 0, Nat.zero_add _, by simp, H1, hX.symm, by simp, by omega, by omega, fun e he => by rw [List.eq_of_mem_replicate he]; omega⟩
  rintro ⟨i, now, S, hi, rfl, H, hx, hS, n0, n1, hSe⟩
  by_cases hlt : i < xs.length
  · obtain ⟨x, hxx, hd⟩ := drop_at hlt
    rw [hd, stGo] at hx
    obtain ⟨k, hk, hkl, hky⟩ := jA_get rfl (hin x (List.mem_of_getElem? hxx))
    have jb := job_of (job_at hg hky)
    generalize hJ : jA js x = y at hx hky jb
    subst hk
    rw [Int.toNat_natCast] at hx
    have lx := load_I (hus.pre H.pre) hxx
    have ly := load_J (hjs.pre H.pre) hky
    obtain ⟨M, hM⟩ : ∃ M, M = max now y.r := ⟨_, rfl⟩
    rw [← hM] at hx
    have lm : ∀ {h : Hp}, Ret P G n_spec_l1Most [.int .i64 now, .int .i64 y.r] h (.int .i64 M) h := fun {h} => by rw [hM]; exact l1Most_run
    have ix := (load_I (H.sees 0 rfl) (gE_get (l := S) (i := k) (by omega))).1
    obtain ⟨h2, s2, H2, _⟩ := put_I H 0 rfl (j := k) (by omega) M
    have lx2 := load_I (hus.pre H2.pre) hxx
    have ly2 := load_J (hjs.pre H2.pre) hky
    have lS := load_I (H2.sees 0 rfl) (i := k) (x := M) (List.getElem?_set_self (by omega))
    have wM : IntKind.i64.wrap (M + y.t) = M + y.t := by rw [wrap_ok] <;> omega
    simp -implicitDefEqProofs [-indexAddrP_some, hlt, lx, ly, CL_ret lm, CH_at lm, ix, s2, lx2, ly2, lS, wM, winc hlt (by omega)]
    refine ⟨m - 1, by omega, on hI ⟨i + 1, M + y.t, S.set k M, by omega, rfl, H2, hx, by rw [List.length_set]; exact hS, by omega, by omega, fun e he => ?_⟩⟩
    rcases List.mem_or_eq_of_mem_set he with g | g
    · exact hSe e g
    · omega
  · rw [List.drop_eq_nil_of_le (by omega), stGo] at hx
    subst hx
    simp -implicitDefEqProofs [hlt]
    exact onK hK ⟨(H.ret 0 rfl).1, (H.ret 0 rfl).2, hSe⟩
theorem l2Ends_run {h : Hp} {v u : Value} {js : List Job} {xs : List Int} (hj : Jobs h v js) (hu : Ints h u xs) (hg : goodL js = true) (hn : js.length ≤ 8) (hl : xs.length ≤ 8) (hin : inN js.length xs) (hnd : xs.Nodup) (hall : ∀ i : Nat, i < js.length → (i : Int) ∈ xs) :
    RunsC P G n_spec_l2Ends [v, u] h fun v' h' => h <+: h' ∧ Own h.length h' v' 1 ((endsL js xs).map encI) ∧ ∀ e, e ∈ endsL js xs → 0 ≤ e ∧ e ≤ 5050 := by
  refine hideC fun K hK => enter_run e_spec_l2Ends (by simp) ?_
  have hjs := hj
  obtain ⟨oj, cj, rfl⟩ := hj.shapeT
  simp -implicitDefEqProofs
  refine CL_post (l2Starts_run hjs hu hg hn hl hin) fun v1 h1 ⟨hp1, ho1, hb1⟩ => ?_
  have H1 := (Holds.start (h := h)).call hp1 ho1
  have hsl : (stL js xs).length = js.length := stL_len
  obtain ⟨o1, c1, rfl⟩ : ∃ a c, v1 = .slice a js.length c := by obtain ⟨a, c, e⟩ := ho1.sees.shapeT; exact ⟨a, c, by rw [e, hsl]⟩
  have heq : ∀ i : Nat, i < js.length → gE (endsL js xs) i = gE (stL js xs) i + (jA js i).t := fun i hi => ends_eq hin hnd hall hi
  have hel : (endsL js xs).length = js.length := endsL_len
  generalize endsL js xs = X at hK heq hel
  generalize stL js xs = S0 at H1 hsl heq hb1
  simp -implicitDefEqProofs
  refine R_loopO (fun m s h' => ∃ (i : Nat) (E : List Int), i + m = js.length ∧ s = [(0, .slice oj js.length cj), (5, .slice o1 js.length c1), (6, .int .i64 i)] ∧ Holds h h' [.own (.slice o1 js.length c1) 1 (E.map encI)] ∧ E.length = js.length ∧
    (∀ k : Nat, k < js.length → gE E k = if k < i then gE X k else gE S0 k)) (fun I hI m s h' => ?_) ⟨0, S0, Nat.zero_add _, by simp, H1, hsl, fun k hk => by rw [if_neg (by omega)]⟩
  rintro ⟨i, E, hi, rfl, H, hE, hk⟩
  have gX : ∀ k : Nat, k < js.length → 0 ≤ gE S0 k ∧ gE S0 k ≤ 5000 := fun k hk => hb1 _ (List.mem_of_getElem? (gE_get (by omega)))
  by_cases hlt : i < js.length
  · obtain ⟨y, hy, _⟩ := drop_at hlt
    have jb := job_of (job_at hg hy)
    have ly := load_J (hjs.pre H.pre) hy
    have e0 : gE E i = gE S0 i := by rw [hk i hlt, if_neg (by omega)]
    have eX : gE X i = gE S0 i + y.t := by
      rw [heq i hlt]
      unfold jA
      rw [Int.toNat_natCast, hy]; rfl
    have lE := load_I (H.sees 0 rfl) (gE_get (l := E) (i := i) (by omega))
    rw [e0] at lE
    have b0 := gX i hlt
    have w1 : IntKind.i64.wrap (gE S0 i + y.t) = gE S0 i + y.t := by rw [wrap_ok] <;> omega
    obtain ⟨h2, s2, H2, _⟩ := put_I H 0 rfl (j := i) (by omega) (gE S0 i + y.t)
    simp -implicitDefEqProofs [-indexAddrP_some, hlt, lE, ly, w1, s2, winc hlt (by omega)]
    refine ⟨m - 1, by omega, on hI ⟨i + 1, _, by omega, rfl, H2, by rw [List.length_set]; exact hE, fun k hkl => ?_⟩⟩
    rw [gE_set (by omega)]
    by_cases g : k = i
    · subst g; rw [if_pos rfl, if_pos (by omega), eX]
    · rw [if_neg g, hk k hkl]
      by_cases g2 : k < i
      · rw [if_pos g2, if_pos (by omega)]
      · rw [if_neg g2, if_neg (by omega)]
  · have hEX : E = X := by
      apply List.ext_getElem?
      intro k
      rcases Nat.lt_or_ge k js.length with g | g
      · have := hk k g
        rw [if_pos (by omega)] at this
        rw [gE_get (by omega), gE_get (by omega), this]
      · rw [List.getElem?_eq_none (by omega), List.getElem?_eq_none (by omega)]
    subst hEX
    simp -implicitDefEqProofs [hlt]
    refine onK hK ⟨(H.ret 0 rfl).1, (H.ret 0 rfl).2, fun e he => ?_⟩
    obtain ⟨k, hk'⟩ := List.getElem?_of_mem he
    have hkl : k < js.length := by rw [← hE]; exact (List.getElem?_eq_some_iff.1 hk').1
    have h1 := heq k hkl
    obtain ⟨y, hy, _⟩ := drop_at hkl
    have jb := job_of (job_at hg hy)
    unfold jA at h1
    rw [Int.toNat_natCast, hy, Option.getD_some] at h1
    have h2 : gE E k = e := by unfold gE; rw [hk']; rfl
    have h3 := gX k hkl
    omega
theorem endsOf_run {h : Hp} {v u : Value} {js : List Job} {xs : List Int} (hj : Jobs h v js) (hu : Ints h u xs) (hg : goodL js = true) (hn : js.length ≤ 8) (hl : xs.length ≤ 8) (hin : inN js.length xs) :
    RunsC P G n_impl_endsOf [v, u] h fun v' h' => h <+: h' ∧ Own h.length h' v' 1 ((endsL js xs).map encI) ∧ ∀ e, e ∈ endsL js xs → 0 ≤ e ∧ e ≤ 5050 := by
  refine hideC fun K hK => enter_run e_impl_endsOf (by simp) ?_
  have hjs := hj
  have hus := hu
  obtain ⟨oj, cj, rfl⟩ := hj.shapeT
  obtain ⟨oa, c, rfl⟩ := hu.shapeT
  obtain ⟨vz, h1, mk, H1, hp1, oz, rfl⟩ := make_I (Holds.start (h := h)) (n := js.length) (by omega)
  generalize hX : endsL js xs = X at hK
  simp -implicitDefEqProofs [mk]
  refine R_loopO (fun m s h' => ∃ (i : Nat) (now : Int) (S : List Int), i + m = xs.length ∧ s = [(0, .slice oj js.length cj), (5, .slice oz js.length js.length), (6, .int .i64 now), (12, .slice oa xs.length c), (13, .int .i64 xs.length), (14, .int .i64 i)] ∧
    Holds h h' [.own (.slice oz js.length js.length) 1 (S.map encI)] ∧ X = endGo js (xs.drop i) now S ∧ S.length = js.length ∧ 0 ≤ now ∧ now ≤ 550 * i ∧ ∀ e, e ∈ S → 0 ≤ e ∧ e ≤ 5050) (fun I hI m s h' => ?_) ⟨0, 0, List.replicate js.length 0, Nat.zero_add _, by simp, H1, hX.symm, by simp, by omega, by omega, fun e he => by rw [List.eq_of_mem_replicate he]; omega⟩
  rintro ⟨i, now, S, hi, rfl, H, hx, hS, n0, n1, hSe⟩
  by_cases hlt : i < xs.length
  · obtain ⟨x, hxx, hd⟩ := drop_at hlt
    rw [hd, endGo] at hx
    obtain ⟨k, hk, hkl, hky⟩ := jA_get rfl (hin x (List.mem_of_getElem? hxx))
    have jb := job_of (job_at hg hky)
    generalize hJ : jA js x = y at hx hky jb
    subst hk
    rw [Int.toNat_natCast] at hx
    have lx := load_I (hus.pre H.pre) hxx
    have ly := load_J (hjs.pre H.pre) hky
    have ix := (load_I (H.sees 0 rfl) (gE_get (l := S) (i := k) (by omega))).1
    obtain ⟨h2, s2, H2, _⟩ := put_I H 0 rfl (j := k) (by omega) (max now y.r + y.t)
    have wM : IntKind.i64.wrap (max now y.r + y.t) = max now y.r + y.t := by rw [wrap_ok] <;> omega
    simp -implicitDefEqProofs [-indexAddrP_some, hlt, lx, ly, foldI, mx_if, wM, ix, s2, winc hlt (by omega)]
    refine ⟨m - 1, by omega, on hI ⟨i + 1, _, _, by omega, rfl, H2, hx, by rw [List.length_set]; exact hS, by omega, by omega, fun e he => ?_⟩⟩
    rcases List.mem_or_eq_of_mem_set he with g | g
    · exact hSe e g
    · omega
  · rw [List.drop_eq_nil_of_le (by omega), endGo] at hx
    subst hx
    simp -implicitDefEqProofs [hlt]
    exact onK hK ⟨(H.ret 0 rfl).1, (H.ret 0 rfl).2, hSe⟩
end Go.Pm.PP

/- The next order of a list, in place. -/
set_option linter.unusedVariables false
set_option linter.unusedSimpArgs false
set_option maxRecDepth 4000
set_option maxHeartbeats 4000000
namespace Go.Pm.PE
theorem next_pre {pre r r' : List Int} (h : nextP r = some r') : nextP (pre ++ r) = some (pre ++ r') := by
  induction pre with
  | nil => exact h
  | cons z pre ih => rw [List.cons_append, nextP, ih]; rfl
/-- A list whose p outermost elements on both sides are turned round. -/
def revP (p : Nat) (t : List Int) : List Int := (List.range t.length).map fun j => if j < p ∨ t.length - p ≤ j then t[t.length - 1 - j]?.getD 0 else t[j]?.getD 0
theorem revP_len {p : Nat} {t : List Int} : (revP p t).length = t.length := by simp [revP]
theorem revP_get {p : Nat} {t : List Int} {j : Nat} (hj : j < t.length) : (revP p t)[j]? = some (if j < p ∨ t.length - p ≤ j then t[t.length - 1 - j]?.getD 0 else t[j]?.getD 0) := by simp [revP, hj]
theorem revP_zero {t : List Int} : revP 0 t = t := by
  apply List.ext_getElem?
  intro j
  rcases Nat.lt_or_ge j t.length with h | h
  · rw [revP_get h, if_neg (by omega), List.getElem?_eq_getElem h]; rfl
  · rw [List.getElem?_eq_none (by rw [revP_len]; omega), List.getElem?_eq_none h]
theorem revP_end {p : Nat} {t : List Int} (h : t.length ≤ 2 * p + 1) : revP p t = t.reverse := by
  apply List.ext_getElem?
  intro j
  rcases Nat.lt_or_ge j t.length with hj | hj
  · rw [revP_get hj, List.getElem?_reverse hj]
    by_cases c : j < p ∨ t.length - p ≤ j
    · rw [if_pos c, List.getElem?_eq_getElem (by omega)]; rfl
    · rw [if_neg c, List.getElem?_eq_getElem hj, show t.length - 1 - j = j by omega, List.getElem?_eq_getElem hj]; rfl
  · rw [List.getElem?_eq_none (by rw [revP_len]; omega), List.getElem?_eq_none (by simpa using hj)]
theorem revP_step {p : Nat} {t : List Int} {x y : Int} (h : 2 * p + 1 < t.length) (hx : t[p]? = some x) (hy : t[t.length - 1 - p]? = some y) : ((revP p t).set p y).set (t.length - 1 - p) x = revP (p + 1) t := by
  apply List.ext_getElem?
  intro j
  rcases Nat.lt_or_ge j t.length with hj | hj
  · rw [revP_get hj, List.getElem?_set]
    by_cases c1 : t.length - 1 - p = j
    · rw [if_pos c1, if_pos (by rw [List.length_set, revP_len]; omega), if_pos (by omega), ← c1, show t.length - 1 - (t.length - 1 - p) = p by omega, hx]; rfl
    · rw [if_neg c1, List.getElem?_set]
      by_cases c2 : p = j
      · rw [if_pos c2, if_pos (by rw [revP_len]; omega), if_pos (by omega), ← c2, hy]; rfl
      · rw [if_neg c2, revP_get hj]
        by_cases c3 : j < p ∨ t.length - p ≤ j
        · rw [if_pos c3, if_pos (by omega)]
        · rw [if_neg c3, if_neg (by omega)]
  · rw [List.getElem?_eq_none (by simp [revP_len]; omega), List.getElem?_eq_none (by rw [revP_len]; omega)]
/-- What the program finds: from the end, the first that is less than the one behind it; the last one greater than this. -/
theorem next_at {xs pre b a : List Int} {x y : Int} (h : xs = pre ++ x :: (a ++ y :: b)) (hd : (a ++ y :: b).Pairwise (· > ·)) (hb : ∀ z, z ∈ b → ¬ x < z) (hy : x < y) : nextP xs = some (pre ++ y :: (a ++ x :: b).reverse) := by
  rw [h]
  refine next_pre ?_
  rw [nextP, desc_next hd, swapL_some hb hy]
end Go.Pm.PE
namespace Go.Pm.PP
open Go.Pm Go.Proofs Go.Pm.PE
theorem keeps_gc {v u : Value} {h h' : Hp} (k : Keeps (rowV v) h h') : Keeps (rowV v) h (gc h h' u) := by
  rcases gc_cases' h h' u with g | ⟨_, g⟩ <;> rw [g]
  · exact k
  · exact .ofPre List.prefix_rfl
theorem nextOrder_run {h0 h : Hp} {v : Value} {xs : List Int} (H0 : Holds h0 h [.own v 1 (xs.map encI)]) (hn : xs.length ≤ 2 ^ 20) (nd : xs.Nodup) :
    RunsC P G n_impl_nextOrder [v] h fun r h' => r = .bool (nextP xs).isSome ∧ Own h0.length h' v 1 (((nextP xs).getD xs).map encI) ∧ Keeps (rowV v) h h' := by
  refine hideC fun K hK => enter_run e_impl_nextOrder (by simp) ?_
  have Hs := H0.sees 0 rfl
  obtain ⟨oa, c, ev⟩ := Hs.shapeT
  subst ev
  have w2 : IntKind.i64.wrap ((xs.length : Int) - 2) = (xs.length : Int) - 2 := by rw [wrap_ok] <;> omega
  have lt_of : ∀ {i j : Nat} {a b : Int}, xs[i]? = some a → xs[j]? = some b → i ≠ j → a ≠ b := fun {i j a b} h1 h2 hne e => by
    subst e
    obtain ⟨g1, e1⟩ := List.getElem?_eq_some_iff.1 h1
    obtain ⟨g2, e2⟩ := List.getElem?_eq_some_iff.1 h2
    exact hne ((List.getElem_inj nd).1 (e1.trans e2.symm))
  simp -implicitDefEqProofs [w2]
  -- from the end
  refine R_loopO (fun m s h' => ((m : Int) ≤ xs.length - 1 ∨ m = 0) ∧ s = [(0, .slice oa xs.length c), (3, .int .i64 (if xs.length = 0 then -2 else (m : Int) - 1))] ∧ h' = h ∧ (xs.drop m).Pairwise (· > ·)) (fun I hI m s h' => ?_) (n := xs.length - 1)
    ⟨by omega, by
      rw [show (if xs.length = 0 then (-2 : Int) else ((xs.length - 1 : Nat) : Int) - 1) = (xs.length : Int) - 2 by split <;> omega]
      simp [w2], rfl, by
      rcases Nat.eq_zero_or_pos xs.length with g | g
      · rw [List.eq_nil_of_length_eq_zero g]; simp
      · obtain ⟨z, hz, hd⟩ := drop_at (show xs.length - 1 < xs.length by omega)
        rw [hd, List.drop_eq_nil_of_le (by omega)]; simp⟩
  rintro ⟨hm, rfl, rfl, hd⟩
  rcases Nat.eq_zero_or_pos m with m0 | m0
  · -- none
    subst m0
    have hnone : nextP xs = none := desc_next (by simpa using hd)
    rw [hnone] at hK
    have i0 : (if xs.length = 0 then (-2 : Int) else ((0 : Nat) : Int) - 1) < 0 := by split <;> omega
    generalize (if xs.length = 0 then (-2 : Int) else ((0 : Nat) : Int) - 1) = iv at i0 ⊢
    have i1 : ¬ 0 ≤ iv := by omega
    simp -implicitDefEqProofs [i0, i1]
    exact onK hK ⟨rfl, H0.own 0 rfl, .ofPre List.prefix_rfl⟩
  · obtain ⟨q, rfl⟩ : ∃ q, m = q + 1 := ⟨m - 1, by omega⟩
    have hql : q + 1 < xs.length := by omega
    rw [if_neg (by omega), show ((q + 1 : Nat) : Int) - 1 = (q : Int) by omega]
    obtain ⟨x, hx, hdx⟩ := drop_at (show q < xs.length by omega)
    obtain ⟨x1, hx1, hdx1⟩ := drop_at hql
    have lx := load_I Hs hx
    have lx1 := load_I Hs hx1
    have q0 : (0 : Int) ≤ (q : Int) := by omega
    have wq := winc (show q < xs.length by omega) (by omega)
    have wd : IntKind.i64.wrap ((q : Int) - 1) = (q : Int) - 1 := by rw [wrap_ok] <;> omega
    rw [show ((q + 1 : Nat) : Int) = (q : Int) + 1 from rfl] at lx1 wq
    by_cases c1 : x1 < x
    · simp -implicitDefEqProofs [-indexAddrP_some, q0, lx, lx1, wq, wd, c1]
      refine ⟨q, by omega, on hI ⟨by omega, ?_, rfl, ?_⟩⟩
      · rw [if_neg (by omega)]
      · rw [hdx]
        refine List.pairwise_cons.2 ⟨fun z hz => ?_, hd⟩
        rw [hdx1] at hz hd
        rcases List.mem_cons.1 hz with rfl | hz
        · exact c1
        · have := (List.pairwise_cons.1 hd).1 z hz; omega
    · have hlt : x < x1 := by have := lt_of hx hx1 (by omega); omega
      have nq0 : ¬ (q : Int) < 0 := by omega
      have w1 : IntKind.i64.wrap ((xs.length : Int) - 1) = (xs.length : Int) - 1 := by rw [wrap_ok] <;> omega
      simp -implicitDefEqProofs [-indexAddrP_some, q0, lx, lx1, wq, c1, nq0, w1]
      -- the last one greater
      refine R_loopO (fun m s h2 => q + 1 ≤ m ∧ m < xs.length ∧ s = [(0, .slice oa xs.length c), (3, .int .i64 q), (4, .int .i64 m)] ∧ h2 = h' ∧ ∀ z, z ∈ xs.drop (m + 1) → ¬ x < z) (fun I2 hI2 m s h2 => ?_) (n := xs.length - 1)
        ⟨by omega, by omega, by simp; omega, rfl, fun z hz => by rw [List.drop_eq_nil_of_le (by omega)] at hz; cases hz⟩
      rintro ⟨hm1, hm2, rfl, rfl, hgt⟩
      obtain ⟨y, hy, hdy⟩ := drop_at hm2
      have ly := load_I Hs hy
      have hne := lt_of hx hy (by omega)
      by_cases c2 : y < x
      · have hmq : q + 1 ≠ m := fun e => by subst e; rw [hx1] at hy; cases hy; omega
        have wm : IntKind.i64.wrap ((m : Int) - 1) = ((m - 1 : Nat) : Int) := by rw [wrap_ok] <;> omega
        simp -implicitDefEqProofs [-indexAddrP_some, lx, ly, c2, wm]
        refine ⟨m - 1, by omega, on hI2 ⟨by omega, by omega, rfl, rfl, fun z hz => ?_⟩⟩
        rw [show m - 1 + 1 = m by omega, hdy] at hz
        rcases List.mem_cons.1 hz with rfl | hz
        · omega
        · exact hgt z hz
      · have hxy : x < y := by omega
        -- the change
        obtain ⟨a, ha⟩ : ∃ a, a = (xs.drop (q + 1)).take (m - (q + 1)) := ⟨_, rfl⟩
        obtain ⟨b, hb⟩ : ∃ b, b = xs.drop (m + 1) := ⟨_, rfl⟩
        have hal : a.length = m - (q + 1) := by rw [ha]; simp; omega
        have e1 : xs.drop (q + 1) = a ++ y :: b := by
          have := List.take_append_drop (m - (q + 1)) (xs.drop (q + 1))
          rw [List.drop_drop, show q + 1 + (m - (q + 1)) = m by omega, hdy] at this
          rw [ha, hb]; exact this.symm
        have e2 : xs = xs.take q ++ x :: (a ++ y :: b) := by
          conv => lhs; rw [← List.take_append_drop q xs, hdx, e1]
        have hres : nextP xs = some (xs.take q ++ y :: (a ++ x :: b).reverse) := next_at e2 (by rw [← e1]; exact hd) (by rw [hb]; exact hgt) hxy
        rw [hres] at hK
        have htq : (xs.take q).length = q := by simp; omega
        have htl : (a ++ x :: b).length = xs.length - (q + 1) := by
          have := congrArg List.length e1
          simp only [List.length_append, List.length_cons, List.length_drop] at this ⊢
          omega
        obtain ⟨h3, s3, H3, k3⟩ := put_I H0 0 rfl (j := q) (by omega) y
        have ixm : indexAddrP P h3 t_S_int (.slice oa xs.length c) (.int .i64 m) = some (.pointer (some (addP (base (.slice oa xs.length c)) m))) := by
          obtain ⟨z, hz, _⟩ := drop_at (show m < (xs.set q y).length by simpa using hm2)
          exact (load_I (H3.sees 0 rfl) hz).1
        obtain ⟨h4, s4, H4, k4⟩ := put_I H3 0 rfl (j := m) (by simpa using hm2) x
        have e3 : (xs.set q y).set m x = xs.take q ++ y :: (a ++ x :: b) := by
          conv => lhs; rw [e2]
          rw [List.set_append_right (h := by omega), htq, Nat.sub_self, List.set_cons_zero, List.set_append_right (h := by omega), htq]
          rw [show m - q = (m - (q + 1)) + 1 by omega, List.set_cons_succ, List.set_append_right (h := by omega), hal, Nat.sub_self, List.set_cons_zero]
        simp only [List.set_cons_zero] at H4
        rw [e3] at H4
        have wm : IntKind.i64.wrap ((xs.length : Int) - 1) = (xs.length : Int) - 1 := by rw [wrap_ok] <;> omega
        simp -implicitDefEqProofs [-indexAddrP_some, lx, ly, c2, s3, ixm, s4, wq, wm]
        -- turning round
        generalize ht : a ++ x :: b = t at hres hK htl H4
        refine R_loopO (fun n s h5 => ∃ p : Nat, 2 * p ≤ t.length + 1 ∧ n = t.length + 1 - 2 * p ∧ s = [(0, .slice oa xs.length c), (5, .int .i64 (q + 1 + p : Nat)), (6, .int .i64 ((xs.length : Int) - 1 - p))] ∧ Keeps (rowV (.slice oa xs.length c)) h2 h5 ∧
          Holds h0 h5 [.own (.slice oa xs.length c) 1 ((xs.take q ++ y :: revP p t).map encI)]) (fun I3 hI3 n s h5 => ?_) (n := t.length + 1)
          ⟨0, by omega, by omega, by simp, k3.trans k4, by rw [revP_zero]; exact H4⟩
        rintro ⟨p, hp, rfl, rfl, k5, H5⟩
        have hrl : (revP p t).length = t.length := revP_len
        by_cases hlt2 : 2 * p + 1 < t.length
        · obtain ⟨u, hu, _⟩ := drop_at (show p < t.length by omega)
          obtain ⟨w, hw, _⟩ := drop_at (show t.length - 1 - p < t.length by omega)
          have gu : (revP p t)[p]? = some u := by rw [revP_get (by omega), if_neg (by omega), hu]; rfl
          have gw : (revP p t)[t.length - 1 - p]? = some w := by rw [revP_get (by omega), if_neg (by omega), hw]; rfl
          have gu' : (xs.take q ++ y :: revP p t)[q + 1 + p]? = some u := by
            rw [List.getElem?_append_right (by omega), htq, show q + 1 + p - q = p + 1 by omega, List.getElem?_cons_succ]; exact gu
          have gw' : (xs.take q ++ y :: revP p t)[q + 1 + (t.length - 1 - p)]? = some w := by
            rw [List.getElem?_append_right (by omega), htq, show q + 1 + (t.length - 1 - p) - q = (t.length - 1 - p) + 1 by omega, List.getElem?_cons_succ]; exact gw
          have lu := load_I (H5.sees 0 rfl) gu'
          have lw := load_I (H5.sees 0 rfl) gw'
          have eb : ((xs.length : Int) - 1 - p) = ((q + 1 + (t.length - 1 - p) : Nat) : Int) := by omega
          rw [eb]
          have hlt3 : ((q + 1 + p : Nat) : Int) < ((q + 1 + (t.length - 1 - p) : Nat) : Int) := by omega
          have hll : (xs.take q ++ y :: revP p t).length = xs.length := by rw [List.length_append, List.length_cons, hrl, htq]; omega
          obtain ⟨h6, s6, H6, k6⟩ := put_I H5 0 rfl (j := q + 1 + p) (by rw [hll]; omega) w
          have ix6 : indexAddrP P h6 t_S_int (.slice oa xs.length c) (.int .i64 (q + 1 + (t.length - 1 - p) : Nat)) = some (.pointer (some (addP (base (.slice oa xs.length c)) (q + 1 + (t.length - 1 - p))))) := by
            obtain ⟨z, hz, _⟩ := drop_at (show q + 1 + (t.length - 1 - p) < ((xs.take q ++ y :: revP p t).set (q + 1 + p) w).length by rw [List.length_set, hll]; omega)
            exact (load_I (H6.sees 0 rfl) hz).1
          obtain ⟨h7, s7, H7, k7⟩ := put_I H6 0 rfl (j := q + 1 + (t.length - 1 - p)) (by rw [List.length_set, hll]; omega) u
          simp only [List.set_cons_zero] at H7
          have e4 : ((xs.take q ++ y :: revP p t).set (q + 1 + p) w).set (q + 1 + (t.length - 1 - p)) u = xs.take q ++ y :: revP (p + 1) t := by
            rw [List.set_append_right (h := by omega), htq, show q + 1 + p - q = p + 1 by omega, List.set_cons_succ, List.set_append_right (h := by omega), htq, show q + 1 + (t.length - 1 - p) - q = (t.length - 1 - p) + 1 by omega, List.set_cons_succ, revP_step hlt2 hu hw]
          rw [e4] at H7
          obtain ⟨A, hA⟩ : ∃ A : Nat, A = q + 1 + p := ⟨_, rfl⟩
          obtain ⟨B, hB⟩ : ∃ B : Nat, B = q + 1 + (t.length - 1 - p) := ⟨_, rfl⟩
          rw [← hA, ← hB] at hlt3
          rw [← hA] at lu s6
          rw [← hB] at lw ix6 s7
          rw [← hA, ← hB]
          have hltN : A < B := by omega
          have wA := winc (show A < xs.length by omega) (by omega)
          have wB : IntKind.i64.wrap ((B : Int) - 1) = (B : Int) - 1 := by rw [wrap_ok] <;> omega
          simp -implicitDefEqProofs [-indexAddrP_some, hltN, lu, lw, s6, ix6, s7, wA, wB]
          refine ⟨t.length + 1 - 2 * (p + 1), by omega, on hI3 ⟨p + 1, by omega, rfl, ?_, k5.trans (k6.trans k7), H7⟩⟩
          simp; omega
        · rw [revP_end (by omega)] at H5
          have hnl : ¬ ((q : Int) + 1 + (p : Int)) < (xs.length : Int) - 1 - p := by omega
          simp -implicitDefEqProofs [hnl]
          refine onK hK ⟨rfl, ?_, keeps_gc k5⟩
          rw [Option.getD_some]
          exact (Holds.gcR H0 H5 rfl).own 0 rfl
end Go.Pm.PP

/- What is seen stands where a box is written; what may be written in a head; numbers up to n. -/
set_option linter.unusedVariables false
set_option linter.unusedSimpArgs false
set_option maxRecDepth 4000
set_option maxHeartbeats 4000000
namespace Go.Pm.PP
open Go.Pm Go.Proofs
theorem Sees.boxK {h h' : Hp} {v : Value} {sz r : Nat} {els : List (List Value)} {cs : List Value} {ro : Bool} (s : Sees h v sz els) (hz : 0 < sz) (hb : h[r]? = some (some ⟨cs, 0, ro⟩)) (k : Keeps (some r) h h') : Sees h' v sz els := by
  refine Go.Pm.Sees.keeps s k fun j hj hv => ?_
  cases hj
  obtain ⟨_, oa, c, rfl, h3⟩ := s
  rcases h3 with ⟨rfl, _, _⟩ | ⟨r', o, x, rfl, h5, h6, _⟩
  · cases hv
  · cases hv
    rw [hb] at h5
    cases h5
    have h7 : (0 : Nat) = sz := h6
    omega
theorem nr_mod {b : Nat} {h h' : Hp} (n : NR b h') (m : NR h.length h') (hp : h.take b <+: h') : modOk b h h' := ⟨m.1, hp, by
  rw [List.all_eq_true]
  intro x hx
  cases x with
  | none => rfl
  | some x =>
    obtain ⟨k, hk⟩ := List.getElem?_of_mem hx
    rw [List.getElem?_drop] at hk
    simp [n.2 _ x (by omega) hk]⟩
theorem nr_self {h : Hp} : NR h.length h := ⟨Nat.le_refl _, fun r x hr hx => by rw [List.getElem?_eq_none hr] at hx; cases hx⟩
theorem app_mod {b : Nat} {h h1 h' : Hp} {t : TypeId} {s x v : Value} (hb : h.length = b) (n : NR b h1) (e : appendP P h1 t s x = some (v, h')) (hp : h <+: h1) (hp' : h <+: h') : modOk b h1 h' :=
  nr_mod (append_nr n e) (append_nr nr_self e) (by
    subst hb
    obtain ⟨l, rfl⟩ := hp
    rw [List.take_left' rfl]
    exact hp')
end Go.Pm.PP
namespace Go.Pm
theorem Holds.one {h0 h : Hp} {L : List Asn} {A : Asn} (H : Holds h0 h L) (i : Nat) (hi : L[i]? = some A) : Holds h0 h [A] :=
  H.sub (fun _ => i) (fun j B hB => by
    match j, hB with
    | 0, hB => cases hB; exact hi
    | j + 1, hB => cases hB) fun j k B C hB hC _ => by
    match j, k, hB, hC with
    | 0, 0, _, _ => rfl
    | j + 1, _, hB, _ => cases hB
    | _, k + 1, _, hC => cases hC
end Go.Pm

/- The best order of jobs: the reference's search. -/
set_option linter.unusedVariables false
set_option linter.unusedSimpArgs false
set_option maxRecDepth 4000
set_option maxHeartbeats 8000000
namespace Go.Pm.PP
open Go.Pm Go.Proofs Go.Pm.PE
/-- What a search has found. -/
structure Sr where
  o : List Int
  v : Int
  c : Int
def valX (o : Int) (js : List Job) (xs : List Int) : Int := valE o js (endsL js xs)
def updS (f : List Int → Int) (b : Sr) (xs : List Int) : Sr := if b.c = 0 ∨ f xs < b.v then ⟨xs, f xs, 1⟩ else if f xs = b.v then ⟨b.o, b.v, w64 (b.c + 1)⟩ else b
theorem Sees.gcU {h0 h : Hp} {v u : Value} {sz : Nat} {els : List (List Value)} (s : Sees h v sz els) (hu : plain u = true → plainC v = true) : Sees (gc h0 h u) v sz els := by
  rcases gc_cases h0 h u with g | ⟨hp, g⟩ <;> rw [g]
  · exact s
  · have hv := hu hp
    obtain ⟨h1, oa, c, rfl, h3⟩ := s
    rcases h3 with ⟨rfl, rfl, rfl⟩ | ⟨r, o, x, rfl, _⟩
    · exact ⟨by simp, none, 0, rfl, .inl ⟨rfl, rfl, rfl⟩⟩
    · cases hv
/-- An order of all jobs. -/
structure Ord (n : Nat) (xs : List Int) : Prop where
  len : xs.length = n
  inn : inN n xs
  nd : xs.Nodup
theorem Ord.all {n : Nat} {xs : List Int} (o : Ord n xs) {i : Nat} (hi : i < n) : (i : Int) ∈ xs :=
  pigeon xs (upTo n) o.nd (fun x hx => mem_upTo.2 (o.inn x hx)) (by rw [upTo_len, o.len]; omega) i (mem_upTo.2 (by omega))
section
variable {h : Hp} {v u : Value} {js : List Job} {xs : List Int} {o : Int}
theorem l2Value_run (hj : Jobs h v js) (hu : Ints h u xs) (hg : goodL js = true) (hn : js.length ≤ 8) (ho : 1 ≤ o ∧ o ≤ 8) (hx : Ord js.length xs) : Ret P G n_spec_l2Value [v, u, .int .i64 o] h (.int .i64 (valX o js xs)) h := by
  refine enter_run e_spec_l2Value (by simp) ?_
  have hjs := hj
  obtain ⟨oj, cj, rfl⟩ := hj.shapeT
  simp -implicitDefEqProofs
  refine CL_post (l2Ends_run hjs hu hg hn (by rw [hx.len]; exact hn) hx.inn hx.nd fun i hi => hx.all hi) fun v1 h1 ⟨hp1, ho1, hb1⟩ => ?_
  have r := l2Of_run (o := o) (hjs.pre hp1) ho1.sees hg hn endsL_len (fun e he => by have := hb1 e he; omega) ho
  simp -implicitDefEqProofs [CL_ret r]
  exact ⟨rfl, gcP hp1 rfl⟩
theorem valueOf_run (hj : Jobs h v js) (hu : Ints h u xs) (hg : goodL js = true) (hn : js.length ≤ 8) (ho : 1 ≤ o ∧ o ≤ 8) (hx : Ord js.length xs) : Ret P G n_impl_valueOf [v, u, .int .i64 o] h (.int .i64 (valX o js xs)) h := by
  refine enter_run e_impl_valueOf (by simp) ?_
  have hjs := hj
  obtain ⟨oj, cj, rfl⟩ := hj.shapeT
  simp -implicitDefEqProofs
  refine CL_post (endsOf_run hjs hu hg hn (by rw [hx.len]; exact hn) hx.inn) fun v1 h1 ⟨hp1, ho1, hb1⟩ => ?_
  have r := valueOfEnds_run (o := o) (hjs.pre hp1) ho1.sees hg hn endsL_len (fun e he => by have := hb1 e he; omega) ho
  simp -implicitDefEqProofs [CL_ret r]
  exact ⟨rfl, gcP hp1 rfl⟩
end
abbrev sv3 (v : Value) (b : Sr) : Value := .agg #[v, .int .i64 b.v, .int .i64 b.c]
theorem plain3 {v : Value} {b : Sr} (hp : plain (sv3 v b) = true) : plainC v = true := by simpa [plain, plainC] using hp
theorem l2Try_run {js : List Job} {o : Int} (hg : goodL js = true) (hn : js.length ≤ 8) (ho : 1 ≤ o ∧ o ≤ 8) : ∀ {k : Nat} {h : Hp} {vj vb vo : Value} {begun : List Int} {b : Sr}, Jobs h vj js → Ints h vb begun → Ints h vo b.o → begun.length + k = js.length → inN js.length begun → begun.Nodup → b.o.length ≤ 8 →
    RunsC P G n_spec_l2Try [vj, vb, .int .i64 o, sv3 vo b] h fun v h' => h <+: h' ∧ (dfs (updS (valX o js)) js.length k begun b).o.length ≤ 8 ∧ ∃ vo', v = sv3 vo' (dfs (updS (valX o js)) js.length k begun b) ∧ Ints h' vo' (dfs (updS (valX o js)) js.length k begun b).o
  | 0, h, vj, vb, vo, begun, b, J, B, O, hk, hin, hnd, hol => by
    refine hideC fun K hK => enter_run e_spec_l2Try (by simp) ?_
    have Js := J
    have Bs := B
    have Os := O
    obtain ⟨oj, cj, rfl⟩ := J.shapeT
    obtain ⟨ob, cb, rfl⟩ : ∃ a c, vb = .slice a js.length c := by obtain ⟨a, c, e⟩ := B.shapeT; exact ⟨a, c, by rw [e]; congr 1⟩
    obtain ⟨od, cd, rfl⟩ := O.shapeT
    have hx : Ord js.length begun := ⟨by omega, hin, hnd⟩
    have hl : begun.length = js.length := hx.len
    have H0 := (Holds.start.alloc [.slice od b.o.length cd, .int .i64 b.v, .int .i64 b.c] (h := h)).alloc [.slice none 0 0, .int .i64 0, .int .i64 0]
    simp only [List.append_assoc, List.cons_append, List.nil_append, List.length_append, List.length_cons, List.length_nil, Nat.zero_add] at H0
    have rv := l2Value_run (o := o) (Js.pre H0.pre) (Bs.pre H0.pre) hg hn ho hx
    rw [dfs] at hK
    obtain ⟨V, hV⟩ : ∃ V, V = valX o js begun := ⟨_, rfl⟩
    rw [← hV] at rv
    by_cases c1 : b.c = 0 ∨ V < b.v
    · have e : updS (valX o js) b begun = ⟨begun, V, 1⟩ := by unfold updS; rw [← hV, if_pos c1]
      rw [e] at hK
      have rest : ∃ m, m = 0 := ⟨0, rfl⟩
      have fin : RunsC P G n_spec_l1Own [.slice ob js.length cb] (h ++ [some ⟨[.slice od b.o.length cd, .int .i64 b.v, .int .i64 b.c], 0, false⟩, some ⟨[.slice none 0 0, .int .i64 0, .int .i64 0], 0, false⟩]) fun v1 h1 => ∃ a n c h2, v1 = .slice a n c ∧ storeP P h1 t_spec_l2Search (sv3 (.slice a n c) ⟨begun, V, 1⟩) (.pointer (some ⟨h.length + 1, 0, some 3⟩)) = some h2 ∧
          loadP P h2 t_spec_l2Search (.pointer (some ⟨h.length + 1, 0, some 3⟩)) = some (sv3 (.slice a n c) ⟨begun, V, 1⟩) ∧ K (sv3 (.slice a n c) ⟨begun, V, 1⟩) (gc h h2 (sv3 (.slice a n c) ⟨begun, V, 1⟩)) := by
        refine RunsC.mono (l1Own_run (Bs.pre H0.pre) (by omega)) fun v1 h1 ⟨hp1, ho1⟩ => ?_
        have H1 := H0.call hp1 ho1
        obtain ⟨a, c, rfl⟩ := ho1.sees.shape
        obtain ⟨h2, s2, H2, _⟩ := H1.set (P := P) 1 (n := 3) (o := 0) (ty := t_spec_l2Search) (w := sv3 (.slice a _ c) ⟨begun, V, 1⟩) rfl rfl e_t_spec_l2Search (by simp) (by simp) (by simp)
        exact ⟨a, _, c, h2, rfl, s2, by simpa using H2.bl (P := P) 1 3 rfl rfl t_spec_l2Search 0, onK hK ⟨pre_gcU H2.pre, by rw [hl]; exact hn, _, rfl, Sees.gcU (H2.sees 2 rfl) plain3⟩⟩
      rcases Classical.em (b.c = 0) with c2 | c2
      · simp -implicitDefEqProofs [CL_ret rv, show (b.c == 0) = true by simpa using c2]
        refine CL_post fin fun v1 h1 ⟨a, n1, c, h2, ev, s2, l2, f2⟩ => ?_
        subst ev
        simp -implicitDefEqProofs [s2, l2]
        exact f2
      · have c3 : V < b.v := by rcases c1 with g | g; exact absurd g c2; exact g
        simp -implicitDefEqProofs [CL_ret rv, nb c2, c3]
        refine CL_post fin fun v1 h1 ⟨a, n1, c, h2, ev, s2, l2, f2⟩ => ?_
        subst ev
        simp -implicitDefEqProofs [s2, l2]
        exact f2
    · have c2 : ¬ b.c = 0 := fun g => c1 (.inl g)
      have c3 : ¬ V < b.v := fun g => c1 (.inr g)
      by_cases c4 : V = b.v
      · have e : updS (valX o js) b begun = ⟨b.o, b.v, w64 (b.c + 1)⟩ := by unfold updS; rw [← hV, if_neg c1, if_pos c4]
        rw [e] at hK
        obtain ⟨h1, s1, H1, k1⟩ := H0.set (P := P) 0 (n := 3) (o := 2) (ty := t_int) (w := .int .i64 (IntKind.i64.wrap (b.c + 1))) rfl rfl e_t_int (by simp) (by simp) (by simp)
        obtain ⟨h2, s2, H2, k2⟩ := H1.set (P := P) 1 (n := 3) (o := 0) (ty := t_spec_l2Search) (w := sv3 (.slice od b.o.length cd) ⟨b.o, b.v, w64 (b.c + 1)⟩) rfl rfl e_t_spec_l2Search (by simp) (by simp) (by simp)
        have s2' : storeP P h1 t_spec_l2Search (.agg #[.slice od b.o.length cd, .int .i64 b.v, .int .i64 (IntKind.i64.wrap (b.c + 1))]) (.pointer (some ⟨h.length + 1, 0, some 3⟩)) = some h2 := s2
        have l1 := H1.bl (P := P) 0 3 rfl rfl
        have l2 := H2.bl (P := P) 1 3 rfl rfl
        have l0 := H0.bl (P := P) 0 3 rfl rfl
        have c4' : (V == b.v) = true := by simpa using c4
        simp -implicitDefEqProofs [-storeP_app0, CL_ret rv, nb c2, c3, c4', s1, l1, s2', l2]
        exact onK hK ⟨pre_gcU H2.pre, hol, _, rfl, Sees.gcU (Os.pre H2.pre) plain3⟩
      · have e : updS (valX o js) b begun = b := by unfold updS; rw [← hV, if_neg c1, if_neg c4]
        rw [e] at hK
        obtain ⟨h2, s2, H2, k2⟩ := H0.set (P := P) 1 (n := 3) (o := 0) (ty := t_spec_l2Search) (w := sv3 (.slice od b.o.length cd) b) rfl rfl e_t_spec_l2Search (by simp) (by simp) (by simp)
        have l2 := H2.bl (P := P) 1 3 rfl rfl
        simp -implicitDefEqProofs [-storeP_app0, CL_ret rv, nb c2, c3, nb c4, s2, l2]
        exact onK hK ⟨pre_gcU H2.pre, hol, _, rfl, Sees.gcU (Os.pre H2.pre) plain3⟩
  | k + 1, h, vj, vb, vo, begun, b, J, B, O, hk, hin, hnd, hol => by
    refine hideC fun K hK => enter_run e_spec_l2Try (by simp) ?_
    have Js := J
    have Bs := B
    have Os := O
    obtain ⟨oj, cj, rfl⟩ := J.shapeT
    obtain ⟨ob, cb, rfl⟩ := B.shapeT
    obtain ⟨od, cd, rfl⟩ := O.shapeT
    have hne : ((begun.length : Int) == (js.length : Int)) = false := nb (by omega)
    have H0 := (Holds.start.alloc [.slice od b.o.length cd, .int .i64 b.v, .int .i64 b.c] (h := h)).alloc [.slice none 0 0, .int .i64 0, .int .i64 0]
    simp only [List.append_assoc, List.cons_append, List.nil_append, List.length_append, List.length_cons, List.length_nil, Nat.zero_add] at H0
    generalize hX : dfs (updS (valX o js)) js.length (k + 1) begun b = X at hK
    rw [dfs] at hX
    have hne' : ¬ begun.length = js.length := by omega
    simp -implicitDefEqProofs [hne, hne']
    refine R_loopO (fun m st h' => ∃ (i : Nat) (b' : Sr) (vo' : Value), i + m = js.length ∧ st = [(0, .slice oj js.length cj), (1, .slice ob begun.length cb), (2, .int .i64 o), (7, .pointer (some ⟨h.length, 0, some 3⟩)), (8, .pointer (some ⟨h.length + 1, 0, some 3⟩)), (10, .int .i64 i)] ∧
      X = (List.range' i m).foldl (fun b (j : Nat) => if begun.any (· == (j : Int)) = true then b else dfs (updS (valX o js)) js.length k (begun ++ [(j : Int)]) b) b' ∧ b'.o.length ≤ 8 ∧ Ints h' vo' b'.o ∧
      Holds h h' [.box h.length [vo', .int .i64 b'.v, .int .i64 b'.c], .box (h.length + 1) [.slice none 0 0, .int .i64 0, .int .i64 0]]) (fun I hI m st h' => ?_) (n := js.length)
      ⟨0, b, .slice od b.o.length cd, Nat.zero_add _, by simp, hX.symm, hol, Os.pre H0.pre, H0⟩
    rintro ⟨i, b', vo', hi, rfl, hx, hbl, O', H⟩
    have Ons := O'
    obtain ⟨oq, cn, rfl⟩ := O'.shapeT
    by_cases hlt : i < js.length
    · obtain ⟨m', rfl⟩ : ∃ m', m = m' + 1 := ⟨m - 1, by omega⟩
      rw [List.range'_succ, List.foldl_cons] at hx
      have rh := l1Has_run (x := (i : Int)) (Bs.pre H.pre) (by omega)
      have wi := winc hlt (show js.length ≤ 2 ^ 40 by omega)
      cases c1 : hasL (i : Int) begun
      · have hx' : X = (List.range' (i + 1) m').foldl (fun b (j : Nat) => if begun.any (· == (j : Int)) = true then b else dfs (updS (valX o js)) js.length k (begun ++ [(j : Int)]) b) (dfs (updS (valX o js)) js.length k (begun ++ [(i : Int)]) b') := by
          rw [hx, show begun.any (· == (i : Int)) = false from c1]; rfl
        have hni : (i : Int) ∉ begun := fun g => by rw [hasL_iff'.2 g] at c1; cases c1
        simp -implicitDefEqProofs [hlt, CL_ret rh, c1]
        refine CG_post (l1Own_run (Bs.pre H.pre) (by omega)).new fun v5 h5 ⟨⟨hp5, ho5⟩, hn5⟩ => ⟨hn5 hp5, ?_⟩
        have H5 : Holds h' h5 [.own v5 1 (begun.map encI)] := (Holds.start (h := h')).call hp5 ho5
        obtain ⟨v6, h6, ha6, H6, k6, _⟩ := push_I0 H5 0 rfl (i : Int) (by omega)
        have H6' : Holds h' h6 [.own v6 1 ((begun ++ [(i : Int)]).map encI)] := H6
        have n6 : NR h'.length (h5 ++ [some ⟨[.int .i64 (i : Int)], 1, false⟩]) := (hn5 hp5).nr.new [.int .i64 (i : Int)] 1
        have md := app_mod (b := h'.length) rfl n6 ha6 (hp5.trans (List.prefix_append ..)) H6'.pre
        have HH6 := H.ext H6'.pre
        have ih := l2Try_run hg hn ho (k := k) (Js.pre HH6.pre) (H6'.sees 0 rfl) (Ons.pre H6'.pre) (by simp; omega) (fun x hx => by
          rcases List.mem_append.1 hx with g | g
          · exact hin x g
          · rw [List.mem_singleton.1 g]; omega) (List.nodup_append.2 ⟨hnd, by simp, fun a ha c hc => by rw [List.mem_singleton.1 hc]; intro e; exact hni (e ▸ ha)⟩) hbl
        obtain ⟨d1, d2, d3, rfl⟩ : ∃ a n c, v5 = .slice a n c := by obtain ⟨a, c, e⟩ := ho5.sees.shape; exact ⟨_, _, _, e⟩
        obtain ⟨e1, e2, e3, rfl⟩ : ∃ a n c, v6 = .slice a n c := by obtain ⟨a, c, e⟩ := (H6'.sees 0 rfl).shape; exact ⟨_, _, _, e⟩
        simp -implicitDefEqProofs [ha6, md, HH6.bl 0 3 rfl rfl]
        refine CL_post ih fun v h7 ⟨hp7, hb7, vo7, ev7, O7⟩ => ?_
        subst ev7
        generalize dfs (updS (valX o js)) js.length k (begun ++ [(i : Int)]) b' = b7 at hx' hb7 O7
        have O7s := O7
        obtain ⟨f1, f2, rfl⟩ := O7.shapeT
        have H7 := HH6.ext hp7
        obtain ⟨h8, s8, H8, k8⟩ := H7.set (P := P) 0 (n := 3) (o := 0) (ty := t_spec_l2Search) (w := sv3 (.slice f1 b7.o.length f2) b7) rfl rfl e_t_spec_l2Search (by simp) (by simp) (by simp)
        have bx := H7.box 0 rfl
        simp -implicitDefEqProofs [s8, wi]
        exact ⟨m', by omega, on hI ⟨i + 1, b7, _, by omega, rfl, hx', hb7, Sees.boxK O7s (by omega) bx k8, by simpa using H8⟩⟩
      · have hx' : X = (List.range' (i + 1) m').foldl (fun b (j : Nat) => if begun.any (· == (j : Int)) = true then b else dfs (updS (valX o js)) js.length k (begun ++ [(j : Int)]) b) b' := by
          rw [hx, show begun.any (· == (i : Int)) = true from c1]; rfl
        simp -implicitDefEqProofs [hlt, CL_ret rh, c1, wi]
        exact ⟨m', by omega, on hI ⟨i + 1, b', _, by omega, rfl, hx', hbl, Ons, H⟩⟩
    · have hm : m = 0 := by omega
      subst hm
      rw [List.range'_zero, List.foldl_nil] at hx
      subst hx
      obtain ⟨h8, s8, H8, k8⟩ := H.set (P := P) 1 (n := 3) (o := 0) (ty := t_spec_l2Search) (w := sv3 (.slice oq X.o.length cn) X) rfl rfl e_t_spec_l2Search (by simp) (by simp) (by simp)
      have bx := H.box 1 rfl
      simp -implicitDefEqProofs [hlt, H.bl 0 3 rfl rfl, s8, H8.bl 1 3 rfl rfl]
      exact onK hK ⟨pre_gcU H8.pre, hbl, _, rfl, Sees.gcU (Sees.boxK Ons (by omega) bx k8) plain3⟩
end Go.Pm.PP
