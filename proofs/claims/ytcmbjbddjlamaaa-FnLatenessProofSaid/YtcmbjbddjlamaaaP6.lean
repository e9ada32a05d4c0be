/- The texts PqA, PlJ, PvA, PvB, PvG, PvV, PvN, PvW, PvX, PvY, Pv1, Pv2, Pv3, Pv4, Pv5, Pv6, Pv7 of this work: Orders of a list, one after the other, in plain terms: the next order of the program is the next one of the reference's list. -/
import Derived.Test.YtcmbjbddjlamaaaM3
import Derived.Test.YtcmbjbddjlamaaaF5
import Derived.Test.YtcmbjbddjlamaaaM4
/- Orders of a list, one after the other, in plain terms: the next order of the program is the next one of the reference's list. -/
set_option linter.unusedVariables false
set_option linter.unusedSimpArgs false
namespace Go.Pm.PE
/-- All orders, by the first element. -/
def perms : List Int → Nat → List (List Int)
  | _, 0 => [[]]
  | l, n + 1 => (List.range' 0 l.length).flatMap fun i => (perms (l.eraseIdx i) n).map ((l[i]?.getD 0) :: ·)
/-- The last element greater than x gives way to x: the element and what there is then. -/
def swapL (x : Int) : List Int → Option (Int × List Int)
  | [] => none
  | y :: r => match swapL x r with
    | some (z, r') => some (z, y :: r')
    | none => if x < y then some (y, x :: r) else none
def nextP : List Int → Option (List Int)
  | [] => none
  | x :: t => match nextP t with
    | some t' => some (x :: t')
    | none => match swapL x t with
      | some (y, t') => some (y :: t'.reverse)
      | none => none
def Asc (l : List Int) : Prop := l.Pairwise (· < ·)
theorem swapL_none {x : Int} : ∀ {l : List Int}, swapL x l = none ↔ ∀ y, y ∈ l → ¬ x < y
  | [] => by simp [swapL]
  | z :: r => by
    rw [swapL]
    cases h : swapL x r with
    | some p =>
      simp only [reduceCtorEq, false_iff]
      intro g
      have : swapL x r = none := swapL_none.2 fun y hy => g y (List.mem_cons_of_mem _ hy)
      rw [h] at this; cases this
    | none =>
      have hr := swapL_none.1 h
      show (if x < z then some (z, x :: r) else none) = none ↔ _
      split
      · rename_i hz
        simp only [reduceCtorEq, false_iff]
        intro g; exact g z (List.mem_cons_self ..) hz
      · rename_i hz
        simp only [true_iff]
        intro y hy
        rcases List.mem_cons.1 hy with rfl | hy
        · exact hz
        · exact hr y hy
theorem swapL_some {x y : Int} {b : List Int} (hb : ∀ z, z ∈ b → ¬ x < z) (hy : x < y) : ∀ {a : List Int}, swapL x (a ++ y :: b) = some (y, a ++ x :: b)
  | [] => by
    rw [List.nil_append, swapL, swapL_none.2 hb, List.nil_append]
    simp [hy]
  | z :: a => by
    rw [List.cons_append, swapL, swapL_some hb hy]
    rfl
theorem desc_next : ∀ {l : List Int}, l.Pairwise (· > ·) → nextP l = none
  | [], _ => rfl
  | x :: t, h => by
    have h := List.pairwise_cons.1 h
    rw [nextP, desc_next h.2, swapL_none.2 fun y hy => by have := h.1 y hy; omega]
theorem asc_rev {l : List Int} (h : Asc l) : l.reverse.Pairwise (· > ·) := by
  rw [List.pairwise_reverse]
  exact h
/-- Each one's next one is the one behind it. -/
def Chn (L : List (List Int)) : Prop := ∀ i p, L[i]? = some p → nextP p = L[i + 1]?
theorem erase_asc {l : List Int} (h : Asc l) (i : Nat) : Asc (l.eraseIdx i) := h.sublist (List.eraseIdx_sublist ..)
/-- From the end of a block to the next one. -/
theorem next_block {l : List Int} (h : Asc l) {i : Nat} {x y : Int} (hx : l[i]? = some x) (hy : l[i + 1]? = some y) : nextP (x :: (l.eraseIdx i).reverse) = some (y :: l.eraseIdx (i + 1)) := by
  obtain ⟨a, b, rfl, rfl⟩ : ∃ a b, l = a ++ x :: y :: b ∧ i = a.length := by
    have h1 := (List.getElem?_eq_some_iff.1 hx).1
    have h2 := (List.getElem?_eq_some_iff.1 hy).1
    refine ⟨l.take i, l.drop (i + 2), ?_, by simp; omega⟩
    have e1 : l.drop i = x :: l.drop (i + 1) := by
      rw [List.drop_eq_getElem_cons h1]; congr 1; exact (List.getElem?_eq_some_iff.1 hx).2
    have e2 : l.drop (i + 1) = y :: l.drop (i + 2) := by
      rw [List.drop_eq_getElem_cons h2]; congr 1; exact (List.getElem?_eq_some_iff.1 hy).2
    rw [← e2, ← e1, List.take_append_drop]
  have e1 : (a ++ x :: y :: b).eraseIdx a.length = a ++ y :: b := by
    rw [List.eraseIdx_append_of_length_le (Nat.le_refl _), Nat.sub_self]; rfl
  have e2 : (a ++ x :: y :: b).eraseIdx (a.length + 1) = a ++ x :: b := by
    rw [List.eraseIdx_append_of_length_le (by omega), Nat.add_sub_cancel_left]; rfl
  rw [e1, e2]
  have hp := List.pairwise_append.1 h
  have hxy := List.pairwise_cons.1 hp.2.1
  have hax : ∀ z, z ∈ a.reverse → ¬ x < z := fun z hz => by
    have := hp.2.2 z (List.mem_reverse.1 hz) x (List.mem_cons_self ..)
    omega
  have hxly : x < y := hxy.1 y (List.mem_cons_self ..)
  have hsub : (a ++ y :: b).Sublist (a ++ x :: y :: b) := List.Sublist.append_left (List.sublist_cons_self ..) a
  have hd : nextP (a ++ y :: b).reverse = none := desc_next (asc_rev (h.sublist hsub))
  rw [nextP, hd]
  have er : (a ++ y :: b).reverse = b.reverse ++ y :: a.reverse := by simp
  rw [er, swapL_some hax hxly]
  simp
theorem flat_get {α β : Type} {f : α → List β} : ∀ {l : List α} {i j : Nat} {x : α} {y : β}, l[i]? = some x → (f x)[j]? = some y → ∃ k, (l.flatMap f)[k]? = some y ∧ ((l.flatMap f)[k + 1]? = match (f x)[j + 1]? with | some z => some z | none => ((l.drop (i + 1)).flatMap f)[0]?)
  | a :: l, 0, j, x, y, h1, h2 => by
    simp at h1; subst h1
    refine ⟨j, ?_, ?_⟩
    · rw [List.flatMap_cons, List.getElem?_append_left (List.getElem?_eq_some_iff.1 h2).1]; exact h2
    · rw [List.flatMap_cons]
      have hj := (List.getElem?_eq_some_iff.1 h2).1
      cases h3 : (f a)[j + 1]? with
      | some z => rw [List.getElem?_append_left (List.getElem?_eq_some_iff.1 h3).1]; exact h3
      | none =>
        have h4 := List.getElem?_eq_none_iff.1 h3
        rw [List.getElem?_append_right h4, show j + 1 - (f a).length = 0 by omega]
        rfl
  | a :: l, i + 1, j, x, y, h1, h2 => by
    obtain ⟨k, h3, h4⟩ := @flat_get α β f l i j x y (by simpa using h1) h2
    refine ⟨(f a).length + k, ?_, ?_⟩
    · rw [List.flatMap_cons, List.getElem?_append_right (by omega), Nat.add_sub_cancel_left]; exact h3
    · rw [List.flatMap_cons, List.getElem?_append_right (by omega), show (f a).length + k + 1 - (f a).length = k + 1 by omega, h4, List.drop_succ_cons]
/-- Where an element of a list of lists, told one after the other, comes from. -/
theorem flat_at {α β : Type} {f : α → List β} : ∀ {l : List α} {k : Nat} {y : β}, (l.flatMap f)[k]? = some y → ∃ i j x, l[i]? = some x ∧ (f x)[j]? = some y ∧ (l.flatMap f)[k + 1]? = match (f x)[j + 1]? with | some z => some z | none => ((l.drop (i + 1)).flatMap f)[0]?
  | [], k, y, h => by simp at h
  | a :: l, k, y, h => by
    rw [List.flatMap_cons] at h
    rcases Nat.lt_or_ge k (f a).length with g | g
    · rw [List.getElem?_append_left g] at h
      refine ⟨0, k, a, rfl, h, ?_⟩
      rw [List.flatMap_cons]
      cases h3 : (f a)[k + 1]? with
      | some z => rw [List.getElem?_append_left (List.getElem?_eq_some_iff.1 h3).1]; exact h3
      | none =>
        have h4 := List.getElem?_eq_none_iff.1 h3
        rw [List.getElem?_append_right h4, show k + 1 - (f a).length = 0 by omega]
        rfl
    · rw [List.getElem?_append_right g] at h
      obtain ⟨i, j, x, h1, h2, h3⟩ := flat_at h
      refine ⟨i + 1, j, x, by simpa using h1, h2, ?_⟩
      rw [List.flatMap_cons, List.getElem?_append_right (by omega), show k + 1 - (f a).length = k - (f a).length + 1 by omega, h3, List.drop_succ_cons]
theorem perms_main : ∀ {n : Nat} {l : List Int}, l.length = n → Asc l → (perms l n)[0]? = some l ∧ Chn (perms l n) ∧ ∀ i p, (perms l n)[i]? = some p → (perms l n)[i + 1]? = none → p = l.reverse
  | 0, l, hn, _ => by
    have : l = [] := List.eq_nil_of_length_eq_zero hn
    subst this
    refine ⟨rfl, fun i p h => ?_, fun i p h _ => ?_⟩
    · match i with
      | 0 => simp [perms] at h; subst h; rfl
      | i + 1 => simp [perms] at h
    · match i with
      | 0 => simp [perms] at h; subst h; rfl
      | i + 1 => simp [perms] at h
  | n + 1, l, hn, ha => by
    have sub : ∀ i, i < l.length → (perms (l.eraseIdx i) n)[0]? = some (l.eraseIdx i) ∧ Chn (perms (l.eraseIdx i) n) ∧ ∀ j p, (perms (l.eraseIdx i) n)[j]? = some p → (perms (l.eraseIdx i) n)[j + 1]? = none → p = (l.eraseIdx i).reverse := fun i hi =>
      perms_main (by rw [List.length_eraseIdx_of_lt hi]; omega) (erase_asc ha i)
    have first : ∀ i, i < l.length → ((List.range' i (l.length - i)).flatMap fun i => (perms (l.eraseIdx i) n).map ((l[i]?.getD 0) :: ·))[0]? = some (l[i]?.getD 0 :: l.eraseIdx i) := fun i hi => by
      rw [show l.length - i = (l.length - (i + 1)) + 1 by omega, List.range'_succ, List.flatMap_cons]
      have h1 := (sub i hi).1
      have h2 : 0 < ((perms (l.eraseIdx i) n).map ((l[i]?.getD 0) :: ·)).length := by rw [List.length_map]; exact (List.getElem?_eq_some_iff.1 h1).1
      rw [List.getElem?_append_left h2, List.getElem?_map, h1]; rfl
    rw [perms]
    refine ⟨?_, fun k p hk => ?_, fun k p hk hk2 => ?_⟩
    · rw [show l.length = l.length - 0 by omega, first 0 (by omega)]
      match l, hn with
      | a :: l, _ => rfl
    · obtain ⟨i, j, x, h1, h2, h3⟩ := flat_at hk
      have hi : i < l.length := by have := (List.getElem?_eq_some_iff.1 h1).1; simpa using this
      have hx : x = i := by rw [List.getElem?_range' hi] at h1; simp at h1; omega
      subst hx
      rw [List.getElem?_map] at h2
      obtain ⟨q, hq, rfl⟩ := Option.map_eq_some_iff.1 h2
      obtain ⟨g1, g2, g3⟩ := sub x hi
      have hnx := g2 j q hq
      rw [h3, List.getElem?_map]
      rw [nextP, hnx]
      cases hq2 : (perms (l.eraseIdx x) n)[j + 1]? with
      | some q' => rfl
      | none =>
        have hrev := g3 j q hq hq2
        subst hrev
        simp only [Option.map_none]
        rw [List.drop_range' , show 0 + (x + 1) * 1 = x + 1 by omega]
        obtain ⟨a, hxa, _⟩ := drop_at hi
        by_cases hlt : x + 1 < l.length
        · obtain ⟨y, hy, _⟩ := drop_at hlt
          rw [first (x + 1) hlt, hy, hxa]
          have := next_block ha hxa hy
          rw [nextP, hnx, hq2] at this
          simpa using this
        · rw [show l.length - (x + 1) = 0 by omega]
          have hd : nextP (a :: (l.eraseIdx x).reverse) = none := by
            refine desc_next (List.pairwise_cons.2 ⟨fun z hz => ?_, asc_rev (erase_asc ha x)⟩)
            have hz := List.mem_reverse.1 hz
            have e : l.eraseIdx x = l.take x := by
              rw [List.eraseIdx_eq_take_drop_succ, List.drop_eq_nil_of_le (by omega), List.append_nil]
            rw [e] at hz
            obtain ⟨m, hm, rfl⟩ := List.mem_take_iff_getElem.1 hz
            have := List.pairwise_iff_getElem.1 ha m x (by omega) hi (by omega)
            rw [(List.getElem?_eq_some_iff.1 hxa).2] at this
            exact this
          rw [nextP, hnx, hq2] at hd
          rw [hxa]
          simpa using hd
    · obtain ⟨i, j, x, h1, h2, h3⟩ := flat_at hk
      have hi : i < l.length := by have := (List.getElem?_eq_some_iff.1 h1).1; simpa using this
      have hx : x = i := by rw [List.getElem?_range' hi] at h1; simp at h1; omega
      subst hx
      rw [List.getElem?_map] at h2
      obtain ⟨q, hq, rfl⟩ := Option.map_eq_some_iff.1 h2
      obtain ⟨g1, g2, g3⟩ := sub x hi
      rw [h3, List.getElem?_map] at hk2
      cases hq2 : (perms (l.eraseIdx x) n)[j + 1]? with
      | some q' => rw [hq2] at hk2; simp at hk2
      | none =>
        rw [hq2] at hk2
        simp only [Option.map_none] at hk2
        rw [List.drop_range', show 0 + (x + 1) * 1 = x + 1 by omega] at hk2
        have hlt : ¬ x + 1 < l.length := fun hlt => by rw [first (x + 1) hlt] at hk2; cases hk2
        have hrev := g3 j q hq hq2
        subst hrev
        obtain ⟨a, hxa, hd⟩ := drop_at hi
        have e : l.eraseIdx x = l.take x := by
          rw [List.eraseIdx_eq_take_drop_succ, List.drop_eq_nil_of_le (by omega), List.append_nil]
        rw [e, hxa, Option.getD_some]
        have : l = l.take x ++ [a] := by
          conv => lhs; rw [← List.take_append_drop x l, hd, List.drop_eq_nil_of_le (by omega)]
        conv => rhs; rw [this]
        simp
end Go.Pm.PE

/- Jobs, ends and values of objectives, in plain terms; searches through all orders. -/
set_option linter.unusedVariables false
set_option linter.unusedSimpArgs false
namespace Go.Pm.PP
open Go.Pm Go.Pm.PE
structure Job where
  t : Int
  w : Int
  r : Int
  d : Int
def jA (js : List Job) (x : Int) : Job := (js[x.toNat]?).getD ⟨0, 0, 0, 0⟩
def gE (l : List Int) (i : Nat) : Int := (l[i]?).getD 0
theorem gE_set {l : List Int} {j i : Nat} {x : Int} (h : j < l.length) : gE (l.set j x) i = if i = j then x else gE l i := by
  unfold gE
  rw [List.getElem?_set]
  by_cases e : j = i
  · subst e; simp [h]
  · rw [if_neg e, if_neg fun g => e g.symm]
theorem gE_get {l : List Int} {i : Nat} (h : i < l.length) : l[i]? = some (gE l i) := by simp [gE, List.getElem?_eq_getElem h]
def endGo (js : List Job) : List Int → Int → List Int → List Int
  | [], _, E => E
  | x :: r, now, E => endGo js r (max now (jA js x).r + (jA js x).t) (E.set x.toNat (max now (jA js x).r + (jA js x).t))
def endsL (js : List Job) (xs : List Int) : List Int := endGo js xs 0 (List.replicate js.length 0)
theorem endGo_len {js : List Job} : ∀ {xs : List Int} {now : Int} {E : List Int}, (endGo js xs now E).length = E.length
  | [], _, _ => rfl
  | x :: r, now, E => by rw [endGo, endGo_len, List.length_set]
theorem endsL_len {js : List Job} {xs : List Int} : (endsL js xs).length = js.length := by rw [endsL, endGo_len, List.length_replicate]
def inN (n : Nat) (xs : List Int) : Prop := ∀ x, x ∈ xs → 0 ≤ x ∧ x < n
/-! ### values -/
def costV (o : Int) (j : Job) (e : Int) : Int := if o = 2 then e else if o = 3 then j.w * e else if o = 5 then max (e - j.d) 0 else if o = 6 then j.w * max (e - j.d) 0 else if max (e - j.d) 0 = 0 then 0 else if o = 7 then 1 else j.w
def stepV (o : Int) (first : Bool) (acc : Int) (j : Job) (e : Int) : Int := if o = 1 then max acc e else if o = 4 then (if first = true then e - j.d else max acc (e - j.d)) else acc + costV o j e
def valGo (o : Int) : Bool → Int → List Job → List Int → Int
  | f, acc, j :: js, e :: es => valGo o false (stepV o f acc j e) js es
  | _, acc, _, _ => acc
def valE (o : Int) (js : List Job) (es : List Int) : Int := valGo o true 0 js es
/-! ### searches -/
def rem (n : Nat) (begun : List Int) : List Int := ((List.range' 0 n).map fun i : Nat => (i : Int)).filter fun x => !begun.any (· == x)
theorem fold_congr {α β : Type} {f g : β → α → β} : ∀ {l : List α} {b : β}, (∀ x, x ∈ l → ∀ b, f b x = g b x) → l.foldl f b = l.foldl g b
  | [], _, _ => rfl
  | x :: l, b, h => by rw [List.foldl_cons, List.foldl_cons, h x (List.mem_cons_self ..)]; exact fold_congr fun y hy => h y (List.mem_cons_of_mem _ hy)
end Go.Pm.PP

/- Jobs, scenarios: what stands in slices. -/
set_option linter.unusedVariables false
set_option linter.unusedSimpArgs false
set_option maxRecDepth 4000
set_option maxHeartbeats 4000000
namespace Go.Pm.PP
open Go.Pm Go.Proofs
attribute [simp] evParts buildSliceP fillP buildP places reps
def encJ (j : Job) : List Value := [.int .i64 j.t, .int .i64 j.w, .int .i64 j.r, .int .i64 j.d]
abbrev jv (j : Job) : Value := .agg #[.int .i64 j.t, .int .i64 j.w, .int .i64 j.r, .int .i64 j.d]
abbrev Jobs (h : Hp) (v : Value) (js : List Job) : Prop := Sees h v 4 (js.map encJ)
def w64 (n : Int) : Int := IntKind.i64.wrap n
abbrev nilV : Value := .slice none 0 0
end Go.Pm.PP

/- Typed rules for slices: printed by a program of this work (wrap.py). -/
set_option linter.unusedVariables false
set_option linter.unusedSimpArgs false
set_option maxRecDepth 4000
namespace Go.Pm.PP
open Go.Pm Go.Proofs
theorem load_I {h : Hp} {v : Value} {xs : List (Int)} {i : Nat} {x : Int} (hv : Sees h v 1 (xs.map encI)) (hx : xs[i]? = some x) :
    indexAddrP P h t_S_int v (.int .i64 i) = some (.pointer (some (addP (base v) (i)))) ∧ loadP P h t_int (.pointer (some (addP (base v) (i)))) = some (.int .i64 x) := by
  have hi := (List.getElem?_eq_some_iff.1 hx).1
  have h1 := hv.indexT (P := P) u_S_int i_int (k := .i64) (j := i) (by omega) (by omega)
  rw [Int.toNat_natCast] at h1
  have h2 := hv.cellT (P := P) (ty := t_int) a_int i_int hx (k := 0) (by omega)
  exact ⟨by simpa using h1, by simpa [encI] using h2⟩
theorem len_I (xs : List (Int)) : ∀ e ∈ xs.map encI, e.length = 1 := by
  intro e he
  obtain ⟨x, _, rfl⟩ := List.mem_map.1 he
  rfl
theorem ones_I (xs : List (Int)) : (xs.map encI).flatten.all one = true := by
  induction xs with
  | nil => rfl
  | cons x xs ih => rw [List.map_cons, List.flatten_cons, List.all_append, ih]; rfl
theorem push_I0 {h0 h : Hp} {L : List Asn} (H : Holds h0 h L) (i : Nat) {v : Value} {xs : List (Int)} (hi : L[i]? = some (.own v 1 (xs.map encI))) (x : Int) (hn : xs.length ≤ 2 ^ 40) :
    ∃ v' h', appendP P (h ++ [some ⟨[.int .i64 x], 1, false⟩]) t_S_int v (.slice (some ⟨h.length, 0, some 1⟩) 1 1) = some (v', h') ∧ Holds h0 h' (L.set i (.own v' 1 ((xs ++ [x]).map encI))) ∧ Keeps (rowV v) h h' ∧ (rowV v = none → newOk (h ++ [some ⟨[.int .i64 x], 1, false⟩]) h') := by
  obtain ⟨v', h', g1, g2, g3, g4⟩ := (H.ext (List.prefix_append h [])).push (P := P) i (y := encI x) (n := 1) hi u_S_int e_t_int z_t_int s_t_int (by omega) (by rw [b_t_int]; omega) rfl rfl (by simp [encI]) (by rw [b_t_int]; simp; omega)
  rw [show xs.map encI ++ [encI x] = (xs ++ [x]).map encI by simp] at g2
  exact ⟨v', h', by simpa [encI] using g1, g2, Keeps.app.trans g3, by simpa [encI] using g4⟩
theorem app_I {h0 h : Hp} {L : List Asn} (H : Holds h0 h L) (i : Nat) {v u : Value} {xs ys : List (Int)} (hi : L[i]? = some (.own v 1 (xs.map encI))) (s : Sees h u 1 (ys.map encI)) (hn : xs.length + ys.length ≤ 2 ^ 40) :
    ∃ v' h', appendP P h t_S_int v u = some (v', h') ∧ Holds h0 h' (L.set i (.own v' 1 ((xs ++ ys).map encI))) ∧ Keeps (rowV v) h h' := by
  obtain ⟨v', h', g1, g2, g3⟩ := H.app (P := P) i hi u_S_int e_t_int z_t_int s_t_int (by omega) (by rw [b_t_int]; omega) s (ones_I ys) (by rw [b_t_int]; simp; omega)
  rw [← List.map_append] at g2
  exact ⟨v', h', g1, g2, g3⟩
theorem put_I {h0 h : Hp} {L : List Asn} (H : Holds h0 h L) (i : Nat) {v : Value} {xs : List (Int)} (hi : L[i]? = some (.own v 1 (xs.map encI))) {j : Nat} (hj : j < xs.length) (x : Int) :
    ∃ h', storeP P h t_int (.int .i64 x) (.pointer (some (addP (base v) (j)))) = some h' ∧ Holds h0 h' (L.set i (.own v 1 ((xs.set j x).map encI))) ∧ Keeps (rowV v) h h' := by
  have := H.put (P := P) i (t := t_int) (w := .int .i64 x) (j := j) hi i_int (by simpa using hj) rfl (by simp)
  simpa [List.map_set, encI] using this
theorem make_I {h0 h : Hp} {L : List Asn} (H : Holds h0 h L) {n : Nat} (hn : n ≤ 2 ^ 40) :
    ∃ v h', makeP P h t_S_int (.int .i64 n) (.int .i64 n) = some (v, h') ∧ Holds h0 h' (L ++ [.own v 1 ((List.replicate n (0 : Int)).map encI)]) ∧ h <+: h' ∧ (∃ oa, v = .slice oa n n) := by
  have mk := make_eq (h := h) u_S_int e_t_int z_t_int rfl (by rw [s_t_int]; omega) (by rw [b_t_int]; omega) (n := n) (by omega) (by rw [b_t_int]; omega)
  rw [s_t_int] at mk
  simp only [Value.cells] at mk
  have hlz : ∀ e ∈ List.replicate n ([.int .i64 0] : List Value), e.length = 1 := fun e he => by rw [List.eq_of_mem_replicate he]; rfl
  refine ⟨_, _, mk, ?_, List.prefix_append .., _, rfl⟩
  have := H.lit (els := List.replicate n ([.int .i64 0] : List Value)) (sz := 1) (n := n * 1) hlz (by simp)
  simpa [encI] using this
theorem load_J {h : Hp} {v : Value} {xs : List (Job)} {i : Nat} {x : Job} (hv : Sees h v 4 (xs.map encJ)) (hx : xs[i]? = some x) :
    indexAddrP P h t_S_impl_Job v (.int .i64 i) = some (.pointer (some (addP (base v) (i * 4)))) ∧ loadP P h t_impl_Job (.pointer (some (addP (base v) (i * 4)))) = some (.agg #[.int .i64 x.t, .int .i64 x.w, .int .i64 x.r, .int .i64 x.d]) ∧
    loadP P h t_int (.pointer (some (addP (addP (base v) (i * 4)) 0))) = some (.int .i64 x.t) ∧
    loadP P h t_int (.pointer (some (addP (addP (base v) (i * 4)) 1))) = some (.int .i64 x.w) ∧
    loadP P h t_int (.pointer (some (addP (addP (base v) (i * 4)) 2))) = some (.int .i64 x.r) ∧
    loadP P h t_int (.pointer (some (addP (addP (base v) (i * 4)) 3))) = some (.int .i64 x.d) := by
  have hi := (List.getElem?_eq_some_iff.1 hx).1
  have h1 := hv.indexT (P := P) u_S_impl_Job i_impl_Job (k := .i64) (j := i) (by omega) (by omega)
  rw [Int.toNat_natCast] at h1
  have fld : ∀ k, k < 4 → loadP P h t_int (.pointer (some (addP (addP (base v) (i * 4)) k))) = (encJ x)[k]? := by
    intro k hk
    have := hv.cellT (P := P) a_int i_int hx hk
    rw [← this]
    simp only [addP, Nat.add_assoc]
  exact ⟨h1, hv.aggT a_impl_Job i_impl_Job hx, fld 0 (by omega), fld 1 (by omega), fld 2 (by omega), fld 3 (by omega)⟩
theorem push_J0 {h0 h : Hp} {L : List Asn} (H : Holds h0 h L) (i : Nat) {v : Value} {xs : List (Job)} (hi : L[i]? = some (.own v 4 (xs.map encJ))) (x : Job) (hn : xs.length ≤ 2 ^ 40) :
    ∃ v' h', appendP P (h ++ [some ⟨[.int .i64 x.t, .int .i64 x.w, .int .i64 x.r, .int .i64 x.d], 4, false⟩]) t_S_impl_Job v (.slice (some ⟨h.length, 0, some 4⟩) 1 1) = some (v', h') ∧ Holds h0 h' (L.set i (.own v' 4 ((xs ++ [x]).map encJ))) ∧ Keeps (rowV v) h h' ∧ (rowV v = none → newOk (h ++ [some ⟨[.int .i64 x.t, .int .i64 x.w, .int .i64 x.r, .int .i64 x.d], 4, false⟩]) h') := by
  obtain ⟨v', h', g1, g2, g3, g4⟩ := (H.ext (List.prefix_append h [])).push (P := P) i (y := encJ x) (n := 4) hi u_S_impl_Job e_t_impl_Job z_t_impl_Job s_t_impl_Job (by omega) (by rw [b_t_impl_Job]; omega) rfl rfl (by simp [encJ]) (by rw [b_t_impl_Job]; simp; omega)
  rw [show xs.map encJ ++ [encJ x] = (xs ++ [x]).map encJ by simp] at g2
  exact ⟨v', h', by simpa [encJ] using g1, g2, Keeps.app.trans g3, by simpa [encJ] using g4⟩
theorem put_J {h0 h : Hp} {L : List Asn} (H : Holds h0 h L) (i : Nat) {v : Value} {xs : List (Job)} (hi : L[i]? = some (.own v 4 (xs.map encJ))) {j : Nat} (hj : j < xs.length) (x : Job) :
    ∃ h', storeP P h t_impl_Job (.agg #[.int .i64 x.t, .int .i64 x.w, .int .i64 x.r, .int .i64 x.d]) (.pointer (some (addP (base v) (j * 4)))) = some h' ∧ Holds h0 h' (L.set i (.own v 4 ((xs.set j x).map encJ))) ∧ Keeps (rowV v) h h' := by
  have := H.put (P := P) i (t := t_impl_Job) (w := .agg #[.int .i64 x.t, .int .i64 x.w, .int .i64 x.r, .int .i64 x.d]) (j := j) hi i_impl_Job (by simpa using hj) rfl (by simp)
  simpa [List.map_set, encJ] using this
theorem fput_J0 {h0 h : Hp} {L : List Asn} (H : Holds h0 h L) (i : Nat) {v : Value} {xs : List (Job)} (hi : L[i]? = some (.own v 4 (xs.map encJ))) {j : Nat} {y : Job} (hy : xs[j]? = some y) (z : Int) :
    ∃ h', storeP P h t_int (.int .i64 z) (.pointer (some (addP (addP (base v) (j * 4)) 0))) = some h' ∧ Holds h0 h' (L.set i (.own v 4 ((xs.set j ({ y with t := z })).map encJ))) ∧ Keeps (rowV v) h h' := by
  have := H.store (P := P) i hi (t := t_int) (w := .int .i64 z) (j := j) (e := encJ y) (l := []) (m := [.int .i64 y.t]) (c := [.int .i64 y.w, .int .i64 y.r, .int .i64 y.d]) e_t_int (by simp [hy]) rfl (by simp) (by simp) (by simp)
  simpa [List.map_set, encJ, addP, Nat.add_assoc] using this
theorem fput_J2 {h0 h : Hp} {L : List Asn} (H : Holds h0 h L) (i : Nat) {v : Value} {xs : List (Job)} (hi : L[i]? = some (.own v 4 (xs.map encJ))) {j : Nat} {y : Job} (hy : xs[j]? = some y) (z : Int) :
    ∃ h', storeP P h t_int (.int .i64 z) (.pointer (some (addP (addP (base v) (j * 4)) 2))) = some h' ∧ Holds h0 h' (L.set i (.own v 4 ((xs.set j ({ y with r := z })).map encJ))) ∧ Keeps (rowV v) h h' := by
  have := H.store (P := P) i hi (t := t_int) (w := .int .i64 z) (j := j) (e := encJ y) (l := [.int .i64 y.t, .int .i64 y.w]) (m := [.int .i64 y.r]) (c := [.int .i64 y.d]) e_t_int (by simp [hy]) rfl (by simp) (by simp) (by simp)
  simpa [List.map_set, encJ, addP, Nat.add_assoc] using this
theorem fput_J3 {h0 h : Hp} {L : List Asn} (H : Holds h0 h L) (i : Nat) {v : Value} {xs : List (Job)} (hi : L[i]? = some (.own v 4 (xs.map encJ))) {j : Nat} {y : Job} (hy : xs[j]? = some y) (z : Int) :
    ∃ h', storeP P h t_int (.int .i64 z) (.pointer (some (addP (addP (base v) (j * 4)) 3))) = some h' ∧ Holds h0 h' (L.set i (.own v 4 ((xs.set j ({ y with d := z })).map encJ))) ∧ Keeps (rowV v) h h' := by
  have := H.store (P := P) i hi (t := t_int) (w := .int .i64 z) (j := j) (e := encJ y) (l := [.int .i64 y.t, .int .i64 y.w, .int .i64 y.r]) (m := [.int .i64 y.d]) (c := []) e_t_int (by simp [hy]) rfl (by simp) (by simp) (by simp)
  simpa [List.map_set, encJ, addP, Nat.add_assoc] using this
end Go.Pm.PP

/- What is asked of jobs and orders; numbers in lists. -/
set_option linter.unusedVariables false
set_option linter.unusedSimpArgs false
set_option maxRecDepth 4000
set_option maxHeartbeats 4000000
namespace Go.Pm.PP
open Go.Pm Go.Proofs
def inB (x a b : Int) : Bool := decide (a ≤ x) && decide (x ≤ b)
def hasL (x : Int) (xs : List Int) : Bool := xs.any (· == x)
theorem l1In_run {h : Hp} {x a b : Int} : Ret P G n_spec_l1In [.int .i64 x, .int .i64 a, .int .i64 b] h (.bool (inB x a b)) h := by
  refine enter_run e_spec_l1In (by simp) ?_
  simp -implicitDefEqProofs
  refine WL_split (fun h => ?_) (fun h => ?_) <;> simp [h, inB]
theorem within_run {h : Hp} {x a b : Int} : Ret P G n_impl_within [.int .i64 x, .int .i64 a, .int .i64 b] h (.bool (inB x a b)) h := by
  refine enter_run e_impl_within (by simp) ?_
  simp -implicitDefEqProofs
  refine WL_split (fun h => ?_) (fun h => ?_) <;> simp [h, inB]
theorem isNumber_run {h : Hp} {i n : Int} : Ret P G n_impl_isNumber [.int .i64 i, .int .i64 n] h (.bool (inB i 0 (w64 (n - 1)))) h := by
  refine enter_run e_impl_isNumber (by simp) ?_
  simp -implicitDefEqProofs [CL_ret within_run, w64]
theorem l1Most_run {h : Hp} {a b : Int} : Ret P G n_spec_l1Most [.int .i64 a, .int .i64 b] h (.int .i64 (max a b)) h := by
  refine enter_run e_spec_l1Most (by simp) ?_
  simp -implicitDefEqProofs
  refine CB_split (fun h => ?_) (fun h => ?_) <;> simp at h <;> simp [h] <;> omega
theorem hasL_cons {x y : Int} {xs : List Int} : hasL x (y :: xs) = ((y == x) || hasL x xs) := rfl
theorem hasL_nil {x : Int} : hasL x [] = false := rfl
theorem has_run {h : Hp} {v : Value} {xs : List Int} {x : Int} (hv : Ints h v xs) (hn : xs.length ≤ 2 ^ 40) :
    Ret P G n_impl_has [v, .int .i64 x] h (.bool (hasL x xs)) h := by
  refine enter_run e_impl_has (by simp) ?_
  obtain ⟨oa, c, rfl⟩ := hv.shapeT
  simp -implicitDefEqProofs
  refine R_loop (fun n s h' => ∃ i : Nat, i + n = xs.length ∧ s = [(1, .int .i64 x), (7, .slice oa xs.length c), (8, .int .i64 xs.length), (9, .int .i64 i)] ∧ h' = h ∧ hasL x xs = hasL x (xs.drop i)) (fun n s h' => ?_) ⟨0, Nat.zero_add _, by simp⟩
  rintro ⟨i, hi, rfl, rfl, hx⟩
  by_cases hlt : i < xs.length
  · obtain ⟨y, hy, hd⟩ := drop_at hlt
    rw [hd, hasL_cons] at hx
    simp -implicitDefEqProofs [hlt, load_I hv hy]
    refine CB_split (fun h => ?_) (fun h => ?_)
    · simp -implicitDefEqProofs [hx, h]
    · rw [h, Bool.false_or] at hx
      simp -implicitDefEqProofs [winc hlt hn]
      exact ⟨n - 1, by omega, i + 1, by omega, rfl, hx⟩
  · rw [List.drop_eq_nil_of_le (by omega), hasL_nil] at hx
    simp -implicitDefEqProofs [hlt, hx]
theorem own_nil {h0 h : Hp} {L : List Asn} (H : Holds h0 h L) (α : Type) (enc : α → List Value) (sz : Nat) : Holds h0 h (L ++ [.own (.slice none 0 0) sz (([] : List α).map enc)]) := H.call List.prefix_rfl (by simpa using Own.nil)
def arGo (n : Int) : List Int → List Int → Bool
  | _, [] => true
  | us, x :: r => inB x 0 (w64 (n - 1)) && !hasL x us && arGo n (us ++ [x]) r
theorem areDifferent_run {h : Hp} {v : Value} {xs : List Int} {n : Int} (hv : Ints h v xs) (hn : xs.length ≤ 2 ^ 40) : Ret P G n_impl_areDifferent [.int .i64 n, v] h (.bool (arGo n [] xs)) h := by
  refine enter_run e_impl_areDifferent (by simp) ?_
  have hvs := hv
  obtain ⟨oa, c, rfl⟩ := hv.shapeT
  simp -implicitDefEqProofs
  refine R_loopO (fun m s h' => ∃ i : Nat, i + m = xs.length ∧ s = [(0, .int .i64 n), (1, .slice oa xs.length c), (7, .slice oa xs.length c), (8, .int .i64 xs.length), (9, .int .i64 i)] ∧ h' = h ∧ arGo n [] xs = arGo n (xs.take i) (xs.drop i)) (fun I hI m s h' => ?_) ⟨0, Nat.zero_add _, by simp, rfl, by simp⟩
  rintro ⟨i, hi, rfl, rfl, hx⟩
  by_cases hlt : i < xs.length
  · obtain ⟨y, hy, hd⟩ := drop_at hlt
    rw [hd, arGo, ← take_succ' hy] at hx
    obtain ⟨v', hs, hu⟩ := hvs.front (P := P) u_S_int i_int (k := .i64) (j := (i : Int)) (by omega) (by simp; omega)
    rw [Int.toNat_natCast, ← List.map_take] at hu
    have rh := has_run (x := y) hu (by simp; omega)
    cases c1 : inB y 0 (w64 (n - 1))
    · rw [c1, Bool.false_and, Bool.false_and] at hx
      simp -implicitDefEqProofs [-indexAddrP_some, hlt, load_I hvs hy, CL_ret isNumber_run, c1, hx]
    · cases c2 : hasL y (xs.take i)
      · rw [c1, c2] at hx
        simp -implicitDefEqProofs [-indexAddrP_some, hlt, load_I hvs hy, CL_ret isNumber_run, c1, hs, CL_ret rh, c2, winc hlt hn]
        exact ⟨m - 1, by omega, on hI ⟨i + 1, by omega, rfl, rfl, by simpa using hx⟩⟩
      · rw [c1, c2] at hx
        simp -implicitDefEqProofs [-indexAddrP_some, hlt, load_I hvs hy, CL_ret isNumber_run, c1, hs, CL_ret rh, c2]
        simpa using hx
  · rw [List.drop_eq_nil_of_le (by omega), arGo] at hx
    simp -implicitDefEqProofs [hlt, hx]
theorem copyInts_run {h : Hp} {v : Value} {xs : List Int} (hv : Ints h v xs) (hn : xs.length ≤ 2 ^ 40) : RunsC P G n_impl_copyInts [v] h fun v' h' => h <+: h' ∧ Own h.length h' v' 1 (xs.map encI) := by
  refine hideC fun K hK => enter_run e_impl_copyInts (by simp) ?_
  have H0 := own_nil (Holds.start (h := h)) Int encI 1
  obtain ⟨v', h', ha, H1, k⟩ := app_I H0 0 rfl hv (by simp; omega)
  simp -implicitDefEqProofs [ha]
  exact onK hK (H1.ret 0 rfl)
theorem isDate_run {h : Hp} {x : Int} : Ret P G n_impl_isDate [.int .i64 x] h (.bool (inB x 0 500)) h := by
  refine enter_run e_impl_isDate (by simp) ?_
  simp -implicitDefEqProofs [CL_ret within_run]
def jobOk (j : Job) : Bool := inB j.t 1 50 && inB j.w 0 50 && inB j.r 0 500 && inB j.d 0 500
theorem jobOk_eq (j : Job) : jobOk j = (inB j.t 1 50 && inB j.w 0 50 && inB j.r 0 500 && inB j.d 0 500) := rfl
theorem l2Job_run {h : Hp} {j : Job} : Ret P G n_spec_l2Job [jv j] h (.bool (jobOk j)) h := by
  refine enter_run e_spec_l2Job (by simp) ?_
  cases h1 : inB j.t 1 50 <;> cases h2 : inB j.w 0 50 <;> cases h3 : inB j.r 0 500 <;> cases h4 : inB j.d 0 500 <;>
    simp -implicitDefEqProofs [CL_ret l1In_run, h1, h2, h3, h4, jobOk]
def goodL (js : List Job) : Bool := js.all jobOk
theorem goodL_cons {j : Job} {js : List Job} : goodL (j :: js) = (jobOk j && goodL js) := rfl
theorem goodL_nil : goodL [] = true := rfl
theorem l2Good_run {h : Hp} {v : Value} {js : List Job} (hv : Jobs h v js) (hn : js.length ≤ 2 ^ 40) :
    Ret P G n_spec_l2Good [v] h (.bool (decide (js.length ≤ 8) && goodL js)) h := by
  refine enter_run e_spec_l2Good (by simp) ?_
  obtain ⟨oa, c, rfl⟩ := hv.shapeT
  simp -implicitDefEqProofs
  refine R_loopO (fun n s h' => ∃ i : Nat, i + n = js.length ∧ s = [(0, .slice oa js.length c), (3, .int .i64 i)] ∧ h' = h ∧ goodL js = goodL (js.drop i)) (fun I hI n s h' => ?_) ⟨0, Nat.zero_add _, by simp⟩
  rintro ⟨i, hi, rfl, rfl, hx⟩
  by_cases hlt : i < js.length
  · obtain ⟨y, hy, hd⟩ := drop_at hlt
    rw [hd, goodL_cons] at hx
    cases c1 : jobOk y
    · rw [c1, Bool.false_and] at hx
      simp -implicitDefEqProofs [-indexAddrP_some, hlt, load_J hv hy, CL_ret l2Job_run, c1, hx]
    · rw [c1, Bool.true_and] at hx
      simp -implicitDefEqProofs [-indexAddrP_some, hlt, load_J hv hy, CL_ret l2Job_run, c1, winc hlt hn]
      exact ⟨n - 1, by omega, on hI ⟨i + 1, by omega, rfl, rfl, hx⟩⟩
  · rw [List.drop_eq_nil_of_le (by omega), goodL_nil] at hx
    simp -implicitDefEqProofs [hlt, hx]
    try omega
theorem IsJobs_run {h : Hp} {v : Value} {js : List Job} (hv : Jobs h v js) (hn : js.length ≤ 2 ^ 40) :
    Ret P G n_impl_IsJobs [v] h (.bool (decide (js.length ≤ 8) && goodL js)) h := by
  refine enter_run e_impl_IsJobs (by simp) ?_
  obtain ⟨oa, c, rfl⟩ := hv.shapeT
  simp -implicitDefEqProofs
  refine CB_split (fun h => ?_) (fun h => ?_)
  · simp at h
    simp -implicitDefEqProofs [show ¬ js.length ≤ 8 by omega]
  · have h8 : js.length ≤ 8 := by simp at h; omega
    simp -implicitDefEqProofs [h8]
    rename_i h0
    refine R_loop (fun n s h' => ∃ i : Nat, i + n = js.length ∧ s = [(8, .slice oa js.length c), (9, .int .i64 js.length), (10, .int .i64 i)] ∧ h0 <+: h' ∧ goodL js = goodL (js.drop i)) (fun n s h' => ?_) ⟨0, Nat.zero_add _, by simp⟩
    rintro ⟨i, hi, rfl, hp, hx⟩
    have hv' := hv.pre hp
    by_cases hlt : i < js.length
    · obtain ⟨y, hy, hd⟩ := drop_at hlt
      rw [hd, goodL_cons, jobOk_eq] at hx
      cases h1 : inB y.t 1 50 <;> cases h2 : inB y.w 0 50 <;> cases h3 : inB y.r 0 500 <;> cases h4 : inB y.d 0 500 <;>
        (rw [h1, h2, h3, h4] at hx; simp -implicitDefEqProofs [-indexAddrP_some, hlt, load_J hv' hy, CL_ret within_run, CL_ret isDate_run, h1, h2, h3, h4, winc hlt hn])
      all_goals first
        | (simp at hx; simp -implicitDefEqProofs [hx, gcB' hp]; done)
        | exact ⟨n - 1, by omega, i + 1, by omega, rfl, hp.trans (List.prefix_append ..), by simpa using hx⟩
    · rw [List.drop_eq_nil_of_le (by omega), goodL_nil] at hx
      simp -implicitDefEqProofs [hlt, hx, gcB hp]
theorem pigeon : ∀ (xs S : List Int), xs.Nodup → (∀ x ∈ xs, x ∈ S) → S.length ≤ xs.length → ∀ y ∈ S, y ∈ xs
  | [], S, _, _, hl, y, hy => by
    have : S = [] := List.eq_nil_of_length_eq_zero (by simpa using hl)
    rw [this] at hy; cases hy
  | a :: xs, S, hnd, hs, hl, y, hy => by
    have hnd := List.nodup_cons.1 hnd
    have ha := hs a (List.mem_cons_self ..)
    by_cases hya : y = a
    · rw [hya]; exact List.mem_cons_self ..
    · refine List.mem_cons_of_mem _ (pigeon xs (S.erase a) hnd.2 (fun x hx => ?_) ?_ y ((List.mem_erase_of_ne hya).2 hy))
      · have hxa : x ≠ a := fun e => hnd.1 (e ▸ hx)
        exact (List.mem_erase_of_ne hxa).2 (hs x (List.mem_cons_of_mem _ hx))
      · rw [List.length_erase_of_mem ha]
        simp only [List.length_cons] at hl
        omega
def upTo (n : Nat) : List Int := (List.range n).map fun i : Nat => (i : Int)
theorem mem_upTo {n : Nat} {x : Int} : x ∈ upTo n ↔ 0 ≤ x ∧ x < n := by
  simp only [upTo, List.mem_map, List.mem_range]
  constructor
  · rintro ⟨i, hi, rfl⟩; omega
  · rintro ⟨h1, h2⟩; exact ⟨x.toNat, by omega, by omega⟩
theorem upTo_nodup (n : Nat) : (upTo n).Nodup := by
  refine List.Pairwise.map _ (fun a b h e => h ?_) List.nodup_range
  omega
theorem upTo_len (n : Nat) : (upTo n).length = n := by simp [upTo]
end Go.Pm.PP

/- Ends and values of objectives, by both. -/
set_option linter.unusedVariables false
set_option linter.unusedSimpArgs false
set_option maxRecDepth 4000
set_option maxHeartbeats 8000000
namespace Go.Pm.PP
open Go.Pm Go.Proofs
theorem mx_if (a b : Int) : (if a < b then b else a) = max a b := by rw [Int.max_def]; split <;> split <;> omega
theorem job_of {j : Job} (h : jobOk j = true) : (1 ≤ j.t ∧ j.t ≤ 50) ∧ (0 ≤ j.w ∧ j.w ≤ 50) ∧ (0 ≤ j.r ∧ j.r ≤ 500) ∧ 0 ≤ j.d ∧ j.d ≤ 500 := by
  simp only [jobOk, inB, Bool.and_eq_true, decide_eq_true_eq] at h
  omega
theorem job_at {js : List Job} (h : goodL js = true) {i : Nat} {y : Job} (hy : js[i]? = some y) : jobOk y = true := List.all_eq_true.1 h y (List.mem_of_getElem? hy)
theorem mul_bd {w e : Int} (h1 : 0 ≤ w) (h2 : w ≤ 50) (h3 : 0 ≤ e) (h4 : e ≤ 2 ^ 21) : 0 ≤ w * e ∧ w * e ≤ 50 * 2 ^ 21 := ⟨Int.mul_nonneg h1 h3, Int.mul_le_mul h2 h4 h3 (by omega)⟩
theorem cost_bd {o : Int} {j : Job} {e : Int} (hj : jobOk j = true) (h1 : 0 ≤ e) (h2 : e ≤ 2 ^ 20) : 0 ≤ costV o j e ∧ costV o j e ≤ 2 ^ 27 := by
  obtain ⟨_, hw, _, hd⟩ := job_of hj
  have m1 := mul_bd hw.1 hw.2 h1 (by omega)
  have m2 := mul_bd hw.1 hw.2 (e := max (e - j.d) 0) (by omega) (by omega)
  unfold costV
  split
  · omega
  split
  · omega
  split
  · omega
  split
  · omega
  split
  · omega
  split <;> omega
theorem add_run {h : Hp} {j : Job} {a e o : Int} {f : Bool} (hj : jobOk j = true) (h1 : 0 ≤ e) (h2 : e ≤ 2 ^ 20) (ho : 1 ≤ o ∧ o ≤ 8) (ha : -(2 ^ 50) ≤ a ∧ a ≤ 2 ^ 50) : Ret P G n_impl_add [.int .i64 a, jv j, .int .i64 e, .int .i64 o, .bool f] h (.int .i64 (stepV o f a j e)) h := by
  refine enter_run e_impl_add (by simp) ?_
  obtain ⟨_, hw, _, hd⟩ := job_of hj
  have m1 := mul_bd hw.1 hw.2 h1 (by omega)
  have m2 := mul_bd hw.1 hw.2 (e := max 0 (e - j.d)) (by omega) (by omega)
  have w1 : IntKind.i64.wrap (e - j.d) = e - j.d := by rw [wrap_ok] <;> omega
  have w2 : IntKind.i64.wrap (j.w * e) = j.w * e := by rw [wrap_ok] <;> omega
  have w3 : IntKind.i64.wrap (j.w * max 0 (e - j.d)) = j.w * max 0 (e - j.d) := by rw [wrap_ok] <;> omega
  have w4 : IntKind.i64.wrap (a + e) = a + e := by rw [wrap_ok] <;> omega
  have w5 : IntKind.i64.wrap (a + j.w * e) = a + j.w * e := by rw [wrap_ok] <;> omega
  have w6 : IntKind.i64.wrap (a + max 0 (e - j.d)) = a + max 0 (e - j.d) := by rw [wrap_ok] <;> omega
  have w7 : IntKind.i64.wrap (a + j.w * max 0 (e - j.d)) = a + j.w * max 0 (e - j.d) := by rw [wrap_ok] <;> omega
  have w8 : IntKind.i64.wrap (a + 1) = a + 1 := by rw [wrap_ok] <;> omega
  have w9 : IntKind.i64.wrap (a + j.w) = a + j.w := by rw [wrap_ok] <;> omega
  have mc : max 0 (e - j.d) = max (e - j.d) 0 := Int.max_comm ..
  rw [mc] at w3 w6 w7
  have hc : o = 1 ∨ o = 2 ∨ o = 3 ∨ o = 4 ∨ o = 5 ∨ o = 6 ∨ o = 7 ∨ o = 8 := by omega
  rcases hc with rfl | rfl | rfl | rfl | rfl | rfl | rfl | rfl
  · simp -implicitDefEqProofs [w1, foldI, mx_if, stepV]
  · simp -implicitDefEqProofs [w1, w4, stepV, costV]
  · simp -implicitDefEqProofs [w1, w2, w5, stepV, costV]
  · cases f <;> simp -implicitDefEqProofs [w1, foldI, mx_if, stepV]
  · simp -implicitDefEqProofs [w1, foldI, mx_if, w6, stepV, costV, mc]
  · simp -implicitDefEqProofs [w1, foldI, mx_if, w3, w7, stepV, costV, mc]
  · by_cases c : e - j.d ≤ 0
    · have c' : max (e - j.d) 0 = 0 := by omega
      simp -implicitDefEqProofs [w1, c, stepV, costV, c']
    · have c' : ¬ max (e - j.d) 0 = 0 := by omega
      simp -implicitDefEqProofs [w1, c, w8, stepV, costV, c']
  · by_cases c : e - j.d ≤ 0
    · have c' : max (e - j.d) 0 = 0 := by omega
      simp -implicitDefEqProofs [w1, c, stepV, costV, c']
    · have c' : ¬ max (e - j.d) 0 = 0 := by omega
      simp -implicitDefEqProofs [w1, c, w9, stepV, costV, c']
theorem step_bd {o : Int} {f : Bool} {a : Int} {j : Job} {e : Int} {B : Int} (hj : jobOk j = true) (h1 : 0 ≤ e) (h2 : e ≤ 2 ^ 20) (ha : -B ≤ a ∧ a ≤ B) (hB : 0 ≤ B) : -(B + 2 ^ 27) ≤ stepV o f a j e ∧ stepV o f a j e ≤ B + 2 ^ 27 := by
  have hc := cost_bd (o := o) hj h1 h2
  obtain ⟨_, _, _, hd⟩ := job_of hj
  unfold stepV
  split
  · omega
  · split
    · split <;> omega
    · omega
theorem val_drop {o : Int} {f : Bool} {a : Int} {js : List Job} {es : List Int} {i : Nat} {y : Job} {e : Int} (hy : js[i]? = some y) (he : es[i]? = some e) : valGo o f a (js.drop i) (es.drop i) = valGo o false (stepV o f a y e) (js.drop (i + 1)) (es.drop (i + 1)) := by
  obtain ⟨y', hy', hd⟩ := drop_at (List.getElem?_eq_some_iff.1 hy).1
  obtain ⟨e', he', hd'⟩ := drop_at (List.getElem?_eq_some_iff.1 he).1
  rw [hy] at hy'; cases hy'
  rw [he] at he'; cases he'
  rw [hd, hd', valGo]
theorem valueOfEnds_run {h : Hp} {v u : Value} {js : List Job} {es : List Int} {o : Int} (hj : Jobs h v js) (hu : Ints h u es) (hg : goodL js = true) (hn : js.length ≤ 8) (hl : es.length = js.length) (he : ∀ e, e ∈ es → 0 ≤ e ∧ e ≤ 2 ^ 20) (ho : 1 ≤ o ∧ o ≤ 8) :
    Ret P G n_impl_valueOfEnds [v, u, .int .i64 o] h (.int .i64 (valE o js es)) h := by
  refine enter_run e_impl_valueOfEnds (by simp) ?_
  have hjs := hj
  have hus := hu
  obtain ⟨oj, cj, rfl⟩ := hj.shapeT
  obtain ⟨oa, c, rfl⟩ := hu.shapeT
  simp -implicitDefEqProofs
  refine R_loopO (fun m s h' => ∃ (i : Nat) (a : Int), i + m = js.length ∧ s = [(1, .slice oa es.length c), (2, .int .i64 o), (7, .int .i64 a), (10, .slice oj js.length cj), (11, .int .i64 js.length), (12, .int .i64 i)] ∧ h <+: h' ∧ valE o js es = valGo o (decide (i = 0)) a (js.drop i) (es.drop i) ∧ -((i : Int) * 2 ^ 27) ≤ a ∧ a ≤ (i : Int) * 2 ^ 27) (fun I hI m s h' => ?_) ⟨0, 0, Nat.zero_add _, by simp, List.prefix_rfl, rfl, by omega, by omega⟩
  rintro ⟨i, a, hi, rfl, hp, hx, ha1, ha2⟩
  by_cases hlt : i < js.length
  · obtain ⟨y, hy, _⟩ := drop_at hlt
    obtain ⟨e, he', _⟩ := drop_at (show i < es.length by omega)
    have hjy := job_at hg hy
    have hey := he e (List.mem_of_getElem? he')
    rw [val_drop hy he'] at hx
    have sb := step_bd (o := o) (f := decide (i = 0)) hjy hey.1 hey.2 ⟨ha1, ha2⟩ (by omega)
    have lj := load_J (hjs.pre hp) hy
    have le := fun l => load_I (hus.pre (hp.trans (List.prefix_append h' l))) he'
    have wi := winc hlt (show js.length ≤ 2 ^ 40 by omega)
    have ra := fun (h : Hp) => add_run (h := h) (a := a) (f := decide (i = 0)) hjy hey.1 hey.2 ho (by omega)
    have hb : ((i : Int) == 0) = decide (i = 0) := by
      by_cases g : i = 0
      · subst g; rfl
      · rw [nb (by omega)]; simp [g]
    simp -implicitDefEqProofs [-indexAddrP_some, hlt, lj, le, hb, CL_ret (ra _), CH_at (ra _), wi]
    exact ⟨m - 1, by omega, on hI ⟨i + 1, _, by omega, rfl, hp.trans (List.prefix_append ..), by simpa using hx, by omega, by omega⟩⟩
  · rw [List.drop_eq_nil_of_le (by omega)] at hx
    have hx' : valE o js es = a := by rw [hx]; simp [valGo]
    simp -implicitDefEqProofs [hlt, hx']
    exact gcP hp rfl
/-! ### ends -/
theorem jA_get {js : List Job} {x : Int} {n : Nat} (hn : n = js.length) (h : 0 ≤ x ∧ x < n) : ∃ k : Nat, x = k ∧ k < js.length ∧ js[k]? = some (jA js x) := by
  obtain ⟨y, hy, _⟩ := drop_at (show x.toNat < js.length by omega)
  exact ⟨x.toNat, by omega, by omega, by rw [hy]; unfold jA; rw [hy]; rfl⟩
theorem endsOf_run {h : Hp} {v u : Value} {js : List Job} {xs : List Int} (hj : Jobs h v js) (hu : Ints h u xs) (hg : goodL js = true) (hn : js.length ≤ 8) (hl : xs.length ≤ 8) (hin : inN js.length xs) :
    RunsC P G n_impl_endsOf [v, u] h fun v' h' => h <+: h' ∧ Own h.length h' v' 1 ((endsL js xs).map encI) ∧ ∀ e, e ∈ endsL js xs → 0 ≤ e ∧ e ≤ 5050 := by
  refine hideC fun K hK => enter_run e_impl_endsOf (by simp) ?_
  have hjs := hj
  have hus := hu
  obtain ⟨oj, cj, rfl⟩ := hj.shapeT
  obtain ⟨oa, c, rfl⟩ := hu.shapeT
  obtain ⟨vz, h1, mk, H1, hp1, oz, rfl⟩ := make_I (Holds.start (h := h)) (n := js.length) (by omega)
  generalize hX : endsL js xs = X at hK
  simp -implicitDefEqProofs [mk]
  refine R_loopO (fun m s h' => ∃ (i : Nat) (now : Int) (S : List Int), i + m = xs.length ∧ s = [(0, .slice oj js.length cj), (5, .slice oz js.length js.length), (6, .int .i64 now), (12, .slice oa xs.length c), (13, .int .i64 xs.length), (14, .int .i64 i)] ∧
    Holds h h' [.own (.slice oz js.length js.length) 1 (S.map encI)] ∧ X = endGo js (xs.drop i) now S ∧ S.length = js.length ∧ 0 ≤ now ∧ now ≤ 550 * i ∧ ∀ e, e ∈ S → 0 ≤ e ∧ e ≤ 5050) (fun I hI m s h' => ?_) ⟨0, 0, List.replicate js.length 0, Nat.zero_add _, by simp, H1, hX.symm, by simp, by omega, by omega, fun e he => by rw [List.eq_of_mem_replicate he]; omega⟩
  rintro ⟨i, now, S, hi, rfl, H, hx, hS, n0, n1, hSe⟩
  by_cases hlt : i < xs.length
  · obtain ⟨x, hxx, hd⟩ := drop_at hlt
    rw [hd, endGo] at hx
    obtain ⟨k, hk, hkl, hky⟩ := jA_get rfl (hin x (List.mem_of_getElem? hxx))
    have jb := job_of (job_at hg hky)
    generalize hJ : jA js x = y at hx hky jb
    subst hk
    rw [Int.toNat_natCast] at hx
    have lx := load_I (hus.pre H.pre) hxx
    have ly := load_J (hjs.pre H.pre) hky
    have ix := (load_I (H.sees 0 rfl) (gE_get (l := S) (i := k) (by omega))).1
    obtain ⟨h2, s2, H2, _⟩ := put_I H 0 rfl (j := k) (by omega) (max now y.r + y.t)
    have wM : IntKind.i64.wrap (max now y.r + y.t) = max now y.r + y.t := by rw [wrap_ok] <;> omega
    simp -implicitDefEqProofs [-indexAddrP_some, hlt, lx, ly, foldI, mx_if, wM, ix, s2, winc hlt (by omega)]
    refine ⟨m - 1, by omega, on hI ⟨i + 1, _, _, by omega, rfl, H2, hx, by rw [List.length_set]; exact hS, by omega, by omega, fun e he => ?_⟩⟩
    rcases List.mem_or_eq_of_mem_set he with g | g
    · exact hSe e g
    · omega
  · rw [List.drop_eq_nil_of_le (by omega), endGo] at hx
    subst hx
    simp -implicitDefEqProofs [hlt]
    exact onK hK ⟨(H.ret 0 rfl).1, (H.ret 0 rfl).2, hSe⟩
end Go.Pm.PP

/- The next order of a list, in place. -/
set_option linter.unusedVariables false
set_option linter.unusedSimpArgs false
set_option maxRecDepth 4000
set_option maxHeartbeats 4000000
namespace Go.Pm.PE
theorem next_pre {pre r r' : List Int} (h : nextP r = some r') : nextP (pre ++ r) = some (pre ++ r') := by
  induction pre with
  | nil => exact h
  | cons z pre ih => rw [List.cons_append, nextP, ih]; rfl
/-- A list whose p outermost elements on both sides are turned round. -/
def revP (p : Nat) (t : List Int) : List Int := (List.range t.length).map fun j => if j < p ∨ t.length - p ≤ j then t[t.length - 1 - j]?.getD 0 else t[j]?.getD 0
theorem revP_len {p : Nat} {t : List Int} : (revP p t).length = t.length := by simp [revP]
theorem revP_get {p : Nat} {t : List Int} {j : Nat} (hj : j < t.length) : (revP p t)[j]? = some (if j < p ∨ t.length - p ≤ j then t[t.length - 1 - j]?.getD 0 else t[j]?.getD 0) := by simp [revP, hj]
theorem revP_zero {t : List Int} : revP 0 t = t := by
  apply List.ext_getElem?
  intro j
  rcases Nat.lt_or_ge j t.length with h | h
  · rw [revP_get h, if_neg (by omega), List.getElem?_eq_getElem h]; rfl
  · rw [List.getElem?_eq_none (by rw [revP_len]; omega), List.getElem?_eq_none h]
theorem revP_end {p : Nat} {t : List Int} (h : t.length ≤ 2 * p + 1) : revP p t = t.reverse := by
  apply List.ext_getElem?
  intro j
  rcases Nat.lt_or_ge j t.length with hj | hj
  · rw [revP_get hj, List.getElem?_reverse hj]
    by_cases c : j < p ∨ t.length - p ≤ j
    · rw [if_pos c, List.getElem?_eq_getElem (by omega)]; rfl
    · rw [if_neg c, List.getElem?_eq_getElem hj, show t.length - 1 - j = j by omega, List.getElem?_eq_getElem hj]; rfl
  · rw [List.getElem?_eq_none (by rw [revP_len]; omega), List.getElem?_eq_none (by simpa using hj)]
theorem revP_step {p : Nat} {t : List Int} {x y : Int} (h : 2 * p + 1 < t.length) (hx : t[p]? = some x) (hy : t[t.length - 1 - p]? = some y) : ((revP p t).set p y).set (t.length - 1 - p) x = revP (p + 1) t := by
  apply List.ext_getElem?
  intro j
  rcases Nat.lt_or_ge j t.length with hj | hj
  · rw [revP_get hj, List.getElem?_set]
    by_cases c1 : t.length - 1 - p = j
    · rw [if_pos c1, if_pos (by rw [List.length_set, revP_len]; omega), if_pos (by omega), ← c1, show t.length - 1 - (t.length - 1 - p) = p by omega, hx]; rfl
    · rw [if_neg c1, List.getElem?_set]
      by_cases c2 : p = j
      · rw [if_pos c2, if_pos (by rw [revP_len]; omega), if_pos (by omega), ← c2, hy]; rfl
      · rw [if_neg c2, revP_get hj]
        by_cases c3 : j < p ∨ t.length - p ≤ j
        · rw [if_pos c3, if_pos (by omega)]
        · rw [if_neg c3, if_neg (by omega)]
  · rw [List.getElem?_eq_none (by simp [revP_len]; omega), List.getElem?_eq_none (by rw [revP_len]; omega)]
/-- What the program finds: from the end, the first that is less than the one behind it; the last one greater than this. -/
theorem next_at {xs pre b a : List Int} {x y : Int} (h : xs = pre ++ x :: (a ++ y :: b)) (hd : (a ++ y :: b).Pairwise (· > ·)) (hb : ∀ z, z ∈ b → ¬ x < z) (hy : x < y) : nextP xs = some (pre ++ y :: (a ++ x :: b).reverse) := by
  rw [h]
  refine next_pre ?_
  rw [nextP, desc_next hd, swapL_some hb hy]
end Go.Pm.PE
namespace Go.Pm.PP
open Go.Pm Go.Proofs Go.Pm.PE
theorem keeps_gc {v u : Value} {h h' : Hp} (k : Keeps (rowV v) h h') : Keeps (rowV v) h (gc h h' u) := by
  rcases gc_cases' h h' u with g | ⟨_, g⟩ <;> rw [g]
  · exact k
  · exact .ofPre List.prefix_rfl
theorem nextOrder_run {h0 h : Hp} {v : Value} {xs : List Int} (H0 : Holds h0 h [.own v 1 (xs.map encI)]) (hn : xs.length ≤ 2 ^ 20) (nd : xs.Nodup) :
    RunsC P G n_impl_nextOrder [v] h fun r h' => r = .bool (nextP xs).isSome ∧ Own h0.length h' v 1 (((nextP xs).getD xs).map encI) ∧ Keeps (rowV v) h h' := by
  refine hideC fun K hK => enter_run e_impl_nextOrder (by simp) ?_
  have Hs := H0.sees 0 rfl
  obtain ⟨oa, c, ev⟩ := Hs.shapeT
  subst ev
  have w2 : IntKind.i64.wrap ((xs.length : Int) - 2) = (xs.length : Int) - 2 := by rw [wrap_ok] <;> omega
  have lt_of : ∀ {i j : Nat} {a b : Int}, xs[i]? = some a → xs[j]? = some b → i ≠ j → a ≠ b := fun {i j a b} h1 h2 hne e => by
    subst e
    obtain ⟨g1, e1⟩ := List.getElem?_eq_some_iff.1 h1
    obtain ⟨g2, e2⟩ := List.getElem?_eq_some_iff.1 h2
    exact hne ((List.getElem_inj nd).1 (e1.trans e2.symm))
  simp -implicitDefEqProofs [w2]
  -- from the end
  refine R_loopO (fun m s h' => ((m : Int) ≤ xs.length - 1 ∨ m = 0) ∧ s = [(0, .slice oa xs.length c), (3, .int .i64 (if xs.length = 0 then -2 else (m : Int) - 1))] ∧ h' = h ∧ (xs.drop m).Pairwise (· > ·)) (fun I hI m s h' => ?_) (n := xs.length - 1)
    ⟨by omega, by
      rw [show (if xs.length = 0 then (-2 : Int) else ((xs.length - 1 : Nat) : Int) - 1) = (xs.length : Int) - 2 by split <;> omega]
      simp [w2], rfl, by
      rcases Nat.eq_zero_or_pos xs.length with g | g
      · rw [List.eq_nil_of_length_eq_zero g]; simp
      · obtain ⟨z, hz, hd⟩ := drop_at (show xs.length - 1 < xs.length by omega)
        rw [hd, List.drop_eq_nil_of_le (by omega)]; simp⟩
  rintro ⟨hm, rfl, rfl, hd⟩
  rcases Nat.eq_zero_or_pos m with m0 | m0
  · -- none
    subst m0
    have hnone : nextP xs = none := desc_next (by simpa using hd)
    rw [hnone] at hK
    have i0 : (if xs.length = 0 then (-2 : Int) else ((0 : Nat) : Int) - 1) < 0 := by split <;> omega
    generalize (if xs.length = 0 then (-2 : Int) else ((0 : Nat) : Int) - 1) = iv at i0 ⊢
    have i1 : ¬ 0 ≤ iv := by omega
    simp -implicitDefEqProofs [i0, i1]
    exact onK hK ⟨rfl, H0.own 0 rfl, .ofPre List.prefix_rfl⟩
  · obtain ⟨q, rfl⟩ : ∃ q, m = q + 1 := ⟨m - 1, by omega⟩
    have hql : q + 1 < xs.length := by omega
    rw [if_neg (by omega), show ((q + 1 : Nat) : Int) - 1 = (q : Int) by omega]
    obtain ⟨x, hx, hdx⟩ := drop_at (show q < xs.length by omega)
    obtain ⟨x1, hx1, hdx1⟩ := drop_at hql
    have lx := load_I Hs hx
    have lx1 := load_I Hs hx1
    have q0 : (0 : Int) ≤ (q : Int) := by omega
    have wq := winc (show q < xs.length by omega) (by omega)
    have wd : IntKind.i64.wrap ((q : Int) - 1) = (q : Int) - 1 := by rw [wrap_ok] <;> omega
    rw [show ((q + 1 : Nat) : Int) = (q : Int) + 1 from rfl] at lx1 wq
    by_cases c1 : x1 < x
    · simp -implicitDefEqProofs [-indexAddrP_some, q0, lx, lx1, wq, wd, c1]
      refine ⟨q, by omega, on hI ⟨by omega, ?_, rfl, ?_⟩⟩
      · rw [if_neg (by omega)]
      · rw [hdx]
        refine List.pairwise_cons.2 ⟨fun z hz => ?_, hd⟩
        rw [hdx1] at hz hd
        rcases List.mem_cons.1 hz with rfl | hz
        · exact c1
        · have := (List.pairwise_cons.1 hd).1 z hz; omega
    · have hlt : x < x1 := by have := lt_of hx hx1 (by omega); omega
      have nq0 : ¬ (q : Int) < 0 := by omega
      have w1 : IntKind.i64.wrap ((xs.length : Int) - 1) = (xs.length : Int) - 1 := by rw [wrap_ok] <;> omega
      simp -implicitDefEqProofs [-indexAddrP_some, q0, lx, lx1, wq, c1, nq0, w1]
      -- the last one greater
      refine R_loopO (fun m s h2 => q + 1 ≤ m ∧ m < xs.length ∧ s = [(0, .slice oa xs.length c), (3, .int .i64 q), (4, .int .i64 m)] ∧ h2 = h' ∧ ∀ z, z ∈ xs.drop (m + 1) → ¬ x < z) (fun I2 hI2 m s h2 => ?_) (n := xs.length - 1)
        ⟨by omega, by omega, by simp; omega, rfl, fun z hz => by rw [List.drop_eq_nil_of_le (by omega)] at hz; cases hz⟩
      rintro ⟨hm1, hm2, rfl, rfl, hgt⟩
      obtain ⟨y, hy, hdy⟩ := drop_at hm2
      have ly := load_I Hs hy
      have hne := lt_of hx hy (by omega)
      by_cases c2 : y < x
      · have hmq : q + 1 ≠ m := fun e => by subst e; rw [hx1] at hy; cases hy; omega
        have wm : IntKind.i64.wrap ((m : Int) - 1) = ((m - 1 : Nat) : Int) := by rw [wrap_ok] <;> omega
        simp -implicitDefEqProofs [-indexAddrP_some, lx, ly, c2, wm]
        refine ⟨m - 1, by omega, on hI2 ⟨by omega, by omega, rfl, rfl, fun z hz => ?_⟩⟩
        rw [show m - 1 + 1 = m by omega, hdy] at hz
        rcases List.mem_cons.1 hz with rfl | hz
        · omega
        · exact hgt z hz
      · have hxy : x < y := by omega
        -- the change
        obtain ⟨a, ha⟩ : ∃ a, a = (xs.drop (q + 1)).take (m - (q + 1)) := ⟨_, rfl⟩
        obtain ⟨b, hb⟩ : ∃ b, b = xs.drop (m + 1) := ⟨_, rfl⟩
        have hal : a.length = m - (q + 1) := by rw [ha]; simp; omega
        have e1 : xs.drop (q + 1) = a ++ y :: b := by
          have := List.take_append_drop (m - (q + 1)) (xs.drop (q + 1))
          rw [List.drop_drop, show q + 1 + (m - (q + 1)) = m by omega, hdy] at this
          rw [ha, hb]; exact this.symm
        have e2 : xs = xs.take q ++ x :: (a ++ y :: b) := by
          conv => lhs; rw [← List.take_append_drop q xs, hdx, e1]
        have hres : nextP xs = some (xs.take q ++ y :: (a ++ x :: b).reverse) := next_at e2 (by rw [← e1]; exact hd) (by rw [hb]; exact hgt) hxy
        rw [hres] at hK
        have htq : (xs.take q).length = q := by simp; omega
        have htl : (a ++ x :: b).length = xs.length - (q + 1) := by
          have := congrArg List.length e1
          simp only [List.length_append, List.length_cons, List.length_drop] at this ⊢
          omega
        obtain ⟨h3, s3, H3, k3⟩ := put_I H0 0 rfl (j := q) (by omega) y
        have ixm : indexAddrP P h3 t_S_int (.slice oa xs.length c) (.int .i64 m) = some (.pointer (some (addP (base (.slice oa xs.length c)) m))) := by
          obtain ⟨z, hz, _⟩ := drop_at (show m < (xs.set q y).length by simpa using hm2)
          exact (load_I (H3.sees 0 rfl) hz).1
        obtain ⟨h4, s4, H4, k4⟩ := put_I H3 0 rfl (j := m) (by simpa using hm2) x
        have e3 : (xs.set q y).set m x = xs.take q ++ y :: (a ++ x :: b) := by
          conv => lhs; rw [e2]
          rw [List.set_append_right (h := by omega), htq, Nat.sub_self, List.set_cons_zero, List.set_append_right (h := by omega), htq]
          rw [show m - q = (m - (q + 1)) + 1 by omega, List.set_cons_succ, List.set_append_right (h := by omega), hal, Nat.sub_self, List.set_cons_zero]
        simp only [List.set_cons_zero] at H4
        rw [e3] at H4
        have wm : IntKind.i64.wrap ((xs.length : Int) - 1) = (xs.length : Int) - 1 := by rw [wrap_ok] <;> omega
        simp -implicitDefEqProofs [-indexAddrP_some, lx, ly, c2, s3, ixm, s4, wq, wm]
        -- turning round
        generalize ht : a ++ x :: b = t at hres hK htl H4
        refine R_loopO (fun n s h5 => ∃ p : Nat, 2 * p ≤ t.length + 1 ∧ n = t.length + 1 - 2 * p ∧ s = [(0, .slice oa xs.length c), (5, .int .i64 (q + 1 + p : Nat)), (6, .int .i64 ((xs.length : Int) - 1 - p))] ∧ Keeps (rowV (.slice oa xs.length c)) h2 h5 ∧
          Holds h0 h5 [.own (.slice oa xs.length c) 1 ((xs.take q ++ y :: revP p t).map encI)]) (fun I3 hI3 n s h5 => ?_) (n := t.length + 1)
          ⟨0, by omega, by omega, by simp, k3.trans k4, by rw [revP_zero]; exact H4⟩
        rintro ⟨p, hp, rfl, rfl, k5, H5⟩
        have hrl : (revP p t).length = t.length := revP_len
        by_cases hlt2 : 2 * p + 1 < t.length
        · obtain ⟨u, hu, _⟩ := drop_at (show p < t.length by omega)
          obtain ⟨w, hw, _⟩ := drop_at (show t.length - 1 - p < t.length by omega)
          have gu : (revP p t)[p]? = some u := by rw [revP_get (by omega), if_neg (by omega), hu]; rfl
          have gw : (revP p t)[t.length - 1 - p]? = some w := by rw [revP_get (by omega), if_neg (by omega), hw]; rfl
          have gu' : (xs.take q ++ y :: revP p t)[q + 1 + p]? = some u := by
            rw [List.getElem?_append_right (by omega), htq, show q + 1 + p - q = p + 1 by omega, List.getElem?_cons_succ]; exact gu
          have gw' : (xs.take q ++ y :: revP p t)[q + 1 + (t.length - 1 - p)]? = some w := by
            rw [List.getElem?_append_right (by omega), htq, show q + 1 + (t.length - 1 - p) - q = (t.length - 1 - p) + 1 by omega, List.getElem?_cons_succ]; exact gw
          have lu := load_I (H5.sees 0 rfl) gu'
          have lw := load_I (H5.sees 0 rfl) gw'
          have eb : ((xs.length : Int) - 1 - p) = ((q + 1 + (t.length - 1 - p) : Nat) : Int) := by omega
          rw [eb]
          have hlt3 : ((q + 1 + p : Nat) : Int) < ((q + 1 + (t.length - 1 - p) : Nat) : Int) := by omega
          have hll : (xs.take q ++ y :: revP p t).length = xs.length := by rw [List.length_append, List.length_cons, hrl, htq]; omega
          obtain ⟨h6, s6, H6, k6⟩ := put_I H5 0 rfl (j := q + 1 + p) (by rw [hll]; omega) w
          have ix6 : indexAddrP P h6 t_S_int (.slice oa xs.length c) (.int .i64 (q + 1 + (t.length - 1 - p) : Nat)) = some (.pointer (some (addP (base (.slice oa xs.length c)) (q + 1 + (t.length - 1 - p))))) := by
            obtain ⟨z, hz, _⟩ := drop_at (show q + 1 + (t.length - 1 - p) < ((xs.take q ++ y :: revP p t).set (q + 1 + p) w).length by rw [List.length_set, hll]; omega)
            exact (load_I (H6.sees 0 rfl) hz).1
          obtain ⟨h7, s7, H7, k7⟩ := put_I H6 0 rfl (j := q + 1 + (t.length - 1 - p)) (by rw [List.length_set, hll]; omega) u
          simp only [List.set_cons_zero] at H7
          have e4 : ((xs.take q ++ y :: revP p t).set (q + 1 + p) w).set (q + 1 + (t.length - 1 - p)) u = xs.take q ++ y :: revP (p + 1) t := by
            rw [List.set_append_right (h := by omega), htq, show q + 1 + p - q = p + 1 by omega, List.set_cons_succ, List.set_append_right (h := by omega), htq, show q + 1 + (t.length - 1 - p) - q = (t.length - 1 - p) + 1 by omega, List.set_cons_succ, revP_step hlt2 hu hw]
          rw [e4] at H7
          obtain ⟨A, hA⟩ : ∃ A : Nat, A = q + 1 + p := ⟨_, rfl⟩
          obtain ⟨B, hB⟩ : ∃ B : Nat, B = q + 1 + (t.length - 1 - p) := ⟨_, rfl⟩
          rw [← hA, ← hB] at hlt3
          rw [← hA] at lu s6
          rw [← hB] at lw ix6 s7
          rw [← hA, ← hB]
          have hltN : A < B := by omega
          have wA := winc (show A < xs.length by omega) (by omega)
          have wB : IntKind.i64.wrap ((B : Int) - 1) = (B : Int) - 1 := by rw [wrap_ok] <;> omega
          simp -implicitDefEqProofs [-indexAddrP_some, hltN, lu, lw, s6, ix6, s7, wA, wB]
          refine ⟨t.length + 1 - 2 * (p + 1), by omega, on hI3 ⟨p + 1, by omega, rfl, ?_, k5.trans (k6.trans k7), H7⟩⟩
          simp; omega
        · rw [revP_end (by omega)] at H5
          have hnl : ¬ ((q : Int) + 1 + (p : Int)) < (xs.length : Int) - 1 - p := by omega
          simp -implicitDefEqProofs [hnl]
          refine onK hK ⟨rfl, ?_, keeps_gc k5⟩
          rw [Option.getD_some]
          exact (Holds.gcR H0 H5 rfl).own 0 rfl
end Go.Pm.PP

/- What is seen stands where a box is written; what may be written in a head; numbers up to n. -/
set_option linter.unusedVariables false
set_option linter.unusedSimpArgs false
set_option maxRecDepth 4000
set_option maxHeartbeats 4000000
namespace Go.Pm.PP
open Go.Pm Go.Proofs
end Go.Pm.PP
namespace Go.Pm
theorem Holds.one {h0 h : Hp} {L : List Asn} {A : Asn} (H : Holds h0 h L) (i : Nat) (hi : L[i]? = some A) : Holds h0 h [A] :=
  H.sub (fun _ => i) (fun j B hB => by
    match j, hB with
    | 0, hB => cases hB; exact hi
    | j + 1, hB => cases hB) fun j k B C hB hC _ => by
    match j, k, hB, hC with
    | 0, 0, _, _ => rfl
    | j + 1, _, hB, _ => cases hB
    | _, k + 1, _, hC => cases hC
end Go.Pm

/- The best order of jobs: the reference's search. -/
set_option linter.unusedVariables false
set_option linter.unusedSimpArgs false
set_option maxRecDepth 4000
set_option maxHeartbeats 8000000
namespace Go.Pm.PP
open Go.Pm Go.Proofs Go.Pm.PE
/-- What a search has found. -/
structure Sr where
  o : List Int
  v : Int
  c : Int
def valX (o : Int) (js : List Job) (xs : List Int) : Int := valE o js (endsL js xs)
def updS (f : List Int → Int) (b : Sr) (xs : List Int) : Sr := if b.c = 0 ∨ f xs < b.v then ⟨xs, f xs, 1⟩ else if f xs = b.v then ⟨b.o, b.v, w64 (b.c + 1)⟩ else b
theorem Sees.gcU {h0 h : Hp} {v u : Value} {sz : Nat} {els : List (List Value)} (s : Sees h v sz els) (hu : plain u = true → plainC v = true) : Sees (gc h0 h u) v sz els := by
  rcases gc_cases h0 h u with g | ⟨hp, g⟩ <;> rw [g]
  · exact s
  · have hv := hu hp
    obtain ⟨h1, oa, c, rfl, h3⟩ := s
    rcases h3 with ⟨rfl, rfl, rfl⟩ | ⟨r, o, x, rfl, _⟩
    · exact ⟨by simp, none, 0, rfl, .inl ⟨rfl, rfl, rfl⟩⟩
    · cases hv
/-- An order of all jobs. -/
structure Ord (n : Nat) (xs : List Int) : Prop where
  len : xs.length = n
  inn : inN n xs
  nd : xs.Nodup
theorem Ord.all {n : Nat} {xs : List Int} (o : Ord n xs) {i : Nat} (hi : i < n) : (i : Int) ∈ xs :=
  pigeon xs (upTo n) o.nd (fun x hx => mem_upTo.2 (o.inn x hx)) (by rw [upTo_len, o.len]; omega) i (mem_upTo.2 (by omega))
section
variable {h : Hp} {v u : Value} {js : List Job} {xs : List Int} {o : Int}
theorem valueOf_run (hj : Jobs h v js) (hu : Ints h u xs) (hg : goodL js = true) (hn : js.length ≤ 8) (ho : 1 ≤ o ∧ o ≤ 8) (hx : Ord js.length xs) : Ret P G n_impl_valueOf [v, u, .int .i64 o] h (.int .i64 (valX o js xs)) h := by
  refine enter_run e_impl_valueOf (by simp) ?_
  have hjs := hj
  obtain ⟨oj, cj, rfl⟩ := hj.shapeT
  simp -implicitDefEqProofs
  refine CL_post (endsOf_run hjs hu hg hn (by rw [hx.len]; exact hn) hx.inn) fun v1 h1 ⟨hp1, ho1, hb1⟩ => ?_
  have r := valueOfEnds_run (o := o) (hjs.pre hp1) ho1.sees hg hn endsL_len (fun e he => by have := hb1 e he; omega) ho
  simp -implicitDefEqProofs [CL_ret r]
  exact ⟨rfl, gcP hp1 rfl⟩
end
end Go.Pm.PP

/- The best order of jobs: both. -/
set_option linter.unusedVariables false
set_option linter.unusedSimpArgs false
set_option maxRecDepth 4000
set_option maxHeartbeats 8000000
namespace Go.Pm.PE
theorem perms_perm : ∀ {n : Nat} {l p : List Int}, l.length = n → p ∈ perms l n → p.Perm l
  | 0, l, p, h, hp => by
    rw [List.eq_nil_of_length_eq_zero h]
    simp [perms] at hp
    rw [hp]
  | n + 1, l, p, h, hp => by
    rw [perms, List.mem_flatMap] at hp
    obtain ⟨i, hi, hp⟩ := hp
    have hi : i < l.length := by simpa [List.mem_range'_1] using hi
    obtain ⟨q, hq, rfl⟩ := List.mem_map.1 hp
    have h1 := perms_perm (by rw [List.length_eraseIdx_of_lt hi]; omega) hq
    obtain ⟨x, hx, hd⟩ := drop_at hi
    rw [hx, Option.getD_some]
    refine (List.Perm.cons x h1).trans ?_
    have e : l = l.take i ++ x :: l.drop (i + 1) := by conv => lhs; rw [← List.take_append_drop i l, hd]
    rw [List.eraseIdx_eq_take_drop_succ]
    conv => rhs; rw [e]
    exact List.perm_middle.symm
end Go.Pm.PE
namespace Go.Pm
/-- What stands in between is let go. -/
theorem Holds.cut {h0 h : Hp} {A B C : List Asn} (H : Holds h0 h ((A ++ B) ++ C)) : Holds h0 h (A ++ C) := by
  refine Holds.weak (T := B) (H.perm ?_)
  rw [List.append_assoc, List.append_assoc]
  exact List.Perm.append_left A List.perm_append_comm
end Go.Pm
namespace Go.Pm.PP
open Go.Pm Go.Proofs Go.Pm.PE
def ordsL (n : Nat) : List (List Int) := perms (upTo n) n
theorem up_asc {n : Nat} : (upTo n).Pairwise (· < ·) := by
  refine List.Pairwise.map _ (fun a b h => ?_) List.pairwise_lt_range
  omega
theorem ords_ord {n : Nat} {xs : List Int} (h : xs ∈ ordsL n) : Ord n xs := by
  have p := perms_perm (upTo_len n) h
  exact ⟨by rw [p.length_eq, upTo_len], fun x hx => mem_upTo.1 (p.mem_iff.1 hx), p.nodup_iff.2 (upTo_nodup n)⟩
def sr0 : Sr := ⟨[], 0, 0⟩
def bestR (f : List Int → Int) (n : Nat) : Sr := (ordsL n).foldl (updS f) sr0
def bestV (o : Int) (js : List Job) : Int := (bestR (valX o js) js.length).v
theorem plainT {vo : Value} {r : List Value} (h : plain (.tuple (vo :: r).toArray) = true) : plainC vo = true := by
  have : ((vo :: r).toArray : Array Value).toList.all plainC = true := h
  simp only [List.all_cons, Bool.and_eq_true] at this
  exact this.1
/-! ### all orders by the program -/
theorem numbersTo_run {h : Hp} {n : Nat} (hn : n ≤ 2 ^ 30) : RunsC P G n_impl_numbersTo [.int .i64 n] h fun v h' => h <+: h' ∧ Own h.length h' v 1 ((upTo n).map encI) := by
  refine hideC fun K hK => enter_run e_impl_numbersTo (by simp) ?_
  have H0 := own_nil (Holds.start (h := h)) Int encI 1
  simp -implicitDefEqProofs
  refine R_loopO (fun m s h' => ∃ (i : Nat) (u : Value), i + m = n ∧ s = [(0, .int .i64 n), (3, u), (4, .int .i64 i)] ∧ Holds h h' [.own u 1 ((upTo i).map encI)]) (fun I hI m s h' => ?_) (n := n) ⟨0, _, Nat.zero_add _, by simp; rfl, by simpa [upTo] using H0⟩
  rintro ⟨i, u, hi, rfl, H⟩
  by_cases hlt : i < n
  · have hlt' : (i : Int) < n := by omega
    obtain ⟨v', h2, ha, H2, _⟩ := push_I0 H 0 rfl (i : Int) (by rw [upTo_len]; omega)
    simp -implicitDefEqProofs [hlt, hlt', ha, winc hlt (by omega)]
    refine ⟨m - 1, by omega, on hI ⟨i + 1, v', by omega, rfl, ?_⟩⟩
    have e : upTo (i + 1) = upTo i ++ [(i : Int)] := by simp [upTo, List.range_succ]
    rw [e]
    exact H2
  · have hlt' : ¬ (i : Int) < n := by omega
    have e : i = n := by omega
    subst e
    simp -implicitDefEqProofs [hlt']
    exact onK hK (H.ret 0 rfl)
theorem eachOrder_run {hb : Hp} {g : FuncId} {c : Array Value} {n : Nat} (hn : n ≤ 8) {Q : Nat → List Asn → Prop} (gq : ∀ i BX i' BX' h h' L u, Q i BX → Q i' BX' → Holds hb h (BX ++ L) → Holds hb h' (BX' ++ L) → Holds hb (gc h h' u) (BX' ++ L))
    (tell : ∀ i xs h BX vg, Q i BX → (ordsL n)[i]? = some xs → Holds hb h (BX ++ [.own vg 1 (xs.map encI)]) → RunsC P G g (vg :: c.toList) h fun v h' => ∃ BX', Q (i + 1) BX' ∧ ∀ L, Holds hb h (BX ++ L) → Holds hb h' (BX' ++ L))
    {h : Hp} {BX : List Asn} (hQ : Q 0 BX) (HB : Holds hb h (BX ++ [])) :
    RunsC P G n_impl_eachOrder [.int .i64 n, .func (.func g) #[] c] h fun v h' => ∃ BX', Q (ordsL n).length BX' ∧ ∀ L, Holds hb h (BX ++ L) → Holds hb h' (BX' ++ L) := by
  refine hideC fun K hK => enter_run e_impl_eachOrder (by simp) ?_
  obtain ⟨pm1, pm2, pm3⟩ := perms_main (upTo_len n) up_asc
  simp -implicitDefEqProofs
  refine CL_post (numbersTo_run (by omega)) fun v0 h0 ⟨hp0, ho0⟩ => ?_
  obtain ⟨o0, n0, c0, rfl⟩ : ∃ a n c, v0 = .slice a n c := by obtain ⟨a, c, e⟩ := ho0.sees.shape; exact ⟨_, _, _, e⟩
  have first : ∀ L, Holds hb h (BX ++ L) → Holds hb h0 (BX ++ ([.own (.slice o0 n0 c0) 1 ((upTo n).map encI)] ++ L)) := fun L HL => by
    have := Holds.joinT (L := BX) (T := L) (A := [.own (.slice o0 n0 c0) 1 ((upTo n).map encI)]) (M := []) HL ((Holds.start (h := h)).call hp0 ho0)
    simpa [List.append_assoc] using this
  simp -implicitDefEqProofs
  refine R_loopO (fun m st hk => ∃ (i : Nat) (xs : List Int) (BXk : List Asn), (ordsL n)[i]? = some xs ∧ i + m = (ordsL n).length ∧ st = [(1, .func (.func g) #[] c), (4, .slice o0 n0 c0)] ∧ Q i BXk ∧
    (∀ L, Holds hb h (BX ++ L) → Holds hb hk (BXk ++ ([.own (.slice o0 n0 c0) 1 (xs.map encI)] ++ L)))) (fun I hI m st hk => ?_) (n := (ordsL n).length)
    ⟨0, upTo n, BX, pm1, Nat.zero_add _, by simp, hQ, first⟩
  rintro ⟨i, xs, BXk, hxs, him, rfl, hQk, I1⟩
  have ox := ords_ord (List.mem_of_getElem? hxs)
  have hil := (List.getElem?_eq_some_iff.1 hxs).1
  have HA : Holds hb hk (BXk ++ [.own (.slice o0 n0 c0) 1 (xs.map encI)]) := by simpa using I1 [] HB
  simp -implicitDefEqProofs
  refine CL_post (tell i xs hk BXk _ hQk hxs HA) fun v h2 ⟨BX', hQ', F2⟩ => ?_
  have H2 := F2 _ HA
  have H2o := H2.one BX'.length (A := .own (.slice o0 n0 c0) 1 (xs.map encI)) (by rw [List.getElem?_append_right (Nat.le_refl _), Nat.sub_self]; rfl)
  simp -implicitDefEqProofs
  refine CL_post (nextOrder_run H2o (by rw [ox.len]; omega) ox.nd) fun r h3 ⟨er, ow3, k3⟩ => ?_
  subst er
  have J1 : ∀ L, Holds hb h (BX ++ L) → Holds hb h3 (BX' ++ ([.own (.slice o0 n0 c0) 1 (((nextP xs).getD xs).map encI)] ++ L)) := fun L HL => by
    have h1 := F2 _ (I1 L HL)
    have h2 := h1.upd (i := BX'.length) (A := .own (.slice o0 n0 c0) 1 (xs.map encI)) (B := .own (.slice o0 n0 c0) 1 (((nextP xs).getD xs).map encI)) (by rw [List.getElem?_append_right (Nat.le_refl _), Nat.sub_self]; rfl) k3 ow3 fun r hr => .inl hr
    rw [List.set_append_right (h := Nat.le_refl _), Nat.sub_self] at h2
    exact h2
  cases hnx : nextP xs with
  | some xs' =>
    rw [hnx] at J1
    have hi1 : (ordsL n)[i + 1]? = some xs' := by rw [← hnx]; exact (pm2 i xs hxs).symm
    simp -implicitDefEqProofs
    exact ⟨m - 1, by omega, on hI ⟨i + 1, xs', BX', hi1, by omega, rfl, hQ', J1⟩⟩
  | none =>
    rw [hnx] at J1
    have hi1 : (ordsL n)[i + 1]? = none := by rw [← hnx]; exact (pm2 i xs hxs).symm
    have hlen : (ordsL n).length = i + 1 := by have := List.getElem?_eq_none_iff.1 hi1; omega
    simp -implicitDefEqProofs
    rw [hlen] at hK
    refine onK hK ⟨BX', hQ', fun L HL => ?_⟩
    have h1 := J1 L HL
    have h2 : Holds hb h3 (BX' ++ L) := by
      refine Holds.weak (T := [.own (.slice o0 n0 c0) 1 (xs.map encI)]) (h1.perm ?_)
      rw [List.append_assoc]
      exact List.Perm.append_left BX' List.perm_append_comm
    exact gq _ _ _ _ _ _ _ _ hQ hQ' HL h2
theorem load_pre {hb h' : Hp} {r n : Nat} {cs : List Value} (hp : hb <+: h') (hr : hb[r]? = some (some ⟨cs, 0, false⟩)) (hn : cs.length = n) (t : TypeId) : loadP P h' t (.pointer (some ⟨r, 0, some n⟩)) = rowLoad P t ⟨cs, 0, false⟩ 0 := by
  have h5 : h'[r]? = some (some ⟨cs, 0, false⟩) := by
    obtain ⟨l, rfl⟩ := hp
    rw [List.getElem?_append_left (List.getElem?_eq_some_iff.1 hr).1]; exact hr
  rw [loadP_eq]
  simp only [rowAt, h5, hn, if_true, Option.bind_some]
def bx4 (p q r : Nat) (vf : Value) (b : Sr) : List Asn := [.box p [vf], .box q [.int .i64 b.v], .box r [.int .i64 b.c], .own vf 1 (b.o.map encI)]
theorem gc4 {hb h h' : Hp} {p q r : Nat} {vf vf' u : Value} {b b' : Sr} {L : List Asn} (HL : Holds hb h (bx4 p q r vf b ++ L)) (H' : Holds hb h' (bx4 p q r vf' b' ++ L)) : Holds hb (gc h h' u) (bx4 p q r vf' b' ++ L) := by
  rcases gc_cases' h h' u with g | ⟨hp, g⟩
  · rw [g]; exact H'
  · have e1 := HL.box (cs := [vf]) (r := p) 0 rfl
    have e2 := H'.box (cs := [vf']) (r := p) 0 rfl
    obtain ⟨t, rfl⟩ := hp
    rw [List.getElem?_append_left (List.getElem?_eq_some_iff.1 e1).1, e1] at e2
    cases e2
    exact HL.gcR H' rfl
/-- The program's look at an order. -/
theorem tell1_run {hb h : Hp} {p q r rj ro : Nat} {vj vf vg : Value} {js : List Job} {o : Int} {xs : List Int} {b : Sr} (J : Jobs hb vj js) (bj : hb[rj]? = some (some ⟨[vj], 0, false⟩)) (bo : hb[ro]? = some (some ⟨[.int .i64 o], 0, false⟩))
    (hg : goodL js = true) (hn : js.length ≤ 8) (ho : 1 ≤ o ∧ o ≤ 8) (hx : Ord js.length xs) (H : Holds hb h (bx4 p q r vf b ++ [.own vg 1 (xs.map encI)])) :
    RunsC P G n_impl_best_1 [vg, .pointer (some ⟨rj, 0, some 1⟩), .pointer (some ⟨ro, 0, some 1⟩), .pointer (some ⟨r, 0, some 1⟩), .pointer (some ⟨q, 0, some 1⟩), .pointer (some ⟨p, 0, some 1⟩)] h fun v h' =>
      ∃ vf', ∀ L, Holds hb h (bx4 p q r vf b ++ L) → Holds hb h' (bx4 p q r vf' (updS (valX o js) b xs) ++ L) := by
  refine hideC fun K hK => enter_run e_impl_best_1 (by simp) ?_
  obtain ⟨f1, f2, f3, rfl⟩ : ∃ a n c, vf = .slice a n c := by obtain ⟨a, c, e⟩ := (H.sees 3 (v := vf) (sz := 1) (els := b.o.map encI) rfl).shape; exact ⟨_, _, _, e⟩
  have Js := J
  obtain ⟨oj, cj, rfl⟩ := J.shapeT
  have Sg : Ints h vg xs := H.sees 4 rfl
  have lj := load_pre H.pre bj (n := 1) rfl
  have lo := load_pre H.pre bo (n := 1) rfl
  have rv := valueOf_run (o := o) (Js.pre H.pre) Sg hg hn ho hx
  obtain ⟨V, hV⟩ : ∃ V, V = valX o js xs := ⟨_, rfl⟩
  rw [← hV] at rv
  have lq := H.bl (P := P) 1 1 rfl rfl
  have lr := H.bl (P := P) 2 1 rfl rfl
  by_cases c1 : b.c = 0 ∨ V < b.v
  · have e : updS (valX o js) b xs = ⟨xs, V, 1⟩ := by unfold updS; rw [← hV, if_pos c1]
    rw [e] at hK
    have fin : RunsC P G n_impl_copyInts [vg] h fun v1 h1 => ∃ a n c h2 h3 h4, v1 = .slice a n c ∧ storeP P h1 t_S_int (.slice a n c) (.pointer (some ⟨p, 0, some 1⟩)) = some h2 ∧ storeP P h2 t_int (.int .i64 V) (.pointer (some ⟨q, 0, some 1⟩)) = some h3 ∧
        storeP P h3 t_int (.int .i64 1) (.pointer (some ⟨r, 0, some 1⟩)) = some h4 ∧ ∀ u, K u (gc h h4 u) := by
      refine RunsC.mono (copyInts_run Sg (by rw [hx.len]; omega)) fun v1 h1 ⟨hp1, ho1⟩ => ?_
      obtain ⟨a, c, rfl⟩ := ho1.sees.shapeT
      obtain ⟨h2, s2, H2, _⟩ := (H.ext hp1).set (P := P) 0 (n := 1) (o := 0) (ty := t_S_int) (w := .slice a xs.length c) rfl rfl e_t_S_int (by simp) (by simp) (by simp)
      obtain ⟨h3, s3, H3, _⟩ := H2.set (P := P) 1 (n := 1) (o := 0) (ty := t_int) (w := .int .i64 V) rfl rfl e_t_int (by simp) (by simp) (by simp)
      obtain ⟨h4, s4, H4, _⟩ := H3.set (P := P) 2 (n := 1) (o := 0) (ty := t_int) (w := .int .i64 1) rfl rfl e_t_int (by simp) (by simp) (by simp)
      refine ⟨a, xs.length, c, h2, h3, h4, rfl, s2, s3, s4, fun u => onK hK ⟨.slice a xs.length c, fun L HL => ?_⟩⟩
      have HJ := Holds.joinT (A := [.own (.slice a xs.length c) 1 (xs.map encI)]) (M := []) HL ((Holds.start (h := h)).call hp1 ho1)
      obtain ⟨h2', s2', H2', _⟩ := HJ.set (P := P) 0 (n := 1) (o := 0) (ty := t_S_int) (w := .slice a xs.length c) rfl rfl e_t_S_int (by simp) (by simp) (by simp)
      rw [s2] at s2'; cases s2'
      obtain ⟨h3', s3', H3', _⟩ := H2'.set (P := P) 1 (n := 1) (o := 0) (ty := t_int) (w := .int .i64 V) rfl rfl e_t_int (by simp) (by simp) (by simp)
      rw [s3] at s3'; cases s3'
      obtain ⟨h4', s4', H4', _⟩ := H3'.set (P := P) 2 (n := 1) (o := 0) (ty := t_int) (w := .int .i64 1) rfl rfl e_t_int (by simp) (by simp) (by simp)
      rw [s4] at s4'; cases s4'
      have H5 : Holds hb h4 (([.box p [.slice a xs.length c], .box q [.int .i64 V], .box r [.int .i64 1]] ++ [.own (.slice f1 f2 f3) 1 (b.o.map encI)]) ++ ([.own (.slice a xs.length c) 1 (xs.map encI)] ++ L)) := H4'
      have H6 : Holds hb h4 (bx4 p q r (.slice a xs.length c) ⟨xs, V, 1⟩ ++ L) := H5.cut
      exact gc4 HL H6
    rcases Classical.em (b.c = 0) with c2 | c2
    · simp -implicitDefEqProofs [lj, lo, CL_ret rv, lr, lq, show (b.c == 0) = true by simpa using c2]
      refine CL_post fin fun v1 h1 ⟨a, n1, c, h2, h3, h4, ev, s2, s3, s4, f2⟩ => ?_
      subst ev
      simp -implicitDefEqProofs [s2, s3, s4]
      exact f2 _
    · have c3 : V < b.v := by rcases c1 with g | g; exact absurd g c2; exact g
      simp -implicitDefEqProofs [lj, lo, CL_ret rv, lr, lq, nb c2, c3]
      refine CL_post fin fun v1 h1 ⟨a, n1, c, h2, h3, h4, ev, s2, s3, s4, f2⟩ => ?_
      subst ev
      simp -implicitDefEqProofs [s2, s3, s4]
      exact f2 _
  · have c2 : ¬ b.c = 0 := fun g => c1 (.inl g)
    have c3 : ¬ V < b.v := fun g => c1 (.inr g)
    by_cases c4 : V = b.v
    · have e : updS (valX o js) b xs = ⟨b.o, b.v, w64 (b.c + 1)⟩ := by unfold updS; rw [← hV, if_neg c1, if_pos c4]
      rw [e] at hK
      obtain ⟨h4, s4, H4, _⟩ := H.set (P := P) 2 (n := 1) (o := 0) (ty := t_int) (w := .int .i64 (IntKind.i64.wrap (b.c + 1))) rfl rfl e_t_int (by simp) (by simp) (by simp)
      have c4' : (V == b.v) = true := by simpa using c4
      simp -implicitDefEqProofs [lj, lo, CL_ret rv, lr, lq, nb c2, c3, c4', s4]
      refine onK hK ⟨.slice f1 f2 f3, fun L HL => ?_⟩
      obtain ⟨h4', s4', H4', _⟩ := HL.set (P := P) 2 (n := 1) (o := 0) (ty := t_int) (w := .int .i64 (IntKind.i64.wrap (b.c + 1))) rfl rfl e_t_int (by simp) (by simp) (by simp)
      rw [s4] at s4'; cases s4'
      exact gc4 (b' := ⟨b.o, b.v, w64 (b.c + 1)⟩) HL H4'
    · have e : updS (valX o js) b xs = b := by unfold updS; rw [← hV, if_neg c1, if_neg c4]
      rw [e] at hK
      simp -implicitDefEqProofs [lj, lo, CL_ret rv, lr, lq, nb c2, c3, nb c4]
      exact onK hK ⟨.slice f1 f2 f3, fun L HL => HL⟩
theorem best_run {h : Hp} {vj : Value} {js : List Job} {o : Int} (J : Jobs h vj js) (hg : goodL js = true) (hn : js.length ≤ 8) (ho : 1 ≤ o ∧ o ≤ 8) : RunsC P G n_impl_best [vj, .int .i64 o] h fun v h' => h <+: h' ∧ ∃ vf, v = .tuple #[vf, .int .i64 (bestV o js), .int .i64 (bestR (valX o js) js.length).c] ∧ Ints h' vf (bestR (valX o js) js.length).o := by
  refine hideC fun K hK => enter_run e_impl_best (by simp) ?_
  have Js := J
  obtain ⟨oj, cj, rfl⟩ := J.shapeT
  have H0 := (Holds.start.alloc [.slice oj js.length cj] (h := h)).alloc [.int .i64 o]
  simp only [List.append_assoc, List.cons_append, List.nil_append, List.length_append, List.length_cons, List.length_nil, Nat.zero_add] at H0
  generalize hHb : h ++ [some ⟨[.slice oj js.length cj], 0, false⟩, some ⟨[.int .i64 o], 0, false⟩] = hb at H0
  have hbl : hb.length = h.length + 1 + 1 := by rw [← hHb]; simp
  have E0 := own_nil (((Holds.start.alloc [.slice none 0 0] (h := hb)).alloc [.int .i64 0]).alloc [.int .i64 0]) Int encI 1
  simp only [List.append_assoc, List.cons_append, List.nil_append, List.length_append, List.length_cons, List.length_nil, Nat.zero_add] at E0
  have E : Holds hb (hb ++ [some ⟨[.slice none 0 0], 0, false⟩, some ⟨[.int .i64 0], 0, false⟩, some ⟨[.int .i64 0], 0, false⟩]) (bx4 hb.length (hb.length + 1) (hb.length + 1 + 1) (.slice none 0 0) sr0 ++ []) := E0
  have er := eachOrder_run (hb := hb) (g := n_impl_best_1) (c := #[.pointer (some ⟨h.length, 0, some 1⟩), .pointer (some ⟨h.length + 1, 0, some 1⟩), .pointer (some ⟨hb.length + 1 + 1, 0, some 1⟩), .pointer (some ⟨hb.length + 1, 0, some 1⟩), .pointer (some ⟨hb.length, 0, some 1⟩)]) hn
    (Q := fun i BX => ∃ vf, BX = bx4 hb.length (hb.length + 1) (hb.length + 1 + 1) vf (((ordsL js.length).take i).foldl (updS (valX o js)) sr0))
    (fun i BX i' BX' h h' L u ⟨vf, e⟩ ⟨vf', e'⟩ HL H' => by subst e; subst e'; exact gc4 HL H')
    (fun i xs h BX vg ⟨vf, eBX⟩ hxs HB => by
      subst eBX
      refine RunsC.mono (tell1_run (Js.pre H0.pre) (H0.box 0 rfl) (H0.box 1 rfl) hg hn ho (ords_ord (List.mem_of_getElem? hxs)) HB) fun v h' ⟨vf', F⟩ => ?_
      refine ⟨_, ⟨vf', rfl⟩, fun L HL => ?_⟩
      have := F L HL
      rw [take_succ' hxs, List.foldl_append, List.foldl_cons, List.foldl_nil]
      exact this) ⟨_, rfl⟩ E
  have hcount : hb ++ [some ⟨[.slice none 0 0], 0, false⟩, some ⟨[.int .i64 0], 0, false⟩, some ⟨[.int .i64 0], 0, false⟩] = h ++ [some ⟨[.slice oj js.length cj], 0, false⟩, some ⟨[.int .i64 o], 0, false⟩, some ⟨[.slice none 0 0], 0, false⟩, some ⟨[.int .i64 0], 0, false⟩, some ⟨[.int .i64 0], 0, false⟩] := by rw [← hHb]; simp
  rw [hcount, hbl] at er
  rw [hcount] at E
  simp -implicitDefEqProofs
  refine CL_post er fun v h4 ⟨BX', ⟨vf, eBX⟩, F⟩ => ?_
  subst eBX
  have H4 := F [] (by rw [← hbl]; exact E)
  rw [List.take_length] at H4
  have s4 : Ints h4 vf (bestR (valX o js) js.length).o := H4.sees 3 rfl
  obtain ⟨a, c, rfl⟩ := s4.shapeT
  have l0 := H4.bl (P := P) 0 1 rfl rfl
  have l1 := H4.bl (P := P) 1 1 rfl rfl
  have l2 := H4.bl (P := P) 2 1 rfl rfl
  simp only [Nat.add_assoc, Nat.reduceAdd] at l0 l1 l2
  simp -implicitDefEqProofs [l0, l1, l2]
  exact onK hK ⟨pre_gcU (H0.pre.trans H4.pre), _, rfl, Sees.gcU s4 fun g => plainT (r := [_, _]) g⟩
end Go.Pm.PP

/- Best orders and exchanges of neighbours, in plain terms. -/
set_option linter.unusedVariables false
set_option linter.unusedSimpArgs false
namespace Go.Pm.PE
theorem perms_all : ∀ {n : Nat} {l xs : List Int}, l.length = n → xs.Perm l → xs ∈ perms l n
  | 0, l, xs, h, hp => by
    have hl : l = [] := List.eq_nil_of_length_eq_zero h
    subst hl
    rw [List.perm_nil.1 hp]; simp [perms]
  | n + 1, l, [], h, hp => by
    have := hp.length_eq
    rw [h] at this; simp at this
  | n + 1, l, x :: r, h, hp => by
    have hx : x ∈ l := hp.mem_iff.1 (List.mem_cons_self ..)
    obtain ⟨i, hi⟩ := List.getElem?_of_mem hx
    have hil := (List.getElem?_eq_some_iff.1 hi).1
    have e : l.Perm (x :: l.eraseIdx i) := by
      have e2 : l = l.take i ++ x :: l.drop (i + 1) := by
        obtain ⟨y, hy, hd⟩ := drop_at hil
        rw [hi] at hy; cases hy
        conv => lhs; rw [← List.take_append_drop i l, hd]
      rw [List.eraseIdx_eq_take_drop_succ]
      conv => lhs; rw [e2]
      exact List.perm_middle
    have hr : r.Perm (l.eraseIdx i) := (List.perm_cons x).1 (hp.trans e)
    rw [perms, List.mem_flatMap]
    refine ⟨i, by simp [List.mem_range'_1, hil], List.mem_map.2 ⟨r, perms_all (by rw [List.length_eraseIdx_of_lt hil]; omega) hr, ?_⟩⟩
    rw [hi, Option.getD_some]
theorem perms_le {n : Nat} : ∀ {m : Nat} {l : List Int}, l.length = m → m ≤ n → (perms l m).length ≤ n ^ m
  | 0, l, _, _ => by simp [perms]
  | m + 1, l, h, hm => by
    rw [perms]
    have go : ∀ (is : List Nat), (∀ i, i ∈ is → i < l.length) → (is.flatMap fun i => (perms (l.eraseIdx i) m).map ((l[i]?.getD 0) :: ·)).length ≤ is.length * n ^ m := fun is => by
      induction is with
      | nil => intro _; simp
      | cons i is ih =>
        intro hi
        have h1 := ih fun j hj => hi j (List.mem_cons_of_mem _ hj)
        have h2 := perms_le (n := n) (m := m) (l := l.eraseIdx i) (by rw [List.length_eraseIdx_of_lt (hi i (List.mem_cons_self ..))]; omega) (by omega)
        rw [List.flatMap_cons, List.length_append, List.length_map, List.length_cons, Nat.add_mul]
        omega
    refine Nat.le_trans (go _ fun i hi => by simpa [List.mem_range'_1] using hi) ?_
    rw [List.length_range', h, Nat.pow_succ, Nat.mul_comm]
    exact Nat.mul_le_mul_left _ hm
end Go.Pm.PE
namespace Go.Pm.PP
open Go.Pm Go.Pm.PE
theorem ord_mem {n : Nat} {xs : List Int} (h : Ord n xs) : xs ∈ ordsL n := by
  refine perms_all (upTo_len n) ((List.perm_ext_iff_of_nodup h.nd (upTo_nodup n)).2 fun x => ?_)
  rw [mem_upTo]
  refine ⟨fun hx => h.inn x hx, fun hx => ?_⟩
  have := h.all (i := x.toNat) (by omega)
  rwa [show ((x.toNat : Nat) : Int) = x by omega] at this
theorem ords_le {n : Nat} (hn : n ≤ 8) : (ordsL n).length ≤ 8 ^ 8 := by
  refine Nat.le_trans (perms_le (n := 8) (upTo_len n) hn) (Nat.pow_le_pow_right (by omega) hn)
theorem best_fold {f : List Int → Int} {B : Nat} (hB : B ≤ 2 ^ 40) : ∀ {l : List (List Int)} {b : Sr} {k : Nat} {S : List Int → Prop}, (∀ xs, xs ∈ l → S xs) → k + l.length ≤ B → ((k = 0 ∧ b.c = 0) ∨ (1 ≤ b.c ∧ b.c ≤ k ∧ f b.o = b.v ∧ S b.o)) →
    (l = [] ∧ l.foldl (updS f) b = b) ∨ (1 ≤ (l.foldl (updS f) b).c ∧ f (l.foldl (updS f) b).o = (l.foldl (updS f) b).v ∧ S (l.foldl (updS f) b).o ∧ (k = 0 ∨ (l.foldl (updS f) b).v ≤ b.v) ∧ ∀ xs, xs ∈ l → (l.foldl (updS f) b).v ≤ f xs)
  | [], b, k, S, _, _, _ => .inl ⟨rfl, rfl⟩
  | x :: l, b, k, S, hS, hk, hb => by
    right
    rw [List.foldl_cons]
    simp only [List.length_cons] at hk
    have hx := hS x (List.mem_cons_self ..)
    have key : (1 ≤ (updS f b x).c ∧ (updS f b x).c ≤ (k + 1 : Nat) ∧ f (updS f b x).o = (updS f b x).v ∧ S (updS f b x).o) ∧ (updS f b x).v ≤ f x ∧ (k = 0 ∨ (updS f b x).v ≤ b.v) := by
      unfold updS
      split
      · rename_i g
        refine ⟨⟨by simp, by simp; omega, rfl, hx⟩, by simp, ?_⟩
        rcases hb with ⟨h0, _⟩ | ⟨h1, h2, h3, h4⟩
        · exact .inl h0
        · refine .inr ?_
          rcases g with g | g
          · omega
          · simp only; omega
      · rename_i g
        rcases hb with ⟨h0, h1⟩ | ⟨h1, h2, h3, h4⟩
        · exact absurd (.inl h1) g
        · split
          · rename_i g2
            have w : w64 (b.c + 1) = b.c + 1 := by unfold w64; rw [wrap_ok] <;> omega
            refine ⟨⟨?_, ?_, h3, h4⟩, ?_, .inr (Int.le_refl _)⟩
            · simp only [w]; omega
            · simp only [w]; omega
            · simp only; omega
          · refine ⟨⟨h1, by omega, h3, h4⟩, ?_, .inr (Int.le_refl _)⟩
            have : ¬ f x < b.v := fun h => g (.inr h)
            omega
    obtain ⟨k1, k2, k3⟩ := key
    rcases best_fold hB (l := l) (b := updS f b x) (k := k + 1) (S := S) (fun y hy => hS y (List.mem_cons_of_mem _ hy)) (by omega) (.inr k1) with ⟨e, h⟩ | ⟨h1, h2, h3, h4, h5⟩
    · subst e
      rw [List.foldl_nil]
      refine ⟨k1.1, k1.2.2.1, k1.2.2.2, k3, fun xs hxs => ?_⟩
      rcases List.mem_cons.1 hxs with rfl | g
      · exact k2
      · cases g
    · refine ⟨h1, h2, h3, ?_, fun xs hxs => ?_⟩
      · rcases k3 with g | g
        · exact .inl g
        · right; rcases h4 with h4 | h4 <;> omega
      · rcases List.mem_cons.1 hxs with rfl | g
        · rcases h4 with h4 | h4 <;> omega
        · exact h5 xs g
theorem best_facts {f : List Int → Int} {n : Nat} (hn : n ≤ 8) : 1 ≤ (bestR f n).c ∧ f (bestR f n).o = (bestR f n).v ∧ Ord n (bestR f n).o ∧ ∀ xs, Ord n xs → (bestR f n).v ≤ f xs := by
  have h0 : upTo n ∈ ordsL n := perms_all (upTo_len n) (List.Perm.refl _)
  have l8 := ords_le hn
  have e8 : (8 : Nat) ^ 8 = 16777216 := by decide
  rcases best_fold (f := f) (B := 2 ^ 40) (Nat.le_refl _) (l := ordsL n) (b := sr0) (k := 0) (S := Ord n) (fun xs hx => ords_ord hx) (by omega) (.inl ⟨rfl, rfl⟩) with ⟨e, _⟩ | ⟨h1, h2, h3, _, h5⟩
  · rw [e] at h0; cases h0
  · exact ⟨h1, h2, h3, fun xs hx => h5 xs (ord_mem hx)⟩
/-! ### exchanges of neighbours -/
end Go.Pm.PP

/- Typed rules for slices: printed by a program of this work (wrap.py). -/
set_option linter.unusedVariables false
set_option linter.unusedSimpArgs false
set_option maxRecDepth 4000
namespace Go.Pm.PP
def encU (x : Int) : List Value := [.int .u8 x]
open Go.Pm Go.Proofs
theorem load_U {h : Hp} {v : Value} {xs : List (Int)} {i : Nat} {x : Int} (hv : Sees h v 1 (xs.map encU)) (hx : xs[i]? = some x) :
    indexAddrP P h t_S_u8 v (.int .i64 i) = some (.pointer (some (addP (base v) (i)))) ∧ loadP P h t_u8 (.pointer (some (addP (base v) (i)))) = some (.int .u8 x) := by
  have hi := (List.getElem?_eq_some_iff.1 hx).1
  have h1 := hv.indexT (P := P) u_S_u8 i_u8 (k := .i64) (j := i) (by omega) (by omega)
  rw [Int.toNat_natCast] at h1
  have h2 := hv.cellT (P := P) (ty := t_u8) a_u8 i_u8 hx (k := 0) (by omega)
  exact ⟨by simpa using h1, by simpa [encU] using h2⟩
theorem len_U (xs : List (Int)) : ∀ e ∈ xs.map encU, e.length = 1 := by
  intro e he
  obtain ⟨x, _, rfl⟩ := List.mem_map.1 he
  rfl
end Go.Pm.PP

/- Draws: bytes, numbers, one of some. -/
set_option linter.unusedVariables false
set_option linter.unusedSimpArgs false
set_option maxRecDepth 4000
set_option maxHeartbeats 8000000
namespace Go.Pm.PP
open Go.Pm Go.Proofs Go.Pm.PE
/-- A cursor over bytes. -/
abbrev cu (r : Nat) (vc : Value) (at' sd : Int) : Asn := .box r [vc, .int .i64 at', .int .u64 sd]
/-- A code that is read. -/
def By (h0 : Hp) (vc : Value) : Prop := ∃ bs : List Int, Sees h0 vc 1 (bs.map encU) ∧ (∀ b, b ∈ bs → 0 ≤ b ∧ b ≤ 255) ∧ bs.length ≤ 2 ^ 20
def Cur (h0 h : Hp) (r : Nat) (vc : Value) (n : Nat) (L : List Asn) : Prop := ∃ a s : Int, 0 ≤ a ∧ a ≤ n ∧ Holds h0 h (cu r vc a s :: L)
section
variable {h0 h h' : Hp} {r n m : Nat} {vc u w : Value} {L T : List Asn}
theorem Cur.mono (C : Cur h0 h r vc n L) (hm : n ≤ m) : Cur h0 h r vc m L := by
  obtain ⟨a, s, h1, h2, H⟩ := C
  exact ⟨a, s, h1, by omega, H⟩
theorem Cur.weak (C : Cur h0 h r vc n (L ++ T)) : Cur h0 h r vc n L := by
  obtain ⟨a, s, h1, h2, H⟩ := C
  exact ⟨a, s, h1, h2, Holds.weak (T := T) H⟩
theorem Cur.pre (C : Cur h0 h r vc n L) : h0 <+: h := by
  obtain ⟨a, s, h1, h2, H⟩ := C
  exact H.pre
/-- At a function's end. -/
theorem Cur.gc (C : Cur h0 h r vc n L) (C' : Cur h0 h' r vc m L) : Cur h0 (gc h h' u) r vc m L := by
  obtain ⟨a, s, _, _, H⟩ := C
  obtain ⟨a', s', h1, h2, H'⟩ := C'
  exact ⟨a', s', h1, h2, H.gcR H' rfl⟩
theorem Cur.gcO {sz : Nat} {els : List (List Value)} (C : Cur h0 h r vc n L) (C' : Cur h0 h' r vc m (L ++ [.own w sz els])) (hu : plain u = true → plainC w = true) : Cur h0 (Pm.gc h h' u) r vc m (L ++ [.own w sz els]) := by
  obtain ⟨a, s, _, _, H⟩ := C
  obtain ⟨a', s', h1, h2, H'⟩ := C'
  refine ⟨a', s', h1, h2, ?_⟩
  rcases gc_cases h h' u with g | ⟨hp, g⟩
  · rw [g]; exact H'
  · have G := H.gcR (u := u) (L' := cu r vc a' s' :: L) (Holds.weak (L := cu r vc a' s' :: L) (T := [.own w sz els]) H') rfl
    rw [g] at G ⊢
    have hw := hu hp
    have ho := H'.own (L.length + 1) (v := w) (sz := sz) (els := els) (by
      rw [List.getElem?_cons_succ, List.getElem?_append_right (Nat.le_refl _), Nat.sub_self]; rfl)
    have hn : els = [] := by
      rcases ho.2 with ⟨_, h2⟩ | ⟨_, _, _, _, _, h2, _⟩
      · exact h2
      · rw [h2] at hw; cases hw
    subst hn
    have hw2 : w = nilV := by
      obtain ⟨a, c, e⟩ := ho.sees.shape
      rw [e] at hw ⊢
      simp only [List.length_nil] at hw ⊢
      match a, c, hw with
      | none, 0, _ => rfl
    subst hw2
    exact G.call List.prefix_rfl Own.nil
end
theorem wrap_u64 {n : Int} (h1 : 0 ≤ n) (h2 : n ≤ 255) : IntKind.u64.wrap n = n := by
  unfold IntKind.wrap
  simp [IntKind.signed, IntKind.bits]
  omega
theorem and_bd (p : Nat) : 0 ≤ IntKind.i64.wrap (IntKind.u64.wrap ↑(p &&& (255 % 2 ^ IntKind.u64.bits : Int).toNat)) ∧ IntKind.i64.wrap (IntKind.u64.wrap ↑(p &&& (255 % 2 ^ IntKind.u64.bits : Int).toNat)) ≤ 255 := by
  have e : (255 % 2 ^ IntKind.u64.bits : Int).toNat = 255 := by decide
  rw [e]
  have : p &&& 255 ≤ 255 := Nat.and_le_right
  rw [wrap_u64 (by omega) (by omega), wrap_ok (by omega) (by omega)]
  omega
theorem emod_le' {a k : Int} (h : 0 ≤ a) (hk : 0 ≤ k) : a % k ≤ a := by
  obtain ⟨n, rfl⟩ := Int.eq_ofNat_of_zero_le h
  obtain ⟨m, rfl⟩ := Int.eq_ofNat_of_zero_le hk
  have := Nat.mod_le n m
  rw [← Int.natCast_emod]
  exact Int.ofNat_le.2 this
theorem cv1 {b : Int} : convP P t_u8 t_int (.int .u8 b) = some (.int .i64 (IntKind.i64.wrap b)) := by unfold convP; rw [u_u8, u_int]
theorem cv2 {b : Int} : convP P t_int t_u64 (.int .i64 b) = some (.int .u64 (IntKind.u64.wrap b)) := by unfold convP; rw [u_int, u_u64]
theorem cv3 {b : Int} : convP P t_u64 t_int (.int .u64 b) = some (.int .i64 (IntKind.i64.wrap b)) := by unfold convP; rw [u_u64, u_int]
theorem shr40 (a : Int) : ∃ z : Int, shiftI .shr .u64 a 40 = some (.int .u64 z) := ⟨_, rfl⟩
section
variable {h0 h : Hp} {r n : Nat} {vc : Value} {L : List Asn}
theorem next_run (B : By h0 vc) (C : Cur h0 h r vc n L) (hn : n ≤ 2 ^ 50) : RunsC P G n_spec_l1Cur_next [.pointer (some ⟨r, 0, some 3⟩)] h fun v h' => ∃ x : Int, v = .int .i64 x ∧ 0 ≤ x ∧ x ≤ 255 ∧ Cur h0 h' r vc (n + 1) L := by
  refine hideC fun K hK => enter_run e_spec_l1Cur_next (by simp) ?_
  have Cs := C
  obtain ⟨bs, Sb, hb, hl⟩ := B
  obtain ⟨a, s, a0, a1, H⟩ := C
  obtain ⟨ob, cb, rfl⟩ := Sb.shapeT
  have Sb' := Sb.pre H.pre
  have l1 := H.bl (P := P) 0 3 rfl rfl
  obtain ⟨h1, s1, H1, _⟩ := H.set (P := P) 0 (n := 3) (o := 1) (ty := t_int) (w := .int .i64 (a + 1)) rfl rfl e_t_int (by simp) (by simp) (by simp)
  have l2 := H1.bl (P := P) 0 3 rfl rfl
  have wa : IntKind.i64.wrap (a + 1) = a + 1 := by rw [wrap_ok] <;> omega
  by_cases c1 : a < bs.length
  · obtain ⟨b, hbb, _⟩ := drop_at (show a.toNat < bs.length by omega)
    have lb := load_U Sb' hbb
    rw [show ((a.toNat : Nat) : Int) = a by omega] at lb
    have hb' := hb b (List.mem_of_getElem? hbb)
    have wb : IntKind.i64.wrap b = b := by rw [wrap_ok] <;> omega
    have c2 : a + 1 ≤ bs.length := by omega
    obtain ⟨h2, s2, H2, _⟩ := H1.set (P := P) 0 (n := 3) (o := 2) (ty := t_u64) (w := .int .u64 (IntKind.u64.wrap (IntKind.u64.wrap (IntKind.u64.wrap (s * 6364136223846793005) + IntKind.u64.wrap b) + 462197))) rfl rfl e_t_u64 (by simp) (by simp) (by simp)
    have l3 := H2.bl (P := P) 0 3 rfl rfl
    simp -implicitDefEqProofs [-indexAddrP_some, l1, c1, lb, wb, wa, s1, l2, s2, l3, c2, cv1, cv2, cv3]
    exact onK hK ⟨b, rfl, hb'.1, hb'.2, Cs.gc ⟨a + 1, _, by omega, by omega, H2⟩⟩
  · have c2 : ¬ a + 1 ≤ bs.length := by omega
    obtain ⟨h2, s2, H2, _⟩ := H1.set (P := P) 0 (n := 3) (o := 2) (ty := t_u64) (w := .int .u64 (IntKind.u64.wrap (IntKind.u64.wrap (IntKind.u64.wrap (s * 6364136223846793005) + IntKind.u64.wrap 0) + 462197))) rfl rfl e_t_u64 (by simp) (by simp) (by simp)
    have l3 := H2.bl (P := P) 0 3 rfl rfl
    obtain ⟨z, hz⟩ := shr40 (IntKind.u64.wrap (IntKind.u64.wrap (IntKind.u64.wrap (s * 6364136223846793005) + IntKind.u64.wrap 0) + 462197))
    simp -implicitDefEqProofs [-indexAddrP_some, l1, c1, wa, s1, l2, s2, l3, c2, cv1, cv2, cv3, hz]
    exact onK hK ⟨_, rfl, (and_bd _).1, (and_bd _).2, Cs.gc ⟨a + 1, _, by omega, by omega, H2⟩⟩
theorem pick_run (B : By h0 vc) (C : Cur h0 h r vc n L) (hn : n ≤ 2 ^ 40) {k : Int} (hk : k ≤ 2 ^ 40) : RunsC P G n_spec_l1Cur_pick [.pointer (some ⟨r, 0, some 3⟩), .int .i64 k] h fun v h' => ∃ x : Int, v = .int .i64 x ∧ 0 ≤ x ∧ x ≤ 2 ^ 20 ∧ (1 ≤ k → x < k) ∧ Cur h0 h' r vc (n + 2) L := by
  refine hideC fun K hK => enter_run e_spec_l1Cur_pick (by simp) ?_
  by_cases c0 : k ≤ 1
  · simp -implicitDefEqProofs [c0]
    exact onK hK ⟨0, rfl, by omega, by omega, fun h => by omega, C.mono (by omega)⟩
  · simp -implicitDefEqProofs [c0]
    refine CL_post (next_run B C (by omega)) fun v h1 ⟨x, ev, x0, x1, C1⟩ => ?_
    subst ev
    have k0 : ¬ k = 0 := by omega
    by_cases c1 : 200 < k
    · have w1 : IntKind.i64.wrap (x * 256) = x * 256 := by rw [wrap_ok] <;> omega
      simp -implicitDefEqProofs [c1, w1]
      refine CL_post (next_run B C1 (by omega)) fun v h2 ⟨y, ev, y0, y1, C2⟩ => ?_
      subst ev
      have w2 : IntKind.i64.wrap (x * 256 + y) = x * 256 + y := by rw [wrap_ok] <;> omega
      have e : (x * 256 + y).tmod k = (x * 256 + y) % k := Int.tmod_eq_emod_of_nonneg (by omega)
      have m1 := Int.emod_nonneg (x * 256 + y) k0
      have m2 := Int.emod_lt_of_pos (x * 256 + y) (show 0 < k by omega)
      have m3 : (x * 256 + y) % k ≤ x * 256 + y := emod_le' (by omega) (by omega)
      simp -implicitDefEqProofs [w2, k0, e]
      exact onK hK ⟨_, rfl, m1, by omega, fun _ => m2, C.gc C2⟩
    · have e : x.tmod k = x % k := Int.tmod_eq_emod_of_nonneg x0
      have m1 := Int.emod_nonneg x k0
      have m2 := Int.emod_lt_of_pos x (show 0 < k by omega)
      have m3 : x % k ≤ x := emod_le' x0 (by omega)
      simp -implicitDefEqProofs [c1, k0, e]
      exact onK hK ⟨_, rfl, m1, by omega, fun _ => m2, C.gc (C1.mono (by omega))⟩
theorem one_run (B : By h0 vc) (C : Cur h0 h r vc n L) (hn : n ≤ 2 ^ 40) {k : Int} (hk : k ≤ 2 ^ 40) : RunsC P G n_spec_l1Cur_one [.pointer (some ⟨r, 0, some 3⟩), .int .i64 k] h fun v h' => ∃ b : Bool, v = .bool b ∧ Cur h0 h' r vc (n + 2) L := by
  refine hideC fun K hK => enter_run e_spec_l1Cur_one (by simp) ?_
  simp -implicitDefEqProofs
  refine CL_post (pick_run B C hn hk) fun v h1 ⟨x, ev, _, _, _, C1⟩ => ?_
  subst ev
  simp -implicitDefEqProofs
  exact onK hK ⟨_, rfl, C.gc C1⟩
theorem among_run (B : By h0 vc) {xs : List Int} {vl : Value} {i : Nat} (C : Cur h0 h r vc n L) (hn : n ≤ 2 ^ 40) (hi : L[i]? = some (.own vl 1 (xs.map encI))) (h1 : 1 ≤ xs.length) (h2 : xs.length ≤ 2 ^ 40) :
    RunsC P G n_spec_l1Cur_among [.pointer (some ⟨r, 0, some 3⟩), vl] h fun v h' => ∃ x : Int, v = .int .i64 x ∧ x ∈ xs ∧ Cur h0 h' r vc (n + 2) L := by
  refine hideC fun K hK => enter_run e_spec_l1Cur_among (by simp) ?_
  have S0 : Ints h vl xs := by obtain ⟨a, s, _, _, H⟩ := C; exact H.sees (i + 1) (by rw [List.getElem?_cons_succ]; exact hi)
  obtain ⟨oa, ca, rfl⟩ := S0.shapeT
  simp -implicitDefEqProofs
  refine CL_post (pick_run B C hn (k := xs.length) (by omega)) fun v h3 ⟨x, ev, x0, _, xk, C1⟩ => ?_
  subst ev
  have hx := xk (by omega)
  have S1 : Ints h3 (.slice oa xs.length ca) xs := by obtain ⟨a, s, _, _, H⟩ := C1; exact H.sees (i + 1) (by rw [List.getElem?_cons_succ]; exact hi)
  obtain ⟨y, hy, _⟩ := drop_at (show x.toNat < xs.length by omega)
  have ly := load_I S1 hy
  rw [show ((x.toNat : Nat) : Int) = x by omega] at ly
  simp -implicitDefEqProofs [-indexAddrP_some, ly]
  exact onK hK ⟨y, rfl, List.mem_of_getElem? hy, C.gc C1⟩
/-- A list that is told. -/
theorem Cur.lit (C : Cur h0 h r vc n L) (xs : List Int) : Cur h0 (h ++ [some ⟨xs.map fun x => .int .i64 x, 1, false⟩]) r vc n (L ++ [.own (.slice (some ⟨h.length, 0, some xs.length⟩) xs.length xs.length) 1 (xs.map encI)]) := by
  obtain ⟨a, s, h1, h2, H⟩ := C
  refine ⟨a, s, h1, h2, ?_⟩
  have e : (xs.map encI).flatten = xs.map fun x => Value.int .i64 x := by
    induction xs with
    | nil => rfl
    | cons x xs ih => rw [List.map_cons, List.flatten_cons, ih]; rfl
  have := H.lit (sz := 1) (n := xs.length) (els := xs.map encI) (len_I xs) (by simp)
  rw [e, List.length_map] at this
  exact this
theorem snoc_get {A : Asn} : (L ++ [A])[L.length]? = some A := by rw [List.getElem?_append_right (Nat.le_refl _), Nat.sub_self]; rfl
end
end Go.Pm.PP

/- Draws: jobs and orders. -/
set_option linter.unusedVariables false
set_option linter.unusedSimpArgs false
set_option maxRecDepth 4000
set_option maxHeartbeats 8000000
namespace Go.Pm.PP
open Go.Pm Go.Proofs Go.Pm.PE
section
variable {h0 h : Hp} {r n : Nat} {vc : Value} {L : List Asn}
theorem Cur.alloc (C : Cur h0 h r vc n L) (cs : List Value) : Cur h0 (h ++ [some ⟨cs, 0, false⟩]) r vc n (L ++ [.box h.length cs]) := by
  obtain ⟨a, s, h1, h2, H⟩ := C
  exact ⟨a, s, h1, h2, H.alloc cs⟩
abbrev zJ : List Value := [.int .i64 0, .int .i64 0, .int .i64 0, .int .i64 0]
theorem job_run (B : By h0 vc) (C : Cur h0 h r vc n L) (hn : n ≤ 2 ^ 30) {b : Bool} : RunsC P G n_spec_l1Cur_job [.pointer (some ⟨r, 0, some 3⟩), .bool b] h fun v h' => ∃ j : Job, v = jv j ∧ Cur h0 h' r vc (n + 8) L := by
  refine hideC fun K hK => enter_run e_spec_l1Cur_job (by simp) ?_
  have C0 := C.alloc zJ
  have C1 : Cur h0 (h ++ [some ⟨zJ, 0, false⟩, some ⟨([1, 2, 3, 4, 5, 7, 9] : List Int).map fun x => .int .i64 x, 1, false⟩]) r vc n ((L ++ [.box h.length zJ]) ++ [.own (.slice (some ⟨h.length + 1, 0, some 7⟩) 7 7) 1 (([1, 2, 3, 4, 5, 7, 9] : List Int).map encI)]) := by
    have := C0.lit [1, 2, 3, 4, 5, 7, 9]
    rw [List.append_assoc h, List.length_append] at this
    exact this
  simp -implicitDefEqProofs
  refine CL_post (among_run B C1 (by omega) snoc_get (xs := [1, 2, 3, 4, 5, 7, 9]) (by simp) (by simp)) fun v h1 ⟨x, ev, _, C2⟩ => ?_
  subst ev
  have C3 := C2.weak.lit [0, 1, 1, 2, 3, 5, 8]
  simp -implicitDefEqProofs
  refine CL_post (among_run B C3 (by omega) snoc_get (xs := [0, 1, 1, 2, 3, 5, 8]) (by simp) (by simp)) fun v h2 ⟨y, ev, _, C4⟩ => ?_
  subst ev
  simp -implicitDefEqProofs
  refine CL_post (pick_run B C4.weak (by omega) (k := 24) (by omega)) fun v h3 ⟨z, ev, _, _, _, C5⟩ => ?_
  subst ev
  have C6 := C5.alloc [.int .i64 x, .int .i64 y, .int .i64 0, .int .i64 z]
  have g4 : ∀ {A : Asn} {x : List Value} {T : List Asn}, (A :: ((L ++ [.box h.length x]) ++ T))[L.length + 1]? = some (.box h.length x) := by
    intro A x T
    rw [List.getElem?_cons_succ, List.append_assoc, List.getElem?_append_right (Nat.le_refl _), Nat.sub_self]; rfl
  cases b
  · obtain ⟨a, s, g1, g2, H⟩ := C6
    obtain ⟨h4, s4, H4, _⟩ := H.set (P := P) (L.length + 1) (n := 4) (o := 0) (ty := t_impl_Job) (w := jv ⟨x, y, 0, z⟩) (r := h.length) (cs := zJ) g4 rfl e_t_impl_Job (by simp) (by simp) (by simp)
    have e4 : (cu r vc a s :: ((L ++ [.box h.length zJ]) ++ [.box h3.length [.int .i64 x, .int .i64 y, .int .i64 0, .int .i64 z]])).set (L.length + 1) (.box h.length (splice zJ 0 (jv ⟨x, y, 0, z⟩).cells.toList)) = cu r vc a s :: ((L ++ [.box h.length [.int .i64 x, .int .i64 y, .int .i64 0, .int .i64 z]]) ++ [.box h3.length [.int .i64 x, .int .i64 y, .int .i64 0, .int .i64 z]]) := by
      rw [List.set_cons_succ, List.append_assoc, List.set_append_right (h := Nat.le_refl _), Nat.sub_self, List.append_assoc]; rfl
    rw [e4] at H4
    have s4' : storeP P (h3 ++ [some ⟨[.int .i64 x, .int .i64 y, .int .i64 0, .int .i64 z], 0, false⟩]) 85 (.agg #[.int .i64 x, .int .i64 y, .int .i64 0, .int .i64 z]) (.pointer (some ⟨h.length, 0, some 4⟩)) = some h4 := s4
    have l4 := H4.bl (P := P) (L.length + 1) 4 g4 rfl
    simp -implicitDefEqProofs
    simp -implicitDefEqProofs [-storeP_app0, s4', l4]
    exact onK hK ⟨⟨x, y, 0, z⟩, rfl, C.gc (Cur.weak (T := [.box h.length [.int .i64 x, .int .i64 y, .int .i64 0, .int .i64 z]] ++ [.box h3.length [.int .i64 x, .int .i64 y, .int .i64 0, .int .i64 z]]) ⟨a, s, g1, by omega, by rw [← List.append_assoc]; exact H4⟩)⟩
  · simp -implicitDefEqProofs
    refine CL_post (pick_run B C6 (by omega) (k := 12) (by omega)) fun v h4 ⟨q, ev, _, _, _, C7⟩ => ?_
    subst ev
    obtain ⟨a, s, g1, g2, H⟩ := C7
    have g5 : ∀ {A : Asn} {x : List Value} {B : Asn}, (A :: ((L ++ [B]) ++ [.box h3.length x]))[L.length + 1 + 1]? = some (.box h3.length x) := by
      intro A x B
      rw [List.getElem?_cons_succ, List.append_assoc, List.getElem?_append_right (by omega), Nat.add_sub_cancel_left]; rfl
    obtain ⟨h5, s5, H5, _⟩ := H.set (P := P) (L.length + 1 + 1) (n := 4) (o := 2) (ty := t_int) (w := .int .i64 q) g5 rfl e_t_int (by simp) (by simp) (by simp)
    have e5 : (cu r vc a s :: ((L ++ [.box h.length zJ]) ++ [.box h3.length [.int .i64 x, .int .i64 y, .int .i64 0, .int .i64 z]])).set (L.length + 1 + 1) (.box h3.length (splice [.int .i64 x, .int .i64 y, .int .i64 0, .int .i64 z] 2 (Value.int .i64 q).cells.toList)) = cu r vc a s :: ((L ++ [.box h.length zJ]) ++ [.box h3.length [.int .i64 x, .int .i64 y, .int .i64 q, .int .i64 z]]) := by
      rw [List.set_cons_succ, List.append_assoc, List.set_append_right (h := by omega), Nat.add_sub_cancel_left, List.append_assoc]; rfl
    rw [e5] at H5
    have l5 := H5.bl (P := P) (L.length + 1 + 1) 4 g5 rfl
    obtain ⟨h6, s6, H6, _⟩ := H5.set (P := P) (L.length + 1) (n := 4) (o := 0) (ty := t_impl_Job) (w := jv ⟨x, y, q, z⟩) (r := h.length) (cs := zJ) g4 rfl e_t_impl_Job (by simp) (by simp) (by simp)
    have e6 : (cu r vc a s :: ((L ++ [.box h.length zJ]) ++ [.box h3.length [.int .i64 x, .int .i64 y, .int .i64 q, .int .i64 z]])).set (L.length + 1) (.box h.length (splice zJ 0 (jv ⟨x, y, q, z⟩).cells.toList)) = cu r vc a s :: ((L ++ [.box h.length [.int .i64 x, .int .i64 y, .int .i64 q, .int .i64 z]]) ++ [.box h3.length [.int .i64 x, .int .i64 y, .int .i64 q, .int .i64 z]]) := by
      rw [List.set_cons_succ, List.append_assoc, List.set_append_right (h := Nat.le_refl _), Nat.sub_self, List.append_assoc]; rfl
    rw [e6] at H6
    have s6' : storeP P h5 85 (.agg #[.int .i64 x, .int .i64 y, .int .i64 q, .int .i64 z]) (.pointer (some ⟨h.length, 0, some 4⟩)) = some h6 := s6
    have l6 := H6.bl (P := P) (L.length + 1) 4 g4 rfl
    simp -implicitDefEqProofs [-storeP_app0, s5, l5, s6', l6]
    exact onK hK ⟨⟨x, y, q, z⟩, rfl, C.gc (Cur.weak (T := [.box h.length [.int .i64 x, .int .i64 y, .int .i64 q, .int .i64 z]] ++ [.box h3.length [.int .i64 x, .int .i64 y, .int .i64 q, .int .i64 z]]) ⟨a, s, g1, by omega, by rw [← List.append_assoc]; exact H6⟩)⟩
end
end Go.Pm.PP

/- Draws: spoilt jobs, lists of jobs. -/
set_option linter.unusedVariables false
set_option linter.unusedSimpArgs false
set_option maxRecDepth 4000
set_option maxHeartbeats 8000000
namespace Go.Pm.PP
open Go.Pm Go.Proofs Go.Pm.PE
section
variable {h0 h : Hp} {r n : Nat} {vc : Value} {L : List Asn}
theorem spoiltJob_run (B : By h0 vc) (C : Cur h0 h r vc n L) (hn : n ≤ 2 ^ 30) {j : Job} : RunsC P G n_spec_l1Cur_spoiltJob [.pointer (some ⟨r, 0, some 3⟩), jv j] h fun v h' => ∃ j' : Job, v = jv j' ∧ Cur h0 h' r vc (n + 4) L := by
  refine hideC fun K hK => enter_run e_spec_l1Cur_spoiltJob (by simp) ?_
  have C1 : Cur h0 (h ++ [some ⟨[.int .i64 j.t, .int .i64 j.w, .int .i64 j.r, .int .i64 j.d], 0, false⟩, some ⟨zJ, 0, false⟩]) r vc n ((L ++ [.box h.length (encJ j)]) ++ [.box (h.length + 1) zJ]) := by
    have := (C.alloc (encJ j)).alloc zJ
    rw [List.append_assoc h, List.length_append] at this
    exact this
  have g3 : ∀ {A : Asn} {x : List Value} {T : List Asn}, (A :: ((L ++ [.box h.length x]) ++ T))[L.length + 1]? = some (.box h.length x) := by
    intro A x T
    rw [List.getElem?_cons_succ, List.append_assoc, List.getElem?_append_right (Nat.le_refl _), Nat.sub_self]; rfl
  have g4 : ∀ {A : Asn} {x : List Value} {B : Asn}, (A :: ((L ++ [B]) ++ [.box (h.length + 1) x]))[L.length + 1 + 1]? = some (.box (h.length + 1) x) := by
    intro A x B
    rw [List.getElem?_cons_succ, List.append_assoc, List.getElem?_append_right (by omega), Nat.add_sub_cancel_left]; rfl
  have fin : ∀ (fo : Nat) (q : Int) (j' : Job) (h5 : Hp), fo + 1 ≤ 4 → splice (encJ j) fo [.int .i64 q] = encJ j' → Cur h0 h5 r vc (n + 4) ((L ++ [.box h.length (encJ j)]) ++ [.box (h.length + 1) zJ]) →
      ∃ h6 h7, storeP P h5 t_int (.int .i64 q) (.pointer (some ⟨h.length, fo, some 4⟩)) = some h6 ∧ loadP P h6 85 (.pointer (some ⟨h.length, 0, some 4⟩)) = some (.agg #[.int .i64 j'.t, .int .i64 j'.w, .int .i64 j'.r, .int .i64 j'.d]) ∧
        storeP P h6 85 (.agg #[.int .i64 j'.t, .int .i64 j'.w, .int .i64 j'.r, .int .i64 j'.d]) (.pointer (some ⟨h.length + 1, 0, some 4⟩)) = some h7 ∧ loadP P h7 85 (.pointer (some ⟨h.length + 1, 0, some 4⟩)) = some (.agg #[.int .i64 j'.t, .int .i64 j'.w, .int .i64 j'.r, .int .i64 j'.d]) ∧ ∀ u, K (jv j') (gc h h7 u) := by
    intro fo q j' h5 hfo he ⟨a, s, a0, a1, H⟩
    obtain ⟨h6, s6, H6, _⟩ := H.set (P := P) (L.length + 1) (n := 4) (o := fo) (ty := t_int) (w := .int .i64 q) g3 rfl e_t_int (by simp) (by simpa [encJ] using hfo) (by simp)
    rw [show (Value.int .i64 q).cells.toList = [.int .i64 q] from rfl, he] at H6
    have e6 : (cu r vc a s :: ((L ++ [.box h.length (encJ j)]) ++ [.box (h.length + 1) zJ])).set (L.length + 1) (.box h.length (encJ j')) = cu r vc a s :: ((L ++ [.box h.length (encJ j')]) ++ [.box (h.length + 1) zJ]) := by
      rw [List.set_cons_succ, List.append_assoc, List.set_append_right (h := Nat.le_refl _), Nat.sub_self, List.append_assoc]; rfl
    rw [e6] at H6
    have l6 := H6.bl (P := P) (L.length + 1) 4 g3 rfl t_impl_Job 0
    obtain ⟨h7, s7, H7, _⟩ := H6.set (P := P) (L.length + 1 + 1) (n := 4) (o := 0) (ty := t_impl_Job) (w := jv j') g4 rfl e_t_impl_Job (by simp) (by simp) (by simp)
    have e7 : (cu r vc a s :: ((L ++ [.box h.length (encJ j')]) ++ [.box (h.length + 1) zJ])).set (L.length + 1 + 1) (.box (h.length + 1) (splice zJ 0 (jv j').cells.toList)) = cu r vc a s :: ((L ++ [.box h.length (encJ j')]) ++ [.box (h.length + 1) (encJ j')]) := by
      rw [List.set_cons_succ, List.append_assoc, List.set_append_right (h := by omega), Nat.add_sub_cancel_left, List.append_assoc]; rfl
    rw [e7] at H7
    have l7 := H7.bl (P := P) (L.length + 1 + 1) 4 g4 rfl t_impl_Job 0
    refine ⟨h6, h7, s6, by rw [l6]; simp [encJ], s7, by rw [l7]; simp [encJ], fun u => onK hK ⟨j', rfl, C.gc (Cur.weak (T := [.box h.length (encJ j')] ++ [.box (h.length + 1) (encJ j')]) ⟨a, s, a0, by omega, by rw [← List.append_assoc]; exact H7⟩)⟩⟩
  simp -implicitDefEqProofs
  refine CL_post (pick_run B C1 (by omega) (k := 4) (by omega)) fun v h2 ⟨x, ev, x0, _, _, C2⟩ => ?_
  subst ev
  by_cases c0 : x = 0
  · subst c0
    simp -implicitDefEqProofs
    refine CL_post (among_run B (C2.lit [0, 50, 51, -1, 4611686018427387904]) (by omega) snoc_get (by simp) (by simp)) fun v h3 ⟨q, ev, _, C3⟩ => ?_
    subst ev
    obtain ⟨h6, h7, s6, l6, s7, l7, f⟩ := fin 0 q ⟨q, j.w, j.r, j.d⟩ h3 (by omega) rfl C3.weak
    simp -implicitDefEqProofs [s6, l6, s7, l7]
    exact f _
  · by_cases c1 : x = 1
    · subst c1
      simp -implicitDefEqProofs
      refine CL_post (among_run B (C2.lit [-1, 50, 51]) (by omega) snoc_get (by simp) (by simp)) fun v h3 ⟨q, ev, _, C3⟩ => ?_
      subst ev
      obtain ⟨h6, h7, s6, l6, s7, l7, f⟩ := fin 1 q ⟨j.t, q, j.r, j.d⟩ h3 (by omega) rfl C3.weak
      simp -implicitDefEqProofs [s6, l6, s7, l7]
      exact f _
    · by_cases c2 : x = 2
      · subst c2
        simp -implicitDefEqProofs
        refine CL_post (among_run B (C2.lit [-1, 500, 501]) (by omega) snoc_get (by simp) (by simp)) fun v h3 ⟨q, ev, _, C3⟩ => ?_
        subst ev
        obtain ⟨h6, h7, s6, l6, s7, l7, f⟩ := fin 2 q ⟨j.t, j.w, q, j.d⟩ h3 (by omega) rfl C3.weak
        simp -implicitDefEqProofs [s6, l6, s7, l7]
        exact f _
      · simp -implicitDefEqProofs [nb c0, nb c1, nb c2]
        refine CL_post (among_run B (C2.lit [-1, 500, 501, -9223372036854775808]) (by omega) snoc_get (by simp) (by simp)) fun v h3 ⟨q, ev, _, C3⟩ => ?_
        subst ev
        obtain ⟨h6, h7, s6, l6, s7, l7, f⟩ := fin 3 q ⟨j.t, j.w, j.r, q⟩ h3 (by omega) rfl C3.weak
        simp -implicitDefEqProofs [s6, l6, s7, l7]
        exact f _
end
end Go.Pm.PP

/- Draws: lists of jobs. -/
set_option linter.unusedVariables false
set_option linter.unusedSimpArgs false
set_option maxRecDepth 4000
set_option maxHeartbeats 16000000
namespace Go.Pm.PP
open Go.Pm Go.Proofs Go.Pm.PE
section
variable {h0 h : Hp} {r n : Nat} {vc : Value} {L : List Asn}
/-- Something is put at the end of a list of one's own that is drawn. -/
theorem Cur.pushJ {u : Value} {js : List Job} (C : Cur h0 h r vc n (L ++ [.own u 4 (js.map encJ)])) (j : Job) (hl : js.length ≤ 2 ^ 40) : ∃ u' h', appendP P (h ++ [some ⟨[.int .i64 j.t, .int .i64 j.w, .int .i64 j.r, .int .i64 j.d], 4, false⟩]) t_S_impl_Job u (.slice (some ⟨h.length, 0, some 4⟩) 1 1) = some (u', h') ∧ Cur h0 h' r vc n (L ++ [.own u' 4 ((js ++ [j]).map encJ)]) := by
  obtain ⟨a, s, h1, h2, H⟩ := C
  obtain ⟨u', h', g1, g2, _⟩ := push_J0 H (L.length + 1) (by rw [List.getElem?_cons_succ]; exact snoc_get) j hl
  refine ⟨u', h', g1, a, s, h1, h2, ?_⟩
  rw [List.set_cons_succ, List.set_append_right (h := Nat.le_refl _), Nat.sub_self] at g2
  exact g2
theorem Cur.seesJ {u : Value} {js : List Job} (C : Cur h0 h r vc n (L ++ [.own u 4 (js.map encJ)])) : Jobs h u js := by
  obtain ⟨a, s, h1, h2, H⟩ := C
  exact H.sees (L.length + 1) (by rw [List.getElem?_cons_succ]; exact snoc_get)
theorem Cur.putJ {u : Value} {js : List Job} (C : Cur h0 h r vc n (L ++ [.own u 4 (js.map encJ)])) {k : Nat} (hk : k < js.length) (j : Job) : ∃ h', storeP P h t_impl_Job (jv j) (.pointer (some (addP (base u) (k * 4)))) = some h' ∧ Cur h0 h' r vc n (L ++ [.own u 4 ((js.set k j).map encJ)]) := by
  obtain ⟨a, s, h1, h2, H⟩ := C
  obtain ⟨h', g1, g2, _⟩ := put_J H (L.length + 1) (by rw [List.getElem?_cons_succ]; exact snoc_get) hk j
  refine ⟨h', g1, a, s, h1, h2, ?_⟩
  rw [List.set_cons_succ, List.set_append_right (h := Nat.le_refl _), Nat.sub_self] at g2
  exact g2
theorem Cur.nil (C : Cur h0 h r vc n L) (α : Type) (enc : α → List Value) (sz : Nat) : Cur h0 h r vc n (L ++ [.own (.slice none 0 0) sz (([] : List α).map enc)]) := by
  obtain ⟨a, s, h1, h2, H⟩ := C
  exact ⟨a, s, h1, h2, H.call List.prefix_rfl (by simpa using Own.nil)⟩
theorem someJobs_run (B : By h0 vc) (C : Cur h0 h r vc n L) (hn : n ≤ 2 ^ 20) {b : Bool} {most : Nat} (hm : most ≤ 8) : RunsC P G n_spec_l1Cur_someJobs [.pointer (some ⟨r, 0, some 3⟩), .bool b, .int .i64 most] h fun v h' => ∃ js : List Job, js.length ≤ 9 ∧ Cur h0 h' r vc (n + 200) (L ++ [.own v 4 (js.map encJ)]) := by
  refine hideC fun K hK => enter_run e_spec_l1Cur_someJobs (by simp) ?_
  simp -implicitDefEqProofs
  refine CL_post (among_run B (C.lit [3, 4, 5, 2, 6, 1, 0]) (by omega) snoc_get (by simp) (by simp)) fun v h1 ⟨x, ev, hx, C1'⟩ => ?_
  subst ev
  have hx2 : 0 ≤ x ∧ x ≤ 6 := by
    simp only [List.mem_cons, List.not_mem_nil, or_false] at hx
    omega
  have C1 := C1'.weak
  obtain ⟨X, hX, hX2⟩ : ∃ X : Int, X = x ∧ 0 ≤ X ∧ X ≤ 9 := ⟨x, rfl, by omega, by omega⟩
  by_cases c : (6 : Int) < most
  case' neg =>
    rw [← hX]
    clear hX
    have C2 : Cur h0 h1 r vc (n + 6) L := C1.mono (by omega)
    obtain ⟨h2, hh2⟩ : ∃ h2, h2 = h1 := ⟨_, rfl⟩
    have c' : ¬ 6 < most := by omega
    simp -implicitDefEqProofs [c, c']
    rw [← hh2] at C2 ⊢
  case' pos =>
    clear hX hX2
    have c' : 6 < most := by omega
    simp -implicitDefEqProofs [c, c']
    refine CL_post (one_run B C1 (by omega) (k := 6) (by omega)) fun v h2 ⟨b2, ev, C1''⟩ => ?_
    subst ev
    clear X
    cases b2
    case' false =>
      obtain ⟨X, hX, hX2⟩ : ∃ X : Int, X = x ∧ 0 ≤ X ∧ X ≤ 9 := ⟨x, rfl, by omega, by omega⟩
      rw [← hX]
      clear hX
      have C2 : Cur h0 h2 r vc (n + 6) L := C1''.mono (by omega)
      simp -implicitDefEqProofs
    case' true =>
      simp -implicitDefEqProofs
      refine CL_post (pick_run B C1'' (by omega) (k := 2) (by omega)) fun v h2 ⟨y, ev, y0, _, y1, C2'⟩ => ?_
      subst ev
      have y2 := y1 (by omega)
      have w7 : IntKind.i64.wrap (7 + y) = 7 + y := by rw [wrap_ok] <;> omega
      obtain ⟨X, hX, hX2⟩ : ∃ X : Int, X = 7 + y ∧ 0 ≤ X ∧ X ≤ 9 := ⟨7 + y, rfl, by omega, by omega⟩
      have C2 : Cur h0 h2 r vc (n + 6) L := C2'.mono (by omega)
      simp -implicitDefEqProofs [w7]
      rw [← hX]
  all_goals
    refine R_loopO (fun m st h' => ∃ (js : List Job) (u : Value), st = [(0, .pointer (some ⟨r, 0, some 3⟩)), (1, .bool b), (2, .int .i64 most), (7, u), (8, .int .i64 m)] ∧ js.length + m ≤ 9 ∧ Cur h0 h' r vc (n + 6 + 8 * js.length) (L ++ [.own u 4 (js.map encJ)])) (fun I hI m st h' => ?_) (n := X.toNat) ⟨[], .slice none 0 0, by simp; omega, by simp; omega, C2.nil Job encJ 4⟩
    rintro ⟨js, u, rfl, hj, C3⟩
    obtain ⟨ua, uc, rfl⟩ : ∃ a c, u = .slice a js.length c := C3.seesJ.shapeT
    by_cases c1 : 0 < m
    case' pos =>
      by_cases c2 : js.length < most
      case pos =>
        have w1 : IntKind.i64.wrap ((m : Int) - 1) = ((m - 1 : Nat) : Int) := by rw [wrap_ok] <;> omega
        have c1' : (0 : Int) < m := by omega
        have c2' : (js.length : Int) < most := by omega
        simp -implicitDefEqProofs [c1, c1', c2, c2']
        refine CL_post (job_run B C3 (by omega) (b := b)) fun v h4 ⟨j, ev, C4⟩ => ?_
        subst ev
        obtain ⟨u', h5, ha, C5⟩ := C4.pushJ j (by omega)
        simp -implicitDefEqProofs [ha, w1]
        exact ⟨m - 1, by omega, on hI ⟨js ++ [j], u', rfl, by simp; omega, by
          have e : n + 6 + 8 * (js ++ [j]).length = n + 6 + 8 * js.length + 8 := by simp; omega
          rw [e]; exact C5⟩⟩
      case' neg =>
        have c1' : (0 : Int) < m := by omega
        have c2' : ¬ (js.length : Int) < most := by omega
        simp -implicitDefEqProofs [c1, c1', c2, c2']
    case' neg =>
      have c1' : ¬ (0 : Int) < m := by omega
      simp -implicitDefEqProofs [c1, c1']
    all_goals
      by_cases c3 : 0 < js.length
      case' neg =>
        have c3' : ¬ (0 : Int) < js.length := by omega
        have C5 : Cur h0 h' r vc (n + 86) (L ++ [.own (.slice ua js.length uc) 4 (js.map encJ)]) := C3.mono (by omega)
        have hl5 : js.length ≤ 9 := by omega
        simp -implicitDefEqProofs [c3, c3']
      case' pos =>
        have c3' : (0 : Int) < js.length := by omega
        simp -implicitDefEqProofs [c3, c3']
        refine CL_post (one_run B C3 (by omega) (k := 20) (by omega)) fun v h4 ⟨b3, ev, C4⟩ => ?_
        subst ev
        cases b3
        case' false =>
          have C5 : Cur h0 h4 r vc (n + 86) (L ++ [.own (.slice ua js.length uc) 4 (js.map encJ)]) := C4.mono (by omega)
          have hl5 : js.length ≤ 9 := by omega
          simp -implicitDefEqProofs
        case' true =>
          simp -implicitDefEqProofs
          refine CL_post (pick_run B C4 (by omega) (k := js.length) (by omega)) fun v h5 ⟨q, ev, q0, _, q1, C5'⟩ => ?_
          subst ev
          obtain ⟨k, rfl⟩ : ∃ k : Nat, q = k := ⟨q.toNat, by omega⟩
          have hk : k < js.length := by have := q1 (by omega); omega
          obtain ⟨y, hy, _⟩ := drop_at hk
          have ly := load_J C5'.seesJ hy
          simp -implicitDefEqProofs [-indexAddrP_some, ly]
          refine CL_post (spoiltJob_run B C5' (by omega) (j := y)) fun v h6 ⟨j', ev, C6'⟩ => ?_
          subst ev
          have ix := (load_J C6'.seesJ hy).1
          obtain ⟨h7, s7, C7⟩ := C6'.putJ hk j'
          have C5 : Cur h0 h7 r vc (n + 86) (L ++ [.own (.slice ua js.length uc) 4 ((js.set k j').map encJ)]) := C7.mono (by omega)
          have hl5 : (js.set k j').length ≤ 9 := by rw [List.length_set]; omega
          simp -implicitDefEqProofs [-indexAddrP_some, ix, s7]
      all_goals
        refine CL_post (one_run B C5 (by omega) (k := 60) (by omega)) fun v h8 ⟨b4, ev, C8⟩ => ?_
        subst ev
        cases b4
        case false =>
          simp -implicitDefEqProofs
          exact onK hK ⟨_, hl5, C.gcO (C8.mono (by omega)) (fun h => h)⟩
        case true =>
          simp -implicitDefEqProofs
          refine R_loopO (fun m st h' => ∃ (js : List Job) (u : Value), st = [(0, .pointer (some ⟨r, 0, some 3⟩)), (1, .bool b), (7, u)] ∧ js.length + m = 9 ∧ Cur h0 h' r vc (n + 88 + 8 * js.length) (L ++ [.own u 4 (js.map encJ)])) (fun I2 hI2 m2 st h' => ?_) (n := 9 - js.length) ⟨_, _, by simp, ?_, C8.mono (by omega)⟩
          · rintro ⟨js2, u2, rfl, hj2, C9⟩
            obtain ⟨ub, ud, rfl⟩ : ∃ a c, u2 = .slice a js2.length c := C9.seesJ.shapeT
            by_cases c9 : js2.length < 9
            · have c9' : (js2.length : Int) < 9 := by omega
              simp -implicitDefEqProofs [c9, c9']
              refine CL_post (job_run B C9 (by omega) (b := b)) fun v h10 ⟨j, ev, C10⟩ => ?_
              subst ev
              obtain ⟨u', h11, ha, C11⟩ := C10.pushJ j (by omega)
              simp -implicitDefEqProofs [ha]
              exact ⟨m2 - 1, by omega, on hI2 ⟨js2 ++ [j], u', rfl, by simp; omega, by
                have e : n + 88 + 8 * (js2 ++ [j]).length = n + 88 + 8 * js2.length + 8 := by simp; omega
                rw [e]; exact C11⟩⟩
            · have c9' : ¬ (js2.length : Int) < 9 := by omega
              simp -implicitDefEqProofs [c9, c9']
              exact onK hK ⟨js2, by omega, C.gcO (C9.mono (by omega)) (fun h => h)⟩
          · first | omega | (rw [List.length_set]; omega)
end
end Go.Pm.PP

/- Draws: orders; the draw of jobs, an order and an objective. -/
set_option linter.unusedVariables false
set_option linter.unusedSimpArgs false
set_option maxRecDepth 4000
set_option maxHeartbeats 16000000
namespace Go.Pm.PP
open Go.Pm Go.Proofs Go.Pm.PE
section
variable {h0 h : Hp} {r n : Nat} {vc : Value} {L : List Asn}
theorem Cur.seesI {u : Value} {xs : List Int} (C : Cur h0 h r vc n (L ++ [.own u 1 (xs.map encI)])) : Ints h u xs := by
  obtain ⟨a, s, h1, h2, H⟩ := C
  exact H.sees (L.length + 1) (by rw [List.getElem?_cons_succ]; exact snoc_get)
theorem Cur.join {h1 : Hp} {A : Asn} (C : Cur h0 h r vc n L) (D : Holds h h1 [A]) : Cur h0 h1 r vc n (L ++ [A]) := by
  obtain ⟨a, s, g1, g2, H⟩ := C
  exact ⟨a, s, g1, g2, H.join D⟩
end
end Go.Pm.PP
