/- The texts PqA, PlJ, PvA, PvB, PvG, Ps1, Ps2, Ps3, PvSa, Ps4, Ps5, Ps6, Ps7, PvV, PvN, PvW, PvX of this work: Orders of a list, one after the other, in plain terms: the next order of the program is the next one of the reference's list. -/
import Derived.Test.YtcmbjbddjlamaaaM3
import Derived.Test.YtcmbjbddjlamaaaF5
import Derived.Test.YtcmbjbddjlamaaaM4
/- Orders of a list, one after the other, in plain terms: the next order of the program is the next one of the reference's list. -/
set_option linter.unusedVariables false
set_option linter.unusedSimpArgs false
namespace Go.Pm.PE
/-- All orders, by the first element. -/
def perms : List Int → Nat → List (List Int)
  | _, 0 => [[]]
  | l, n + 1 => (List.range' 0 l.length).flatMap fun i => (perms (l.eraseIdx i) n).map ((l[i]?.getD 0) :: ·)
/-- The last element greater than x gives way to x: the element and what there is then. -/
def swapL (x : Int) : List Int → Option (Int × List Int)
  | [] => none
  | y :: r => match swapL x r with
    | some (z, r') => some (z, y :: r')
    | none => if x < y then some (y, x :: r) else none
def nextP : List Int → Option (List Int)
  | [] => none
  | x :: t => match nextP t with
    | some t' => some (x :: t')
    | none => match swapL x t with
      | some (y, t') => some (y :: t'.reverse)
      | none => none
def Asc (l : List Int) : Prop := l.Pairwise (· < ·)
theorem swapL_none {x : Int} : ∀ {l : List Int}, swapL x l = none ↔ ∀ y, y ∈ l → ¬ x < y
  | [] => by simp [swapL]
  | z :: r => by
    rw [swapL]
    cases h : swapL x r with
    | some p =>
      simp only [reduceCtorEq, false_iff]
      intro g
      have : swapL x r = none := swapL_none.2 fun y hy => g y (List.mem_cons_of_mem _ hy)
      rw [h] at this; cases this
    | none =>
      have hr := swapL_none.1 h
      show (if x < z then some (z, x :: r) else none) = none ↔ _
      split
      · rename_i hz
        simp only [reduceCtorEq, false_iff]
        intro g; exact g z (List.mem_cons_self ..) hz
      · rename_i hz
        simp only [true_iff]
        intro y hy
        rcases List.mem_cons.1 hy with rfl | hy
        · exact hz
        · exact hr y hy
theorem swapL_some {x y : Int} {b : List Int} (hb : ∀ z, z ∈ b → ¬ x < z) (hy : x < y) : ∀ {a : List Int}, swapL x (a ++ y :: b) = some (y, a ++ x :: b)
  | [] => by
    rw [List.nil_append, swapL, swapL_none.2 hb, List.nil_append]
    simp [hy]
  | z :: a => by
    rw [List.cons_append, swapL, swapL_some hb hy]
    rfl
theorem desc_next : ∀ {l : List Int}, l.Pairwise (· > ·) → nextP l = none
  | [], _ => rfl
  | x :: t, h => by
    have h := List.pairwise_cons.1 h
    rw [nextP, desc_next h.2, swapL_none.2 fun y hy => by have := h.1 y hy; omega]
theorem asc_rev {l : List Int} (h : Asc l) : l.reverse.Pairwise (· > ·) := by
  rw [List.pairwise_reverse]
  exact h
/-- Each one's next one is the one behind it. -/
def Chn (L : List (List Int)) : Prop := ∀ i p, L[i]? = some p → nextP p = L[i + 1]?
theorem erase_asc {l : List Int} (h : Asc l) (i : Nat) : Asc (l.eraseIdx i) := h.sublist (List.eraseIdx_sublist ..)
/-- From the end of a block to the next one. -/
theorem next_block {l : List Int} (h : Asc l) {i : Nat} {x y : Int} (hx : l[i]? = some x) (hy : l[i + 1]? = some y) : nextP (x :: (l.eraseIdx i).reverse) = some (y :: l.eraseIdx (i + 1)) := by
  obtain ⟨a, b, rfl, rfl⟩ : ∃ a b, l = a ++ x :: y :: b ∧ i = a.length := by
    have h1 := (List.getElem?_eq_some_iff.1 hx).1
    have h2 := (List.getElem?_eq_some_iff.1 hy).1
    refine ⟨l.take i, l.drop (i + 2), ?_, by simp; omega⟩
    have e1 : l.drop i = x :: l.drop (i + 1) := by
      rw [List.drop_eq_getElem_cons h1]; congr 1; exact (List.getElem?_eq_some_iff.1 hx).2
    have e2 : l.drop (i + 1) = y :: l.drop (i + 2) := by
      rw [List.drop_eq_getElem_cons h2]; congr 1; exact (List.getElem?_eq_some_iff.1 hy).2
    rw [← e2, ← e1, List.take_append_drop]
  have e1 : (a ++ x :: y :: b).eraseIdx a.length = a ++ y :: b := by
    rw [List.eraseIdx_append_of_length_le (Nat.le_refl _), Nat.sub_self]; rfl
  have e2 : (a ++ x :: y :: b).eraseIdx (a.length + 1) = a ++ x :: b := by
    rw [List.eraseIdx_append_of_length_le (by omega), Nat.add_sub_cancel_left]; rfl
  rw [e1, e2]
  have hp := List.pairwise_append.1 h
  have hxy := List.pairwise_cons.1 hp.2.1
  have hax : ∀ z, z ∈ a.reverse → ¬ x < z := fun z hz => by
    have := hp.2.2 z (List.mem_reverse.1 hz) x (List.mem_cons_self ..)
    omega
  have hxly : x < y := hxy.1 y (List.mem_cons_self ..)
  have hsub : (a ++ y :: b).Sublist (a ++ x :: y :: b) := List.Sublist.append_left (List.sublist_cons_self ..) a
  have hd : nextP (a ++ y :: b).reverse = none := desc_next (asc_rev (h.sublist hsub))
  rw [nextP, hd]
  have er : (a ++ y :: b).reverse = b.reverse ++ y :: a.reverse := by simp
  rw [er, swapL_some hax hxly]
  simp
theorem flat_get {α β : Type} {f : α → List β} : ∀ {l : List α} {i j : Nat} {x : α} {y : β}, l[i]? = some x → (f x)[j]? = some y → ∃ k, (l.flatMap f)[k]? = some y ∧ ((l.flatMap f)[k + 1]? = match (f x)[j + 1]? with | some z => some z | none => ((l.drop (i + 1)).flatMap f)[0]?)
  | a :: l, 0, j, x, y, h1, h2 => by
    simp at h1; subst h1
    refine ⟨j, ?_, ?_⟩
    · rw [List.flatMap_cons, List.getElem?_append_left (List.getElem?_eq_some_iff.1 h2).1]; exact h2
    · rw [List.flatMap_cons]
      have hj := (List.getElem?_eq_some_iff.1 h2).1
      cases h3 : (f a)[j + 1]? with
      | some z => rw [List.getElem?_append_left (List.getElem?_eq_some_iff.1 h3).1]; exact h3
      | none =>
        have h4 := List.getElem?_eq_none_iff.1 h3
        rw [List.getElem?_append_right h4, show j + 1 - (f a).length = 0 by omega]
        rfl
  | a :: l, i + 1, j, x, y, h1, h2 => by
    obtain ⟨k, h3, h4⟩ := @flat_get α β f l i j x y (by simpa using h1) h2
    refine ⟨(f a).length + k, ?_, ?_⟩
    · rw [List.flatMap_cons, List.getElem?_append_right (by omega), Nat.add_sub_cancel_left]; exact h3
    · rw [List.flatMap_cons, List.getElem?_append_right (by omega), show (f a).length + k + 1 - (f a).length = k + 1 by omega, h4, List.drop_succ_cons]
/-- Where an element of a list of lists, told one after the other, comes from. -/
theorem flat_at {α β : Type} {f : α → List β} : ∀ {l : List α} {k : Nat} {y : β}, (l.flatMap f)[k]? = some y → ∃ i j x, l[i]? = some x ∧ (f x)[j]? = some y ∧ (l.flatMap f)[k + 1]? = match (f x)[j + 1]? with | some z => some z | none => ((l.drop (i + 1)).flatMap f)[0]?
  | [], k, y, h => by simp at h
  | a :: l, k, y, h => by
    rw [List.flatMap_cons] at h
    rcases Nat.lt_or_ge k (f a).length with g | g
    · rw [List.getElem?_append_left g] at h
      refine ⟨0, k, a, rfl, h, ?_⟩
      rw [List.flatMap_cons]
      cases h3 : (f a)[k + 1]? with
      | some z => rw [List.getElem?_append_left (List.getElem?_eq_some_iff.1 h3).1]; exact h3
      | none =>
        have h4 := List.getElem?_eq_none_iff.1 h3
        rw [List.getElem?_append_right h4, show k + 1 - (f a).length = 0 by omega]
        rfl
    · rw [List.getElem?_append_right g] at h
      obtain ⟨i, j, x, h1, h2, h3⟩ := flat_at h
      refine ⟨i + 1, j, x, by simpa using h1, h2, ?_⟩
      rw [List.flatMap_cons, List.getElem?_append_right (by omega), show k + 1 - (f a).length = k - (f a).length + 1 by omega, h3, List.drop_succ_cons]
theorem perms_main : ∀ {n : Nat} {l : List Int}, l.length = n → Asc l → (perms l n)[0]? = some l ∧ Chn (perms l n) ∧ ∀ i p, (perms l n)[i]? = some p → (perms l n)[i + 1]? = none → p = l.reverse
  | 0, l, hn, _ => by
    have : l = [] := List.eq_nil_of_length_eq_zero hn
    subst this
    refine ⟨rfl, fun i p h => ?_, fun i p h _ => ?_⟩
    · match i with
      | 0 => simp [perms] at h; subst h; rfl
      | i + 1 => simp [perms] at h
    · match i with
      | 0 => simp [perms] at h; subst h; rfl
      | i + 1 => simp [perms] at h
  | n + 1, l, hn, ha => by
    have sub : ∀ i, i < l.length → (perms (l.eraseIdx i) n)[0]? = some (l.eraseIdx i) ∧ Chn (perms (l.eraseIdx i) n) ∧ ∀ j p, (perms (l.eraseIdx i) n)[j]? = some p → (perms (l.eraseIdx i) n)[j + 1]? = none → p = (l.eraseIdx i).reverse := fun i hi =>
      perms_main (by rw [List.length_eraseIdx_of_lt hi]; omega) (erase_asc ha i)
    have first : ∀ i, i < l.length → ((List.range' i (l.length - i)).flatMap fun i => (perms (l.eraseIdx i) n).map ((l[i]?.getD 0) :: ·))[0]? = some (l[i]?.getD 0 :: l.eraseIdx i) := fun i hi => by
      rw [show l.length - i = (l.length - (i + 1)) + 1 by omega, List.range'_succ, List.flatMap_cons]
      have h1 := (sub i hi).1
      have h2 : 0 < ((perms (l.eraseIdx i) n).map ((l[i]?.getD 0) :: ·)).length := by rw [List.length_map]; exact (List.getElem?_eq_some_iff.1 h1).1
      rw [List.getElem?_append_left h2, List.getElem?_map, h1]; rfl
    rw [perms]
    refine ⟨?_, fun k p hk => ?_, fun k p hk hk2 => ?_⟩
    · rw [show l.length = l.length - 0 by omega, first 0 (by omega)]
      match l, hn with
      | a :: l, _ => rfl
    · obtain ⟨i, j, x, h1, h2, h3⟩ := flat_at hk
      have hi : i < l.length := by have := (List.getElem?_eq_some_iff.1 h1).1; simpa using this
      have hx : x = i := by rw [List.getElem?_range' hi] at h1; simp at h1; omega
      subst hx
      rw [List.getElem?_map] at h2
      obtain ⟨q, hq, rfl⟩ := Option.map_eq_some_iff.1 h2
      obtain ⟨g1, g2, g3⟩ := sub x hi
      have hnx := g2 j q hq
      rw [h3, List.getElem?_map]
      rw [nextP, hnx]
      cases hq2 : (perms (l.eraseIdx x) n)[j + 1]? with
      | some q' => rfl
      | none =>
        have hrev := g3 j q hq hq2
        subst hrev
        simp only [Option.map_none]
        rw [List.drop_range' , show 0 + (x + 1) * 1 = x + 1 by omega]
        obtain ⟨a, hxa, _⟩ := drop_at hi
        by_cases hlt : x + 1 < l.length
        · obtain ⟨y, hy, _⟩ := drop_at hlt
          rw [first (x + 1) hlt, hy, hxa]
          have := next_block ha hxa hy
          rw [nextP, hnx, hq2] at this
          simpa using this
        · rw [show l.length - (x + 1) = 0 by omega]
          have hd : nextP (a :: (l.eraseIdx x).reverse) = none := by
            refine desc_next (List.pairwise_cons.2 ⟨fun z hz => ?_, asc_rev (erase_asc ha x)⟩)
            have hz := List.mem_reverse.1 hz
            have e : l.eraseIdx x = l.take x := by
              rw [List.eraseIdx_eq_take_drop_succ, List.drop_eq_nil_of_le (by omega), List.append_nil]
            rw [e] at hz
            obtain ⟨m, hm, rfl⟩ := List.mem_take_iff_getElem.1 hz
            have := List.pairwise_iff_getElem.1 ha m x (by omega) hi (by omega)
            rw [(List.getElem?_eq_some_iff.1 hxa).2] at this
            exact this
          rw [nextP, hnx, hq2] at hd
          rw [hxa]
          simpa using hd
    · obtain ⟨i, j, x, h1, h2, h3⟩ := flat_at hk
      have hi : i < l.length := by have := (List.getElem?_eq_some_iff.1 h1).1; simpa using this
      have hx : x = i := by rw [List.getElem?_range' hi] at h1; simp at h1; omega
      subst hx
      rw [List.getElem?_map] at h2
      obtain ⟨q, hq, rfl⟩ := Option.map_eq_some_iff.1 h2
      obtain ⟨g1, g2, g3⟩ := sub x hi
      rw [h3, List.getElem?_map] at hk2
      cases hq2 : (perms (l.eraseIdx x) n)[j + 1]? with
      | some q' => rw [hq2] at hk2; simp at hk2
      | none =>
        rw [hq2] at hk2
        simp only [Option.map_none] at hk2
        rw [List.drop_range', show 0 + (x + 1) * 1 = x + 1 by omega] at hk2
        have hlt : ¬ x + 1 < l.length := fun hlt => by rw [first (x + 1) hlt] at hk2; cases hk2
        have hrev := g3 j q hq hq2
        subst hrev
        obtain ⟨a, hxa, hd⟩ := drop_at hi
        have e : l.eraseIdx x = l.take x := by
          rw [List.eraseIdx_eq_take_drop_succ, List.drop_eq_nil_of_le (by omega), List.append_nil]
        rw [e, hxa, Option.getD_some]
        have : l = l.take x ++ [a] := by
          conv => lhs; rw [← List.take_append_drop x l, hd, List.drop_eq_nil_of_le (by omega)]
        conv => rhs; rw [this]
        simp
end Go.Pm.PE

/- Jobs, ends and values of objectives, in plain terms; searches through all orders. -/
set_option linter.unusedVariables false
set_option linter.unusedSimpArgs false
namespace Go.Pm.PP
open Go.Pm Go.Pm.PE
structure Job where
  t : Int
  w : Int
  r : Int
  d : Int
def jA (js : List Job) (x : Int) : Job := (js[x.toNat]?).getD ⟨0, 0, 0, 0⟩
def gE (l : List Int) (i : Nat) : Int := (l[i]?).getD 0
theorem gE_set {l : List Int} {j i : Nat} {x : Int} (h : j < l.length) : gE (l.set j x) i = if i = j then x else gE l i := by
  unfold gE
  rw [List.getElem?_set]
  by_cases e : j = i
  · subst e; simp [h]
  · rw [if_neg e, if_neg fun g => e g.symm]
theorem gE_get {l : List Int} {i : Nat} (h : i < l.length) : l[i]? = some (gE l i) := by simp [gE, List.getElem?_eq_getElem h]
def endGo (js : List Job) : List Int → Int → List Int → List Int
  | [], _, E => E
  | x :: r, now, E => endGo js r (max now (jA js x).r + (jA js x).t) (E.set x.toNat (max now (jA js x).r + (jA js x).t))
def endsL (js : List Job) (xs : List Int) : List Int := endGo js xs 0 (List.replicate js.length 0)
theorem endGo_len {js : List Job} : ∀ {xs : List Int} {now : Int} {E : List Int}, (endGo js xs now E).length = E.length
  | [], _, _ => rfl
  | x :: r, now, E => by rw [endGo, endGo_len, List.length_set]
theorem endsL_len {js : List Job} {xs : List Int} : (endsL js xs).length = js.length := by rw [endsL, endGo_len, List.length_replicate]
def inN (n : Nat) (xs : List Int) : Prop := ∀ x, x ∈ xs → 0 ≤ x ∧ x < n
/-! ### values -/
def costV (o : Int) (j : Job) (e : Int) : Int := if o = 2 then e else if o = 3 then j.w * e else if o = 5 then max (e - j.d) 0 else if o = 6 then j.w * max (e - j.d) 0 else if max (e - j.d) 0 = 0 then 0 else if o = 7 then 1 else j.w
def stepV (o : Int) (first : Bool) (acc : Int) (j : Job) (e : Int) : Int := if o = 1 then max acc e else if o = 4 then (if first = true then e - j.d else max acc (e - j.d)) else acc + costV o j e
def valGo (o : Int) : Bool → Int → List Job → List Int → Int
  | f, acc, j :: js, e :: es => valGo o false (stepV o f acc j e) js es
  | _, acc, _, _ => acc
def valE (o : Int) (js : List Job) (es : List Int) : Int := valGo o true 0 js es
/-! ### searches -/
def rem (n : Nat) (begun : List Int) : List Int := ((List.range' 0 n).map fun i : Nat => (i : Int)).filter fun x => !begun.any (· == x)
theorem fold_congr {α β : Type} {f g : β → α → β} : ∀ {l : List α} {b : β}, (∀ x, x ∈ l → ∀ b, f b x = g b x) → l.foldl f b = l.foldl g b
  | [], _, _ => rfl
  | x :: l, b, h => by rw [List.foldl_cons, List.foldl_cons, h x (List.mem_cons_self ..)]; exact fold_congr fun y hy => h y (List.mem_cons_of_mem _ hy)
end Go.Pm.PP

/- Jobs, scenarios: what stands in slices. -/
set_option linter.unusedVariables false
set_option linter.unusedSimpArgs false
set_option maxRecDepth 4000
set_option maxHeartbeats 4000000
namespace Go.Pm.PP
open Go.Pm Go.Proofs
attribute [simp] evParts buildSliceP fillP buildP places reps
def encJ (j : Job) : List Value := [.int .i64 j.t, .int .i64 j.w, .int .i64 j.r, .int .i64 j.d]
abbrev jv (j : Job) : Value := .agg #[.int .i64 j.t, .int .i64 j.w, .int .i64 j.r, .int .i64 j.d]
abbrev Jobs (h : Hp) (v : Value) (js : List Job) : Prop := Sees h v 4 (js.map encJ)
def w64 (n : Int) : Int := IntKind.i64.wrap n
abbrev nilV : Value := .slice none 0 0
end Go.Pm.PP

/- Typed rules for slices: printed by a program of this work (wrap.py). -/
set_option linter.unusedVariables false
set_option linter.unusedSimpArgs false
set_option maxRecDepth 4000
namespace Go.Pm.PP
open Go.Pm Go.Proofs
theorem load_I {h : Hp} {v : Value} {xs : List (Int)} {i : Nat} {x : Int} (hv : Sees h v 1 (xs.map encI)) (hx : xs[i]? = some x) :
    indexAddrP P h t_S_int v (.int .i64 i) = some (.pointer (some (addP (base v) (i)))) ∧ loadP P h t_int (.pointer (some (addP (base v) (i)))) = some (.int .i64 x) := by
  have hi := (List.getElem?_eq_some_iff.1 hx).1
  have h1 := hv.indexT (P := P) u_S_int i_int (k := .i64) (j := i) (by omega) (by omega)
  rw [Int.toNat_natCast] at h1
  have h2 := hv.cellT (P := P) (ty := t_int) a_int i_int hx (k := 0) (by omega)
  exact ⟨by simpa using h1, by simpa [encI] using h2⟩
theorem len_I (xs : List (Int)) : ∀ e ∈ xs.map encI, e.length = 1 := by
  intro e he
  obtain ⟨x, _, rfl⟩ := List.mem_map.1 he
  rfl
theorem ones_I (xs : List (Int)) : (xs.map encI).flatten.all one = true := by
  induction xs with
  | nil => rfl
  | cons x xs ih => rw [List.map_cons, List.flatten_cons, List.all_append, ih]; rfl
theorem push_I0 {h0 h : Hp} {L : List Asn} (H : Holds h0 h L) (i : Nat) {v : Value} {xs : List (Int)} (hi : L[i]? = some (.own v 1 (xs.map encI))) (x : Int) (hn : xs.length ≤ 2 ^ 40) :
    ∃ v' h', appendP P (h ++ [some ⟨[.int .i64 x], 1, false⟩]) t_S_int v (.slice (some ⟨h.length, 0, some 1⟩) 1 1) = some (v', h') ∧ Holds h0 h' (L.set i (.own v' 1 ((xs ++ [x]).map encI))) ∧ Keeps (rowV v) h h' ∧ (rowV v = none → newOk (h ++ [some ⟨[.int .i64 x], 1, false⟩]) h') := by
  obtain ⟨v', h', g1, g2, g3, g4⟩ := (H.ext (List.prefix_append h [])).push (P := P) i (y := encI x) (n := 1) hi u_S_int e_t_int z_t_int s_t_int (by omega) (by rw [b_t_int]; omega) rfl rfl (by simp [encI]) (by rw [b_t_int]; simp; omega)
  rw [show xs.map encI ++ [encI x] = (xs ++ [x]).map encI by simp] at g2
  exact ⟨v', h', by simpa [encI] using g1, g2, Keeps.app.trans g3, by simpa [encI] using g4⟩
theorem app_I {h0 h : Hp} {L : List Asn} (H : Holds h0 h L) (i : Nat) {v u : Value} {xs ys : List (Int)} (hi : L[i]? = some (.own v 1 (xs.map encI))) (s : Sees h u 1 (ys.map encI)) (hn : xs.length + ys.length ≤ 2 ^ 40) :
    ∃ v' h', appendP P h t_S_int v u = some (v', h') ∧ Holds h0 h' (L.set i (.own v' 1 ((xs ++ ys).map encI))) ∧ Keeps (rowV v) h h' := by
  obtain ⟨v', h', g1, g2, g3⟩ := H.app (P := P) i hi u_S_int e_t_int z_t_int s_t_int (by omega) (by rw [b_t_int]; omega) s (ones_I ys) (by rw [b_t_int]; simp; omega)
  rw [← List.map_append] at g2
  exact ⟨v', h', g1, g2, g3⟩
theorem put_I {h0 h : Hp} {L : List Asn} (H : Holds h0 h L) (i : Nat) {v : Value} {xs : List (Int)} (hi : L[i]? = some (.own v 1 (xs.map encI))) {j : Nat} (hj : j < xs.length) (x : Int) :
    ∃ h', storeP P h t_int (.int .i64 x) (.pointer (some (addP (base v) (j)))) = some h' ∧ Holds h0 h' (L.set i (.own v 1 ((xs.set j x).map encI))) ∧ Keeps (rowV v) h h' := by
  have := H.put (P := P) i (t := t_int) (w := .int .i64 x) (j := j) hi i_int (by simpa using hj) rfl (by simp)
  simpa [List.map_set, encI] using this
theorem make_I {h0 h : Hp} {L : List Asn} (H : Holds h0 h L) {n : Nat} (hn : n ≤ 2 ^ 40) :
    ∃ v h', makeP P h t_S_int (.int .i64 n) (.int .i64 n) = some (v, h') ∧ Holds h0 h' (L ++ [.own v 1 ((List.replicate n (0 : Int)).map encI)]) ∧ h <+: h' ∧ (∃ oa, v = .slice oa n n) := by
  have mk := make_eq (h := h) u_S_int e_t_int z_t_int rfl (by rw [s_t_int]; omega) (by rw [b_t_int]; omega) (n := n) (by omega) (by rw [b_t_int]; omega)
  rw [s_t_int] at mk
  simp only [Value.cells] at mk
  have hlz : ∀ e ∈ List.replicate n ([.int .i64 0] : List Value), e.length = 1 := fun e he => by rw [List.eq_of_mem_replicate he]; rfl
  refine ⟨_, _, mk, ?_, List.prefix_append .., _, rfl⟩
  have := H.lit (els := List.replicate n ([.int .i64 0] : List Value)) (sz := 1) (n := n * 1) hlz (by simp)
  simpa [encI] using this
theorem load_J {h : Hp} {v : Value} {xs : List (Job)} {i : Nat} {x : Job} (hv : Sees h v 4 (xs.map encJ)) (hx : xs[i]? = some x) :
    indexAddrP P h t_S_impl_Job v (.int .i64 i) = some (.pointer (some (addP (base v) (i * 4)))) ∧ loadP P h t_impl_Job (.pointer (some (addP (base v) (i * 4)))) = some (.agg #[.int .i64 x.t, .int .i64 x.w, .int .i64 x.r, .int .i64 x.d]) ∧
    loadP P h t_int (.pointer (some (addP (addP (base v) (i * 4)) 0))) = some (.int .i64 x.t) ∧
    loadP P h t_int (.pointer (some (addP (addP (base v) (i * 4)) 1))) = some (.int .i64 x.w) ∧
    loadP P h t_int (.pointer (some (addP (addP (base v) (i * 4)) 2))) = some (.int .i64 x.r) ∧
    loadP P h t_int (.pointer (some (addP (addP (base v) (i * 4)) 3))) = some (.int .i64 x.d) := by
  have hi := (List.getElem?_eq_some_iff.1 hx).1
  have h1 := hv.indexT (P := P) u_S_impl_Job i_impl_Job (k := .i64) (j := i) (by omega) (by omega)
  rw [Int.toNat_natCast] at h1
  have fld : ∀ k, k < 4 → loadP P h t_int (.pointer (some (addP (addP (base v) (i * 4)) k))) = (encJ x)[k]? := by
    intro k hk
    have := hv.cellT (P := P) a_int i_int hx hk
    rw [← this]
    simp only [addP, Nat.add_assoc]
  exact ⟨h1, hv.aggT a_impl_Job i_impl_Job hx, fld 0 (by omega), fld 1 (by omega), fld 2 (by omega), fld 3 (by omega)⟩
theorem push_J0 {h0 h : Hp} {L : List Asn} (H : Holds h0 h L) (i : Nat) {v : Value} {xs : List (Job)} (hi : L[i]? = some (.own v 4 (xs.map encJ))) (x : Job) (hn : xs.length ≤ 2 ^ 40) :
    ∃ v' h', appendP P (h ++ [some ⟨[.int .i64 x.t, .int .i64 x.w, .int .i64 x.r, .int .i64 x.d], 4, false⟩]) t_S_impl_Job v (.slice (some ⟨h.length, 0, some 4⟩) 1 1) = some (v', h') ∧ Holds h0 h' (L.set i (.own v' 4 ((xs ++ [x]).map encJ))) ∧ Keeps (rowV v) h h' ∧ (rowV v = none → newOk (h ++ [some ⟨[.int .i64 x.t, .int .i64 x.w, .int .i64 x.r, .int .i64 x.d], 4, false⟩]) h') := by
  obtain ⟨v', h', g1, g2, g3, g4⟩ := (H.ext (List.prefix_append h [])).push (P := P) i (y := encJ x) (n := 4) hi u_S_impl_Job e_t_impl_Job z_t_impl_Job s_t_impl_Job (by omega) (by rw [b_t_impl_Job]; omega) rfl rfl (by simp [encJ]) (by rw [b_t_impl_Job]; simp; omega)
  rw [show xs.map encJ ++ [encJ x] = (xs ++ [x]).map encJ by simp] at g2
  exact ⟨v', h', by simpa [encJ] using g1, g2, Keeps.app.trans g3, by simpa [encJ] using g4⟩
theorem put_J {h0 h : Hp} {L : List Asn} (H : Holds h0 h L) (i : Nat) {v : Value} {xs : List (Job)} (hi : L[i]? = some (.own v 4 (xs.map encJ))) {j : Nat} (hj : j < xs.length) (x : Job) :
    ∃ h', storeP P h t_impl_Job (.agg #[.int .i64 x.t, .int .i64 x.w, .int .i64 x.r, .int .i64 x.d]) (.pointer (some (addP (base v) (j * 4)))) = some h' ∧ Holds h0 h' (L.set i (.own v 4 ((xs.set j x).map encJ))) ∧ Keeps (rowV v) h h' := by
  have := H.put (P := P) i (t := t_impl_Job) (w := .agg #[.int .i64 x.t, .int .i64 x.w, .int .i64 x.r, .int .i64 x.d]) (j := j) hi i_impl_Job (by simpa using hj) rfl (by simp)
  simpa [List.map_set, encJ] using this
theorem fput_J0 {h0 h : Hp} {L : List Asn} (H : Holds h0 h L) (i : Nat) {v : Value} {xs : List (Job)} (hi : L[i]? = some (.own v 4 (xs.map encJ))) {j : Nat} {y : Job} (hy : xs[j]? = some y) (z : Int) :
    ∃ h', storeP P h t_int (.int .i64 z) (.pointer (some (addP (addP (base v) (j * 4)) 0))) = some h' ∧ Holds h0 h' (L.set i (.own v 4 ((xs.set j ({ y with t := z })).map encJ))) ∧ Keeps (rowV v) h h' := by
  have := H.store (P := P) i hi (t := t_int) (w := .int .i64 z) (j := j) (e := encJ y) (l := []) (m := [.int .i64 y.t]) (c := [.int .i64 y.w, .int .i64 y.r, .int .i64 y.d]) e_t_int (by simp [hy]) rfl (by simp) (by simp) (by simp)
  simpa [List.map_set, encJ, addP, Nat.add_assoc] using this
theorem fput_J1 {h0 h : Hp} {L : List Asn} (H : Holds h0 h L) (i : Nat) {v : Value} {xs : List (Job)} (hi : L[i]? = some (.own v 4 (xs.map encJ))) {j : Nat} {y : Job} (hy : xs[j]? = some y) (z : Int) :
    ∃ h', storeP P h t_int (.int .i64 z) (.pointer (some (addP (addP (base v) (j * 4)) 1))) = some h' ∧ Holds h0 h' (L.set i (.own v 4 ((xs.set j ({ y with w := z })).map encJ))) ∧ Keeps (rowV v) h h' := by
  have := H.store (P := P) i hi (t := t_int) (w := .int .i64 z) (j := j) (e := encJ y) (l := [.int .i64 y.t]) (m := [.int .i64 y.w]) (c := [.int .i64 y.r, .int .i64 y.d]) e_t_int (by simp [hy]) rfl (by simp) (by simp) (by simp)
  simpa [List.map_set, encJ, addP, Nat.add_assoc] using this
theorem fput_J2 {h0 h : Hp} {L : List Asn} (H : Holds h0 h L) (i : Nat) {v : Value} {xs : List (Job)} (hi : L[i]? = some (.own v 4 (xs.map encJ))) {j : Nat} {y : Job} (hy : xs[j]? = some y) (z : Int) :
    ∃ h', storeP P h t_int (.int .i64 z) (.pointer (some (addP (addP (base v) (j * 4)) 2))) = some h' ∧ Holds h0 h' (L.set i (.own v 4 ((xs.set j ({ y with r := z })).map encJ))) ∧ Keeps (rowV v) h h' := by
  have := H.store (P := P) i hi (t := t_int) (w := .int .i64 z) (j := j) (e := encJ y) (l := [.int .i64 y.t, .int .i64 y.w]) (m := [.int .i64 y.r]) (c := [.int .i64 y.d]) e_t_int (by simp [hy]) rfl (by simp) (by simp) (by simp)
  simpa [List.map_set, encJ, addP, Nat.add_assoc] using this
theorem fput_J3 {h0 h : Hp} {L : List Asn} (H : Holds h0 h L) (i : Nat) {v : Value} {xs : List (Job)} (hi : L[i]? = some (.own v 4 (xs.map encJ))) {j : Nat} {y : Job} (hy : xs[j]? = some y) (z : Int) :
    ∃ h', storeP P h t_int (.int .i64 z) (.pointer (some (addP (addP (base v) (j * 4)) 3))) = some h' ∧ Holds h0 h' (L.set i (.own v 4 ((xs.set j ({ y with d := z })).map encJ))) ∧ Keeps (rowV v) h h' := by
  have := H.store (P := P) i hi (t := t_int) (w := .int .i64 z) (j := j) (e := encJ y) (l := [.int .i64 y.t, .int .i64 y.w, .int .i64 y.r]) (m := [.int .i64 y.d]) (c := []) e_t_int (by simp [hy]) rfl (by simp) (by simp) (by simp)
  simpa [List.map_set, encJ, addP, Nat.add_assoc] using this
end Go.Pm.PP

/- What is asked of jobs and orders; numbers in lists. -/
set_option linter.unusedVariables false
set_option linter.unusedSimpArgs false
set_option maxRecDepth 4000
set_option maxHeartbeats 4000000
namespace Go.Pm.PP
open Go.Pm Go.Proofs
def inB (x a b : Int) : Bool := decide (a ≤ x) && decide (x ≤ b)
def hasL (x : Int) (xs : List Int) : Bool := xs.any (· == x)
theorem l1In_run {h : Hp} {x a b : Int} : Ret P G n_spec_l1In [.int .i64 x, .int .i64 a, .int .i64 b] h (.bool (inB x a b)) h := by
  refine enter_run e_spec_l1In (by simp) ?_
  simp -implicitDefEqProofs
  refine WL_split (fun h => ?_) (fun h => ?_) <;> simp [h, inB]
theorem within_run {h : Hp} {x a b : Int} : Ret P G n_impl_within [.int .i64 x, .int .i64 a, .int .i64 b] h (.bool (inB x a b)) h := by
  refine enter_run e_impl_within (by simp) ?_
  simp -implicitDefEqProofs
  refine WL_split (fun h => ?_) (fun h => ?_) <;> simp [h, inB]
theorem isNumber_run {h : Hp} {i n : Int} : Ret P G n_impl_isNumber [.int .i64 i, .int .i64 n] h (.bool (inB i 0 (w64 (n - 1)))) h := by
  refine enter_run e_impl_isNumber (by simp) ?_
  simp -implicitDefEqProofs [CL_ret within_run, w64]
theorem l1Most_run {h : Hp} {a b : Int} : Ret P G n_spec_l1Most [.int .i64 a, .int .i64 b] h (.int .i64 (max a b)) h := by
  refine enter_run e_spec_l1Most (by simp) ?_
  simp -implicitDefEqProofs
  refine CB_split (fun h => ?_) (fun h => ?_) <;> simp at h <;> simp [h] <;> omega
theorem hasL_cons {x y : Int} {xs : List Int} : hasL x (y :: xs) = ((y == x) || hasL x xs) := rfl
theorem hasL_nil {x : Int} : hasL x [] = false := rfl
theorem l1Has_run {h : Hp} {v : Value} {xs : List Int} {x : Int} (hv : Ints h v xs) (hn : xs.length ≤ 2 ^ 40) :
    Ret P G n_spec_l1Has [v, .int .i64 x] h (.bool (hasL x xs)) h := by
  refine enter_run e_spec_l1Has (by simp) ?_
  obtain ⟨oa, c, rfl⟩ := hv.shapeT
  simp -implicitDefEqProofs
  refine R_loop (fun n s h' => ∃ i : Nat, i + n = xs.length ∧ s = [(0, .slice oa xs.length c), (1, .int .i64 x), (5, .int .i64 i)] ∧ h' = h ∧ hasL x xs = hasL x (xs.drop i)) (fun n s h' => ?_) ⟨0, Nat.zero_add _, by simp⟩
  rintro ⟨i, hi, rfl, rfl, hx⟩
  by_cases hlt : i < xs.length
  · obtain ⟨y, hy, hd⟩ := drop_at hlt
    rw [hd, hasL_cons] at hx
    simp -implicitDefEqProofs [hlt, load_I hv hy]
    refine CB_split (fun h => ?_) (fun h => ?_)
    · simp -implicitDefEqProofs [hx, h]
    · rw [h, Bool.false_or] at hx
      simp -implicitDefEqProofs [winc hlt hn]
      exact ⟨n - 1, by omega, i + 1, by omega, rfl, hx⟩
  · rw [List.drop_eq_nil_of_le (by omega), hasL_nil] at hx
    simp -implicitDefEqProofs [hlt, hx]
theorem has_run {h : Hp} {v : Value} {xs : List Int} {x : Int} (hv : Ints h v xs) (hn : xs.length ≤ 2 ^ 40) :
    Ret P G n_impl_has [v, .int .i64 x] h (.bool (hasL x xs)) h := by
  refine enter_run e_impl_has (by simp) ?_
  obtain ⟨oa, c, rfl⟩ := hv.shapeT
  simp -implicitDefEqProofs
  refine R_loop (fun n s h' => ∃ i : Nat, i + n = xs.length ∧ s = [(1, .int .i64 x), (7, .slice oa xs.length c), (8, .int .i64 xs.length), (9, .int .i64 i)] ∧ h' = h ∧ hasL x xs = hasL x (xs.drop i)) (fun n s h' => ?_) ⟨0, Nat.zero_add _, by simp⟩
  rintro ⟨i, hi, rfl, rfl, hx⟩
  by_cases hlt : i < xs.length
  · obtain ⟨y, hy, hd⟩ := drop_at hlt
    rw [hd, hasL_cons] at hx
    simp -implicitDefEqProofs [hlt, load_I hv hy]
    refine CB_split (fun h => ?_) (fun h => ?_)
    · simp -implicitDefEqProofs [hx, h]
    · rw [h, Bool.false_or] at hx
      simp -implicitDefEqProofs [winc hlt hn]
      exact ⟨n - 1, by omega, i + 1, by omega, rfl, hx⟩
  · rw [List.drop_eq_nil_of_le (by omega), hasL_nil] at hx
    simp -implicitDefEqProofs [hlt, hx]
theorem own_nil {h0 h : Hp} {L : List Asn} (H : Holds h0 h L) (α : Type) (enc : α → List Value) (sz : Nat) : Holds h0 h (L ++ [.own (.slice none 0 0) sz (([] : List α).map enc)]) := H.call List.prefix_rfl (by simpa using Own.nil)
def arGo (n : Int) : List Int → List Int → Bool
  | _, [] => true
  | us, x :: r => inB x 0 (w64 (n - 1)) && !hasL x us && arGo n (us ++ [x]) r
theorem areDifferent_run {h : Hp} {v : Value} {xs : List Int} {n : Int} (hv : Ints h v xs) (hn : xs.length ≤ 2 ^ 40) : Ret P G n_impl_areDifferent [.int .i64 n, v] h (.bool (arGo n [] xs)) h := by
  refine enter_run e_impl_areDifferent (by simp) ?_
  have hvs := hv
  obtain ⟨oa, c, rfl⟩ := hv.shapeT
  simp -implicitDefEqProofs
  refine R_loopO (fun m s h' => ∃ i : Nat, i + m = xs.length ∧ s = [(0, .int .i64 n), (1, .slice oa xs.length c), (7, .slice oa xs.length c), (8, .int .i64 xs.length), (9, .int .i64 i)] ∧ h' = h ∧ arGo n [] xs = arGo n (xs.take i) (xs.drop i)) (fun I hI m s h' => ?_) ⟨0, Nat.zero_add _, by simp, rfl, by simp⟩
  rintro ⟨i, hi, rfl, rfl, hx⟩
  by_cases hlt : i < xs.length
  · obtain ⟨y, hy, hd⟩ := drop_at hlt
    rw [hd, arGo, ← take_succ' hy] at hx
    obtain ⟨v', hs, hu⟩ := hvs.front (P := P) u_S_int i_int (k := .i64) (j := (i : Int)) (by omega) (by simp; omega)
    rw [Int.toNat_natCast, ← List.map_take] at hu
    have rh := has_run (x := y) hu (by simp; omega)
    cases c1 : inB y 0 (w64 (n - 1))
    · rw [c1, Bool.false_and, Bool.false_and] at hx
      simp -implicitDefEqProofs [-indexAddrP_some, hlt, load_I hvs hy, CL_ret isNumber_run, c1, hx]
    · cases c2 : hasL y (xs.take i)
      · rw [c1, c2] at hx
        simp -implicitDefEqProofs [-indexAddrP_some, hlt, load_I hvs hy, CL_ret isNumber_run, c1, hs, CL_ret rh, c2, winc hlt hn]
        exact ⟨m - 1, by omega, on hI ⟨i + 1, by omega, rfl, rfl, by simpa using hx⟩⟩
      · rw [c1, c2] at hx
        simp -implicitDefEqProofs [-indexAddrP_some, hlt, load_I hvs hy, CL_ret isNumber_run, c1, hs, CL_ret rh, c2]
        simpa using hx
  · rw [List.drop_eq_nil_of_le (by omega), arGo] at hx
    simp -implicitDefEqProofs [hlt, hx]
theorem l1Own_run {h : Hp} {v : Value} {xs : List Int} (hv : Ints h v xs) (hn : xs.length ≤ 2 ^ 40) : RunsC P G n_spec_l1Own [v] h fun v' h' => h <+: h' ∧ Own h.length h' v' 1 (xs.map encI) := by
  refine hideC fun K hK => enter_run e_spec_l1Own (by simp) ?_
  have H0 := own_nil (Holds.start (h := h)) Int encI 1
  obtain ⟨v', h', ha, H1, k⟩ := app_I H0 0 rfl hv (by simp; omega)
  simp -implicitDefEqProofs [ha]
  exact onK hK (H1.ret 0 rfl)
theorem copyInts_run {h : Hp} {v : Value} {xs : List Int} (hv : Ints h v xs) (hn : xs.length ≤ 2 ^ 40) : RunsC P G n_impl_copyInts [v] h fun v' h' => h <+: h' ∧ Own h.length h' v' 1 (xs.map encI) := by
  refine hideC fun K hK => enter_run e_impl_copyInts (by simp) ?_
  have H0 := own_nil (Holds.start (h := h)) Int encI 1
  obtain ⟨v', h', ha, H1, k⟩ := app_I H0 0 rfl hv (by simp; omega)
  simp -implicitDefEqProofs [ha]
  exact onK hK (H1.ret 0 rfl)
theorem isDate_run {h : Hp} {x : Int} : Ret P G n_impl_isDate [.int .i64 x] h (.bool (inB x 0 500)) h := by
  refine enter_run e_impl_isDate (by simp) ?_
  simp -implicitDefEqProofs [CL_ret within_run]
def jobOk (j : Job) : Bool := inB j.t 1 50 && inB j.w 0 50 && inB j.r 0 500 && inB j.d 0 500
theorem jobOk_eq (j : Job) : jobOk j = (inB j.t 1 50 && inB j.w 0 50 && inB j.r 0 500 && inB j.d 0 500) := rfl
theorem l2Job_run {h : Hp} {j : Job} : Ret P G n_spec_l2Job [jv j] h (.bool (jobOk j)) h := by
  refine enter_run e_spec_l2Job (by simp) ?_
  cases h1 : inB j.t 1 50 <;> cases h2 : inB j.w 0 50 <;> cases h3 : inB j.r 0 500 <;> cases h4 : inB j.d 0 500 <;>
    simp -implicitDefEqProofs [CL_ret l1In_run, h1, h2, h3, h4, jobOk]
def goodL (js : List Job) : Bool := js.all jobOk
theorem goodL_cons {j : Job} {js : List Job} : goodL (j :: js) = (jobOk j && goodL js) := rfl
theorem goodL_nil : goodL [] = true := rfl
theorem l2Good_run {h : Hp} {v : Value} {js : List Job} (hv : Jobs h v js) (hn : js.length ≤ 2 ^ 40) :
    Ret P G n_spec_l2Good [v] h (.bool (decide (js.length ≤ 8) && goodL js)) h := by
  refine enter_run e_spec_l2Good (by simp) ?_
  obtain ⟨oa, c, rfl⟩ := hv.shapeT
  simp -implicitDefEqProofs
  refine R_loopO (fun n s h' => ∃ i : Nat, i + n = js.length ∧ s = [(0, .slice oa js.length c), (3, .int .i64 i)] ∧ h' = h ∧ goodL js = goodL (js.drop i)) (fun I hI n s h' => ?_) ⟨0, Nat.zero_add _, by simp⟩
  rintro ⟨i, hi, rfl, rfl, hx⟩
  by_cases hlt : i < js.length
  · obtain ⟨y, hy, hd⟩ := drop_at hlt
    rw [hd, goodL_cons] at hx
    cases c1 : jobOk y
    · rw [c1, Bool.false_and] at hx
      simp -implicitDefEqProofs [-indexAddrP_some, hlt, load_J hv hy, CL_ret l2Job_run, c1, hx]
    · rw [c1, Bool.true_and] at hx
      simp -implicitDefEqProofs [-indexAddrP_some, hlt, load_J hv hy, CL_ret l2Job_run, c1, winc hlt hn]
      exact ⟨n - 1, by omega, on hI ⟨i + 1, by omega, rfl, rfl, hx⟩⟩
  · rw [List.drop_eq_nil_of_le (by omega), goodL_nil] at hx
    simp -implicitDefEqProofs [hlt, hx]
    try omega
theorem IsJobs_run {h : Hp} {v : Value} {js : List Job} (hv : Jobs h v js) (hn : js.length ≤ 2 ^ 40) :
    Ret P G n_impl_IsJobs [v] h (.bool (decide (js.length ≤ 8) && goodL js)) h := by
  refine enter_run e_impl_IsJobs (by simp) ?_
  obtain ⟨oa, c, rfl⟩ := hv.shapeT
  simp -implicitDefEqProofs
  refine CB_split (fun h => ?_) (fun h => ?_)
  · simp at h
    simp -implicitDefEqProofs [show ¬ js.length ≤ 8 by omega]
  · have h8 : js.length ≤ 8 := by simp at h; omega
    simp -implicitDefEqProofs [h8]
    rename_i h0
    refine R_loop (fun n s h' => ∃ i : Nat, i + n = js.length ∧ s = [(8, .slice oa js.length c), (9, .int .i64 js.length), (10, .int .i64 i)] ∧ h0 <+: h' ∧ goodL js = goodL (js.drop i)) (fun n s h' => ?_) ⟨0, Nat.zero_add _, by simp⟩
    rintro ⟨i, hi, rfl, hp, hx⟩
    have hv' := hv.pre hp
    by_cases hlt : i < js.length
    · obtain ⟨y, hy, hd⟩ := drop_at hlt
      rw [hd, goodL_cons, jobOk_eq] at hx
      cases h1 : inB y.t 1 50 <;> cases h2 : inB y.w 0 50 <;> cases h3 : inB y.r 0 500 <;> cases h4 : inB y.d 0 500 <;>
        (rw [h1, h2, h3, h4] at hx; simp -implicitDefEqProofs [-indexAddrP_some, hlt, load_J hv' hy, CL_ret within_run, CL_ret isDate_run, h1, h2, h3, h4, winc hlt hn])
      all_goals first
        | (simp at hx; simp -implicitDefEqProofs [hx, gcB' hp]; done)
        | exact ⟨n - 1, by omega, i + 1, by omega, rfl, hp.trans (List.prefix_append ..), by simpa using hx⟩
    · rw [List.drop_eq_nil_of_le (by omega), goodL_nil] at hx
      simp -implicitDefEqProofs [hlt, hx, gcB hp]
def allIn (xs : List Int) (n : Nat) : Bool := (List.range n).all fun i => hasL i xs
def l2OrderL (n : Int) (xs : List Int) : Bool := inB n 0 8 && ((xs.length : Int) == n) && allIn xs xs.length
theorem isOrder_run {h : Hp} {v : Value} {xs : List Int} {n : Int} (hv : Ints h v xs) (hn : xs.length ≤ 2 ^ 40) :
    Ret P G n_impl_isOrder [.int .i64 n, v] h (.bool (((xs.length : Int) == n) && arGo n [] xs)) h := by
  refine enter_run e_impl_isOrder (by simp) ?_
  have hvs := hv
  obtain ⟨oa, c, rfl⟩ := hv.shapeT
  cases h1 : ((xs.length : Int) == n) <;>
    simp -implicitDefEqProofs [CL_ret (areDifferent_run hvs hn), h1]
theorem hasL_mem {x : Int} {xs : List Int} : hasL x xs = true ↔ x ∈ xs := by
  unfold hasL
  rw [List.any_eq_true]
  constructor
  · rintro ⟨y, hy, h⟩
    have : y = x := by simpa using h
    exact this ▸ hy
  · intro h; exact ⟨x, h, by simp⟩
theorem arGo_iff {n : Int} (hn : w64 (n - 1) = n - 1) : ∀ {xs us : List Int}, arGo n us xs = true ↔ (∀ x ∈ xs, 0 ≤ x ∧ x < n) ∧ xs.Nodup ∧ ∀ x ∈ xs, x ∉ us
  | [], us => by simp [arGo]
  | x :: r, us => by
    rw [arGo, Bool.and_eq_true, Bool.and_eq_true, arGo_iff hn, hn]
    simp only [inB, Bool.and_eq_true, decide_eq_true_eq, Bool.not_eq_true', List.mem_cons, List.nodup_cons, List.mem_append, List.not_mem_nil, or_false, not_or]
    have hh : hasL x us = false ↔ x ∉ us := by rw [← hasL_mem]; simp
    rw [hh]
    constructor
    · rintro ⟨⟨h1, h2⟩, h3, h4, h5⟩
      refine ⟨fun y hy => ?_, ⟨fun hx => (h5 x hx).2 rfl, h4⟩, fun y hy => ?_⟩
      · rcases hy with rfl | hy
        · omega
        · exact h3 y hy
      · rcases hy with rfl | hy
        · exact h2
        · exact (h5 y hy).1
    · rintro ⟨h1, ⟨h2, h3⟩, h4⟩
      refine ⟨⟨by have := h1 x (.inl rfl); omega, h4 x (.inl rfl)⟩, fun y hy => h1 y (.inr hy), h3, fun y hy => ⟨h4 y (.inr hy), fun e => h2 (by rw [← e]; exact hy)⟩⟩
theorem pigeon : ∀ (xs S : List Int), xs.Nodup → (∀ x ∈ xs, x ∈ S) → S.length ≤ xs.length → ∀ y ∈ S, y ∈ xs
  | [], S, _, _, hl, y, hy => by
    have : S = [] := List.eq_nil_of_length_eq_zero (by simpa using hl)
    rw [this] at hy; cases hy
  | a :: xs, S, hnd, hs, hl, y, hy => by
    have hnd := List.nodup_cons.1 hnd
    have ha := hs a (List.mem_cons_self ..)
    by_cases hya : y = a
    · rw [hya]; exact List.mem_cons_self ..
    · refine List.mem_cons_of_mem _ (pigeon xs (S.erase a) hnd.2 (fun x hx => ?_) ?_ y ((List.mem_erase_of_ne hya).2 hy))
      · have hxa : x ≠ a := fun e => hnd.1 (e ▸ hx)
        exact (List.mem_erase_of_ne hxa).2 (hs x (List.mem_cons_of_mem _ hx))
      · rw [List.length_erase_of_mem ha]
        simp only [List.length_cons] at hl
        omega
theorem pigeon2 : ∀ (S xs : List Int), S.Nodup → (∀ x ∈ S, x ∈ xs) → xs.length ≤ S.length → xs.Nodup
  | [], xs, _, _, hl => by
    have : xs = [] := List.eq_nil_of_length_eq_zero (by simpa using hl)
    rw [this]; exact List.nodup_nil
  | a :: S, xs, hnd, hs, hl => by
    have hnd' := List.nodup_cons.1 hnd
    have ha := hs a (List.mem_cons_self ..)
    have h1 : ∀ x ∈ S, x ∈ xs.erase a := fun x hx => by
      have hxa : x ≠ a := fun e => hnd'.1 (e ▸ hx)
      exact (List.mem_erase_of_ne hxa).2 (hs x (List.mem_cons_of_mem _ hx))
    have h2 : (xs.erase a).length ≤ S.length := by
      rw [List.length_erase_of_mem ha]
      simp only [List.length_cons] at hl
      omega
    have h3 := pigeon2 S (xs.erase a) hnd'.2 h1 h2
    have h4 := pigeon S (xs.erase a) hnd'.2 h1 h2
    exact (List.perm_cons_erase ha).nodup_iff.2 (List.nodup_cons.2 ⟨fun h => hnd'.1 (h4 a h), h3⟩)
def upTo (n : Nat) : List Int := (List.range n).map fun i : Nat => (i : Int)
theorem mem_upTo {n : Nat} {x : Int} : x ∈ upTo n ↔ 0 ≤ x ∧ x < n := by
  simp only [upTo, List.mem_map, List.mem_range]
  constructor
  · rintro ⟨i, hi, rfl⟩; omega
  · rintro ⟨h1, h2⟩; exact ⟨x.toNat, by omega, by omega⟩
theorem upTo_nodup (n : Nat) : (upTo n).Nodup := by
  refine List.Pairwise.map _ (fun a b h e => h ?_) List.nodup_range
  omega
theorem upTo_len (n : Nat) : (upTo n).length = n := by simp [upTo]
theorem hasL_iff' {x : Int} {xs : List Int} : hasL x xs = true ↔ x ∈ xs := by simp [hasL]
theorem order_eq {n : Nat} {xs : List Int} (hn : n ≤ 8) : (((xs.length : Int) == n) && arGo n [] xs) = (((xs.length : Int) == n) && allIn xs xs.length) := by
  cases h2 : ((xs.length : Int) == n) with
  | false => rfl
  | true =>
    have hl : xs.length = n := by have := beq_iff_eq.1 h2; omega
    have wn : w64 ((n : Int) - 1) = (n : Int) - 1 := by unfold w64; rw [wrap_ok] <;> omega
    rw [Bool.true_and, Bool.true_and, Bool.eq_iff_iff, arGo_iff wn]
    constructor
    · rintro ⟨h3, h4, _⟩
      refine List.all_eq_true.2 fun i hi => hasL_iff'.2 ?_
      have hi := List.mem_range.1 hi
      exact pigeon xs (upTo n) h4 (fun x hx => mem_upTo.2 (h3 x hx)) (by rw [upTo_len]; omega) i (mem_upTo.2 (by omega))
    · intro h3
      have h4 : ∀ i : Nat, i < n → (i : Int) ∈ xs := fun i hi => hasL_iff'.1 (List.all_eq_true.1 h3 i (List.mem_range.2 (by omega)))
      have h5 : ∀ x ∈ upTo n, x ∈ xs := fun x hx => by
        have := mem_upTo.1 hx
        have h6 := h4 x.toNat (by omega)
        rwa [show ((x.toNat : Nat) : Int) = x by omega] at h6
      have h6 := pigeon (upTo n) xs (upTo_nodup n) h5 (by rw [upTo_len]; omega)
      exact ⟨fun x hx => mem_upTo.1 (h6 x hx), pigeon2 (upTo n) xs (upTo_nodup n) h5 (by rw [upTo_len]; omega), by simp⟩
end Go.Pm.PP

/- Exchanges of neighbours in plain terms; the value of an order, told along the order. -/
set_option linter.unusedVariables false
set_option linter.unusedSimpArgs false
namespace Go.Pm.PE
/-! ### exchanges -/
/-- Moving one to the front. -/
theorem exch_front {f : List Int → Int} {le : Int → Int → Prop} {S : List Int → Prop} (hS : ∀ A x y C, S (A ++ x :: y :: C) → S (A ++ y :: x :: C))
    (hf : ∀ A x y C, S (A ++ x :: y :: C) → le y x → f (A ++ y :: x :: C) ≤ f (A ++ x :: y :: C)) {y : Int} : ∀ {B A C : List Int}, S (A ++ (B ++ y :: C)) → (∀ b, b ∈ B → le y b) →
    f (A ++ y :: (B ++ C)) ≤ f (A ++ (B ++ y :: C)) ∧ S (A ++ y :: (B ++ C))
  | [], A, C, hs, _ => ⟨Int.le_refl _, hs⟩
  | b :: B, A, C, hs, hle => by
    have h1 := exch_front hS hf (B := B) (A := A ++ [b]) (C := C) (by simpa using hs) fun x hx => hle x (List.mem_cons_of_mem _ hx)
    have h2 : S (A ++ b :: y :: (B ++ C)) := by simpa using h1.2
    have h3 := hf A b y (B ++ C) h2 (hle b (List.mem_cons_self ..))
    have h4 : f (A ++ b :: y :: (B ++ C)) ≤ f (A ++ (b :: B ++ y :: C)) := by simpa using h1.1
    refine ⟨Int.le_trans ?_ h4, ?_⟩
    · simpa using h3
    · simpa using hS _ _ _ _ h2
/-- What is sorted is best. -/
theorem exch_sorted {f : List Int → Int} {le : Int → Int → Prop} {S : List Int → Prop} (hS : ∀ A x y C, S (A ++ x :: y :: C) → S (A ++ y :: x :: C))
    (hf : ∀ A x y C, S (A ++ x :: y :: C) → le y x → f (A ++ y :: x :: C) ≤ f (A ++ x :: y :: C)) : ∀ {ys A xs : List Int}, S (A ++ xs) → ys.Pairwise le → xs.Perm ys → f (A ++ ys) ≤ f (A ++ xs)
  | [], A, xs, _, _, hp => by rw [List.perm_nil.1 hp]; exact Int.le_refl _
  | y :: ys, A, xs, hs, hd, hp => by
    have hd := List.pairwise_cons.1 hd
    obtain ⟨B, C, rfl⟩ := List.append_of_mem (hp.symm.mem_iff.1 (List.mem_cons_self ..))
    have hp2 : (B ++ C).Perm ys := (List.perm_cons y).1 (List.perm_middle.symm.trans hp)
    have h1 := exch_front hS hf (B := B) (A := A) (C := C) (y := y) hs fun b hb => hd.1 b (hp2.mem_iff.1 (List.mem_append_left _ hb))
    have h2 := exch_sorted hS hf (ys := ys) (A := A ++ [y]) (xs := B ++ C) (by simpa using h1.2) hd.2 hp2
    have h3 : f (A ++ y :: ys) ≤ f (A ++ y :: (B ++ C)) := by simpa using h2
    exact Int.le_trans h3 h1.1
/-! ### sums -/
theorem sum_perm {l l' : List Int} (h : l.Perm l') : l.sum = l'.sum := by
  induction h with
  | nil => rfl
  | cons x _ ih => rw [List.sum_cons, List.sum_cons, ih]
  | swap x y l => simp only [List.sum_cons]; omega
  | trans _ _ h1 h2 => rw [h1, h2]
end Go.Pm.PE
namespace Go.Pm.PP
open Go.Pm Go.Pm.PE
/-! ### along an order -/
def endAt (j : Job) (now : Int) : Int := max now j.r + j.t
def nowGo (js : List Job) : Int → List Int → Int
  | now, [] => now
  | now, x :: r => nowGo js (endAt (jA js x) now) r
def sumGo (o : Int) (js : List Job) : Int → List Int → Int
  | _, [] => 0
  | now, x :: r => costV o (jA js x) (endAt (jA js x) now) + sumGo o js (endAt (jA js x) now) r
/-- The greatest one of a number and the latenesses. -/
def latGo (js : List Job) : Int → Int → List Int → Int
  | _, m, [] => m
  | now, m, x :: r => latGo js (endAt (jA js x) now) (max m (endAt (jA js x) now - (jA js x).d)) r
theorem latGo_app {js : List Job} : ∀ {A C : List Int} {now m : Int}, latGo js now m (A ++ C) = latGo js (nowGo js now A) (latGo js now m A) C
  | [], _, _, _ => rfl
  | a :: A, C, now, m => by rw [List.cons_append, latGo, latGo, nowGo, latGo_app]
/-- Costs by the jobs' numbers. -/
def sumE (o : Int) (js : List Job) (E : List Int) (l : List Int) : Int := (l.map fun x => costV o (jA js x) (gE E x.toNat)).sum
theorem end_out {js : List Job} {i : Nat} : ∀ {xs : List Int} {now : Int} {E : List Int}, (∀ y, y ∈ xs → 0 ≤ y) → (i : Int) ∉ xs → gE (endGo js xs now E) i = gE E i
  | [], _, _, _, _ => rfl
  | x :: r, now, E, h0, hi => by
    have hx := h0 x (List.mem_cons_self ..)
    rw [endGo, end_out (fun y hy => h0 y (List.mem_cons_of_mem _ hy)) (fun g => hi (List.mem_cons_of_mem _ g))]
    have : ¬ x.toNat = i := fun g => hi (by rw [← g, show ((x.toNat : Nat) : Int) = x by omega]; exact List.mem_cons_self ..)
    unfold gE
    rw [List.getElem?_set_ne this]
/-- The costs along an order are those of the ends. -/
theorem sum_order {o : Int} {js : List Job} : ∀ {xs : List Int} {now : Int} {E : List Int}, inN E.length xs → xs.Nodup → sumE o js (endGo js xs now E) xs = sumGo o js now xs
  | [], _, _, _, _ => rfl
  | x :: r, now, E, hin, hnd => by
    have hx := hin x (List.mem_cons_self ..)
    have hnd := List.nodup_cons.1 hnd
    have h0 : ∀ y, y ∈ r → 0 ≤ y := fun y hy => (hin y (List.mem_cons_of_mem _ hy)).1
    have ih := sum_order (o := o) (js := js) (xs := r) (now := endAt (jA js x) now) (E := E.set x.toNat (endAt (jA js x) now)) (by rw [List.length_set]; exact fun y hy => hin y (List.mem_cons_of_mem _ hy)) hnd.2
    have he : gE (endGo js r (endAt (jA js x) now) (E.set x.toNat (endAt (jA js x) now))) x.toNat = endAt (jA js x) now := by
      rw [end_out h0 (by rw [show ((x.toNat : Nat) : Int) = x by omega]; exact hnd.1), gE_set (by omega), if_pos rfl]
    have e1 : endGo js (x :: r) now E = endGo js r (endAt (jA js x) now) (E.set x.toNat (endAt (jA js x) now)) := rfl
    rw [e1, sumGo, ← ih]
    show (List.map _ (x :: r)).sum = _
    rw [List.map_cons, List.sum_cons, he]
    rfl
theorem valGo_sum {o : Int} (h1 : ¬ o = 1) (h4 : ¬ o = 4) : ∀ {js : List Job} {es : List Int} {f : Bool} {a : Int}, js.length = es.length → valGo o f a js es = a + ((List.range' 0 js.length).map fun i => costV o ((js[i]?).getD ⟨0, 0, 0, 0⟩) (gE es i)).sum
  | [], [], f, a, _ => by simp [valGo]
  | [], e :: es, f, a, h => by simp at h
  | j :: js, [], f, a, h => by simp at h
  | j :: js, e :: es, f, a, h => by
    rw [valGo, valGo_sum h1 h4 (by simpa using h), List.length_cons, List.range'_succ, List.map_cons, List.sum_cons]
    have e1 : List.range' (0 + 1) js.length = (List.range' 0 js.length).map (1 + ·) := by rw [List.map_add_range' (a := 1)]
    have e2 : stepV o f a j e = a + costV o j e := by unfold stepV; rw [if_neg h1, if_neg h4]
    rw [e1, List.map_map, e2, Int.add_assoc]
    congr 1
    congr 1
    congr 1
    apply List.map_congr_left
    intro i _
    simp [gE, Nat.add_comm 1 i]
/-- An order of n jobs. -/
def Prm (n : Nat) (xs : List Int) : Prop := xs.Perm ((List.range' 0 n).map fun i : Nat => (i : Int))
theorem Prm.inn {n : Nat} {xs : List Int} (h : Prm n xs) : inN n xs := fun x hx => by
  have := h.mem_iff.1 hx
  obtain ⟨i, hi, rfl⟩ := List.mem_map.1 this
  simp [List.mem_range'_1] at hi
  omega
theorem Prm.nd {n : Nat} {xs : List Int} (h : Prm n xs) : xs.Nodup := h.nodup_iff.2 (List.Pairwise.map _ (fun a b h e => h (by omega)) List.nodup_range')
theorem Prm.len {n : Nat} {xs : List Int} (h : Prm n xs) : xs.length = n := by rw [h.length_eq]; simp
/-- Sums along an order. -/
theorem val_sum {o : Int} {js : List Job} {xs : List Int} (h1 : ¬ o = 1) (h4 : ¬ o = 4) (h : Prm js.length xs) : valE o js (endsL js xs) = sumGo o js 0 xs := by
  have hl : (List.replicate js.length (0 : Int)).length = js.length := by simp
  have e1 := sum_order (o := o) (js := js) (xs := xs) (now := 0) (E := List.replicate js.length 0) (by rw [hl]; exact h.inn) h.nd
  unfold valE
  rw [valGo_sum h1 h4 endsL_len.symm, Int.zero_add, ← e1]
  unfold sumE
  rw [sum_perm (h.map fun x => costV o (jA js x) (gE (endGo js xs 0 (List.replicate js.length 0)) x.toNat)), List.map_map]
  rfl
/-! ### the greatest lateness -/
def mxE (js : List Job) (E : List Int) (m : Int) (l : List Int) : Int := l.foldl (fun m x => max m (gE E x.toNat - (jA js x).d)) m
theorem mxE_perm {js : List Job} {E : List Int} {l l' : List Int} (h : l.Perm l') : ∀ {m : Int}, mxE js E m l = mxE js E m l' := by
  induction h with
  | nil => intro m; rfl
  | cons x _ ih => intro m; exact ih
  | swap x y l => intro m; unfold mxE; simp only [List.foldl_cons]; congr 1; omega
  | trans _ _ h1 h2 => intro m; rw [h1, h2]
theorem lat_order {js : List Job} : ∀ {xs : List Int} {now m : Int} {E : List Int}, inN E.length xs → xs.Nodup → mxE js (endGo js xs now E) m xs = latGo js now m xs
  | [], _, _, _, _, _ => rfl
  | x :: r, now, m, E, hin, hnd => by
    have hx := hin x (List.mem_cons_self ..)
    have hnd := List.nodup_cons.1 hnd
    have h0 : ∀ y, y ∈ r → 0 ≤ y := fun y hy => (hin y (List.mem_cons_of_mem _ hy)).1
    have ih := lat_order (js := js) (xs := r) (now := endAt (jA js x) now) (m := max m (endAt (jA js x) now - (jA js x).d)) (E := E.set x.toNat (endAt (jA js x) now)) (by rw [List.length_set]; exact fun y hy => hin y (List.mem_cons_of_mem _ hy)) hnd.2
    have he : gE (endGo js r (endAt (jA js x) now) (E.set x.toNat (endAt (jA js x) now))) x.toNat = endAt (jA js x) now := by
      rw [end_out h0 (by rw [show ((x.toNat : Nat) : Int) = x by omega]; exact hnd.1), gE_set (by omega), if_pos rfl]
    have e1 : endGo js (x :: r) now E = endGo js r (endAt (jA js x) now) (E.set x.toNat (endAt (jA js x) now)) := rfl
    rw [e1, latGo, ← ih]
    unfold mxE
    rw [List.foldl_cons, he]
theorem valGo_lat : ∀ {js : List Job} {es : List Int} {a : Int}, js.length = es.length → valGo 4 false a js es = (List.range' 0 js.length).foldl (fun m i => max m (gE es i - ((js[i]?).getD ⟨0, 0, 0, 0⟩).d)) a
  | [], [], a, _ => by simp [valGo]
  | [], e :: es, a, h => by simp at h
  | j :: js, [], a, h => by simp at h
  | j :: js, e :: es, a, h => by
    rw [valGo, valGo_lat (by simpa using h), List.length_cons, List.range'_succ, List.foldl_cons]
    have e1 : List.range' (0 + 1) js.length = (List.range' 0 js.length).map (1 + ·) := by rw [List.map_add_range' (a := 1)]
    rw [e1, List.foldl_map]
    have e2 : stepV 4 false a j e = max a (gE (e :: es) 0 - (((j :: js)[0]?).getD (⟨0, 0, 0, 0⟩ : Job)).d) := rfl
    rw [e2]
    exact fold_congr fun i _ m => by simp [gE, Nat.add_comm 1 i]
/-- The greatest lateness along an order: no number below all of them changes it. -/
theorem val_lat {js : List Job} {xs : List Int} (h : Prm js.length xs) {m : Int} (hm : ∃ x, x ∈ xs ∧ m ≤ gE (endsL js xs) x.toNat - (jA js x).d) : valE 4 js (endsL js xs) = latGo js 0 m xs := by
  have hl : (List.replicate js.length (0 : Int)).length = js.length := by simp
  have e1 := lat_order (js := js) (xs := xs) (now := 0) (m := m) (E := List.replicate js.length 0) (by rw [hl]; exact h.inn) h.nd
  rw [← e1, mxE_perm h]
  unfold valE
  have hel : (endsL js xs).length = js.length := endsL_len
  obtain ⟨x, hx, hmx⟩ := hm
  have hxm := h.mem_iff.1 hx
  show _ = mxE js (endsL js xs) m _
  generalize endsL js xs = es at *
  cases js with
  | nil => simp at hxm
  | cons j js =>
    cases es with
    | nil => simp at hel
    | cons e es =>
      have hmax : ∀ {l : List Int} {a b : Int}, (b ≤ a ∨ ∃ x, x ∈ l ∧ b ≤ gE (e :: es) x.toNat - (jA (j :: js) x).d) → mxE (j :: js) (e :: es) (max b a) l = mxE (j :: js) (e :: es) a l := by
        intro l
        induction l with
        | nil => intro a b g; rcases g with g | ⟨x, g, _⟩; (show max b a = a; omega); cases g
        | cons y l ih =>
          intro a b g
          unfold mxE at ih ⊢
          rw [List.foldl_cons, List.foldl_cons]
          rw [show max (max b a) (gE (e :: es) y.toNat - (jA (j :: js) y).d) = max b (max a (gE (e :: es) y.toNat - (jA (j :: js) y).d)) by omega]
          refine ih ?_
          rcases g with g | ⟨x, g, hb⟩
          · left; omega
          · rcases List.mem_cons.1 g with rfl | g
            · left; omega
            · exact .inr ⟨x, g, hb⟩
      rw [valGo, valGo_lat (by simpa using hel.symm)]
      rw [List.length_cons, List.range'_succ, List.map_cons]
      have e2 : stepV 4 true 0 j e = gE (e :: es) 0 - (jA (j :: js) 0).d := by simp [stepV, gE, jA]
      have e3 : List.foldl (fun m i => max m (gE es i - ((js[i]?).getD ⟨0, 0, 0, 0⟩).d)) (gE (e :: es) 0 - (jA (j :: js) 0).d) (List.range' 0 js.length) = mxE (j :: js) (e :: es) (gE (e :: es) 0 - (jA (j :: js) 0).d) ((List.range' (0 + 1) js.length).map fun i : Nat => (i : Int)) := by
        have e1 : List.range' (0 + 1) js.length = (List.range' 0 js.length).map (1 + ·) := by rw [List.map_add_range' (a := 1)]
        unfold mxE
        rw [e1, List.map_map, List.foldl_map]
        exact fold_congr fun i _ m => by simp [Function.comp, jA, Int.toNat_natCast, gE, Nat.add_comm 1 i]
      rw [e2, e3]
      show mxE _ _ _ _ = mxE _ _ (max m (gE (e :: es) ((0 : Nat) : Int).toNat - (jA (j :: js) ((0 : Nat) : Int)).d)) _
      rw [hmax]
      · rfl
      · rw [List.length_cons, List.range'_succ, List.map_cons] at hxm
        rcases List.mem_cons.1 hxm with g | g
        · left; rw [g] at hmx; exact hmx
        · exact .inr ⟨x, g, hmx⟩
end Go.Pm.PP

/- Exchanges of neighbours for jobs without releases: sums, weighted sums, lateness; losses by inversions. -/
set_option linter.unusedVariables false
set_option linter.unusedSimpArgs false
namespace Go.Pm.PP
open Go.Pm Go.Pm.PE
/-- Jobs without releases. -/
structure Pl (js : List Job) : Prop where
  r : ∀ x, (jA js x).r = 0
  t : ∀ x, 0 ≤ (jA js x).t
theorem Pl.endAt {js : List Job} (p : Pl js) {x now : Int} (h : 0 ≤ now) : endAt (jA js x) now = now + (jA js x).t := by
  unfold PP.endAt; rw [p.r]; omega
theorem Pl.now {js : List Job} (p : Pl js) : ∀ {A : List Int} {now : Int}, 0 ≤ now → 0 ≤ nowGo js now A
  | [], _, h => h
  | x :: A, now, h => by
    rw [nowGo, p.endAt h]
    exact p.now (by have := p.t x; omega)
/-- The rule difference. -/
def gapJ (o : Int) (a b : Job) : Int := if o = 1 then a.r - b.r else if o = 2 then a.t - b.t else if o = 3 then a.t * b.w - b.t * a.w else a.d - b.d
def gapX (o : Int) (js : List Job) (x y : Int) : Int := gapJ o (jA js x) (jA js y)
theorem gap_swap {o : Int} {js : List Job} {x y : Int} : gapX o js y x = - gapX o js x y := by
  unfold gapX gapJ
  split
  · omega
  split
  · omega
  split
  · omega
  · omega
theorem lat_mono {js : List Job} {C : List Int} : ∀ {now m n : Int}, m ≤ n → latGo js now m C ≤ latGo js now n C := by
  induction C with
  | nil => intro now m n h; exact h
  | cons x C ih => intro now m n h; rw [latGo, latGo]; exact ih (by omega)
theorem lat_swap {js : List Job} (p : Pl js) {A C : List Int} {x y m : Int} (h : (jA js y).d ≤ (jA js x).d) : latGo js 0 m (A ++ y :: x :: C) ≤ latGo js 0 m (A ++ x :: y :: C) := by
  have hn := p.now (A := A) (Int.le_refl 0)
  generalize hN : nowGo js 0 A = n at hn
  have tx := p.t x
  have ty := p.t y
  rw [latGo_app, latGo_app, hN, latGo, latGo, latGo, latGo, p.endAt (x := x) hn, p.endAt (x := y) hn, p.endAt (x := y) (by omega : 0 ≤ n + (jA js x).t), p.endAt (x := x) (by omega : 0 ≤ n + (jA js y).t)]
  rw [show n + (jA js y).t + (jA js x).t = n + (jA js x).t + (jA js y).t by omega]
  exact lat_mono (by omega)
theorem lat_best {js : List Job} (p : Pl js) {m : Int} {xs ys : List Int} (hs : ys.Pairwise fun a b => (jA js a).d ≤ (jA js b).d) (hp : xs.Perm ys) : latGo js 0 m ys ≤ latGo js 0 m xs :=
  exch_sorted (f := latGo js 0 m) (S := fun _ => True) (fun _ _ _ _ _ => trivial) (fun A x y C _ h => lat_swap p h) (A := []) trivial hs hp
/-! ### inversions -/
end Go.Pm.PP

/- Sorting in plain terms: the program's from behind, the reference's from the front. -/
set_option linter.unusedVariables false
set_option linter.unusedSimpArgs false
namespace Go.Pm.PE
variable {ah : Int → Int → Bool}
/-- The place of x in l, looked for from behind: as long as x is ahead of the one before it. -/
def insK (ah : Int → Int → Bool) (x : Int) (l : List Int) : Nat → Nat
  | 0 => 0
  | k + 1 => if ah x ((l[k]?).getD 0) = true then insK ah x l k else k + 1
def insB (ah : Int → Int → Bool) (l : List Int) (x : Int) : List Int := l.take (insK ah x l l.length) ++ x :: l.drop (insK ah x l l.length)
def sortB (ah : Int → Int → Bool) (l : List Int) : List Int := l.foldl (insB ah) []
theorem insK_le {x : Int} {l : List Int} : ∀ {k : Nat}, insK ah x l k ≤ k
  | 0 => Nat.le_refl _
  | k + 1 => by
    rw [insK]; split
    · exact Nat.le_succ_of_le insK_le
    · exact Nat.le_refl _
theorem insB_perm {x : Int} {l : List Int} : (insB ah l x).Perm (x :: l) := by
  unfold insB
  refine List.perm_middle.trans ?_
  rw [List.take_append_drop]
theorem sortGo_perm : ∀ {l acc : List Int}, (l.foldl (insB ah) acc).Perm (acc ++ l)
  | [], acc => by simp
  | x :: l, acc => by
    rw [List.foldl_cons]
    refine sortGo_perm.trans ?_
    refine (List.Perm.append_right l insB_perm).trans ?_
    rw [List.cons_append]
    exact List.perm_middle.symm
theorem sortB_perm {l : List Int} : (sortB ah l).Perm l := by
  have := @sortGo_perm ah l []
  simpa [sortB] using this
theorem insB_len {x : Int} {l : List Int} : (insB ah l x).length = l.length + 1 := insB_perm.length_eq
theorem sortB_len {l : List Int} : (sortB ah l).length = l.length := sortB_perm.length_eq
/-- A relation by which x goes ahead. -/
structure Weak (ah : Int → Int → Bool) : Prop where
  asy : ∀ {a b}, ah a b = true → ah b a = false
  tr : ∀ {a b c}, ah a b = false → ah b c = false → ah a c = false
/-- What stands in order, the tied ones in ascending order. -/
def Lex (ah : Int → Int → Bool) (a b : Int) : Prop := ah a b = true ∨ (ah b a = false ∧ a < b)
theorem Lex.na {a b : Int} (w : Weak ah) (h : Lex ah a b) : ah b a = false := by
  rcases h with h | h
  · exact w.asy h
  · exact h.1
theorem insK_spec (w : Weak ah) {x : Int} {l : List Int} (hs : l.Pairwise fun a b => ah b a = false) : ∀ {k : Nat}, k ≤ l.length → (∀ i y, i < insK ah x l k → l[i]? = some y → ah x y = false) ∧ (∀ i y, insK ah x l k ≤ i → i < k → l[i]? = some y → ah x y = true)
  | 0, _ => ⟨fun i y h => by simp [insK] at h, fun i y _ h => by omega⟩
  | k + 1, hk => by
    obtain ⟨z, hz, _⟩ := drop_at (show k < l.length by omega)
    rw [insK, hz, Option.getD_some]
    cases hc : ah x z with
    | true =>
      rw [if_pos rfl]
      obtain ⟨h1, h2⟩ := insK_spec w (x := x) hs (k := k) (by omega)
      refine ⟨h1, fun i y g1 g2 g3 => ?_⟩
      rcases Nat.lt_or_ge i k with g | g
      · exact h2 i y g1 g g3
      · have : i = k := by omega
        subst this
        rw [hz] at g3; cases g3; exact hc
    | false =>
      rw [if_neg (by simp)]
      refine ⟨fun i y g1 g3 => ?_, fun i y g1 g2 => by omega⟩
      rcases Nat.lt_or_ge i k with g | g
      · have hi := List.pairwise_iff_getElem.1 hs i k (by omega) (by omega) g
        rw [(List.getElem?_eq_some_iff.1 g3).2, (List.getElem?_eq_some_iff.1 hz).2] at hi
        exact w.tr hc hi
      · have : i = k := by omega
        subst this
        rw [hz] at g3; cases g3; exact hc
theorem insB_sorted (w : Weak ah) {x : Int} {l : List Int} (hs : l.Pairwise (Lex ah)) (hx : ∀ y, y ∈ l → y < x) : (insB ah l x).Pairwise (Lex ah) := by
  have hs' : l.Pairwise fun a b => ah b a = false := hs.imp fun h => h.na w
  obtain ⟨h1, h2⟩ := insK_spec w (x := x) hs' (k := l.length) (Nat.le_refl _)
  have hk := @insK_le ah x l l.length
  unfold insB
  generalize insK ah x l l.length = k at *
  have m1 : ∀ a, a ∈ l.take k → ah x a = false := fun a ha => by
    obtain ⟨i, hi⟩ := List.getElem?_of_mem ha
    rw [List.getElem?_take] at hi
    split at hi
    · rename_i g; exact h1 i a g hi
    · cases hi
  have m2 : ∀ b, b ∈ l.drop k → ah x b = true := fun b hb => by
    obtain ⟨i, hi⟩ := List.getElem?_of_mem hb
    rw [List.getElem?_drop] at hi
    exact h2 (k + i) b (by omega) ((List.getElem?_eq_some_iff.1 hi).1) hi
  rw [List.pairwise_append]
  refine ⟨hs.sublist (List.take_sublist ..), List.pairwise_cons.2 ⟨fun b hb => .inl (m2 b hb), hs.sublist (List.drop_sublist ..)⟩, fun a ha b hb => ?_⟩
  rcases List.mem_cons.1 hb with rfl | hb
  · exact .inr ⟨m1 a ha, hx a (List.mem_of_mem_take ha)⟩
  · have e : l = l.take k ++ l.drop k := (List.take_append_drop ..).symm
    rw [e, List.pairwise_append] at hs
    exact hs.2.2 a ha b hb
theorem sortGo_sorted (w : Weak ah) : ∀ {l acc : List Int}, acc.Pairwise (Lex ah) → l.Pairwise (· < ·) → (∀ a, a ∈ acc → ∀ b, b ∈ l → a < b) → (l.foldl (insB ah) acc).Pairwise (Lex ah)
  | [], acc, h, _, _ => h
  | x :: l, acc, h, hl, hal => by
    have hl := List.pairwise_cons.1 hl
    rw [List.foldl_cons]
    refine sortGo_sorted w (insB_sorted w h fun y hy => hal y hy x (List.mem_cons_self ..)) hl.2 fun a ha b hb => ?_
    rcases List.mem_cons.1 (insB_perm.mem_iff.1 ha) with rfl | g
    · exact hl.1 b hb
    · exact hal a g b (List.mem_cons_of_mem _ hb)
theorem sortB_sorted (w : Weak ah) {l : List Int} (hl : l.Pairwise (· < ·)) : (sortB ah l).Pairwise (Lex ah) :=
  sortGo_sorted w List.Pairwise.nil hl fun a ha => by cases ha
/-- Sorting of any list: none ahead of one before it. -/
theorem insB_weak (w : Weak ah) {x : Int} {l : List Int} (hs : l.Pairwise fun a b => ah b a = false) : (insB ah l x).Pairwise fun a b => ah b a = false := by
  obtain ⟨h1, h2⟩ := insK_spec w (x := x) hs (k := l.length) (Nat.le_refl _)
  have hk := @insK_le ah x l l.length
  unfold insB
  generalize insK ah x l l.length = k at *
  rw [List.pairwise_append]
  refine ⟨hs.sublist (List.take_sublist ..), List.pairwise_cons.2 ⟨fun b hb => ?_, hs.sublist (List.drop_sublist ..)⟩, fun a ha b hb => ?_⟩
  · obtain ⟨i, hi⟩ := List.getElem?_of_mem hb
    rw [List.getElem?_drop] at hi
    exact w.asy (h2 (k + i) b (by omega) ((List.getElem?_eq_some_iff.1 hi).1) hi)
  · rcases List.mem_cons.1 hb with rfl | hb
    · obtain ⟨i, hi⟩ := List.getElem?_of_mem ha
      rw [List.getElem?_take] at hi
      split at hi
      · rename_i g; exact h1 i a g hi
      · cases hi
    · have e : l = l.take k ++ l.drop k := (List.take_append_drop ..).symm
      rw [e, List.pairwise_append] at hs
      exact hs.2.2 a ha b hb
theorem sortB_weak (w : Weak ah) {l : List Int} : (sortB ah l).Pairwise fun a b => ah b a = false := by
  have go : ∀ {l acc : List Int}, (acc.Pairwise fun a b => ah b a = false) → (l.foldl (insB ah) acc).Pairwise fun a b => ah b a = false := by
    intro l
    induction l with
    | nil => intro acc h; exact h
    | cons x l ih => intro acc h; rw [List.foldl_cons]; exact ih (insB_weak w h)
  exact go List.Pairwise.nil
/-- Two lists of the same elements that are sorted strictly are the same. -/
theorem sorted_eq {R : Int → Int → Prop} (hR : ∀ a b, R a b → R b a → False) : ∀ {l l' : List Int}, l.Pairwise R → l'.Pairwise R → l.Perm l' → l = l'
  | [], l', _, _, hp => (List.perm_nil.1 hp.symm).symm
  | x :: l, [], _, _, hp => by have := hp.length_eq; simp at this
  | x :: l, y :: l', h, h', hp => by
    have h := List.pairwise_cons.1 h
    have h' := List.pairwise_cons.1 h'
    have hx := hp.mem_iff.1 (List.mem_cons_self ..)
    have hy := hp.symm.mem_iff.1 (List.mem_cons_self ..)
    have e : x = y := by
      rcases List.mem_cons.1 hx with g | g
      · exact g
      · rcases List.mem_cons.1 hy with g2 | g2
        · exact g2.symm
        · exact (hR x y (h.1 y g2) (h'.1 x g)).elim
    subst e
    rw [sorted_eq hR h.2 h'.2 ((List.perm_cons x).1 hp)]
theorem Lex.asymm (w : Weak ah) {a b : Int} (h1 : Lex ah a b) (h2 : Lex ah b a) : False := by
  have n1 := h1.na w
  have n2 := h2.na w
  rcases h1 with h1 | h1
  · rw [h1] at n2; cases n2
  · rcases h2 with h2 | h2
    · rw [h2] at n1; cases n1
    · omega
theorem shift_set {us : List Int} {x : Int} {j : Nat} (hj : j ≤ us.length) : (((us ++ [0]).take (j + 1) ++ ((us ++ [0]).drop j).take ((us ++ [0]).length - (j + 1))).set j x) = us.take j ++ x :: us.drop j := by
  apply List.ext_getElem?
  intro i
  have hl : ((us ++ [0]).take (j + 1)).length = j + 1 := by simp; omega
  rw [List.getElem?_set]
  have htl : (us.take j).length = j := by simp; omega
  split
  · rename_i e
    subst e
    rw [if_pos (by simp; omega), List.getElem?_append_right (by omega), htl, Nat.sub_self]; rfl
  · rename_i hne
    rcases Nat.lt_or_ge i j with g | g
    · rw [List.getElem?_append_left (by omega), List.getElem?_append_left (by omega), List.getElem?_take, List.getElem?_take, if_pos (by omega), if_pos g, List.getElem?_append_left (by omega)]
    · rw [List.getElem?_append_right (by omega), List.getElem?_append_right (by omega), hl, htl, List.getElem?_take, List.getElem?_drop]
      rw [show i - j = (i - (j + 1)) + 1 by omega, List.getElem?_cons_succ, List.getElem?_drop]
      simp only [List.length_append, List.length_cons, List.length_nil]
      split
      · rw [List.getElem?_append_left (by omega)]
      · rw [List.getElem?_eq_none (by omega)]
/-! ### from the front -/
/-- Put before the first one that p holds of. -/
def insF (p : Int → Bool) (x : Int) : List Int → List Int
  | [] => [x]
  | y :: l => if p y = true then y :: insF p x l else x :: y :: l
theorem insF_perm {p : Int → Bool} {x : Int} : ∀ {l : List Int}, (insF p x l).Perm (x :: l)
  | [] => List.Perm.refl _
  | y :: l => by
    rw [insF]; split
    · exact (List.Perm.cons y insF_perm).trans (List.Perm.swap ..)
    · exact List.Perm.refl _
theorem insF_take {p : Int → Bool} {x : Int} : ∀ {l : List Int} {k : Nat}, k ≤ l.length → (∀ i y, i < k → l[i]? = some y → p y = true) → (∀ y, l[k]? = some y → p y = false) → insF p x l = l.take k ++ x :: l.drop k
  | [], k, hk, _, _ => by
    have : k = 0 := by simpa using hk
    subst this; rfl
  | y :: l, 0, _, _, h2 => by
    rw [insF, h2 y rfl]; rfl
  | y :: l, k + 1, hk, h1, h2 => by
    rw [insF, h1 0 y (by omega) rfl, if_pos rfl, insF_take (k := k) (by simpa using hk) (fun i z hi hz => h1 (i + 1) z (by omega) (by simpa using hz)) (fun z hz => h2 z (by simpa using hz))]
    rfl
/-- The same place from the front. -/
theorem insF_sorted {R : Int → Int → Prop} {p : Int → Bool} {x : Int} : ∀ {l : List Int}, l.Pairwise R → (∀ y, y ∈ l → p y = true → R y x) → (∀ y, y ∈ l → p y = false → R x y) → (∀ y z, y ∈ l → z ∈ l → R y z → p y = false → p z = false) → (insF p x l).Pairwise R
  | [], _, _, _, _ => by rw [insF]; exact List.pairwise_singleton ..
  | y :: l, h, h1, h2, h3 => by
    have h := List.pairwise_cons.1 h
    rw [insF]
    cases c : p y with
    | true =>
      rw [if_pos rfl]
      refine List.pairwise_cons.2 ⟨fun z hz => ?_, insF_sorted h.2 (fun z hz => h1 z (List.mem_cons_of_mem _ hz)) (fun z hz => h2 z (List.mem_cons_of_mem _ hz)) fun a b ha hb => h3 a b (List.mem_cons_of_mem _ ha) (List.mem_cons_of_mem _ hb)⟩
      rcases List.mem_cons.1 (insF_perm.mem_iff.1 hz) with rfl | g
      · exact h1 y (List.mem_cons_self ..) c
      · exact h.1 z g
    | false =>
      rw [if_neg (by simp)]
      refine List.pairwise_cons.2 ⟨fun z hz => ?_, List.pairwise_cons.2 h⟩
      rcases List.mem_cons.1 hz with rfl | g
      · exact h2 z (List.mem_cons_self ..) c
      · exact h2 z (List.mem_cons_of_mem _ g) (h3 y z (List.mem_cons_self ..) (List.mem_cons_of_mem _ g) (h.1 z g) c)
end Go.Pm.PE

/- Sorting by the program: sortedBy for any comparison. -/
set_option linter.unusedVariables false
set_option linter.unusedSimpArgs false
set_option maxRecDepth 4000
set_option maxHeartbeats 8000000
namespace Go.Pm.PP
open Go.Pm Go.Proofs Go.Pm.PE
theorem sortedBy_run {h : Hp} {v : Value} {xs : List Int} {g : FuncId} {cl : Array Value} {ah : Int → Int → Bool} (hv : Ints h v xs) (hn : xs.length ≤ 2 ^ 20)
    (tell : ∀ h2, h <+: h2 → ∀ a b, a ∈ xs → b ∈ xs → Ret P G g (.int .i64 a :: .int .i64 b :: cl.toList) h2 (.bool (ah a b)) h2) :
    RunsC P G n_impl_sortedBy [v, .func (.func g) #[] cl] h fun v' h' => h <+: h' ∧ Own h.length h' v' 1 ((sortB ah xs).map encI) := by
  refine hideC fun K hK => enter_run e_impl_sortedBy (by simp) ?_
  have hvs := hv
  obtain ⟨oa, c, rfl⟩ := hv.shapeT
  simp -implicitDefEqProofs
  refine R_loopO (fun n st h' => ∃ (i : Nat) (u : Value) (us : List Int), i + n = xs.length ∧ st = [(1, .func (.func g) #[] cl), (5, u), (9, .slice oa xs.length c), (10, .int .i64 xs.length), (11, .int .i64 i)] ∧
    Holds h h' [.own u 1 (us.map encI)] ∧ us.length = i ∧ (∀ z, z ∈ us → z ∈ xs) ∧ sortB ah xs = (xs.drop i).foldl (insB ah) us) (fun I hI n st h' => ?_) ⟨0, _, [], Nat.zero_add _, by simp, own_nil Holds.start _ _ _, rfl, by simp, rfl⟩
  rintro ⟨i, u, us, hi, rfl, H, hul, hin, hs⟩
  by_cases hlt : i < xs.length
  · obtain ⟨y, hy, hd⟩ := drop_at hlt
    rw [hd, List.foldl_cons] at hs
    have hus := H.sees 0 rfl
    obtain ⟨ou, cu, rfl⟩ : ∃ a c, u = .slice a i c := by obtain ⟨a, c, e⟩ := hus.shapeT; exact ⟨a, c, by rw [e, hul]⟩
    simp -implicitDefEqProofs [-indexAddrP_some, hlt, load_I (hvs.pre H.pre) hy]
    refine R_loopO (fun n st h2 => ∃ (j : Nat), j = n ∧ st = [(1, .func (.func g) #[] cl), (5, .slice ou i cu), (7, .int .i64 y), (8, .int .i64 j), (9, .slice oa xs.length c), (10, .int .i64 xs.length), (11, .int .i64 i)] ∧
      h2 = h' ∧ j ≤ us.length ∧ insK ah y us us.length = insK ah y us j) (fun I2 hI2 m st h2 => ?_) ⟨i, rfl, by simp, rfl, by omega, by rw [hul]⟩
    rintro ⟨j, rfl, rfl, rfl, hj, hgt⟩
    have fin : insK ah y us j = j → ∃ v2 h3 dv mv nn h4 h5, appendP P (h2 ++ [some ⟨[.int .i64 0], 1, false⟩]) t_S_int (.slice ou i cu) (.slice (some ⟨h2.length, 0, some 1⟩) 1 1) = some (v2, h3) ∧
        sliceP P h3 t_S_int v2 (some (.int .i64 ((j : Int) + 1))) none = some dv ∧ sliceP P h3 t_S_int v2 (some (.int .i64 j)) none = some mv ∧ copyP P h3 t_S_int dv mv = some (.int .i64 nn, h4) ∧
        indexAddrP P h4 t_S_int v2 (.int .i64 j) = some (.pointer (some (addP (base v2) j))) ∧ storeP P h4 t_int (.int .i64 y) (.pointer (some (addP (base v2) j))) = some h5 ∧ Holds h h5 [.own v2 1 ((insB ah us y).map encI)] := fun hk => by
      obtain ⟨v2, h3, ha, H3, k3, _⟩ := push_I0 H 0 rfl (0 : Int) (by omega)
      obtain ⟨dv, mv, nn, h4, s1, s2, s3, H4, k4⟩ := H3.shift (P := P) 0 rfl (k := j) u_S_int i_int (ones_I _) (by simp; omega)
      have e1 : (((us ++ [0]).map encI).take (j + 1) ++ (((us ++ [0]).map encI).drop j).take (((us ++ [0]).map encI).length - (j + 1))) = ((us ++ [0]).take (j + 1) ++ ((us ++ [0]).drop j).take ((us ++ [0]).length - (j + 1))).map encI := by
        generalize us ++ [0] = ws
        rw [List.map_append, List.map_take, List.map_take, List.map_drop, List.length_map]
      rw [e1] at H4
      have hlen : ((us ++ [0]).take (j + 1) ++ ((us ++ [0]).drop j).take ((us ++ [0]).length - (j + 1))).length = i + 1 := by simp; omega
      obtain ⟨h5, s5, H5, k5⟩ := put_I H4 0 rfl (j := j) (by rw [hlen]; omega) y
      rw [shift_set hj] at H5
      obtain ⟨z, hz, _⟩ := drop_at (show j < ((us ++ [0]).take (j + 1) ++ ((us ++ [0]).drop j).take ((us ++ [0]).length - (j + 1))).length by rw [hlen]; omega)
      have ix := (load_I (H4.sees 0 rfl) hz).1
      refine ⟨v2, h3, dv, mv, nn, h4, h5, ha, s1, s2, s3, ix, s5, ?_⟩
      unfold insB
      rw [hgt, hk]
      exact H5
    have hli : (insB ah us y).length = i + 1 := by rw [insB_len, hul]
    have hini : ∀ z, z ∈ insB ah us y → z ∈ xs := fun z hz => by
      rcases List.mem_cons.1 (insB_perm.mem_iff.1 hz) with rfl | g
      · exact List.mem_of_getElem? hy
      · exact hin z g
    have wj : IntKind.i64.wrap ((j : Int) + 1) = (j : Int) + 1 := by rw [wrap_ok] <;> omega
    by_cases h0 : 0 < j
    · obtain ⟨z, hz, _⟩ := drop_at (show j - 1 < us.length by omega)
      have w1 : IntKind.i64.wrap ((j : Int) - 1) = ((j - 1 : Nat) : Int) := by rw [wrap_ok] <;> omega
      have lz := load_I hus hz
      have h0' : (0 : Int) < j := by omega
      have tl := tell h2 H.pre y z (List.mem_of_getElem? hy) (hin z (List.mem_of_getElem? hz))
      have ek : insK ah y us j = if ah y z = true then insK ah y us (j - 1) else j := by
        obtain ⟨k, rfl⟩ : ∃ k, j = k + 1 := ⟨j - 1, by omega⟩
        rw [Nat.add_sub_cancel] at hz
        rw [insK, hz, Option.getD_some, Nat.add_sub_cancel]
      cases c1 : ah y z
      · rw [c1] at tl
        rw [c1, if_neg (by simp)] at ek
        obtain ⟨v2, h3, dv, mv, nn, h4, h5, ha, s1, s2, s3, ix, s5, H5⟩ := fin ek
        simp -implicitDefEqProofs [-indexAddrP_some, h0, h0', w1, lz, CL_ret tl, ha, wj, s1, s2, s3, ix, s5, winc hlt (by omega)]
        exact ⟨n - 1, by omega, on hI ⟨i + 1, v2, _, by omega, rfl, H5, hli, hini, hs⟩⟩
      · rw [c1] at tl
        rw [c1, if_pos rfl] at ek
        simp -implicitDefEqProofs [-indexAddrP_some, h0, h0', w1, lz, CL_ret tl]
        exact ⟨j - 1, by omega, on hI2 ⟨j - 1, rfl, rfl, rfl, by omega, by rw [hgt, ek]⟩⟩
    · obtain ⟨v2, h3, dv, mv, nn, h4, h5, ha, s1, s2, s3, ix, s5, H5⟩ := fin (by
        have : j = 0 := by omega
        subst this; rfl)
      have h0' : ¬ (0 : Int) < j := by omega
      simp -implicitDefEqProofs [-indexAddrP_some, h0, h0', ha, wj, s1, s2, s3, ix, s5, winc hlt (by omega)]
      exact ⟨n - 1, by omega, on hI ⟨i + 1, v2, _, by omega, rfl, H5, hli, hini, hs⟩⟩
  · rw [List.drop_eq_nil_of_le (by omega), List.foldl_nil] at hs
    rw [hs] at hK
    simp -implicitDefEqProofs [hlt]
    exact onK hK ⟨(H.ret 0 rfl).1, (H.ret 0 rfl).2⟩
theorem asc1_run {h : Hp} {a b : Int} : Ret P G n_impl_ascending_1 [.int .i64 a, .int .i64 b] h (.bool (decide (a < b))) h := by
  refine enter_run e_impl_ascending_1 (by simp) ?_
  simp -implicitDefEqProofs
def ascL (xs : List Int) : List Int := sortB (fun a b => decide (a < b)) xs
theorem ascending_run {h : Hp} {v : Value} {xs : List Int} (hv : Ints h v xs) (hn : xs.length ≤ 2 ^ 20) : RunsC P G n_impl_ascending [v] h fun v' h' => h <+: h' ∧ Own h.length h' v' 1 ((ascL xs).map encI) := by
  refine hideC fun K hK => enter_run e_impl_ascending (by simp) ?_
  simp -implicitDefEqProofs
  refine CL_post (sortedBy_run (ah := fun a b => decide (a < b)) hv hn fun h2 _ a b _ _ => asc1_run) fun v' h1 ⟨hp1, ho⟩ => ?_
  simp -implicitDefEqProofs
  have H := (Holds.start (h := h)).call hp1 ho
  exact onK hK (H.ret 0 rfl)
end Go.Pm.PP

/- Sets as binary digits, in plain terms. -/
set_option linter.unusedVariables false
set_option linter.unusedSimpArgs false
namespace Go.Pm.PE
theorem bit_sub {c i j : Nat} (h : c.testBit i = true) : (c - 2 ^ i).testBit j = (c.testBit j && !decide (j = i)) := by
  have e1 := Nat.div_add_mod c (2 ^ (i + 1))
  have e2 := Nat.mod_lt c (Nat.two_pow_pos (i + 1))
  have e3 : (c % 2 ^ (i + 1)).testBit i = true := by rw [Nat.testBit_mod_two_pow, h]; simp
  generalize c / 2 ^ (i + 1) = q at *
  generalize c % 2 ^ (i + 1) = b at *
  have hb : 2 ^ i ≤ b := Nat.ge_two_pow_of_testBit e3
  obtain ⟨r, rfl⟩ : ∃ r, b = 2 ^ i * 1 + r := ⟨b - 2 ^ i, by omega⟩
  have hr : r < 2 ^ i := by rw [Nat.pow_succ] at e2; omega
  rw [← e1]
  have e4 : 2 ^ (i + 1) * q + (2 ^ i * 1 + r) - 2 ^ i = 2 ^ (i + 1) * q + r := by omega
  rw [e4, Nat.testBit_two_pow_mul_add q (by rw [Nat.pow_succ]; omega) j, Nat.testBit_two_pow_mul_add q e2 j]
  by_cases g : j < i + 1
  · rw [if_pos g, if_pos g, Nat.testBit_two_pow_mul_add 1 hr j]
    by_cases g2 : j < i
    · rw [if_pos g2]; simp; omega
    · have : j = i := by omega
      subst this
      rw [if_neg g2]
      simp [Nat.testBit_lt_two_pow hr]
  · rw [if_neg g, if_neg g]
    simp; omega
/-- The set with the digits of a number. -/
def bitsL (n c : Nat) : List Int := ((List.range' 0 n).filter fun i => c.testBit i).map fun i : Nat => (i : Int)
theorem mem_bits {n c : Nat} {x : Int} : x ∈ bitsL n c ↔ 0 ≤ x ∧ x < n ∧ c.testBit x.toNat = true := by
  unfold bitsL
  rw [List.mem_map]
  constructor
  · rintro ⟨i, hi, rfl⟩
    rw [List.mem_filter] at hi
    have := hi.1
    simp [List.mem_range'_1] at this
    exact ⟨by omega, by omega, by simpa using hi.2⟩
  · rintro ⟨h1, h2, h3⟩
    refine ⟨x.toNat, List.mem_filter.2 ⟨by simp [List.mem_range'_1]; omega, h3⟩, by omega⟩
theorem bits_asc {n c : Nat} : (bitsL n c).Pairwise (· < ·) := by
  unfold bitsL
  refine List.Pairwise.map _ (fun a b h => ?_) (List.Pairwise.filter _ List.pairwise_lt_range')
  omega
theorem bits_nodup {n c : Nat} : (bitsL n c).Nodup := bits_asc.imp fun h => by omega
theorem bits_zero {n : Nat} : bitsL n 0 = [] := by
  unfold bitsL
  rw [List.filter_eq_nil_iff.2]; rfl
  intro i _; simp
/-- One less. -/
theorem bits_del {n c i : Nat} (hi : i < n) (h : c.testBit i = true) : (bitsL n c).Perm ((i : Int) :: bitsL n (c - 2 ^ i)) := by
  refine (List.perm_ext_iff_of_nodup bits_nodup (List.nodup_cons.2 ⟨fun g => ?_, bits_nodup⟩)).2 fun x => ?_
  · have := (mem_bits.1 g).2.2
    rw [bit_sub h] at this
    simp at this
  · rw [List.mem_cons, mem_bits, mem_bits, bit_sub h]
    constructor
    · rintro ⟨h1, h2, h3⟩
      by_cases e : x = i
      · exact .inl e
      · refine .inr ⟨h1, h2, ?_⟩
        rw [h3]; simp; omega
    · rintro (rfl | ⟨h1, h2, h3⟩)
      · exact ⟨by omega, by omega, by simpa using h⟩
      · simp at h3; exact ⟨h1, h2, h3.1⟩
end Go.Pm.PE

/- The table of the least values of sets, in plain terms. -/
set_option linter.unusedVariables false
set_option linter.unusedSimpArgs false
namespace Go.Pm.PP
open Go.Pm Go.Pm.PE
/-- Costs are bounded, and no less for later ends. -/
structure Cb (o : Int) (js : List Job) : Prop where
  lo : ∀ x e, 0 ≤ e → 0 ≤ costV o (jA js x) e
  hi : ∀ x e, 0 ≤ e → e ≤ 2 ^ 20 → costV o (jA js x) e ≤ 2 ^ 27
  mo : ∀ x e e', 0 ≤ e → e ≤ e' → costV o (jA js x) e ≤ costV o (jA js x) e'
end Go.Pm.PP

/- Ruled orders, due orders, inversions, in plain terms. -/
set_option linter.unusedVariables false
set_option linter.unusedSimpArgs false
namespace Go.Pm.PP
open Go.Pm Go.Pm.PE
/-- A job, one with a time in any case. -/
def jB (js : List Job) (x : Int) : Job := if 1 ≤ (jA js x).t then jA js x else ⟨1, 0, 0, 0⟩
theorem jB_t {js : List Job} {x : Int} : 1 ≤ (jB js x).t := by
  unfold jB; split
  · assumption
  · exact Int.le_refl _
def aheadR (o : Int) (js : List Job) (a b : Int) : Bool := decide (gapJ o (jB js a) (jB js b) < 0)
theorem ratio_tr {a b c : Job} (h : 1 ≤ b.t) (ha : 0 ≤ a.t) (hc : 0 ≤ c.t) (h1 : 0 ≤ a.t * b.w - b.t * a.w) (h2 : 0 ≤ b.t * c.w - c.t * b.w) : 0 ≤ a.t * c.w - c.t * a.w := by
  have e1 : 0 ≤ c.t * (a.t * b.w - b.t * a.w) := Int.mul_nonneg hc h1
  have e2 : 0 ≤ a.t * (b.t * c.w - c.t * b.w) := Int.mul_nonneg ha h2
  have e3 : c.t * (a.t * b.w - b.t * a.w) + a.t * (b.t * c.w - c.t * b.w) = b.t * (a.t * c.w - c.t * a.w) := by
    generalize a.t = A; generalize b.t = B; generalize c.t = C; generalize a.w = u; generalize b.w = v; generalize c.w = w
    simp only [Int.mul_sub]
    have f1 : C * (A * v) = A * (C * v) := Int.mul_left_comm ..
    have f2 : C * (B * u) = B * (C * u) := Int.mul_left_comm ..
    have f3 : A * (B * w) = B * (A * w) := Int.mul_left_comm ..
    omega
  have e4 : 0 ≤ b.t * (a.t * c.w - c.t * a.w) := e3 ▸ Int.add_nonneg e1 e2
  rcases Int.lt_or_le (a.t * c.w - c.t * a.w) 0 with g | g
  · have := Int.mul_neg_of_pos_of_neg (show 0 < b.t by omega) g
    omega
  · exact g
theorem gapJ_tr {o : Int} {a b c : Job} (h : 1 ≤ b.t) (ha : 0 ≤ a.t) (hc : 0 ≤ c.t) (h1 : 0 ≤ gapJ o a b) (h2 : 0 ≤ gapJ o b c) : 0 ≤ gapJ o a c := by
  unfold gapJ at *
  split
  · rename_i e; rw [if_pos e] at h1 h2; omega
  · rename_i e; rw [if_neg e] at h1 h2
    split
    · rename_i e; rw [if_pos e] at h1 h2; omega
    · rename_i e; rw [if_neg e] at h1 h2
      split
      · rename_i e; rw [if_pos e] at h1 h2; exact ratio_tr h ha hc h1 h2
      · rename_i e; rw [if_neg e] at h1 h2; omega
theorem gapJ_swap {o : Int} {a b : Job} : gapJ o b a = - gapJ o a b := by
  unfold gapJ
  split
  · omega
  split
  · omega
  split
  · omega
  · omega
theorem ahead_weak {o : Int} {js : List Job} : Weak (aheadR o js) := by
  refine ⟨fun {a b} h => ?_, fun {a b c} h1 h2 => ?_⟩
  · simp only [aheadR, decide_eq_true_eq, decide_eq_false_iff_not] at h ⊢
    have := @gapJ_swap o (jB js a) (jB js b)
    omega
  · simp only [aheadR, decide_eq_false_iff_not, Int.not_lt] at h1 h2 ⊢
    exact gapJ_tr jB_t (by have := @jB_t js a; omega) (by have := @jB_t js c; omega) h1 h2
/-- Jobs with times. -/
def Tm (js : List Job) : Prop := ∀ x : Int, 0 ≤ x → x < js.length → 1 ≤ (jA js x).t
theorem jB_eq {js : List Job} (t : Tm js) {x : Int} (h : 0 ≤ x ∧ x < js.length) : jB js x = jA js x := by unfold jB; rw [if_pos (t x h.1 h.2)]
theorem ahead_eq {o : Int} {js : List Job} (t : Tm js) {a b : Int} (ha : 0 ≤ a ∧ a < js.length) (hb : 0 ≤ b ∧ b < js.length) : aheadR o js a b = decide (gapX o js a b < 0) := by
  unfold aheadR gapX; rw [jB_eq t ha, jB_eq t hb]
/-! ### the list of inversions -/
/-! ### due order -/
def dueAh (js : List Job) (a b : Int) : Bool := decide ((jA js a).d < (jA js b).d) || (((jA js a).d == (jA js b).d) && decide ((jA js a).t < (jA js b).t))
theorem due_weak {js : List Job} : Weak (dueAh js) := by
  constructor
  · intro a b h
    simp only [dueAh, Bool.or_eq_true, decide_eq_true_eq, Bool.and_eq_true, beq_iff_eq, Bool.or_eq_false_iff, decide_eq_false_iff_not, Bool.and_eq_false_iff, beq_eq_false_iff_ne] at h ⊢
    omega
  · intro a b c h1 h2
    simp only [dueAh, Bool.or_eq_false_iff, decide_eq_false_iff_not, Bool.and_eq_false_iff, beq_eq_false_iff_ne] at h1 h2 ⊢
    omega
theorem due_d {js : List Job} {a b : Int} (h : dueAh js b a = false) : (jA js a).d ≤ (jA js b).d := by
  simp only [dueAh, Bool.or_eq_false_iff, decide_eq_false_iff_not] at h
  omega
def dueL (js : List Job) (xs : List Int) : List Int := sortB (dueAh js) xs
theorem dueL_d {js : List Job} {xs : List Int} : (dueL js xs).Pairwise fun a b => (jA js a).d ≤ (jA js b).d := (sortB_weak due_weak).imp due_d
/-- By dates alone. -/
def dAh (js : List Job) (a b : Int) : Bool := decide ((jA js a).d < (jA js b).d)
theorem dAh_weak {js : List Job} : Weak (dAh js) := ⟨fun h => by simp [dAh] at h ⊢; omega, fun h1 h2 => by simp [dAh] at h1 h2 ⊢; omega⟩
theorem dAhL_d {js : List Job} {xs : List Int} : (sortB (dAh js) xs).Pairwise fun a b => (jA js a).d ≤ (jA js b).d := (sortB_weak dAh_weak).imp fun h => by simp [dAh] at h; exact h
/-! ### timely -/
def timGo (js : List Job) : Int → List Int → Bool
  | _, [] => true
  | now, x :: r => decide (now + (jA js x).t ≤ (jA js x).d) && timGo js (now + (jA js x).t) r
/-- Timely if the greatest lateness is not above 0. -/
theorem tim_lat {js : List Job} (p : Pl js) : ∀ {xs : List Int} {now m : Int}, 0 ≤ now → m ≤ 0 → (timGo js now xs = true ↔ latGo js now m xs ≤ 0)
  | [], now, m, _, hm => by simp [timGo, latGo, hm]
  | x :: r, now, m, h, hm => by
    have := p.t x
    rw [timGo, latGo, p.endAt h, Bool.and_eq_true, decide_eq_true_eq]
    have mono : ∀ {xs : List Int} {now m : Int}, m ≤ latGo js now m xs := by
      intro xs
      induction xs with
      | nil => intro now m; exact Int.le_refl _
      | cons x xs ih =>
        intro now m
        rw [latGo]
        exact Int.le_trans (by omega) ih
    constructor
    · rintro ⟨h1, h2⟩
      exact (tim_lat p (by omega) (by omega)).1 h2
    · intro hl
      have h1 := @mono r (now + (jA js x).t) (max m (now + (jA js x).t - (jA js x).d))
      have h2 : now + (jA js x).t ≤ (jA js x).d := by omega
      exact ⟨h2, (tim_lat p (by omega) (by omega)).2 hl⟩
/-- In any order by dates the same. -/
theorem tim_sorted {js : List Job} (p : Pl js) {xs ys : List Int} (hx : xs.Pairwise fun a b => (jA js a).d ≤ (jA js b).d) (hy : ys.Pairwise fun a b => (jA js a).d ≤ (jA js b).d) (hp : xs.Perm ys) : timGo js 0 xs = timGo js 0 ys := by
  have h1 := lat_best p (m := 0) hx hp.symm
  have h2 := lat_best p (m := 0) hy hp
  have t1 := tim_lat p (xs := xs) (Int.le_refl 0) (Int.le_refl 0)
  have t2 := tim_lat p (xs := ys) (Int.le_refl 0) (Int.le_refl 0)
  rw [Bool.eq_iff_iff, t1, t2]
  omega
end Go.Pm.PP

/- The last end of an order; sets of digits of any length. -/
set_option linter.unusedVariables false
set_option linter.unusedSimpArgs false
namespace Go.Pm.PE
theorem bits_snoc {i c : Nat} : bitsL (i + 1) c = bitsL i c ++ (if c.testBit i = true then [(i : Int)] else []) := by
  unfold bitsL
  rw [List.range'_concat, List.filter_append, List.map_append]
  congr 1
  rw [Nat.zero_add, Nat.one_mul, List.filter_cons]
  split <;> rfl
theorem bits_len {i c : Nat} : (bitsL i c).length ≤ i := by
  unfold bitsL
  rw [List.length_map]
  refine Nat.le_trans (List.length_filter_le ..) ?_
  simp
end Go.Pm.PE
namespace Go.Pm.PP
open Go.Pm Go.Pm.PE
end Go.Pm.PP

/- Ends and values of objectives, by both. -/
set_option linter.unusedVariables false
set_option linter.unusedSimpArgs false
set_option maxRecDepth 4000
set_option maxHeartbeats 8000000
namespace Go.Pm.PP
open Go.Pm Go.Proofs
theorem mx_if (a b : Int) : (if a < b then b else a) = max a b := by rw [Int.max_def]; split <;> split <;> omega
theorem job_of {j : Job} (h : jobOk j = true) : (1 ≤ j.t ∧ j.t ≤ 50) ∧ (0 ≤ j.w ∧ j.w ≤ 50) ∧ (0 ≤ j.r ∧ j.r ≤ 500) ∧ 0 ≤ j.d ∧ j.d ≤ 500 := by
  simp only [jobOk, inB, Bool.and_eq_true, decide_eq_true_eq] at h
  omega
theorem job_at {js : List Job} (h : goodL js = true) {i : Nat} {y : Job} (hy : js[i]? = some y) : jobOk y = true := List.all_eq_true.1 h y (List.mem_of_getElem? hy)
theorem mul_bd {w e : Int} (h1 : 0 ≤ w) (h2 : w ≤ 50) (h3 : 0 ≤ e) (h4 : e ≤ 2 ^ 21) : 0 ≤ w * e ∧ w * e ≤ 50 * 2 ^ 21 := ⟨Int.mul_nonneg h1 h3, Int.mul_le_mul h2 h4 h3 (by omega)⟩
theorem cost_bd {o : Int} {j : Job} {e : Int} (hj : jobOk j = true) (h1 : 0 ≤ e) (h2 : e ≤ 2 ^ 20) : 0 ≤ costV o j e ∧ costV o j e ≤ 2 ^ 27 := by
  obtain ⟨_, hw, _, hd⟩ := job_of hj
  have m1 := mul_bd hw.1 hw.2 h1 (by omega)
  have m2 := mul_bd hw.1 hw.2 (e := max (e - j.d) 0) (by omega) (by omega)
  unfold costV
  split
  · omega
  split
  · omega
  split
  · omega
  split
  · omega
  split
  · omega
  split <;> omega
theorem add_run {h : Hp} {j : Job} {a e o : Int} {f : Bool} (hj : jobOk j = true) (h1 : 0 ≤ e) (h2 : e ≤ 2 ^ 20) (ho : 1 ≤ o ∧ o ≤ 8) (ha : -(2 ^ 50) ≤ a ∧ a ≤ 2 ^ 50) : Ret P G n_impl_add [.int .i64 a, jv j, .int .i64 e, .int .i64 o, .bool f] h (.int .i64 (stepV o f a j e)) h := by
  refine enter_run e_impl_add (by simp) ?_
  obtain ⟨_, hw, _, hd⟩ := job_of hj
  have m1 := mul_bd hw.1 hw.2 h1 (by omega)
  have m2 := mul_bd hw.1 hw.2 (e := max 0 (e - j.d)) (by omega) (by omega)
  have w1 : IntKind.i64.wrap (e - j.d) = e - j.d := by rw [wrap_ok] <;> omega
  have w2 : IntKind.i64.wrap (j.w * e) = j.w * e := by rw [wrap_ok] <;> omega
  have w3 : IntKind.i64.wrap (j.w * max 0 (e - j.d)) = j.w * max 0 (e - j.d) := by rw [wrap_ok] <;> omega
  have w4 : IntKind.i64.wrap (a + e) = a + e := by rw [wrap_ok] <;> omega
  have w5 : IntKind.i64.wrap (a + j.w * e) = a + j.w * e := by rw [wrap_ok] <;> omega
  have w6 : IntKind.i64.wrap (a + max 0 (e - j.d)) = a + max 0 (e - j.d) := by rw [wrap_ok] <;> omega
  have w7 : IntKind.i64.wrap (a + j.w * max 0 (e - j.d)) = a + j.w * max 0 (e - j.d) := by rw [wrap_ok] <;> omega
  have w8 : IntKind.i64.wrap (a + 1) = a + 1 := by rw [wrap_ok] <;> omega
  have w9 : IntKind.i64.wrap (a + j.w) = a + j.w := by rw [wrap_ok] <;> omega
  have mc : max 0 (e - j.d) = max (e - j.d) 0 := Int.max_comm ..
  rw [mc] at w3 w6 w7
  have hc : o = 1 ∨ o = 2 ∨ o = 3 ∨ o = 4 ∨ o = 5 ∨ o = 6 ∨ o = 7 ∨ o = 8 := by omega
  rcases hc with rfl | rfl | rfl | rfl | rfl | rfl | rfl | rfl
  · simp -implicitDefEqProofs [w1, foldI, mx_if, stepV]
  · simp -implicitDefEqProofs [w1, w4, stepV, costV]
  · simp -implicitDefEqProofs [w1, w2, w5, stepV, costV]
  · cases f <;> simp -implicitDefEqProofs [w1, foldI, mx_if, stepV]
  · simp -implicitDefEqProofs [w1, foldI, mx_if, w6, stepV, costV, mc]
  · simp -implicitDefEqProofs [w1, foldI, mx_if, w3, w7, stepV, costV, mc]
  · by_cases c : e - j.d ≤ 0
    · have c' : max (e - j.d) 0 = 0 := by omega
      simp -implicitDefEqProofs [w1, c, stepV, costV, c']
    · have c' : ¬ max (e - j.d) 0 = 0 := by omega
      simp -implicitDefEqProofs [w1, c, w8, stepV, costV, c']
  · by_cases c : e - j.d ≤ 0
    · have c' : max (e - j.d) 0 = 0 := by omega
      simp -implicitDefEqProofs [w1, c, stepV, costV, c']
    · have c' : ¬ max (e - j.d) 0 = 0 := by omega
      simp -implicitDefEqProofs [w1, c, w9, stepV, costV, c']
theorem step_bd {o : Int} {f : Bool} {a : Int} {j : Job} {e : Int} {B : Int} (hj : jobOk j = true) (h1 : 0 ≤ e) (h2 : e ≤ 2 ^ 20) (ha : -B ≤ a ∧ a ≤ B) (hB : 0 ≤ B) : -(B + 2 ^ 27) ≤ stepV o f a j e ∧ stepV o f a j e ≤ B + 2 ^ 27 := by
  have hc := cost_bd (o := o) hj h1 h2
  obtain ⟨_, _, _, hd⟩ := job_of hj
  unfold stepV
  split
  · omega
  · split
    · split <;> omega
    · omega
theorem val_drop {o : Int} {f : Bool} {a : Int} {js : List Job} {es : List Int} {i : Nat} {y : Job} {e : Int} (hy : js[i]? = some y) (he : es[i]? = some e) : valGo o f a (js.drop i) (es.drop i) = valGo o false (stepV o f a y e) (js.drop (i + 1)) (es.drop (i + 1)) := by
  obtain ⟨y', hy', hd⟩ := drop_at (List.getElem?_eq_some_iff.1 hy).1
  obtain ⟨e', he', hd'⟩ := drop_at (List.getElem?_eq_some_iff.1 he).1
  rw [hy] at hy'; cases hy'
  rw [he] at he'; cases he'
  rw [hd, hd', valGo]
theorem valueOfEnds_run {h : Hp} {v u : Value} {js : List Job} {es : List Int} {o : Int} (hj : Jobs h v js) (hu : Ints h u es) (hg : goodL js = true) (hn : js.length ≤ 8) (hl : es.length = js.length) (he : ∀ e, e ∈ es → 0 ≤ e ∧ e ≤ 2 ^ 20) (ho : 1 ≤ o ∧ o ≤ 8) :
    Ret P G n_impl_valueOfEnds [v, u, .int .i64 o] h (.int .i64 (valE o js es)) h := by
  refine enter_run e_impl_valueOfEnds (by simp) ?_
  have hjs := hj
  have hus := hu
  obtain ⟨oj, cj, rfl⟩ := hj.shapeT
  obtain ⟨oa, c, rfl⟩ := hu.shapeT
  simp -implicitDefEqProofs
  refine R_loopO (fun m s h' => ∃ (i : Nat) (a : Int), i + m = js.length ∧ s = [(1, .slice oa es.length c), (2, .int .i64 o), (7, .int .i64 a), (10, .slice oj js.length cj), (11, .int .i64 js.length), (12, .int .i64 i)] ∧ h <+: h' ∧ valE o js es = valGo o (decide (i = 0)) a (js.drop i) (es.drop i) ∧ -((i : Int) * 2 ^ 27) ≤ a ∧ a ≤ (i : Int) * 2 ^ 27) (fun I hI m s h' => ?_) ⟨0, 0, Nat.zero_add _, by simp, List.prefix_rfl, rfl, by omega, by omega⟩
  rintro ⟨i, a, hi, rfl, hp, hx, ha1, ha2⟩
  by_cases hlt : i < js.length
  · obtain ⟨y, hy, _⟩ := drop_at hlt
    obtain ⟨e, he', _⟩ := drop_at (show i < es.length by omega)
    have hjy := job_at hg hy
    have hey := he e (List.mem_of_getElem? he')
    rw [val_drop hy he'] at hx
    have sb := step_bd (o := o) (f := decide (i = 0)) hjy hey.1 hey.2 ⟨ha1, ha2⟩ (by omega)
    have lj := load_J (hjs.pre hp) hy
    have le := fun l => load_I (hus.pre (hp.trans (List.prefix_append h' l))) he'
    have wi := winc hlt (show js.length ≤ 2 ^ 40 by omega)
    have ra := fun (h : Hp) => add_run (h := h) (a := a) (f := decide (i = 0)) hjy hey.1 hey.2 ho (by omega)
    have hb : ((i : Int) == 0) = decide (i = 0) := by
      by_cases g : i = 0
      · subst g; rfl
      · rw [nb (by omega)]; simp [g]
    simp -implicitDefEqProofs [-indexAddrP_some, hlt, lj, le, hb, CL_ret (ra _), CH_at (ra _), wi]
    exact ⟨m - 1, by omega, on hI ⟨i + 1, _, by omega, rfl, hp.trans (List.prefix_append ..), by simpa using hx, by omega, by omega⟩⟩
  · rw [List.drop_eq_nil_of_le (by omega)] at hx
    have hx' : valE o js es = a := by rw [hx]; simp [valGo]
    simp -implicitDefEqProofs [hlt, hx']
    exact gcP hp rfl
/-! ### ends -/
theorem jA_get {js : List Job} {x : Int} {n : Nat} (hn : n = js.length) (h : 0 ≤ x ∧ x < n) : ∃ k : Nat, x = k ∧ k < js.length ∧ js[k]? = some (jA js x) := by
  obtain ⟨y, hy, _⟩ := drop_at (show x.toNat < js.length by omega)
  exact ⟨x.toNat, by omega, by omega, by rw [hy]; unfold jA; rw [hy]; rfl⟩
theorem endsOf_run {h : Hp} {v u : Value} {js : List Job} {xs : List Int} (hj : Jobs h v js) (hu : Ints h u xs) (hg : goodL js = true) (hn : js.length ≤ 8) (hl : xs.length ≤ 8) (hin : inN js.length xs) :
    RunsC P G n_impl_endsOf [v, u] h fun v' h' => h <+: h' ∧ Own h.length h' v' 1 ((endsL js xs).map encI) ∧ ∀ e, e ∈ endsL js xs → 0 ≤ e ∧ e ≤ 5050 := by
  refine hideC fun K hK => enter_run e_impl_endsOf (by simp) ?_
  have hjs := hj
  have hus := hu
  obtain ⟨oj, cj, rfl⟩ := hj.shapeT
  obtain ⟨oa, c, rfl⟩ := hu.shapeT
  obtain ⟨vz, h1, mk, H1, hp1, oz, rfl⟩ := make_I (Holds.start (h := h)) (n := js.length) (by omega)
  generalize hX : endsL js xs = X at hK
  simp -implicitDefEqProofs [mk]
  refine R_loopO (fun m s h' => ∃ (i : Nat) (now : Int) (S : List Int), i + m = xs.length ∧ s = [(0, .slice oj js.length cj), (5, .slice oz js.length js.length), (6, .int .i64 now), (12, .slice oa xs.length c), (13, .int .i64 xs.length), (14, .int .i64 i)] ∧
    Holds h h' [.own (.slice oz js.length js.length) 1 (S.map encI)] ∧ X = endGo js (xs.drop i) now S ∧ S.length = js.length ∧ 0 ≤ now ∧ now ≤ 550 * i ∧ ∀ e, e ∈ S → 0 ≤ e ∧ e ≤ 5050) (fun I hI m s h' => ?_) ⟨0, 0, List.replicate js.length 0, Nat.zero_add _, by simp, H1, hX.symm, by simp, by omega, by omega, fun e he => by rw [List.eq_of_mem_replicate he]; omega⟩
  rintro ⟨i, now, S, hi, rfl, H, hx, hS, n0, n1, hSe⟩
  by_cases hlt : i < xs.length
  · obtain ⟨x, hxx, hd⟩ := drop_at hlt
    rw [hd, endGo] at hx
    obtain ⟨k, hk, hkl, hky⟩ := jA_get rfl (hin x (List.mem_of_getElem? hxx))
    have jb := job_of (job_at hg hky)
    generalize hJ : jA js x = y at hx hky jb
    subst hk
    rw [Int.toNat_natCast] at hx
    have lx := load_I (hus.pre H.pre) hxx
    have ly := load_J (hjs.pre H.pre) hky
    have ix := (load_I (H.sees 0 rfl) (gE_get (l := S) (i := k) (by omega))).1
    obtain ⟨h2, s2, H2, _⟩ := put_I H 0 rfl (j := k) (by omega) (max now y.r + y.t)
    have wM : IntKind.i64.wrap (max now y.r + y.t) = max now y.r + y.t := by rw [wrap_ok] <;> omega
    simp -implicitDefEqProofs [-indexAddrP_some, hlt, lx, ly, foldI, mx_if, wM, ix, s2, winc hlt (by omega)]
    refine ⟨m - 1, by omega, on hI ⟨i + 1, _, _, by omega, rfl, H2, hx, by rw [List.length_set]; exact hS, by omega, by omega, fun e he => ?_⟩⟩
    rcases List.mem_or_eq_of_mem_set he with g | g
    · exact hSe e g
    · omega
  · rw [List.drop_eq_nil_of_le (by omega), endGo] at hx
    subst hx
    simp -implicitDefEqProofs [hlt]
    exact onK hK ⟨(H.ret 0 rfl).1, (H.ret 0 rfl).2, hSe⟩
end Go.Pm.PP

/- The next order of a list, in place. -/
set_option linter.unusedVariables false
set_option linter.unusedSimpArgs false
set_option maxRecDepth 4000
set_option maxHeartbeats 4000000
namespace Go.Pm.PE
theorem next_pre {pre r r' : List Int} (h : nextP r = some r') : nextP (pre ++ r) = some (pre ++ r') := by
  induction pre with
  | nil => exact h
  | cons z pre ih => rw [List.cons_append, nextP, ih]; rfl
/-- A list whose p outermost elements on both sides are turned round. -/
def revP (p : Nat) (t : List Int) : List Int := (List.range t.length).map fun j => if j < p ∨ t.length - p ≤ j then t[t.length - 1 - j]?.getD 0 else t[j]?.getD 0
theorem revP_len {p : Nat} {t : List Int} : (revP p t).length = t.length := by simp [revP]
theorem revP_get {p : Nat} {t : List Int} {j : Nat} (hj : j < t.length) : (revP p t)[j]? = some (if j < p ∨ t.length - p ≤ j then t[t.length - 1 - j]?.getD 0 else t[j]?.getD 0) := by simp [revP, hj]
theorem revP_zero {t : List Int} : revP 0 t = t := by
  apply List.ext_getElem?
  intro j
  rcases Nat.lt_or_ge j t.length with h | h
  · rw [revP_get h, if_neg (by omega), List.getElem?_eq_getElem h]; rfl
  · rw [List.getElem?_eq_none (by rw [revP_len]; omega), List.getElem?_eq_none h]
theorem revP_end {p : Nat} {t : List Int} (h : t.length ≤ 2 * p + 1) : revP p t = t.reverse := by
  apply List.ext_getElem?
  intro j
  rcases Nat.lt_or_ge j t.length with hj | hj
  · rw [revP_get hj, List.getElem?_reverse hj]
    by_cases c : j < p ∨ t.length - p ≤ j
    · rw [if_pos c, List.getElem?_eq_getElem (by omega)]; rfl
    · rw [if_neg c, List.getElem?_eq_getElem hj, show t.length - 1 - j = j by omega, List.getElem?_eq_getElem hj]; rfl
  · rw [List.getElem?_eq_none (by rw [revP_len]; omega), List.getElem?_eq_none (by simpa using hj)]
theorem revP_step {p : Nat} {t : List Int} {x y : Int} (h : 2 * p + 1 < t.length) (hx : t[p]? = some x) (hy : t[t.length - 1 - p]? = some y) : ((revP p t).set p y).set (t.length - 1 - p) x = revP (p + 1) t := by
  apply List.ext_getElem?
  intro j
  rcases Nat.lt_or_ge j t.length with hj | hj
  · rw [revP_get hj, List.getElem?_set]
    by_cases c1 : t.length - 1 - p = j
    · rw [if_pos c1, if_pos (by rw [List.length_set, revP_len]; omega), if_pos (by omega), ← c1, show t.length - 1 - (t.length - 1 - p) = p by omega, hx]; rfl
    · rw [if_neg c1, List.getElem?_set]
      by_cases c2 : p = j
      · rw [if_pos c2, if_pos (by rw [revP_len]; omega), if_pos (by omega), ← c2, hy]; rfl
      · rw [if_neg c2, revP_get hj]
        by_cases c3 : j < p ∨ t.length - p ≤ j
        · rw [if_pos c3, if_pos (by omega)]
        · rw [if_neg c3, if_neg (by omega)]
  · rw [List.getElem?_eq_none (by simp [revP_len]; omega), List.getElem?_eq_none (by rw [revP_len]; omega)]
/-- What the program finds: from the end, the first that is less than the one behind it; the last one greater than this. -/
theorem next_at {xs pre b a : List Int} {x y : Int} (h : xs = pre ++ x :: (a ++ y :: b)) (hd : (a ++ y :: b).Pairwise (· > ·)) (hb : ∀ z, z ∈ b → ¬ x < z) (hy : x < y) : nextP xs = some (pre ++ y :: (a ++ x :: b).reverse) := by
  rw [h]
  refine next_pre ?_
  rw [nextP, desc_next hd, swapL_some hb hy]
end Go.Pm.PE
namespace Go.Pm.PP
open Go.Pm Go.Proofs Go.Pm.PE
theorem keeps_gc {v u : Value} {h h' : Hp} (k : Keeps (rowV v) h h') : Keeps (rowV v) h (gc h h' u) := by
  rcases gc_cases' h h' u with g | ⟨_, g⟩ <;> rw [g]
  · exact k
  · exact .ofPre List.prefix_rfl
theorem nextOrder_run {h0 h : Hp} {v : Value} {xs : List Int} (H0 : Holds h0 h [.own v 1 (xs.map encI)]) (hn : xs.length ≤ 2 ^ 20) (nd : xs.Nodup) :
    RunsC P G n_impl_nextOrder [v] h fun r h' => r = .bool (nextP xs).isSome ∧ Own h0.length h' v 1 (((nextP xs).getD xs).map encI) ∧ Keeps (rowV v) h h' := by
  refine hideC fun K hK => enter_run e_impl_nextOrder (by simp) ?_
  have Hs := H0.sees 0 rfl
  obtain ⟨oa, c, ev⟩ := Hs.shapeT
  subst ev
  have w2 : IntKind.i64.wrap ((xs.length : Int) - 2) = (xs.length : Int) - 2 := by rw [wrap_ok] <;> omega
  have lt_of : ∀ {i j : Nat} {a b : Int}, xs[i]? = some a → xs[j]? = some b → i ≠ j → a ≠ b := fun {i j a b} h1 h2 hne e => by
    subst e
    obtain ⟨g1, e1⟩ := List.getElem?_eq_some_iff.1 h1
    obtain ⟨g2, e2⟩ := List.getElem?_eq_some_iff.1 h2
    exact hne ((List.getElem_inj nd).1 (e1.trans e2.symm))
  simp -implicitDefEqProofs [w2]
  -- from the end
  refine R_loopO (fun m s h' => ((m : Int) ≤ xs.length - 1 ∨ m = 0) ∧ s = [(0, .slice oa xs.length c), (3, .int .i64 (if xs.length = 0 then -2 else (m : Int) - 1))] ∧ h' = h ∧ (xs.drop m).Pairwise (· > ·)) (fun I hI m s h' => ?_) (n := xs.length - 1)
    ⟨by omega, by
      rw [show (if xs.length = 0 then (-2 : Int) else ((xs.length - 1 : Nat) : Int) - 1) = (xs.length : Int) - 2 by split <;> omega]
      simp [w2], rfl, by
      rcases Nat.eq_zero_or_pos xs.length with g | g
      · rw [List.eq_nil_of_length_eq_zero g]; simp
      · obtain ⟨z, hz, hd⟩ := drop_at (show xs.length - 1 < xs.length by omega)
        rw [hd, List.drop_eq_nil_of_le (by omega)]; simp⟩
  rintro ⟨hm, rfl, rfl, hd⟩
  rcases Nat.eq_zero_or_pos m with m0 | m0
  · -- none
    subst m0
    have hnone : nextP xs = none := desc_next (by simpa using hd)
    rw [hnone] at hK
    have i0 : (if xs.length = 0 then (-2 : Int) else ((0 : Nat) : Int) - 1) < 0 := by split <;> omega
    generalize (if xs.length = 0 then (-2 : Int) else ((0 : Nat) : Int) - 1) = iv at i0 ⊢
    have i1 : ¬ 0 ≤ iv := by omega
    simp -implicitDefEqProofs [i0, i1]
    exact onK hK ⟨rfl, H0.own 0 rfl, .ofPre List.prefix_rfl⟩
  · obtain ⟨q, rfl⟩ : ∃ q, m = q + 1 := ⟨m - 1, by omega⟩
    have hql : q + 1 < xs.length := by omega
    rw [if_neg (by omega), show ((q + 1 : Nat) : Int) - 1 = (q : Int) by omega]
    obtain ⟨x, hx, hdx⟩ := drop_at (show q < xs.length by omega)
    obtain ⟨x1, hx1, hdx1⟩ := drop_at hql
    have lx := load_I Hs hx
    have lx1 := load_I Hs hx1
    have q0 : (0 : Int) ≤ (q : Int) := by omega
    have wq := winc (show q < xs.length by omega) (by omega)
    have wd : IntKind.i64.wrap ((q : Int) - 1) = (q : Int) - 1 := by rw [wrap_ok] <;> omega
    rw [show ((q + 1 : Nat) : Int) = (q : Int) + 1 from rfl] at lx1 wq
    by_cases c1 : x1 < x
    · simp -implicitDefEqProofs [-indexAddrP_some, q0, lx, lx1, wq, wd, c1]
      refine ⟨q, by omega, on hI ⟨by omega, ?_, rfl, ?_⟩⟩
      · rw [if_neg (by omega)]
      · rw [hdx]
        refine List.pairwise_cons.2 ⟨fun z hz => ?_, hd⟩
        rw [hdx1] at hz hd
        rcases List.mem_cons.1 hz with rfl | hz
        · exact c1
        · have := (List.pairwise_cons.1 hd).1 z hz; omega
    · have hlt : x < x1 := by have := lt_of hx hx1 (by omega); omega
      have nq0 : ¬ (q : Int) < 0 := by omega
      have w1 : IntKind.i64.wrap ((xs.length : Int) - 1) = (xs.length : Int) - 1 := by rw [wrap_ok] <;> omega
      simp -implicitDefEqProofs [-indexAddrP_some, q0, lx, lx1, wq, c1, nq0, w1]
      -- the last one greater
      refine R_loopO (fun m s h2 => q + 1 ≤ m ∧ m < xs.length ∧ s = [(0, .slice oa xs.length c), (3, .int .i64 q), (4, .int .i64 m)] ∧ h2 = h' ∧ ∀ z, z ∈ xs.drop (m + 1) → ¬ x < z) (fun I2 hI2 m s h2 => ?_) (n := xs.length - 1)
        ⟨by omega, by omega, by simp; omega, rfl, fun z hz => by rw [List.drop_eq_nil_of_le (by omega)] at hz; cases hz⟩
      rintro ⟨hm1, hm2, rfl, rfl, hgt⟩
      obtain ⟨y, hy, hdy⟩ := drop_at hm2
      have ly := load_I Hs hy
      have hne := lt_of hx hy (by omega)
      by_cases c2 : y < x
      · have hmq : q + 1 ≠ m := fun e => by subst e; rw [hx1] at hy; cases hy; omega
        have wm : IntKind.i64.wrap ((m : Int) - 1) = ((m - 1 : Nat) : Int) := by rw [wrap_ok] <;> omega
        simp -implicitDefEqProofs [-indexAddrP_some, lx, ly, c2, wm]
        refine ⟨m - 1, by omega, on hI2 ⟨by omega, by omega, rfl, rfl, fun z hz => ?_⟩⟩
        rw [show m - 1 + 1 = m by omega, hdy] at hz
        rcases List.mem_cons.1 hz with rfl | hz
        · omega
        · exact hgt z hz
      · have hxy : x < y := by omega
        -- the change
        obtain ⟨a, ha⟩ : ∃ a, a = (xs.drop (q + 1)).take (m - (q + 1)) := ⟨_, rfl⟩
        obtain ⟨b, hb⟩ : ∃ b, b = xs.drop (m + 1) := ⟨_, rfl⟩
        have hal : a.length = m - (q + 1) := by rw [ha]; simp; omega
        have e1 : xs.drop (q + 1) = a ++ y :: b := by
          have := List.take_append_drop (m - (q + 1)) (xs.drop (q + 1))
          rw [List.drop_drop, show q + 1 + (m - (q + 1)) = m by omega, hdy] at this
          rw [ha, hb]; exact this.symm
        have e2 : xs = xs.take q ++ x :: (a ++ y :: b) := by
          conv => lhs; rw [← List.take_append_drop q xs, hdx, e1]
        have hres : nextP xs = some (xs.take q ++ y :: (a ++ x :: b).reverse) := next_at e2 (by rw [← e1]; exact hd) (by rw [hb]; exact hgt) hxy
        rw [hres] at hK
        have htq : (xs.take q).length = q := by simp; omega
        have htl : (a ++ x :: b).length = xs.length - (q + 1) := by
          have := congrArg List.length e1
          simp only [List.length_append, List.length_cons, List.length_drop] at this ⊢
          omega
        obtain ⟨h3, s3, H3, k3⟩ := put_I H0 0 rfl (j := q) (by omega) y
        have ixm : indexAddrP P h3 t_S_int (.slice oa xs.length c) (.int .i64 m) = some (.pointer (some (addP (base (.slice oa xs.length c)) m))) := by
          obtain ⟨z, hz, _⟩ := drop_at (show m < (xs.set q y).length by simpa using hm2)
          exact (load_I (H3.sees 0 rfl) hz).1
        obtain ⟨h4, s4, H4, k4⟩ := put_I H3 0 rfl (j := m) (by simpa using hm2) x
        have e3 : (xs.set q y).set m x = xs.take q ++ y :: (a ++ x :: b) := by
          conv => lhs; rw [e2]
          rw [List.set_append_right (h := by omega), htq, Nat.sub_self, List.set_cons_zero, List.set_append_right (h := by omega), htq]
          rw [show m - q = (m - (q + 1)) + 1 by omega, List.set_cons_succ, List.set_append_right (h := by omega), hal, Nat.sub_self, List.set_cons_zero]
        simp only [List.set_cons_zero] at H4
        rw [e3] at H4
        have wm : IntKind.i64.wrap ((xs.length : Int) - 1) = (xs.length : Int) - 1 := by rw [wrap_ok] <;> omega
        simp -implicitDefEqProofs [-indexAddrP_some, lx, ly, c2, s3, ixm, s4, wq, wm]
        -- turning round
        generalize ht : a ++ x :: b = t at hres hK htl H4
        refine R_loopO (fun n s h5 => ∃ p : Nat, 2 * p ≤ t.length + 1 ∧ n = t.length + 1 - 2 * p ∧ s = [(0, .slice oa xs.length c), (5, .int .i64 (q + 1 + p : Nat)), (6, .int .i64 ((xs.length : Int) - 1 - p))] ∧ Keeps (rowV (.slice oa xs.length c)) h2 h5 ∧
          Holds h0 h5 [.own (.slice oa xs.length c) 1 ((xs.take q ++ y :: revP p t).map encI)]) (fun I3 hI3 n s h5 => ?_) (n := t.length + 1)
          ⟨0, by omega, by omega, by simp, k3.trans k4, by rw [revP_zero]; exact H4⟩
        rintro ⟨p, hp, rfl, rfl, k5, H5⟩
        have hrl : (revP p t).length = t.length := revP_len
        by_cases hlt2 : 2 * p + 1 < t.length
        · obtain ⟨u, hu, _⟩ := drop_at (show p < t.length by omega)
          obtain ⟨w, hw, _⟩ := drop_at (show t.length - 1 - p < t.length by omega)
          have gu : (revP p t)[p]? = some u := by rw [revP_get (by omega), if_neg (by omega), hu]; rfl
          have gw : (revP p t)[t.length - 1 - p]? = some w := by rw [revP_get (by omega), if_neg (by omega), hw]; rfl
          have gu' : (xs.take q ++ y :: revP p t)[q + 1 + p]? = some u := by
            rw [List.getElem?_append_right (by omega), htq, show q + 1 + p - q = p + 1 by omega, List.getElem?_cons_succ]; exact gu
          have gw' : (xs.take q ++ y :: revP p t)[q + 1 + (t.length - 1 - p)]? = some w := by
            rw [List.getElem?_append_right (by omega), htq, show q + 1 + (t.length - 1 - p) - q = (t.length - 1 - p) + 1 by omega, List.getElem?_cons_succ]; exact gw
          have lu := load_I (H5.sees 0 rfl) gu'
          have lw := load_I (H5.sees 0 rfl) gw'
          have eb : ((xs.length : Int) - 1 - p) = ((q + 1 + (t.length - 1 - p) : Nat) : Int) := by omega
          rw [eb]
          have hlt3 : ((q + 1 + p : Nat) : Int) < ((q + 1 + (t.length - 1 - p) : Nat) : Int) := by omega
          have hll : (xs.take q ++ y :: revP p t).length = xs.length := by rw [List.length_append, List.length_cons, hrl, htq]; omega
          obtain ⟨h6, s6, H6, k6⟩ := put_I H5 0 rfl (j := q + 1 + p) (by rw [hll]; omega) w
          have ix6 : indexAddrP P h6 t_S_int (.slice oa xs.length c) (.int .i64 (q + 1 + (t.length - 1 - p) : Nat)) = some (.pointer (some (addP (base (.slice oa xs.length c)) (q + 1 + (t.length - 1 - p))))) := by
            obtain ⟨z, hz, _⟩ := drop_at (show q + 1 + (t.length - 1 - p) < ((xs.take q ++ y :: revP p t).set (q + 1 + p) w).length by rw [List.length_set, hll]; omega)
            exact (load_I (H6.sees 0 rfl) hz).1
          obtain ⟨h7, s7, H7, k7⟩ := put_I H6 0 rfl (j := q + 1 + (t.length - 1 - p)) (by rw [List.length_set, hll]; omega) u
          simp only [List.set_cons_zero] at H7
          have e4 : ((xs.take q ++ y :: revP p t).set (q + 1 + p) w).set (q + 1 + (t.length - 1 - p)) u = xs.take q ++ y :: revP (p + 1) t := by
            rw [List.set_append_right (h := by omega), htq, show q + 1 + p - q = p + 1 by omega, List.set_cons_succ, List.set_append_right (h := by omega), htq, show q + 1 + (t.length - 1 - p) - q = (t.length - 1 - p) + 1 by omega, List.set_cons_succ, revP_step hlt2 hu hw]
          rw [e4] at H7
          obtain ⟨A, hA⟩ : ∃ A : Nat, A = q + 1 + p := ⟨_, rfl⟩
          obtain ⟨B, hB⟩ : ∃ B : Nat, B = q + 1 + (t.length - 1 - p) := ⟨_, rfl⟩
          rw [← hA, ← hB] at hlt3
          rw [← hA] at lu s6
          rw [← hB] at lw ix6 s7
          rw [← hA, ← hB]
          have hltN : A < B := by omega
          have wA := winc (show A < xs.length by omega) (by omega)
          have wB : IntKind.i64.wrap ((B : Int) - 1) = (B : Int) - 1 := by rw [wrap_ok] <;> omega
          simp -implicitDefEqProofs [-indexAddrP_some, hltN, lu, lw, s6, ix6, s7, wA, wB]
          refine ⟨t.length + 1 - 2 * (p + 1), by omega, on hI3 ⟨p + 1, by omega, rfl, ?_, k5.trans (k6.trans k7), H7⟩⟩
          simp; omega
        · rw [revP_end (by omega)] at H5
          have hnl : ¬ ((q : Int) + 1 + (p : Int)) < (xs.length : Int) - 1 - p := by omega
          simp -implicitDefEqProofs [hnl]
          refine onK hK ⟨rfl, ?_, keeps_gc k5⟩
          rw [Option.getD_some]
          exact (Holds.gcR H0 H5 rfl).own 0 rfl
end Go.Pm.PP

/- What is seen stands where a box is written; what may be written in a head; numbers up to n. -/
set_option linter.unusedVariables false
set_option linter.unusedSimpArgs false
set_option maxRecDepth 4000
set_option maxHeartbeats 4000000
namespace Go.Pm.PP
open Go.Pm Go.Proofs
theorem nr_mod {b : Nat} {h h' : Hp} (n : NR b h') (m : NR h.length h') (hp : h.take b <+: h') : modOk b h h' := ⟨m.1, hp, by
  rw [List.all_eq_true]
  intro x hx
  cases x with
  | none => rfl
  | some x =>
    obtain ⟨k, hk⟩ := List.getElem?_of_mem hx
    rw [List.getElem?_drop] at hk
    simp [n.2 _ x (by omega) hk]⟩
theorem nr_self {h : Hp} : NR h.length h := ⟨Nat.le_refl _, fun r x hr hx => by rw [List.getElem?_eq_none hr] at hx; cases hx⟩
theorem app_mod {b : Nat} {h h1 h' : Hp} {t : TypeId} {s x v : Value} (hb : h.length = b) (n : NR b h1) (e : appendP P h1 t s x = some (v, h')) (hp : h <+: h1) (hp' : h <+: h') : modOk b h1 h' :=
  nr_mod (append_nr n e) (append_nr nr_self e) (by
    subst hb
    obtain ⟨l, rfl⟩ := hp
    rw [List.take_left' rfl]
    exact hp')
end Go.Pm.PP
namespace Go.Pm
theorem Holds.one {h0 h : Hp} {L : List Asn} {A : Asn} (H : Holds h0 h L) (i : Nat) (hi : L[i]? = some A) : Holds h0 h [A] :=
  H.sub (fun _ => i) (fun j B hB => by
    match j, hB with
    | 0, hB => cases hB; exact hi
    | j + 1, hB => cases hB) fun j k B C hB hC _ => by
    match j, k, hB, hC with
    | 0, 0, _, _ => rfl
    | j + 1, _, hB, _ => cases hB
    | _, k + 1, _, hC => cases hC
end Go.Pm

/- The best order of jobs: the reference's search. -/
set_option linter.unusedVariables false
set_option linter.unusedSimpArgs false
set_option maxRecDepth 4000
set_option maxHeartbeats 8000000
namespace Go.Pm.PP
open Go.Pm Go.Proofs Go.Pm.PE
/-- What a search has found. -/
structure Sr where
  o : List Int
  v : Int
  c : Int
def valX (o : Int) (js : List Job) (xs : List Int) : Int := valE o js (endsL js xs)
def updS (f : List Int → Int) (b : Sr) (xs : List Int) : Sr := if b.c = 0 ∨ f xs < b.v then ⟨xs, f xs, 1⟩ else if f xs = b.v then ⟨b.o, b.v, w64 (b.c + 1)⟩ else b
theorem Sees.gcU {h0 h : Hp} {v u : Value} {sz : Nat} {els : List (List Value)} (s : Sees h v sz els) (hu : plain u = true → plainC v = true) : Sees (gc h0 h u) v sz els := by
  rcases gc_cases h0 h u with g | ⟨hp, g⟩ <;> rw [g]
  · exact s
  · have hv := hu hp
    obtain ⟨h1, oa, c, rfl, h3⟩ := s
    rcases h3 with ⟨rfl, rfl, rfl⟩ | ⟨r, o, x, rfl, _⟩
    · exact ⟨by simp, none, 0, rfl, .inl ⟨rfl, rfl, rfl⟩⟩
    · cases hv
/-- An order of all jobs. -/
structure Ord (n : Nat) (xs : List Int) : Prop where
  len : xs.length = n
  inn : inN n xs
  nd : xs.Nodup
theorem Ord.all {n : Nat} {xs : List Int} (o : Ord n xs) {i : Nat} (hi : i < n) : (i : Int) ∈ xs :=
  pigeon xs (upTo n) o.nd (fun x hx => mem_upTo.2 (o.inn x hx)) (by rw [upTo_len, o.len]; omega) i (mem_upTo.2 (by omega))
section
variable {h : Hp} {v u : Value} {js : List Job} {xs : List Int} {o : Int}
theorem valueOf_run (hj : Jobs h v js) (hu : Ints h u xs) (hg : goodL js = true) (hn : js.length ≤ 8) (ho : 1 ≤ o ∧ o ≤ 8) (hx : Ord js.length xs) : Ret P G n_impl_valueOf [v, u, .int .i64 o] h (.int .i64 (valX o js xs)) h := by
  refine enter_run e_impl_valueOf (by simp) ?_
  have hjs := hj
  obtain ⟨oj, cj, rfl⟩ := hj.shapeT
  simp -implicitDefEqProofs
  refine CL_post (endsOf_run hjs hu hg hn (by rw [hx.len]; exact hn) hx.inn) fun v1 h1 ⟨hp1, ho1, hb1⟩ => ?_
  have r := valueOfEnds_run (o := o) (hjs.pre hp1) ho1.sees hg hn endsL_len (fun e he => by have := hb1 e he; omega) ho
  simp -implicitDefEqProofs [CL_ret r]
  exact ⟨rfl, gcP hp1 rfl⟩
end
end Go.Pm.PP
