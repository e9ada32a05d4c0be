/- The texts PmV, PmW, PxA, PxB, PxC, PxE, PmS, PmT, PmU, PxD of this work: Rows that are one's own, and what stays as it was. -/
import Derived.Below
import Derived.Deep.Slices
import Derived.ProofKit
import Derived.Test.YtjjjalkfpajckaaM3
/- Rows that are one's own, and what stays as it was. -/
set_option linter.unusedVariables false
set_option linter.unusedSimpArgs false
namespace Go.Pm
/-- The row that a slice lies in. -/
def rowV : Value → Option Nat
  | .slice (some a) _ _ => some a.block
  | _ => none
/-- All rows stay as they were, but r. -/
def Keeps (r : Option Nat) (h h' : Hp) : Prop := h.length ≤ h'.length ∧ ∀ k, k < h.length → r ≠ some k → h'[k]? = h[k]?
section
variable {r : Option Nat} {h h0 h' h1 h2 t : Hp}
theorem Keeps.refl : Keeps r h h := ⟨Nat.le_refl _, fun _ _ _ => rfl⟩
theorem Keeps.app : Keeps r h (h ++ t) := ⟨by simp, fun k hk _ => List.getElem?_append_left hk⟩
theorem Keeps.ofPre (hp : h <+: h') : Keeps r h h' := by obtain ⟨t, rfl⟩ := hp; exact .app
theorem Keeps.trans (k1 : Keeps r h h1) (k2 : Keeps r h1 h2) : Keeps r h h2 := ⟨Nat.le_trans k1.1 k2.1, fun k hk hr => by rw [k2.2 k (Nat.lt_of_lt_of_le hk k1.1) hr, k1.2 k hk hr]⟩
theorem Keeps.set {k : Nat} {x : Option Row} : Keeps (some k) h (h.set k x) := ⟨by simp, fun j _ hr => by rw [List.getElem?_set_ne]; intro e; exact hr (by rw [e])⟩
theorem pre_iff : h0 <+: h ↔ Keeps none h0 h := by
  constructor
  · exact Keeps.ofPre
  · intro ⟨h1, h2⟩
    rw [List.prefix_iff_eq_take]
    apply List.ext_getElem?
    intro k
    rcases Nat.lt_or_ge k h0.length with hk | hk
    · rw [List.getElem?_take, if_pos hk, h2 k hk (by simp)]
    · rw [List.getElem?_eq_none hk, List.getElem?_eq_none (by simp; omega)]
theorem Keeps.pre (k : Keeps r h h') (hp : h0 <+: h) (hr : ∀ j, r = some j → h0.length ≤ j) : h0 <+: h' := by
  rw [pre_iff] at *
  refine ⟨Nat.le_trans hp.1 k.1, fun j hj _ => ?_⟩
  rw [k.2 j (Nat.lt_of_lt_of_le hj hp.1) (fun e => by have := hr j e; omega), hp.2 j hj (by simp)]
/-- What is written is new there. -/
theorem Keeps.weaken (k : Keeps r h h') (hr : ∀ j, r = some j → h.length ≤ j) : h <+: h' := k.pre List.prefix_rfl hr
theorem Keeps.only {s : Option Nat} (k : Keeps r h h') (hr : ∀ j, r = some j → s = some j ∨ h.length ≤ j) : Keeps s h h' := ⟨k.1, fun j hj hs => k.2 j hj (fun e => by rcases hr j e with h1 | h1; exact hs h1; omega)⟩
theorem Keeps.then {s : Option Nat} (k1 : Keeps r h h1) (k2 : Keeps s h1 h2) (hs : ∀ j, s = some j → r = some j ∨ h.length ≤ j) : Keeps r h h2 :=
  ⟨Nat.le_trans k1.1 k2.1, fun j hj hr => by
    rw [k2.2 j (Nat.lt_of_lt_of_le hj k1.1) (fun e => by rcases hs j e with h1 | h1; exact hr h1; omega), k1.2 j hj hr]⟩
theorem Sees.keeps {v : Value} {sz : Nat} {els : List (List Value)} (s : Sees h v sz els) (k : Keeps r h h') (hr : ∀ j, r = some j → rowV v ≠ some j) : Sees h' v sz els := by
  obtain ⟨h1, oa, c, h2, h3⟩ := s
  refine ⟨h1, oa, c, h2, ?_⟩
  rcases h3 with h3 | ⟨q, o, x, h4, h5, h6⟩
  · exact .inl h3
  · have hq := (List.getElem?_eq_some_iff.1 h5).1
    exact .inr ⟨q, o, x, h4, by rw [k.2 q hq (fun e => hr q e (by rw [h2, h4]; rfl))]; exact h5, h6⟩
theorem Sees.row_lt {v : Value} {sz : Nat} {els : List (List Value)} (s : Sees h v sz els) {j : Nat} (hj : rowV v = some j) : j < h.length := by
  obtain ⟨_, oa, c, h2, h3⟩ := s
  rcases h3 with ⟨rfl, _, _⟩ | ⟨q, o, x, rfl, h5, _⟩
  · rw [h2] at hj; cases hj
  · rw [h2] at hj; cases hj
    exact (List.getElem?_eq_some_iff.1 h5).1
end

/-- A slice of one's own: rows from b on are one's own. -/
def Own (b : Nat) (h : Hp) (v : Value) (sz : Nat) (els : List (List Value)) : Prop :=
  (∀ e ∈ els, e.length = sz) ∧ ((v = .slice none 0 0 ∧ els = []) ∨ ∃ r rest k, b ≤ r ∧ rest.length = k * sz ∧
    v = .slice (some ⟨r, 0, some ((els.length + k) * sz)⟩) els.length (els.length + k) ∧ h[r]? = some (some ⟨els.flatten ++ rest, sz, false⟩))
section
variable {P : Program} {b sz : Nat} {h h' : Hp} {v x : Value} {els ys : List (List Value)} {r : Option Nat}
theorem Own.nil : Own b h (.slice none 0 0) sz [] := ⟨by simp, .inl ⟨rfl, rfl⟩⟩
theorem Own.sees (o : Own b h v sz els) : Sees h v sz els := by
  obtain ⟨h1, h2⟩ := o
  rcases h2 with ⟨rfl, rfl⟩ | ⟨r, rest, k, hb, hr, rfl, hh⟩
  · exact ⟨h1, none, 0, rfl, .inl ⟨rfl, rfl, rfl⟩⟩
  · have hl : (els.flatten ++ rest).length = (els.length + k) * sz := by rw [List.length_append, flat_len h1, hr, Nat.add_mul]
    refine ⟨h1, _, _, rfl, .inr ⟨r, 0, _, by rw [← hl], hh, rfl, ?_, ?_, by omega⟩⟩
    · show 0 + _ ≤ (els.flatten ++ rest).length
      rw [hl, Nat.add_mul]; omega
    · show ((els.flatten ++ rest).drop 0).take _ = _
      rw [List.drop_zero, List.take_left' (flat_len h1)]
theorem Own.keeps (o : Own b h v sz els) (k : Keeps r h h') (hr : ∀ j, r = some j → rowV v ≠ some j) : Own b h' v sz els := by
  obtain ⟨h1, h2⟩ := o
  refine ⟨h1, ?_⟩
  rcases h2 with h2 | ⟨r', rest, k', hb, hrest, rfl, hh⟩
  · exact .inl h2
  · have hq := (List.getElem?_eq_some_iff.1 hh).1
    exact .inr ⟨r', rest, k', hb, hrest, rfl, by rw [k.2 r' hq (fun e => hr r' e rfl)]; exact hh⟩
theorem Own.app (o : Own b h v sz els) {t : Hp} : Own b (h ++ t) v sz els := o.keeps (r := none) .app (by simp)
theorem Own.pre (o : Own b h v sz els) (hp : h <+: h') : Own b h' v sz els := o.keeps (r := none) (.ofPre hp) (by simp)
theorem Own.low {b' : Nat} (o : Own b h v sz els) (hb : b' ≤ b) : Own b' h v sz els := by
  obtain ⟨h1, h2⟩ := o
  refine ⟨h1, ?_⟩
  rcases h2 with h2 | ⟨r', rest, k', hb', h3⟩
  · exact .inl h2
  · exact .inr ⟨r', rest, k', by omega, h3⟩
theorem Own.row_ge (o : Own b h v sz els) {j : Nat} (hj : rowV v = some j) : b ≤ j := by
  obtain ⟨h1, h2⟩ := o
  rcases h2 with ⟨rfl, _⟩ | ⟨r', rest, k', hb', _, rfl, _⟩
  · cases hj
  · cases hj; exact hb'
theorem Own.row_lt (o : Own b h v sz els) {j : Nat} (hj : rowV v = some j) : j < h.length := o.sees.row_lt hj
theorem Own.shape (o : Own b h v sz els) : ∃ oa c, v = .slice oa els.length c := o.sees.shape
/-- A row that has just been made. -/
theorem Own.fresh {t : Hp} (hb : b ≤ h.length) (hl : ∀ e ∈ els, e.length = sz) {n : Nat} (hn : n = els.length * sz) : Own b (h ++ some ⟨els.flatten, sz, false⟩ :: t) (.slice (some ⟨h.length, 0, some n⟩) els.length els.length) sz els := by
  subst hn
  refine ⟨hl, .inr ⟨h.length, [], 0, hb, by simp, by simp, ?_⟩⟩
  rw [List.getElem?_append_right (Nat.le_refl _), Nat.sub_self, List.append_nil]; rfl
theorem Own.inv (o : Own b h v sz els) : (v = .slice none 0 0 ∧ els = []) ∨ ∃ r rest k, b ≤ r ∧ rest.length = k * sz ∧
    v = .slice (some ⟨r, 0, some ((els.length + k) * sz)⟩) els.length (els.length + k) ∧ h[r]? = some (some ⟨els.flatten ++ rest, sz, false⟩) := o.2

theorem seen_of (s : Sees h x sz ys) : seenP h sz x = some ys.flatten := by
  obtain ⟨h1, oa, c, rfl, h3⟩ := s
  rcases h3 with ⟨rfl, rfl, rfl⟩ | ⟨r, o, y, rfl, h5, h6, h7, h8, h9⟩
  · rfl
  · have h5' : h[r]? = some (some y) := h5
    simp only [seenP, rowAt, h5', if_true]
    rw [if_pos ⟨h7, h6⟩, h8]
theorem set_app_at (a b : List Value) (k : Nat) (v : Value) : (a ++ b).set (a.length + k) v = a ++ b.set k v := by
  have := List.set_append_right (s := a) (t := b) (i := a.length + k) (x := v) (by omega)
  rwa [Nat.add_sub_cancel_left] at this
theorem splice_at : ∀ (vs a b : List Value) (k : Nat), splice (a ++ b) (a.length + k) vs = a ++ splice b k vs
  | [], a, b, k => rfl
  | v :: vs, a, b, k => by rw [splice, splice, set_app_at, Nat.add_assoc, splice_at]
theorem splice_front : ∀ (vs b : List Value), vs.length ≤ b.length → splice b 0 vs = vs ++ b.drop vs.length
  | [], b, h => by simp [splice]
  | v :: vs, [], h => by simp at h
  | v :: vs, b0 :: b, h => by
    have h2 := splice_at vs [v] b 0
    rw [splice_front vs b (by simpa using h)] at h2
    exact h2
theorem splice_in {vs a b : List Value} (h : vs.length ≤ b.length) : splice (a ++ b) a.length vs = a ++ (vs ++ b.drop vs.length) := by
  have := splice_at vs a b 0
  rw [Nat.add_zero] at this
  rw [this, splice_front vs b h]
theorem zero_some {t : TypeId} {q : TypeInfo} {z : Value} (hq : P.info? t = some q) (hz : q.zero = some z) (hp : plain z = true) (hs : z.cells.size = q.size) : zeroP P t = some z := by
  simp only [zeroP, hq, hz]
  rw [if_pos ⟨hp, hs⟩]
/-- append to a slice of one's own. -/
theorem Own.append (o : Own b h v sz els) {ty e : TypeId} {q : TypeInfo} {z : Value} (hu : P.underlying ty = some (.slice e)) (hq : P.info? e = some q) (hz : zeroP P e = some z) (hsz : q.size = sz) (hpos : 0 < sz) (hby : 0 < q.bytes)
    (s : Sees h x sz ys) (h1 : ys.flatten.all one = true) (hb : b ≤ h.length) (hlim : (els.length + ys.length) * q.bytes ≤ 2 ^ 47) :
    ∃ v' h', appendP P h ty v x = some (v', h') ∧ Own b h' v' sz (els ++ ys) ∧ Keeps (rowV v) h h' ∧ (rowV v' = rowV v ∨ ∃ r, rowV v' = some r ∧ h.length ≤ r) := by
  have hel := o.1
  have hyl := s.1
  have hall : ∀ e ∈ els ++ ys, e.length = sz := fun e he => by rcases List.mem_append.1 he with h | h; exact hel e h; exact hyl e h
  have hlen : lenP x = some ys.length := by obtain ⟨oa, c, rfl⟩ := s.shape; rfl
  have hse : seenP h q.size x = some ys.flatten := by rw [hsz]; exact seen_of s
  have hfl := flat_len hel
  have hfy := flat_len hyl
  rcases o.2 with ⟨rfl, rfl⟩ | ⟨r, rest, k, hbr, hrest, rfl, hh⟩
  · rcases Nat.eq_zero_or_pos ys.length with h0 | h0
    · have : ys = [] := List.eq_nil_of_length_eq_zero h0
      subst this
      refine ⟨.slice none 0 0, h, ?_, .nil, .refl, .inl rfl⟩
      simp only [appendP, hu, hq, hz, hlen, hse]
      rw [if_pos ⟨by omega, hby, h1⟩, if_pos (by simp)]
    · refine ⟨.slice (some ⟨h.length, 0, some ys.flatten.length⟩) ys.length ys.length, h ++ [some ⟨ys.flatten, q.size, false⟩], ?_, ?_, .app, .inr ⟨_, rfl, Nat.le_refl _⟩⟩
      · simp only [appendP, hu, hq, hz, hlen, hse]
        rw [if_pos ⟨by omega, hby, h1⟩, if_neg (by omega), if_pos (by simpa using hlim)]
        rfl
      · rw [hsz]
        exact Own.fresh hb hyl hfy
  · have hrl : (els.flatten ++ rest).length = (els.length + k) * sz := by rw [List.length_append, hfl, hrest, Nat.add_mul]
    have hrow : rowAt h ⟨r, 0, some ((els.length + k) * sz)⟩ = some ⟨els.flatten ++ rest, sz, false⟩ := by
      simp only [rowAt, hh, hrl, if_true]
    have h2 : (els.length + k) * sz = els.length * sz + k * sz := Nat.add_mul ..
    by_cases hc : els.length + ys.length ≤ els.length + k
    · have hyk : ys.length * sz ≤ k * sz := Nat.mul_le_mul_right _ (by omega)
      have hle : ys.flatten.length ≤ rest.length := by rw [hfy, hrest]; exact hyk
      have hsp : splice (els.flatten ++ rest) (els.length * sz) ys.flatten = (els ++ ys).flatten ++ rest.drop ys.flatten.length := by
        have := splice_in (a := els.flatten) hle
        rw [hfl] at this
        rw [this, List.flatten_append, List.append_assoc]
      refine ⟨.slice (some ⟨r, 0, some ((els.length + k) * sz)⟩) (els.length + ys.length) (els.length + k), h.set r (some ⟨splice (els.flatten ++ rest) (els.length * sz) ys.flatten, sz, false⟩), ?_, ?_, .set, .inl rfl⟩
      · simp only [appendP, hu, hq, hz, hlen, hse, hrow]
        rw [if_pos ⟨by omega, hby, h1⟩, if_pos ⟨trivial, hsz.symm, by rw [hsz, hrl]; omega, hlim⟩, if_pos hc, hsz]
        simp
      · refine ⟨hall, .inr ⟨r, rest.drop ys.flatten.length, k - ys.length, hbr, ?_, ?_, ?_⟩⟩
        · rw [List.length_drop, hrest, hfy, Nat.sub_mul]
        · rw [List.length_append, show els.length + ys.length + (k - ys.length) = els.length + k by omega]
        · have hq := (List.getElem?_eq_some_iff.1 hh).1
          rw [List.getElem?_set_self hq, hsp]
    · by_cases hk : k = 0
      · subst hk
        have hrest0 : rest = [] := List.eq_nil_of_length_eq_zero (by rw [hrest]; simp)
        subst hrest0
        refine ⟨.slice (some ⟨r, 0, some (els.flatten ++ [] ++ ys.flatten).length⟩) (els.length + ys.length) (els.length + ys.length), h.set r (some ⟨els.flatten ++ [] ++ ys.flatten, sz, false⟩), ?_, ?_, .set, .inl rfl⟩
        · simp only [appendP, hu, hq, hz, hlen, hse, hrow]
          rw [if_pos ⟨by omega, hby, h1⟩, if_pos ⟨trivial, hsz.symm, by rw [hsz, hrl]; omega, hlim⟩, if_neg hc, if_pos ⟨trivial, by rw [hsz, hrl]; simp⟩]
        · refine ⟨hall, .inr ⟨r, [], 0, hbr, by simp, ?_, ?_⟩⟩
          · rw [List.append_nil, List.length_append, List.length_append, hfl, hfy, Nat.add_zero, Nat.add_mul]
          · have hq := (List.getElem?_eq_some_iff.1 hh).1
            rw [List.getElem?_set_self hq]
            simp
      · have hkp : 0 < k * sz := Nat.mul_pos (by omega) hpos
        refine ⟨.slice (some ⟨h.length, 0, some (els.flatten ++ ys.flatten).length⟩) (els.length + ys.length) (els.length + ys.length), h.set r none ++ [some ⟨els.flatten ++ ys.flatten, sz, false⟩], ?_, ?_, Keeps.set.trans .app, .inr ⟨_, rfl, Nat.le_refl _⟩⟩
        · simp only [appendP, hu, hq, hz, hlen, hse, hrow]
          rw [if_pos ⟨by omega, hby, h1⟩, if_pos ⟨trivial, hsz.symm, by rw [hsz, hrl]; omega, hlim⟩, if_neg hc, if_neg (by rw [hsz, hrl, h2]; omega)]
          simp only [newP, List.length_set, hsz, List.drop_zero]
          rw [List.take_left' hfl]
        · have := Own.fresh (b := b) (h := h.set r none) (t := []) (els := els ++ ys) (sz := sz) (n := (els.flatten ++ ys.flatten).length) (by rw [List.length_set]; exact hb) hall (by rw [List.length_append, List.length_append, hfl, hfy, Nat.add_mul])
          rw [List.length_set, List.flatten_append] at this
          rw [← List.length_append (as := els) (bs := ys)]
          exact this
theorem splice_seg {vs a : List Value} {c : List Value} (m : List Value) (hm : m.length = vs.length) : splice (a ++ (m ++ c)) a.length vs = a ++ (vs ++ c) := by
  have := splice_in (vs := vs) (a := a) (b := m ++ c) (by rw [List.length_append]; omega)
  rw [this, ← hm, List.drop_left]
theorem flat_split {els : List (List Value)} {i : Nat} {e : List Value} (h : els[i]? = some e) : els.flatten = (els.take i).flatten ++ (e ++ (els.drop (i + 1)).flatten) := by
  have hi := (List.getElem?_eq_some_iff.1 h).1
  have : els = els.take i ++ e :: els.drop (i + 1) := by
    have h1 := List.drop_eq_getElem_cons hi
    rw [List.getElem?_eq_getElem hi] at h
    cases h
    rw [← h1, List.take_append_drop]
  conv => lhs; rw [this]
  rw [List.flatten_append, List.flatten_cons]
theorem set_split {α : Type} {xs : List α} {i : Nat} {e : α} (hi : i < xs.length) : xs.set i e = xs.take i ++ e :: xs.drop (i + 1) := by
  rw [List.set_eq_take_append_cons_drop, if_pos hi]
/-- Cells within an element of one's own slice are written. -/
theorem Own.store (o : Own b h v sz els) {t : TypeId} {q : TypeInfo} {w : Value} {i : Nat} {e l m c : List Value} (hq : P.info? t = some q) (he : els[i]? = some e) (hs : e = l ++ (m ++ c)) (hm : m.length = q.size) (hw : w.cells.size = q.size) (ho : w.cells.toList.all one = true) :
    ∃ h', storeP P h t w (.pointer (some (addP (base v) (i * sz + l.length)))) = some h' ∧ Own b h' v sz (els.set i (l ++ (w.cells.toList ++ c))) ∧ Keeps (rowV v) h h' := by
  have hel := o.1
  have hi := (List.getElem?_eq_some_iff.1 he).1
  have hez := hel e (List.mem_of_getElem? he)
  rcases o.2 with ⟨rfl, rfl⟩ | ⟨r, rest, k, hbr, hrest, rfl, hh⟩
  · simp at hi
  · have hfl := flat_len hel
    have hrl : (els.flatten ++ rest).length = (els.length + k) * sz := by rw [List.length_append, hfl, hrest, Nat.add_mul]
    have hrow : rowAt h ⟨r, i * sz + l.length, some ((els.length + k) * sz)⟩ = some ⟨els.flatten ++ rest, sz, false⟩ := by
      simp only [rowAt, hh, hrl, if_true]
    have hti : (els.take i).flatten.length = i * sz := by
      rw [flat_len (sz := sz) (fun e he => hel e (List.mem_of_mem_take he)), List.length_take, Nat.min_eq_left (by omega)]
    have hnew : splice (els.flatten ++ rest) (i * sz + l.length) w.cells.toList = (els.set i (l ++ (w.cells.toList ++ c))).flatten ++ rest := by
      rw [flat_split he, hs, set_split hi]
      have := splice_seg (vs := w.cells.toList) (a := (els.take i).flatten ++ l) (c := c ++ ((els.drop (i + 1)).flatten ++ rest)) m (by rw [hm, Array.length_toList, hw])
      rw [List.length_append, hti] at this
      simp only [List.append_assoc, List.flatten_append, List.flatten_cons] at this ⊢
      exact this
    have hle : (i + 1) * sz ≤ (els.length + k) * sz := Nat.mul_le_mul_right _ (by omega)
    rw [Nat.succ_mul] at hle
    have hez2 : l.length + (q.size + c.length) = sz := by rw [← hez, hs, List.length_append, List.length_append, hm]
    refine ⟨h.set r (some ⟨splice (els.flatten ++ rest) (i * sz + l.length) w.cells.toList, sz, false⟩), ?_, ?_, .set⟩
    · simp only [storeP, base, addP, Nat.zero_add, hrow, hq]
      rw [if_pos ⟨trivial, hw, by rw [hrl]; omega, ho⟩]
    · refine ⟨?_, .inr ⟨r, rest, k, hbr, hrest, by rw [List.length_set], ?_⟩⟩
      · intro e' he'
        rcases List.mem_or_eq_of_mem_set he' with h1 | h1
        · exact hel e' h1
        · rw [h1, List.length_append, List.length_append]
          have : w.cells.toList.length = q.size := by rw [Array.length_toList, hw]
          rw [this]; exact hez2
      · have hq := (List.getElem?_eq_some_iff.1 hh).1
        rw [List.getElem?_set_self hq, hnew]
/-- The front of one's own slice. -/
theorem Own.front (o : Own b h v sz els) {ty e : TypeId} (hu : P.underlying ty = some (.slice e)) (hq : (P.info? e).map (·.size) = some sz) {k : IntKind} {j : Int} (h0 : 0 ≤ j) (h1 : j ≤ els.length) :
    ∃ v', sliceP P h ty v none (some (.int k j)) = some v' ∧ Own b h v' sz (els.take j.toNat) ∧ rowV v' = rowV v := by
  have hel := o.1
  obtain ⟨q, hq, hz⟩ := Option.map_eq_some_iff.1 hq
  rcases o.2 with ⟨rfl, rfl⟩ | ⟨r, rest, kk, hbr, hrest, rfl, hh⟩
  · have : j = 0 := by simp at h1; omega
    subst this
    exact ⟨.slice none 0 0, by simp [sliceP, hu, hq, hiP, loP, asI], .nil, rfl⟩
  · have hfl := flat_len hel
    have hrl : (els.flatten ++ rest).length = (els.length + kk) * sz := by rw [List.length_append, hfl, hrest, Nat.add_mul]
    have hj : j.toNat ≤ els.length := by omega
    have hlen : (els.take j.toNat).length = j.toNat := by simp; omega
    have htk : ∀ e ∈ els.take j.toNat, e.length = sz := fun e he => hel e (List.mem_of_mem_take he)
    have hdk : ∀ e ∈ els.drop j.toNat, e.length = sz := fun e he => hel e (List.mem_of_mem_drop he)
    have hdl : (els.drop j.toNat).length = els.length - j.toNat := by simp
    refine ⟨.slice (some ⟨r, 0, some ((els.length + kk) * sz)⟩) j.toNat (els.length + kk), ?_, ⟨htk, .inr ⟨r, (els.drop j.toNat).flatten ++ rest, els.length + kk - j.toNat, hbr, ?_, ?_, ?_⟩⟩, rfl⟩
    · have hrow : rowAt h ⟨r, 0, some ((els.length + kk) * sz)⟩ = some ⟨els.flatten ++ rest, sz, false⟩ := by
        simp only [rowAt, hh, hrl, if_true]
      simp only [sliceP, hu, hq, hrow, hiP, loP, asI]
      rw [if_pos ⟨by omega, h0, by omega, hz.symm⟩]
      simp [addP]
    · rw [List.length_append, flat_len hdk, hdl, hrest, ← Nat.add_mul]
      congr 1
      omega
    · rw [hlen, show j.toNat + (els.length + kk - j.toNat) = els.length + kk by omega]
    · rw [hh, ← List.append_assoc, ← List.flatten_append, List.take_append_drop]
/-- The back of a slice. -/
theorem Sees.back (s : Sees h v sz els) {ty e : TypeId} (hu : P.underlying ty = some (.slice e)) (hq : (P.info? e).map (·.size) = some sz) {k : IntKind} {j : Int} (h0 : 0 ≤ j) (h1 : j ≤ els.length) :
    ∃ v', sliceP P h ty v (some (.int k j)) none = some v' ∧ Sees h v' sz (els.drop j.toNat) ∧ rowV v' = rowV v := by
  obtain ⟨h2, oa, c, rfl, h3⟩ := s
  obtain ⟨q, hq, hz⟩ := Option.map_eq_some_iff.1 hq
  rcases h3 with ⟨rfl, rfl, rfl⟩ | ⟨r, o, x, rfl, h5, h6, h7, h8, h9⟩
  · have : j = 0 := by simp at h1; omega
    subst this
    exact ⟨.slice none 0 0, by simp [sliceP, hu, hq, hiP, loP, asI], ⟨by simp, none, 0, rfl, .inl ⟨rfl, rfl, rfl⟩⟩, rfl⟩
  · obtain ⟨m, rfl⟩ : ∃ m : Nat, j = m := ⟨j.toNat, by omega⟩
    have hj : m ≤ els.length := by omega
    have hm : m * sz ≤ els.length * sz := Nat.mul_le_mul_right _ hj
    have hlen : (els.drop m).length = els.length - m := by simp
    refine ⟨.slice (some ⟨r, o + m * sz, some x.cells.length⟩) (els.length - m) (c - m), ?_, ⟨fun e he => h2 e (List.mem_of_mem_drop he), _, _, by rw [Int.toNat_natCast, hlen], .inr ⟨r, o + m * sz, x, rfl, h5, h6, ?_, ?_, ?_⟩⟩, rfl⟩
    · have h5' : h[r]? = some (some x) := h5
      simp only [sliceP, hu, hq, rowAt, h5', if_true, hiP, loP, asI]
      rw [if_pos ⟨by omega, by omega, by omega, by rw [h6, hz]⟩]
      simp [addP, hz]
    · rw [Int.toNat_natCast, hlen, Nat.sub_mul]; omega
    · rw [Int.toNat_natCast, hlen, Nat.sub_mul]
      have h10 := congrArg (List.drop (m * sz)) h8
      rw [List.drop_take, List.drop_drop] at h10
      rw [h10]
      have := flat_take (sz := sz) h2 m
      have h11 : els.flatten = (els.take m).flatten ++ (els.drop m).flatten := by rw [← List.flatten_append, List.take_append_drop]
      have h12 : (els.take m).flatten.length = m * sz := by
        rw [flat_len (sz := sz) (fun e he => h2 e (List.mem_of_mem_take he)), List.length_take, Nat.min_eq_left hj]
      conv => lhs; rw [h11]
      rw [List.drop_left' h12]
    · rw [Int.toNat_natCast, hlen]; omega
theorem gc_cases (h h' : Hp) (v : Value) : gc h h' v = h' ∨ (plain v = true ∧ gc h h' v = h) := by
  unfold gc
  split
  · rename_i hp; exact .inr ⟨hp.1, rfl⟩
  · exact .inl rfl
/-- What a function returns that it has made itself. -/
theorem Own.ret (o : Own b h' v sz els) (hb : h.length ≤ b) (hp : h <+: h') : h <+: gc h h' v ∧ Own b (gc h h' v) v sz els := by
  rcases gc_cases h h' v with hg | ⟨hpl, hg⟩
  · rw [hg]; exact ⟨hp, o⟩
  · rw [hg]
    refine ⟨List.prefix_rfl, o.1, .inl ?_⟩
    rcases o.2 with h2 | ⟨r', rest, k', _, _, rfl, _⟩
    · exact h2
    · cases hpl
end
@[simp] theorem newOk_app {h l m : Hp} : newOk (h ++ l) (h ++ m) ↔ newOk l m := by
  unfold newOk
  rw [List.prefix_append_right_inj, List.length_append, List.drop_append, List.drop_eq_nil_of_le (by omega), List.nil_append, show h.length + l.length - h.length = l.length by omega]
@[simp] theorem newOk_cons {a : Option Row} {l m : Hp} : newOk (a :: l) (a :: m) ↔ newOk l m := by
  unfold newOk
  rw [List.cons_prefix_cons, List.length_cons, List.drop_succ_cons]
  simp
@[simp] theorem newOk_nil {cs : List Value} {sz : Nat} {m : Hp} : newOk [] (some ⟨cs, sz, false⟩ :: m) ↔ newOk [] m := by
  unfold newOk
  simp
/-- A call in a region that draws its order, at a heap that is told. -/
theorem CH_at {P : Program} {G : FuncId → GI} {N : Nat} {K : GI} {Q : Ex → St → Prop} {k : Kont} {ops : Array Oper} {l tl : List Oper} {d : Option Tmp} {s : Slots} {h h1 : Hp} {g : FuncId} {args : List Value} {v : Value} (r : Ret P G g args h v h1) :
    CH P G N K Q g args d ops l tl ⟨s, h⟩ k = (newOk h h1 ∧ RH P G N K Q ops l tl ⟨put s d v, h1⟩ k) := CH_ret (st := ⟨s, h⟩) r
end Go.Pm

/- Rows that are made may be written. -/
set_option linter.unusedVariables false
set_option linter.unusedSimpArgs false
namespace Go.Pm
variable {P : Program} {G : FuncId → GI}
def NR (L : Nat) (h : Hp) : Prop := L ≤ h.length ∧ ∀ (r : Nat) (x : Row), L ≤ r → h[r]? = some (some x) → x.ro = false
section
variable {L : Nat} {h h' : Hp}
theorem NR.new (n : NR L h) (cs : List Value) (sz : Nat) : NR L (newP h cs sz).2 := by
  refine ⟨by have := n.1; simp [newP]; omega, fun r x hr hx => ?_⟩
  simp only [newP] at hx
  rcases Nat.lt_or_ge r h.length with h1 | h1
  · rw [List.getElem?_append_left h1] at hx; exact n.2 r x hr hx
  · rw [List.getElem?_append_right h1] at hx
    rcases Nat.eq_zero_or_pos (r - h.length) with h2 | h2
    · rw [h2] at hx; cases hx; rfl
    · rw [List.getElem?_eq_none (by simp; omega)] at hx; cases hx
theorem NR.setNone (n : NR L h) (k : Nat) : NR L (h.set k none) := by
  refine ⟨by rw [List.length_set]; exact n.1, fun r x hr hx => ?_⟩
  rw [List.getElem?_set] at hx
  split at hx
  · split at hx <;> cases hx
  · exact n.2 r x hr hx
theorem NR.setRow (n : NR L h) {k : Nat} {y z : Row} (hy : h[k]? = some (some y)) (hz : z.ro = y.ro) : NR L (h.set k (some z)) := by
  refine ⟨by rw [List.length_set]; exact n.1, fun r x hr hx => ?_⟩
  rw [List.getElem?_set] at hx
  split at hx
  · rename_i hk
    split at hx
    · cases hx; rw [hz]; exact n.2 r y hr (by rw [← hk]; exact hy)
    · cases hx
  · exact n.2 r x hr hx
theorem rowAt_some {a : Addr} {x : Row} (e : rowAt h a = some x) : h[a.block]? = some (some x) := by
  unfold rowAt at e
  split at e
  · rename_i y hy
    split at e
    · cases e; exact hy
    · cases e
  · cases e
theorem store_nr (n : NR L h) {t : TypeId} {v a : Value} (e : storeP P h t v a = some h') : NR L h' := by
  unfold storeP at e
  split at e
  · split at e
    · rename_i x i hx hi
      split at e
      · cases e; exact n.setRow (rowAt_some hx) rfl
      · cases e
    · cases e
  · cases e
theorem make_nr (n : NR L h) {t : TypeId} {l c v : Value} (e : makeP P h t l c = some (v, h')) : NR L h' := by
  unfold makeP at e
  split at e
  · split at e
    · split at e
      · cases e; exact n.new _ _
      · cases e
    · cases e
  · cases e
theorem buildSlice_nr (n : NR L h) {t : TypeId} {k : Nat} {l : List (Nat × Value)} {v : Value} (e : buildSliceP P h t k l = some (v, h')) : NR L h' := by
  unfold buildSliceP at e
  split at e
  · split at e
    · split at e
      · split at e
        · cases e; exact n
        · cases e
      · split at e
        · split at e
          · split at e
            · cases e; exact n.new _ _
            · cases e
          · cases e
        · cases e
    · cases e
  · cases e
theorem append_nr (n : NR L h) {t : TypeId} {s x v : Value} (e : appendP P h t s x = some (v, h')) : NR L h' := by
  unfold appendP at e
  split at e
  · split at e
    · split at e
      · split at e
        · split at e
          · split at e
            · cases e; exact n
            · split at e
              · cases e; exact n.new _ _
              · cases e
          · split at e
            · rename_i r hr
              split at e
              · split at e
                · cases e; exact n.setRow (rowAt_some hr) rfl
                · split at e
                  · cases e; exact n.setRow (rowAt_some hr) rfl
                  · cases e; exact (n.setNone _).new _ _
              · cases e
            · cases e
          · cases e
        · cases e
      · cases e
    · cases e
  · cases e
theorem copy_nr (n : NR L h) {t : TypeId} {d x v : Value} (e : copyP P h t d x = some (v, h')) : NR L h' := by
  unfold copyP at e
  split at e
  · split at e
    · split at e
      · cases e; exact n
      · split at e
        · rename_i r hr
          split at e
          · cases e; exact n.setRow (rowAt_some hr) rfl
          · cases e
        · cases e
      · cases e
    · cases e
  · cases e
theorem builtin_nr (n : NR L h) {b : Builtin} {ts : List TypeId} {args : List Value} {v : Value} (e : builtinP P h b ts args = some (v, h')) : NR L h' := by
  unfold builtinP at e
  split at e
  · obtain ⟨_, _, h1⟩ := Option.map_eq_some_iff.1 e; cases h1; exact n
  · split at e
    · exact append_nr n e
    · cases e
  · exact copy_nr n e
  · obtain ⟨_, _, h1⟩ := Option.map_eq_some_iff.1 e; cases h1; exact n
  · obtain ⟨_, _, h1⟩ := Option.map_eq_some_iff.1 e; cases h1; exact n
  · cases e
theorem bindh {α : Type} {x : Option α} {f : α → Value} (n : NR L h) {v : Value} (e : (x.map fun a => (f a, h)) = some (v, h')) : NR L h' := by
  obtain ⟨_, _, h1⟩ := Option.map_eq_some_iff.1 e; cases h1; exact n
theorem op1_nr (n : NR L h) {s : Slots} {op : Op} {v : Value} (e : op1 P s h op = some (v, h')) : NR L h' := by
  cases op <;> simp only [op1] at e
  case move => exact bindh n e
  case assign => exact bindh n e
  case pick =>
    split at e
    · exact bindh n e
    · cases e
  case alloc => obtain ⟨z, _, h1⟩ := Option.map_eq_some_iff.1 e; cases h1; exact n.new _ _
  case box =>
    obtain ⟨z, _, e⟩ := Option.bind_eq_some_iff.1 e
    split at e
    · cases e; exact n.new _ _
    · cases e
  case build => obtain ⟨z, _, e⟩ := Option.bind_eq_some_iff.1 e; exact bindh n e
  case buildSlice => obtain ⟨z, _, e⟩ := Option.bind_eq_some_iff.1 e; exact buildSlice_nr n e
  case load => obtain ⟨z, _, e⟩ := Option.bind_eq_some_iff.1 e; exact bindh n e
  case store =>
    obtain ⟨z, _, e⟩ := Option.bind_eq_some_iff.1 e
    obtain ⟨u, _, e⟩ := Option.bind_eq_some_iff.1 e
    obtain ⟨h1, hs, e⟩ := Option.map_eq_some_iff.1 e
    cases e
    exact store_nr n hs
  case nilCheck =>
    split at e
    · cases e; exact n
    · cases e; exact n
    · cases e
  case binOp =>
    obtain ⟨z, _, e⟩ := Option.bind_eq_some_iff.1 e
    obtain ⟨u, _, e⟩ := Option.bind_eq_some_iff.1 e
    exact bindh n e
  case unOp => obtain ⟨z, _, e⟩ := Option.bind_eq_some_iff.1 e; exact bindh n e
  case convert => obtain ⟨z, _, e⟩ := Option.bind_eq_some_iff.1 e; exact bindh n e
  case makeFunc => obtain ⟨z, _, e⟩ := Option.bind_eq_some_iff.1 e; exact bindh n e
  case makeSlice =>
    obtain ⟨z, _, e⟩ := Option.bind_eq_some_iff.1 e
    obtain ⟨u, _, e⟩ := Option.bind_eq_some_iff.1 e
    exact make_nr n e
  case slice =>
    split at e
    · obtain ⟨z, _, e⟩ := Option.bind_eq_some_iff.1 e
      obtain ⟨u, _, e⟩ := Option.bind_eq_some_iff.1 e
      obtain ⟨w, _, e⟩ := Option.bind_eq_some_iff.1 e
      exact bindh n e
    · cases e
  case fieldAddr =>
    split at e
    · split at e
      · split at e
        · split at e
          · cases e; exact n
          · cases e
        · cases e
      · cases e
    · cases e
  case field =>
    split at e
    · split at e
      · exact bindh n e
      · cases e
    · cases e
  case indexAddr =>
    obtain ⟨z, _, e⟩ := Option.bind_eq_some_iff.1 e
    obtain ⟨u, _, e⟩ := Option.bind_eq_some_iff.1 e
    exact bindh n e
  case index =>
    obtain ⟨z, _, e⟩ := Option.bind_eq_some_iff.1 e
    obtain ⟨u, _, e⟩ := Option.bind_eq_some_iff.1 e
    exact bindh n e
  case extract =>
    split at e
    · exact bindh n e
    · cases e
  all_goals cases e
theorem runH_nr {F : Oper → St → Option (Value × Hp)} (hF : ∀ o st v h', NR L st.h → F o st = some (v, h') → NR L h') {N : Nat} {ops : Array Oper} : ∀ {l : List Oper} {st st' : St}, NR L st.h → runH F N ops l st = some st' → NR L st'.h
  | [], st, st', n, e => by cases e; exact n
  | o :: l, st, st', n, e => by
    unfold runH at e
    split at e
    · split at e
      · exact runH_nr (st := ⟨put st.s o.dst undef, st.h⟩) hF n e
      · split at e
        · rename_i v h1 ho
          split at e
          · exact runH_nr (st := ⟨put st.s o.dst v, h1⟩) hF (hF o ⟨keep (o.looksAt ops) st.s, st.h⟩ v h1 n ho) e
          · cases e
        · cases e
      · cases e
    · cases e
theorem runG_nr {F : Oper → St → Option (Value × Hp)} (hF : ∀ o st v h', NR L st.h → F o st = some (v, h') → NR L h') {N : Nat} {ops : Array Oper} {q : List (Nat × Nat)} : ∀ {l : List Oper} {Ls : List Nat} {st st' : St}, NR L st.h → runG F N ops q Ls l st = some st' → NR L st'.h
  | [], Ls, st, st', n, e => by
    unfold runG at e
    split at e
    · cases e; exact n
    · cases e
  | o :: l, Ls, st, st', n, e => by
    unfold runG at e
    split at e
    · split at e
      · exact runG_nr (st := ⟨put st.s o.dst undef, st.h⟩) hF n e
      · split at e
        · rename_i v h1 ho
          split at e
          · exact runG_nr (st := ⟨put st.s o.dst v, h1⟩) hF (hF o ⟨keep (o.looksAt ops) st.s, st.h⟩ v h1 n ho) e
          · cases e
        · cases e
      · cases e
    · cases e
theorem gc_nr {h h' : Hp} {v : Value} (n : NR L h) (n' : NR L h') : NR L (gc h h' v) := by
  unfold gc
  split
  · exact n
  · exact n'
structure AllNR (P : Program) (G : FuncId → GI) (L f : Nat) : Prop where
  code : ∀ N K c st ex st', NR L st.h → exec P G f N K c st = some (ex, st') → NR L st'.h
  list : ∀ N ops l st st', NR L st.h → execL P G f N ops l st = some st' → NR L st'.h
  oper : ∀ o st v h', NR L st.h → execO P G f o st = some (v, h') → NR L h'
  call : ∀ g args h v h', NR L h → callP P G f g args h = some (v, h') → NR L h'
theorem allNR : ∀ f, AllNR P G L f
  | 0 => ⟨fun _ _ _ _ _ _ _ e => by simp [exec] at e, fun _ _ _ _ _ _ e => by simp [execL] at e, fun _ _ _ _ _ e => by simp [execO] at e, fun _ _ _ _ _ _ e => by simp [callP] at e⟩
  | f + 1 => by
    have ih := @allNR f
    refine ⟨fun N K c st ex st' n e => ?_, fun N ops l st st' n e => ?_, fun o st v h' n e => ?_, fun g args h v h' n e => ?_⟩
    · cases c <;> simp only [exec] at e
      case skip => cases e; exact n
      case region id ops draw =>
        split at e
        · split at e
          · split at e
            · rename_i st1 h1
              obtain ⟨st2, h2, e⟩ := Option.map_eq_some_iff.1 e
              cases e
              exact ih.list _ _ _ _ _ (runH_nr (fun o st v h' n e => ih.oper o st v h' n e) n h1) h2
            · cases e
          · split at e
            · split at e
              · rename_i st1 h1
                obtain ⟨st2, h2, e⟩ := Option.map_eq_some_iff.1 e
                cases e
                exact ih.list _ _ _ _ _ (runG_nr (fun o st v h' n e => ih.oper o st v h' n e) n h1) h2
              · cases e
            · cases e
        · split at e
          · split at e
            · cases e; exact n
            · cases e
          · obtain ⟨st2, h2, e⟩ := Option.map_eq_some_iff.1 e
            cases e
            exact ih.list _ _ _ _ _ n h2
      case seq a b =>
        split at e
        · rename_i st1 h1
          exact ih.code _ _ _ _ _ _ (ih.code _ _ _ _ _ _ n h1) e
        · exact ih.code _ _ _ _ _ _ n e
      case cond x a b =>
        split at e
        · split at e
          · exact ih.code _ _ _ _ _ _ n e
          · exact ih.code _ _ _ _ _ _ n e
        · cases e
      case block id b =>
        split at e
        · rename_i id' st1 h1
          split at e
          · cases e; exact ih.code _ _ _ _ _ _ n h1
          · cases e; exact ih.code _ _ _ _ _ _ n h1
        · exact ih.code _ _ _ _ _ _ n e
      case loop b =>
        split at e
        · rename_i st1 h1
          exact ih.code _ _ _ _ _ _ (ih.code _ _ _ ⟨keep (keepAt K.keep (firstId b)) st.s, st.h⟩ _ _ n h1) e
        · exact ih.code _ _ _ ⟨keep (keepAt K.keep (firstId b)) st.s, st.h⟩ _ _ n e
      case exit => cases e; exact n
      case ret => cases e; exact n
      all_goals cases e
    · simp only [execL] at e
      split at e
      · cases e; exact n
      · rename_i o r
        split at e
        · split at e
          · exact ih.list _ _ _ ⟨put st.s o.dst undef, st.h⟩ _ n e
          · split at e
            · rename_i v h1 ho
              exact ih.list _ _ _ ⟨put st.s o.dst v, h1⟩ _ (ih.oper _ _ _ _ n ho) e
            · cases e
          · cases e
        · cases e
    · simp only [execO] at e
      split at e
      · split at e
        · split at e
          · exact ih.call _ _ _ _ _ n e
          · cases e
        · obtain ⟨as, _, e⟩ := Option.bind_eq_some_iff.1 e
          exact builtin_nr n e
        · cases e
      · exact op1_nr n e
    · simp only [callP] at e
      split at e
      · split at e
        · split at e
          · cases e
          · rename_i ex st1 h1 hne
            obtain ⟨u, hu, e⟩ := Option.map_eq_some_iff.1 e
            cases e
            exact gc_nr n (ih.code _ _ _ ⟨_, h⟩ _ _ n hne)
          · cases e
        · cases e
      · cases e
/-- What a call makes may be written. -/
theorem RunsC.new {g : FuncId} {args : List Value} {h : Hp} {K : Value → Hp → Prop} (r : RunsC P G g args h K) : RunsC P G g args h fun v h' => K v h' ∧ (h <+: h' → newOk h h') := by
  obtain ⟨f, v, h', e, k⟩ := r
  refine ⟨f, v, h', e, k, fun hp => ⟨hp, ?_⟩⟩
  have hn : NR h.length h' := (allNR f).call g args h v h' ⟨Nat.le_refl _, fun r x hr hx => by rw [List.getElem?_eq_none hr] at hx; cases hx⟩ e
  rw [List.all_eq_true]
  intro x hx
  cases x with
  | none => rfl
  | some x =>
    obtain ⟨k, hk⟩ := List.getElem?_of_mem hx
    rw [List.getElem?_drop] at hk
    simp [hn.2 _ x (by omega) hk]
theorem newOk.nr {h h' : Hp} (n : newOk h h') : NR h.length h' := by
  refine ⟨n.1.length_le, fun r x hr hx => ?_⟩
  have := List.all_eq_true.1 n.2 (some x) (List.mem_of_getElem? (i := r - h.length) (by rw [List.getElem?_drop, show h.length + (r - h.length) = r by omega]; exact hx))
  simpa using this
end
end Go.Pm

/- What a function has of its own, told in one list: slices and boxes; nested slices. -/
set_option linter.unusedVariables false
set_option linter.unusedSimpArgs false
namespace Go.Pm
inductive Asn where
  | own (v : Value) (sz : Nat) (els : List (List Value))
  | box (r : Nat) (cs : List Value)
def Asn.row : Asn → Option Nat
  | .own v _ _ => rowV v
  | .box r _ => some r
def Asn.ok (b : Nat) (h : Hp) : Asn → Prop
  | .own v sz els => Own b h v sz els
  | .box r cs => b ≤ r ∧ h[r]? = some (some ⟨cs, 0, false⟩)
/-- h0: memory as it was at first. -/
structure Holds (h0 h : Hp) (L : List Asn) : Prop where
  pre : h0 <+: h
  ok : ∀ (i : Nat) A, L[i]? = some A → A.ok h0.length h
  dist : ∀ (i j : Nat) A B, L[i]? = some A → L[j]? = some B → i ≠ j → ∀ r, A.row = some r → B.row ≠ some r
section
variable {b : Nat} {h0 h h' : Hp} {L : List Asn} {A B : Asn} {i : Nat}
theorem Asn.ok.lt (o : A.ok b h) {r : Nat} (hr : A.row = some r) : r < h.length := by
  cases A with
  | own v sz els => exact Own.row_lt o hr
  | box q cs => cases hr; exact (List.getElem?_eq_some_iff.1 o.2).1
theorem Asn.ok.ge (o : A.ok b h) {r : Nat} (hr : A.row = some r) : b ≤ r := by
  cases A with
  | own v sz els => exact Own.row_ge o hr
  | box q cs => cases hr; exact o.1
theorem Asn.ok.keeps {q : Option Nat} (o : A.ok b h) (k : Keeps q h h') (hq : ∀ r, A.row = some r → q ≠ some r) : A.ok b h' := by
  cases A with
  | own v sz els => exact Own.keeps o k fun j hj hv => hq j hv hj
  | box r cs => exact ⟨o.1, by rw [k.2 r (o.lt rfl) (hq r rfl)]; exact o.2⟩
theorem Holds.start : Holds h h [] := ⟨List.prefix_rfl, fun i A e => by simp at e, fun i j A B e => by simp at e⟩
theorem Holds.ext (H : Holds h0 h L) (hp : h <+: h') : Holds h0 h' L :=
  ⟨H.pre.trans hp, fun i A e => (H.ok i A e).keeps (q := none) (.ofPre hp) (by simp), H.dist⟩
/-- One entry changes, and its row alone, or a new row takes its place. -/
theorem Holds.upd (H : Holds h0 h L) (hi : L[i]? = some A) (k : Keeps A.row h h') (hB : B.ok h0.length h') (hr : ∀ r, B.row = some r → A.row = some r ∨ h.length ≤ r) : Holds h0 h' (L.set i B) := by
  have hil := (List.getElem?_eq_some_iff.1 hi).1
  refine ⟨k.pre H.pre fun j hj => (H.ok i A hi).ge hj, fun j C hC => ?_, fun j1 j2 C D hC hD hne r hr1 hr2 => ?_⟩
  · rw [List.getElem?_set] at hC
    split at hC
    · first
        | (cases hC; exact hB)
        | (split at hC
           · cases hC; exact hB
           · cases hC)
    · rename_i hij
      exact (H.ok j C hC).keeps k fun r hr1 hr2 => H.dist i j A C hi hC hij r hr2 hr1
  · rw [List.getElem?_set] at hC hD
    split at hC
    · rename_i e1
      subst e1
      rw [if_neg hne] at hD
      cases hC
      rcases hr r hr1 with g | g
      · exact H.dist i j2 A D hi hD hne r g hr2
      · have := (H.ok j2 D hD).lt hr2; omega
    · rename_i e1
      split at hD
      · rename_i e2
        subst e2
        cases hD
        rcases hr r hr2 with g | g
        · exact H.dist i j1 A C hi hC e1 r g hr1
        · have := (H.ok j1 C hC).lt hr1; omega
      · exact H.dist j1 j2 C D hC hD hne r hr1 hr2
/-- Something new of one's own. -/
theorem Holds.add (H : Holds h0 h L) (hp : h <+: h') (hB : B.ok h.length h') : Holds h0 h' (L ++ [B]) := by
  have hl := H.pre.length_le
  refine ⟨H.pre.trans hp, fun j C hC => ?_, fun j1 j2 C D hC hD hne r hr1 hr2 => ?_⟩
  · rw [List.getElem?_append] at hC
    split at hC
    · exact (H.ok j C hC).keeps (q := none) (.ofPre hp) (by simp)
    · have : j - L.length = 0 := by
        rcases Nat.eq_zero_or_pos (j - L.length) with g | g
        · exact g
        · rw [List.getElem?_eq_none (by simp; omega)] at hC; cases hC
      rw [this] at hC
      cases hC
      cases B with
      | own v sz els => exact Own.low hB hl
      | box q cs => exact ⟨Nat.le_trans hl hB.1, hB.2⟩
  · have one : ∀ {j : Nat} {C : Asn}, (L ++ [B])[j]? = some C → (j < L.length ∧ L[j]? = some C) ∨ (j = L.length ∧ C = B) := by
      intro j C hC
      rw [List.getElem?_append] at hC
      split at hC
      · rename_i g; exact .inl ⟨g, hC⟩
      · have : j - L.length = 0 := by
          rcases Nat.eq_zero_or_pos (j - L.length) with g | g
          · exact g
          · rw [List.getElem?_eq_none (by simp; omega)] at hC; cases hC
        rw [this] at hC
        cases hC
        exact .inr ⟨by omega, rfl⟩
    rcases one hC with ⟨g1, e1⟩ | ⟨g1, e1⟩ <;> rcases one hD with ⟨g2, e2⟩ | ⟨g2, e2⟩
    · exact H.dist j1 j2 C D e1 e2 hne r hr1 hr2
    · subst e2; have h1 := (H.ok j1 C e1).lt hr1; have h2 := hB.ge hr2; omega
    · subst e1; have h1 := (H.ok j2 D e2).lt hr2; have h2 := hB.ge hr1; omega
    · omega
theorem Holds.alloc (H : Holds h0 h L) (cs : List Value) : Holds h0 (h ++ [some ⟨cs, 0, false⟩]) (L ++ [.box h.length cs]) :=
  H.add (List.prefix_append ..) ⟨Nat.le_refl _, by rw [List.getElem?_append_right (Nat.le_refl _), Nat.sub_self]; rfl⟩
theorem Holds.call (H : Holds h0 h L) {v : Value} {sz : Nat} {els : List (List Value)} (hp : h <+: h') (o : Own h.length h' v sz els) : Holds h0 h' (L ++ [.own v sz els]) := H.add (B := .own v sz els) hp o
theorem Holds.own (H : Holds h0 h L) (i : Nat) {v : Value} {sz : Nat} {els : List (List Value)} (hi : L[i]? = some (.own v sz els)) : Own h0.length h v sz els := H.ok i _ hi
theorem Holds.sees (H : Holds h0 h L) (i : Nat) {v : Value} {sz : Nat} {els : List (List Value)} (hi : L[i]? = some (.own v sz els)) : Sees h v sz els := (H.own i hi).sees
theorem Holds.box (H : Holds h0 h L) (i : Nat) {r : Nat} {cs : List Value} (hi : L[i]? = some (.box r cs)) : h[r]? = some (some ⟨cs, 0, false⟩) := (H.ok i _ hi).2
theorem Holds.sub (H : Holds h0 h L) (f : Nat → Nat) {M : List Asn} (hM : ∀ i A, M[i]? = some A → L[f i]? = some A) (hf : ∀ i j A B, M[i]? = some A → M[j]? = some B → f i = f j → i = j) : Holds h0 h M :=
  ⟨H.pre, fun i A e => H.ok _ A (hM i A e), fun i j A B e1 e2 hne r h1 h2 => H.dist _ _ A B (hM i A e1) (hM j B e2) (fun g => hne (hf i j A B e1 e2 g)) r h1 h2⟩
/-- The first n alone. -/
theorem Holds.take (H : Holds h0 h L) (n : Nat) : Holds h0 h (L.take n) :=
  H.sub id (fun i A e => by
    rw [List.getElem?_take] at e
    split at e
    · exact e
    · cases e) fun i j A B _ _ g => g
/-- One less. -/
theorem Holds.drop (H : Holds h0 h L) (n : Nat) : Holds h0 h (L.eraseIdx n) :=
  H.sub (fun i => if i < n then i else i + 1) (fun i A e => by
    rw [List.getElem?_eraseIdx] at e
    split at e <;> rename_i g
    · rw [if_pos g]; exact e
    · rw [if_neg g]; exact e) fun i j A B _ _ g => by
      split at g <;> split at g <;> omega
/-- append to one's own. -/
theorem Holds.app (H : Holds h0 h L) (i : Nat) {P : Program} {v x : Value} {sz : Nat} {els ys : List (List Value)} (hi : L[i]? = some (.own v sz els)) {ty e : TypeId} {q : TypeInfo} {z : Value} (hu : P.underlying ty = some (.slice e)) (hq : P.info? e = some q) (hz : zeroP P e = some z)
    (hsz : q.size = sz) (hpos : 0 < sz) (hby : 0 < q.bytes) (s : Sees h x sz ys) (h1 : ys.flatten.all one = true) (hlim : (els.length + ys.length) * q.bytes ≤ 2 ^ 47) :
    ∃ v' h', appendP P h ty v x = some (v', h') ∧ Holds h0 h' (L.set i (.own v' sz (els ++ ys))) ∧ Keeps (rowV v) h h' := by
  obtain ⟨v', h', e1, o, k, hr⟩ := (H.own i hi).append hu hq hz hsz hpos hby s h1 H.pre.length_le hlim
  refine ⟨v', h', e1, H.upd hi k o fun r hr' => ?_, k⟩
  rcases hr with g | ⟨q, g, g2⟩
  · left; show rowV v = some r; rw [← g]; exact hr'
  · right; rw [show rowV v' = some r from hr'] at g; cases g; exact g2
/-- append of one element, which lies in a row of its own. -/
theorem Holds.push (H : Holds h0 h L) (i : Nat) {P : Program} {v : Value} {sz n : Nat} {els : List (List Value)} {y : List Value} (hi : L[i]? = some (.own v sz els)) {ty e : TypeId} {q : TypeInfo} {z : Value} (hu : P.underlying ty = some (.slice e)) (hq : P.info? e = some q) (hz : zeroP P e = some z)
    (hsz : q.size = sz) (hpos : 0 < sz) (hby : 0 < q.bytes) (hy : y.length = sz) (hn : n = sz) (h1 : y.all one = true) (hlim : (els.length + 1) * q.bytes ≤ 2 ^ 47) :
    ∃ v' h', appendP P (h ++ [some ⟨y, sz, false⟩]) ty v (.slice (some ⟨h.length, 0, some n⟩) 1 1) = some (v', h') ∧ Holds h0 h' (L.set i (.own v' sz (els ++ [y]))) ∧ Keeps (rowV v) h h' ∧ (rowV v = none → newOk (h ++ [some ⟨y, sz, false⟩]) h') := by
  have H1 := H.ext (List.prefix_append h [some (⟨y, sz, false⟩ : Row)])
  have s : Sees (h ++ [some ⟨y, sz, false⟩]) (.slice (some ⟨h.length, 0, some n⟩) 1 1) sz [y] := by
    have := (Own.fresh (b := 0) (h := h) (t := []) (els := [y]) (sz := sz) (n := n) (Nat.zero_le _) (by simp [hy]) (by simp [hn])).sees
    simpa using this
  obtain ⟨v', h', e1, H2, k⟩ := H1.app i hi hu hq hz hsz hpos hby s (by simpa using h1) (by simpa using hlim)
  refine ⟨v', h', e1, H2, (Keeps.app).trans k, fun hv => ?_⟩
  have hp : (h ++ [some (⟨y, sz, false⟩ : Row)]) <+: h' := k.weaken (fun j hj => by rw [hv] at hj; cases hj)
  have ho := H.own i hi
  rcases ho.2 with ⟨rfl, rfl⟩ | ⟨r, rest, k', hbr, hrest, rfl, hh⟩
  · simp only [appendP, hu, hq, hz, lenP, seen_of s, hsz] at e1
    rw [if_pos ⟨hpos, hby, by simpa using h1⟩] at e1
    simp only [List.length_nil, Nat.zero_add, List.length_cons, List.length_nil, Nat.reduceAdd] at e1 hlim
    rw [if_neg (by omega), if_pos (by omega)] at e1
    simp only [newP] at e1
    cases e1
    exact newOk_own
  · cases hv
/-- A row that was just made is one's own. -/
theorem Holds.lit (H : Holds h0 h L) {sz n : Nat} {els : List (List Value)} (hl : ∀ e ∈ els, e.length = sz) (hn : n = els.length * sz) : Holds h0 (h ++ [some ⟨els.flatten, sz, false⟩]) (L ++ [.own (.slice (some ⟨h.length, 0, some n⟩) els.length els.length) sz els]) :=
  H.call (List.prefix_append ..) (Own.fresh (Nat.le_refl _) hl hn)
/-- A part of an element is written. -/
theorem Holds.store (H : Holds h0 h L) (i : Nat) {P : Program} {v : Value} {sz : Nat} {els : List (List Value)} (hi : L[i]? = some (.own v sz els)) {t : TypeId} {q : TypeInfo} {w : Value} {j : Nat} {e l m c : List Value} (hq : P.info? t = some q) (he : els[j]? = some e) (hs : e = l ++ (m ++ c)) (hm : m.length = q.size) (hw : w.cells.size = q.size) (ho : w.cells.toList.all one = true) :
    ∃ h', storeP P h t w (.pointer (some (addP (base v) (j * sz + l.length)))) = some h' ∧ Holds h0 h' (L.set i (.own v sz (els.set j (l ++ (w.cells.toList ++ c))))) ∧ Keeps (rowV v) h h' := by
  obtain ⟨h', e1, o, k⟩ := (H.own i hi).store hq he hs hm hw ho
  exact ⟨h', e1, H.upd hi k o fun r hr => .inl hr, k⟩
/-- A whole element is written. -/
theorem Holds.put (H : Holds h0 h L) (i : Nat) {P : Program} {v : Value} {sz : Nat} {els : List (List Value)} (hi : L[i]? = some (.own v sz els)) {t : TypeId} {w : Value} {j : Nat} (hq : (P.info? t).map (·.size) = some sz) (hj : j < els.length) (hw : w.cells.size = sz) (ho : w.cells.toList.all one = true) :
    ∃ h', storeP P h t w (.pointer (some (addP (base v) (j * sz)))) = some h' ∧ Holds h0 h' (L.set i (.own v sz (els.set j w.cells.toList))) ∧ Keeps (rowV v) h h' := by
  obtain ⟨q, hq, hz⟩ := Option.map_eq_some_iff.1 hq
  have he : els[j]? = some els[j] := List.getElem?_eq_getElem hj
  have := H.store i hi (l := []) (c := []) (m := els[j]) hq he (by simp) (by rw [hz]; exact (H.own i hi).1 _ (List.getElem_mem _)) (by rw [hz]; exact hw) ho
  simpa using this
/-- A box is written. -/
theorem Holds.set (H : Holds h0 h L) (i : Nat) {P : Program} {r : Nat} {cs : List Value} (hi : L[i]? = some (.box r cs)) {ty : TypeId} {q : TypeInfo} {w : Value} {o n : Nat} (hn : n = cs.length) (hq : P.info? ty = some q) (hw : w.cells.size = q.size) (ho : o + q.size ≤ cs.length) (hone : w.cells.toList.all one = true) :
    ∃ h', storeP P h ty w (.pointer (some ⟨r, o, some n⟩)) = some h' ∧ Holds h0 h' (L.set i (.box r (splice cs o w.cells.toList))) ∧ Keeps (some r) h h' := by
  have hb := H.box i hi
  have hrow : rowAt h ⟨r, o, some n⟩ = some ⟨cs, 0, false⟩ := by simp only [rowAt, hb, hn, if_true]
  refine ⟨h.set r (some ⟨splice cs o w.cells.toList, 0, false⟩), ?_, H.upd hi .set ⟨(H.ok i _ hi).1, ?_⟩ fun r hr => .inl hr, .set⟩
  · simp only [storeP, hrow, hq]
    rw [if_pos ⟨trivial, hw, ho, hone⟩]
  · rw [List.getElem?_set_self ((H.ok i _ hi).lt rfl)]
theorem pre_gcU {u : Value} (hp : h <+: h') : h <+: gc h h' u := by
  rcases gc_cases h h' u with g | ⟨_, g⟩ <;> rw [g]
  · exact hp
  · exact List.prefix_rfl
theorem Own.gcU {v u : Value} {sz : Nat} {els : List (List Value)} (o : Own b h' v sz els) (hu : plain u = true → plainC v = true) : Own b (gc h h' u) v sz els := by
  rcases gc_cases h h' u with g | ⟨hp, g⟩
  · rw [g]; exact o
  · rw [g]
    refine ⟨o.1, .inl ?_⟩
    rcases o.2 with h2 | ⟨r', rest, k', _, _, rfl, _⟩
    · exact h2
    · cases hu hp
/-- A slice is returned. -/
theorem Holds.ret (H : Holds h0 h L) (i : Nat) {v : Value} {sz : Nat} {els : List (List Value)} (hi : L[i]? = some (.own v sz els)) : h0 <+: gc h0 h v ∧ Own h0.length (gc h0 h v) v sz els := ⟨pre_gcU H.pre, (H.own i hi).gcU fun hp => by
  rcases (H.own i hi).2 with ⟨rfl, _⟩ | ⟨_, _, _, _, _, rfl, _⟩
  · rfl
  · exact hp⟩
theorem plainT {v u : Value} : plain (.tuple #[v, u]) = true → plainC v = true := by simp [plain]; intro h _; exact h
end
/-! ### slices of slices -/
section
variable {α : Type} {enc : α → List Value} {sz : Nat} {h h' : Hp} {v : Value} {xss : List (List α)}
/-- Slices of slices that are seen; vs: the inner ones. -/
structure Nest (h : Hp) (v : Value) (enc : α → List Value) (sz : Nat) (xss : List (List α)) (vs : List Value) : Prop where
  out : Sees h v 1 (vs.map fun u => [u])
  len : vs.length = xss.length
  inn : ∀ (i : Nat) u xs, vs[i]? = some u → xss[i]? = some xs → Sees h u sz (xs.map enc)
theorem Nest.pre {vs : List Value} (n : Nest h v enc sz xss vs) (hp : h <+: h') : Nest h' v enc sz xss vs := ⟨n.out.pre hp, n.len, fun i u xs h1 h2 => (n.inn i u xs h1 h2).pre hp⟩
theorem Nest.shape {vs : List Value} (n : Nest h v enc sz xss vs) : ∃ oa c, v = .slice oa xss.length c := by
  obtain ⟨oa, c, e⟩ := n.out.shapeT
  exact ⟨oa, c, by rw [e, n.len]⟩
/-- The inner slice at i. -/
theorem Nest.at {vs : List Value} (n : Nest h v enc sz xss vs) {i : Nat} {xs : List α} (hx : xss[i]? = some xs) : ∃ u, vs[i]? = some u ∧ Sees h u sz (xs.map enc) := by
  have hi := (List.getElem?_eq_some_iff.1 hx).1
  obtain ⟨u, hu, _⟩ := drop_at (show i < vs.length by rw [n.len]; exact hi)
  exact ⟨u, hu, n.inn i u xs hu hx⟩
theorem Nest.load {P : Program} {vs : List Value} (n : Nest h v enc sz xss vs) {ty e : TypeId} (hu : P.underlying ty = some (.slice e)) (hq : (P.info? e).map (·.size) = some 1) (ha : (P.underlying e).map aggD = some false) {i : Nat} {u : Value} (hx : vs[i]? = some u) :
    indexAddrP P h ty v (.int .i64 i) = some (.pointer (some (addP (base v) i))) ∧ loadP P h e (.pointer (some (addP (base v) i))) = some u := by
  have hi := (List.getElem?_eq_some_iff.1 hx).1
  have h1 := n.out.indexT hu hq (k := .i64) (j := i) (by omega) (by omega)
  have h2 := n.out.cellT (ty := e) ha hq hx (k := 0) (by omega)
  exact ⟨by simpa using h1, by simpa using h2⟩
end
theorem reps_flat' (n : Nat) (z : List Value) : reps n z = (List.replicate n z).flatten := by
  induction n with
  | zero => rfl
  | succ n ih => rw [reps, ih, List.replicate_succ, List.flatten_cons]
theorem make_eq {P : Program} {h : Hp} {ty e : TypeId} {q : TypeInfo} {z : Value} (hu : P.underlying ty = some (.slice e)) (hq : P.info? e = some q) (hz : zeroP P e = some z) (hzs : z.cells.size = q.size) (hpos : 0 < q.size) (hby : 0 < q.bytes) {n : Nat} (hn : n < 2 ^ 62) (hb : n * q.bytes ≤ 2 ^ 47) :
    makeP P h ty (.int .i64 n) (.int .i64 n) = some (.slice (some ⟨h.length, 0, some (n * q.size)⟩) n n, h ++ [some ⟨(List.replicate n z.cells.toList).flatten, q.size, false⟩]) := by
  have hl : (reps n z.cells.toList).length = n * q.size := by
    rw [reps_flat', flat_len (sz := q.size) (fun e he => by rw [List.eq_of_mem_replicate he, Array.length_toList, hzs])]; simp
  simp only [makeP, hu, asI, hq, hz]
  rw [if_pos ⟨by omega, by omega, by have : ((n * q.bytes : Nat) : Int) ≤ ((2 ^ 47 : Nat) : Int) := Int.ofNat_le.2 hb; simpa using this, hpos, hby, by omega⟩]
  simp only [newP, Int.toNat_natCast, hl]
  rw [reps_flat']
theorem winc {i n : Nat} (h : i < n) (hn : n ≤ 2 ^ 40) : IntKind.i64.wrap ((i : Int) + 1) = ((i + 1 : Nat) : Int) := by rw [wrap_ok] <;> omega
theorem nb {a b : Int} (h : ¬ a = b) : (a == b) = false := by simpa using h
theorem nt {a b : Int} (h : ¬ a = b) : (a != b) = true := by simpa using h
theorem take_succ' {α : Type} {xs : List α} {i : Nat} {x : α} (h : xs[i]? = some x) : xs.take (i + 1) = xs.take i ++ [x] := by
  rw [List.take_add_one, h]; rfl
/-- What a box holds. -/
theorem Holds.bl {P : Program} {h0 h : Hp} {L : List Asn} (H : Holds h0 h L) (i n : Nat) {r : Nat} {cs : List Value} (hi : L[i]? = some (.box r cs)) (hn : cs.length = n) (t : TypeId) (o : Nat) :
    loadP P h t (.pointer (some ⟨r, o, some n⟩)) = rowLoad P t ⟨cs, 0, false⟩ o := by
  have hb := H.box i hi
  rw [loadP_eq]
  simp only [rowAt, hb, hn, if_true, Option.bind_some]
/-! ### what simp is not to look into -/
theorem hideC {P : Program} {G : FuncId → GI} {g : FuncId} {args : List Value} {h : Hp} {J : Value → Hp → Prop} (f : ∀ K, K = J → RunsC P G g args h K) : RunsC P G g args h J := f J rfl
theorem onK {K J : Value → Hp → Prop} (e : K = J) {v : Value} {h : Hp} (x : J v h) : K v h := by rw [e]; exact x
theorem on {I J : Nat → Slots → Hp → Prop} (e : I = J) {n : Nat} {s : Slots} {h : Hp} (x : J n s h) : I n s h := by rw [e]; exact x
theorem R_loopO {P : Program} {G : FuncId → GI} {N : Nat} {K : GI} {Q : Ex → St → Prop} {st : St} {k : Kont} {b : Code} (J : Nat → Slots → Hp → Prop)
    (hb : ∀ I : Nat → Slots → Hp → Prop, I = J → ∀ n s h, J n s h → R P G N K (LQ P G N K Q (keepAt K.keep (firstId b)) I n k) b ⟨s, h⟩ .top) {n : Nat} (hi : J n (keep (keepAt K.keep (firstId b)) st.s) st.h) : R P G N K Q (.loop b) st k :=
  R_loop J (hb J rfl) hi
theorem gcP {h h' : Hp} (hp : h <+: h') {v : Value} (hv : plain v = true) : gc h h' v = h := by obtain ⟨t, rfl⟩ := hp; exact gc_app h t _ hv
@[simp] theorem gc_bb {h l : Hp} {a b : Bool} : gc h (h ++ l) (.tuple #[.bool a, .bool b]) = h := gc_app h l _ rfl
@[simp] theorem gc_ib {h l : Hp} {k : IntKind} {a : Int} {b : Bool} : gc h (h ++ l) (.tuple #[.int k a, .bool b]) = h := gc_app h l _ rfl
end Go.Pm

/- One's own slices: what lies behind a place moves on. -/
set_option linter.unusedVariables false
set_option linter.unusedSimpArgs false
namespace Go.Pm
/-- What lies behind place k moves on by one: copy(v[k+1:], v[k:]). -/
theorem Own.shift {P : Program} {b sz : Nat} {h : Hp} {v : Value} {els : List (List Value)} (o : Own b h v sz els) {ty e : TypeId} (hu : P.underlying ty = some (.slice e)) (hq : (P.info? e).map (·.size) = some sz) (h1 : els.flatten.all one = true) {k : Nat} (hk : k < els.length) :
    ∃ dv mv n h', sliceP P h ty v (some (.int .i64 ((k : Int) + 1))) none = some dv ∧ sliceP P h ty v (some (.int .i64 k)) none = some mv ∧ copyP P h ty dv mv = some (.int .i64 n, h') ∧
      Own b h' v sz (els.take (k + 1) ++ (els.drop k).take (els.length - (k + 1))) ∧ Keeps (rowV v) h h' := by
  have hel := o.1
  have hs := o.sees
  obtain ⟨mv, hm1, hm2, hm3⟩ := hs.back hu hq (k := .i64) (j := k) (by omega) (by omega)
  obtain ⟨q, hq, hz⟩ := Option.map_eq_some_iff.1 hq
  rw [Int.toNat_natCast] at hm2
  rcases o.2 with ⟨rfl, rfl⟩ | ⟨r, rest, kk, hbr, hrest, rfl, hh⟩
  · simp at hk
  · have hfl := flat_len hel
    have hrl : (els.flatten ++ rest).length = (els.length + kk) * sz := by rw [List.length_append, hfl, hrest, Nat.add_mul]
    have hrow : ∀ o, rowAt h ⟨r, o, some ((els.length + kk) * sz)⟩ = some ⟨els.flatten ++ rest, sz, false⟩ := fun o => by simp only [rowAt, hh, hrl, if_true]
    have hle : (k + 1) * sz + (els.length - (k + 1)) * sz = els.length * sz := by rw [← Nat.add_mul]; congr 1; omega
    have hd1 : ∀ e ∈ els.drop k, e.length = sz := fun e he => hel e (List.mem_of_mem_drop he)
    have hdl : (els.drop k).length = els.length - k := by simp
    have htk : ((els.drop k).take (els.length - (k + 1))).length = els.length - (k + 1) := by rw [List.length_take, hdl]; omega
    have htz : ∀ e ∈ (els.drop k).take (els.length - (k + 1)), e.length = sz := fun e he => hd1 e (List.mem_of_mem_take he)
    have hft : ((els.drop k).take (els.length - (k + 1))).flatten.length = (els.length - (k + 1)) * sz := by rw [flat_len htz, htk]
    have hsp : splice (els.flatten ++ rest) ((k + 1) * sz) (((els.drop k).take (els.length - (k + 1))).flatten) = (els.take (k + 1) ++ (els.drop k).take (els.length - (k + 1))).flatten ++ rest := by
      have h2 : els.flatten = (els.take (k + 1)).flatten ++ (els.drop (k + 1)).flatten := by rw [← List.flatten_append, List.take_append_drop]
      have h3 : (els.take (k + 1)).flatten.length = (k + 1) * sz := by
        rw [flat_len (sz := sz) (fun e he => hel e (List.mem_of_mem_take he)), List.length_take, Nat.min_eq_left (by omega)]
      have := splice_seg (vs := ((els.drop k).take (els.length - (k + 1))).flatten) (a := (els.take (k + 1)).flatten) (c := rest) (els.drop (k + 1)).flatten (by
        rw [hft, flat_len (sz := sz) (fun e he => hel e (List.mem_of_mem_drop he)), List.length_drop])
      rw [h3] at this
      rw [h2, List.append_assoc, this, List.flatten_append, List.append_assoc]
    have hall : (els.drop k).flatten.all one = true := by
      rw [List.all_eq_true] at h1 ⊢
      intro x hx
      refine h1 x ?_
      obtain ⟨l, hl, hx⟩ := List.mem_flatten.1 hx
      exact List.mem_flatten.2 ⟨l, List.mem_of_mem_drop hl, hx⟩
    have hlm : lenP mv = some (els.length - k) := by obtain ⟨oa, c, e⟩ := hm2.shape; rw [e, ← hdl]; rfl
    have hse : seenP h sz mv = some (els.drop k).flatten := seen_of hm2
    refine ⟨.slice (some ⟨r, (k + 1) * sz, some ((els.length + kk) * sz)⟩) (els.length - (k + 1)) (els.length + kk - (k + 1)), mv, ((els.length - (k + 1) : Nat) : Int), h.set r (some ⟨splice (els.flatten ++ rest) ((k + 1) * sz) (((els.drop k).take (els.length - (k + 1))).flatten), sz, false⟩), ?_, hm1, ?_, ⟨?_, .inr ⟨r, rest, kk, hbr, hrest, ?_, ?_⟩⟩, .set⟩
    · simp only [sliceP, hu, hq, hrow, hiP, loP, asI]
      rw [if_pos ⟨by omega, by omega, by omega, hz.symm⟩]
      simp [addP, hz, show ((k : Int) + 1).toNat = k + 1 by omega]
    · simp only [copyP, hu, hlm]
      rw [show lenP (.slice (some ⟨r, (k + 1) * sz, some ((els.length + kk) * sz)⟩) (els.length - (k + 1)) (els.length + kk - (k + 1))) = some (els.length - (k + 1)) from rfl]
      simp only [hq, hz, hse, hrow]
      rw [if_pos ⟨trivial, trivial, by rw [hrl, Nat.add_mul els.length]; omega, hall⟩, Nat.min_eq_right (by omega), flat_take hd1]
    · intro e he
      rcases List.mem_append.1 he with he | he
      · exact hel e (List.mem_of_mem_take he)
      · exact htz e he
    · have : (els.take (k + 1) ++ (els.drop k).take (els.length - (k + 1))).length = els.length := by rw [List.length_append, htk, List.length_take]; omega
      rw [this]
    · have hqq := (List.getElem?_eq_some_iff.1 hh).1
      rw [List.getElem?_set_self hqq, hsp]
theorem Holds.shift {P : Program} {h0 h : Hp} {L : List Asn} (H : Holds h0 h L) (i : Nat) {v : Value} {sz : Nat} {els : List (List Value)} (hi : L[i]? = some (.own v sz els)) {ty e : TypeId} (hu : P.underlying ty = some (.slice e)) (hq : (P.info? e).map (·.size) = some sz) (h1 : els.flatten.all one = true) {k : Nat} (hk : k < els.length) :
    ∃ dv mv n h', sliceP P h ty v (some (.int .i64 ((k : Int) + 1))) none = some dv ∧ sliceP P h ty v (some (.int .i64 k)) none = some mv ∧ copyP P h ty dv mv = some (.int .i64 n, h') ∧
      Holds h0 h' (L.set i (.own v sz (els.take (k + 1) ++ (els.drop k).take (els.length - (k + 1))))) ∧ Keeps (rowV v) h h' := by
  obtain ⟨dv, mv, n, h', a, b, c, o, k⟩ := (H.own i hi).shift hu hq h1 hk
  exact ⟨dv, mv, n, h', a, b, c, H.upd hi k o fun r hr => .inl hr, k⟩
/-- What a call has made is added to what one has. -/
theorem Holds.join {h0 h h' : Hp} {L M : List Asn} (H : Holds h0 h L) (C : Holds h h' M) : Holds h0 h' (L ++ M) := by
  have hl := H.pre.length_le
  have one : ∀ {j : Nat} {A : Asn}, (L ++ M)[j]? = some A → (j < L.length ∧ L[j]? = some A) ∨ (L.length ≤ j ∧ M[j - L.length]? = some A) := by
    intro j A hA
    rw [List.getElem?_append] at hA
    split at hA
    · rename_i g; exact .inl ⟨g, hA⟩
    · rename_i g; exact .inr ⟨by omega, hA⟩
  refine ⟨H.pre.trans C.pre, fun j A hA => ?_, fun j1 j2 A B hA hB hne r hr1 hr2 => ?_⟩
  · rcases one hA with ⟨_, e⟩ | ⟨_, e⟩
    · exact (H.ok j A e).keeps (q := none) (.ofPre C.pre) (by simp)
    · have := C.ok _ A e
      cases A with
      | own v sz els => exact Own.low this hl
      | box q cs => exact ⟨Nat.le_trans hl this.1, this.2⟩
  · rcases one hA with ⟨g1, e1⟩ | ⟨g1, e1⟩ <;> rcases one hB with ⟨g2, e2⟩ | ⟨g2, e2⟩
    · exact H.dist j1 j2 A B e1 e2 hne r hr1 hr2
    · have h1 := (H.ok j1 A e1).lt hr1; have h2 := (C.ok _ B e2).ge hr2; omega
    · have h1 := (C.ok _ A e1).ge hr1; have h2 := (H.ok j2 B e2).lt hr2; omega
    · exact C.dist _ _ A B e1 e2 (by omega) r hr1 hr2
/-- At a function's end. -/
theorem Holds.gcO {h0 h : Hp} {L : List Asn} {u : Value} (H : Holds h0 h L) (hu : plain u = true → ∀ (i : Nat) A, L[i]? = some A → ∃ v sz els, A = .own v sz els ∧ plainC v = true) : Holds h0 (gc h0 h u) L := by
  rcases gc_cases h0 h u with g | ⟨hp, g⟩
  · rw [g]; exact H
  · rw [g]
    refine ⟨List.prefix_rfl, fun i A hA => ?_, H.dist⟩
    obtain ⟨v, sz, els, rfl, hv⟩ := hu hp i A hA
    have o := H.own i hA
    refine ⟨o.1, .inl ?_⟩
    rcases o.2 with h2 | ⟨r', rest, k', _, _, rfl, _⟩
    · exact h2
    · cases hv
/-- Nothing of one's own alone. -/
theorem Holds.none {h0 h : Hp} (hp : h0 <+: h) : Holds h0 h [] := ⟨hp, fun i A e => by simp at e, fun i j A B e => by simp at e⟩
end Go.Pm

/- What the laws' own functions need: sizes, marks, lists of lists of one's own. -/
set_option linter.unusedVariables false
set_option linter.unusedSimpArgs false
namespace Go.Pm
/-! ### sizes -/
def tot {α : Type} : List (List α) → Nat
  | [] => 0
  | x :: xs => x.length + tot xs
/-! ### marks -/
/-- A row that is written in place, and is there as it was: then it says what it says now. -/
theorem gc_cases' (h h' : Hp) (v : Value) : gc h h' v = h' ∨ (h <+: h' ∧ gc h h' v = h) := by
  unfold gc
  split
  · rename_i hp; exact .inr ⟨hp.2, rfl⟩
  · exact .inl rfl
theorem Asn.ok.back {b : Nat} {h h' : Hp} {A : Asn} (o : A.ok b h') (hp : h <+: h') (hr : ∀ r, A.row = some r → r < h.length) : A.ok b h := by
  obtain ⟨t, rfl⟩ := hp
  cases A with
  | own v sz els =>
    refine ⟨o.1, ?_⟩
    rcases o.2 with h2 | ⟨r, rest, k, hb, hrest, rfl, hh⟩
    · exact .inl h2
    · exact .inr ⟨r, rest, k, hb, hrest, rfl, by rw [List.getElem?_append_left (hr r rfl)] at hh; exact hh⟩
  | box r cs => exact ⟨o.1, by have := o.2; rw [List.getElem?_append_left (hr r rfl)] at this; exact this⟩
/-- At the end of a function that writes what one has. -/
theorem Holds.gcR {h0 h h' : Hp} {L L' : List Asn} {u : Value} (H : Holds h0 h L) (H' : Holds h0 h' L') (hr : L'.map Asn.row = L.map Asn.row) : Holds h0 (gc h h' u) L' := by
  rcases gc_cases' h h' u with g | ⟨hp, g⟩
  · rw [g]; exact H'
  · rw [g]
    refine ⟨H.pre, fun i A hA => (H'.ok i A hA).back hp fun r hrr => ?_, H'.dist⟩
    have h1 := congrArg (·[i]?) hr
    simp only [List.getElem?_map, hA, Option.map_some] at h1
    cases hB : L[i]? with
    | none => rw [hB] at h1; cases h1
    | some B =>
      rw [hB] at h1
      simp only [Option.map_some, Option.some.injEq] at h1
      exact (H.ok i B hB).lt (by rw [← h1]; exact hrr)
/-! ### lists of lists of one's own -/
section
variable {α : Type} {enc : α → List Value} {sz : Nat}
def inL (enc : α → List Value) (sz : Nat) : List Value → List (List α) → List Asn
  | u :: us, x :: xs => .own u sz (x.map enc) :: inL enc sz us xs
  | _, _ => []
theorem inL_len : ∀ {us : List Value} {xs : List (List α)}, us.length = xs.length → (inL enc sz us xs).length = us.length
  | [], [], _ => rfl
  | u :: us, x :: xs, h => by rw [inL, List.length_cons, inL_len (by simpa using h), List.length_cons]
  | [], x :: xs, h => by simp at h
  | u :: us, [], h => by simp at h
theorem inL_get : ∀ {us : List Value} {xs : List (List α)} {i : Nat} {u : Value} {x : List α}, us[i]? = some u → xs[i]? = some x → (inL enc sz us xs)[i]? = some (.own u sz (x.map enc))
  | u :: us, x :: xs, 0, _, _, h1, h2 => by simp at h1 h2; subst h1; subst h2; rfl
  | u :: us, x :: xs, i + 1, _, _, h1, h2 => by rw [inL, List.getElem?_cons_succ]; exact inL_get (by simpa using h1) (by simpa using h2)
  | [], _, _, _, _, h1, _ => by cases h1
  | u :: us, [], _, _, _, _, h2 => by cases h2
theorem inL_snoc : ∀ {us : List Value} {xs : List (List α)} {u : Value} {x : List α}, us.length = xs.length → inL enc sz (us ++ [u]) (xs ++ [x]) = inL enc sz us xs ++ [.own u sz (x.map enc)]
  | [], [], _, _, _ => rfl
  | v :: us, y :: xs, u, x, h => by rw [List.cons_append, List.cons_append, inL, inL, List.cons_append, inL_snoc (by simpa using h)]
  | [], x :: xs, _, _, h => by simp at h
  | u :: us, [], _, _, h => by simp at h
end
/-! ### the order in which one's own is told -/
def Apart (A B : Asn) : Prop := ∀ r, A.row = some r → B.row ≠ some r
theorem Apart.symm {A B : Asn} (h : Apart A B) : Apart B A := fun r h1 h2 => h r h2 h1
theorem Holds.perm {h0 h : Hp} {L M : List Asn} (H : Holds h0 h L) (p : L.Perm M) : Holds h0 h M := by
  have h1 : L.Pairwise Apart := List.pairwise_iff_getElem.2 fun i j hi hj hij => fun r g1 g2 => H.dist i j _ _ (List.getElem?_eq_getElem hi) (List.getElem?_eq_getElem hj) (by omega) r g1 g2
  have h2 : M.Pairwise Apart := (p.pairwise_iff (fun h => h.symm)).1 h1
  refine ⟨H.pre, fun i A hA => ?_, fun i j A B hA hB hne r g1 g2 => ?_⟩
  · obtain ⟨k, hk⟩ := List.getElem?_of_mem (p.mem_iff.2 (List.mem_of_getElem? hA))
    exact H.ok k A hk
  · obtain ⟨hi, rfl⟩ := List.getElem?_eq_some_iff.1 hA
    obtain ⟨hj, rfl⟩ := List.getElem?_eq_some_iff.1 hB
    rcases Nat.lt_or_ge i j with g | g
    · exact List.pairwise_iff_getElem.1 h2 i j hi hj g r g1 g2
    · exact List.pairwise_iff_getElem.1 h2 j i hj hi (by omega) r g2 g1
/-- What is new is told in two parts. -/
theorem Holds.joinT {h0 h h' : Hp} {L T A M : List Asn} (H : Holds h0 h (L ++ T)) (C : Holds h h' (A ++ M)) : Holds h0 h' ((L ++ A) ++ (M ++ T)) := by
  refine (H.join C).perm ?_
  rw [List.append_assoc, List.append_assoc]
  refine List.Perm.append_left L ?_
  have h1 : (T ++ (A ++ M)).Perm ((A ++ M) ++ T) := List.perm_append_comm
  rw [List.append_assoc] at h1
  exact h1
theorem Holds.swap {h0 h : Hp} {L A B C : List Asn} (H : Holds h0 h (L ++ (A ++ (B ++ C)))) : Holds h0 h (L ++ (B ++ (A ++ C))) := by
  refine H.perm (List.Perm.append_left L ?_)
  rw [← List.append_assoc, ← List.append_assoc]
  exact List.Perm.append_right C List.perm_append_comm
theorem Holds.weak {h0 h : Hp} {L T : List Asn} (H : Holds h0 h (L ++ T)) : Holds h0 h L := by
  have := H.take L.length
  rwa [List.take_left'] at this
  rfl
theorem Holds.tail {h0 h : Hp} {L : List Asn} {A : Asn} (H : Holds h0 h (A :: L)) : Holds h0 h L := H.sub (· + 1) (fun i B hB => by simpa using hB) fun i j B C _ _ g => by simpa using g
theorem Holds.open {h0 h : Hp} {L : List Asn} (H : Holds h0 h L) : Holds h0 h (L ++ []) := by rw [List.append_nil]; exact H
end Go.Pm

/- Lists of lists of one's own: what is returned, what takes another's place. -/
set_option linter.unusedVariables false
set_option linter.unusedSimpArgs false
namespace Go.Pm
section
variable {α : Type} {enc : α → List Value} {sz : Nat} {h0 h : Hp} {v u : Value} {us : List Value} {xss : List (List α)}
/-- At a function's end. -/
theorem Holds.gcN (H : Holds h0 h (.own v 1 (us.map fun u => [u]) :: inL enc sz us xss)) (hl : us.length = xss.length) (hu : plain u = true → plainC v = true) : Holds h0 (gc h0 h u) (.own v 1 (us.map fun u => [u]) :: inL enc sz us xss) := by
  refine H.gcO fun hp i A hA => ?_
  have hp' := hu hp
  have hv0 : us = [] := by
    have ho := H.own 0 rfl
    rcases ho.2 with ⟨_, h2⟩ | ⟨_, _, _, _, _, h2, _⟩
    · simpa using h2
    · rw [h2] at hp'; cases hp'
  subst hv0
  match i, hA with
  | 0, hA => cases hA; exact ⟨_, _, _, rfl, hp'⟩
  | i + 1, hA => cases hA
end
end Go.Pm

/- From the small machine to the model's calls: the top. -/
set_option linter.unusedVariables false
set_option linter.unusedSimpArgs false
namespace Go.Pm
open Go.RowKit
variable {P : Program} {G : FuncId → GI} {ρ : Mp} {h : Hp} {w : World}
theorem RunsC.calls (hm : P.follows .mixedOrders = true) {g : FuncId} {args args' : List Value} {K : Value → Hp → Prop} (r : RunsC P G g args h K) (R : Rel ρ h w) (hl : VL ρ h args args') :
    Calls P g args'.toArray w fun e w' => ∃ v v' h' ρ', e = .returned v' ∧ K v h' ∧ VR ρ' h' v v' ∧ Rel ρ' h' w' ∧ Go1 ρ h w ρ' h' w' := by
  obtain ⟨f, v, h', e, k⟩ := r
  refine ((sound P G hm f).call g args h v h' e ρ args' w R hl).mono fun e' w' hh => ?_
  obtain ⟨v', ρ', rfl, hv, R', Gx⟩ := hh
  exact ⟨v, v', h', ρ', rfl, k, hv, R', Gx⟩
theorem Go1.below {ρ' : Mp} {h' : Hp} {w' : World} (Gx : Go1 ρ h w ρ' h' w') (hro : ∀ (r : Nat) (x : Row), h[r]? = some (some x) → x.ro = true) : Below w.heap.size w w' :=
  ⟨Gx.os, Gx.tape, Gx.output, Gx.size, fun k hk => Gx.blk k hk fun r x p hx _ hr => by rw [hro r x hx] at hr; cases hr⟩
/-- A call that returns true, with arguments that are only read. -/
theorem Ret.true_calls (hm : P.follows .mixedOrders = true) {g : FuncId} {args args' : List Value} {h1 : Hp} (r : Ret P G g args h (.bool true) h1) (R : Rel ρ h w) (hl : VL ρ h args args') (hro : ∀ (r : Nat) (x : Row), h[r]? = some (some x) → x.ro = true) :
    Calls P g args'.toArray w fun e w' => e = .returned (.bool true) ∧ Below w.heap.size w w' := by
  refine (RunsC.calls hm r R hl).mono fun e w' hh => ?_
  obtain ⟨v, v', h', ρ', rfl, ⟨rfl, rfl⟩, hv, R', Gx⟩ := hh
  cases hv
  exact ⟨rfl, Gx.below hro⟩
end Go.Pm

/- Arguments as rows that are only read. -/
set_option linter.unusedVariables false
set_option linter.unusedSimpArgs false
namespace Go.Pm
variable {ρ : Mp} {h : Hp} {w : World}
def AllRo (h : Hp) : Prop := ∀ (r : Nat) (x : Row), h[r]? = some (some x) → x.ro = true
theorem Rel.nil {w : World} : Rel (fun _ => none) [] w := ⟨fun r x p h => by simp at h, fun r x p h => by simp at h, fun r r' x x' p p' h => by simp at h, fun r p h => by cases h⟩
theorem AllRo.nil : AllRo [] := fun r x h => by simp at h
/-- One row more that is only read. -/
theorem add_row (R : Rel ρ h w) (ha : AllRo h) (cells : List Value) (sz : Nat) (p : Place) (hc : ∀ (k : Nat) c, cells[k]? = some c → ∃ c', w.cell? ⟨p.b, p.d + k, none⟩ = some c' ∧ VR ρ h c c') :
    ∃ ρ2, Rel ρ2 (h ++ [some ⟨cells, sz, true⟩]) w ∧ AllRo (h ++ [some ⟨cells, sz, true⟩]) ∧ Step ρ h ρ2 (h ++ [some ⟨cells, sz, true⟩]) ∧ ρ2 h.length = some p := by
  have old : ∀ {r : Nat} {x : Row}, (h ++ [some ⟨cells, sz, true⟩])[r]? = some (some x) → (r < h.length ∧ h[r]? = some (some x)) ∨ (r = h.length ∧ x = ⟨cells, sz, true⟩) := by
    intro r x hx
    rcases Nat.lt_or_ge r h.length with hr | hr
    · rw [List.getElem?_append_left hr] at hx; exact .inl ⟨hr, hx⟩
    · rw [List.getElem?_append_right hr] at hx
      have : r - h.length = 0 := by
        have := (List.getElem?_eq_some_iff.1 hx).1
        simp at this; omega
      rw [this] at hx
      simp at hx
      exact .inr ⟨by omega, hx.symm⟩
  have st : Step ρ h (fun r => if r = h.length then some p else ρ r) (h ++ [some ⟨cells, sz, true⟩]) := by
    refine ⟨fun r x q hx hq => ?_, fun a ⟨L, h1, h2, h3⟩ => ⟨L, h1, by simp; omega, fun x hx => ?_⟩⟩
    · have hr := (List.getElem?_eq_some_iff.1 hx).1
      exact .inl ⟨x, by rw [List.getElem?_append_left hr]; exact hx, rfl, rfl, rfl, by rw [if_neg (by omega)]; exact hq⟩
    · rcases old hx with ⟨_, h4⟩ | ⟨h4, _⟩
      · exact h3 x h4
      · omega
  have aro : AllRo (h ++ [some ⟨cells, sz, true⟩]) := fun r x hx => by
    rcases old hx with ⟨_, h4⟩ | ⟨_, rfl⟩
    · exact ha r x h4
    · rfl
  refine ⟨_, ⟨fun r x q hx hq hro => ?_, fun r x q hx hq hro k v hk => ?_, fun r r' x x' q q' hx hx' hq hq' hro => ?_, fun r q hq => ?_⟩, aro, st, if_pos rfl⟩
  · rw [aro r x hx] at hro; cases hro
  · rcases old hx with ⟨hr, h4⟩ | ⟨rfl, rfl⟩
    · have hq2 : ρ r = some q := by
        have hq1 : (if r = h.length then some p else ρ r) = some q := hq
        rwa [if_neg (by omega)] at hq1
      obtain ⟨v', h5, h6⟩ := R.ro r x q h4 hq2 hro k v hk
      exact ⟨v', h5, h6.step st⟩
    · have hq1 : (if h.length = h.length then some p else ρ h.length) = some q := hq
      rw [if_pos rfl] at hq1
      cases hq1
      obtain ⟨v', h5, h6⟩ := hc k v hk
      exact ⟨v', h5, h6.step st⟩
  · rw [aro r x hx] at hro; cases hro
  · have hq1 : (if r = h.length then some p else ρ r) = some q := hq
    by_cases hr : r = h.length
    · simp; omega
    · rw [if_neg hr] at hq1
      have := R.dom r q hq1
      simp; omega
/-- What a model's slice shows. -/
def Shows (ρ : Mp) (h : Hp) (w : World) (sz : Nat) (els : List (List Value)) (v' : Value) : Prop :=
  (v' = .slice none 0 0 ∧ els = []) ∨ ∃ (a : Addr) (cap : Nat), v' = .slice (some a) els.length cap ∧ els.length ≤ cap ∧ (cap = 0 ∨ a.spot = none) ∧
    ∀ (k : Nat) c, els.flatten[k]? = some c → ∃ c', w.cell? (a.add k) = some c' ∧ VR ρ h c c'
theorem add_at {a : Addr} (hs : a.spot = none) (k : Nat) : a.add k = ⟨a.block, a.off + k, none⟩ := by
  unfold Addr.add
  split
  · rename_i h0; subst h0; cases a; simp at hs; simp [hs]
  · rfl
theorem add_slice {sz : Nat} {els : List (List Value)} {v' : Value} (hl : ∀ e ∈ els, e.length = sz) (R : Rel ρ h w) (ha : AllRo h) (s : Shows ρ h w sz els v') :
    ∃ h2 ρ2 v, h <+: h2 ∧ Rel ρ2 h2 w ∧ AllRo h2 ∧ Step ρ h ρ2 h2 ∧ VR ρ2 h2 v v' ∧ Sees h2 v sz els := by
  rcases s with ⟨rfl, rfl⟩ | ⟨a, cap, rfl, hcap, hsp, hc⟩
  · exact ⟨h, ρ, .slice none 0 0, List.prefix_rfl, R, ha, Step.refl _ _, .nilSlice, by simp, none, 0, rfl, .inl ⟨rfl, rfl, rfl⟩⟩
  · have hcells : ∀ (k : Nat) c, els.flatten[k]? = some c → ∃ c', w.cell? ⟨a.block, a.off + k, none⟩ = some c' ∧ VR ρ h c c' := by
      intro k c hk
      rcases hsp with h0 | hs
      · have : els = [] := List.eq_nil_of_length_eq_zero (by omega)
        rw [this] at hk; simp at hk
      · rw [← add_at hs]; exact hc k c hk
    obtain ⟨ρ2, R2, ha2, st, hρ⟩ := add_row R ha els.flatten sz ⟨a.block, a.off, 0⟩ hcells
    have hrow : (h ++ [some ⟨els.flatten, sz, true⟩])[h.length]? = some (some ⟨els.flatten, sz, true⟩) := by simp
    refine ⟨_, ρ2, .slice (some ⟨h.length, 0, some els.flatten.length⟩) els.length els.length, List.prefix_append .., R2, ha2, st, ?_, hl, _, _, rfl, .inr ⟨h.length, 0, ⟨els.flatten, sz, true⟩, rfl, hrow, rfl, by rw [flat_len hl]; omega, by rw [List.drop_zero, List.take_of_length_le (by rw [flat_len hl]; exact Nat.le_refl _)], Nat.le_refl _⟩⟩
    rcases hsp with h0 | hs
    · have h1 : els.length = 0 := by omega
      rw [h0]
      have := VR.slZero (ρ := ρ2) h.length 0 ⟨els.flatten, sz, true⟩ ⟨a.block, a.off, 0⟩ a hrow hρ
      rw [h1]
      exact this
    · have := VR.sl (ρ := ρ2) h.length 0 ⟨els.flatten, sz, true⟩ ⟨a.block, a.off, 0⟩ els.length els.length cap hrow hρ (Nat.le_refl _) hcap (by simp)
      have e : (⟨a.block, a.off + 0, none⟩ : Addr) = a := by cases a; simp at hs; simp [hs]
      rw [e] at this
      exact this
end Go.Pm

/- Arguments of the row, opened as rows. -/
set_option linter.unusedVariables false
set_option linter.unusedSimpArgs false
namespace Go.Pm
open Go.ChangeShapes Go.WideShapes
variable {P : Program} {H : Type} {enc : TypeId × Value → H} {w : World} {base : Nat} {held : Bool}
end Go.Pm

/- Arguments that are slices of slices. -/
set_option linter.unusedVariables false
set_option linter.unusedSimpArgs false
namespace Go.Pm
open Go.ChangeShapes Go.WideShapes
section
variable {P : Program} {H : Type} {encH : TypeId × Value → H} {w : World} {base : Nat} {held : Bool}
end
section
variable {w : World} {α : Type} {enc : α → List Value} {sz : Nat}
end
end Go.Pm
