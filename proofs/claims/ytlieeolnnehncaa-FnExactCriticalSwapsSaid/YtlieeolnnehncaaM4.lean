/- The texts PxC, PmS, PmT, PmU, PxD of this work: What the laws' own functions need: sizes, marks, lists of lists of one's own. -/
import Derived.Below
import Derived.Deep.Slices
import Derived.ProofKit
import Derived.Test.YtlieeolnnehncaaM3
/- What the laws' own functions need: sizes, marks, lists of lists of one's own. -/
set_option linter.unusedVariables false
set_option linter.unusedSimpArgs false
namespace Go.Pm
/-! ### sizes -/
def szL (left : Int) (n : Nat) : Int := if left - n < 0 then -1 else left - n
def szGo {α : Type} (left : Int) : List (List α) → Int
  | [] => left
  | x :: r => if left - x.length < 0 then -1 else szGo (left - x.length) r
def szN {α : Type} (left : Int) (xss : List (List α)) : Int := if left - xss.length < 0 then -1 else szGo (left - xss.length) xss
theorem szL_ok {left : Int} {n : Nat} (h : ¬ szL left n < 0) : (n : Int) ≤ left ∧ szL left n = left - n := by
  unfold szL at h ⊢
  split at h
  · omega
  · rename_i h1; rw [if_neg h1]; omega
def tot {α : Type} : List (List α) → Nat
  | [] => 0
  | x :: xs => x.length + tot xs
theorem szGo_ok {α : Type} : ∀ {xss : List (List α)} {left : Int}, 0 ≤ left → ¬ szGo left xss < 0 → (tot xss : Int) ≤ left ∧ szGo left xss = left - tot xss
  | [], left, h0, h => by simp [szGo, tot]; omega
  | x :: r, left, h0, h => by
    rw [szGo] at h ⊢
    split at h
    · omega
    · rename_i h1
      obtain ⟨h2, h3⟩ := szGo_ok (by omega) h
      rw [if_neg h1, h3, tot]
      omega
theorem szN_ok {α : Type} {xss : List (List α)} {left : Int} (h : ¬ szN left xss < 0) : (xss.length : Int) + tot xss ≤ left ∧ szN left xss = left - xss.length - tot xss := by
  unfold szN at h ⊢
  split at h
  · omega
  · rename_i h1
    obtain ⟨h2, h3⟩ := szGo_ok (by omega) h
    rw [if_neg h1, h3]
    omega
theorem szGo_le {α : Type} : ∀ {xss : List (List α)} {left : Int}, szGo left xss ≤ left ∨ left < 0
  | [], left => .inl (Int.le_refl _)
  | x :: r, left => by
    rw [szGo]
    split
    · omega
    · rcases @szGo_le α r (left - x.length) with h | h <;> omega
/-! ### marks -/
def marksT {α : Type} (mk : Int → α) (n : Nat) : Int → Nat → List α
  | _, 0 => []
  | k, m + 1 => mk k :: marksT mk n (k + n) m
theorem marksT_len {α : Type} {mk : Int → α} {n : Nat} : ∀ {m : Nat} {k : Int}, (marksT mk n k m).length = m
  | 0, k => rfl
  | m + 1, k => by rw [marksT, List.length_cons, marksT_len]
theorem marksT_snoc {α : Type} {mk : Int → α} {n : Nat} : ∀ {m : Nat} {k : Int}, marksT mk n k (m + 1) = marksT mk n k m ++ [mk (k + n * m)]
  | 0, k => by simp [marksT]
  | m + 1, k => by
    rw [marksT, marksT_snoc, marksT]
    simp only [List.cons_append]
    congr 4
    rw [Int.add_assoc]
    congr 1
    rw [show ((m + 1 : Nat) : Int) = 1 + m by omega, Int.mul_add, Int.mul_one]
theorem marksT_get {α : Type} {mk : Int → α} {n : Nat} : ∀ {m i : Nat} {k : Int}, i < m → (marksT mk n k m)[i]? = some (mk (k + n * i))
  | m + 1, 0, k, _ => by simp [marksT]
  | m + 1, i + 1, k, h => by
    rw [marksT, List.getElem?_cons_succ, marksT_get (by omega)]
    congr 2
    rw [Int.add_assoc]
    congr 1
    rw [show ((i + 1 : Nat) : Int) = 1 + i by omega, Int.mul_add, Int.mul_one]
theorem marks_next {α : Type} {mk : Int → α} {n : Nat} {xs : List α} {k : Int} {j : Nat} {y z : α} (h : xs[j]? = some y) (hz : mk (k + n * j) = z) : (marksT mk n k j ++ xs.drop j).set j z = marksT mk n k (j + 1) ++ xs.drop (j + 1) := by
  have hl : (marksT mk n k j).length = j := marksT_len
  obtain ⟨y', _, hd⟩ := drop_at (List.getElem?_eq_some_iff.1 h).1
  have hse := List.set_append_right (s := marksT mk n k j) (t := xs.drop j) (i := j) (x := z) (by omega)
  rw [hse, hl, Nat.sub_self, hd, List.set_cons_zero, marksT_snoc, hz, List.append_assoc]
  rfl
/-- Marks in lists of lists. -/
def marksN {α : Type} (mk : Int → α) (n : Nat) : Int → List (List α) → List (List α)
  | _, [] => []
  | k, x :: r => marksT mk n k x.length :: marksN mk n (k + n * x.length) r
theorem marksN_len {α : Type} {mk : Int → α} {n : Nat} : ∀ {xss : List (List α)} {k : Int}, (marksN mk n k xss).length = xss.length
  | [], k => rfl
  | x :: r, k => by rw [marksN, List.length_cons, marksN_len, List.length_cons]
theorem marksN_get {α : Type} {mk : Int → α} {n : Nat} : ∀ {xss : List (List α)} {i : Nat} {k : Int} {x : List α}, xss[i]? = some x → (marksN mk n k xss)[i]? = some (marksT mk n (k + n * tot (xss.take i)) x.length)
  | y :: r, 0, k, x, h => by
    simp at h; subst h
    simp [marksN, tot]
  | y :: r, i + 1, k, x, h => by
    rw [marksN, List.getElem?_cons_succ, marksN_get (by simpa using h), List.take_succ_cons, tot]
    congr 2
    rw [Int.add_assoc]
    congr 1
    rw [Int.natCast_add, Int.mul_add]
theorem marksN_tot {α : Type} {mk : Int → α} {n : Nat} : ∀ {xss : List (List α)} {k : Int}, tot (marksN mk n k xss) = tot xss
  | [], k => rfl
  | x :: r, k => by rw [marksN, tot, tot, marksT_len, marksN_tot]
theorem tot_take_succ {α : Type} {xss : List (List α)} {i : Nat} {x : List α} (h : xss[i]? = some x) : tot (xss.take (i + 1)) = tot (xss.take i) + x.length := by
  induction xss generalizing i with
  | nil => cases h
  | cons y r ih =>
    cases i with
    | zero => simp at h; subst h; simp [tot]
    | succ i => rw [List.take_succ_cons, List.take_succ_cons, tot, tot, ih (by simpa using h)]; omega
theorem tot_take_le {α : Type} {xss : List (List α)} {i : Nat} : tot (xss.take i) ≤ tot xss := by
  induction xss generalizing i with
  | nil => simp
  | cons y r ih =>
    cases i with
    | zero => simp [tot]
    | succ i => rw [List.take_succ_cons, tot, tot]; have := @ih i; omega
theorem tot_mem {α : Type} {xss : List (List α)} {x : List α} (h : x ∈ xss) : x.length ≤ tot xss := by
  induction xss with
  | nil => cases h
  | cons y r ih =>
    rw [tot]
    rcases List.mem_cons.1 h with rfl | h
    · omega
    · have := ih h; omega
/-- A row that is written in place, and is there as it was: then it says what it says now. -/
theorem gc_cases' (h h' : Hp) (v : Value) : gc h h' v = h' ∨ (h <+: h' ∧ gc h h' v = h) := by
  unfold gc
  split
  · rename_i hp; exact .inr ⟨hp.2, rfl⟩
  · exact .inl rfl
theorem Asn.ok.back {b : Nat} {h h' : Hp} {A : Asn} (o : A.ok b h') (hp : h <+: h') (hr : ∀ r, A.row = some r → r < h.length) : A.ok b h := by
  obtain ⟨t, rfl⟩ := hp
  cases A with
  | own v sz els =>
    refine ⟨o.1, ?_⟩
    rcases o.2 with h2 | ⟨r, rest, k, hb, hrest, rfl, hh⟩
    · exact .inl h2
    · exact .inr ⟨r, rest, k, hb, hrest, rfl, by rw [List.getElem?_append_left (hr r rfl)] at hh; exact hh⟩
  | box r cs => exact ⟨o.1, by have := o.2; rw [List.getElem?_append_left (hr r rfl)] at this; exact this⟩
/-- At the end of a function that writes what one has. -/
theorem Holds.gcR {h0 h h' : Hp} {L L' : List Asn} {u : Value} (H : Holds h0 h L) (H' : Holds h0 h' L') (hr : L'.map Asn.row = L.map Asn.row) : Holds h0 (gc h h' u) L' := by
  rcases gc_cases' h h' u with g | ⟨hp, g⟩
  · rw [g]; exact H'
  · rw [g]
    refine ⟨H.pre, fun i A hA => (H'.ok i A hA).back hp fun r hrr => ?_, H'.dist⟩
    have h1 := congrArg (·[i]?) hr
    simp only [List.getElem?_map, hA, Option.map_some] at h1
    cases hB : L[i]? with
    | none => rw [hB] at h1; cases h1
    | some B =>
      rw [hB] at h1
      simp only [Option.map_some, Option.some.injEq] at h1
      exact (H.ok i B hB).lt (by rw [← h1]; exact hrr)
theorem set_row {L : List Asn} {i : Nat} {A B : Asn} (h : L[i]? = some A) (hr : B.row = A.row) : (L.set i B).map Asn.row = L.map Asn.row := by
  apply List.ext_getElem?
  intro j
  rw [List.getElem?_map, List.getElem?_map, List.getElem?_set]
  split
  · rename_i e
    subst e
    rw [if_pos (List.getElem?_eq_some_iff.1 h).1, h, Option.map_some, Option.map_some, hr]
  · rfl
/-! ### lists of lists of one's own -/
section
variable {α : Type} {enc : α → List Value} {sz : Nat}
def inL (enc : α → List Value) (sz : Nat) : List Value → List (List α) → List Asn
  | u :: us, x :: xs => .own u sz (x.map enc) :: inL enc sz us xs
  | _, _ => []
theorem inL_len : ∀ {us : List Value} {xs : List (List α)}, us.length = xs.length → (inL enc sz us xs).length = us.length
  | [], [], _ => rfl
  | u :: us, x :: xs, h => by rw [inL, List.length_cons, inL_len (by simpa using h), List.length_cons]
  | [], x :: xs, h => by simp at h
  | u :: us, [], h => by simp at h
theorem inL_get : ∀ {us : List Value} {xs : List (List α)} {i : Nat} {u : Value} {x : List α}, us[i]? = some u → xs[i]? = some x → (inL enc sz us xs)[i]? = some (.own u sz (x.map enc))
  | u :: us, x :: xs, 0, _, _, h1, h2 => by simp at h1 h2; subst h1; subst h2; rfl
  | u :: us, x :: xs, i + 1, _, _, h1, h2 => by rw [inL, List.getElem?_cons_succ]; exact inL_get (by simpa using h1) (by simpa using h2)
  | [], _, _, _, _, h1, _ => by cases h1
  | u :: us, [], _, _, _, _, h2 => by cases h2
theorem inL_snoc : ∀ {us : List Value} {xs : List (List α)} {u : Value} {x : List α}, us.length = xs.length → inL enc sz (us ++ [u]) (xs ++ [x]) = inL enc sz us xs ++ [.own u sz (x.map enc)]
  | [], [], _, _, _ => rfl
  | v :: us, y :: xs, u, x, h => by rw [List.cons_append, List.cons_append, inL, inL, List.cons_append, inL_snoc (by simpa using h)]
  | [], x :: xs, _, _, h => by simp at h
  | u :: us, [], _, _, h => by simp at h
theorem inL_set : ∀ {us : List Value} {xs : List (List α)} {i : Nat} {u : Value} {x : List α}, us[i]? = some u → us.length = xs.length → (inL enc sz us xs).set i (.own u sz (x.map enc)) = inL enc sz us (xs.set i x)
  | u :: us, y :: xs, 0, _, _, h1, h2 => by simp at h1; subst h1; rfl
  | u :: us, y :: xs, i + 1, _, _, h1, h2 => by rw [inL, List.set_cons_succ, List.set_cons_succ, inL, inL_set (by simpa using h1) (by simpa using h2)]
  | [], _, _, _, _, h1, _ => by cases h1
  | u :: us, [], _, _, _, _, h2 => by simp at h2
theorem inL_row : ∀ {us : List Value} {xs ys : List (List α)}, us.length = xs.length → us.length = ys.length → (inL enc sz us xs).map Asn.row = (inL enc sz us ys).map Asn.row
  | [], [], [], _, _ => rfl
  | u :: us, x :: xs, y :: ys, h, g => by rw [inL, inL, List.map_cons, List.map_cons, inL_row (by simpa using h) (by simpa using g)]; rfl
  | [], x :: xs, _, h, _ => by simp at h
  | u :: us, [], _, h, _ => by simp at h
  | [], [], y :: ys, _, h => by simp at h
  | u :: us, x :: xs, [], _, h => by simp at h
/-- What is of one's own in lists of lists is seen. -/
theorem Holds.nest {h0 h : Hp} {L1 L2 : List Asn} {o : Nat} {v : Value} {us : List Value} {xss : List (List α)} (H : Holds h0 h (L1 ++ (inL enc sz us xss ++ L2))) (ho : L1[o]? = some (.own v 1 (us.map fun u => [u]))) (hl : us.length = xss.length) : Nest h v enc sz xss us := by
  refine ⟨H.sees o (by rw [List.getElem?_append_left (List.getElem?_eq_some_iff.1 ho).1]; exact ho), hl, fun i u xs h1 h2 => ?_⟩
  refine H.sees (L1.length + i) ?_
  rw [List.getElem?_append_right (by omega), Nat.add_sub_cancel_left, List.getElem?_append_left (by rw [inL_len hl]; exact (List.getElem?_eq_some_iff.1 h1).1)]
  exact inL_get h1 h2
end
theorem szGo_neg {α : Type} : ∀ {xss : List (List α)} {left : Int}, 0 ≤ left → szGo left xss < 0 → szGo left xss = -1
  | [], left, h0, h => by rw [szGo] at h; omega
  | x :: r, left, h0, h => by
    rw [szGo] at h ⊢
    split
    · rfl
    · rename_i h1; rw [if_neg h1] at h; exact szGo_neg (by omega) h
theorem szN_neg {α : Type} {xss : List (List α)} {left : Int} (h0 : 0 ≤ left) (h : szN left xss < 0) : szN left xss = -1 := by
  unfold szN at h ⊢
  split
  · rfl
  · rename_i h1; rw [if_neg h1] at h; exact szGo_neg (by omega) h
/-! ### the order in which one's own is told -/
def Apart (A B : Asn) : Prop := ∀ r, A.row = some r → B.row ≠ some r
theorem Apart.symm {A B : Asn} (h : Apart A B) : Apart B A := fun r h1 h2 => h r h2 h1
theorem Holds.perm {h0 h : Hp} {L M : List Asn} (H : Holds h0 h L) (p : L.Perm M) : Holds h0 h M := by
  have h1 : L.Pairwise Apart := List.pairwise_iff_getElem.2 fun i j hi hj hij => fun r g1 g2 => H.dist i j _ _ (List.getElem?_eq_getElem hi) (List.getElem?_eq_getElem hj) (by omega) r g1 g2
  have h2 : M.Pairwise Apart := (p.pairwise_iff (fun h => h.symm)).1 h1
  refine ⟨H.pre, fun i A hA => ?_, fun i j A B hA hB hne r g1 g2 => ?_⟩
  · obtain ⟨k, hk⟩ := List.getElem?_of_mem (p.mem_iff.2 (List.mem_of_getElem? hA))
    exact H.ok k A hk
  · obtain ⟨hi, rfl⟩ := List.getElem?_eq_some_iff.1 hA
    obtain ⟨hj, rfl⟩ := List.getElem?_eq_some_iff.1 hB
    rcases Nat.lt_or_ge i j with g | g
    · exact List.pairwise_iff_getElem.1 h2 i j hi hj g r g1 g2
    · exact List.pairwise_iff_getElem.1 h2 j i hj hi (by omega) r g2 g1
/-- What is new is told in two parts. -/
theorem Holds.joinT {h0 h h' : Hp} {L T A M : List Asn} (H : Holds h0 h (L ++ T)) (C : Holds h h' (A ++ M)) : Holds h0 h' ((L ++ A) ++ (M ++ T)) := by
  refine (H.join C).perm ?_
  rw [List.append_assoc, List.append_assoc]
  refine List.Perm.append_left L ?_
  have h1 : (T ++ (A ++ M)).Perm ((A ++ M) ++ T) := List.perm_append_comm
  rw [List.append_assoc] at h1
  exact h1
theorem Holds.callT {h0 h h' : Hp} {L T : List Asn} {v : Value} {sz : Nat} {els : List (List Value)} (H : Holds h0 h (L ++ T)) (hp : h <+: h') (o : Own h.length h' v sz els) : Holds h0 h' ((L ++ [.own v sz els]) ++ T) :=
  H.joinT (A := [.own v sz els]) (M := []) ((Holds.start (h := h)).call hp o)
theorem Holds.allocT {h0 h : Hp} {L T : List Asn} (H : Holds h0 h (L ++ T)) (cs : List Value) : Holds h0 (h ++ [some ⟨cs, 0, false⟩]) ((L ++ [.box h.length cs]) ++ T) :=
  H.joinT (A := [.box h.length cs]) (M := []) ((Holds.start (h := h)).alloc cs)
theorem Holds.swap {h0 h : Hp} {L A B C : List Asn} (H : Holds h0 h (L ++ (A ++ (B ++ C)))) : Holds h0 h (L ++ (B ++ (A ++ C))) := by
  refine H.perm (List.Perm.append_left L ?_)
  rw [← List.append_assoc, ← List.append_assoc]
  exact List.Perm.append_right C List.perm_append_comm
theorem Holds.weak {h0 h : Hp} {L T : List Asn} (H : Holds h0 h (L ++ T)) : Holds h0 h L := by
  have := H.take L.length
  rwa [List.take_left'] at this
  rfl
theorem Holds.tail {h0 h : Hp} {L : List Asn} {A : Asn} (H : Holds h0 h (A :: L)) : Holds h0 h L := H.sub (· + 1) (fun i B hB => by simpa using hB) fun i j B C _ _ g => by simpa using g
theorem Holds.open {h0 h : Hp} {L : List Asn} (H : Holds h0 h L) : Holds h0 h (L ++ []) := by rw [List.append_nil]; exact H
end Go.Pm

/- From the small machine to the model's calls: the top. -/
set_option linter.unusedVariables false
set_option linter.unusedSimpArgs false
namespace Go.Pm
open Go.RowKit
variable {P : Program} {G : FuncId → GI} {ρ : Mp} {h : Hp} {w : World}
theorem RunsC.calls (hm : P.follows .mixedOrders = true) {g : FuncId} {args args' : List Value} {K : Value → Hp → Prop} (r : RunsC P G g args h K) (R : Rel ρ h w) (hl : VL ρ h args args') :
    Calls P g args'.toArray w fun e w' => ∃ v v' h' ρ', e = .returned v' ∧ K v h' ∧ VR ρ' h' v v' ∧ Rel ρ' h' w' ∧ Go1 ρ h w ρ' h' w' := by
  obtain ⟨f, v, h', e, k⟩ := r
  refine ((sound P G hm f).call g args h v h' e ρ args' w R hl).mono fun e' w' hh => ?_
  obtain ⟨v', ρ', rfl, hv, R', Gx⟩ := hh
  exact ⟨v, v', h', ρ', rfl, k, hv, R', Gx⟩
theorem Go1.below {ρ' : Mp} {h' : Hp} {w' : World} (Gx : Go1 ρ h w ρ' h' w') (hro : ∀ (r : Nat) (x : Row), h[r]? = some (some x) → x.ro = true) : Below w.heap.size w w' :=
  ⟨Gx.os, Gx.tape, Gx.output, Gx.size, fun k hk => Gx.blk k hk fun r x p hx _ hr => by rw [hro r x hx] at hr; cases hr⟩
/-- A call that returns true, with arguments that are only read. -/
theorem Ret.true_calls (hm : P.follows .mixedOrders = true) {g : FuncId} {args args' : List Value} {h1 : Hp} (r : Ret P G g args h (.bool true) h1) (R : Rel ρ h w) (hl : VL ρ h args args') (hro : ∀ (r : Nat) (x : Row), h[r]? = some (some x) → x.ro = true) :
    Calls P g args'.toArray w fun e w' => e = .returned (.bool true) ∧ Below w.heap.size w w' := by
  refine (RunsC.calls hm r R hl).mono fun e w' hh => ?_
  obtain ⟨v, v', h', ρ', rfl, ⟨rfl, rfl⟩, hv, R', Gx⟩ := hh
  cases hv
  exact ⟨rfl, Gx.below hro⟩
end Go.Pm

/- Arguments as rows that are only read. -/
set_option linter.unusedVariables false
set_option linter.unusedSimpArgs false
namespace Go.Pm
variable {ρ : Mp} {h : Hp} {w : World}
def AllRo (h : Hp) : Prop := ∀ (r : Nat) (x : Row), h[r]? = some (some x) → x.ro = true
theorem Rel.nil {w : World} : Rel (fun _ => none) [] w := ⟨fun r x p h => by simp at h, fun r x p h => by simp at h, fun r r' x x' p p' h => by simp at h, fun r p h => by cases h⟩
theorem AllRo.nil : AllRo [] := fun r x h => by simp at h
/-- One row more that is only read. -/
theorem add_row (R : Rel ρ h w) (ha : AllRo h) (cells : List Value) (sz : Nat) (p : Place) (hc : ∀ (k : Nat) c, cells[k]? = some c → ∃ c', w.cell? ⟨p.b, p.d + k, none⟩ = some c' ∧ VR ρ h c c') :
    ∃ ρ2, Rel ρ2 (h ++ [some ⟨cells, sz, true⟩]) w ∧ AllRo (h ++ [some ⟨cells, sz, true⟩]) ∧ Step ρ h ρ2 (h ++ [some ⟨cells, sz, true⟩]) ∧ ρ2 h.length = some p := by
  have old : ∀ {r : Nat} {x : Row}, (h ++ [some ⟨cells, sz, true⟩])[r]? = some (some x) → (r < h.length ∧ h[r]? = some (some x)) ∨ (r = h.length ∧ x = ⟨cells, sz, true⟩) := by
    intro r x hx
    rcases Nat.lt_or_ge r h.length with hr | hr
    · rw [List.getElem?_append_left hr] at hx; exact .inl ⟨hr, hx⟩
    · rw [List.getElem?_append_right hr] at hx
      have : r - h.length = 0 := by
        have := (List.getElem?_eq_some_iff.1 hx).1
        simp at this; omega
      rw [this] at hx
      simp at hx
      exact .inr ⟨by omega, hx.symm⟩
  have st : Step ρ h (fun r => if r = h.length then some p else ρ r) (h ++ [some ⟨cells, sz, true⟩]) := by
    refine ⟨fun r x q hx hq => ?_, fun a ⟨L, h1, h2, h3⟩ => ⟨L, h1, by simp; omega, fun x hx => ?_⟩⟩
    · have hr := (List.getElem?_eq_some_iff.1 hx).1
      exact .inl ⟨x, by rw [List.getElem?_append_left hr]; exact hx, rfl, rfl, rfl, by rw [if_neg (by omega)]; exact hq⟩
    · rcases old hx with ⟨_, h4⟩ | ⟨h4, _⟩
      · exact h3 x h4
      · omega
  have aro : AllRo (h ++ [some ⟨cells, sz, true⟩]) := fun r x hx => by
    rcases old hx with ⟨_, h4⟩ | ⟨_, rfl⟩
    · exact ha r x h4
    · rfl
  refine ⟨_, ⟨fun r x q hx hq hro => ?_, fun r x q hx hq hro k v hk => ?_, fun r r' x x' q q' hx hx' hq hq' hro => ?_, fun r q hq => ?_⟩, aro, st, if_pos rfl⟩
  · rw [aro r x hx] at hro; cases hro
  · rcases old hx with ⟨hr, h4⟩ | ⟨rfl, rfl⟩
    · have hq2 : ρ r = some q := by
        have hq1 : (if r = h.length then some p else ρ r) = some q := hq
        rwa [if_neg (by omega)] at hq1
      obtain ⟨v', h5, h6⟩ := R.ro r x q h4 hq2 hro k v hk
      exact ⟨v', h5, h6.step st⟩
    · have hq1 : (if h.length = h.length then some p else ρ h.length) = some q := hq
      rw [if_pos rfl] at hq1
      cases hq1
      obtain ⟨v', h5, h6⟩ := hc k v hk
      exact ⟨v', h5, h6.step st⟩
  · rw [aro r x hx] at hro; cases hro
  · have hq1 : (if r = h.length then some p else ρ r) = some q := hq
    by_cases hr : r = h.length
    · simp; omega
    · rw [if_neg hr] at hq1
      have := R.dom r q hq1
      simp; omega
/-- What a model's slice shows. -/
def Shows (ρ : Mp) (h : Hp) (w : World) (sz : Nat) (els : List (List Value)) (v' : Value) : Prop :=
  (v' = .slice none 0 0 ∧ els = []) ∨ ∃ (a : Addr) (cap : Nat), v' = .slice (some a) els.length cap ∧ els.length ≤ cap ∧ (cap = 0 ∨ a.spot = none) ∧
    ∀ (k : Nat) c, els.flatten[k]? = some c → ∃ c', w.cell? (a.add k) = some c' ∧ VR ρ h c c'
theorem add_at {a : Addr} (hs : a.spot = none) (k : Nat) : a.add k = ⟨a.block, a.off + k, none⟩ := by
  unfold Addr.add
  split
  · rename_i h0; subst h0; cases a; simp at hs; simp [hs]
  · rfl
theorem add_slice {sz : Nat} {els : List (List Value)} {v' : Value} (hl : ∀ e ∈ els, e.length = sz) (R : Rel ρ h w) (ha : AllRo h) (s : Shows ρ h w sz els v') :
    ∃ h2 ρ2 v, h <+: h2 ∧ Rel ρ2 h2 w ∧ AllRo h2 ∧ Step ρ h ρ2 h2 ∧ VR ρ2 h2 v v' ∧ Sees h2 v sz els := by
  rcases s with ⟨rfl, rfl⟩ | ⟨a, cap, rfl, hcap, hsp, hc⟩
  · exact ⟨h, ρ, .slice none 0 0, List.prefix_rfl, R, ha, Step.refl _ _, .nilSlice, by simp, none, 0, rfl, .inl ⟨rfl, rfl, rfl⟩⟩
  · have hcells : ∀ (k : Nat) c, els.flatten[k]? = some c → ∃ c', w.cell? ⟨a.block, a.off + k, none⟩ = some c' ∧ VR ρ h c c' := by
      intro k c hk
      rcases hsp with h0 | hs
      · have : els = [] := List.eq_nil_of_length_eq_zero (by omega)
        rw [this] at hk; simp at hk
      · rw [← add_at hs]; exact hc k c hk
    obtain ⟨ρ2, R2, ha2, st, hρ⟩ := add_row R ha els.flatten sz ⟨a.block, a.off, 0⟩ hcells
    have hrow : (h ++ [some ⟨els.flatten, sz, true⟩])[h.length]? = some (some ⟨els.flatten, sz, true⟩) := by simp
    refine ⟨_, ρ2, .slice (some ⟨h.length, 0, some els.flatten.length⟩) els.length els.length, List.prefix_append .., R2, ha2, st, ?_, hl, _, _, rfl, .inr ⟨h.length, 0, ⟨els.flatten, sz, true⟩, rfl, hrow, rfl, by rw [flat_len hl]; omega, by rw [List.drop_zero, List.take_of_length_le (by rw [flat_len hl]; exact Nat.le_refl _)], Nat.le_refl _⟩⟩
    rcases hsp with h0 | hs
    · have h1 : els.length = 0 := by omega
      rw [h0]
      have := VR.slZero (ρ := ρ2) h.length 0 ⟨els.flatten, sz, true⟩ ⟨a.block, a.off, 0⟩ a hrow hρ
      rw [h1]
      exact this
    · have := VR.sl (ρ := ρ2) h.length 0 ⟨els.flatten, sz, true⟩ ⟨a.block, a.off, 0⟩ els.length els.length cap hrow hρ (Nat.le_refl _) hcap (by simp)
      have e : (⟨a.block, a.off + 0, none⟩ : Addr) = a := by cases a; simp at hs; simp [hs]
      rw [e] at this
      exact this
end Go.Pm

/- Arguments of the row, opened as rows. -/
set_option linter.unusedVariables false
set_option linter.unusedSimpArgs false
namespace Go.Pm
open Go.ChangeShapes Go.WideShapes
variable {P : Program} {H : Type} {enc : TypeId × Value → H} {w : World} {base : Nat} {held : Bool}
theorem flat_encI (xs : List Int) : (xs.map encI).flatten = xs.map fun x => .int .i64 x := by
  induction xs with
  | nil => rfl
  | cons x xs ih => rw [List.map_cons, List.flatten_cons, ih]; rfl
/-- A slice of numbers. -/
theorem shows_ints {t e : TypeId} {fuel : Nat} {v : Value} {x : DataW H × List MemPlace} (ht : P.underlying t = some (.slice e)) (he : P.underlying e = some (.int .i64)) (hc : P.cellsOf e = 1)
    (hd : DataW.trod enc P w base (fun _ => true) held fuel t [v] = some x) : ∃ xs : List Int, xs.length ≤ maxLen ∧ ∀ (ρ : Mp) (h : Hp), Shows ρ h w 1 (xs.map encI) v := by
  rcases open_ints ht he hc hd with ⟨h1, _⟩ | ⟨a, len, cap, zs, h1, _, hl, hm, hz, _, hcell, _⟩
  · cases h1
    exact ⟨[], by simp, fun ρ h => .inl ⟨rfl, rfl⟩⟩
  · cases h1
    simp only [if_true] at hz
    have hlen : (zs.take len).length = len := by rw [List.length_take]; omega
    refine ⟨zs.take len, by omega, fun ρ h => .inr ⟨a, cap, by rw [List.length_map, hlen], by rw [List.length_map, hlen]; exact hl, ?_, fun k c hk => ?_⟩⟩
    · rcases Nat.eq_zero_or_pos cap with h0 | h0
      · exact .inl h0
      · right
        have := hcell 0 (by omega)
        unfold World.cell? at this
        simp only [Addr.add, if_true] at this
        cases hs : a.spot with
        | none => rfl
        | some s =>
          rw [hs] at this
          split at this <;> simp at this
    · rw [flat_encI, List.getElem?_map] at hk
      obtain ⟨z, hz2, rfl⟩ := Option.map_eq_some_iff.1 hk
      have hk1 := (List.getElem?_eq_some_iff.1 hz2).1
      rw [List.getElem?_take, if_pos (by omega)] at hz2
      refine ⟨_, hcell k (by omega), ?_⟩
      rw [List.getD_eq_getElem?_getD, hz2]
      exact .int _ _
/-- A struct of numbers alone. -/
theorem struct_ints {t : TypeId} {fs : Array Field} {n : Nat} {fuel : Nat} {cs : List Value} {x : DataW H × List MemPlace} (ht : P.underlying t = some (.struct fs)) (hn : P.cellsOf t = n)
    (hf : ∀ i, i < n → ∃ f, fs[i]? = some f ∧ f.offset = i ∧ P.underlying f.type = some (.int .i64) ∧ P.cellsOf f.type = 1)
    (hd : DataW.trod enc P w base (fun _ => true) held fuel t cs = some x) : ∃ ns : List Int, ns.length = n ∧ cs = ns.map fun z => .int .i64 z := by
  obtain ⟨ys, m, _, _, hl, hy, hall⟩ := DataW.trod_struct ht hd
  have hsz : fs.size ≥ n := by
    rcases Nat.eq_zero_or_pos n with h0 | h0
    · omega
    · obtain ⟨f, h1, _⟩ := hf (n - 1) (by omega)
      have := (Array.getElem?_eq_some_iff.1 h1).1
      omega
  obtain ⟨g, hg⟩ := Go.Deep.choose_lt (α := Int) (n := n) (p := fun i z => cs[i]? = some (.int .i64 z)) (fun i hi => by
    obtain ⟨f, h1, h2, h3, h4⟩ := hf i hi
    have h5 := hall i f h1
    rw [h2, h4, List.getElem?_eq_getElem (show i < ys.length by omega)] at h5
    obtain ⟨z, h6, _⟩ := DataW.trod_int h3 h5
    have hi2 : i < cs.length := by omega
    refine ⟨z, ?_⟩
    have h7 : (cs.drop i).take 1 = [cs[i]] := by
      rw [List.drop_eq_getElem_cons hi2]; rfl
    rw [h7] at h6
    rw [List.getElem?_eq_getElem hi2]
    simpa using h6)
  refine ⟨(List.range n).map g, by simp, ?_⟩
  apply List.ext_getElem?
  intro i
  rcases Nat.lt_or_ge i n with hi | hi
  · rw [hg i hi]; simp [hi]
  · rw [List.getElem?_eq_none (by omega), List.getElem?_eq_none (by simp; omega)]
theorem spot_none {a : Addr} {v : Value} (h : w.cell? a = some v) : a.spot = none := by
  unfold World.cell? at h
  cases hs : a.spot with
  | none => rfl
  | some s =>
    rw [hs] at h
    split at h <;> simp at h
/-- A slice of structs of numbers alone. -/
theorem shows_recs {t e : TypeId} {fs : Array Field} {n : Nat} {fuel : Nat} {v : Value} {x : DataW H × List MemPlace} (ht : P.underlying t = some (.slice e)) (he : P.underlying e = some (.struct fs)) (hn : P.cellsOf e = n) (hpos : 0 < n)
    (hf : ∀ i, i < n → ∃ f, fs[i]? = some f ∧ f.offset = i ∧ P.underlying f.type = some (.int .i64) ∧ P.cellsOf f.type = 1)
    (hd : DataW.trod enc P w base (fun _ => true) held fuel t [v] = some x) :
    ∃ nss : List (List Int), nss.length ≤ maxLen ∧ (∀ ns ∈ nss, ns.length = n) ∧ ∀ (ρ : Mp) (h : Hp), Shows ρ h w n (nss.map fun ns => ns.map fun z => .int .i64 z) v := by
  rcases Go.Deep.open_slice ht hd with ⟨h1, _⟩ | ⟨a, len, cap, m, fu, D, Pl, h1, _, hl, hm, hmm, _, hx⟩
  · cases h1
    exact ⟨[], by simp, by simp, fun ρ h => .inl ⟨rfl, rfl⟩⟩
  · cases h1
    simp only [if_true] at hmm
    subst hmm
    rw [hn] at hx
    obtain ⟨g, hg⟩ := Go.Deep.choose_lt (α := List Int) (n := m) (p := fun i ns => ns.length = n ∧ ∀ j, j < n → w.cell? (a.add (i * n + j)) = (ns[j]?).map fun z => .int .i64 z) (fun i hi => by
      obtain ⟨cs', h2, h3⟩ := hx i hi
      obtain ⟨ns, h4, h5⟩ := struct_ints he hn hf h3
      obtain ⟨_, _, h6⟩ := World.cells?_some h2
      refine ⟨ns, h4, fun j hj => ?_⟩
      have := h6 j hj
      rw [Go.Deep.add_add] at this
      rw [this, h5, List.getElem?_map])
    have hlen : ∀ ns ∈ (List.range len).map g, ns.length = n := by
      intro ns hns
      obtain ⟨i, hi, rfl⟩ := List.mem_map.1 hns
      exact (hg i (by have := List.mem_range.1 hi; omega)).1
    refine ⟨(List.range len).map g, by simp; omega, hlen, fun ρ h => .inr ⟨a, m, by simp, by simpa using hl, ?_, fun k c hk => ?_⟩⟩
    · rcases Nat.eq_zero_or_pos m with h0 | h0
      · exact .inl h0
      · right
        obtain ⟨h2, h3⟩ := hg 0 h0
        have := h3 0 hpos
        rw [List.getElem?_eq_getElem (by omega)] at this
        have h4 := spot_none this
        simpa [Addr.add] using h4
    · have hE : ∀ e ∈ ((List.range len).map g).map (fun ns => ns.map fun z => Value.int .i64 z), e.length = n := by
        intro e he
        obtain ⟨ns, hns, rfl⟩ := List.mem_map.1 he
        simpa using hlen ns hns
      have hk1 := (List.getElem?_eq_some_iff.1 hk).1
      rw [flat_len hE] at hk1
      simp only [List.length_map, List.length_range] at hk1
      have hi : k / n < len := (Nat.div_lt_iff_lt_mul hpos).2 hk1
      have hj : k % n < n := Nat.mod_lt _ hpos
      have hkk : k / n * n + k % n = k := by rw [Nat.mul_comm]; exact Nat.div_add_mod k n
      obtain ⟨h2, h3⟩ := hg (k / n) (by omega)
      have h4 := flat_get hE (i := k / n) (k := k % n) (e := (g (k / n)).map fun z => .int .i64 z) (by simp [hi]) hj
      rw [hkk, hk, List.getElem?_map] at h4
      have h5 := h3 (k % n) hj
      rw [hkk, ← h4] at h5
      obtain ⟨z, _, hz⟩ := Option.map_eq_some_iff.1 h4.symm
      exact ⟨c, h5, by rw [← hz]; exact .int _ _⟩
/-- Many slices of numbers, one row each. -/
theorem add_many : ∀ (L : List (Value × List Int)), (∀ y ∈ L, ∀ (ρ : Mp) (h : Hp), Shows ρ h w 1 (y.2.map encI) y.1) → ∀ (ρ : Mp) (h : Hp), Rel ρ h w → AllRo h →
    ∃ (h2 : Hp) (ρ2 : Mp) (vs : List Value), h <+: h2 ∧ Rel ρ2 h2 w ∧ AllRo h2 ∧ Step ρ h ρ2 h2 ∧ vs.length = L.length ∧
      ∀ (i : Nat) u y, vs[i]? = some u → L[i]? = some y → VR ρ2 h2 u y.1 ∧ Ints h2 u y.2
  | [], _, ρ, h, R, ha => ⟨h, ρ, [], List.prefix_rfl, R, ha, Step.refl _ _, rfl, fun i u y h1 => by simp at h1⟩
  | y :: L, hL, ρ, h, R, ha => by
    obtain ⟨h1, ρ1, u, p1, R1, a1, s1, v1, e1⟩ := add_slice (sz := 1) (els := y.2.map encI) (fun e he => by obtain ⟨z, _, rfl⟩ := List.mem_map.1 he; rfl) R ha (hL y (List.mem_cons_self ..) ρ h)
    obtain ⟨h2, ρ2, vs, p2, R2, a2, s2, hl, hv⟩ := add_many L (fun z hz => hL z (List.mem_cons_of_mem _ hz)) ρ1 h1 R1 a1
    refine ⟨h2, ρ2, u :: vs, p1.trans p2, R2, a2, s1.trans s2, by simp [hl], fun i u' y' g1 g2 => ?_⟩
    cases i with
    | zero =>
      simp at g1 g2
      subst g1; subst g2
      exact ⟨v1.step s2, Sees.pre e1 p2⟩
    | succ i => exact hv i u' y' (by simpa using g1) (by simpa using g2)
/-- A slice of pairs: a slice of numbers and a number. -/
theorem open_pairs {t e ei : TypeId} {fs : Array Field} {f0 f1 : Field} {fuel : Nat} {v : Value} {x : DataW H × List MemPlace} (ht : P.underlying t = some (.slice e)) (he : P.underlying e = some (.struct fs)) (hn : P.cellsOf e = 2)
    (g0 : fs[0]? = some f0) (o0 : f0.offset = 0) (u0 : P.underlying f0.type = some (.slice ei)) (c0 : P.cellsOf f0.type = 1) (ui : P.underlying ei = some (.int .i64)) (ci : P.cellsOf ei = 1)
    (g1 : fs[1]? = some f1) (o1 : f1.offset = 1) (u1 : P.underlying f1.type = some (.int .i64)) (c1 : P.cellsOf f1.type = 1)
    (hd : DataW.trod enc P w base (fun _ => true) held fuel t [v] = some x) :
    ∃ L : List (Value × List Int × Int), L.length ≤ maxLen ∧ (∀ y ∈ L, y.2.1.length ≤ maxLen ∧ ∀ (ρ : Mp) (h : Hp), Shows ρ h w 1 (y.2.1.map encI) y.1) ∧
      ((v = .slice none 0 0 ∧ L = []) ∨ ∃ (a : Addr) (cap : Nat), v = .slice (some a) L.length cap ∧ L.length ≤ cap ∧ (cap = 0 ∨ a.spot = none) ∧
        ∀ (i : Nat) y, L[i]? = some y → w.cell? (a.add (i * 2)) = some y.1 ∧ w.cell? (a.add (i * 2 + 1)) = some (.int .i64 y.2.2)) := by
  rcases Go.Deep.open_slice ht hd with ⟨h1, _⟩ | ⟨a, len, cap, m, fu, D, Pl, h1, _, hl, hm, hmm, _, hx⟩
  · cases h1
    exact ⟨[], by simp, by simp, .inl ⟨rfl, rfl⟩⟩
  · cases h1
    simp only [if_true] at hmm
    subst hmm
    rw [hn] at hx
    obtain ⟨g, hg⟩ := Go.Deep.choose_lt (α := Value × List Int × Int) (n := m) (p := fun i y => (y.2.1.length ≤ maxLen ∧ ∀ (ρ : Mp) (h : Hp), Shows ρ h w 1 (y.2.1.map encI) y.1) ∧ w.cell? (a.add (i * 2)) = some y.1 ∧ w.cell? (a.add (i * 2 + 1)) = some (.int .i64 y.2.2)) (fun i hi => by
      obtain ⟨cs', h2, h3⟩ := hx i hi
      obtain ⟨ys, q, _, _, hl2, hy, hall⟩ := DataW.trod_struct he h3
      have hcl : cs'.length = 2 := by rw [hl2, hn]
      match cs', hcl with
      | [b0, b1], _ =>
        have k0 := hall 0 f0 g0
        have k1 := hall 1 f1 g1
        have hfs : 2 ≤ fs.size := (Array.getElem?_eq_some_iff.1 g1).1
        rw [o0, c0, List.getElem?_eq_getElem (show 0 < ys.length by omega)] at k0
        rw [o1, c1, List.getElem?_eq_getElem (show 1 < ys.length by omega)] at k1
        obtain ⟨z, hz, _⟩ := DataW.trod_int u1 k1
        obtain ⟨xs, hxs, hsh⟩ := shows_ints (v := b0) u0 ui ci k0
        obtain ⟨_, _, h6⟩ := World.cells?_some h2
        have e0 := h6 0 (by omega)
        have e1 := h6 1 (by omega)
        rw [Go.Deep.add_add] at e0 e1
        refine ⟨(b0, xs, z), ⟨hxs, hsh⟩, by simpa using e0, ?_⟩
        have hb : b1 = .int .i64 z := by simpa using hz
        rw [e1, hb]; rfl)
    refine ⟨(List.range len).map g, by simp; omega, fun y hy => ?_, .inr ⟨a, m, by simp, by simpa using hl, ?_, fun i y hi => ?_⟩⟩
    · obtain ⟨i, hi, rfl⟩ := List.mem_map.1 hy
      exact (hg i (by have := List.mem_range.1 hi; omega)).1
    · rcases Nat.eq_zero_or_pos m with h0 | h0
      · exact .inl h0
      · right
        have h4 := spot_none (hg 0 h0).2.1
        simpa [Addr.add] using h4
    · rw [List.getElem?_map] at hi
      obtain ⟨j, hj, rfl⟩ := Option.map_eq_some_iff.1 hi
      have hj1 := (List.getElem?_eq_some_iff.1 hj).1
      simp only [List.length_range] at hj1
      rw [List.getElem?_range hj1] at hj
      cases hj
      exact (hg i (by omega)).2
end Go.Pm

/- Arguments that are slices of slices. -/
set_option linter.unusedVariables false
set_option linter.unusedSimpArgs false
namespace Go.Pm
open Go.ChangeShapes Go.WideShapes
section
variable {P : Program} {H : Type} {encH : TypeId × Value → H} {w : World} {base : Nat} {held : Bool}
/-- A slice of slices, opened: the inner values and what they show. -/
theorem open_nest {α : Type} {enc : α → List Value} {sz : Nat} {t e : TypeId} {fuel : Nat} {v : Value} {x : DataW H × List MemPlace} (ht : P.underlying t = some (.slice e)) (hn : P.cellsOf e = 1)
    (hin : ∀ (fu : Nat) (u : Value) (y : DataW H × List MemPlace), DataW.trod encH P w base (fun _ => true) held fu e [u] = some y → ∃ xs : List α, xs.length ≤ maxLen ∧ ∀ (ρ : Mp) (h : Hp), Shows ρ h w sz (xs.map enc) u)
    (hd : DataW.trod encH P w base (fun _ => true) held fuel t [v] = some x) :
    ∃ L : List (Value × List α), L.length ≤ maxLen ∧ (∀ y ∈ L, y.2.length ≤ maxLen ∧ ∀ (ρ : Mp) (h : Hp), Shows ρ h w sz (y.2.map enc) y.1) ∧
      ((v = .slice none 0 0 ∧ L = []) ∨ ∃ (a : Addr) (cap : Nat), v = .slice (some a) L.length cap ∧ L.length ≤ cap ∧ (cap = 0 ∨ a.spot = none) ∧ ∀ (i : Nat) y, L[i]? = some y → w.cell? (a.add i) = some y.1) := by
  rcases Go.Deep.open_slice ht hd with ⟨h1, _⟩ | ⟨a, len, cap, m, fu, D, Pl, h1, _, hl, hm, hmm, _, hx⟩
  · cases h1
    exact ⟨[], by simp, by simp, .inl ⟨rfl, rfl⟩⟩
  · cases h1
    simp only [if_true] at hmm
    subst hmm
    rw [hn] at hx
    obtain ⟨g, hg⟩ := Go.Deep.choose_lt (α := Value × List α) (n := m) (p := fun i y => (y.2.length ≤ maxLen ∧ ∀ (ρ : Mp) (h : Hp), Shows ρ h w sz (y.2.map enc) y.1) ∧ w.cell? (a.add i) = some y.1) (fun i hi => by
      obtain ⟨cs', h2, h3⟩ := hx i hi
      obtain ⟨_, hsz, h6⟩ := World.cells?_some h2
      have hcl : cs'.length = 1 := by simpa using hsz
      match cs', hcl with
      | [u], _ =>
        obtain ⟨xs, hxs, hsh⟩ := hin _ u _ h3
        have e0 := h6 0 (by omega)
        rw [Go.Deep.add_add] at e0
        exact ⟨(u, xs), ⟨hxs, hsh⟩, by simpa using e0⟩)
    refine ⟨(List.range len).map g, by simp; omega, fun y hy => ?_, .inr ⟨a, m, by simp, by simpa using hl, ?_, fun i y hi => ?_⟩⟩
    · obtain ⟨i, hi, rfl⟩ := List.mem_map.1 hy
      exact (hg i (by have := List.mem_range.1 hi; omega)).1
    · rcases Nat.eq_zero_or_pos m with h0 | h0
      · exact .inl h0
      · right
        have h4 := spot_none (hg 0 h0).2
        simpa [Addr.add] using h4
    · rw [List.getElem?_map] at hi
      obtain ⟨j, hj, rfl⟩ := Option.map_eq_some_iff.1 hi
      have hj1 := (List.getElem?_eq_some_iff.1 hj).1
      simp only [List.length_range] at hj1
      rw [List.getElem?_range hj1] at hj
      cases hj
      exact (hg i (by omega)).2
end
section
variable {w : World} {α : Type} {enc : α → List Value} {sz : Nat}
theorem add_manyT (hz : ∀ x : α, (enc x).length = sz) : ∀ (L : List (Value × List α)), (∀ y ∈ L, ∀ (ρ : Mp) (h : Hp), Shows ρ h w sz (y.2.map enc) y.1) → ∀ (ρ : Mp) (h : Hp), Rel ρ h w → AllRo h →
    ∃ (h2 : Hp) (ρ2 : Mp) (vs : List Value), h <+: h2 ∧ Rel ρ2 h2 w ∧ AllRo h2 ∧ Step ρ h ρ2 h2 ∧ vs.length = L.length ∧
      ∀ (i : Nat) u y, vs[i]? = some u → L[i]? = some y → VR ρ2 h2 u y.1 ∧ Sees h2 u sz (y.2.map enc)
  | [], _, ρ, h, R, ha => ⟨h, ρ, [], List.prefix_rfl, R, ha, Step.refl _ _, rfl, fun i u y h1 => by simp at h1⟩
  | y :: L, hL, ρ, h, R, ha => by
    obtain ⟨h1, ρ1, u, p1, R1, a1, s1, v1, e1⟩ := add_slice (sz := sz) (els := y.2.map enc) (fun e he => by obtain ⟨z, _, rfl⟩ := List.mem_map.1 he; exact hz z) R ha (hL y (List.mem_cons_self ..) ρ h)
    obtain ⟨h2, ρ2, vs, p2, R2, a2, s2, hl, hv⟩ := add_manyT hz L (fun z hz => hL z (List.mem_cons_of_mem _ hz)) ρ1 h1 R1 a1
    refine ⟨h2, ρ2, u :: vs, p1.trans p2, R2, a2, s1.trans s2, by simp [hl], fun i u' y' g1 g2 => ?_⟩
    cases i with
    | zero =>
      simp at g1 g2
      subst g1; subst g2
      exact ⟨v1.step s2, Sees.pre e1 p2⟩
    | succ i => exact hv i u' y' (by simpa using g1) (by simpa using g2)
theorem flat_ones (vs : List Value) : (vs.map fun u => [u]).flatten = vs := by
  induction vs with
  | nil => rfl
  | cons u vs ih => rw [List.map_cons, List.flatten_cons, ih]; rfl
/-- A slice of slices as rows that are only read. -/
theorem add_nest {ρ : Mp} {h : Hp} {v : Value} (hz : ∀ x : α, (enc x).length = sz) {L : List (Value × List α)} (hL : ∀ y ∈ L, ∀ (ρ : Mp) (h : Hp), Shows ρ h w sz (y.2.map enc) y.1)
    (hv : (v = .slice none 0 0 ∧ L = []) ∨ ∃ (a : Addr) (cap : Nat), v = .slice (some a) L.length cap ∧ L.length ≤ cap ∧ (cap = 0 ∨ a.spot = none) ∧ ∀ (i : Nat) y, L[i]? = some y → w.cell? (a.add i) = some y.1) (R : Rel ρ h w) (ha : AllRo h) :
    ∃ h2 ρ2 p vs, h <+: h2 ∧ Rel ρ2 h2 w ∧ AllRo h2 ∧ Step ρ h ρ2 h2 ∧ VR ρ2 h2 p v ∧ Nest h2 p enc sz (L.map (·.2)) vs := by
  obtain ⟨h1, ρ1, vs, p1, R1, a1, s1, hl, hvs⟩ := add_manyT hz L hL ρ h R ha
  have hsh : Shows ρ1 h1 w 1 (vs.map fun u => [u]) v := by
    rcases hv with ⟨rfl, rfl⟩ | ⟨a, cap, rfl, hc, hs, hcell⟩
    · exact .inl ⟨rfl, by simpa using hl⟩
    · refine .inr ⟨a, cap, by simp [hl], by simpa [hl] using hc, hs, fun k c hk => ?_⟩
      rw [flat_ones] at hk
      obtain ⟨y, hy, _⟩ := drop_at (show k < L.length by have := (List.getElem?_eq_some_iff.1 hk).1; omega)
      exact ⟨_, hcell k y hy, (hvs k c y hk hy).1⟩
  obtain ⟨h2, ρ2, p, p2, R2, a2, s2, r, se⟩ := add_slice (sz := 1) (els := vs.map fun u => [u]) (fun e he => by obtain ⟨z, _, rfl⟩ := List.mem_map.1 he; rfl) R1 a1 hsh
  refine ⟨h2, ρ2, p, vs, p1.trans p2, R2, a2, s1.trans s2, r, se, by simp [hl], fun i u xs g1 g2 => ?_⟩
  rw [List.getElem?_map] at g2
  obtain ⟨y, hy, rfl⟩ := Option.map_eq_some_iff.1 g2
  exact (hvs i u y g1 hy).2.pre p2
end
end Go.Pm
