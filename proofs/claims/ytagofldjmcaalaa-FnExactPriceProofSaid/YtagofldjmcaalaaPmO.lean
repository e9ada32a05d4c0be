/- Slices that are seen: rules for proofs about functions. -/
import Derived.Test.YtagofldjmcaalaaPmN
set_option linter.unusedVariables false
set_option linter.unusedSimpArgs false
namespace Go.Pm
variable {P : Program} {G : FuncId → GI}

theorem gc_self (h : Hp) (v : Value) : gc h h v = h := by unfold gc; split <;> rfl
theorem gc_app (h t : Hp) (v : Value) (hp : plain v = true) : gc h (h ++ t) v = h := by unfold gc; rw [if_pos ⟨hp, List.prefix_append ..⟩]

theorem wrap_ok {n : Int} (h1 : -9223372036854775808 ≤ n) (h2 : n ≤ 9223372036854775807) : IntKind.i64.wrap n = n := by
  unfold IntKind.wrap
  simp [IntKind.signed, IntKind.bits]
  omega

/-- Element i of a list, or something. -/
def base : Value → Addr
  | .slice (some a) _ _ => a
  | _ => ⟨0, 0, none⟩

/-- A slice's elements, as cells. -/
def Sees (h : Hp) (v : Value) (sz : Nat) (els : List (List Value)) : Prop :=
  (∀ e ∈ els, e.length = sz) ∧ ∃ oa c, v = .slice oa els.length c ∧ ((oa = none ∧ els = [] ∧ c = 0) ∨
    ∃ r o x, oa = some ⟨r, o, some x.cells.length⟩ ∧ h[r]? = some (some x) ∧ x.sz = sz ∧ o + els.length * sz ≤ x.cells.length ∧ (x.cells.drop o).take (els.length * sz) = els.flatten ∧ els.length ≤ c)

theorem Sees.ext {h : Hp} {v : Value} {sz : Nat} {els : List (List Value)} (s : Sees h v sz els) (t : Hp) : Sees (h ++ t) v sz els := by
  obtain ⟨h1, oa, c, h2, h3⟩ := s
  refine ⟨h1, oa, c, h2, ?_⟩
  rcases h3 with h3 | ⟨r, o, x, h4, h5, h6⟩
  · exact .inl h3
  · exact .inr ⟨r, o, x, h4, by rw [List.getElem?_append_left (List.getElem?_eq_some_iff.1 h5).1]; exact h5, h6⟩
theorem Sees.pre {h h' : Hp} {v : Value} {sz : Nat} {els : List (List Value)} (s : Sees h v sz els) (hp : h <+: h') : Sees h' v sz els := by
  obtain ⟨t, rfl⟩ := hp
  exact s.ext t
theorem Sees.shape {h : Hp} {v : Value} {sz : Nat} {els : List (List Value)} (s : Sees h v sz els) : ∃ oa c, v = .slice oa els.length c := by
  obtain ⟨_, oa, c, h2, _⟩ := s
  exact ⟨oa, c, h2⟩

theorem flat_get {sz : Nat} : ∀ {els : List (List Value)}, (∀ e ∈ els, e.length = sz) → ∀ {i k : Nat} {e : List Value}, els[i]? = some e → k < sz → els.flatten[i * sz + k]? = e[k]?
  | [], _, i, k, e, he, _ => by cases he
  | a :: els, hl, 0, k, e, he, hk => by
    simp at he; subst he
    have := hl a (List.mem_cons_self ..)
    simp [List.getElem?_append, show k < a.length by omega]
  | a :: els, hl, i + 1, k, e, he, hk => by
    have h1 := hl a (List.mem_cons_self ..)
    have := flat_get (fun e he => hl e (List.mem_cons_of_mem _ he)) (i := i) (k := k) (by simpa using he) hk
    rw [List.flatten_cons, List.getElem?_append_right (by rw [h1, Nat.succ_mul]; omega), h1, ← this]
    congr 1
    rw [Nat.succ_mul]; omega
theorem flat_len {sz : Nat} : ∀ {els : List (List Value)}, (∀ e ∈ els, e.length = sz) → els.flatten.length = els.length * sz
  | [], _ => by simp
  | a :: els, hl => by
    rw [List.flatten_cons, List.length_append, hl a (List.mem_cons_self ..), flat_len (fun e he => hl e (List.mem_cons_of_mem _ he)), List.length_cons, Nat.succ_mul]; omega
theorem flat_seg {sz : Nat} : ∀ {els : List (List Value)}, (∀ e ∈ els, e.length = sz) → ∀ {i : Nat} {e : List Value}, els[i]? = some e → (els.flatten.drop (i * sz)).take sz = e
  | [], _, i, e, he => by cases he
  | a :: els, hl, 0, e, he => by
    simp at he; subst he
    have := hl a (List.mem_cons_self ..)
    simp [← this]
  | a :: els, hl, i + 1, e, he => by
    have h1 := hl a (List.mem_cons_self ..)
    have := flat_seg (fun e he => hl e (List.mem_cons_of_mem _ he)) (i := i) (by simpa using he)
    rw [List.flatten_cons, ← this, Nat.succ_mul, Nat.add_comm, ← List.drop_drop]
    congr 2
    rw [← h1, List.drop_left]

section
variable {h : Hp} {v : Value} {sz : Nat} {els : List (List Value)}
theorem Sees.index (s : Sees h v sz els) {ty e : TypeId} (hu : P.underlying ty = some (.slice e)) (hq : (P.info? e).map (·.size) = some sz) {k : IntKind} {j : Int} (h0 : 0 ≤ j) (h1 : j < els.length) :
    indexAddrP P h ty v (.int k j) = some (.pointer (some (addP (base v) (j.toNat * sz)))) := by
  obtain ⟨h2, oa, c, rfl, h3⟩ := s
  obtain ⟨q, hq, hz⟩ := Option.map_eq_some_iff.1 hq
  rcases h3 with ⟨rfl, rfl, rfl⟩ | ⟨r, o, x, rfl, h5, h6, h7, h8, h9⟩
  · simp at h1; omega
  · have : h[r]? = some (some x) := h5
    simp only [indexAddrP, hu, hq, rowAt, this, if_true, base, h0, h1, and_self, hz]
theorem Sees.cell (s : Sees h v sz els) {ty : TypeId} (hu : (P.underlying ty).map aggD = some false) (hq : (P.info? ty).map (·.size) = some 1) {i k : Nat} {e : List Value} (he : els[i]? = some e) (hk : k < sz) :
    loadP P h ty (.pointer (some (addP (base v) (i * sz + k)))) = e[k]? := by
  obtain ⟨h2, oa, c, rfl, h3⟩ := s
  obtain ⟨q, hq, hz⟩ := Option.map_eq_some_iff.1 hq
  obtain ⟨d, hu, hd⟩ := Option.map_eq_some_iff.1 hu
  have hi := (List.getElem?_eq_some_iff.1 he).1
  rcases h3 with ⟨rfl, rfl, rfl⟩ | ⟨r, o, x, rfl, h5, h6, h7, h8, h9⟩
  · simp at hi
  · have hx : h[r]? = some (some x) := h5
    have hlt : i * sz + k < els.length * sz := by
      have : (i + 1) * sz ≤ els.length * sz := Nat.mul_le_mul_right _ hi
      rw [Nat.succ_mul] at this; omega
    have := flat_get h2 he hk
    rw [← h8, List.getElem?_take, if_pos hlt, List.getElem?_drop] at this
    simp only [loadP, rowAt, base, addP, hx, if_true, hu, hq, hd]
    simpa using this
theorem Sees.agg (s : Sees h v sz els) {ty : TypeId} (hu : (P.underlying ty).map aggD = some true) (hq : (P.info? ty).map (·.size) = some sz) {i : Nat} {e : List Value} (he : els[i]? = some e) :
    loadP P h ty (.pointer (some (addP (base v) (i * sz)))) = some (.agg e.toArray) := by
  obtain ⟨h2, oa, c, rfl, h3⟩ := s
  obtain ⟨q, hq, hz⟩ := Option.map_eq_some_iff.1 hq
  obtain ⟨d, hu, hd⟩ := Option.map_eq_some_iff.1 hu
  have hi := (List.getElem?_eq_some_iff.1 he).1
  rcases h3 with ⟨rfl, rfl, rfl⟩ | ⟨r, o, x, rfl, h5, h6, h7, h8, h9⟩
  · simp at hi
  · have hx : h[r]? = some (some x) := h5
    have hle : (i + 1) * sz ≤ els.length * sz := Nat.mul_le_mul_right _ hi
    rw [Nat.succ_mul] at hle
    have := flat_seg h2 he
    rw [← h8, List.drop_take, List.take_take, Nat.min_eq_left (by omega), List.drop_drop] at this
    simp only [loadP, rowAt, base, addP, hx, if_true, hu, hq, hd, hz]
    rw [if_pos (by omega), this]
end

theorem flat_take {sz : Nat} : ∀ {els : List (List Value)}, (∀ e ∈ els, e.length = sz) → ∀ (k : Nat), els.flatten.take (k * sz) = (els.take k).flatten
  | [], _, k => by simp
  | a :: els, hl, 0 => by simp
  | a :: els, hl, k + 1 => by
    have h1 := hl a (List.mem_cons_self ..)
    rw [List.take_succ_cons, List.flatten_cons, List.flatten_cons, ← flat_take (fun e he => hl e (List.mem_cons_of_mem _ he)) k, Nat.succ_mul, Nat.add_comm, ← h1]
    rw [List.take_length_add_append]
theorem Sees.front {h : Hp} {v : Value} {sz : Nat} {els : List (List Value)} (s : Sees h v sz els) {ty e : TypeId} (hu : P.underlying ty = some (.slice e)) (hq : (P.info? e).map (·.size) = some sz) {k : IntKind} {j : Int} (h0 : 0 ≤ j) (h1 : j ≤ els.length) :
    ∃ v', sliceP P h ty v none (some (.int k j)) = some v' ∧ Sees h v' sz (els.take j.toNat) := by
  obtain ⟨h2, oa, c, rfl, h3⟩ := s
  obtain ⟨q, hq, hz⟩ := Option.map_eq_some_iff.1 hq
  rcases h3 with ⟨rfl, rfl, rfl⟩ | ⟨r, o, x, rfl, h5, h6, h7, h8, h9⟩
  · have : j = 0 := by simp at h1; omega
    subst this
    refine ⟨.slice none 0 0, by simp [sliceP, hu, hq, hiP, loP, asI], ⟨by simp, none, 0, rfl, .inl ⟨rfl, rfl, rfl⟩⟩⟩
  · have hj : j.toNat ≤ els.length := by omega
    have hm : j.toNat * sz ≤ els.length * sz := Nat.mul_le_mul_right _ hj
    have hlen : (els.take j.toNat).length = j.toNat := by simp; omega
    refine ⟨.slice (some ⟨r, o, some x.cells.length⟩) j.toNat c, ?_, fun e he => h2 e (List.mem_of_mem_take he), some ⟨r, o, some x.cells.length⟩, c, by rw [hlen], .inr ⟨r, o, x, rfl, h5, h6, by rw [hlen]; omega, ?_, by rw [hlen]; omega⟩⟩
    · simp only [sliceP, hu, hq, rowAt, h5, if_true, hiP, loP, asI]
      rw [if_pos ⟨by omega, h0, by omega, by rw [h6, hz]⟩]
      simp [addP]
    · rw [hlen, ← flat_take h2, ← h8, List.take_take, Nat.min_eq_left hm]

/-! ### typed slices -/
section
variable {α : Type} {enc : α → List Value} {h : Hp} {v : Value} {sz : Nat} {xs : List α}
theorem Sees.indexT (s : Sees h v sz (xs.map enc)) {ty e : TypeId} (hu : P.underlying ty = some (.slice e)) (hq : (P.info? e).map (·.size) = some sz) {k : IntKind} {j : Int} (h0 : 0 ≤ j) (h1 : j < xs.length) :
    indexAddrP P h ty v (.int k j) = some (.pointer (some (addP (base v) (j.toNat * sz)))) := s.index hu hq h0 (by simpa using h1)
theorem Sees.cellT (s : Sees h v sz (xs.map enc)) {ty : TypeId} (hu : (P.underlying ty).map aggD = some false) (hq : (P.info? ty).map (·.size) = some 1) {i k : Nat} {x : α} (hx : xs[i]? = some x) (hk : k < sz) :
    loadP P h ty (.pointer (some (addP (base v) (i * sz + k)))) = (enc x)[k]? := s.cell hu hq (by simp [hx]) hk
theorem Sees.aggT (s : Sees h v sz (xs.map enc)) {ty : TypeId} (hu : (P.underlying ty).map aggD = some true) (hq : (P.info? ty).map (·.size) = some sz) {i : Nat} {x : α} (hx : xs[i]? = some x) :
    loadP P h ty (.pointer (some (addP (base v) (i * sz)))) = some (.agg (enc x).toArray) := s.agg hu hq (by simp [hx])
theorem Sees.shapeT (s : Sees h v sz (xs.map enc)) : ∃ oa c, v = .slice oa xs.length c := by simpa using s.shape
end

def encI (x : Int) : List Value := [.int .i64 x]
abbrev Ints (h : Hp) (v : Value) (xs : List Int) : Prop := Sees h v 1 (xs.map encI)

theorem drop_at {α : Type} {xs : List α} {i : Nat} (hi : i < xs.length) : ∃ x, xs[i]? = some x ∧ xs.drop i = x :: xs.drop (i + 1) :=
  ⟨xs[i], List.getElem?_eq_getElem hi, List.drop_eq_getElem_cons hi⟩

attribute [simp] op1 ev evs get put wantP dstOk plain plainC number builtinP lenB binP isShift binI unP resP resL res1 gc_self keep asI headOf
end Go.Pm
