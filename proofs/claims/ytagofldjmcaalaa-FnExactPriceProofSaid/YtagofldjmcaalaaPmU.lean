/- Arguments of the row, opened as rows. -/
import Derived.Test.YtagofldjmcaalaaPmT
import Derived.Deep.Slices
import Derived.ProofKit
set_option linter.unusedVariables false
set_option linter.unusedSimpArgs false
namespace Go.Pm
open Go.ChangeShapes Go.WideShapes
variable {P : Program} {H : Type} {enc : TypeId × Value → H} {w : World} {base : Nat} {held : Bool}
theorem flat_encI (xs : List Int) : (xs.map encI).flatten = xs.map fun x => .int .i64 x := by
  induction xs with
  | nil => rfl
  | cons x xs ih => rw [List.map_cons, List.flatten_cons, ih]; rfl
/-- A slice of numbers. -/
theorem shows_ints {t e : TypeId} {fuel : Nat} {v : Value} {x : DataW H × List MemPlace} (ht : P.underlying t = some (.slice e)) (he : P.underlying e = some (.int .i64)) (hc : P.cellsOf e = 1)
    (hd : DataW.trod enc P w base (fun _ => true) held fuel t [v] = some x) : ∃ xs : List Int, xs.length ≤ maxLen ∧ ∀ (ρ : Mp) (h : Hp), Shows ρ h w 1 (xs.map encI) v := by
  rcases open_ints ht he hc hd with ⟨h1, _⟩ | ⟨a, len, cap, zs, h1, _, hl, hm, hz, _, hcell, _⟩
  · cases h1
    exact ⟨[], by simp, fun ρ h => .inl ⟨rfl, rfl⟩⟩
  · cases h1
    simp only [if_true] at hz
    have hlen : (zs.take len).length = len := by rw [List.length_take]; omega
    refine ⟨zs.take len, by omega, fun ρ h => .inr ⟨a, cap, by rw [List.length_map, hlen], by rw [List.length_map, hlen]; exact hl, ?_, fun k c hk => ?_⟩⟩
    · rcases Nat.eq_zero_or_pos cap with h0 | h0
      · exact .inl h0
      · right
        have := hcell 0 (by omega)
        unfold World.cell? at this
        simp only [Addr.add, if_true] at this
        cases hs : a.spot with
        | none => rfl
        | some s =>
          rw [hs] at this
          split at this <;> simp at this
    · rw [flat_encI, List.getElem?_map] at hk
      obtain ⟨z, hz2, rfl⟩ := Option.map_eq_some_iff.1 hk
      have hk1 := (List.getElem?_eq_some_iff.1 hz2).1
      rw [List.getElem?_take, if_pos (by omega)] at hz2
      refine ⟨_, hcell k (by omega), ?_⟩
      rw [List.getD_eq_getElem?_getD, hz2]
      exact .int _ _
/-- A struct of numbers alone. -/
theorem struct_ints {t : TypeId} {fs : Array Field} {n : Nat} {fuel : Nat} {cs : List Value} {x : DataW H × List MemPlace} (ht : P.underlying t = some (.struct fs)) (hn : P.cellsOf t = n)
    (hf : ∀ i, i < n → ∃ f, fs[i]? = some f ∧ f.offset = i ∧ P.underlying f.type = some (.int .i64) ∧ P.cellsOf f.type = 1)
    (hd : DataW.trod enc P w base (fun _ => true) held fuel t cs = some x) : ∃ ns : List Int, ns.length = n ∧ cs = ns.map fun z => .int .i64 z := by
  obtain ⟨ys, m, _, _, hl, hy, hall⟩ := DataW.trod_struct ht hd
  have hsz : fs.size ≥ n := by
    rcases Nat.eq_zero_or_pos n with h0 | h0
    · omega
    · obtain ⟨f, h1, _⟩ := hf (n - 1) (by omega)
      have := (Array.getElem?_eq_some_iff.1 h1).1
      omega
  obtain ⟨g, hg⟩ := Go.Deep.choose_lt (α := Int) (n := n) (p := fun i z => cs[i]? = some (.int .i64 z)) (fun i hi => by
    obtain ⟨f, h1, h2, h3, h4⟩ := hf i hi
    have h5 := hall i f h1
    rw [h2, h4, List.getElem?_eq_getElem (show i < ys.length by omega)] at h5
    obtain ⟨z, h6, _⟩ := DataW.trod_int h3 h5
    have hi2 : i < cs.length := by omega
    refine ⟨z, ?_⟩
    have h7 : (cs.drop i).take 1 = [cs[i]] := by
      rw [List.drop_eq_getElem_cons hi2]; rfl
    rw [h7] at h6
    rw [List.getElem?_eq_getElem hi2]
    simpa using h6)
  refine ⟨(List.range n).map g, by simp, ?_⟩
  apply List.ext_getElem?
  intro i
  rcases Nat.lt_or_ge i n with hi | hi
  · rw [hg i hi]; simp [hi]
  · rw [List.getElem?_eq_none (by omega), List.getElem?_eq_none (by simp; omega)]
theorem spot_none {a : Addr} {v : Value} (h : w.cell? a = some v) : a.spot = none := by
  unfold World.cell? at h
  cases hs : a.spot with
  | none => rfl
  | some s =>
    rw [hs] at h
    split at h <;> simp at h
/-- A slice of structs of numbers alone. -/
theorem shows_recs {t e : TypeId} {fs : Array Field} {n : Nat} {fuel : Nat} {v : Value} {x : DataW H × List MemPlace} (ht : P.underlying t = some (.slice e)) (he : P.underlying e = some (.struct fs)) (hn : P.cellsOf e = n) (hpos : 0 < n)
    (hf : ∀ i, i < n → ∃ f, fs[i]? = some f ∧ f.offset = i ∧ P.underlying f.type = some (.int .i64) ∧ P.cellsOf f.type = 1)
    (hd : DataW.trod enc P w base (fun _ => true) held fuel t [v] = some x) :
    ∃ nss : List (List Int), nss.length ≤ maxLen ∧ (∀ ns ∈ nss, ns.length = n) ∧ ∀ (ρ : Mp) (h : Hp), Shows ρ h w n (nss.map fun ns => ns.map fun z => .int .i64 z) v := by
  rcases Go.Deep.open_slice ht hd with ⟨h1, _⟩ | ⟨a, len, cap, m, fu, D, Pl, h1, _, hl, hm, hmm, _, hx⟩
  · cases h1
    exact ⟨[], by simp, by simp, fun ρ h => .inl ⟨rfl, rfl⟩⟩
  · cases h1
    simp only [if_true] at hmm
    subst hmm
    rw [hn] at hx
    obtain ⟨g, hg⟩ := Go.Deep.choose_lt (α := List Int) (n := m) (p := fun i ns => ns.length = n ∧ ∀ j, j < n → w.cell? (a.add (i * n + j)) = (ns[j]?).map fun z => .int .i64 z) (fun i hi => by
      obtain ⟨cs', h2, h3⟩ := hx i hi
      obtain ⟨ns, h4, h5⟩ := struct_ints he hn hf h3
      obtain ⟨_, _, h6⟩ := World.cells?_some h2
      refine ⟨ns, h4, fun j hj => ?_⟩
      have := h6 j hj
      rw [Go.Deep.add_add] at this
      rw [this, h5, List.getElem?_map])
    have hlen : ∀ ns ∈ (List.range len).map g, ns.length = n := by
      intro ns hns
      obtain ⟨i, hi, rfl⟩ := List.mem_map.1 hns
      exact (hg i (by have := List.mem_range.1 hi; omega)).1
    refine ⟨(List.range len).map g, by simp; omega, hlen, fun ρ h => .inr ⟨a, m, by simp, by simpa using hl, ?_, fun k c hk => ?_⟩⟩
    · rcases Nat.eq_zero_or_pos m with h0 | h0
      · exact .inl h0
      · right
        obtain ⟨h2, h3⟩ := hg 0 h0
        have := h3 0 hpos
        rw [List.getElem?_eq_getElem (by omega)] at this
        have h4 := spot_none this
        simpa [Addr.add] using h4
    · have hE : ∀ e ∈ ((List.range len).map g).map (fun ns => ns.map fun z => Value.int .i64 z), e.length = n := by
        intro e he
        obtain ⟨ns, hns, rfl⟩ := List.mem_map.1 he
        simpa using hlen ns hns
      have hk1 := (List.getElem?_eq_some_iff.1 hk).1
      rw [flat_len hE] at hk1
      simp only [List.length_map, List.length_range] at hk1
      have hi : k / n < len := (Nat.div_lt_iff_lt_mul hpos).2 hk1
      have hj : k % n < n := Nat.mod_lt _ hpos
      have hkk : k / n * n + k % n = k := by rw [Nat.mul_comm]; exact Nat.div_add_mod k n
      obtain ⟨h2, h3⟩ := hg (k / n) (by omega)
      have h4 := flat_get hE (i := k / n) (k := k % n) (e := (g (k / n)).map fun z => .int .i64 z) (by simp [hi]) hj
      rw [hkk, hk, List.getElem?_map] at h4
      have h5 := h3 (k % n) hj
      rw [hkk, ← h4] at h5
      obtain ⟨z, _, hz⟩ := Option.map_eq_some_iff.1 h4.symm
      exact ⟨c, h5, by rw [← hz]; exact .int _ _⟩
/-- Many slices of numbers, one row each. -/
theorem add_many : ∀ (L : List (Value × List Int)), (∀ y ∈ L, ∀ (ρ : Mp) (h : Hp), Shows ρ h w 1 (y.2.map encI) y.1) → ∀ (ρ : Mp) (h : Hp), Rel ρ h w → AllRo h →
    ∃ (h2 : Hp) (ρ2 : Mp) (vs : List Value), h <+: h2 ∧ Rel ρ2 h2 w ∧ AllRo h2 ∧ Step ρ h ρ2 h2 ∧ vs.length = L.length ∧
      ∀ (i : Nat) u y, vs[i]? = some u → L[i]? = some y → VR ρ2 h2 u y.1 ∧ Ints h2 u y.2
  | [], _, ρ, h, R, ha => ⟨h, ρ, [], List.prefix_rfl, R, ha, Step.refl _ _, rfl, fun i u y h1 => by simp at h1⟩
  | y :: L, hL, ρ, h, R, ha => by
    obtain ⟨h1, ρ1, u, p1, R1, a1, s1, v1, e1⟩ := add_slice (sz := 1) (els := y.2.map encI) (fun e he => by obtain ⟨z, _, rfl⟩ := List.mem_map.1 he; rfl) R ha (hL y (List.mem_cons_self ..) ρ h)
    obtain ⟨h2, ρ2, vs, p2, R2, a2, s2, hl, hv⟩ := add_many L (fun z hz => hL z (List.mem_cons_of_mem _ hz)) ρ1 h1 R1 a1
    refine ⟨h2, ρ2, u :: vs, p1.trans p2, R2, a2, s1.trans s2, by simp [hl], fun i u' y' g1 g2 => ?_⟩
    cases i with
    | zero =>
      simp at g1 g2
      subst g1; subst g2
      exact ⟨v1.step s2, Sees.pre e1 p2⟩
    | succ i => exact hv i u' y' (by simpa using g1) (by simpa using g2)
/-- A slice of pairs: a slice of numbers and a number. -/
theorem open_pairs {t e ei : TypeId} {fs : Array Field} {f0 f1 : Field} {fuel : Nat} {v : Value} {x : DataW H × List MemPlace} (ht : P.underlying t = some (.slice e)) (he : P.underlying e = some (.struct fs)) (hn : P.cellsOf e = 2)
    (g0 : fs[0]? = some f0) (o0 : f0.offset = 0) (u0 : P.underlying f0.type = some (.slice ei)) (c0 : P.cellsOf f0.type = 1) (ui : P.underlying ei = some (.int .i64)) (ci : P.cellsOf ei = 1)
    (g1 : fs[1]? = some f1) (o1 : f1.offset = 1) (u1 : P.underlying f1.type = some (.int .i64)) (c1 : P.cellsOf f1.type = 1)
    (hd : DataW.trod enc P w base (fun _ => true) held fuel t [v] = some x) :
    ∃ L : List (Value × List Int × Int), L.length ≤ maxLen ∧ (∀ y ∈ L, y.2.1.length ≤ maxLen ∧ ∀ (ρ : Mp) (h : Hp), Shows ρ h w 1 (y.2.1.map encI) y.1) ∧
      ((v = .slice none 0 0 ∧ L = []) ∨ ∃ (a : Addr) (cap : Nat), v = .slice (some a) L.length cap ∧ L.length ≤ cap ∧ (cap = 0 ∨ a.spot = none) ∧
        ∀ (i : Nat) y, L[i]? = some y → w.cell? (a.add (i * 2)) = some y.1 ∧ w.cell? (a.add (i * 2 + 1)) = some (.int .i64 y.2.2)) := by
  rcases Go.Deep.open_slice ht hd with ⟨h1, _⟩ | ⟨a, len, cap, m, fu, D, Pl, h1, _, hl, hm, hmm, _, hx⟩
  · cases h1
    exact ⟨[], by simp, by simp, .inl ⟨rfl, rfl⟩⟩
  · cases h1
    simp only [if_true] at hmm
    subst hmm
    rw [hn] at hx
    obtain ⟨g, hg⟩ := Go.Deep.choose_lt (α := Value × List Int × Int) (n := m) (p := fun i y => (y.2.1.length ≤ maxLen ∧ ∀ (ρ : Mp) (h : Hp), Shows ρ h w 1 (y.2.1.map encI) y.1) ∧ w.cell? (a.add (i * 2)) = some y.1 ∧ w.cell? (a.add (i * 2 + 1)) = some (.int .i64 y.2.2)) (fun i hi => by
      obtain ⟨cs', h2, h3⟩ := hx i hi
      obtain ⟨ys, q, _, _, hl2, hy, hall⟩ := DataW.trod_struct he h3
      have hcl : cs'.length = 2 := by rw [hl2, hn]
      match cs', hcl with
      | [b0, b1], _ =>
        have k0 := hall 0 f0 g0
        have k1 := hall 1 f1 g1
        have hfs : 2 ≤ fs.size := (Array.getElem?_eq_some_iff.1 g1).1
        rw [o0, c0, List.getElem?_eq_getElem (show 0 < ys.length by omega)] at k0
        rw [o1, c1, List.getElem?_eq_getElem (show 1 < ys.length by omega)] at k1
        obtain ⟨z, hz, _⟩ := DataW.trod_int u1 k1
        obtain ⟨xs, hxs, hsh⟩ := shows_ints (v := b0) u0 ui ci k0
        obtain ⟨_, _, h6⟩ := World.cells?_some h2
        have e0 := h6 0 (by omega)
        have e1 := h6 1 (by omega)
        rw [Go.Deep.add_add] at e0 e1
        refine ⟨(b0, xs, z), ⟨hxs, hsh⟩, by simpa using e0, ?_⟩
        have hb : b1 = .int .i64 z := by simpa using hz
        rw [e1, hb]; rfl)
    refine ⟨(List.range len).map g, by simp; omega, fun y hy => ?_, .inr ⟨a, m, by simp, by simpa using hl, ?_, fun i y hi => ?_⟩⟩
    · obtain ⟨i, hi, rfl⟩ := List.mem_map.1 hy
      exact (hg i (by have := List.mem_range.1 hi; omega)).1
    · rcases Nat.eq_zero_or_pos m with h0 | h0
      · exact .inl h0
      · right
        have h4 := spot_none (hg 0 h0).2.1
        simpa [Addr.add] using h4
    · rw [List.getElem?_map] at hi
      obtain ⟨j, hj, rfl⟩ := Option.map_eq_some_iff.1 hi
      have hj1 := (List.getElem?_eq_some_iff.1 hj).1
      simp only [List.length_range] at hj1
      rw [List.getElem?_range hj1] at hj
      cases hj
      exact (hg i (by omega)).2
end Go.Pm
