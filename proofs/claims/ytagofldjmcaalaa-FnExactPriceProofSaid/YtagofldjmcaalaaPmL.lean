/- Operations that may come up in any order: the proof that the order does not matter. -/
import Derived.Test.YtagofldjmcaalaaPmK
set_option linter.unusedVariables false
set_option linter.unusedSimpArgs false
namespace Go.Pm
variable {P : Program}

def OpSound (P : Program) (F : Oper → St → Option (Value × Hp)) : Prop :=
  ∀ o st v h', F o st = some (v, h') → ∀ ρ a w, Rel ρ st.h w → SR ρ st.h st.s a.tmps →
    ∀ (K : Act → World → Prop) (Q : Exit → Act → World → Prop), (∀ v' w' ρ', VR ρ' h' v v' → Rel ρ' h' w' → Go1 ρ st.h w ρ' h' w' → K (a.put o.dst v') w') → o.wp P a w K Q

/-- What holds when some of the operations have come up. -/
structure Inv (ρ0 : Mp) (w0 : World) (N : Nat) (ops : Array Oper) (n : Nat) (st st1 : St) (V : Nat → Value) (L : Nat → Nat) (listed : Array Bool) (ρ : Mp) (a : Act) (w : World) : Prop where
  rel : Rel ρ st1.h w
  clo : ∀ r x p, st1.h[r]? = some (some x) → ρ r = some p → ∀ k, k ≤ n → r < L k → ∀ v, v ∈ x.cells → Cl (L k) v
  val : ∀ j o d, j < n → listed.getD j false = true → ops[j]? = some o → o.dst = some d → VR ρ st1.h (V j) (a.tmps.getD d undef) ∧ Cl (L (j + 1)) (V j)
  old : ∀ t v, get st.s t = some v → (∀ j o, j < n → listed.getD j false = true → ops[j]? = some o → o.dst ≠ some t) → VR ρ st1.h v (a.tmps.getD t undef)
  dom : ∀ r p, ρ r = some p → r < L 0 ∨ ∃ j, j < n ∧ listed.getD j false = true ∧ L j ≤ r ∧ r < L (j + 1)
  base : ∀ r x, r < L 0 → st1.h[r]? = some (some x) → ρ r = ρ0 r
  none0 : ∀ r, r < L 0 → ρ0 r = none → ρ r = none
  newb : ∀ r x p, L 0 ≤ r → st1.h[r]? = some (some x) → ρ r = some p → x.ro = false → w0.heap.size ≤ p.b
  os : w.os = w0.os
  tape : w.tape = w0.tape
  output : w.output = w0.output
  size : w0.heap.size ≤ w.heap.size
  blk : ∀ b, b < w0.heap.size → (∀ r x p, r < L 0 → st1.h[r]? = some (some x) → ρ0 r = some p → x.ro = false → p.b ≠ b) → w.heap[b]? = w0.heap[b]?
  hN : a.tmps.size = N
  hd : a.defers = []

theorem put_size (a : Act) (d : Option Tmp) (v : Value) : (a.put d v).tmps.size = a.tmps.size := by cases d <;> simp [Act.put]
theorem put_defers (a : Act) (d : Option Tmp) (v : Value) : (a.put d v).defers = a.defers := by cases d <;> rfl

theorem put_other {a : Act} {d : Option Tmp} {v : Value} {t : Nat} (h : d ≠ some t) : (a.put d v).tmps.getD t undef = a.tmps.getD t undef := by
  cases d with
  | none => rfl
  | some d =>
    have hne : d ≠ t := fun e => h (by rw [e])
    simp [Act.put, Array.getElem?_setIfInBounds_ne hne]
theorem put_same {a : Act} {d : Nat} {v : Value} (h : d < a.tmps.size) : (a.put (some d) v).tmps.getD d undef = v := by
  simp [Act.put, h]

section
variable {F : Oper → St → Option (Value × Hp)} {ρ0 : Mp} {w0 : World} {N : Nat} {ops : Array Oper} {n : Nat} {st st1 : St} {V : Nat → Value} {L : Nat → Nat} {X : Nat → Slots} {listed : Array Bool} {ρ : Mp} {a : Act} {w : World}

/-- One operation more. -/
theorem Inv.next (T : Tr F N ops (ops.toList.take n) st st1 V L X) (hnl : (ops.toList.take n).length = n) (I : Inv ρ0 w0 N ops n st st1 V L listed ρ a w)
    (hdist : ∀ i j oi oj d, i < n → j < n → i ≠ j → ops[i]? = some oi → ops[j]? = some oj → oi.dst = some d → oj.dst ≠ some d)
    {i : Nat} {o : Oper} (hi : i < n) (ho : ops[i]? = some o) (hun : listed.getD i true = false) (hls : listed.size = ops.size)
    {ρ1 : Mp} {v' : Value} {w' : World} (hv : VR ρ1 (st1.h.take (L (i + 1))) (V i) v') (R1 : Rel ρ1 (st1.h.take (L (i + 1))) w') (G : Go1 (Pm.res ρ (L i)) (st1.h.take (L i)) w ρ1 (st1.h.take (L (i + 1))) w') (hdst : dstOk N o.dst = true) :
    Inv ρ0 w0 N ops n st st1 V L (listed.setIfInBounds i true) (fun r => if r < L (i + 1) then ρ1 r else ρ r) (a.put o.dst v') w' := by
  have hle : ∀ {i j}, i ≤ j → j ≤ n → L i ≤ L j := fun h1 h2 => T.le h1 (by rw [hnl]; exact h2)
  have hLn : L n = st1.h.length := by have := T.hn; rwa [hnl] at this
  have hlen1 : (st1.h.take (L (i + 1))).length = L (i + 1) := by simp; have := hle (i := i + 1) (j := n) (by omega) (Nat.le_refl _); omega
  have hlen0 : (st1.h.take (L i)).length = L i := by simp; have := hle (i := i) (j := n) (by omega) (Nat.le_refl _); omega
  have hmono := hle (i := i) (j := i + 1) (by omega) (by omega)
  have hilt : i < ops.size := (Array.getElem?_eq_some_iff.1 ho).1
  -- the places of old rows stay
  have keepρ : ∀ r x, r < L i → st1.h[r]? = some (some x) → ρ1 r = ρ r := by
    intro r x hr hx
    cases hp : ρ r with
    | none => exact G.keepn r (by rw [hlen0]; exact hr) (by simp [Pm.res, hr, hp])
    | some p =>
      rcases G.step.live r x p (by rw [take_get hr]; exact hx) (by simp [Pm.res, hr, hp]) with ⟨x1, _, _, _, _, h5⟩ | ⟨_, h5⟩
      · exact h5
      · have := h5 x (by rw [take_get (by omega)]; exact hx)
        omega
  have notin : ∀ r p, ρ r = some p → L i ≤ r → L (i + 1) ≤ r := by
    intro r p hp hr
    rcases I.dom r p hp with h1 | ⟨j, h1, h2, h3, h4⟩
    · have := hle (i := 0) (j := i) (by omega) (by omega); omega
    · have hji : j ≠ i := by
        intro e
        subst e
        rw [getD_both hun] at h2
        cases h2
      rcases Nat.lt_or_ge j i with h5 | h5
      · have := hle (i := j + 1) (j := i) (by omega) (by omega); omega
      · have := hle (i := i + 1) (j := j) (by omega) (by omega); omega
  have upρ : ∀ r x p, st1.h[r]? = some (some x) → ρ r = some p → (if r < L (i + 1) then ρ1 r else ρ r) = some p := by
    intro r x p hx hp
    by_cases hr : r < L (i + 1)
    · rw [if_pos hr]
      have : r < L i := by
        rcases Nat.lt_or_ge r (L i) with h1 | h1
        · exact h1
        · have := notin r p hp h1; omega
      rw [keepρ r x this hx]; exact hp
    · rw [if_neg hr]; exact hp
  have step' : Step ρ st1.h (fun r => if r < L (i + 1) then ρ1 r else ρ r) st1.h := ⟨fun r x p hx hp => .inl ⟨x, hx, rfl, rfl, rfl, upρ r x p hx hp⟩, fun _ h => h⟩
  have step1 : Step ρ1 (st1.h.take (L (i + 1))) (fun r => if r < L (i + 1) then ρ1 r else ρ r) st1.h := step_ext (by rw [← hLn]; exact hle (by omega) (Nat.le_refl _)) (fun r x p hr hx hp => by simp [hr, hp])
  -- which rows are whose
  have cases' : ∀ r x p, st1.h[r]? = some (some x) → (if r < L (i + 1) then ρ1 r else ρ r) = some p → (r < L (i + 1) ∧ ρ1 r = some p) ∨ (L (i + 1) ≤ r ∧ ρ r = some p) := by
    intro r x p hx hp
    by_cases hr : r < L (i + 1)
    · rw [if_pos hr] at hp; exact .inl ⟨hr, hp⟩
    · rw [if_neg hr] at hp; exact .inr ⟨by omega, hp⟩
  have oldOf : ∀ r x p, r < L i → st1.h[r]? = some (some x) → ρ1 r = some p → ρ r = some p := fun r x p hr hx hp => by rw [← keepρ r x hr hx]; exact hp
  have newBlk : ∀ r x p, L i ≤ r → r < L (i + 1) → st1.h[r]? = some (some x) → ρ1 r = some p → x.ro = false ∧ w.heap.size ≤ p.b := by
    intro r x p h1 h2 hx hp
    have hro : x.ro = false := T.own i (by rw [hnl]; exact hi) r x h1 h2 hx
    refine ⟨hro, ?_⟩
    rcases G.orig r x p (by rw [take_get h2]; exact hx) hp hro with h3 | ⟨r0, x0, p0, g1, g2, g3, g4⟩
    · exact h3
    · exfalso
      obtain ⟨k1, k2⟩ := take_some g1
      obtain ⟨_, k3⟩ := res_some g2
      have k4 : ρ1 r0 = some p0 := by rw [keepρ r0 x0 k1 k2]; exact k3
      exact R1.inj r r0 x x0 p p0 (by rw [take_get h2]; exact hx) (by rw [take_get (by omega)]; exact k2) hp k4 hro (by omega) (fun e => by rw [g3] at e; cases e) g4.symm
  -- a row of an operation that comes later in the text is untouched
  have later : ∀ r x p, L (i + 1) ≤ r → st1.h[r]? = some (some x) → ρ r = some p → (x.ro = true → x.cells ≠ []) → w'.heap[p.b]? = w.heap[p.b]? ∧ p.b < w.heap.size := by
    intro r x p h1 hx hp hne
    have hlt := I.rel.lt hx hp hne
    refine ⟨G.blk p.b hlt (fun r0 x0 p0 g1 g2 g3 e => ?_), hlt⟩
    obtain ⟨k1, k2⟩ := take_some g1
    obtain ⟨_, k3⟩ := res_some g2
    exact I.rel.inj r0 r x0 x p0 p k2 hx k3 hp g3 (by omega) hne e
  refine ⟨⟨fun r x p hx hp hr => ?_, fun r x p hx hp hr k v hk => ?_, fun r r' x x' p p' hx hx' hp hp' hr hne hro => ?_, fun r p hp => ?_⟩, fun r x p hx hp k hk hrk v hvm => ?_, fun j oj d hj hlj hoj hdj => ?_, fun t v hg hnone => ?_, fun r p hp => ?_, fun r x hr hx => ?_, fun r hr hn => ?_, fun r x p hr hx hp hro => ?_, G.os.trans I.os, G.tape.trans I.tape, G.output.trans I.output, Nat.le_trans I.size G.size, fun b hb hn => ?_, by rw [put_size]; exact I.hN, by rw [put_defers]; exact I.hd⟩
  · rcases cases' r x p hx hp with ⟨h1, h2⟩ | ⟨h1, h2⟩
    · obtain ⟨c, e, g1, g2, g3, g4⟩ := R1.own r x p (by rw [take_get h1]; exact hx) h2 hr
      exact ⟨c, e, g1, g2, g3, fun k v hk => by obtain ⟨v', k1, k2⟩ := g4 k v hk; exact ⟨v', k1, k2.step step1⟩⟩
    · obtain ⟨c, e, g1, g2, g3, g4⟩ := I.rel.own r x p hx h2 hr
      have := (later r x p h1 hx h2 (fun e => by rw [hr] at e; cases e)).1
      exact ⟨c, e, by rw [this]; exact g1, g2, g3, fun k v hk => by obtain ⟨v', k1, k2⟩ := g4 k v hk; exact ⟨v', k1, k2.step step'⟩⟩
  · rcases cases' r x p hx hp with ⟨h1, h2⟩ | ⟨h1, h2⟩
    · obtain ⟨v', k1, k2⟩ := R1.ro r x p (by rw [take_get h1]; exact hx) h2 hr k v hk
      exact ⟨v', k1, k2.step step1⟩
    · obtain ⟨v', k1, k2⟩ := I.rel.ro r x p hx h2 hr k v hk
      have := (later r x p h1 hx h2 (fun _ e => by rw [e] at hk; simp at hk)).1
      refine ⟨v', ?_, k2.step step'⟩
      rw [← k1]
      unfold World.cell?
      rw [this]
  · rcases cases' r x p hx hp with ⟨h1, h2⟩ | ⟨h1, h2⟩
    · rcases cases' r' x' p' hx' hp' with ⟨h1', h2'⟩ | ⟨h1', h2'⟩
      · exact R1.inj r r' x x' p p' (by rw [take_get h1]; exact hx) (by rw [take_get h1']; exact hx') h2 h2' hr hne hro
      · rcases Nat.lt_or_ge r (L i) with h3 | h3
        · exact I.rel.inj r r' x x' p p' hx hx' (oldOf r x p h3 hx h2) h2' hr hne hro
        · have := (newBlk r x p h3 h1 hx h2).2
          have := (later r' x' p' h1' hx' h2' hro).2
          omega
    · rcases cases' r' x' p' hx' hp' with ⟨h1', h2'⟩ | ⟨h1', h2'⟩
      · rcases Nat.lt_or_ge r' (L i) with h3 | h3
        · exact I.rel.inj r r' x x' p p' hx hx' h2 (oldOf r' x' p' h3 hx' h2') hr hne hro
        · have := (newBlk r' x' p' h3 h1' hx' h2').2
          have := (later r x p h1 hx h2 (fun e => by rw [hr] at e; cases e)).2
          omega
      · exact I.rel.inj r r' x x' p p' hx hx' h2 h2' hr hne hro
  · by_cases hr : r < L (i + 1)
    · have := hle (i := i + 1) (j := n) (by omega) (Nat.le_refl _)
      omega
    · have hp' : ρ r = some p := by
        have hp2 : (if r < L (i + 1) then ρ1 r else ρ r) = some p := hp
        rwa [if_neg hr] at hp2
      exact I.rel.dom r p hp'
  · rcases cases' r x p hx hp with ⟨h1, h2⟩ | ⟨h1, h2⟩
    · rcases Nat.lt_or_ge r (L i) with h3 | h3
      · exact I.clo r x p hx (oldOf r x p h3 hx h2) k hk hrk v hvm
      · have hki : i + 1 ≤ k := by
          rcases Nat.lt_or_ge i k with h4 | h4
          · exact h4
          · have := hle h4 (by omega); omega
        obtain ⟨hro, _⟩ := newBlk r x p h3 h1 hx h2
        obtain ⟨c, e, g1, g2, g3, g4⟩ := R1.own r x p (by rw [take_get h1]; exact hx) h2 hro
        obtain ⟨m, hm⟩ := List.getElem?_of_mem hvm
        obtain ⟨u, _, k2⟩ := g4 m v hm
        have := k2.cl
        rw [hlen1] at this
        exact this.mono (hle hki hk)
    · exact I.clo r x p hx h2 k hk hrk v hvm
  · by_cases hji : j = i
    · subst hji
      rw [ho] at hoj; cases hoj
      rw [hdj] at hdst ⊢
      have hdN : d < a.tmps.size := by rw [I.hN]; simpa [dstOk] using hdst
      rw [put_same hdN]
      have := hv.cl
      rw [hlen1] at this
      exact ⟨hv.step step1, this⟩
    · have hlj' : listed.getD j false = true := by
        rw [getD_set_ne false (fun e => hji e.symm)] at hlj; exact hlj
      obtain ⟨h1, h2⟩ := I.val j oj d hj hlj' hoj hdj
      rw [put_other (hdist j i oj o d hj hi hji hoj ho hdj)]
      exact ⟨h1.step step', h2⟩
  · have hne : o.dst ≠ some t := hnone i o hi (by simp [hls, hilt]) ho
    rw [put_other hne]
    exact (I.old t v hg (fun j oj hj hlj hoj => hnone j oj hj (getD_set_true hlj) hoj)).step step'
  · by_cases hr : r < L (i + 1)
    · rcases Nat.lt_or_ge r (L i) with h3 | h3
      · have hp2 : ρ1 r = some p := by
          have hp3 : (if r < L (i + 1) then ρ1 r else ρ r) = some p := hp
          rwa [if_pos hr] at hp3
        cases hρ : ρ r with
        | none =>
          have := G.keepn r (by rw [hlen0]; exact h3) (by simp [Pm.res, h3, hρ])
          rw [this] at hp2; cases hp2
        | some q =>
          rcases I.dom r q hρ with h4 | ⟨j, h4, h5, h6⟩
          · exact .inl h4
          · exact .inr ⟨j, h4, getD_set_true h5, h6⟩
      · exact .inr ⟨i, hi, by simp [hls, hilt], h3, hr⟩
    · have hp' : ρ r = some p := by
        have hp2 : (if r < L (i + 1) then ρ1 r else ρ r) = some p := hp
        rwa [if_neg hr] at hp2
      rcases I.dom r p hp' with h4 | ⟨j, h4, h5, h6⟩
      · exact .inl h4
      · exact .inr ⟨j, h4, getD_set_true h5, h6⟩
  · have h1 := hle (i := 0) (j := i) (by omega) (by omega)
    show (if r < L (i + 1) then ρ1 r else ρ r) = ρ0 r
    rw [if_pos (by omega), keepρ r x (by omega) hx]
    exact I.base r x hr hx
  · have h1 := hle (i := 0) (j := i) (by omega) (by omega)
    show (if r < L (i + 1) then ρ1 r else ρ r) = none
    rw [if_pos (by omega)]
    exact G.keepn r (by rw [hlen0]; omega) (by simp [Pm.res, show r < L i by omega, I.none0 r hr hn])
  · rcases cases' r x p hx hp with ⟨h1, h2⟩ | ⟨h1, h2⟩
    · rcases Nat.lt_or_ge r (L i) with h3 | h3
      · exact I.newb r x p hr hx (oldOf r x p h3 hx h2) hro
      · have := (newBlk r x p h3 h1 hx h2).2
        have := I.size
        omega
    · exact I.newb r x p hr hx h2 hro
  · rw [G.blk b (Nat.lt_of_lt_of_le hb I.size) (fun r x p g1 g2 g3 e => ?_), I.blk b hb hn]
    obtain ⟨k1, k2⟩ := take_some g1
    obtain ⟨_, k3⟩ := res_some g2
    rcases Nat.lt_or_ge r (L 0) with h1 | h1
    · exact hn r x p h1 k2 (by rw [← I.base r x h1 k2]; exact k3) g3 e
    · have := I.newb r x p h1 k2 k3 g3
      omega
end
end Go.Pm
