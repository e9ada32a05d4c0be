/- Operations that may come up in any order. -/
import Derived.Test.YtagofldjmcaalaaPmI
set_option linter.unusedVariables false
set_option linter.unusedSimpArgs false
namespace Go.Pm
variable {P : Program} {ρ : Mp} {h : Hp} {w : World}

/-- All that a value leads to lies below row L. -/
inductive Cl (L : Nat) : Value → Prop
  | bool (b) : Cl L (.bool b)
  | int (k n) : Cl L (.int k n)
  | string (s) : Cl L (.string s)
  | nilPtr : Cl L (.pointer none)
  | nilFunc : Cl L .nilFunc
  | nilSlice : Cl L (.slice none 0 0)
  | ptr (a : Addr) : a.block < L → Cl L (.pointer (some a))
  | sl (a : Addr) (n c : Nat) : a.block < L → Cl L (.slice (some a) n c)
  | func (fn : Fn) (a b : Array Value) : (∀ (i : Nat) v, a[i]? = some v → Cl L v) → (∀ (i : Nat) v, b[i]? = some v → Cl L v) → Cl L (.func fn a b)
  | agg (a : Array Value) : (∀ (i : Nat) v, a[i]? = some v → Cl L v) → Cl L (.agg a)
  | tuple (a : Array Value) : (∀ (i : Nat) v, a[i]? = some v → Cl L v) → Cl L (.tuple a)

theorem get_same {a a' : Array Value} (e : a.size = a'.size) {i : Nat} {v : Value} (h : a[i]? = some v) : ∃ v', a'[i]? = some v' := by
  have := (Array.getElem?_eq_some_iff.1 h).1
  exact ⟨a'[i], by simp [show i < a'.size by omega]⟩

theorem VR.cl {v v' : Value} (hv : VR ρ h v v') : Cl h.length v := by
  induction hv with
  | bool b => exact .bool b
  | int k n => exact .int k n
  | string s => exact .string s
  | nilPtr => exact .nilPtr
  | nilFunc => exact .nilFunc
  | nilSlice => exact .nilSlice
  | ptr r o x p hx hp => exact .ptr _ (List.getElem?_eq_some_iff.1 hx).1
  | ptrGone a a' hg => obtain ⟨L, _, h2, _⟩ := hg; exact .ptr _ h2
  | sl r o x p n c c' hx hp hn hc hb => exact .sl _ _ _ (List.getElem?_eq_some_iff.1 hx).1
  | slZero r o x p a' hx hp => exact .sl _ _ _ (List.getElem?_eq_some_iff.1 hx).1
  | slGone a a' n c c' hg => obtain ⟨L, _, h2, _⟩ := hg; exact .sl _ _ _ h2
  | func fn a a' b b' e1 e2 h1 h2 i1 i2 =>
    exact .func fn a b (fun i v hi => by obtain ⟨v', hv'⟩ := get_same e1 hi; exact i1 i v v' hi hv') (fun i v hi => by obtain ⟨v', hv'⟩ := get_same e2 hi; exact i2 i v v' hi hv')
  | agg a a' e h1 i1 => exact .agg a (fun i v hi => by obtain ⟨v', hv'⟩ := get_same e hi; exact i1 i v v' hi hv')
  | tuple a a' e h1 i1 => exact .tuple a (fun i v hi => by obtain ⟨v', hv'⟩ := get_same e hi; exact i1 i v v' hi hv')
theorem Cl.mono {L L' : Nat} (hl : L ≤ L') {v : Value} (c : Cl L v) : Cl L' v := by
  induction c with
  | bool b => exact .bool b
  | int k n => exact .int k n
  | string s => exact .string s
  | nilPtr => exact .nilPtr
  | nilFunc => exact .nilFunc
  | nilSlice => exact .nilSlice
  | ptr a ha => exact .ptr a (by omega)
  | sl a n c ha => exact .sl a n c (by omega)
  | func fn a b _ _ i1 i2 => exact .func fn a b (fun i v hi => i1 i v hi) (fun i v hi => i2 i v hi)
  | agg a _ i1 => exact .agg a (fun i v hi => i1 i v hi)
  | tuple a _ i1 => exact .tuple a (fun i v hi => i1 i v hi)

/-- The places of the rows below L alone. -/
def res (ρ : Mp) (L : Nat) : Mp := fun r => if r < L then ρ r else none
theorem take_get {H : Hp} {L r : Nat} (hr : r < L) : (H.take L)[r]? = H[r]? := by rw [List.getElem?_take, if_pos hr]
theorem take_some {H : Hp} {L r : Nat} {y : Option Row} (e : (H.take L)[r]? = some y) : r < L ∧ H[r]? = some y := by
  rw [List.getElem?_take] at e
  split at e
  · exact ⟨by assumption, e⟩
  · cases e
theorem res_some {L r : Nat} {p : Place} (e : res ρ L r = some p) : r < L ∧ ρ r = some p := by
  unfold res at e
  split at e
  · exact ⟨by assumption, e⟩
  · cases e

theorem VR.res {H : Hp} {L : Nat} {v v' : Value} (hv : VR ρ H v v') (c : Cl L v) : VR (Pm.res ρ L) (H.take L) v v' := by
  have hg : ∀ a : Addr, a.block < L → Gone H a → Gone (H.take L) a := by
    intro a ha ⟨K, h1, h2, h3⟩
    exact ⟨K, h1, by simp; omega, fun x hx => h3 x (take_some hx).2⟩
  have hp : ∀ {r : Nat} {p : Place}, r < L → ρ r = some p → Pm.res ρ L r = some p := by
    intro r p hr hp
    simp [Pm.res, hr, hp]
  induction hv with
  | bool b => exact .bool b
  | int k n => exact .int k n
  | string s => exact .string s
  | nilPtr => exact .nilPtr
  | nilFunc => exact .nilFunc
  | nilSlice => exact .nilSlice
  | ptr r o x p hx hp' => cases c with | ptr _ ha => exact .ptr r o x p (by rw [take_get ha]; exact hx) (hp ha hp')
  | ptrGone a a' hg' => cases c with | ptr _ ha => exact .ptrGone a a' (hg a ha hg')
  | sl r o x p n c1 c' hx hp' hn hc hb => cases c with | sl _ _ _ ha => exact .sl r o x p n c1 c' (by rw [take_get ha]; exact hx) (hp ha hp') hn hc hb
  | slZero r o x p a' hx hp' => cases c with | sl _ _ _ ha => exact .slZero r o x p a' (by rw [take_get ha]; exact hx) (hp ha hp')
  | slGone a a' n c1 c' hg' => cases c with | sl _ _ _ ha => exact .slGone a a' n c1 c' (hg a ha hg')
  | func fn a a' b b' e1 e2 h1 h2 i1 i2 => cases c with | func _ _ _ g1 g2 => exact .func fn a a' b b' e1 e2 (fun i v v' ha hb => i1 i v v' ha hb (g1 i v ha)) (fun i v v' ha hb => i2 i v v' ha hb (g2 i v ha))
  | agg a a' e h1 i1 => cases c with | agg _ g1 => exact .agg a a' e (fun i v v' ha hb => i1 i v v' ha hb (g1 i v ha))
  | tuple a a' e h1 i1 => cases c with | tuple _ g1 => exact .tuple a a' e (fun i v v' ha hb => i1 i v v' ha hb (g1 i v ha))

theorem step_ext {H : Hp} {L : Nat} (hL : L ≤ H.length) {ρ1 ρ' : Mp} (hρ : ∀ r x p, r < L → H[r]? = some (some x) → ρ1 r = some p → ρ' r = some p) : Step ρ1 (H.take L) ρ' H :=
  ⟨fun r x p hx hp => by
    obtain ⟨h1, h2⟩ := take_some hx
    exact .inl ⟨x, h2, rfl, rfl, rfl, hρ r x p h1 h2 hp⟩, fun a ⟨K, h1, h2, h3⟩ => by
    have h2' : a.block < L := by simp at h2; omega
    exact ⟨K, h1, by omega, fun x hx => h3 x (by rw [take_get h2']; exact hx)⟩⟩

theorem Rel.res {H : Hp} {L : Nat} (R : Rel ρ H w) (hc : ∀ r x p, H[r]? = some (some x) → ρ r = some p → r < L → ∀ v, v ∈ x.cells → Cl L v) : Rel (Pm.res ρ L) (H.take L) w := by
  refine ⟨fun r x p hx hp hr => ?_, fun r x p hx hp hr i v hi => ?_, fun r r' x x' p p' hx hx' hp hp' hr hne hro => ?_, fun r p hp => ?_⟩
  · obtain ⟨h1, h2⟩ := take_some hx
    obtain ⟨_, h3⟩ := res_some hp
    obtain ⟨c, e, g1, g2, g3, g4⟩ := R.own r x p h2 h3 hr
    refine ⟨c, e, g1, g2, g3, fun i v hi => ?_⟩
    obtain ⟨v', k1, k2⟩ := g4 i v hi
    exact ⟨v', k1, k2.res (hc r x p h2 h3 h1 v (List.mem_of_getElem? hi))⟩
  · obtain ⟨h1, h2⟩ := take_some hx
    obtain ⟨_, h3⟩ := res_some hp
    obtain ⟨v', k1, k2⟩ := R.ro r x p h2 h3 hr i v hi
    exact ⟨v', k1, k2.res (hc r x p h2 h3 h1 v (List.mem_of_getElem? hi))⟩
  · exact R.inj r r' x x' p p' (take_some hx).2 (take_some hx').2 (res_some hp).2 (res_some hp').2 hr hne hro
  · obtain ⟨h1, h2⟩ := res_some hp
    have := R.dom r p h2
    simp; omega

/-! ### a run in the text's order, as its steps -/
structure Tr (F : Oper → St → Option (Value × Hp)) (N : Nat) (ops : Array Oper) (l : List Oper) (st st1 : St) (V : Nat → Value) (L : Nat → Nat) (X : Nat → Slots) : Prop where
  h0 : L 0 = st.h.length
  x0 : X 0 = st.s
  pre : st.h = st1.h.take (L 0)
  hn : L l.length = st1.h.length
  xn : X l.length = st1.s
  mono : ∀ i, i < l.length → L i ≤ L (i + 1)
  step : ∀ i o, l[i]? = some o → dstOk N o.dst = true ∧ X (i + 1) = put (X i) o.dst (V i) ∧
    ((wantP ops (keep (o.looksAt ops) (X i)) o = some false ∧ V i = undef ∧ L (i + 1) = L i) ∨
     (wantP ops (keep (o.looksAt ops) (X i)) o = some true ∧ F o ⟨keep (o.looksAt ops) (X i), st1.h.take (L i)⟩ = some (V i, st1.h.take (L (i + 1)))))
  own : ∀ i, i < l.length → ∀ r x, L i ≤ r → r < L (i + 1) → st1.h[r]? = some (some x) → x.ro = false

theorem trace (F : Oper → St → Option (Value × Hp)) (N : Nat) (ops : Array Oper) : ∀ (l : List Oper) (st st1 : St), runH F N ops l st = some st1 → ∃ V L X, Tr F N ops l st st1 V L X
  | [], st, st1, e => by
    cases e
    exact ⟨fun _ => undef, fun _ => st.h.length, fun _ => st.s, rfl, rfl, by simp, rfl, rfl, fun i hi => by simp at hi, fun i o hi => by simp at hi, fun i hi => by simp at hi⟩
  | o :: r, st, st1, e => by
    simp only [runH] at e
    split at e
    · rename_i hdst
      have build : ∀ (v : Value) (h' : Hp), st.h <+: h' → (∀ r x, st.h.length ≤ r → h'[r]? = some (some x) → x.ro = false) → runH F N ops r ⟨put st.s o.dst v, h'⟩ = some st1 →
          (∀ H : Hp, h' <+: H → (wantP ops (keep (o.looksAt ops) st.s) o = some false ∧ v = undef ∧ h'.length = st.h.length) ∨
            (wantP ops (keep (o.looksAt ops) st.s) o = some true ∧ F o ⟨keep (o.looksAt ops) st.s, H.take st.h.length⟩ = some (v, H.take h'.length))) → ∃ V L X, Tr F N ops (o :: r) st st1 V L X := by
        intro v h' hpre hown hrun hst
        obtain ⟨V, L, X, T⟩ := trace F N ops r _ st1 hrun
        have h0 : L 0 = h'.length := T.h0
        have hpre1 : h' <+: st1.h := by
          have := T.pre
          rw [h0] at this
          exact List.prefix_iff_eq_take.2 this
        refine ⟨fun i => match i with | 0 => v | i + 1 => V i, fun i => match i with | 0 => st.h.length | i + 1 => L i, fun i => match i with | 0 => st.s | i + 1 => X i, rfl, rfl, List.prefix_iff_eq_take.1 (hpre.trans hpre1), ?_, ?_, fun i hi => ?_, fun i q hi => ?_, fun i hi k x h1 h2 h3 => ?_⟩
        · exact T.hn
        · exact T.xn
        · cases i with
          | zero => show st.h.length ≤ L 0; rw [h0]; exact hpre.length_le
          | succ i => exact T.mono i (by simpa using hi)
        · cases i with
          | zero =>
            simp only [List.getElem?_cons_zero, Option.some.injEq] at hi
            subst hi
            refine ⟨hdst, T.x0, ?_⟩
            have := hst st1.h hpre1
            show (wantP ops (keep (o.looksAt ops) st.s) o = some false ∧ v = undef ∧ L 0 = st.h.length) ∨ (wantP ops (keep (o.looksAt ops) st.s) o = some true ∧ F o ⟨keep (o.looksAt ops) st.s, st1.h.take st.h.length⟩ = some (v, st1.h.take (L 0)))
            rw [h0]
            exact this
          | succ i => exact T.step i q (by simpa using hi)
        · cases i with
          | zero =>
            have h2' : k < h'.length := by
              have h2'' : k < L 0 := h2
              rwa [h0] at h2''
            refine hown k x h1 ?_
            have := List.prefix_iff_eq_take.1 hpre1
            rw [this, take_get h2']
            exact h3
          | succ i => exact T.own i (by simpa using hi) k x h1 h2 h3
      split at e
      · rename_i hw
        refine build undef st.h List.prefix_rfl (fun r x h1 h2 => ?_) e (fun H hH => .inl ⟨hw, rfl, rfl⟩)
        have := (List.getElem?_eq_some_iff.1 h2).1
        omega
      · rename_i hw
        split at e
        · rename_i v h' hF
          split at e
          · rename_i hnew
            refine build v h' hnew.1 (fun r x h1 h2 => ?_) e (fun H hH => .inr ⟨hw, ?_⟩)
            · have := List.all_eq_true.1 hnew.2 (some x) (List.mem_of_getElem? (i := r - st.h.length) (by rw [List.getElem?_drop, show st.h.length + (r - st.h.length) = r by omega]; exact h2))
              simpa using this
            · rw [← List.prefix_iff_eq_take.1 (hnew.1.trans hH), ← List.prefix_iff_eq_take.1 hH]
              exact hF
          · cases e
        · cases e
      · cases e
    · cases e

/-- What a slot holds in the text's order. -/
theorem slots_at {F : Oper → St → Option (Value × Hp)} {N : Nat} {ops : Array Oper} {l : List Oper} {st st1 : St} {V : Nat → Value} {L : Nat → Nat} {X : Nat → Slots} (T : Tr F N ops l st st1 V L X) :
    ∀ (i : Nat), i ≤ l.length → ∀ t v, get (X i) t = some v → (∃ j o, j < i ∧ l[j]? = some o ∧ o.dst = some t ∧ v = V j) ∨ ((∀ j o, j < i → l[j]? = some o → o.dst ≠ some t) ∧ get st.s t = some v)
  | 0, _, t, v, e => by rw [T.x0] at e; exact .inr ⟨fun j o hj => by omega, e⟩
  | i + 1, hi, t, v, e => by
    obtain ⟨o, ho⟩ : ∃ o, l[i]? = some o := ⟨l[i], List.getElem?_eq_getElem (by omega)⟩
    obtain ⟨_, h2, _⟩ := T.step i o ho
    rw [h2, get_put] at e
    split at e
    · rename_i hd
      cases e
      exact .inl ⟨i, o, by omega, ho, hd, rfl⟩
    · rename_i hd
      rcases slots_at T i (by omega) t v e with ⟨j, o', h3, h4, h5, h6⟩ | ⟨h3, h4⟩
      · exact .inl ⟨j, o', by omega, h4, h5, h6⟩
      · refine .inr ⟨fun j o' hj ho' => ?_, h4⟩
        by_cases hji : j = i
        · subst hji; rw [ho] at ho'; cases ho'; exact hd
        · exact h3 j o' (by omega) ho'

theorem Tr.le {F : Oper → St → Option (Value × Hp)} {N : Nat} {ops : Array Oper} {l : List Oper} {st st1 : St} {V : Nat → Value} {L : Nat → Nat} {X : Nat → Slots} (T : Tr F N ops l st st1 V L X) {i j : Nat} (hij : i ≤ j) (hj : j ≤ l.length) : L i ≤ L j := by
  induction j with
  | zero => have : i = 0 := by omega
            subst this; exact Nat.le_refl _
  | succ j ih =>
    by_cases h : i = j + 1
    · subst h; exact Nat.le_refl _
    · exact Nat.le_trans (ih (by omega) (by omega)) (T.mono j (by omega))
end Go.Pm
