/- How the small machine's values and memory lie in the model's. -/
import Derived.Test.YtagofldjmcaalaaPmA
set_option linter.unusedVariables false
set_option linter.unusedSimpArgs false
namespace Go.Pm

structure Place where
  b : Nat
  d : Nat
  bs : Nat
abbrev Mp := Nat → Option Place

/-- An address whose row is gone, or has grown since. -/
def Gone (h : Hp) (a : Addr) : Prop := ∃ L, a.spot = some L ∧ a.block < h.length ∧ ∀ x, h[a.block]? = some (some x) → L < x.cells.length

inductive VR (ρ : Mp) (h : Hp) : Value → Value → Prop
  | bool (b) : VR ρ h (.bool b) (.bool b)
  | int (k n) : VR ρ h (.int k n) (.int k n)
  | string (s) : VR ρ h (.string s) (.string s)
  | nilPtr : VR ρ h (.pointer none) (.pointer none)
  | nilFunc : VR ρ h .nilFunc .nilFunc
  | nilSlice : VR ρ h (.slice none 0 0) (.slice none 0 0)
  | ptr (r o : Nat) (x : Row) (p : Place) : h[r]? = some (some x) → ρ r = some p → VR ρ h (.pointer (some ⟨r, o, some x.cells.length⟩)) (.pointer (some ⟨p.b, p.d + o, none⟩))
  | ptrGone (a a' : Addr) : Gone h a → VR ρ h (.pointer (some a)) (.pointer (some a'))
  | sl (r o : Nat) (x : Row) (p : Place) (n c c' : Nat) : h[r]? = some (some x) → ρ r = some p → n ≤ c → c ≤ c' → (x.ro = false → p.d + o + c' * x.sz ≤ p.bs) →
      VR ρ h (.slice (some ⟨r, o, some x.cells.length⟩) n c) (.slice (some ⟨p.b, p.d + o, none⟩) n c')
  | slZero (r o : Nat) (x : Row) (p : Place) (a' : Addr) : h[r]? = some (some x) → ρ r = some p → VR ρ h (.slice (some ⟨r, o, some x.cells.length⟩) 0 0) (.slice (some a') 0 0)
  | slGone (a : Addr) (a' : Option Addr) (n c c' : Nat) : Gone h a → VR ρ h (.slice (some a) n c) (.slice a' n c')
  | func (fn : Fn) (a a' b b' : Array Value) : a.size = a'.size → b.size = b'.size → (∀ (i : Nat) v v', a[i]? = some v → a'[i]? = some v' → VR ρ h v v') →
      (∀ (i : Nat) v v', b[i]? = some v → b'[i]? = some v' → VR ρ h v v') → VR ρ h (.func fn a b) (.func fn a' b')
  | agg (a a' : Array Value) : a.size = a'.size → (∀ (i : Nat) v v', a[i]? = some v → a'[i]? = some v' → VR ρ h v v') → VR ρ h (.agg a) (.agg a')
  | tuple (a a' : Array Value) : a.size = a'.size → (∀ (i : Nat) v v', a[i]? = some v → a'[i]? = some v' → VR ρ h v v') → VR ρ h (.tuple a) (.tuple a')

/-- Lists of values, one by one. -/
def VL (ρ : Mp) (h : Hp) (l l' : List Value) : Prop := l.length = l'.length ∧ ∀ (i : Nat) v v', l[i]? = some v → l'[i]? = some v' → VR ρ h v v'

theorem VL.nil {ρ : Mp} {h : Hp} : VL ρ h [] [] := ⟨rfl, fun i v v' h => by simp at h⟩
theorem VL.cons {ρ : Mp} {h : Hp} {v v' : Value} {l l' : List Value} (hv : VR ρ h v v') (hl : VL ρ h l l') : VL ρ h (v :: l) (v' :: l') := by
  refine ⟨by simp [hl.1], fun i u u' h1 h2 => ?_⟩
  cases i with
  | zero => simp at h1 h2; subst h1; subst h2; exact hv
  | succ i => simp at h1 h2; exact hl.2 i u u' h1 h2
theorem VL.head {ρ : Mp} {h : Hp} {v : Value} {l l' : List Value} (hl : VL ρ h (v :: l) l') : ∃ v' m', l' = v' :: m' ∧ VR ρ h v v' ∧ VL ρ h l m' := by
  cases l' with
  | nil => have := hl.1; simp at this
  | cons v' m' =>
    refine ⟨v', m', rfl, hl.2 0 v v' rfl rfl, by have := hl.1; simpa using this, fun i u u' h1 h2 => hl.2 (i + 1) u u' (by simpa using h1) (by simpa using h2)⟩
theorem VL.nil_left {ρ : Mp} {h : Hp} {l' : List Value} (hl : VL ρ h [] l') : l' = [] := by
  cases l' with
  | nil => rfl
  | cons v m => have := hl.1; simp at this
theorem VL.append {ρ : Mp} {h : Hp} {l l' m m' : List Value} (hl : VL ρ h l l') (hm : VL ρ h m m') : VL ρ h (l ++ m) (l' ++ m') := by
  refine ⟨by simp [hl.1, hm.1], fun i u u' h1 h2 => ?_⟩
  have e := hl.1
  rcases Nat.lt_or_ge i l.length with hi | hi
  · rw [List.getElem?_append_left hi] at h1
    rw [List.getElem?_append_left (by omega)] at h2
    exact hl.2 i u u' h1 h2
  · rw [List.getElem?_append_right hi] at h1
    rw [List.getElem?_append_right (by omega), ← e] at h2
    exact hm.2 _ u u' h1 h2
theorem VL.drop {ρ : Mp} {h : Hp} {l l' : List Value} (hl : VL ρ h l l') (n : Nat) : VL ρ h (l.drop n) (l'.drop n) :=
  ⟨by simp [hl.1], fun i u u' h1 h2 => hl.2 (n + i) u u' (by simpa [List.getElem?_drop] using h1) (by simpa [List.getElem?_drop] using h2)⟩
theorem VL.take {ρ : Mp} {h : Hp} {l l' : List Value} (hl : VL ρ h l l') (n : Nat) : VL ρ h (l.take n) (l'.take n) := by
  refine ⟨by simp [hl.1], fun i u u' h1 h2 => ?_⟩
  rw [List.getElem?_take] at h1 h2
  split at h1
  · rename_i hi; rw [if_pos hi] at h2; exact hl.2 i u u' h1 h2
  · cases h1
theorem VL.set {ρ : Mp} {h : Hp} {l l' : List Value} (hl : VL ρ h l l') (n : Nat) {v v' : Value} (hv : VR ρ h v v') : VL ρ h (l.set n v) (l'.set n v') := by
  refine ⟨by simp [hl.1], fun i u u' h1 h2 => ?_⟩
  have e := hl.1
  rw [List.getElem?_set] at h1 h2
  split at h1
  · rename_i hi
    subst hi
    split at h1
    · rename_i hlt
      simp at h1
      rw [if_pos rfl, if_pos (by omega)] at h2
      simp at h2
      subst h1; subst h2; exact hv
    · cases h1
  · rename_i hi
    rw [if_neg hi] at h2
    exact hl.2 i u u' h1 h2
theorem VL.splice {ρ : Mp} {h : Hp} : ∀ (vs vs' : List Value) (l l' : List Value) (o : Nat), VL ρ h l l' → VL ρ h vs vs' → VL ρ h (splice l o vs) (splice l' o vs')
  | [], vs', l, l', o, hl, hv => by rw [hv.nil_left]; exact hl
  | v :: vs, vs', l, l', o, hl, hv => by
    obtain ⟨v', m', rfl, h1, h2⟩ := hv.head
    exact VL.splice vs m' _ _ (o + 1) (hl.set o h1) h2
theorem splice_length : ∀ (vs l : List Value) (o : Nat), (splice l o vs).length = l.length
  | [], l, o => rfl
  | v :: vs, l, o => by rw [splice, splice_length vs]; simp

/-- From one pair of a memory and its places to a later one: what a value says stays. -/
structure Step (ρ : Mp) (h : Hp) (ρ' : Mp) (h' : Hp) : Prop where
  live : ∀ r x p, h[r]? = some (some x) → ρ r = some p →
    (∃ x', h'[r]? = some (some x') ∧ x'.cells.length = x.cells.length ∧ x'.sz = x.sz ∧ x'.ro = x.ro ∧ ρ' r = some p) ∨
    (r < h'.length ∧ ∀ x', h'[r]? = some (some x') → x.cells.length < x'.cells.length)
  gone : ∀ a, Gone h a → Gone h' a

theorem Step.refl (ρ : Mp) (h : Hp) : Step ρ h ρ h := ⟨fun r x p hx hp => .inl ⟨x, hx, rfl, rfl, rfl, hp⟩, fun _ h => h⟩
theorem Step.trans {ρ ρ1 ρ2 : Mp} {h h1 h2 : Hp} (s : Step ρ h ρ1 h1) (t : Step ρ1 h1 ρ2 h2) : Step ρ h ρ2 h2 := by
  refine ⟨fun r x p hx hp => ?_, fun a ha => t.gone a (s.gone a ha)⟩
  rcases s.live r x p hx hp with ⟨x1, g1, l1, s1, r1, p1⟩ | ⟨hlt, hg⟩
  · rcases t.live r x1 p g1 p1 with ⟨x2, g2, l2, s2, r2, p2⟩ | ⟨hlt, hg⟩
    · exact .inl ⟨x2, g2, l2.trans l1, s2.trans s1, r2.trans r1, p2⟩
    · exact .inr ⟨hlt, fun x' hx' => by have := hg x' hx'; omega⟩
  · have := t.gone ⟨r, 0, some x.cells.length⟩ ⟨_, rfl, hlt, hg⟩
    obtain ⟨L, e, h3, h4⟩ := this
    cases e
    exact .inr ⟨h3, h4⟩

theorem VR.step {ρ ρ' : Mp} {h h' : Hp} (s : Step ρ h ρ' h') {v v' : Value} (hv : VR ρ h v v') : VR ρ' h' v v' := by
  induction hv with
  | bool b => exact .bool b
  | int k n => exact .int k n
  | string s => exact .string s
  | nilPtr => exact .nilPtr
  | nilFunc => exact .nilFunc
  | nilSlice => exact .nilSlice
  | ptr r o x p hx hp =>
    rcases s.live r x p hx hp with ⟨x1, g1, l1, s1, r1, p1⟩ | ⟨hlt, hg⟩
    · rw [← l1]; exact .ptr r o x1 p g1 p1
    · exact .ptrGone _ _ ⟨_, rfl, hlt, hg⟩
  | ptrGone a a' hg => exact .ptrGone a a' (s.gone a hg)
  | sl r o x p n c c' hx hp hn hc hb =>
    rcases s.live r x p hx hp with ⟨x1, g1, l1, s1, r1, p1⟩ | ⟨hlt, hg⟩
    · rw [← l1]; exact .sl r o x1 p n c c' g1 p1 hn hc (by rw [r1, s1]; exact hb)
    · exact .slGone _ _ _ _ _ ⟨_, rfl, hlt, hg⟩
  | slZero r o x p a' hx hp =>
    rcases s.live r x p hx hp with ⟨x1, g1, l1, s1, r1, p1⟩ | ⟨hlt, hg⟩
    · rw [← l1]; exact .slZero r o x1 p a' g1 p1
    · exact .slGone _ _ _ _ _ ⟨_, rfl, hlt, hg⟩
  | slGone a a' n c c' hg => exact .slGone a a' n c c' (s.gone a hg)
  | func fn a a' b b' e1 e2 h1 h2 i1 i2 => exact .func fn a a' b b' e1 e2 (fun i v v' ha hb => i1 i v v' ha hb) (fun i v v' ha hb => i2 i v v' ha hb)
  | agg a a' e h1 i1 => exact .agg a a' e (fun i v v' ha hb => i1 i v v' ha hb)
  | tuple a a' e h1 i1 => exact .tuple a a' e (fun i v v' ha hb => i1 i v v' ha hb)
theorem VL.step {ρ ρ' : Mp} {h h' : Hp} (s : Step ρ h ρ' h') {l l' : List Value} (hl : VL ρ h l l') : VL ρ' h' l l' :=
  ⟨hl.1, fun i v v' h1 h2 => (hl.2 i v v' h1 h2).step s⟩

/-- The memory of the small machine lies in the model's. -/
structure Rel (ρ : Mp) (h : Hp) (w : World) : Prop where
  own : ∀ r x p, h[r]? = some (some x) → ρ r = some p → x.ro = false →
    ∃ c e, w.heap[p.b]? = some (.cells c e (0, 0)) ∧ c.size = p.bs ∧ p.d + x.cells.length ≤ p.bs ∧ ∀ (i : Nat) v, x.cells[i]? = some v → ∃ v', c[p.d + i]? = some v' ∧ VR ρ h v v'
  ro : ∀ r x p, h[r]? = some (some x) → ρ r = some p → x.ro = true → ∀ (i : Nat) v, x.cells[i]? = some v → ∃ v', w.cell? ⟨p.b, p.d + i, none⟩ = some v' ∧ VR ρ h v v'
  inj : ∀ r r' x x' p p', h[r]? = some (some x) → h[r']? = some (some x') → ρ r = some p → ρ r' = some p' → x.ro = false → r ≠ r' → (x'.ro = true → x'.cells ≠ []) → p.b ≠ p'.b
  dom : ∀ r p, ρ r = some p → r < h.length

/-- What a piece of work leaves. -/
structure Go1 (ρ : Mp) (h : Hp) (w : World) (ρ' : Mp) (h' : Hp) (w' : World) : Prop where
  os : w'.os = w.os
  tape : w'.tape = w.tape
  output : w'.output = w.output
  size : w.heap.size ≤ w'.heap.size
  blk : ∀ b, b < w.heap.size → (∀ r x p, h[r]? = some (some x) → ρ r = some p → x.ro = false → p.b ≠ b) → w'.heap[b]? = w.heap[b]?
  orig : ∀ r' x' p', h'[r']? = some (some x') → ρ' r' = some p' → x'.ro = false → w.heap.size ≤ p'.b ∨ ∃ r x p, h[r]? = some (some x) ∧ ρ r = some p ∧ x.ro = false ∧ p.b = p'.b
  step : Step ρ h ρ' h'
  len : h.length ≤ h'.length
  keepn : ∀ r, r < h.length → ρ r = none → ρ' r = none

theorem Go1.refl (ρ : Mp) (h : Hp) (w : World) : Go1 ρ h w ρ h w :=
  ⟨rfl, rfl, rfl, Nat.le_refl _, fun _ _ _ => rfl, fun r x p h1 h2 h3 => .inr ⟨r, x, p, h1, h2, h3, rfl⟩, Step.refl _ _, Nat.le_refl _, fun _ _ e => e⟩
theorem Go1.trans {ρ ρ1 ρ2 : Mp} {h h1 h2 : Hp} {w w1 w2 : World} (a : Go1 ρ h w ρ1 h1 w1) (b : Go1 ρ1 h1 w1 ρ2 h2 w2) : Go1 ρ h w ρ2 h2 w2 := by
  refine ⟨b.os.trans a.os, b.tape.trans a.tape, b.output.trans a.output, Nat.le_trans a.size b.size, fun k hk hn => ?_, fun r' x' p' g1 g2 g3 => ?_, a.step.trans b.step, Nat.le_trans a.len b.len, fun r hr e => b.keepn r (Nat.lt_of_lt_of_le hr a.len) (a.keepn r hr e)⟩
  · rw [b.blk k (Nat.lt_of_lt_of_le hk a.size) (fun r x p g1 g2 g3 e => ?_), a.blk k hk hn]
    rcases a.orig r x p g1 g2 g3 with h4 | ⟨r0, x0, p0, i1, i2, i3, i4⟩
    · omega
    · exact hn r0 x0 p0 i1 i2 i3 (i4.trans e)
  · rcases b.orig r' x' p' g1 g2 g3 with h4 | ⟨r0, x0, p0, i1, i2, i3, i4⟩
    · exact .inl (Nat.le_trans a.size h4)
    · rcases a.orig r0 x0 p0 i1 i2 i3 with h5 | ⟨r1, x1, p1, j1, j2, j3, j4⟩
      · exact .inl (by omega)
      · exact .inr ⟨r1, x1, p1, j1, j2, j3, j4.trans i4⟩
/-- A draw. -/
theorem Go1.drew (ρ : Mp) (h : Hp) (w : World) (n : Nat) : Go1 ρ h w ρ h { w with drawn := n } :=
  ⟨rfl, rfl, rfl, Nat.le_refl _, fun _ _ _ => rfl, fun r x p h1 h2 h3 => .inr ⟨r, x, p, h1, h2, h3, rfl⟩, Step.refl _ _, Nat.le_refl _, fun _ _ e => e⟩
theorem Rel.drew {ρ : Mp} {h : Hp} {w : World} (R : Rel ρ h w) (n : Nat) : Rel ρ h { w with drawn := n } := ⟨R.own, R.ro, R.inj, R.dom⟩

def SR (ρ : Mp) (h : Hp) (s : Slots) (tm : Array Value) : Prop := ∀ t v, get s t = some v → VR ρ h v (tm.getD t undef)
theorem SR.step {ρ ρ' : Mp} {h h' : Hp} {s : Slots} {tm : Array Value} (st : Step ρ h ρ' h') (S : SR ρ h s tm) : SR ρ' h' s tm := fun t v hv => (S t v hv).step st

theorem plainC_vr {ρ : Mp} {h : Hp} {v : Value} (hp : plainC v = true) : VR ρ h v v := by
  unfold plainC at hp
  split at hp
  · exact .bool _
  · exact .int _ _
  · exact .string _
  · exact .nilPtr
  · exact .nilFunc
  · exact .nilSlice
  · cases hp
theorem plain_vr {ρ : Mp} {h : Hp} {v : Value} (hp : plain v = true) : VR ρ h v v := by
  unfold plain at hp
  split at hp
  · rename_i cs
    refine .agg _ _ rfl fun i v v' h1 h2 => ?_
    rw [h1] at h2; cases h2
    exact plainC_vr (List.all_eq_true.1 hp v (by simpa using Array.mem_of_getElem? h1))
  · rename_i cs
    refine .tuple _ _ rfl fun i v v' h1 h2 => ?_
    rw [h1] at h2; cases h2
    exact plainC_vr (List.all_eq_true.1 hp v (by simpa using Array.mem_of_getElem? h1))
  · exact plainC_vr hp
theorem undef_vr {ρ : Mp} {h : Hp} : VR ρ h undef undef := plain_vr (v := .tuple #[]) rfl

theorem ev_vr {ρ : Mp} {h : Hp} {s : Slots} {a : Act} (S : SR ρ h s a.tmps) {x : Operand} {v : Value} (e : ev s x = some v) : VR ρ h v (a.eval x) := by
  cases x with
  | tmp t => exact S t v e
  | const u =>
    simp only [ev] at e
    split at e
    · rename_i hp; cases e; exact plain_vr hp
    · cases e
  | global g => cases e
  | func f => cases e; exact .func _ _ _ _ _ rfl rfl (fun i v v' h => by simp at h) (fun i v v' h => by simp at h)
theorem evs_vl {ρ : Mp} {h : Hp} {s : Slots} {a : Act} (S : SR ρ h s a.tmps) : ∀ (xs : List Operand) (l : List Value), evs s xs = some l → VL ρ h l (xs.map a.eval)
  | [], l, e => by cases e; exact VL.nil
  | x :: xs, l, e => by
    simp only [evs] at e
    obtain ⟨v, hv, e⟩ := Option.bind_eq_some_iff.1 e
    obtain ⟨m, hm, rfl⟩ := Option.map_eq_some_iff.1 e
    exact VL.cons (ev_vr S hv) (evs_vl S xs m hm)

theorem VR.cells {ρ : Mp} {h : Hp} {v v' : Value} (hv : VR ρ h v v') : VL ρ h v.cells.toList v'.cells.toList := by
  cases hv with
  | agg a a' e h1 => exact ⟨by simpa [Value.cells] using e, fun i u u' g1 g2 => h1 i u u' (by simpa [Value.cells] using g1) (by simpa [Value.cells] using g2)⟩
  | _ => refine VL.cons ?_ VL.nil; constructor <;> assumption
theorem VR.one {ρ : Mp} {h : Hp} {v v' : Value} (hv : VR ρ h v v') : one v = v'.oneCell' := by cases hv <;> rfl
theorem VL.one {ρ : Mp} {h : Hp} {l l' : List Value} (hl : VL ρ h l l') (e : l.all Pm.one = true) : ∀ v ∈ l', v.oneCell' = true := by
  intro v' hv'
  obtain ⟨i, hi⟩ := List.getElem?_of_mem hv'
  have hlt : i < l.length := by have := (List.getElem?_eq_some_iff.1 hi).1; have := hl.1; omega
  have := hl.2 i _ v' (List.getElem?_eq_getElem hlt) hi
  rw [← this.one]
  exact List.all_eq_true.1 e _ (List.getElem_mem hlt)

theorem get_put {s : Slots} {d : Option Tmp} {v : Value} {t : Nat} : get (put s d v) t = if d = some t then some v else get s t := by
  cases d with
  | none => simp [put]
  | some d => simp [put, get]
theorem SR.put {ρ : Mp} {h : Hp} {s : Slots} {a : Act} (S : SR ρ h s a.tmps) {d : Option Tmp} {v v' : Value} (hd : dstOk a.tmps.size d = true) (hv : VR ρ h v v') : SR ρ h (put s d v) (a.put d v').tmps := by
  intro t u hu
  rw [get_put] at hu
  cases d with
  | none => simp at hu; exact S t u hu
  | some d =>
    simp only [dstOk, decide_eq_true_eq] at hd
    simp only [Act.put]
    by_cases e : d = t
    · subst e
      simp at hu; subst hu
      simpa [Array.getElem?_setIfInBounds, hd] using hv
    · rw [if_neg (by simpa using e)] at hu
      have := S t u hu
      simpa [Array.getElem?_setIfInBounds_ne e] using this
theorem get_keep {K : List Nat} {s : Slots} {t : Nat} {v : Value} (h : get (keep K s) t = some v) : get s t = some v := by
  induction K with
  | nil => simp [keep, get] at h
  | cons k K ih =>
    simp only [keep, List.filterMap_cons] at h
    cases hk : get s k with
    | none => simp [hk] at h; exact ih h
    | some u =>
      simp [hk, get] at h
      split at h
      · rename_i e; subst e; rw [hk]; exact h
      · exact ih h
theorem SR.keep {ρ : Mp} {h : Hp} {s : Slots} {tm : Array Value} (S : SR ρ h s tm) (K : List Nat) : SR ρ h (keep K s) tm := fun t v hv => S t v (get_keep hv)
end Go.Pm
