/- Memory: read, made, written, in both machines. -/
import Derived.Test.YtagofldjmcaalaaPmB
import Derived.Laws.CopyRow
import Derived.Laws.MakeOwn
set_option linter.unusedVariables false
namespace Go.Pm
variable {P : Program} {ρ : Mp} {h : Hp} {w : World}

theorem add_none (b o n : Nat) : (⟨b, o, none⟩ : Addr).add n = ⟨b, o + n, none⟩ := by
  unfold Addr.add
  split <;> simp_all

theorem Rel.cell (R : Rel ρ h w) {r : Nat} {x : Row} {p : Place} (hx : h[r]? = some (some x)) (hp : ρ r = some p) {i : Nat} {v : Value} (hi : x.cells[i]? = some v) :
    ∃ v', w.cell? ⟨p.b, p.d + i, none⟩ = some v' ∧ VR ρ h v v' := by
  cases e : x.ro with
  | true => exact R.ro r x p hx hp e i v hi
  | false =>
    obtain ⟨c, t, hb, _, _, hc⟩ := R.own r x p hx hp e
    obtain ⟨v', h1, h2⟩ := hc i v hi
    exact ⟨v', by simp [World.cell?, hb, h1], h2⟩

theorem Rel.seg (R : Rel ρ h w) {r : Nat} {x : Row} {p : Place} (hx : h[r]? = some (some x)) (hp : ρ r = some p) (o n : Nat) :
    ∃ l', VL ρ h ((x.cells.drop o).take n) l' ∧ ∀ (j : Nat) v, l'[j]? = some v → w.cell? ((⟨p.b, p.d + o, none⟩ : Addr).add j) = some v := by
  refine ⟨(List.range ((x.cells.drop o).take n).length).map fun j => (w.cell? ⟨p.b, p.d + o + j, none⟩).getD undef, ⟨by simp, fun i v v' h1 h2 => ?_⟩, fun j v hj => ?_⟩
  · rw [List.getElem?_map] at h2
    have hlt : i < ((x.cells.drop o).take n).length := (List.getElem?_eq_some_iff.1 h1).1
    rw [List.getElem?_range hlt] at h2
    simp only [Option.map_some, Option.some.injEq] at h2
    have h3 : x.cells[o + i]? = some v := by
      rw [List.getElem?_take] at h1
      split at h1
      · rwa [List.getElem?_drop] at h1
      · cases h1
    obtain ⟨u, hu, hv⟩ := R.cell hx hp h3
    rw [← Nat.add_assoc] at hu
    rw [hu] at h2
    cases h2
    exact hv
  · rw [List.getElem?_map] at hj
    have hlt : j < ((x.cells.drop o).take n).length := by
      rcases Nat.lt_or_ge j ((x.cells.drop o).take n).length with h1 | h1
      · exact h1
      · rw [List.getElem?_eq_none (by simpa using h1)] at hj; cases hj
    rw [List.getElem?_range hlt] at hj
    simp only [Option.map_some, Option.some.injEq] at hj
    have h3 : x.cells[o + j]? = some (((x.cells.drop o).take n)[j]) := by
      have := List.getElem?_eq_getElem hlt
      rw [List.getElem?_take] at this
      split at this
      · rwa [List.getElem?_drop] at this
      · cases this
    obtain ⟨u, hu, hv⟩ := R.cell hx hp h3
    rw [← Nat.add_assoc] at hu
    rw [hu] at hj
    rw [add_none, hu]
    exact congrArg some hj

theorem Rel.lt (R : Rel ρ h w) {r : Nat} {x : Row} {p : Place} (hx : h[r]? = some (some x)) (hp : ρ r = some p) (hn : x.ro = true → x.cells ≠ []) : p.b < w.heap.size := by
  cases e : x.ro with
  | true =>
    have := hn e
    obtain ⟨v, hv⟩ : ∃ v, x.cells[0]? = some v := by
      cases hc : x.cells with
      | nil => exact absurd hc this
      | cons v l => exact ⟨v, rfl⟩
    obtain ⟨v', h1, _⟩ := R.ro r x p hx hp e 0 v hv
    exact World.block_lt_of_cell? w _ h1
  | false =>
    obtain ⟨c, t, hb, _⟩ := R.own r x p hx hp e
    exact (Array.getElem?_eq_some_iff.1 hb).1

/-! ### a new row -/
def upd (ρ : Mp) (r : Nat) (p : Place) : Mp := fun k => if k = r then some p else ρ k

theorem get_app {h : Hp} {x : Option Row} {r : Nat} {y : Option Row} (e : (h ++ [x])[r]? = some y) : (r < h.length ∧ h[r]? = some y) ∨ (r = h.length ∧ y = x) := by
  rcases Nat.lt_or_ge r h.length with hl | hl
  · rw [List.getElem?_append_left hl] at e; exact .inl ⟨hl, e⟩
  · rw [List.getElem?_append_right hl] at e
    have hz : r - h.length = 0 := by
      rcases Nat.eq_zero_or_pos (r - h.length) with hz | hz
      · exact hz
      · rw [List.getElem?_eq_none (by simp; omega)] at e; cases e
    rw [hz] at e
    simp at e
    exact .inr ⟨by omega, e.symm⟩

theorem step_new (R : Rel ρ h w) (x : Row) (p : Place) : Step ρ h (upd ρ h.length p) (h ++ [some x]) := by
  refine ⟨fun r y q hy hq => .inl ⟨y, ?_, rfl, rfl, rfl, ?_⟩, fun a ⟨L, e, hlt, hg⟩ => ⟨L, e, by simp; omega, fun y hy => ?_⟩⟩
  · rw [List.getElem?_append_left (R.dom r q hq)]; exact hy
  · have := R.dom r q hq
    simp [upd, Nat.ne_of_lt this, hq]
  · rcases get_app hy with ⟨_, h1⟩ | ⟨h1, _⟩
    · exact hg y h1
    · omega

theorem Rel.new (R : Rel ρ h w) {l l' : List Value} (hl : VL ρ h l l') (sz : Nat) (e : TypeId) :
    Rel (upd ρ h.length ⟨w.heap.size, 0, l.length⟩) (h ++ [some ⟨l, sz, false⟩]) (w.alloc (.cells l'.toArray e)) ∧
    Go1 ρ h w (upd ρ h.length ⟨w.heap.size, 0, l.length⟩) (h ++ [some ⟨l, sz, false⟩]) (w.alloc (.cells l'.toArray e)) := by
  have st := step_new R ⟨l, sz, false⟩ ⟨w.heap.size, 0, l.length⟩
  have old : ∀ r p, upd ρ h.length ⟨w.heap.size, 0, l.length⟩ r = some p → r < h.length → ρ r = some p := by
    intro r p hp hr
    simpa [upd, Nat.ne_of_lt hr] using hp
  have new : ∀ p, upd ρ h.length ⟨w.heap.size, 0, l.length⟩ h.length = some p → p = ⟨w.heap.size, 0, l.length⟩ := by
    intro p hp
    simp [upd] at hp
    exact hp.symm
  have blk : ∀ b, b < w.heap.size → (w.alloc (.cells l'.toArray e)).heap[b]? = w.heap[b]? := by
    intro b hb
    show (w.heap.push _)[b]? = _
    rw [Array.getElem?_push, if_neg (by omega)]
  have newb : (w.alloc (.cells l'.toArray e)).heap[w.heap.size]? = some (.cells l'.toArray e) := by
    show (w.heap.push _)[w.heap.size]? = _
    simp
  refine ⟨⟨fun r x p hx hp hr => ?_, fun r x p hx hp hr i v hi => ?_, fun r r' x x' p p' hx hx' hp hp' hr hne hro => ?_, fun r p hp => ?_⟩, ⟨rfl, rfl, rfl, by simp, fun b hb _ => blk b hb, fun r x p hx hp hr => ?_, st, by simp, fun r hr e => by simpa [upd, Nat.ne_of_lt hr] using e⟩⟩
  · rcases get_app hx with ⟨hlt, h1⟩ | ⟨rfl, h1⟩
    · obtain ⟨c, t, hb, h2, h3, h4⟩ := R.own r x p h1 (old r p hp hlt) hr
      refine ⟨c, t, by rw [blk _ (Array.getElem?_eq_some_iff.1 hb).1]; exact hb, h2, h3, fun i v hi => ?_⟩
      obtain ⟨v', h5, h6⟩ := h4 i v hi
      exact ⟨v', h5, h6.step st⟩
    · obtain rfl := new p hp
      obtain rfl : x = ⟨l, sz, false⟩ := Option.some.inj h1
      refine ⟨l'.toArray, e, newb, by simp [hl.1], by simp, fun i v hi => ?_⟩
      have hi' : i < l'.length := by have := (List.getElem?_eq_some_iff.1 hi).1; have := hl.1; simp at *; omega
      exact ⟨l'[i], by simp [hi'], (hl.2 i v _ hi (List.getElem?_eq_getElem hi')).step st⟩
  · rcases get_app hx with ⟨hlt, h1⟩ | ⟨rfl, h1⟩
    · obtain ⟨v', h5, h6⟩ := R.ro r x p h1 (old r p hp hlt) hr i v hi
      exact ⟨v', by rw [World.cell?_alloc_lt w _ _ (World.block_lt_of_cell? w _ h5)]; exact h5, h6.step st⟩
    · obtain rfl : x = ⟨l, sz, false⟩ := Option.some.inj h1
      cases hr
  · rcases get_app hx with ⟨hlt, h1⟩ | ⟨rfl, h1⟩
    · rcases get_app hx' with ⟨hlt', h1'⟩ | ⟨rfl, h1'⟩
      · exact R.inj r r' x x' p p' h1 h1' (old r p hp hlt) (old r' p' hp' hlt') hr hne hro
      · obtain rfl := new p' hp'
        have := R.lt h1 (old r p hp hlt) (fun h => by rw [hr] at h; cases h)
        show p.b ≠ w.heap.size
        omega
    · rcases get_app hx' with ⟨hlt', h1'⟩ | ⟨rfl, h1'⟩
      · obtain rfl := new p hp
        have := R.lt h1' (old r' p' hp' hlt') hro
        show w.heap.size ≠ p'.b
        omega
      · exact absurd rfl hne
  · by_cases hr : r = h.length
    · simp; omega
    · have : ρ r = some p := by simpa [upd, hr] using hp
      have := R.dom r p this
      simp; omega
  · rcases get_app hx with ⟨hlt, h1⟩ | ⟨rfl, h1⟩
    · exact .inr ⟨r, x, p, h1, old r p hp hlt, hr, rfl⟩
    · obtain rfl := new p hp
      exact .inl (Nat.le_refl _)

theorem new_ptr (h : Hp) (l : List Value) (sz : Nat) (o : Nat) (b : Nat) : VR (upd ρ h.length ⟨b, 0, l.length⟩) (h ++ [some ⟨l, sz, false⟩]) (.pointer (some ⟨h.length, o, some l.length⟩)) (.pointer (some ⟨b, o, none⟩)) := by
  have := VR.ptr (ρ := upd ρ h.length ⟨b, 0, l.length⟩) (h := h ++ [some ⟨l, sz, false⟩]) h.length o ⟨l, sz, false⟩ ⟨b, 0, l.length⟩ (by simp) (by simp [upd])
  simpa using this
theorem new_slice (h : Hp) (l : List Value) (sz n c b : Nat) (hn : n ≤ c) (hc : c * sz ≤ l.length) : VR (upd ρ h.length ⟨b, 0, l.length⟩) (h ++ [some ⟨l, sz, false⟩]) (.slice (some ⟨h.length, 0, some l.length⟩) n c) (.slice (some ⟨b, 0, none⟩) n c) := by
  have := VR.sl (ρ := upd ρ h.length ⟨b, 0, l.length⟩) (h := h ++ [some ⟨l, sz, false⟩]) h.length 0 ⟨l, sz, false⟩ ⟨b, 0, l.length⟩ n c c (by simp) (by simp [upd]) hn (Nat.le_refl _) (fun _ => by simpa using hc)
  simpa using this

/-! ### a row is written: its length stays -/
theorem get_set {h : Hp} {r k : Nat} {x : Option Row} {y : Option Row} (e : (h.set r x)[k]? = some y) : (k = r ∧ y = x ∧ r < h.length) ∨ (k ≠ r ∧ h[k]? = some y) := by
  rw [List.getElem?_set] at e
  split at e
  · rename_i hk
    split at e
    · exact .inl ⟨hk.symm, (Option.some.inj e).symm, by omega⟩
    · cases e
  · rename_i hk
    exact .inr ⟨fun h => hk h.symm, e⟩

theorem step_set {x x' : Row} {r : Nat} (hx : h[r]? = some (some x)) (hl : x'.cells.length = x.cells.length) (hs : x'.sz = x.sz) (hr : x'.ro = x.ro) : Step ρ h ρ (h.set r (some x')) := by
  refine ⟨fun k y p hy hp => .inl ?_, fun a ⟨L, e, hlt, hg⟩ => ⟨L, e, by simpa using hlt, fun y hy => ?_⟩⟩
  · by_cases hk : k = r
    · subst hk
      rw [hx] at hy
      cases hy
      have hlt : k < h.length := (List.getElem?_eq_some_iff.1 hx).1
      exact ⟨x', by simp [hlt], hl, hs, hr, hp⟩
    · exact ⟨y, by rw [List.getElem?_set_ne (fun e => hk e.symm)]; exact hy, rfl, rfl, rfl, hp⟩
  · rcases get_set hy with ⟨h1, h2, _⟩ | ⟨_, h1⟩
    · obtain rfl : y = x' := Option.some.inj h2
      have := hg x (h1 ▸ hx)
      omega
    · exact hg y h1

theorem Rel.write (R : Rel ρ h w) {r : Nat} {x : Row} {p : Place} (hx : h[r]? = some (some x)) (hp : ρ r = some p) (hro : x.ro = false)
    {cells : List Value} (hlen : cells.length = x.cells.length) {c c2 : Array Value} {e : TypeId} (hc : w.heap[p.b]? = some (.cells c e (0, 0))) (hsz : c2.size = c.size)
    (hcells : ∀ (i : Nat) v, cells[i]? = some v → ∃ v', c2[p.d + i]? = some v' ∧ VR ρ h v v') :
    Rel ρ (h.set r (some { x with cells := cells })) (w.setRow p.b c2) ∧ Go1 ρ h w ρ (h.set r (some { x with cells := cells })) (w.setRow p.b c2) := by
  have st : Step ρ h ρ (h.set r (some { x with cells := cells })) := step_set hx hlen rfl rfl
  have hnew : (w.setRow p.b c2).heap[p.b]? = some (.cells c2 e (0, 0)) := setRow_heap w p.b c c2 e _ hc
  have hoth : ∀ b, b ≠ p.b → (w.setRow p.b c2).heap[b]? = w.heap[b]? := fun b hb => setRow_other w p.b b c2 hb
  obtain ⟨c', t', hb', hsz', hd', hc'⟩ := R.own r x p hx hp hro
  rw [hc] at hb'
  cases hb'
  refine ⟨⟨fun k y q hy hq hk => ?_, fun k y q hy hq hk i v hi => ?_, fun k k' y y' q q' hy hy' hq hq' hk hne hro' => ?_, fun k q hq => by have := R.dom k q hq; simpa using this⟩, ⟨rfl, rfl, rfl, by simp [World.setRow], fun b hb hn => hoth b (fun e' => hn r x p hx hp hro e'.symm), fun k y q hy hq hk => ?_, st, by simp, fun _ _ e => e⟩⟩
  · rcases get_set hy with ⟨rfl, h2, _⟩ | ⟨hne, h1⟩
    · obtain rfl : y = { x with cells := cells } := Option.some.inj h2
      rw [hp] at hq; cases hq
      refine ⟨c2, e, hnew, hsz.trans hsz', by simpa [hlen] using hd', fun i v hi => ?_⟩
      obtain ⟨v', h3, h4⟩ := hcells i v hi
      exact ⟨v', h3, h4.step st⟩
    · obtain ⟨c3, t3, h3, h4, h5, h6⟩ := R.own k y q h1 hq hk
      refine ⟨c3, t3, by rw [hoth _ (R.inj k r y x q p h1 hx hq hp hk hne (fun e' => by rw [hro] at e'; cases e'))]; exact h3, h4, h5, fun i v hi => ?_⟩
      obtain ⟨v', h7, h8⟩ := h6 i v hi
      exact ⟨v', h7, h8.step st⟩
  · rcases get_set hy with ⟨rfl, h2, _⟩ | ⟨hne, h1⟩
    · obtain rfl : y = { x with cells := cells } := Option.some.inj h2
      rw [show ({ x with cells := cells } : Row).ro = x.ro from rfl, hro] at hk; cases hk
    · obtain ⟨v', h3, h4⟩ := R.ro k y q h1 hq hk i v hi
      refine ⟨v', ?_, h4.step st⟩
      have hbne : p.b ≠ q.b := R.inj r k x y p q hx h1 hp hq hro (fun e' => hne e'.symm) (fun _ e' => by rw [e'] at hi; simp at hi)
      have : (w.setRow p.b c2).cell? ⟨q.b, q.d + i, none⟩ = w.cell? ⟨q.b, q.d + i, none⟩ := by
        unfold World.cell?
        rw [hoth q.b (fun e' => hbne e'.symm)]
      rw [this]; exact h3
  · have hk0 : ∃ y0, h[k]? = some (some y0) ∧ y0.ro = false := by
      rcases get_set hy with ⟨rfl, h2, _⟩ | ⟨_, h1⟩
      · exact ⟨x, hx, hro⟩
      · exact ⟨y, h1, hk⟩
    have hk0' : ∃ y0, h[k']? = some (some y0) ∧ (y0.ro = true → y0.cells ≠ []) := by
      rcases get_set hy' with ⟨rfl, h2, _⟩ | ⟨_, h1⟩
      · exact ⟨x, hx, fun e' => by rw [hro] at e'; cases e'⟩
      · exact ⟨y', h1, hro'⟩
    obtain ⟨y0, i1, i2⟩ := hk0
    obtain ⟨y1, j1, j2⟩ := hk0'
    exact R.inj k k' y0 y1 q q' i1 j1 hq hq' i2 hne j2
  · rcases get_set hy with ⟨rfl, h2, _⟩ | ⟨_, h1⟩
    · exact .inr ⟨k, x, p, hx, hp, hro, by rw [hp] at hq; cases hq; rfl⟩
    · exact .inr ⟨k, y, q, h1, hq, hk, rfl⟩

theorem splice_eq : ∀ (vs l : List Value) (o : Nat), o + vs.length ≤ l.length → splice l o vs = l.take o ++ vs ++ l.drop (o + vs.length)
  | [], l, o, h => by simp [splice]
  | v :: vs, l, o, h => by
    rw [splice, splice_eq vs _ _ (by simp at h ⊢; omega)]
    exact list_seg_step l o v vs (by simpa using h)

theorem splice_get : ∀ (vs l : List Value) (o i : Nat), o + vs.length ≤ l.length → (splice l o vs)[i]? = if o ≤ i ∧ i < o + vs.length then vs[i - o]? else l[i]?
  | [], l, o, i, h => by rw [splice, if_neg (by simp)]
  | v :: vs, l, o, i, h => by
    rw [splice, splice_get vs _ _ i (by simp at h ⊢; omega)]
    simp only [List.length_cons] at h ⊢
    by_cases h1 : o + 1 ≤ i ∧ i < o + 1 + vs.length
    · rw [if_pos h1, if_pos (by omega), show i - o = (i - (o + 1)) + 1 by omega]; simp
    · rw [if_neg h1, List.getElem?_set]
      by_cases h2 : o = i
      · subst h2; rw [if_pos rfl, if_pos (by omega), if_pos (by omega)]; simp
      · rw [if_neg h2, if_neg (by omega)]

/-- Cells are stored behind an address of a row of one's own. -/
theorem Rel.store (R : Rel ρ h w) {r : Nat} {x : Row} {p : Place} (hx : h[r]? = some (some x)) (hp : ρ r = some p) (hro : x.ro = false)
    {vs vs' : List Value} (hv : VL ρ h vs vs') (h1 : vs.all Pm.one = true) (o : Nat) (ho : o + vs.length ≤ x.cells.length) :
    ∃ w', (storeCells ⟨p.b, p.d + o, none⟩ vs').run P w = .ok () w' ∧ Rel ρ (h.set r (some { x with cells := splice x.cells o vs })) w' ∧
      Go1 ρ h w ρ (h.set r (some { x with cells := splice x.cells o vs })) w' := by
  obtain ⟨c, t, hb, hs, hd, hc⟩ := R.own r x p hx hp hro
  have hl := hv.1
  have hrun := run_storeCells_at P p.b (p.d + o) t vs' 0 c w hb (by omega) (hv.one h1)
  refine ⟨_, hrun, R.write hx hp hro (splice_length _ _ _) hb ?_ (fun i v hi => ?_)⟩
  · simp; omega
  · rw [splice_get vs _ _ i ho] at hi
    simp only [Nat.add_zero, List.getElem?_toArray]
    have hdc : p.d + o + vs'.length ≤ c.toList.length := by simp; omega
    by_cases hin : o ≤ i ∧ i < o + vs.length
    · rw [if_pos hin] at hi
      have hi' : i - o < vs'.length := by omega
      refine ⟨vs'[i - o], ?_, hv.2 (i - o) v _ hi (List.getElem?_eq_getElem hi')⟩
      rw [List.append_assoc, List.getElem?_append_right (by simp; omega), List.getElem?_append_left (by simp; omega)]
      simp only [List.length_take, Array.length_toList]
      rw [show p.d + i - min (p.d + o) c.size = i - o by omega]
      exact List.getElem?_eq_getElem hi'
    · rw [if_neg hin] at hi
      obtain ⟨v', h3, h4⟩ := hc i v hi
      refine ⟨v', ?_, h4⟩
      rw [← h3]
      by_cases hlt : i < o
      · rw [List.append_assoc, List.getElem?_append_left (by simp; omega), List.getElem?_take, if_pos (by omega)]; simp
      · rw [List.getElem?_append_right (by simp; omega), List.getElem?_drop]
        simp only [List.length_append, List.length_take, Array.length_toList]
        rw [show p.d + o + vs'.length + (p.d + i - (min (p.d + o) c.size + vs'.length)) = p.d + i by omega]
        simp
end Go.Pm
