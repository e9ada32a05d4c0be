/- append and copy, whole. -/
import Derived.Test.YtagofldjmcaalaaPmG
set_option linter.unusedVariables false
set_option linter.unusedSimpArgs false
namespace Go.Pm
variable {P : Program} {ρ : Mp} {h : Hp} {w : World}

/-- A new row in a block that may be longer. -/
theorem Rel.newc (R : Rel ρ h w) {l : List Value} {c : Array Value} (hl : l.length ≤ c.size) (hc : ∀ (i : Nat) v, l[i]? = some v → ∃ v', c[i]? = some v' ∧ VR ρ h v v') (sz : Nat) (e : TypeId) :
    Rel (upd ρ h.length ⟨w.heap.size, 0, c.size⟩) (h ++ [some ⟨l, sz, false⟩]) (w.alloc (.cells c e)) ∧
    Go1 ρ h w (upd ρ h.length ⟨w.heap.size, 0, c.size⟩) (h ++ [some ⟨l, sz, false⟩]) (w.alloc (.cells c e)) := by
  have st := step_new R ⟨l, sz, false⟩ ⟨w.heap.size, 0, c.size⟩
  have old : ∀ r p, upd ρ h.length ⟨w.heap.size, 0, c.size⟩ r = some p → r < h.length → ρ r = some p := by
    intro r p hp hr
    simpa [upd, Nat.ne_of_lt hr] using hp
  have new : ∀ p, upd ρ h.length ⟨w.heap.size, 0, c.size⟩ h.length = some p → p = ⟨w.heap.size, 0, c.size⟩ := by
    intro p hp
    simp [upd] at hp
    exact hp.symm
  have blk : ∀ b, b < w.heap.size → (w.alloc (.cells c e)).heap[b]? = w.heap[b]? := by
    intro b hb
    show (w.heap.push _)[b]? = _
    rw [Array.getElem?_push, if_neg (by omega)]
  have newb : (w.alloc (.cells c e)).heap[w.heap.size]? = some (.cells c e) := by
    show (w.heap.push _)[w.heap.size]? = _
    simp
  refine ⟨⟨fun r x p hx hp hr => ?_, fun r x p hx hp hr i v hi => ?_, fun r r' x x' p p' hx hx' hp hp' hr hne hro => ?_, fun r p hp => ?_⟩, ⟨rfl, rfl, rfl, by simp, fun b hb _ => blk b hb, fun r x p hx hp hr => ?_, st, by simp, fun r hr e => by simpa [upd, Nat.ne_of_lt hr] using e⟩⟩
  · rcases get_app hx with ⟨hlt, h1⟩ | ⟨rfl, h1⟩
    · obtain ⟨c1, t, hb, h2, h3, h4⟩ := R.own r x p h1 (old r p hp hlt) hr
      refine ⟨c1, t, by rw [blk _ (Array.getElem?_eq_some_iff.1 hb).1]; exact hb, h2, h3, fun i v hi => ?_⟩
      obtain ⟨v', h5, h6⟩ := h4 i v hi
      exact ⟨v', h5, h6.step st⟩
    · obtain rfl := new p hp
      obtain rfl : x = ⟨l, sz, false⟩ := Option.some.inj h1
      refine ⟨c, e, newb, rfl, by simpa using hl, fun i v hi => ?_⟩
      obtain ⟨v', h2, h3⟩ := hc i v hi
      exact ⟨v', by simpa using h2, h3.step st⟩
  · rcases get_app hx with ⟨hlt, h1⟩ | ⟨rfl, h1⟩
    · obtain ⟨v', h5, h6⟩ := R.ro r x p h1 (old r p hp hlt) hr i v hi
      exact ⟨v', by rw [World.cell?_alloc_lt w _ _ (World.block_lt_of_cell? w _ h5)]; exact h5, h6.step st⟩
    · obtain rfl : x = ⟨l, sz, false⟩ := Option.some.inj h1
      cases hr
  · rcases get_app hx with ⟨hlt, h1⟩ | ⟨rfl, h1⟩
    · rcases get_app hx' with ⟨hlt', h1'⟩ | ⟨rfl, h1'⟩
      · exact R.inj r r' x x' p p' h1 h1' (old r p hp hlt) (old r' p' hp' hlt') hr hne hro
      · obtain rfl := new p' hp'
        have := R.lt h1 (old r p hp hlt) (fun h => by rw [hr] at h; cases h)
        show p.b ≠ w.heap.size
        omega
    · rcases get_app hx' with ⟨hlt', h1'⟩ | ⟨rfl, h1'⟩
      · obtain rfl := new p hp
        have := R.lt h1' (old r' p' hp' hlt') hro
        show w.heap.size ≠ p'.b
        omega
      · exact absurd rfl hne
  · by_cases hr : r = h.length
    · simp; omega
    · have : ρ r = some p := by simpa [upd, hr] using hp
      have := R.dom r p this
      simp; omega
  · rcases get_app hx with ⟨hlt, h1⟩ | ⟨rfl, h1⟩
    · exact .inr ⟨r, x, p, h1, old r p hp hlt, hr, rfl⟩
    · obtain rfl := new p hp
      exact .inl (Nat.le_refl _)

/-- What a new block of append's holds. -/
theorem app_cells {z : Value} {zs zs' : List Value} (hv : VL ρ h zs zs') (m : Nat) : ∀ (i : Nat) v, zs[i]? = some v → ∃ v', (zs' ++ (Builtin.zeroCells z.cells m).toList).toArray[0 + i]? = some v' ∧ VR ρ h v v' := by
  intro i v hi
  have hlt : i < zs'.length := by have := (List.getElem?_eq_some_iff.1 hi).1; have := hv.1; omega
  refine ⟨zs'[i], ?_, hv.2 i v _ hi (List.getElem?_eq_getElem hlt)⟩
  simp [List.getElem?_append_left hlt, hlt]

theorem app_tail (R : Rel ρ h w) {t ty e : TypeId} {q : TypeInfo} {z : Value} (ht : P.underlying t = some (.slice e)) (hi : P.info? e = some q) (hz : q.zero = some z) (hzs : z.cells.size = q.size) (hq : 0 < q.size) (hby : 0 < q.bytes)
    {a : Addr} {x : Row} {n c : Nat} {s' : Value} (hrow : rowAt h a = some x) (hs : VR ρ h (.slice (some a) n c) s') (hro : x.ro = false) (hsz : x.sz = q.size) (hcl : a.off + c * q.size ≤ x.cells.length)
    {x' : Value} {m : Nat} {ys ys' : List Value} (hgt : c < n + m) (hb : (n + m) * q.bytes ≤ 2 ^ 47) (hy : VL ρ h ys ys') (hone : ys.all Pm.one = true) (hyl : ys.length = m * q.size)
    (hm : ∀ w : World, (Builtin.lenOf x').run P w = .ok m w) (hf : ∀ d, (Builtin.firstCells q.size m x').run P { w with drawn := d } = .ok ys'.toArray { w with drawn := d })
    {k : Nat} {h' : Hp} (hk : h'[k]? = some (some ⟨(x.cells.drop a.off).take (n * q.size) ++ ys, q.size, false⟩))
    (hkr : (k = a.block ∧ x.cells.length < ((x.cells.drop a.off).take (n * q.size) ++ ys).length) ∨ (k = h.length ∧ h'[a.block]? = some none))
    (hoth : ∀ j, j ≠ k → j ≠ a.block → h'[j]? = h[j]?) (hlen : h.length ≤ h'.length) :
    ∃ r' w' ρ', (Builtin.append_ #[t, t] ty #[s', x']).run P w = .ok r' w' ∧ VR ρ' h' (.slice (some ⟨k, 0, some ((x.cells.drop a.off).take (n * q.size) ++ ys).length⟩) (n + m) (n + m)) r' ∧ Rel ρ' h' w' ∧ Go1 ρ h w ρ' h' w' := by
  have hyl' : ys'.length = m * q.size := by rw [← hy.1]; exact hyl
  have hbl : (rowAt h a).isSome := by rw [hrow]; rfl
  obtain ⟨hspot, hx⟩ := rowAt_spot hrow
  -- a new block
  have fresh : ∀ (base : Option Addr) (cap : Nat) (olds : List Value), VL ρ h ((x.cells.drop a.off).take (n * q.size)) olds → ((x.cells.drop a.off).take (n * q.size)).length = n * q.size → (∃ p, ρ a.block = some p) → cap < n + m →
      (Builtin.firstCells q.size n (.slice base n cap)).run P w.drew = .ok olds.toArray w.drew →
      ∃ r' w' ρ', (Builtin.append_ #[t, t] ty #[.slice base n cap, x']).run P w = .ok r' w' ∧ VR ρ' h' (.slice (some ⟨k, 0, some ((x.cells.drop a.off).take (n * q.size) ++ ys).length⟩) (n + m) (n + m)) r' ∧ Rel ρ' h' w' ∧ Go1 ρ h w ρ' h' w' := by
    intro base cap olds ho hol ⟨p, hp⟩ hcap hfo
    have hrun := run_app_grow (P := P) (w := w) (ty := ty) ht hi hz hm (hf (w.drawn + 1)) hfo hcap hby hb
    have hge := grownCap_ge w (n + m) cap e
    have hol' : olds.length = n * q.size := by rw [← ho.1]; exact hol
    have hsize : (olds ++ ys' ++ (Builtin.zeroCells z.cells (grownCap w (n + m) cap e - (n + m))).toList).toArray.size = grownCap w (n + m) cap e * q.size := by
      simp only [List.size_toArray, List.length_append, Array.length_toList, size_zeroCells, hol', hyl', hzs]
      rw [← Nat.add_mul, ← Nat.add_mul]
      congr 1
      omega
    have hzl : ((x.cells.drop a.off).take (n * q.size) ++ ys).length = (n + m) * q.size := by rw [List.length_append, hol, hyl, Nat.add_mul]
    obtain ⟨R', G⟩ := R.regrow (p' := ⟨w.heap.size, 0, grownCap w (n + m) cap e * q.size⟩) (w' := w.drew.alloc (.cells (olds ++ ys' ++ (Builtin.zeroCells z.cells (grownCap w (n + m) cap e - (n + m))).toList).toArray e)) hx hp hro (x' := ⟨(x.cells.drop a.off).take (n * q.size) ++ ys, q.size, false⟩) rfl hk hkr hoth hlen rfl rfl rfl (by simp)
      (fun b hb1 _ => by show (w.heap.push _)[b]? = _; rw [Array.getElem?_push, if_neg (by omega)]) (.inr (Nat.le_refl _))
      (c := (olds ++ ys' ++ (Builtin.zeroCells z.cells (grownCap w (n + m) cap e - (n + m))).toList).toArray) (e := e) (by show (w.heap.push _)[w.heap.size]? = _; simp) hsize (by simp only [Nat.zero_add]; rw [hzl]; exact Nat.mul_le_mul_right _ hge)
      (app_cells (ho.append hy) _)
    refine ⟨_, _, _, hrun, ?_, R', G⟩
    have := VR.sl (ρ := upd ρ k ⟨w.heap.size, 0, grownCap w (n + m) cap e * q.size⟩) (h := h') k 0 ⟨(x.cells.drop a.off).take (n * q.size) ++ ys, q.size, false⟩ ⟨w.heap.size, 0, grownCap w (n + m) cap e * q.size⟩ (n + m) (n + m) (grownCap w (n + m) cap e) hk (by simp [upd]) (Nat.le_refl _) hge (fun _ => by simp)
    simpa using this
  rcases row_slice hrow hs with ⟨p, c', h1, hp, rfl, hnc, hcc, hbd⟩ | ⟨rfl, rfl, a', p, rfl, i1, i2⟩
  · have hbd := hbd hro
    rw [hsz] at hbd
    have hnl : ((x.cells.drop a.off).take (n * q.size)).length = n * q.size := by
      have := Nat.mul_le_mul_right q.size hnc
      simp; omega
    obtain ⟨olds, ho, hoc⟩ := R.seg hx hp a.off (n * q.size)
    by_cases hroom : n + m ≤ c'
    · -- in place
      obtain ⟨cc, te, hb1, hb2, hb3, hb4⟩ := R.own a.block x p hx hp hro
      have hmul := Nat.mul_le_mul_right q.size hroom
      rw [Nat.add_mul] at hmul
      have hst := run_storeCells_at P p.b (p.d + a.off + n * q.size) te ys' 0 cc w hb1 (by omega) (hy.one hone)
      have hrun := run_app_room (P := P) (w := w) (ty := ty) ht hi (base := some ⟨p.b, p.d + a.off, none⟩) (sLen := n) (sCap := c') hm (hf w.drawn) hroom (fun a1 ha1 => by cases ha1; rw [add_none]; exact hst) (fun hh => by cases hh)
      simp only [Nat.add_zero] at hrun
      obtain ⟨R', G⟩ := R.regrow (p' := ⟨p.b, p.d + a.off, p.bs⟩) (w' := w.setRow p.b (cc.toList.take (p.d + a.off + n * q.size) ++ ys' ++ cc.toList.drop (p.d + a.off + n * q.size + ys'.length)).toArray) hx hp hro (x' := ⟨(x.cells.drop a.off).take (n * q.size) ++ ys, q.size, false⟩) rfl hk hkr hoth hlen rfl rfl rfl (by simp [World.setRow])
        (fun b hb5 hb6 => setRow_other w p.b b _ hb6) (.inl rfl) (setRow_heap w p.b cc _ te _ hb1) (by simp; omega) (by simp only [List.length_append, hnl, hyl]; omega)
        (fun i v hi2 => by
          simp only [List.getElem?_toArray]
          rcases Nat.lt_or_ge i (n * q.size) with hlt | hge
          · rw [List.getElem?_append_left (by omega)] at hi2
            have hi3 : x.cells[a.off + i]? = some v := by
              rw [List.getElem?_take, if_pos hlt, List.getElem?_drop] at hi2
              exact hi2
            obtain ⟨v', g1, g2⟩ := hb4 _ v hi3
            refine ⟨v', ?_, g2⟩
            rw [← g1, List.append_assoc, List.getElem?_append_left (by simp; omega), List.getElem?_take, if_pos (by omega), Nat.add_assoc]
            simp
          · rw [List.getElem?_append_right (by omega), hnl] at hi2
            have hlt2 : i - n * q.size < ys'.length := by have := (List.getElem?_eq_some_iff.1 hi2).1; omega
            refine ⟨ys'[i - n * q.size], ?_, hy.2 _ v _ hi2 (List.getElem?_eq_getElem hlt2)⟩
            rw [List.append_assoc, List.getElem?_append_right (by simp; omega), List.getElem?_append_left (by simp; omega)]
            simp only [List.length_take, Array.length_toList]
            rw [show p.d + a.off + i - min (p.d + a.off + n * q.size) cc.size = i - n * q.size by omega]
            exact List.getElem?_eq_getElem hlt2)
      refine ⟨_, _, _, hrun, ?_, R', G⟩
      have := VR.sl (ρ := upd ρ k ⟨p.b, p.d + a.off, p.bs⟩) (h := h') k 0 ⟨(x.cells.drop a.off).take (n * q.size) ++ ys, q.size, false⟩ ⟨p.b, p.d + a.off, p.bs⟩ (n + m) (n + m) c' hk (by simp [upd]) (Nat.le_refl _) hroom (fun _ => by simpa using hbd)
      simpa using this
    · refine fresh _ _ olds ho hnl ⟨p, hp⟩ (by omega) ?_
      exact run_first_some (P := P) (w := w.drew) (by rw [← ho.1]; exact hnl) hoc
  · refine fresh _ _ [] (by simpa using VL.nil) (by simp) ⟨p, i2⟩ (by omega) ?_
    simp [Builtin.firstCells, loadCells, loadCellsFrom]

theorem set_same {α : Type} {l : List α} {i : Nat} {x : α} (hx : l[i]? = some x) : l.set i x = l := by
  apply List.ext_getElem?
  intro j
  rw [List.getElem?_set]
  split
  · rename_i e
    subst e
    have := (List.getElem?_eq_some_iff.1 hx).1
    rw [if_pos this]
    exact hx.symm
  · rfl

theorem append_ok (R : Rel ρ h w) {t ty : TypeId} {s s' x x' r : Value} {h' : Hp} (hs : VR ρ h s s') (hx : VR ρ h x x') (e : appendP P h t s x = some (r, h')) :
    ∃ r' w' ρ', (Builtin.append_ #[t, t] ty #[s', x']).run P w = .ok r' w' ∧ VR ρ' h' r r' ∧ Rel ρ' h' w' ∧ Go1 ρ h w ρ' h' w' := by
  unfold appendP at e
  split at e
  · rename_i eT ht
    split at e
    · rename_i q z m hi hz hm
      obtain ⟨i, hi', hz', hp, hzs⟩ := zero_of hz
      rw [hi] at hi'; cases hi'
      split at e
      · rename_i ys hys
        obtain ⟨hyl, ys', hy, hf⟩ := seen_ok (P := P) R hx hys hm
        have hlen := fun w => len_vr (P := P) hx hm w
        have hyl' : ys'.length = m * q.size := by rw [← hy.1]; exact hyl
        have hf2 : ∀ d, (Builtin.firstCells q.size m x').run P { w with drawn := d } = .ok ys'.toArray { w with drawn := d } := by
          intro d
          have := hf m d (Nat.le_refl _)
          rwa [List.take_of_length_le (by omega)] at this
        split at e
        · rename_i hc
          obtain ⟨hq, hby, hone⟩ := hc
          split at e
          · -- nil
            cases hs
            split at e
            · rename_i h0
              cases e
              subst h0
              have hy0 : ys' = [] := List.eq_nil_of_length_eq_zero (by omega)
              subst hy0
              exact ⟨_, w, ρ, run_app_room (P := P) (w := w) (ty := ty) ht hi (base := none) (sLen := 0) (sCap := 0) hlen (hf2 w.drawn) (by omega) (fun a ha => by cases ha) (fun _ => rfl), .nilSlice, R, Go1.refl _ _ _⟩
            · rename_i h0
              split at e
              · rename_i hb
                simp only [Option.some.injEq, Prod.mk.injEq] at e
                obtain ⟨rfl, rfl⟩ := e
                have hrun := run_app_grow (P := P) (w := w) (ty := ty) ht hi hz' (base := none) (sLen := 0) (sCap := 0) (olds := []) hlen (hf2 (w.drawn + 1)) (by simp [Builtin.firstCells]) (by omega) hby (by simpa using hb)
                simp only [Nat.zero_add, List.nil_append] at hrun
                have hge := grownCap_ge w m 0 eT
                have hsize : (ys' ++ (Builtin.zeroCells z.cells (grownCap w m 0 eT - m)).toList).toArray.size = grownCap w m 0 eT * q.size := by
                  simp only [List.size_toArray, List.length_append, Array.length_toList, size_zeroCells, hyl', hzs]
                  rw [← Nat.add_mul]
                  congr 1
                  omega
                obtain ⟨R', G⟩ := (R.drew (w.drawn + 1)).newc (l := ys) (c := (ys' ++ (Builtin.zeroCells z.cells (grownCap w m 0 eT - m)).toList).toArray) (by rw [hsize, hyl]; exact Nat.mul_le_mul_right _ hge) (fun i v hi2 => by simpa using app_cells (z := z) hy _ i v hi2) q.size eT
                refine ⟨_, _, _, hrun, ?_, R', (Go1.drew ρ h w (w.drawn + 1)).trans G⟩
                have := VR.sl (ρ := upd ρ h.length ⟨w.heap.size, 0, (ys' ++ (Builtin.zeroCells z.cells (grownCap w m 0 eT - m)).toList).toArray.size⟩) (h := h ++ [some ⟨ys, q.size, false⟩]) h.length 0 ⟨ys, q.size, false⟩ ⟨w.heap.size, 0, (ys' ++ (Builtin.zeroCells z.cells (grownCap w m 0 eT - m)).toList).toArray.size⟩ m m (grownCap w m 0 eT) (by simp) (by simp [upd]) (Nat.le_refl _) hge (fun _ => by rw [hsize]; simp)
                simpa [newP] using this
              · cases e
          · rename_i a n c
            split at e
            · rename_i row hrow
              split at e
              · rename_i hcond
                obtain ⟨hro, hrs, hcl, hb⟩ := hcond
                obtain ⟨hspot, hx0⟩ := rowAt_spot hrow
                split at e
                · -- in place
                  rename_i hroom
                  simp only [Option.some.injEq, Prod.mk.injEq] at e
                  obtain ⟨rfl, rfl⟩ := e
                  rcases row_slice hrow hs with ⟨p, c', h1, hp2, rfl, hnc, hcc, hbd⟩ | ⟨rfl, rfl, a', p, rfl, i1, i2⟩
                  · have hmul := Nat.mul_le_mul_right q.size hroom
                    rw [Nat.add_mul] at hmul
                    obtain ⟨w', hst, R', G⟩ := R.store (P := P) h1 hp2 hro hy hone (a.off + n * q.size) (by omega)
                    have hrun := run_app_room (P := P) (w := w) (ty := ty) ht hi (base := some ⟨p.b, p.d + a.off, none⟩) (sLen := n) (sCap := c') hlen (hf2 w.drawn) (by omega) (w' := w') (fun a1 ha1 => by cases ha1; rw [add_none, Nat.add_assoc]; exact hst) (fun hh => by cases hh)
                    refine ⟨_, w', ρ, hrun, ?_, R', G⟩
                    have := VR.sl (ρ := ρ) (h := h) a.block a.off row p (n + m) c c' h1 hp2 hroom hcc hbd
                    rw [← hspot] at this
                    exact this.step G.step
                  · have hm0 : m = 0 := by omega
                    subst hm0
                    have hys0 : ys = [] := List.eq_nil_of_length_eq_zero (by omega)
                    have hy0 : ys' = [] := List.eq_nil_of_length_eq_zero (by omega)
                    subst hys0; subst hy0
                    rw [show ({ row with cells := splice row.cells (a.off + 0 * q.size) [] } : Row) = row from rfl, set_same hx0]
                    refine ⟨_, w, ρ, run_app_room (P := P) (w := w) (ty := ty) ht hi (base := some a') (sLen := 0) (sCap := 0) hlen (hf2 w.drawn) (by omega) (w' := w) (fun a1 ha1 => by cases ha1; simp [storeCells]) (fun _ => rfl), ?_, R, Go1.refl _ _ _⟩
                    have := VR.slZero (ρ := ρ) (h := h) a.block a.off row p a' i1 i2
                    rw [← hspot] at this
                    exact this
                · rename_i hnroom
                  split at e
                  · -- grown at its end
                    rename_i hend
                    obtain ⟨h0, hend⟩ := hend
                    simp only [Option.some.injEq, Prod.mk.injEq] at e
                    obtain ⟨rfl, rfl⟩ := e
                    have hzs2 : (row.cells.drop a.off).take (n * q.size) ++ ys = row.cells ++ ys := by rw [h0, List.drop_zero, List.take_of_length_le (by omega)]
                    have hlt : a.block < h.length := (List.getElem?_eq_some_iff.1 hx0).1
                    have hm1 : 0 < m * q.size := by
                      refine Nat.mul_pos ?_ hq
                      rcases Nat.eq_zero_or_pos m with hm0 | hm0
                      · exfalso
                        subst hm0
                        have : c * q.size ≤ n * q.size := by omega
                        have := Nat.le_of_mul_le_mul_right this hq
                        rcases row_slice hrow hs with ⟨p, c', _, _, _, hnc, _, _⟩ | ⟨rfl, rfl, _⟩ <;> omega
                      · exact hm0
                    have := app_tail (P := P) R (ty := ty) ht hi hz' hzs hq hby hrow hs hro hrs hcl (by omega) hb hy hone hyl hlen hf2 (k := a.block) (h' := h.set a.block (some { row with cells := row.cells ++ ys })) (by rw [hzs2, ← hrs]; simp [hlt, hro]) (.inl ⟨rfl, by rw [hzs2]; simp; omega⟩)
                      (fun j hj _ => by rw [List.getElem?_set_ne (fun e2 => hj e2.symm)]) (by simp)
                    rw [hzs2] at this
                    exact this
                  · rename_i hnend
                    simp only [Option.some.injEq, Prod.mk.injEq] at e
                    obtain ⟨rfl, rfl⟩ := e
                    have hlt : a.block < h.length := (List.getElem?_eq_some_iff.1 hx0).1
                    have := app_tail (P := P) R (ty := ty) ht hi hz' hzs hq hby hrow hs hro hrs hcl (by omega) hb hy hone hyl hlen hf2 (k := h.length) (h' := h.set a.block none ++ [some ⟨(row.cells.drop a.off).take (n * q.size) ++ ys, q.size, false⟩]) (by rw [List.getElem?_append_right (by simp)]; simp) (.inr ⟨rfl, by rw [List.getElem?_append_left (by simpa using hlt)]; simp [hlt]⟩)
                      (fun j hj hj2 => by
                        rcases Nat.lt_or_ge j h.length with hl | hl
                        · rw [List.getElem?_append_left (by simpa using hl), List.getElem?_set_ne (fun e2 => hj2 e2.symm)]
                        · rw [List.getElem?_append_right (by simpa using hl), List.getElem?_eq_none (by simp; omega), List.getElem?_eq_none (by omega)]) (by simp)
                    simpa [newP] using this
              · cases e
            · cases e
          · cases e
        · cases e
      · cases e
    · cases e
  · cases e
end Go.Pm
