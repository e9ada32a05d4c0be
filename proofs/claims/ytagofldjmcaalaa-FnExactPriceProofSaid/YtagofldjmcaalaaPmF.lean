/- What makes memory: append above all. -/
import Derived.Test.YtagofldjmcaalaaPmE
import Derived.Laws.AppendOwn
set_option linter.unusedVariables false
set_option linter.unusedSimpArgs false
namespace Go.Pm
variable {P : Program} {ρ : Mp} {h : Hp} {w : World}

theorem zero_of {t : TypeId} {z : Value} (e : zeroP P t = some z) : ∃ i, P.info? t = some i ∧ i.zero = some z ∧ plain z = true ∧ z.cells.size = i.size := by
  unfold zeroP at e
  split at e
  · rename_i i hi
    split at e
    · rename_i y hy
      split at e
      · rename_i hc; cases e; exact ⟨i, hi, hy, hc.1, hc.2⟩
      · cases e
    · cases e
  · cases e
theorem plain_cells {z : Value} (hp : plain z = true) : VL ρ h z.cells.toList z.cells.toList := (plain_vr hp).cells
theorem plainC_one {v : Value} (hp : plainC v = true) : Pm.one v = true := by
  unfold plainC at hp
  split at hp <;> first | rfl | cases hp

/-! ### rows of zeros -/
theorem reps_length (z : List Value) : ∀ n, (reps n z).length = n * z.length
  | 0 => by simp [reps]
  | n + 1 => by rw [reps, List.length_append, reps_length z n, Nat.add_mul, Nat.one_mul, Nat.add_comm]
theorem reps_get (z : List Value) (hz : 0 < z.length) : ∀ (n i : Nat), i < n * z.length → (reps n z)[i]? = z[i % z.length]?
  | 0, i, h => by omega
  | n + 1, i, h => by
    rw [reps]
    rw [Nat.add_mul, Nat.one_mul] at h
    rcases Nat.lt_or_ge i z.length with hi | hi
    · rw [List.getElem?_append_left hi, Nat.mod_eq_of_lt hi]
    · rw [List.getElem?_append_right hi, reps_get z hz n _ (by omega), ← Nat.mod_eq_sub_mod hi]
theorem made_reps (z : Array Value) (n : Nat) (hz : 0 < z.size) : (madeCells z (n * z.size)).toList = reps n z.toList := by
  apply List.ext_getElem?
  intro i
  rcases Nat.lt_or_ge i (n * z.size) with hi | hi
  · have hm : i % z.size < z.size := Nat.mod_lt _ hz
    rw [reps_get _ (by simpa using hz) n i (by simpa using hi)]
    have h2 : z[i % z.size]! = z[i % z.size] := getElem!_pos z (i % z.size) hm
    simp [madeCells, hi, hm]
  · rw [List.getElem?_eq_none (by simp [madeCells]; omega), List.getElem?_eq_none (by rw [reps_length]; simpa using hi)]
theorem reps_vl {z : Value} (hp : plain z = true) : ∀ n, VL ρ h (reps n z.cells.toList) (reps n z.cells.toList)
  | 0 => VL.nil
  | n + 1 => (plain_cells hp).append (reps_vl hp n)

/-! ### make, alloc, box -/
theorem make_ok (R : Rel ρ h w) {t : TypeId} {l c l' c' r : Value} {h' : Hp} (hl : VR ρ h l l') (hc : VR ρ h c c') (e : makeP P h t l c = some (r, h')) :
    ∃ r' w' ρ', (Instr.makeSlice t l' c').run P w = .ok r' w' ∧ VR ρ' h' r r' ∧ Rel ρ' h' w' ∧ Go1 ρ h w ρ' h' w' := by
  unfold makeP at e
  split at e
  · rename_i eT n m hu hn hm
    obtain ⟨k1, rfl⟩ := asI_vr hl hn
    obtain ⟨k2, rfl⟩ := asI_vr hc hm
    split at e
    · rename_i q z hi hz
      split at e
      · rename_i hb
        obtain ⟨h0, h1, h2, h3, h4, h5⟩ := hb
        obtain ⟨i, hi', hz', hp, hsz⟩ := zero_of hz
        rw [hi] at hi'; cases hi'
        simp only [Option.some.injEq, Prod.mk.injEq] at e
        obtain ⟨rfl, rfl⟩ := e
        have hrun := run_make (P := P) w t eT q z hu hi hz' k1 k2 n m h0 h1 (by rw [Int.mul_comm]; omega) (by omega)
        have hv := reps_vl (ρ := ρ) (h := h) hp m.toNat
        obtain ⟨R', G⟩ := R.new hv q.size eT
        have hA : madeCells z.cells (m.toNat * q.size) = (reps m.toNat z.cells.toList).toArray := by
          apply Array.ext'
          have := made_reps z.cells m.toNat (by omega)
          rw [hsz] at this
          simpa using this
        rw [hA] at hrun
        have hrl : (reps m.toNat z.cells.toList).length = m.toNat * q.size := by rw [reps_length]; simp [hsz]
        exact ⟨_, _, _, hrun, new_slice h (reps m.toNat z.cells.toList) q.size n.toNat m.toNat w.heap.size (by omega) (by rw [hrl]; exact Nat.le_refl _), R', G⟩
      · cases e
    · cases e
  · cases e

theorem alloc_ok (R : Rel ρ h w) {eT : TypeId} {z : Value} (hz : zeroP P eT = some z) :
    ∃ r' w' ρ', (Instr.alloc eT true (.tuple #[])).run P w = .ok r' w' ∧ VR ρ' (newP h z.cells.toList 0).2 (.pointer (some (newP h z.cells.toList 0).1)) r' ∧ Rel ρ' (newP h z.cells.toList 0).2 w' ∧ Go1 ρ h w ρ' (newP h z.cells.toList 0).2 w' := by
  obtain ⟨i, hi, hz', hp, hsz⟩ := zero_of hz
  obtain ⟨R', G⟩ := R.new (plain_cells hp) 0 eT
  simp only [Array.toArray_toList] at R' G
  exact ⟨_, _, _, by simp [Instr.alloc, run_zero hi hz', newVar, newRow], new_ptr h z.cells.toList 0 0 w.heap.size, R', G⟩

theorem box_ok (R : Rel ρ h w) {eT : TypeId} {v v' : Value} (hv : VR ρ h v v') (h1 : v.cells.toList.all Pm.one = true) :
    ∃ r' w' ρ', (Instr.box eT v').run P w = .ok r' w' ∧ VR ρ' (newP h v.cells.toList 0).2 (.pointer (some (newP h v.cells.toList 0).1)) r' ∧ Rel ρ' (newP h v.cells.toList 0).2 w' ∧ Go1 ρ h w ρ' (newP h v.cells.toList 0).2 w' := by
  obtain ⟨R', G⟩ := R.new hv.cells 0 eT
  simp only [Array.toArray_toList] at R' G
  exact ⟨_, _, _, by simp [Instr.box, newVar, newRow], new_ptr h v.cells.toList 0 0 w.heap.size, R', G⟩

/-! ### struct and slice literals -/
theorem fold_splice : ∀ (vs : List Value) (k : Nat) (off : Nat) (cs : Array Value),
    ((vs.zipIdx k).foldl (fun (cs : Array Value) (x : Value × Nat) => cs.setIfInBounds (off + x.2) x.1) cs).toList = splice cs.toList (off + k) vs
  | [], k, off, cs => rfl
  | v :: vs, k, off, cs => by
    rw [List.zipIdx_cons, List.foldl_cons, fold_splice vs (k + 1) off]
    simp [splice, Nat.add_assoc]
def PL (ρ : Mp) (h : Hp) (l l' : List (Nat × Value)) : Prop := l.length = l'.length ∧ ∀ (i : Nat) x x', l[i]? = some x → l'[i]? = some x' → x.1 = x'.1 ∧ VR ρ h x.2 x'.2
theorem PL.head {x : Nat × Value} {l l' : List (Nat × Value)} (hl : PL ρ h (x :: l) l') : ∃ x' m', l' = x' :: m' ∧ (x.1 = x'.1 ∧ VR ρ h x.2 x'.2) ∧ PL ρ h l m' := by
  cases l' with
  | nil => have := hl.1; simp at this
  | cons x' m' => exact ⟨x', m', rfl, hl.2 0 x x' rfl rfl, by have := hl.1; simpa using this, fun i u u' h1 h2 => hl.2 (i + 1) u u' (by simpa using h1) (by simpa using h2)⟩
theorem fill_ok {pl pl' : Nat → Option (Nat × Nat)} (hpl : ∀ i x, pl i = some x → pl' i = some x) : ∀ (l l' : List (Nat × Value)) (cs : List Value) (cs' : Array Value) (r : List Value), PL ρ h l l' → VL ρ h cs cs'.toList → fillP pl cs l = some r →
    ∃ r', Instr.fill pl' cs' l' = some r' ∧ VL ρ h r r'.toList
  | [], l', cs, cs', r, hl, hc, e => by
    cases e
    cases l' with
    | nil => exact ⟨cs', rfl, hc⟩
    | cons x m => have := hl.1; simp at this
  | (i, v) :: l, l', cs, cs', r, hl, hc, e => by
    obtain ⟨⟨i', v'⟩, m', rfl, ⟨h1, h2⟩, h3⟩ := hl.head
    simp only at h1 h2
    subst h1
    rw [fillP] at e
    split at e
    · cases e
    · rename_i off size hp
      split at e
      · rename_i hcond
        have hs : v'.cells.size = size := by rw [h2.cells_size]; exact hcond.1
        have hlen := hc.1
        have hcond' : (v'.cells.size ≠ size || off + v'.cells.size > cs'.size) = false := by
          simp [hs]
          have := hcond.2
          simp at hlen
          omega
        rw [Instr.fill, hpl i _ hp]
        simp only [hcond', Bool.false_eq_true, if_false]
        refine fill_ok hpl l m' _ _ r h3 ?_ e
        have hf := fold_splice v'.cells.toList 0 off cs'
        have hf2 : (v'.cells.zipIdx.foldl (fun (cs : Array Value) (x : Value × Nat) => cs.setIfInBounds (off + x.2) x.1) cs').toList = splice cs'.toList off v'.cells.toList := by
          rw [← Array.foldl_toList, Array.toList_zipIdx]
          simpa using hf
        rw [hf2]
        exact VL.splice _ _ _ _ off hc h2.cells
      · cases e


theorem places_ok {fs : List Field} {l : List (Nat × Nat)} (e : places P fs = some l) : ∀ (w : World), (fs.mapM fun f => Prod.mk f.offset <$> sizeOf f.type).run P w = .ok l w := by
  induction fs generalizing l with
  | nil => intro w; cases e; simp
  | cons f r ih =>
    intro w
    rw [places] at e
    split at e
    · rename_i i m hi hm
      cases e
      simp [List.mapM_cons, run_size hi, ih hm w]
    · cases e

theorem build_ok {t : TypeId} {l l' : List (Nat × Value)} {r : Value} (hl : PL ρ h l l') (e : buildP P t l = some r) :
    ∃ r', (Instr.build t l'.toArray).run P w = .ok r' w ∧ VR ρ h r r' := by
  unfold buildP at e
  split at e
  · rename_i fs z hu hz
    obtain ⟨i, hi, hz', hp, hsz⟩ := zero_of hz
    split at e
    · rename_i pl hpl
      obtain ⟨cs, hcs, rfl⟩ := Option.map_eq_some_iff.1 e
      obtain ⟨r', h1, h2⟩ := fill_ok (ρ := ρ) (h := h) (pl := (pl[·]?)) (pl' := (pl.toArray[·]?)) (fun i x hx => by simpa using hx) l l' _ z.cells cs hl (plain_cells hp) hcs
      refine ⟨.agg r', ?_, .agg _ _ (by simpa using h2.1) (fun j u u' g1 g2 => h2.2 j u u' (by simpa using g1) (by simpa using g2))⟩
      have h3 : (fs.mapM fun f => (do pure (f.offset, ← sizeOf f.type) : Sem (Nat × Nat))).run P w = .ok pl.toArray w := by
        rw [← Array.toArray_toList (xs := fs), List.mapM_toArray]
        simp [places_ok hpl w]
      simp only [Instr.build, Sem.run_bind, run_zero hi hz', Result.andThen_ok, run_underlying hu, h3, h1, Sem.run_pure]
    · cases e
  · rename_i n el z hu hz
    obtain ⟨i, hi, hz', hp, hsz⟩ := zero_of hz
    split at e
    · rename_i q hq
      obtain ⟨cs, hcs, rfl⟩ := Option.map_eq_some_iff.1 e
      obtain ⟨r', h1, h2⟩ := fill_ok (ρ := ρ) (h := h) (fun i x hx => hx) l l' _ z.cells cs hl (plain_cells hp) hcs
      refine ⟨.agg r', ?_, .agg _ _ (by simpa using h2.1) (fun j u u' g1 g2 => h2.2 j u u' (by simpa using g1) (by simpa using g2))⟩
      simp only [Instr.build, Sem.run_bind, run_zero hi hz', Result.andThen_ok, run_underlying hu, run_size hq, h1, Sem.run_pure, List.toList_toArray]
    · cases e
  · cases e

theorem buildSlice_ok (R : Rel ρ h w) {t : TypeId} {n : Nat} {l l' : List (Nat × Value)} {r : Value} {h' : Hp} (hl : PL ρ h l l') (e : buildSliceP P h t n l = some (r, h')) :
    ∃ r' w' ρ', (Instr.buildSlice t n l'.toArray).run P w = .ok r' w' ∧ VR ρ' h' r r' ∧ Rel ρ' h' w' ∧ Go1 ρ h w ρ' h' w' := by
  unfold buildSliceP at e
  split at e
  · rename_i el hu
    split at e
    · rename_i q z hq hz
      obtain ⟨i, hi, hz', hp, hsz⟩ := zero_of hz
      rw [hq] at hi; cases hi
      split at e
      · rename_i hb
        split at e
        · rename_i cs hcs
          split at e
          · rename_i hone
            simp only [Option.some.injEq, Prod.mk.injEq] at e
            obtain ⟨rfl, rfl⟩ := e
            have hA : (Array.range (n * q.size)).map (z.cells[· % z.cells.size]!) = (reps n z.cells.toList).toArray := by
              apply Array.ext'
              have := made_reps z.cells n (by omega)
              rw [hsz] at this
              simpa [madeCells] using this
            obtain ⟨r', h1, h2⟩ := fill_ok (ρ := ρ) (h := h) (fun i x hx => hx) l l' _ (reps n z.cells.toList).toArray cs hl (by simpa using reps_vl hp n) hcs
            obtain ⟨R', G⟩ := R.new h2 q.size el
            simp only [Array.toArray_toList] at R' G
            have hfl : ∀ (l : List (Nat × Value)) (cs r : List Value), fillP (fun i => some (i * q.size, q.size)) cs l = some r → r.length = cs.length := by
              intro l
              induction l with
              | nil => intro cs r e; cases e; rfl
              | cons x l ih =>
                intro cs r e
                obtain ⟨i, v⟩ := x
                rw [fillP] at e
                simp only at e
                split at e
                · rw [ih _ _ e, splice_length]
                · cases e
            have hlen : cs.length = n * q.size := by rw [hfl _ _ _ hcs, reps_length]; simp [hsz]
            refine ⟨_, _, _, ?_, new_slice h cs q.size n n w.heap.size (Nat.le_refl _) (by omega), R', G⟩
            by_cases h0 : n * q.size = 0
            · have hn : n = 0 := by
                rcases Nat.mul_eq_zero.1 h0 with h | h
                · exact h
                · omega
              subst hn
              simp only [reps] at h1
              simp [Instr.buildSlice, run_underlying hu, run_size hq, Array.range_zero', h1, newRow]
            · have hle : ¬ (n * q.size > 2 ^ 24) := by omega
              simp only [Instr.buildSlice, Sem.run_bind, run_underlying hu, Result.andThen_ok, run_size hq, Sem.run_ite, if_neg hle, if_neg h0, run_zero hq hz', Sem.run_pure, hA, h1, newRow, run_newObj, List.toList_toArray]
              rfl
          · cases e
        · cases e
      · cases e
    · cases e
  · cases e
end Go.Pm
