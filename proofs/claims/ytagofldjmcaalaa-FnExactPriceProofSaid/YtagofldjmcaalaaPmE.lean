/- The operations, one by one. -/
import Derived.Test.YtagofldjmcaalaaPmD
set_option linter.unusedVariables false
set_option linter.unusedSimpArgs false
namespace Go.Pm
variable {P : Program} {ρ : Mp} {h : Hp} {w : World}

theorem bin_ok {op : BinOp} {t : TypeId} {x y x' y' r : Value} (hx : VR ρ h x x') (hy : VR ρ h y y') (e : binP P op t x y = some r) (X Y : Operand) :
    (do Go.eqGuard op t X Y x' y'; Go.binOp op t x' y' : Sem Value).run P w = .ok r w ∧ VR ρ h r r := by
  unfold binP at e
  split at e
  · rename_i k a k' b
    cases hx; cases hy
    split at e
    · rename_i hs
      unfold shiftI at e
      split at e
      · cases e
      · rename_i hb
        cases op <;> simp only [isShift] at hs e <;> (try cases hs) <;> (cases e; exact ⟨by simp [Go.eqGuard, Go.binOp, Op.shift, hb], .int _ _⟩)
    · rename_i hs
      split at e
      · rename_i hk
        subst hk
        exact binI_run e (by simpa using hs)
      · cases e
  · rename_i a b
    cases hx; cases hy
    cases op <;> simp only [binS] at e <;>
      first
      | (cases e; exact ⟨by simp [Go.eqGuard, Go.binOp, Op.stringOp], .bool _⟩)
      | (split at e
         · cases e
         · rename_i hb
           cases e
           refine ⟨?_, .string _⟩
           simp only [Go.eqGuard, Go.binOp, Op.stringOp, if_neg hb]
           rfl)
      | cases e
  · rename_i a b
    cases hx; cases hy
    have key : P.underlying t = some .bool → ∀ d, (Op.equalIn (d + 1) t (.bool a) (.bool b)).run P w = .ok (a == b) w := by
      intro hu d
      simp [Op.equalIn, run_underlying hu]
    split at e
    · rename_i hu
      cases e
      exact ⟨by simp [Go.eqGuard, Go.binOp, Op.equal, Op.maxDepth, key hu 9999], .bool _⟩
    · rename_i hu
      cases e
      exact ⟨by simp [Go.eqGuard, Go.binOp, Op.equal, Op.maxDepth, key hu 9999], .bool _⟩
    · cases e
  · cases e

theorem un_ok {op : UnOp} {x x' r : Value} (hx : VR ρ h x x') (e : unP op x = some r) : (Op.unary op x').run P w = .ok r w ∧ VR ρ h r r := by
  unfold unP at e
  split at e
  · cases hx; cases e; exact ⟨by simp [Op.unary, Op.intArith], .int _ _⟩
  · cases hx; cases e; exact ⟨by simp [Op.unary], .bool _⟩
  · cases e

theorem part_ok {t : TypeId} {cs cs' : Array Value} {off : Nat} {r : Value} (hc : VL ρ h cs.toList cs'.toList) (e : partP P t cs.toList off = some r) :
    ∃ r', (part t cs' off).run P w = .ok r' w ∧ VR ρ h r r' := by
  unfold partP at e
  split at e
  · rename_i d i hu hi
    split at e
    · rename_i hd
      cases e
      refine ⟨.agg (cs'.extract off (off + i.size)), by simp [part, run_agg hu, hd, run_size hi], ?_⟩
      have h1 := (hc.drop off).take i.size
      have h2 : cs'.extract off (off + i.size) = ((cs'.toList.drop off).take i.size).toArray := by
        apply Array.ext'
        rw [Array.toList_extract, List.extract_eq_take_drop]
        simp
      rw [h2]
      exact .agg _ _ (by simpa using h1.1) (fun j u u' g1 g2 => h1.2 j u u' (by simpa using g1) (by simpa using g2))
    · rename_i hd
      have hd' : aggD d = false := by simpa using hd
      have hlt : off < cs'.toList.length := by rw [← hc.1]; exact (List.getElem?_eq_some_iff.1 e).1
      have h1 := List.getElem?_eq_getElem hlt
      refine ⟨_, ?_, hc.2 off r _ e h1⟩
      have h2 : cs'[off]? = some cs'.toList[off] := by simp
      simp [part, run_agg hu, hd', h2]
  · cases e

theorem agg_list {cs : Array Value} {v' : Value} (hv : VR ρ h (.agg cs) v') : ∃ cs', v' = .agg cs' ∧ VL ρ h cs.toList cs'.toList := by
  cases hv with
  | agg _ a' e1 h1 => exact ⟨a', rfl, by simpa using e1, fun i u u' g1 g2 => h1 i u u' (by simpa using g1) (by simpa using g2)⟩
theorem tuple_list {cs : Array Value} {v' : Value} (hv : VR ρ h (.tuple cs) v') : ∃ cs', v' = .tuple cs' ∧ VL ρ h cs.toList cs'.toList := by
  cases hv with
  | tuple _ a' e1 h1 => exact ⟨a', rfl, by simpa using e1, fun i u u' g1 g2 => h1 i u u' (by simpa using g1) (by simpa using g2)⟩

theorem add_some (a : Addr) (n : Nat) : (addP a n) = ⟨a.block, a.off + n, a.spot⟩ := rfl

/-- An address moved on within its row. -/
theorem ptr_add {a : Addr} {v' : Value} (hv : VR ρ h (.pointer (some a)) v') (n : Nat) : ∃ a', v' = .pointer (some a') ∧ VR ρ h (.pointer (some (addP a n))) (.pointer (some (a'.add n))) := by
  cases hv with
  | ptr r o x p hx hp => exact ⟨_, rfl, by rw [add_none, add_some, Nat.add_assoc]; exact .ptr r (o + n) x p hx hp⟩
  | ptrGone _ a' hg =>
    refine ⟨a', rfl, .ptrGone _ _ ?_⟩
    obtain ⟨L, h1, h2, h3⟩ := hg
    exact ⟨L, h1, h2, h3⟩

theorem indexAddr_ok {t : TypeId} {x y x' y' r : Value} (hx : VR ρ h x x') (hy : VR ρ h y y') (e : indexAddrP P h t x y = some r) :
    ∃ r', (Instr.indexAt t x' y').run P w = .ok r' w ∧ VR ρ h r r' := by
  unfold indexAddrP at e
  split at e
  · rename_i el a n c k j hu
    cases hy
    split at e
    · rename_i q row hi hrow
      split at e
      · rename_i hj
        cases e
        rcases row_slice hrow hx with ⟨p, c', h1, h2, rfl, h3, h4, h5⟩ | ⟨rfl, _⟩
        · refine ⟨.pointer (some ⟨p.b, p.d + (a.off + j.toNat * q.size), none⟩), ?_, ?_⟩
          · simp [Instr.indexAt, asIntOf, run_underlying hu, hj.1, hj.2, run_size hi, add_none, Nat.add_assoc]
          · have hs := (rowAt_spot hrow).1
            have := VR.ptr (ρ := ρ) (h := h) a.block (a.off + j.toNat * q.size) row p h1 h2
            rw [add_some, hs]
            exact this
        · omega
      · cases e
    · cases e
  · rename_i n el a k j hu
    cases hy
    split at e
    · rename_i q hi
      split at e
      · rename_i hj
        cases e
        obtain ⟨a', rfl, h1⟩ := ptr_add hx (j.toNat * q.size)
        exact ⟨_, by simp [Instr.indexAt, asIntOf, run_underlying hu, Instr.sureAddr, hj.1, hj.2, run_size hi], h1⟩
      · cases e
    · cases e
  · cases e

theorem index_ok {t : TypeId} {x y x' y' r : Value} (hx : VR ρ h x x') (hy : VR ρ h y y') (e : indexP P t x y = some r) :
    ∃ r', (Instr.index t x' y').run P w = .ok r' w ∧ VR ρ h r r' := by
  unfold indexP at e
  split at e
  · rename_i n el cs k j hu
    cases hy
    obtain ⟨cs', rfl, hc⟩ := agg_list hx
    split at e
    · rename_i q hi
      split at e
      · rename_i hj
        obtain ⟨r', h1, h2⟩ := part_ok (w := w) hc e
        exact ⟨r', by simp [Instr.index, asIntOf, run_underlying hu, hj.1, hj.2, run_size hi, h1], h2⟩
      · cases e
    · cases e
  · rename_i s k j hu
    cases hx; cases hy
    split at e
    · rename_i hj
      obtain ⟨b, hb, rfl⟩ := Option.map_eq_some_iff.1 e
      exact ⟨_, by simp [Instr.index, asIntOf, run_underlying hu, hj, hb], .int _ _⟩
    · cases e
  · cases e

theorem field_ok {t : TypeId} {fs : List Field} {f : Field} {j : Nat} {cs : Array Value} {x' r : Value} (hfs : fieldsOf P t = some fs) (hf : fs[j]? = some f) (hx : VR ρ h (.agg cs) x')
    (e : partP P f.type cs.toList f.offset = some r) : ∃ r', (Instr.field t x' j).run P w = .ok r' w ∧ VR ρ h r r' := by
  obtain ⟨cs', rfl, hc⟩ := agg_list hx
  unfold fieldsOf at hfs
  split at hfs
  · rename_i fa hu
    cases hfs
    obtain ⟨r', h1, h2⟩ := part_ok (w := w) hc e
    have : fa[j]? = some f := by simpa using hf
    exact ⟨r', by simp [Instr.field, run_underlying hu, this, asAgg, h1], h2⟩
  · cases hfs

theorem fieldAddr_ok {t : TypeId} {fs : List Field} {f : Field} {j : Nat} {a : Addr} {x' : Value} {i : TypeInfo} (hfs : fieldsOf P t = some fs) (hf : fs[j]? = some f) (hi : P.info? f.type = some i) (hs : 0 < i.size) (hx : VR ρ h (.pointer (some a)) x') :
    ∃ r', (Instr.fieldAt t x' j).run P w = .ok r' w ∧ VR ρ h (.pointer (some (addP a f.offset))) r' := by
  unfold fieldsOf at hfs
  split at hfs
  · rename_i fa hu
    cases hfs
    obtain ⟨a', rfl, h1⟩ := ptr_add hx f.offset
    have : fa[j]? = some f := by simpa using hf
    have hne : ¬ i.size = 0 := by omega
    exact ⟨_, by simp [Instr.fieldAt, run_underlying hu, this, Instr.sureAddr, fieldPlace, run_size hi, hne], h1⟩
  · cases hfs

/-! ### slices -/
theorem asI_vr {v v' : Value} (hv : VR ρ h v v') {n : Int} (e : asI v = some n) : ∃ k, v' = .int k n := by
  cases v <;> simp [asI] at e
  cases hv
  subst e
  exact ⟨_, rfl⟩

def OV (ρ : Mp) (h : Hp) : Option Value → Option Value → Prop
  | none, none => True
  | some v, some v' => VR ρ h v v'
  | _, _ => False

theorem run_bound {k : IntKind} {i : Int} {y : Nat} {code : BoundsCode} (h0 : 0 ≤ i) (h1 : i ≤ y) : (Instr.sliceBound (.int k i) y code).run P w = .ok i.toNat w := by
  simp [Instr.sliceBound, asIntOf, h0, h1]

theorem run_bounds {b : Bool} {len cap : Nat} {lo hi lo' hi' : Option Value} (hl : OV ρ h lo lo') (hh : OV ρ h hi hi') {l u : Int}
    (el : loP lo = some l) (eu : hiP len hi = some u) (h0 : 0 ≤ l) (h1 : l ≤ u) (h2 : u ≤ cap) :
    (Instr.sliceBounds b len cap lo' hi' none).run P w = .ok (l.toNat, u.toNat, cap) w := by
  cases lo with
  | none =>
    cases lo' with
    | some _ => cases hl
    | none =>
      cases hi with
      | none =>
        cases hi' with
        | some _ => cases hh
        | none => cases el; cases eu; simp [Instr.sliceBounds]
      | some v =>
        cases hi' with
        | none => cases hh
        | some v' =>
          obtain ⟨k, rfl⟩ := asI_vr hh eu
          cases el
          simp [Instr.sliceBounds, run_bound (P := P) (w := w) (k := k) (i := u) (by omega) h2]
  | some z =>
    cases lo' with
    | none => cases hl
    | some z' =>
      obtain ⟨k, rfl⟩ := asI_vr hl el
      cases hi with
      | none =>
        cases hi' with
        | some _ => cases hh
        | none =>
          cases eu
          simp [Instr.sliceBounds, run_bound (P := P) (w := w) (k := k) (i := l) h0 h1]
      | some v =>
        cases hi' with
        | none => cases hh
        | some v' =>
          obtain ⟨k2, rfl⟩ := asI_vr hh eu
          have hu : (u.toNat : Int) = u := by omega
          simp [Instr.sliceBounds, run_bound (P := P) (w := w) (k := k2) (i := u) (by omega) h2, run_bound (P := P) (w := w) (k := k) (i := l) (y := u.toNat) h0 (by omega)]

theorem slice_ok {t : TypeId} {x x' r : Value} {lo hi lo' hi' : Option Value} (hx : VR ρ h x x') (hl : OV ρ h lo lo') (hh : OV ρ h hi hi') (e : sliceP P h t x lo hi = some r) :
    ∃ r', (Instr.sliceAt t x' lo' hi' none).run P w = .ok r' w ∧ VR ρ h r r' := by
  unfold sliceP at e
  split at e
  · rename_i el a n c hu
    split at e
    · rename_i q row u l hi hrow eu el
      split at e
      · rename_i hb
        obtain ⟨h0, h1, h2, hsz⟩ := hb
        cases e
        rcases row_slice hrow hx with ⟨p, c', i1, i2, rfl, i3, i4, i5⟩ | ⟨rfl, rfl, a', p, rfl, i1, i2⟩
        · have hr := run_bounds (P := P) (w := w) (b := true) (len := n) (cap := c') hl hh el eu h0 h1 (by omega)
          have hs := (rowAt_spot hrow).1
          by_cases hm : c' = l.toNat
          · subst hm
            refine ⟨.slice (some ⟨p.b, p.d + a.off, none⟩) (u.toNat - l.toNat) (l.toNat - l.toNat), ?_, ?_⟩
            · simp [Instr.sliceAt, run_underlying hu, Instr.slice, hr, run_size hi]
            · rw [show u.toNat - l.toNat = 0 by omega, show c - l.toNat = 0 by omega, show l.toNat - l.toNat = 0 by omega, add_some, hs]
              exact .slZero _ _ row p _ i1 i2
          · refine ⟨.slice (some ⟨p.b, p.d + (a.off + l.toNat * q.size), none⟩) (u.toNat - l.toNat) (c' - l.toNat), ?_, ?_⟩
            · simp [Instr.sliceAt, run_underlying hu, Instr.slice, hr, run_size hi, hm, add_none, Nat.add_assoc]
            · have := VR.sl (ρ := ρ) (h := h) a.block (a.off + l.toNat * q.size) row p (u.toNat - l.toNat) (c - l.toNat) (c' - l.toNat) i1 i2 (by omega) (by omega) (fun hro => by
                have h6 := i5 hro
                rw [hsz] at h6 ⊢
                have : l.toNat * q.size + (c' - l.toNat) * q.size = c' * q.size := by rw [← Nat.add_mul]; congr 1; omega
                omega)
              rw [add_some, hs]
              exact this
        · have hu0 : u = 0 := by omega
          have hl0 : l = 0 := by omega
          subst hu0; subst hl0
          have hr := run_bounds (P := P) (w := w) (b := true) (len := 0) (cap := 0) hl hh el (by simpa using eu) (by omega) (by omega) (by omega)
          refine ⟨.slice (some a') 0 0, ?_, ?_⟩
          · simp [Instr.sliceAt, run_underlying hu, Instr.slice, hr, run_size hi]
          · rw [add_some, (rowAt_spot hrow).1]
            exact .slZero _ _ row p _ i1 i2
      · cases e
    · cases e
  · rename_i eT hu
    cases hx with
    | nilSlice =>
      split at e
      · rename_i q u l hi eu el
        split at e
        · rename_i h0
          obtain ⟨rfl, rfl⟩ := h0
          cases e
          have hr := run_bounds (P := P) (w := w) (b := true) (len := 0) (cap := 0) hl hh el (by simpa using eu) (by omega) (by omega) (by omega)
          exact ⟨.slice none 0 0, by simp [Instr.sliceAt, run_underlying hu, Instr.slice, hr, run_size hi], .nilSlice⟩
        · cases e
      · cases e
  · rename_i s hu
    cases hx
    split at e
    · rename_i u l eu el
      split at e
      · rename_i h0
        cases e
        have hr := run_bounds (P := P) (w := w) (b := false) (len := s.size) (cap := s.size) hl hh el eu h0.1 h0.2.1 h0.2.2
        exact ⟨_, by simp [Instr.sliceAt, run_underlying hu, Instr.slice, hr], .string _⟩
      · cases e
    · cases e
  · cases e
end Go.Pm
