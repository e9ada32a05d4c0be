/- The operations that call nothing: what the small machine reckons, the model does. -/
import Derived.Test.YtagofldjmcaalaaPmC
set_option linter.unusedVariables false
set_option linter.unusedSimpArgs false
namespace Go.Pm
variable {P : Program} {ρ : Mp} {h : Hp} {w : World}

/-- What an operation does in the model, beside what it does in the small machine. -/
def Ok (P : Program) (ρ : Mp) (h : Hp) (w : World) (r : Result Next) (v : Value) (h' : Hp) : Prop :=
  ∃ v' w' ρ', (r = .ok (.value v') w' ∨ (r = .ok .skip w' ∧ v' = undef)) ∧ VR ρ' h' v v' ∧ Rel ρ' h' w' ∧ Go1 ρ h w ρ' h' w'
theorem Ok.same (R : Rel ρ h w) {r : Result Next} {v v' : Value} (hr : r = .ok (.value v') w) (hv : VR ρ h v v') : Ok P ρ h w r v h :=
  ⟨v', w, ρ, .inl hr, hv, R, Go1.refl _ _ _⟩

theorem run_info {t : TypeId} {i : TypeInfo} (hi : P.info? t = some i) (w : World) : (typeInfo t).run P w = .ok i w := by simp [typeInfo, hi]
theorem run_size {t : TypeId} {i : TypeInfo} (hi : P.info? t = some i) (w : World) : (sizeOf t).run P w = .ok i.size w := by simp [sizeOf, run_info hi]
theorem run_zero {t : TypeId} {i : TypeInfo} {z : Value} (hi : P.info? t = some i) (hz : i.zero = some z) (w : World) : (zeroValue t).run P w = .ok z w := by simp [zeroValue, run_info hi, hz]
theorem run_agg {t : TypeId} {d : TypeDesc} (hu : P.underlying t = some d) (w : World) : (isAgg t).run P w = .ok (aggD d) w := by
  simp only [isAgg, Sem.run_bind, run_underlying hu, Result.andThen_ok]
  cases d <;> rfl

theorem row_ptr {a : Addr} {x : Row} {v' : Value} (hx : rowAt h a = some x) (hv : VR ρ h (.pointer (some a)) v') :
    ∃ p, h[a.block]? = some (some x) ∧ ρ a.block = some p ∧ v' = .pointer (some ⟨p.b, p.d + a.off, none⟩) := by
  unfold rowAt at hx
  split at hx
  · rename_i y hy
    split at hx
    · rename_i hs
      cases hx
      cases hv with
      | ptr r o z p hz hp => exact ⟨p, hy, hp, rfl⟩
      | ptrGone _ a' hg =>
        obtain ⟨L, h1, h2, h3⟩ := hg
        rw [hs] at h1
        cases h1
        have := h3 x hy
        omega
    · cases hx
  · cases hx
theorem row_slice {a : Addr} {x : Row} {n c : Nat} {v' : Value} (hx : rowAt h a = some x) (hv : VR ρ h (.slice (some a) n c) v') :
    (∃ p c', h[a.block]? = some (some x) ∧ ρ a.block = some p ∧ v' = .slice (some ⟨p.b, p.d + a.off, none⟩) n c' ∧ n ≤ c ∧ c ≤ c' ∧ (x.ro = false → p.d + a.off + c' * x.sz ≤ p.bs)) ∨
    (n = 0 ∧ c = 0 ∧ ∃ a' p, v' = .slice (some a') 0 0 ∧ h[a.block]? = some (some x) ∧ ρ a.block = some p) := by
  unfold rowAt at hx
  split at hx
  · rename_i y hy
    split at hx
    · rename_i hs
      cases hx
      cases hv with
      | sl r o z p n c c' hz hp h1 h2 h3 =>
        have : z = x := by
          have := hz.symm.trans hy
          simpa using this
        subst this
        exact .inl ⟨p, c', hy, hp, rfl, h1, h2, h3⟩
      | slZero r o z p a' hz hp => exact .inr ⟨rfl, rfl, a', p, rfl, hy, hp⟩
      | slGone _ a' _ _ c' hg =>
        obtain ⟨L, h1, h2, h3⟩ := hg
        rw [hs] at h1
        cases h1
        have := h3 x hy
        omega
    · cases hx
  · cases hx
theorem rowAt_spot {a : Addr} {x : Row} (hx : rowAt h a = some x) : a.spot = some x.cells.length ∧ h[a.block]? = some (some x) := by
  unfold rowAt at hx
  split at hx
  · rename_i y hy
    split at hx
    · rename_i hs; cases hx; exact ⟨hs, hy⟩
    · cases hx
  · cases hx

/-! ### load, store -/
theorem load_ok (R : Rel ρ h w) {t : TypeId} {v v' x : Value} (hv : VR ρ h v v') (e : loadP P h t v = some x) :
    ∃ x', (Instr.loadAt t v').run P w = .ok x' w ∧ VR ρ h x x' := by
  unfold loadP at e
  split at e
  · rename_i a
    split at e
    · rename_i row d i hrow hu hi
      obtain ⟨p, hx, hp, rfl⟩ := row_ptr hrow hv
      split at e
      · rename_i hd
        split at e
        · rename_i hle
          cases e
          obtain ⟨l', hl, hc⟩ := R.seg hx hp a.off i.size
          have hlen : l'.length = i.size := by rw [← hl.1]; simp; omega
          refine ⟨.agg l'.toArray, ?_, .agg _ _ (by simpa using hl.1) (fun j u u' h1 h2 => hl.2 j u u' (by simpa using h1) (by simpa using h2))⟩
          have h1 := run_loadCells_list (P := P) w ⟨p.b, p.d + a.off, none⟩ l' hc
          rw [hlen] at h1
          simp [Instr.loadAt, Instr.sureAddr, loadVar, run_agg hu, hd, run_size hi, h1]
        · cases e
      · rename_i hd
        obtain ⟨u, h1, h2⟩ := R.cell hx hp e
        refine ⟨u, ?_, h2⟩
        have hd' : aggD d = false := by simpa using hd
        simp [Instr.loadAt, Instr.sureAddr, loadVar, run_agg hu, hd', h1]
    · cases e
  · cases e

theorem VR.cells_size {v v' : Value} (hv : VR ρ h v v') : v'.cells.size = v.cells.size := by simpa using hv.cells.1.symm

theorem store_ok (R : Rel ρ h w) {t : TypeId} {v v' x x' : Value} {h' : Hp} (hv : VR ρ h v v') (hx' : VR ρ h x x') (e : storeP P h t x v = some h') :
    ∃ w', (Instr.storeAt t v' x').run P w = .ok () w' ∧ Rel ρ h' w' ∧ Go1 ρ h w ρ h' w' := by
  unfold storeP at e
  split at e
  · rename_i a
    split at e
    · rename_i row i hrow hi
      obtain ⟨p, hx, hp, rfl⟩ := row_ptr hrow hv
      split at e
      · rename_i hc
        obtain ⟨hro, hsz, hle, h1⟩ := hc
        cases e
        obtain ⟨w', hrun, R', G⟩ := R.store (P := P) hx hp hro hx'.cells h1 a.off (by simp; omega)
        refine ⟨w', ?_, R', G⟩
        have : ¬ x'.cells.size ≠ i.size := by rw [hx'.cells_size]; simpa using hsz
        simp only [Instr.storeAt, Instr.sureAddr, storeVar, Sem.run_bind, Sem.run_pure, Result.andThen_ok, run_size hi, Sem.run_ite, this, if_false, hrun]
      · cases e
    · cases e
  · cases e

/-! ### numbers -/
theorem binI_run {op : BinOp} {k : IntKind} {a b : Int} {r : Value} (e : binI op k a b = some r) {t : TypeId} {X Y : Operand} (hns : isShift op = false) :
    (do Go.eqGuard op t X Y (.int k a) (.int k b); Go.binOp op t (.int k a) (.int k b) : Sem Value).run P w = .ok r w ∧ VR ρ h r r := by
  cases op <;> simp only [binI, isShift] at e hns <;> (try cases hns) <;>
    first
    | (cases e; exact ⟨by simp [Go.eqGuard, Go.binOp, Op.intArith, Op.intBits, Op.intCmp], by first | exact .int _ _ | exact .bool _⟩)
    | (split at e
       · cases e
       · rename_i hb
         cases e
         exact ⟨by simp [Go.eqGuard, Go.binOp, Op.intDiv, hb], .int _ _⟩)
    | cases e

end Go.Pm
