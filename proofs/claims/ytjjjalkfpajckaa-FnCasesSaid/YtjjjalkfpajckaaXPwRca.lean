/- FnCases: the row. -/
import Derived.Test.YtjjjalkfpajckaaRows
import Derived.Test.YtjjjalkfpajckaaP10

set_option linter.unusedVariables false
set_option linter.unusedSimpArgs false
set_option maxRecDepth 4000
namespace Go.Pm.PP
open Go.Pm Go.Proofs
section
variable {H : Type} {enc : TypeId × Value → H} {W : World}
/-- The law's call in the model. -/
theorem fnCases_calls {v0 : Value} {n0 : Nat} {x0 : DataW H × List MemPlace} (d0 : DataW.trod enc P W 0 (fun _ => true) true n0 t_S_u8 [v0] = some x0) :
    Calls P n_laws_FnCases #[v0] W fun e W' => e = .returned (.bool true) ∧ Go.RowKit.Below W.heap.size W W' := by
  obtain ⟨h0, ρ0, p0, xs0, q0, R0, a0, t0, r0, N0, l0⟩ := open_bytes Rel.nil AllRo.nil d0
  exact Ret.true_calls (args' := [v0]) follows (law_Cases N0 l0) R0 (VL.cons r0 VL.nil) a0
end
end Go.Pm.PP
namespace Go.Proofs.Ytjjjalkfpajckaa.fnCases
open Go.ChangeShapes Go.WideShapes Go.ChangeAt Go.RowKit
theorem own : ownKnob Try.prog.godebug = none := by kernel_rfl
theorem laidOut : laidOutB Try.prog = true := by kernel_rfl
set_option maxRecDepth 100000 in
theorem lifted (os : Os) (started : os.Started) (H : Type) (enc : TypeId × Value → H) :
    ReturnsInHanded {} Try.checked os 4 .any (Rows.fnCasesSpec.pre6 enc Try.prog Try.f4 Rows.fnCasesRow.domain false) (Rows.fnCasesSpec.post enc Try.prog Try.f4 false true false false) := by
  refine returnsInHanded_of_change (C := Try.checked) own started (by kernel_rfl) Try.func4
    (ChangeSpec.witness6 (enc := enc) (C := Try.checked) false ⟨#[], #[.slice none 0 0], []⟩ 8 (by kernel_rfl) (by kernel_rfl) (by kernel_rfl) (by kernel_rfl)) ?_
  intro W base args ds gs before hval0 hW hcnd _
  have hval : ∀ (j : Nat) t v, Try.f4.params[j]? = some t → args[j]? = some v → Value.okWide Try.prog W .any base t v := hval0
  have hW' := hW
  obtain ⟨p, q, hA0, hV, rfl, hfz, hnd⟩ := hW
  have hA : DataW.TrodAll enc Try.prog W 0 (fun _ => true) true Try.f4.params.toList args.toList ds p := hA0
  rw [Try.params4] at hA hval
  obtain ⟨v0, vs0, d0, ds0, p0, q0, hargs, rfl, rfl, h0, r0⟩ := trodAll_cons hA
  obtain ⟨rfl, rfl, rfl⟩ := trodAll_nil r0
  obtain rfl : args = #[v0] := by cases args; simp_all
  obtain ⟨rfl, rfl⟩ := trodVars_none hV
  obtain ⟨a0, len0, cap0, rfl⟩ := okWide_slice Go.Pm.PP.u_S_u8 (hval 0 22 v0 rfl rfl)
  have k0 := h0
  have lt0 : ∀ x ∈ p0, x.block < W.heap.size := by obtain ⟨m, hm⟩ := k0; exact DataW.trod_lt m _ _ _ hm
  obtain ⟨n0, hf0⟩ := h0
  clear hA0 hval0
  refine (Go.Pm.PP.fnCases_calls (enc := enc) (W := W)  hf0).mono fun e W' ⟨he, bel⟩ => ?_
  subst he
  exact ⟨_, rfl, _, _, _, [], _, [], hW', trodAll_mk1 (shut_bool Try.underlying4 _),
    (trodAll_cons_mk (Below.trod laidOut (by kernel_rfl) (of_decide_eq_true (by kernel_rfl)) k0 bel lt0) trodAll_mk0), rfl, bel.frame _, fun h => by cases h⟩
set_option maxRecDepth 100000 in
theorem named : Try.pinned.checked.prog.funcNamed Rows.fnCasesRow.func = some 4 := by kernel_rfl
set_option maxRecDepth 100000 in
theorem inst : Func.isInstance Try.pinned.checked.prog Try.f4 Rows.fnCasesRow.origin Rows.fnCasesRow.targs := of_decide_eq_true (by kernel_rfl)
set_option maxRecDepth 100000 in
theorem wrap : Func.isWrapper Try.pinned.checked.prog Try.f4 Rows.fnCasesRow.wrapper Rows.fnCasesRow.mainSum := by
  unfold Func.isWrapper; first | (rw [if_pos (by decide +kernel)]; kernel_rfl) | (rw [if_neg (by decide +kernel)]; exact ⟨rfl, rfl⟩)
set_option maxRecDepth 100000 in
theorem joined : joinedFacts Try.pinned.checked.prog 4 Try.f4 Rows.fnCasesSpec Rows.fnCasesRow = true := by kernel_rfl
theorem over : Rows.fnCasesRow.holds Try.pinned (OpenSpec.ofChange Rows.fnCasesSpec) :=
  OpenClaim.holds_of_wide 4 Try.f4 rfl rfl rfl rfl rfl rfl rfl ⟨rfl, rfl, rfl, rfl, rfl⟩ rfl rfl rfl rfl rfl named Try.func4 joined inst wrap
    (fun os started H enc _ => lifted os started H enc)
theorem proved : Rows.FnCasesSaid := over
#print axioms proved
end Go.Proofs.Ytjjjalkfpajckaa.fnCases
