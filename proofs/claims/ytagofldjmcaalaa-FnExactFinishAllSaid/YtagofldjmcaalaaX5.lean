/- FnExactFinishAll: the row. -/
import Derived.Test.YtagofldjmcaalaaRows
import Derived.ProofKit
import Derived.OpenShut
import Derived.Carry
import Derived.Test.YtagofldjmcaalaaP4

set_option linter.unusedVariables false
namespace Go.Pm.PP
open Go.Pm Go.Proofs
section
variable {H : Type} {enc : TypeId × Value → H} {W : World}
/-- The law's call in the model. -/
theorem finishAll_calls {cs : Array Value} {n0 : Nat} {x0 : DataW H × List MemPlace} (hcs : cs.size = 5) (d0 : DataW.trod enc P W 0 (fun _ => true) true n0 t_laws_Dispatcher cs.toList = some x0) :
    Calls P n_laws_FnExactFinishAll #[.agg cs] W fun e W' => e = .returned (.bool true) ∧ Go.RowKit.Below W.heap.size W W' := by
  obtain ⟨h, ρ, pj, pt, d, _, R, ha, _, r0, J, T, l0, l1⟩ := open_disp Rel.nil AllRo.nil hcs d0
  exact Ret.true_calls (args' := [.agg cs]) follows (law_FinishAll J T l0 l1) R (VL.cons r0 VL.nil) ha
end
end Go.Pm.PP
namespace Go.Proofs.Ytagofldjmcaalaa.fnExactFinishAll
open Go.ChangeShapes Go.WideShapes Go.ChangeAt Go.RowKit
theorem own : ownKnob Try.prog.godebug = none := by kernel_rfl
theorem laidOut : laidOutB Try.prog = true := by kernel_rfl
set_option maxRecDepth 100000 in
theorem lifted (os : Os) (started : os.Started) (H : Type) (enc : TypeId × Value → H) :
    ReturnsInHanded {} Try.checked os 4 .any (Rows.fnExactFinishAllSpec.pre6 enc Try.prog Try.f4 Rows.fnExactFinishAllRow.domain false) (Rows.fnExactFinishAllSpec.post enc Try.prog Try.f4 false true false false) := by
  refine returnsInHanded_of_change (C := Try.checked) own started (by kernel_rfl) Try.func4
    (ChangeSpec.witness6 (enc := enc) (C := Try.checked) false ⟨#[], #[.agg #[.int .i64 0, .int .i64 0, .int .i64 0, .slice none 0 0, .slice none 0 0]], []⟩ 8 (by kernel_rfl) (by kernel_rfl) (by kernel_rfl) (by kernel_rfl)) ?_
  intro W base args ds gs before hval0 hW hcnd _
  have hval : ∀ (j : Nat) t v, Try.f4.params[j]? = some t → args[j]? = some v → Value.okWide Try.prog W .any base t v := hval0
  have hW' := hW
  obtain ⟨p, q, hA0, hV, rfl, hfz, hnd⟩ := hW
  have hA : DataW.TrodAll enc Try.prog W 0 (fun _ => true) true Try.f4.params.toList args.toList ds p := hA0
  rw [Try.params4] at hA hval
  obtain ⟨v0, vs0, d0, ds0, p0, q0, hargs, rfl, rfl, h0, r0⟩ := trodAll_cons hA
  obtain ⟨rfl, rfl, rfl⟩ := trodAll_nil r0
  obtain rfl : args = #[v0] := by cases args; simp_all
  obtain ⟨rfl, rfl⟩ := trodVars_none hV
  obtain ⟨fs, f0, f1, f2, f3, f4, uf, _⟩ := Go.Pm.PP.lDispF
  obtain ⟨cs, rfl, hcs⟩ := okWide_struct uf (hval 0 40 v0 rfl rfl)
  have k0 := h0
  have lt0 : ∀ x ∈ p0, x.block < W.heap.size := by obtain ⟨m, hm⟩ := k0; exact DataW.trod_lt m _ _ _ hm
  obtain ⟨n0, hf0⟩ := h0
  clear hA0 hval0
  refine (Go.Pm.PP.finishAll_calls (enc := enc) (W := W) (hcs.trans Go.Pm.PP.cells_lDisp) hf0).mono fun e W' ⟨he, bel⟩ => ?_
  subst he
  exact ⟨_, rfl, _, _, _, [], _, [], hW', trodAll_mk1 (shut_bool Try.underlying4 _),
    trodAll_cons_mk (Below.trod laidOut (by kernel_rfl) (of_decide_eq_true (by kernel_rfl)) k0 bel lt0) trodAll_mk0, rfl, bel.frame _, fun h => by cases h⟩
theorem over : Rows.fnExactFinishAllRow.holds Try.pinned (OpenSpec.ofChange Rows.fnExactFinishAllSpec) :=
  OpenClaim.holds_of_wide 4 Try.f4 rfl rfl rfl rfl rfl rfl rfl ⟨rfl, rfl, rfl, rfl, rfl⟩ rfl rfl rfl rfl rfl (by kernel_rfl) Try.func4 (by kernel_rfl)
    (of_decide_eq_true (by kernel_rfl)) (by unfold Func.isWrapper; first | (rw [if_pos (by decide +kernel)]; kernel_rfl) | (rw [if_neg (by decide +kernel)]; exact ⟨rfl, rfl⟩))
    (fun os started H enc _ => lifted os started H enc)
theorem proved : Rows.FnExactFinishAllSaid := over
#print axioms proved
end Go.Proofs.Ytagofldjmcaalaa.fnExactFinishAll
