/- FnExactRegretBound: the row. -/
import Derived.Test.YtakgmbfmbeeadaaRows
import Derived.Test.YtakgmbfmbeeadaaP7
import Derived.Test.YtakgmbfmbeeadaaP8

set_option linter.unusedVariables false
set_option linter.unusedSimpArgs false
set_option maxRecDepth 4000
namespace Go.Pm.PP
open Go.Pm Go.Proofs
section
variable {H : Type} {enc : TypeId × Value → H} {W : World}
/-- The law's call in the model. -/
theorem fnExactRegretBound_calls {v0 : Value} {v1 : Value} {i2 : Int} {n0 n1 : Nat} {x0 x1 : DataW H × List MemPlace} (d0 : DataW.trod enc P W 0 (fun _ => true) true n0 t_S_S_laws_Job [v0] = some x0) (d1 : DataW.trod enc P W 0 (fun _ => true) true n1 t_S_int [v1] = some x1) :
    Calls P n_laws_FnExactRegretBound #[v0, v1, .int .i64 i2] W fun e W' => e = .returned (.bool true) ∧ Go.RowKit.Below W.heap.size W W' := by
  obtain ⟨h0, ρ0, p0, xs0, vs0, q0, R0, a0, t0, r0, N0, l0, m0⟩ := open_jss Rel.nil AllRo.nil d0
  obtain ⟨h1, ρ1, p1, xs1, q1, R1, a1, t1, r1, N1, l1⟩ := open_ints R0 a0 d1
  exact Ret.true_calls (args' := [v0, v1, .int .i64 i2]) follows (law_RegretBound (N0.pre q1) N1 l0 m0) R1 (VL.cons (r0.step t1) (VL.cons r1 (VL.cons (.int _ _) VL.nil))) a1
end
end Go.Pm.PP
namespace Go.Proofs.Ytakgmbfmbeeadaa.fnExactRegretBound
open Go.ChangeShapes Go.WideShapes Go.ChangeAt Go.RowKit
theorem own : ownKnob Try.prog.godebug = none := by kernel_rfl
theorem laidOut : laidOutB Try.prog = true := by kernel_rfl
set_option maxRecDepth 100000 in
theorem lifted (os : Os) (started : os.Started) (H : Type) (enc : TypeId × Value → H) :
    ReturnsInHanded {} Try.checked os 3 .any (Rows.fnExactRegretBoundSpec.pre6 enc Try.prog Try.f3 Rows.fnExactRegretBoundRow.domain false) (Rows.fnExactRegretBoundSpec.post enc Try.prog Try.f3 false true false false) := by
  refine returnsInHanded_of_change (C := Try.checked) own started (by kernel_rfl) Try.func3
    (ChangeSpec.witness6 (enc := enc) (C := Try.checked) false ⟨#[], #[.slice none 0 0, .slice none 0 0, .int .i64 0], []⟩ 8 (by kernel_rfl) (by kernel_rfl) (by kernel_rfl) (by kernel_rfl)) ?_
  intro W base args ds gs before hval0 hW hcnd _
  have hval : ∀ (j : Nat) t v, Try.f3.params[j]? = some t → args[j]? = some v → Value.okWide Try.prog W .any base t v := hval0
  have hW' := hW
  obtain ⟨p, q, hA0, hV, rfl, hfz, hnd⟩ := hW
  have hA : DataW.TrodAll enc Try.prog W 0 (fun _ => true) true Try.f3.params.toList args.toList ds p := hA0
  rw [Try.params3] at hA hval
  obtain ⟨v0, vs0, d0, ds0, p0, q0, hargs, rfl, rfl, h0, r0⟩ := trodAll_cons hA
  obtain ⟨v1, vs1, d1, ds1, p1, q1, rfl, rfl, rfl, h1, r1⟩ := trodAll_cons r0
  obtain ⟨v2, vs2, d2, ds2, p2, q2, rfl, rfl, rfl, h2, r2⟩ := trodAll_cons r1
  obtain ⟨rfl, rfl, rfl⟩ := trodAll_nil r2
  obtain rfl : args = #[v0, v1, v2] := by cases args; simp_all
  obtain ⟨rfl, rfl⟩ := trodVars_none hV
  obtain ⟨a0, len0, cap0, rfl⟩ := okWide_slice Go.Pm.PP.u_S_S_laws_Job (hval 0 22 v0 rfl rfl)
  have k0 := h0
  have lt0 : ∀ x ∈ p0, x.block < W.heap.size := by obtain ⟨m, hm⟩ := k0; exact DataW.trod_lt m _ _ _ hm
  obtain ⟨n0, hf0⟩ := h0
  obtain ⟨a1, len1, cap1, rfl⟩ := okWide_slice Go.Pm.PP.u_S_int (hval 1 23 v1 rfl rfl)
  have k1 := h1
  have lt1 : ∀ x ∈ p1, x.block < W.heap.size := by obtain ⟨m, hm⟩ := k1; exact DataW.trod_lt m _ _ _ hm
  obtain ⟨n1, hf1⟩ := h1
  obtain ⟨a2, rfl, rfl, rfl, w2⟩ := open_int Try.underlying3 (hval 2 3 v2 rfl rfl) h2
  clear hA0 hval0
  refine (Go.Pm.PP.fnExactRegretBound_calls (enc := enc) (W := W) (i2 := a2) hf0 hf1).mono fun e W' ⟨he, bel⟩ => ?_
  subst he
  exact ⟨_, rfl, _, _, _, [], _, [], hW', trodAll_mk1 (shut_bool Try.underlying4 _),
    (trodAll_cons_mk (Below.trod laidOut (by kernel_rfl) (of_decide_eq_true (by kernel_rfl)) k0 bel lt0) (trodAll_cons_mk (Below.trod laidOut (by kernel_rfl) (of_decide_eq_true (by kernel_rfl)) k1 bel lt1) (trodAll_cons_mk (shut_int Try.underlying3 w2) trodAll_mk0))), rfl, bel.frame _, fun h => by cases h⟩
theorem over : Rows.fnExactRegretBoundRow.holds Try.pinned (OpenSpec.ofChange Rows.fnExactRegretBoundSpec) :=
  OpenClaim.holds_of_wide 3 Try.f3 rfl rfl rfl rfl rfl rfl rfl ⟨rfl, rfl, rfl, rfl, rfl⟩ rfl rfl rfl rfl rfl (by kernel_rfl) Try.func3 (by kernel_rfl)
    (of_decide_eq_true (by kernel_rfl)) (by unfold Func.isWrapper; first | (rw [if_pos (by decide +kernel)]; kernel_rfl) | (rw [if_neg (by decide +kernel)]; exact ⟨rfl, rfl⟩))
    (fun os started H enc _ => lifted os started H enc)
theorem proved : Rows.FnExactRegretBoundSaid := over
#print axioms proved
end Go.Proofs.Ytakgmbfmbeeadaa.fnExactRegretBound
