/- FnExactIdleChain: the row. -/
import Derived.Test.YtlieeolnnehncaaRows
import Derived.Test.YtlieeolnnehncaaP12
import Derived.Test.YtlieeolnnehncaaP11

set_option linter.unusedVariables false
set_option linter.unusedSimpArgs false
set_option maxRecDepth 4000
namespace Go.Pm.PP
open Go.Pm Go.Proofs
section
variable {H : Type} {enc : TypeId × Value → H} {W : World}
/-- The law's call in the model. -/
theorem fnExactIdleChain_calls {v0 : Value} {i1 : Int} {v2 : Value} {v3 : Value} {n0 n2 n3 : Nat} {x0 x2 x3 : DataW H × List MemPlace} (d0 : DataW.trod enc P W 0 (fun _ => true) true n0 t_S_laws_Job [v0] = some x0) (d2 : DataW.trod enc P W 0 (fun _ => true) true n2 t_S_A2_int [v2] = some x2) (d3 : DataW.trod enc P W 0 (fun _ => true) true n3 t_S_int [v3] = some x3) :
    Calls P n_laws_FnExactIdleChain #[v0, .int .i64 i1, v2, v3] W fun e W' => e = .returned (.bool true) ∧ Go.RowKit.Below W.heap.size W W' := by
  obtain ⟨h0, ρ0, p0, xs0, q0, R0, a0, t0, r0, N0, l0⟩ := open_jobs Rel.nil AllRo.nil d0
  obtain ⟨h2, ρ2, p2, xs2, q2, R2, a2, t2, r2, N2, l2⟩ := open_prs R0 a0 d2
  obtain ⟨h3, ρ3, p3, xs3, q3, R3, a3, t3, r3, N3, l3⟩ := open_ints R2 a2 d3
  exact Ret.true_calls (args' := [v0, .int .i64 i1, v2, v3]) follows (law_IdleChain ((N0.pre q2).pre q3) (N2.pre q3) N3 l0 l2) R3 (VL.cons ((r0.step t2).step t3) (VL.cons (.int _ _) (VL.cons (r2.step t3) (VL.cons r3 VL.nil)))) a3
end
end Go.Pm.PP
namespace Go.Proofs.Ytlieeolnnehncaa.fnExactIdleChain
open Go.ChangeShapes Go.WideShapes Go.ChangeAt Go.RowKit
theorem own : ownKnob Try.prog.godebug = none := by kernel_rfl
theorem laidOut : laidOutB Try.prog = true := by kernel_rfl
set_option maxRecDepth 100000 in
theorem lifted (os : Os) (started : os.Started) (H : Type) (enc : TypeId × Value → H) :
    ReturnsInHanded {} Try.checked os 13 .any (Rows.fnExactIdleChainSpec.pre6 enc Try.prog Try.f13 Rows.fnExactIdleChainRow.domain false) (Rows.fnExactIdleChainSpec.post enc Try.prog Try.f13 false true false false) := by
  refine returnsInHanded_of_change (C := Try.checked) own started (by kernel_rfl) Try.func13
    (ChangeSpec.witness6 (enc := enc) (C := Try.checked) false ⟨#[], #[.slice none 0 0, .int .i64 0, .slice none 0 0, .slice none 0 0], []⟩ 8 (by kernel_rfl) (by kernel_rfl) (by kernel_rfl) (by kernel_rfl)) ?_
  intro W base args ds gs before hval0 hW hcnd _
  have hval : ∀ (j : Nat) t v, Try.f13.params[j]? = some t → args[j]? = some v → Value.okWide Try.prog W .any base t v := hval0
  have hW' := hW
  obtain ⟨p, q, hA0, hV, rfl, hfz, hnd⟩ := hW
  have hA : DataW.TrodAll enc Try.prog W 0 (fun _ => true) true Try.f13.params.toList args.toList ds p := hA0
  rw [Try.params13] at hA hval
  obtain ⟨v0, vs0, d0, ds0, p0, q0, hargs, rfl, rfl, h0, r0⟩ := trodAll_cons hA
  obtain ⟨v1, vs1, d1, ds1, p1, q1, rfl, rfl, rfl, h1, r1⟩ := trodAll_cons r0
  obtain ⟨v2, vs2, d2, ds2, p2, q2, rfl, rfl, rfl, h2, r2⟩ := trodAll_cons r1
  obtain ⟨v3, vs3, d3, ds3, p3, q3, rfl, rfl, rfl, h3, r3⟩ := trodAll_cons r2
  obtain ⟨rfl, rfl, rfl⟩ := trodAll_nil r3
  obtain rfl : args = #[v0, v1, v2, v3] := by cases args; simp_all
  obtain ⟨rfl, rfl⟩ := trodVars_none hV
  obtain ⟨a0, len0, cap0, rfl⟩ := okWide_slice Go.Pm.PP.u_S_laws_Job (hval 0 59 v0 rfl rfl)
  have k0 := h0
  have lt0 : ∀ x ∈ p0, x.block < W.heap.size := by obtain ⟨m, hm⟩ := k0; exact DataW.trod_lt m _ _ _ hm
  obtain ⟨n0, hf0⟩ := h0
  obtain ⟨a1, rfl, rfl, rfl, w1⟩ := open_int Try.underlying3 (hval 1 3 v1 rfl rfl) h1
  obtain ⟨a2, len2, cap2, rfl⟩ := okWide_slice Go.Pm.PP.u_S_A2_int (hval 2 47 v2 rfl rfl)
  have k2 := h2
  have lt2 : ∀ x ∈ p2, x.block < W.heap.size := by obtain ⟨m, hm⟩ := k2; exact DataW.trod_lt m _ _ _ hm
  obtain ⟨n2, hf2⟩ := h2
  obtain ⟨a3, len3, cap3, rfl⟩ := okWide_slice Go.Pm.PP.u_S_int (hval 3 28 v3 rfl rfl)
  have k3 := h3
  have lt3 : ∀ x ∈ p3, x.block < W.heap.size := by obtain ⟨m, hm⟩ := k3; exact DataW.trod_lt m _ _ _ hm
  obtain ⟨n3, hf3⟩ := h3
  clear hA0 hval0
  refine (Go.Pm.PP.fnExactIdleChain_calls (enc := enc) (W := W) (i1 := a1) hf0 hf2 hf3).mono fun e W' ⟨he, bel⟩ => ?_
  subst he
  exact ⟨_, rfl, _, _, _, [], _, [], hW', trodAll_mk1 (shut_bool Try.underlying4 _),
    (trodAll_cons_mk (Below.trod laidOut (by kernel_rfl) (of_decide_eq_true (by kernel_rfl)) k0 bel lt0) (trodAll_cons_mk (shut_int Try.underlying3 w1) (trodAll_cons_mk (Below.trod laidOut (by kernel_rfl) (of_decide_eq_true (by kernel_rfl)) k2 bel lt2) (trodAll_cons_mk (Below.trod laidOut (by kernel_rfl) (of_decide_eq_true (by kernel_rfl)) k3 bel lt3) trodAll_mk0)))), rfl, bel.frame _, fun h => by cases h⟩
theorem over : Rows.fnExactIdleChainRow.holds Try.pinned (OpenSpec.ofChange Rows.fnExactIdleChainSpec) :=
  OpenClaim.holds_of_wide 13 Try.f13 rfl rfl rfl rfl rfl rfl rfl ⟨rfl, rfl, rfl, rfl, rfl⟩ rfl rfl rfl rfl rfl (by kernel_rfl) Try.func13 (by kernel_rfl)
    (of_decide_eq_true (by kernel_rfl)) (by unfold Func.isWrapper; first | (rw [if_pos (by decide +kernel)]; kernel_rfl) | (rw [if_neg (by decide +kernel)]; exact ⟨rfl, rfl⟩))
    (fun os started H enc _ => lifted os started H enc)
theorem proved : Rows.FnExactIdleChainSaid := over
#print axioms proved
end Go.Proofs.Ytlieeolnnehncaa.fnExactIdleChain
