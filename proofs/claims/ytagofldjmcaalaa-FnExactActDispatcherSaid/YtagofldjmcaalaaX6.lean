/- FnExactActDispatcher: the row. -/
import Derived.Test.YtagofldjmcaalaaRows
import Derived.ProofKit
import Derived.OpenShut
import Derived.Carry
import Derived.Test.YtagofldjmcaalaaP5

set_option linter.unusedVariables false
set_option linter.unusedSimpArgs false
set_option maxRecDepth 4000
namespace Go.Pm.PP
open Go.Pm Go.Proofs
theorem lActF : ∃ fs f0 f1 f2 f3, P.underlying t_laws_Act = some (.struct fs) ∧
    (fs[0]? = some f0 ∧ f0.offset = 0 ∧ P.underlying f0.type = some (.int .i64) ∧ P.cellsOf f0.type = 1) ∧ (fs[1]? = some f1 ∧ f1.offset = 1 ∧ P.underlying f1.type = some (.int .i64) ∧ P.cellsOf f1.type = 1) ∧
    (fs[2]? = some f2 ∧ f2.offset = 2 ∧ P.underlying f2.type = some (.int .i64) ∧ P.cellsOf f2.type = 1) ∧ (fs[3]? = some f3 ∧ f3.offset = 3 ∧ f3.type = t_laws_Job ∧ P.cellsOf f3.type = 4) :=
  ⟨_, _, _, _, _, rfl, ⟨rfl, rfl, rfl, by kernel_rfl⟩, ⟨rfl, rfl, rfl, by kernel_rfl⟩, ⟨rfl, rfl, rfl, by kernel_rfl⟩, ⟨rfl, rfl, rfl, by kernel_rfl⟩⟩
theorem cells_lAct : P.cellsOf t_laws_Act = 7 := by kernel_rfl
section
variable {H : Type} {enc : TypeId × Value → H} {W : World}
/-- An act, opened. -/
theorem open_act {cs : Array Value} {n0 : Nat} {x0 : DataW H × List MemPlace} (hcs : cs.size = 7) (d0 : DataW.trod enc P W 0 (fun _ => true) true n0 t_laws_Act cs.toList = some x0) :
    ∃ x : Act, cs = #[.int .i64 x.k, .int .i64 x.a, .int .i64 x.b, .int .i64 x.job.t, .int .i64 x.job.w, .int .i64 x.job.r, .int .i64 x.job.d] := by
  obtain ⟨fs, f0, f1, f2, f3, uf, ⟨a0, b0, c0, e0⟩, ⟨a1, b1, c1, e1⟩, ⟨a2, b2, c2, e2⟩, ⟨a3, b3, c3, e3⟩⟩ := lActF
  obtain ⟨ys, q, _, _, hl2, hy, hall⟩ := DataW.trod_struct uf d0
  have hfs : 4 ≤ fs.size := (Array.getElem?_eq_some_iff.1 a3).1
  obtain ⟨v0, v1, v2, v3, v4, v5, v6, hv⟩ : ∃ v0 v1 v2 v3 v4 v5 v6, cs.toList = [v0, v1, v2, v3, v4, v5, v6] := by
    have : cs.toList.length = 7 := by simpa using hcs
    match cs.toList, this with
    | [a, b, c, d, e, f, g], _ => exact ⟨a, b, c, d, e, f, g, rfl⟩
  rw [hv] at hall
  have k0 := hall 0 f0 a0
  have k1 := hall 1 f1 a1
  have k2 := hall 2 f2 a2
  have k3 := hall 3 f3 a3
  rw [b0, e0, List.getElem?_eq_getElem (show 0 < ys.length by omega)] at k0
  rw [b1, e1, List.getElem?_eq_getElem (show 1 < ys.length by omega)] at k1
  rw [b2, e2, List.getElem?_eq_getElem (show 2 < ys.length by omega)] at k2
  rw [b3, e3, c3, List.getElem?_eq_getElem (show 3 < ys.length by omega)] at k3
  obtain ⟨z0, hz0, _⟩ := DataW.trod_int c0 k0
  obtain ⟨z1, hz1, _⟩ := DataW.trod_int c1 k1
  obtain ⟨z2, hz2, _⟩ := DataW.trod_int c2 k2
  have hv0 : v0 = .int .i64 z0 := by simpa using hz0
  have hv1 : v1 = .int .i64 z1 := by simpa using hz1
  have hv2 : v2 = .int .i64 z2 := by simpa using hz2
  obtain ⟨gs, ug, hg⟩ := lJobF
  obtain ⟨g0, i0, o0, u0, w0⟩ := hg 0 (by omega)
  obtain ⟨g1, i1, o1, u1, w1⟩ := hg 1 (by omega)
  obtain ⟨g2, i2, o2, u2, w2⟩ := hg 2 (by omega)
  obtain ⟨g3, i3, o3, u3, w3⟩ := hg 3 (by omega)
  obtain ⟨zs, q2, _, _, hl3, hz, hal2⟩ := DataW.trod_struct ug k3
  have hgs : 4 ≤ gs.size := (Array.getElem?_eq_some_iff.1 i3).1
  have m0 := hal2 0 g0 i0
  have m1 := hal2 1 g1 i1
  have m2 := hal2 2 g2 i2
  have m3 := hal2 3 g3 i3
  rw [o0, w0, List.getElem?_eq_getElem (show 0 < zs.length by omega)] at m0
  rw [o1, w1, List.getElem?_eq_getElem (show 1 < zs.length by omega)] at m1
  rw [o2, w2, List.getElem?_eq_getElem (show 2 < zs.length by omega)] at m2
  rw [o3, w3, List.getElem?_eq_getElem (show 3 < zs.length by omega)] at m3
  obtain ⟨y0, hy0, _⟩ := DataW.trod_int u0 m0
  obtain ⟨y1, hy1, _⟩ := DataW.trod_int u1 m1
  obtain ⟨y2, hy2, _⟩ := DataW.trod_int u2 m2
  obtain ⟨y3, hy3, _⟩ := DataW.trod_int u3 m3
  have hv3 : v3 = .int .i64 y0 := by simpa using hy0
  have hv4 : v4 = .int .i64 y1 := by simpa using hy1
  have hv5 : v5 = .int .i64 y2 := by simpa using hy2
  have hv6 : v6 = .int .i64 y3 := by simpa using hy3
  refine ⟨⟨z0, z1, z2, ⟨y0, y1, y2, y3⟩⟩, ?_⟩
  apply Array.ext'
  rw [hv, hv0, hv1, hv2, hv3, hv4, hv5, hv6]
theorem vr_act {ρ : Mp} {h : Hp} (x : Act) : VR ρ h (av x) (av x) := by
  refine .agg _ _ rfl fun i u u' g1 g2 => ?_
  rw [g1] at g2
  cases g2
  match i with
  | 0 | 1 | 2 | 3 | 4 | 5 | 6 => simp at g1; subst g1; exact .int _ _
  | i + 7 => simp at g1
/-- The law's call in the model. -/
theorem actDispatcher_calls {cs ca : Array Value} {n0 n1 : Nat} {x0 x1 : DataW H × List MemPlace} (hcs : cs.size = 5) (hca : ca.size = 7) (d0 : DataW.trod enc P W 0 (fun _ => true) true n0 t_laws_Dispatcher cs.toList = some x0)
    (d1 : DataW.trod enc P W 0 (fun _ => true) true n1 t_laws_Act ca.toList = some x1) :
    Calls P n_laws_FnExactActDispatcher #[.agg cs, .agg ca] W fun e W' => e = .returned (.bool true) ∧ Go.RowKit.Below W.heap.size W W' := by
  obtain ⟨h, ρ, pj, pt, d, _, R, ha, _, r0, J, T, l0, l1⟩ := open_disp Rel.nil AllRo.nil hcs d0
  obtain ⟨x, rfl⟩ := open_act hca d1
  exact Ret.true_calls (args' := [.agg cs, av x]) follows (law_ActDispatcher (x := x) J T l0 l1) R (VL.cons r0 (VL.cons (vr_act x) VL.nil)) ha
end
end Go.Pm.PP
namespace Go.Proofs.Ytagofldjmcaalaa.fnExactActDispatcher
open Go.ChangeShapes Go.WideShapes Go.ChangeAt Go.RowKit
theorem own : ownKnob Try.prog.godebug = none := by kernel_rfl
theorem laidOut : laidOutB Try.prog = true := by kernel_rfl
set_option maxRecDepth 100000 in
theorem lifted (os : Os) (started : os.Started) (H : Type) (enc : TypeId × Value → H) :
    ReturnsInHanded {} Try.checked os 8 .any (Rows.fnExactActDispatcherSpec.pre6 enc Try.prog Try.f8 Rows.fnExactActDispatcherRow.domain false) (Rows.fnExactActDispatcherSpec.post enc Try.prog Try.f8 false true false false) := by
  refine returnsInHanded_of_change (C := Try.checked) own started (by kernel_rfl) Try.func8
    (ChangeSpec.witness6 (enc := enc) (C := Try.checked) false ⟨#[], #[.agg #[.int .i64 0, .int .i64 0, .int .i64 0, .slice none 0 0, .slice none 0 0], .agg #[.int .i64 0, .int .i64 0, .int .i64 0, .int .i64 0, .int .i64 0, .int .i64 0, .int .i64 0]], []⟩ 8 (by kernel_rfl) (by kernel_rfl) (by kernel_rfl) (by kernel_rfl)) ?_
  intro W base args ds gs before hval0 hW hcnd _
  have hval : ∀ (j : Nat) t v, Try.f8.params[j]? = some t → args[j]? = some v → Value.okWide Try.prog W .any base t v := hval0
  have hW' := hW
  obtain ⟨p, q, hA0, hV, rfl, hfz, hnd⟩ := hW
  have hA : DataW.TrodAll enc Try.prog W 0 (fun _ => true) true Try.f8.params.toList args.toList ds p := hA0
  rw [Try.params8] at hA hval
  obtain ⟨v0, vs0, d0, ds0, p0, q0, hargs, rfl, rfl, h0, r0⟩ := trodAll_cons hA
  obtain ⟨v1, vs1, d1, ds1, p1, q1, rfl, rfl, rfl, h1, r1⟩ := trodAll_cons r0
  obtain ⟨rfl, rfl, rfl⟩ := trodAll_nil r1
  obtain rfl : args = #[v0, v1] := by cases args; simp_all
  obtain ⟨rfl, rfl⟩ := trodVars_none hV
  obtain ⟨fs, f0, f1, f2, f3, f4, uf, _⟩ := Go.Pm.PP.lDispF
  obtain ⟨cs, rfl, hcs⟩ := okWide_struct uf (hval 0 40 v0 rfl rfl)
  obtain ⟨fs', f0', f1', f2', f3', uf', _⟩ := Go.Pm.PP.lActF
  obtain ⟨ca, rfl, hca⟩ := okWide_struct uf' (hval 1 91 v1 rfl rfl)
  have k0 := h0
  have lt0 : ∀ x ∈ p0, x.block < W.heap.size := by obtain ⟨m, hm⟩ := k0; exact DataW.trod_lt m _ _ _ hm
  obtain ⟨n0, hf0⟩ := h0
  have k1 := h1
  have lt1 : ∀ x ∈ p1, x.block < W.heap.size := by obtain ⟨m, hm⟩ := k1; exact DataW.trod_lt m _ _ _ hm
  obtain ⟨n1, hf1⟩ := h1
  clear hA0 hval0
  refine (Go.Pm.PP.actDispatcher_calls (enc := enc) (W := W) (hcs.trans Go.Pm.PP.cells_lDisp) (hca.trans Go.Pm.PP.cells_lAct) hf0 hf1).mono fun e W' ⟨he, bel⟩ => ?_
  subst he
  exact ⟨_, rfl, _, _, _, [], _, [], hW', trodAll_mk1 (shut_bool Try.underlying4 _),
    trodAll_cons_mk (Below.trod laidOut (by kernel_rfl) (of_decide_eq_true (by kernel_rfl)) k0 bel lt0) (trodAll_cons_mk (Below.trod laidOut (by kernel_rfl) (of_decide_eq_true (by kernel_rfl)) k1 bel lt1) trodAll_mk0), rfl, bel.frame _, fun h => by cases h⟩
theorem over : Rows.fnExactActDispatcherRow.holds Try.pinned (OpenSpec.ofChange Rows.fnExactActDispatcherSpec) :=
  OpenClaim.holds_of_wide 8 Try.f8 rfl rfl rfl rfl rfl rfl rfl ⟨rfl, rfl, rfl, rfl, rfl⟩ rfl rfl rfl rfl rfl (by kernel_rfl) Try.func8 (by kernel_rfl)
    (of_decide_eq_true (by kernel_rfl)) (by unfold Func.isWrapper; first | (rw [if_pos (by decide +kernel)]; kernel_rfl) | (rw [if_neg (by decide +kernel)]; exact ⟨rfl, rfl⟩))
    (fun os started H enc _ => lifted os started H enc)
theorem proved : Rows.FnExactActDispatcherSaid := over
#print axioms proved
end Go.Proofs.Ytagofldjmcaalaa.fnExactActDispatcher
