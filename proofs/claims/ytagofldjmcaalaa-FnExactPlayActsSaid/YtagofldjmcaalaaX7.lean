/- FnExactPlayActs: the row. -/
import Derived.Test.YtagofldjmcaalaaP6

set_option linter.unusedVariables false
set_option linter.unusedSimpArgs false
set_option maxRecDepth 4000
namespace Go.Pm
section
variable {P : Program} {H : Type} {enc : TypeId × Value → H} {w : World} {base : Nat} {held : Bool}
/-- A slice of elements that are numbers alone. -/
theorem shows_nums {t e : TypeId} {n : Nat} {fuel : Nat} {v : Value} {x : DataW H × List MemPlace} (ht : P.underlying t = some (.slice e)) (hn : P.cellsOf e = n) (hpos : 0 < n)
    (hst : ∀ (fu : Nat) (cs : List Value) (y : DataW H × List MemPlace), DataW.trod enc P w base (fun _ => true) held fu e cs = some y → ∃ ns : List Int, ns.length = n ∧ cs = ns.map fun z => .int .i64 z)
    (hd : DataW.trod enc P w base (fun _ => true) held fuel t [v] = some x) :
    ∃ nss : List (List Int), nss.length ≤ maxLen ∧ (∀ ns ∈ nss, ns.length = n) ∧ ∀ (ρ : Mp) (h : Hp), Shows ρ h w n (nss.map fun ns => ns.map fun z => .int .i64 z) v := by
  rcases Go.Deep.open_slice ht hd with ⟨h1, _⟩ | ⟨a, len, cap, m, fu, D, Pl, h1, _, hl, hm, hmm, _, hx⟩
  · cases h1
    exact ⟨[], by simp, by simp, fun ρ h => .inl ⟨rfl, rfl⟩⟩
  · cases h1
    simp only [if_true] at hmm
    subst hmm
    rw [hn] at hx
    obtain ⟨g, hg⟩ := Go.Deep.choose_lt (α := List Int) (n := m) (p := fun i ns => ns.length = n ∧ ∀ j, j < n → w.cell? (a.add (i * n + j)) = (ns[j]?).map fun z => .int .i64 z) (fun i hi => by
      obtain ⟨cs', h2, h3⟩ := hx i hi
      obtain ⟨ns, h4, h5⟩ := hst _ _ _ h3
      obtain ⟨_, _, h6⟩ := World.cells?_some h2
      refine ⟨ns, h4, fun j hj => ?_⟩
      have := h6 j hj
      rw [Go.Deep.add_add] at this
      rw [this, h5, List.getElem?_map])
    have hlen : ∀ ns ∈ (List.range len).map g, ns.length = n := by
      intro ns hns
      obtain ⟨i, hi, rfl⟩ := List.mem_map.1 hns
      exact (hg i (by have := List.mem_range.1 hi; omega)).1
    refine ⟨(List.range len).map g, by simp; omega, hlen, fun ρ h => .inr ⟨a, m, by simp, by simpa using hl, ?_, fun k c hk => ?_⟩⟩
    · rcases Nat.eq_zero_or_pos m with h0 | h0
      · exact .inl h0
      · right
        obtain ⟨h2, h3⟩ := hg 0 h0
        have := h3 0 hpos
        rw [List.getElem?_eq_getElem (by omega)] at this
        have h4 := spot_none this
        simpa [Addr.add] using h4
    · have hE : ∀ e ∈ ((List.range len).map g).map (fun ns => ns.map fun z => Value.int .i64 z), e.length = n := by
        intro e he
        obtain ⟨ns, hns, rfl⟩ := List.mem_map.1 he
        simpa using hlen ns hns
      have hk1 := (List.getElem?_eq_some_iff.1 hk).1
      rw [flat_len hE] at hk1
      simp only [List.length_map, List.length_range] at hk1
      have hi : k / n < len := (Nat.div_lt_iff_lt_mul hpos).2 hk1
      have hj : k % n < n := Nat.mod_lt _ hpos
      have hkk : k / n * n + k % n = k := by rw [Nat.mul_comm]; exact Nat.div_add_mod k n
      obtain ⟨h2, h3⟩ := hg (k / n) (by omega)
      have h4 := flat_get hE (i := k / n) (k := k % n) (e := (g (k / n)).map fun z => .int .i64 z) (by simp [hi]) hj
      rw [hkk, hk, List.getElem?_map] at h4
      have h5 := h3 (k % n) hj
      rw [hkk, ← h4] at h5
      obtain ⟨z, _, hz⟩ := Option.map_eq_some_iff.1 h4.symm
      exact ⟨c, h5, by rw [← hz]; exact .int _ _⟩
end
end Go.Pm
namespace Go.Pm.PP
open Go.Pm Go.Proofs
section
variable {H : Type} {enc : TypeId × Value → H} {W : World}
theorem act_nums (fu : Nat) (cs : List Value) (y : DataW H × List MemPlace) (hd : DataW.trod enc P W 0 (fun _ => true) true fu t_laws_Act cs = some y) : ∃ ns : List Int, ns.length = 7 ∧ cs = ns.map fun z => .int .i64 z := by
  obtain ⟨fs, f0, f1, f2, f3, uf, _⟩ := lActF
  obtain ⟨ys, q, _, _, hl2, hy, hall⟩ := DataW.trod_struct uf hd
  obtain ⟨x, hx⟩ := open_act (cs := cs.toArray) (by rw [List.size_toArray, hl2, cells_lAct]) (by simpa using hd)
  refine ⟨[x.k, x.a, x.b, x.job.t, x.job.w, x.job.r, x.job.d], rfl, ?_⟩
  have := congrArg Array.toList hx
  simpa using this
def actOf (ns : List Int) : Act := ⟨ns.getD 0 0, ns.getD 1 0, ns.getD 2 0, ⟨ns.getD 3 0, ns.getD 4 0, ns.getD 5 0, ns.getD 6 0⟩⟩
theorem actOf_enc {ns : List Int} (h : ns.length = 7) : encA (actOf ns) = ns.map fun z => .int .i64 z := by
  match ns, h with
  | [a, b, c, d, e, f, g], _ => rfl
/-- The law's call in the model. -/
theorem playActs_calls {cs : Array Value} {v : Value} {n0 n1 : Nat} {x0 x1 : DataW H × List MemPlace} (hcs : cs.size = 5) (d0 : DataW.trod enc P W 0 (fun _ => true) true n0 t_laws_Dispatcher cs.toList = some x0)
    (d1 : DataW.trod enc P W 0 (fun _ => true) true n1 t_S_laws_Act [v] = some x1) :
    Calls P n_laws_FnExactPlayActs #[.agg cs, v] W fun e W' => e = .returned (.bool true) ∧ Go.RowKit.Below W.heap.size W W' := by
  have hmx : maxLen = 2 ^ 63 - 1 := rfl
  obtain ⟨h, ρ, pj, pt, d, _, R, ha, _, r0, J, T, l0, l1⟩ := open_disp Rel.nil AllRo.nil hcs d0
  obtain ⟨nss, l2, g0, s0⟩ := shows_nums (P := P) (v := v) u_S_laws_Act cells_lAct (by omega) act_nums d1
  have hm0 : (nss.map fun ns => ns.map fun z => Value.int .i64 z) = (nss.map actOf).map encA := by
    rw [List.map_map]
    exact List.map_congr_left fun ns hns => (actOf_enc (g0 ns hns)).symm
  obtain ⟨h1, ρ1, pa, q1, R1, a1', t1, r1, A⟩ := add_slice (w := W) (encA_len (nss.map actOf)) R ha (by rw [← hm0]; exact s0 _ _)
  exact Ret.true_calls (args' := [.agg cs, v]) follows (law_PlayActs (xs := nss.map actOf) (Sees.pre J q1) (Sees.pre T q1) A l0 l1 (by simp; omega)) R1 (VL.cons (r0.step t1) (VL.cons r1 VL.nil)) a1'
end
end Go.Pm.PP
namespace Go.Proofs.Ytagofldjmcaalaa.fnExactPlayActs
open Go.ChangeShapes Go.WideShapes Go.ChangeAt Go.RowKit
theorem own : ownKnob Try.prog.godebug = none := by kernel_rfl
theorem laidOut : laidOutB Try.prog = true := by kernel_rfl
set_option maxRecDepth 100000 in
theorem lifted (os : Os) (started : os.Started) (H : Type) (enc : TypeId × Value → H) :
    ReturnsInHanded {} Try.checked os 9 .any (Rows.fnExactPlayActsSpec.pre6 enc Try.prog Try.f9 Rows.fnExactPlayActsRow.domain false) (Rows.fnExactPlayActsSpec.post enc Try.prog Try.f9 false true false false) := by
  refine returnsInHanded_of_change (C := Try.checked) own started (by kernel_rfl) Try.func9
    (ChangeSpec.witness6 (enc := enc) (C := Try.checked) false ⟨#[], #[.agg #[.int .i64 0, .int .i64 0, .int .i64 0, .slice none 0 0, .slice none 0 0], .slice none 0 0], []⟩ 8 (by kernel_rfl) (by kernel_rfl) (by kernel_rfl) (by kernel_rfl)) ?_
  intro W base args ds gs before hval0 hW hcnd _
  have hval : ∀ (j : Nat) t v, Try.f9.params[j]? = some t → args[j]? = some v → Value.okWide Try.prog W .any base t v := hval0
  have hW' := hW
  obtain ⟨p, q, hA0, hV, rfl, hfz, hnd⟩ := hW
  have hA : DataW.TrodAll enc Try.prog W 0 (fun _ => true) true Try.f9.params.toList args.toList ds p := hA0
  rw [Try.params9] at hA hval
  obtain ⟨v0, vs0, d0, ds0, p0, q0, hargs, rfl, rfl, h0, r0⟩ := trodAll_cons hA
  obtain ⟨v1, vs1, d1, ds1, p1, q1, rfl, rfl, rfl, h1, r1⟩ := trodAll_cons r0
  obtain ⟨rfl, rfl, rfl⟩ := trodAll_nil r1
  obtain rfl : args = #[v0, v1] := by cases args; simp_all
  obtain ⟨rfl, rfl⟩ := trodVars_none hV
  obtain ⟨fs, f0, f1, f2, f3, f4, uf, _⟩ := Go.Pm.PP.lDispF
  obtain ⟨cs, rfl, hcs⟩ := okWide_struct uf (hval 0 40 v0 rfl rfl)
  obtain ⟨a1, len1, cap1, rfl⟩ := okWide_slice Go.Pm.PP.u_S_laws_Act (hval 1 94 v1 rfl rfl)
  have k0 := h0
  have lt0 : ∀ x ∈ p0, x.block < W.heap.size := by obtain ⟨m, hm⟩ := k0; exact DataW.trod_lt m _ _ _ hm
  obtain ⟨n0, hf0⟩ := h0
  have k1 := h1
  have lt1 : ∀ x ∈ p1, x.block < W.heap.size := by obtain ⟨m, hm⟩ := k1; exact DataW.trod_lt m _ _ _ hm
  obtain ⟨n1, hf1⟩ := h1
  clear hA0 hval0
  refine (Go.Pm.PP.playActs_calls (enc := enc) (W := W) (hcs.trans Go.Pm.PP.cells_lDisp) hf0 hf1).mono fun e W' ⟨he, bel⟩ => ?_
  subst he
  exact ⟨_, rfl, _, _, _, [], _, [], hW', trodAll_mk1 (shut_bool Try.underlying4 _),
    trodAll_cons_mk (Below.trod laidOut (by kernel_rfl) (of_decide_eq_true (by kernel_rfl)) k0 bel lt0) (trodAll_cons_mk (Below.trod laidOut (by kernel_rfl) (of_decide_eq_true (by kernel_rfl)) k1 bel lt1) trodAll_mk0), rfl, bel.frame _, fun h => by cases h⟩
theorem over : Rows.fnExactPlayActsRow.holds Try.pinned (OpenSpec.ofChange Rows.fnExactPlayActsSpec) :=
  OpenClaim.holds_of_wide 9 Try.f9 rfl rfl rfl rfl rfl rfl rfl ⟨rfl, rfl, rfl, rfl, rfl⟩ rfl rfl rfl rfl rfl (by kernel_rfl) Try.func9 (by kernel_rfl)
    (of_decide_eq_true (by kernel_rfl)) (by unfold Func.isWrapper; first | (rw [if_pos (by decide +kernel)]; kernel_rfl) | (rw [if_neg (by decide +kernel)]; exact ⟨rfl, rfl⟩))
    (fun os started H enc _ => lifted os started H enc)
theorem proved : Rows.FnExactPlayActsSaid := over
#print axioms proved
end Go.Proofs.Ytagofldjmcaalaa.fnExactPlayActs
