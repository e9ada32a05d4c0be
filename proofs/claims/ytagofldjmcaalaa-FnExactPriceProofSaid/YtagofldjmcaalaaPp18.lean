/- FnExactPriceProof: the law's own function. -/
import Derived.Test.YtagofldjmcaalaaPp15
import Derived.Test.YtagofldjmcaalaaPp16
import Derived.Test.YtagofldjmcaalaaPp17
set_option linter.unusedVariables false
set_option linter.unusedSimpArgs false
set_option maxRecDepth 4000
set_option maxHeartbeats 4000000
namespace Go.Pm.PP
open Go.Pm Go.Proofs
theorem szGo_bound : ∀ {ps : List SP} {l : Int}, 0 ≤ l → 0 ≤ szGo ps l → ∀ x ∈ ps, (x.s.length : Int) ≤ l
  | [], l, _, _, x, hx => by cases hx
  | y :: r, l, h0, h, x, hx => by
    rw [szGo_cons] at h
    by_cases h2 : szL l y.s.length < 0
    · rw [if_pos h2] at h; omega
    · rw [if_neg h2] at h
      have h3 : szL l y.s.length = l - y.s.length := by unfold szL at h2 ⊢; split <;> simp_all
      have h4 : (0 : Int) ≤ l - y.s.length := by omega
      rw [h3] at h
      rcases List.mem_cons.1 hx with rfl | hx
      · omega
      · have := szGo_bound h4 h x hx; omega
theorem toJobS_post {h : Hp} {v : Value} {js : List Job} (hj : Jobs h v js) (hn : js.length ≤ 2 ^ 40) : RunsC P G n_laws_toJobS [v] h fun v' h' => h <+: h' ∧ Jobs h' v' js :=
  RunsC.mono (toJobS_run hj hn) fun v' h' hk => by
    obtain ⟨rfl, rfl⟩ := hk
    exact ⟨List.prefix_append .., rowOf_sees (l := []) (encJ_len js) (by simp)⟩
theorem toIntS_post {h : Hp} {v : Value} {xs : List Int} (hv : Ints h v xs) (hn : xs.length ≤ 2 ^ 40) : RunsC P G n_laws_toIntS [v] h fun v' h' => h <+: h' ∧ Ints h' v' xs :=
  RunsC.mono (toIntS_run hv hn) fun v' h' hk => by
    obtain ⟨rfl, rfl⟩ := hk
    exact ⟨List.prefix_append .., irow_sees rfl⟩
theorem toSetPriceS_post {h : Hp} {v : Value} {ps : List SP} (hv : Prices0 h v ps) (hsn : ∀ x ∈ ps, x.s.length ≤ 2 ^ 40) (hn : ps.length ≤ 2 ^ 40) :
    RunsC P G n_laws_toSetPriceS [v] h fun v' h' => h <+: h' ∧ ∃ qs, Prices h' v' qs ∧ Copy ps qs :=
  RunsC.mono (toSetPriceS_run hv hsn hn) fun v' h' hk => by
    obtain ⟨t, qs, rfl, h2, h3⟩ := hk
    exact ⟨List.prefix_append .., qs, h2, h3⟩
def strip (x : SP) : SP := ⟨undef, x.s, x.p⟩
theorem Copy.strip {ps qs : List SP} (h : Copy ps qs) : ps.map PP.strip = qs.map PP.strip := by
  have := congrArg (List.map fun (y : List Int × Int) => SP.mk undef y.1 y.2) h
  rw [List.map_map, List.map_map] at this
  exact this
theorem pricesL_strip {n : Int} : ∀ {ps : List SP} {p : Option SP}, pricesL n (ps.map strip) (p.map strip) = pricesL n ps p
  | [], p => by cases p <;> rfl
  | x :: r, p => by
    have ih := pricesL_strip (n := n) (ps := r) (p := some x)
    rw [Option.map_some] at ih
    cases p with
    | none => rw [List.map_cons, Option.map_none, pricesL_cons0, pricesL_cons0, ih]; rfl
    | some a => rw [List.map_cons, Option.map_some, pricesL_cons1, pricesL_cons1, ih]; rfl
theorem sumFor_strip {i : Int} : ∀ {ps : List SP} {a : Int}, sumFor i (ps.map strip) a = sumFor i ps a
  | [], a => rfl
  | x :: r, a => by rw [List.map_cons, sumFor_cons, sumFor_cons, sumFor_strip]; rfl
theorem fairL_strip {ps : List SP} {sc : Int} : ∀ {js : List Job} {i : Nat}, fairL (ps.map strip) sc i js = fairL ps sc i js
  | [], i => rfl
  | j :: r, i => by rw [fairL_cons, fairL_cons, sumFor_strip, fairL_strip]
theorem yieldGo_strip {js : List Job} : ∀ {ps : List SP} {a : Int}, yieldGo js (ps.map strip) a = yieldGo js ps a
  | [], a => rfl
  | x :: r, a => by rw [List.map_cons, yieldGo_cons, yieldGo_cons, yieldGo_strip]; rfl
theorem implOk_strip {js : List Job} {ps : List SP} {sc : Int} {xs : List Int} : implOk js (ps.map strip) sc xs = implOk js ps sc xs := by
  have := pricesL_strip (n := js.length) (ps := ps) (p := none)
  rw [Option.map_none] at this
  unfold implOk
  rw [this]
theorem implV_strip {js : List Job} {ps : List SP} {sc : Int} {xs : List Int} : implV js (ps.map strip) sc xs = implV js ps sc xs := by
  unfold implV
  rw [fairL_strip, yieldGo_strip]
theorem implOk_copy {js : List Job} {ps qs : List SP} {sc : Int} {xs : List Int} (h : Copy ps qs) : implOk js ps sc xs = implOk js qs sc xs := by
  rw [← implOk_strip, h.strip, implOk_strip]
theorem implV_copy {js : List Job} {ps qs : List SP} {sc : Int} {xs : List Int} (h : Copy ps qs) : implV js ps sc xs = implV js qs sc xs := by
  rw [← implV_strip, h.strip, implV_strip]
theorem pair_if {ok V : Bool} : (if ok = true then pairV V true else pairV false false) = .tuple #[.bool (ok && V), .bool ok] := by cases ok <;> simp [pairV]
theorem order_inside {n : Nat} {xs : List Int} (h : l2OrderL n xs = true) : inside n xs := by
  have h8 : n ≤ 8 := by
    have := h
    rw [l2OrderL] at this
    simp only [Bool.and_eq_true, inB_iff] at this
    omega
  rw [← order_eq h8, Bool.and_eq_true] at h
  exact ((diffL_iff (by omega)).1 h.2).1
theorem law_run {h : Hp} {v vp u : Value} {js : List Job} {ps : List SP} {xs : List Int} {sc : Int} (hj : Jobs h v js) (hp : Prices0 h vp ps) (hv : Ints h u xs) (hjn : js.length < 2 ^ 63) (hpn : ps.length < 2 ^ 63) (hn : xs.length < 2 ^ 63) :
    Ret P G n_laws_FnExactPriceProof [v, vp, .int .i64 sc, u] h (.bool true) h := by
  refine enter_run e_laws_FnExactPriceProof (by simp) ?_
  obtain ⟨oj, cj, rfl⟩ := hj.shapeT
  obtain ⟨op, cp, rfl⟩ := hp.sees.shapeT
  obtain ⟨oo, co, rfl⟩ := hv.shapeT
  by_cases h1 : (1048576 : Int) < xs.length
  · simp -implicitDefEqProofs [h1]
  · have c1 := szJobS_run (h := h) (left := 1048576) hj hjn (by omega) (by omega)
    by_cases h2 : szL 1048576 js.length < 0
    · simp -implicitDefEqProofs [h1, CL_ret c1, h2]
    · have h2' : szL 1048576 js.length = 1048576 - js.length := by unfold szL at h2 ⊢; split <;> simp_all
      have c2 := szSetPriceS_run (h := h) (left := szL 1048576 js.length) hp hpn (by omega) (by omega)
      by_cases h3 : szPL (szL 1048576 js.length) ps < 0
      · simp -implicitDefEqProofs [h1, CL_ret c1, h2, CL_ret c2, h3]
      · have hjn' : js.length ≤ 2 ^ 40 := by omega
        have hpl : (ps.length : Int) ≤ 1048576 ∧ ∀ x ∈ ps, x.s.length ≤ 2 ^ 40 := by
          unfold szPL at h3
          split at h3
          · omega
          · rename_i h4
            refine ⟨by omega, fun x hx => ?_⟩
            have := szGo_bound (l := szL 1048576 js.length - ps.length) (by omega) (by omega) x hx
            omega
        have hpn' : ps.length ≤ 2 ^ 40 := by omega
        have hn' : xs.length ≤ 2 ^ 40 := by omega
        simp -implicitDefEqProofs [h1, CL_ret c1, h2, CL_ret c2, h3]
        refine CL_post (toJobS_post hj hjn') fun v1 k1 hk => ?_
        obtain ⟨p1, e1⟩ := hk
        simp -implicitDefEqProofs
        refine CL_post (toSetPriceS_post (hp.pre p1) hpl.2 hpn') fun v2 k2 hk => ?_
        obtain ⟨p2, q2, e2, cq2⟩ := hk
        simp -implicitDefEqProofs
        refine CL_post (toIntS_post (hv.pre (p1.trans p2)) hn') fun v3 k3 hk => ?_
        obtain ⟨p3, e3⟩ := hk
        have l2 : q2.length ≤ 2 ^ 40 := by have := congrArg List.length cq2; simp at this; omega
        have s1 := specPP_run (sc := sc) (e1.pre (p2.trans p3)) (e2.pre p3) e3 hjn' l2 hn' (fun hpp => prices_inside (p := none) hjn' (by rw [← prices_eq hjn' (p := none) (fun a e => by cases e)]; exact hpp)) order_inside
        rw [pair_if] at s1
        simp -implicitDefEqProofs [CL_ret s1]
        have p03 := p1.trans (p2.trans p3)
        refine CL_post (toJobS_post (hj.pre p03) hjn') fun v4 k4 hk => ?_
        obtain ⟨p4, e4⟩ := hk
        simp -implicitDefEqProofs
        have p04 := p03.trans p4
        refine CL_post (toSetPriceS_post (hp.pre p04) hpl.2 hpn') fun v5 k5 hk => ?_
        obtain ⟨p5, q5, e5, cq5⟩ := hk
        simp -implicitDefEqProofs
        have p05 := p04.trans p5
        refine CL_post (toIntS_post (hv.pre p05) hn') fun v6 k6 hk => ?_
        obtain ⟨p6, e6⟩ := hk
        have l5 : q5.length ≤ 2 ^ 40 := by have := congrArg List.length cq5; simp at this; omega
        have s2 := implPP_run (sc := sc) (e4.pre (p5.trans p6)) (e5.pre p6) e6 hjn' l5 hn' (prices_inside hjn') (fun hd => ((diffL_iff hjn').1 hd).1)
        have cq : Copy q5 q2 := cq5.symm.trans cq2
        have o1 : implOk js q5 sc xs = specOk js q2 sc xs := by rw [implOk_copy cq, ok_same]
        have o2 : (implOk js q5 sc xs && implV js q5 sc xs) = (specOk js q2 sc xs && specV js q2 sc xs) := by
          rw [o1, implV_copy cq]
          cases ho : specOk js q2 sc xs with
          | false => rfl
          | true => rw [val_same (by rw [← ok_same]; exact ho)]
        rw [pair_if, o2, o1] at s2
        simp -implicitDefEqProofs [CL_ret s2]
        have p06 := p05.trans p6
        refine CL_post (toJobS_post (hj.pre p06) hjn') fun v7 k7 hk => ?_
        obtain ⟨p7, e7⟩ := hk
        have q1 := eqJobS_run (e4.pre (p5.trans (p6.trans p7))) e7 hjn'
        simp -implicitDefEqProofs [CL_ret q1]
        have p07 := p06.trans p7
        refine CL_post (toSetPriceS_post (hp.pre p07) hpl.2 hpn') fun v8 k8 hk => ?_
        obtain ⟨p8, q8, e8, cq8⟩ := hk
        have q2' := eqSetPriceS_run (e5.pre (p6.trans (p7.trans p8))) e8 l5 (cq5.symm.trans cq8)
        simp -implicitDefEqProofs [CL_ret q2']
        have p08 := p07.trans p8
        refine CL_post (toIntS_post (hv.pre p08) hn') fun v9 k9 hk => ?_
        obtain ⟨p9, e9⟩ := hk
        have q3 := eqIntS_run (e6.pre (p7.trans (p8.trans p9))) e9 hn'
        simp -implicitDefEqProofs [CL_ret q3, gcB (p08.trans p9)]
end Go.Pm.PP
