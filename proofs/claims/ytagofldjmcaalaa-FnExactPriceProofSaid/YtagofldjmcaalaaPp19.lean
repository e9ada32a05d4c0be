/- FnExactPriceProof: its arguments, and its call in the model. -/
import Derived.Test.YtagofldjmcaalaaPp18
import Derived.Test.YtagofldjmcaalaaPmU
set_option linter.unusedVariables false
set_option linter.unusedSimpArgs false
set_option maxRecDepth 4000
set_option maxHeartbeats 4000000
namespace Go.Pm.PP
open Go.Pm Go.Proofs
theorem follows : P.follows .mixedOrders = true := by kernel_rfl
theorem fields89 : ∃ fs, P.underlying 89 = some (.struct fs) ∧ ∀ i, i < 4 → ∃ f, fs[i]? = some f ∧ f.offset = i ∧ P.underlying f.type = some (.int .i64) ∧ P.cellsOf f.type = 1 := by
  refine ⟨_, rfl, fun i hi => ?_⟩
  match i, hi with
  | 0, _ => exact ⟨_, rfl, rfl, rfl, by kernel_rfl⟩
  | 1, _ => exact ⟨_, rfl, rfl, rfl, by kernel_rfl⟩
  | 2, _ => exact ⟨_, rfl, rfl, rfl, by kernel_rfl⟩
  | 3, _ => exact ⟨_, rfl, rfl, rfl, by kernel_rfl⟩
theorem cells89 : P.cellsOf 89 = 4 := by kernel_rfl
theorem cells102 : P.cellsOf 102 = 2 := by kernel_rfl
theorem cells3 : P.cellsOf 3 = 1 := by kernel_rfl
theorem fields102 : ∃ fs f0 f1, P.underlying 102 = some (.struct fs) ∧ fs[0]? = some f0 ∧ f0.offset = 0 ∧ P.underlying f0.type = some (.slice 3) ∧ P.cellsOf f0.type = 1 ∧ fs[1]? = some f1 ∧ f1.offset = 1 ∧ P.underlying f1.type = some (.int .i64) ∧ P.cellsOf f1.type = 1 :=
  ⟨_, _, _, rfl, rfl, rfl, rfl, by kernel_rfl, rfl, rfl, rfl, by kernel_rfl⟩
theorem ui3 : P.underlying 3 = some (.int .i64) := by kernel_rfl
def jobOf (ns : List Int) : Job := ⟨ns.getD 0 0, ns.getD 1 0, ns.getD 2 0, ns.getD 3 0⟩
theorem jobOf_enc {ns : List Int} (h : ns.length = 4) : encJ (jobOf ns) = ns.map fun z => .int .i64 z := by
  match ns, h with
  | [a, b, c, d], _ => rfl
section
variable {H : Type} {enc : TypeId × Value → H} {W : World}
theorem args_ready {v0 v1 v3 : Value} {n0 n1 n3 : Nat} {x0 x1 x3 : DataW H × List MemPlace}
    (d0 : DataW.trod enc P W 0 (fun _ => true) true n0 22 [v0] = some x0) (d1 : DataW.trod enc P W 0 (fun _ => true) true n1 23 [v1] = some x1) (d3 : DataW.trod enc P W 0 (fun _ => true) true n3 24 [v3] = some x3) :
    ∃ (h : Hp) (ρ : Mp) (p0 p1 p3 : Value) (js : List Job) (ps : List SP) (xs : List Int), Rel ρ h W ∧ AllRo h ∧ VR ρ h p0 v0 ∧ VR ρ h p1 v1 ∧ VR ρ h p3 v3 ∧ Jobs h p0 js ∧ Prices0 h p1 ps ∧ Ints h p3 xs ∧
      js.length < 2 ^ 63 ∧ ps.length < 2 ^ 63 ∧ xs.length < 2 ^ 63 := by
  have hmx : maxLen = 2 ^ 63 - 1 := rfl
  obtain ⟨fs, ufs, hfs⟩ := fields89
  obtain ⟨nss, l0, e0, s0⟩ := shows_recs (P := P) u22 ufs cells89 (by omega) hfs d0
  obtain ⟨xs, l3, s3⟩ := shows_ints (P := P) u24 ui3 cells3 d3
  obtain ⟨gs, f0, f1, ug, g0, o0, u0, c0, g1, o1, u1, c1⟩ := fields102
  obtain ⟨L, l1, sL, s1⟩ := open_pairs (P := P) u23 ug cells102 g0 o0 u0 c0 ui3 cells3 g1 o1 u1 c1 d1
  have hmap : (nss.map fun ns => ns.map fun z => Value.int .i64 z) = (nss.map jobOf).map encJ := by
    rw [List.map_map]
    exact List.map_congr_left fun ns hns => (jobOf_enc (e0 ns hns)).symm
  -- the rows, one after the other
  obtain ⟨h1, ρ1, p0, q1, R1, a1, t1, r0, J⟩ := add_slice (w := W) (encJ_len (nss.map jobOf)) Rel.nil AllRo.nil (by rw [← hmap]; exact s0 _ _)
  obtain ⟨h2, ρ2, p3, q2, R2, a2, t2, r3, I3⟩ := add_slice (w := W) (encI_len xs) R1 a1 (s3 _ _)
  obtain ⟨h3, ρ3, us, q3, R3, a3, t3, hl3, hus⟩ := add_many (L.map fun y => (y.1, y.2.1)) (fun y hy ρ h => by
    obtain ⟨z, hz, rfl⟩ := List.mem_map.1 hy
    exact (sL z hz).2 ρ h) ρ2 h2 R2 a2
  have hll : us.length = L.length := by simpa using hl3
  let ps : List SP := (us.zip L).map fun z => ⟨z.1, z.2.2.1, z.2.2.2⟩
  have hps : ps.length = L.length := by simp [ps, hll]
  have hget : ∀ (i : Nat) x, ps[i]? = some x → ∃ u y, us[i]? = some u ∧ L[i]? = some y ∧ x = ⟨u, y.2.1, y.2.2⟩ := by
    intro i x hx
    simp only [ps, List.getElem?_map, Option.map_eq_some_iff] at hx
    obtain ⟨z, hz, rfl⟩ := hx
    obtain ⟨g1, g2⟩ := List.getElem?_zip_eq_some.1 hz
    exact ⟨z.1, z.2, g1, g2, rfl⟩
  have hsh : Shows ρ3 h3 W 2 (ps.map encS) v1 := by
    rcases s1 with ⟨rfl, hL⟩ | ⟨a, cap, rfl, hc, hs, hcell⟩
    · exact .inl ⟨rfl, by simp [ps, hL]⟩
    · refine .inr ⟨a, cap, by rw [List.length_map, hps], by rw [List.length_map, hps]; exact hc, hs, fun k c hk => ?_⟩
      have hE := encS_len ps
      have hk1 := (List.getElem?_eq_some_iff.1 hk).1
      rw [flat_len hE, List.length_map] at hk1
      have hi : k / 2 < ps.length := by omega
      obtain ⟨x, hx, _⟩ := drop_at hi
      obtain ⟨u, y, g1, g2, rfl⟩ := hget _ x hx
      obtain ⟨k1, _⟩ := hus (k / 2) u (y.1, y.2.1) g1 (by simp [g2])
      obtain ⟨c1, c2⟩ := hcell (k / 2) y g2
      have hf := flat_get hE (i := k / 2) (k := k % 2) (e := encS ⟨u, y.2.1, y.2.2⟩) (by simp [hx]) (by omega)
      rw [show k / 2 * 2 + k % 2 = k by omega, hk] at hf
      rcases Nat.mod_two_eq_zero_or_one k with hm | hm
      · rw [hm] at hf
        rw [show k / 2 * 2 = k by omega] at c1
        have : c = u := by simpa [encS] using hf
        exact ⟨_, c1, by rw [this]; exact k1⟩
      · rw [hm] at hf
        rw [show k / 2 * 2 + 1 = k by omega] at c2
        have : c = .int .i64 y.2.2 := by simpa [encS] using hf
        exact ⟨_, c2, by rw [this]; exact .int _ _⟩
  obtain ⟨h4, ρ4, p1, q4, R4, a4, t4, r1, Pr⟩ := add_slice (w := W) (encS_len ps) R3 a3 hsh
  refine ⟨h4, ρ4, p0, p1, p3, nss.map jobOf, ps, xs, R4, a4, ((r0.step t2).step t3).step t4, r1, (r3.step t3).step t4, Sees.pre J (q2.trans (q3.trans q4)), ⟨Pr, fun x hx => ?_⟩, Sees.pre I3 (q3.trans q4), by simp; omega, by rw [hps]; omega, by omega⟩
  obtain ⟨i, hi⟩ := List.getElem?_of_mem hx
  obtain ⟨u, y, g1, g2, rfl⟩ := hget i x hi
  obtain ⟨_, k2⟩ := hus i u (y.1, y.2.1) g1 (by simp [g2])
  exact ⟨Sees.pre k2 q4, by have := (sL y (List.mem_of_getElem? g2)).1; show y.2.1.length < 2 ^ 63; omega⟩
/-- The law's call in the model. -/
theorem law_calls {v0 v1 v3 : Value} {n0 n1 n3 : Nat} {x0 x1 x3 : DataW H × List MemPlace} {sc : Int}
    (d0 : DataW.trod enc P W 0 (fun _ => true) true n0 22 [v0] = some x0) (d1 : DataW.trod enc P W 0 (fun _ => true) true n1 23 [v1] = some x1) (d3 : DataW.trod enc P W 0 (fun _ => true) true n3 24 [v3] = some x3) :
    Calls P n_laws_FnExactPriceProof #[v0, v1, .int .i64 sc, v3] W fun e W' => e = .returned (.bool true) ∧ Go.RowKit.Below W.heap.size W W' := by
  obtain ⟨h, ρ, p0, p1, p3, js, ps, xs, R, ha, r0, r1, r3, J, Pr, I3, l0, l1, l3⟩ := args_ready d0 d1 d3
  have r := law_run (sc := sc) J Pr I3 l0 l1 l3
  exact Ret.true_calls (args' := [v0, v1, .int .i64 sc, v3]) follows r R (VL.cons r0 (VL.cons r1 (VL.cons (.int _ _) (VL.cons r3 VL.nil)))) ha
end
end Go.Pm.PP
