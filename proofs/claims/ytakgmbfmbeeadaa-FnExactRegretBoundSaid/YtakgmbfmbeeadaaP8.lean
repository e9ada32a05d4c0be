/- Jobs, lists of jobs, orders as arguments, opened as rows. -/
import Derived.ProofKit
import Derived.OpenShut
import Derived.Carry
import Derived.Test.YtakgmbfmbeeadaaP6
import Derived.Test.YtakgmbfmbeeadaaM4

set_option linter.unusedVariables false
set_option linter.unusedSimpArgs false
set_option maxRecDepth 4000
namespace Go.Pm.PP
open Go.Pm Go.Proofs
theorem follows : P.follows .mixedOrders = true := by kernel_rfl
theorem cells_int : P.cellsOf t_int = 1 := by kernel_rfl
theorem cells_S_int : P.cellsOf t_S_int = 1 := by kernel_rfl
theorem cells_lJob : P.cellsOf t_laws_Job = 4 := by kernel_rfl
theorem cells_S_lJob : P.cellsOf t_S_laws_Job = 1 := by kernel_rfl
theorem lJobF : ∃ fs, P.underlying t_laws_Job = some (.struct fs) ∧ ∀ i, i < 4 → ∃ f, fs[i]? = some f ∧ f.offset = i ∧ P.underlying f.type = some (.int .i64) ∧ P.cellsOf f.type = 1 := by
  refine ⟨_, rfl, fun i hi => ?_⟩
  match i, hi with
  | 0, _ => exact ⟨_, rfl, rfl, rfl, by kernel_rfl⟩
  | 1, _ => exact ⟨_, rfl, rfl, rfl, by kernel_rfl⟩
  | 2, _ => exact ⟨_, rfl, rfl, rfl, by kernel_rfl⟩
  | 3, _ => exact ⟨_, rfl, rfl, rfl, by kernel_rfl⟩
def jobOf (ns : List Int) : Job := ⟨ns.getD 0 0, ns.getD 1 0, ns.getD 2 0, ns.getD 3 0⟩
theorem jobOf_enc {ns : List Int} (h : ns.length = 4) : encJ (jobOf ns) = ns.map fun z => .int .i64 z := by
  match ns, h with
  | [a, b, c, d], _ => rfl
section
variable {H : Type} {enc : TypeId × Value → H} {W : World}
theorem shows_lJobs (fu : Nat) (u : Value) (y : DataW H × List MemPlace) (hd : DataW.trod enc P W 0 (fun _ => true) true fu t_S_laws_Job [u] = some y) : ∃ xs : List Job, xs.length ≤ maxLen ∧ ∀ (ρ : Mp) (h : Hp), Shows ρ h W 4 (xs.map encJ) u := by
  obtain ⟨gs, ug, hg⟩ := lJobF
  obtain ⟨nss, l0, g0, s0⟩ := shows_recs (P := P) (v := u) u_S_laws_Job ug cells_lJob (by omega) hg hd
  have hm0 : (nss.map fun ns => ns.map fun z => Value.int .i64 z) = (nss.map jobOf).map encJ := by
    rw [List.map_map]
    exact List.map_congr_left fun ns hns => (jobOf_enc (g0 ns hns)).symm
  exact ⟨nss.map jobOf, by simpa using l0, fun ρ h => by rw [← hm0]; exact s0 ρ h⟩
theorem open_jss {ρ : Mp} {h : Hp} (R : Rel ρ h W) (ha : AllRo h) {v : Value} {n0 : Nat} {x0 : DataW H × List MemPlace} (d0 : DataW.trod enc P W 0 (fun _ => true) true n0 t_S_S_laws_Job [v] = some x0) :
    ∃ (h2 : Hp) (ρ2 : Mp) (p : Value) (xss : List (List Job)) (vs : List Value), h <+: h2 ∧ Rel ρ2 h2 W ∧ AllRo h2 ∧ Step ρ h ρ2 h2 ∧ VR ρ2 h2 p v ∧ Nest h2 p encJ 4 xss vs ∧ xss.length < 2 ^ 63 ∧ ∀ x ∈ xss, x.length < 2 ^ 63 := by
  have hmx : maxLen = 2 ^ 63 - 1 := rfl
  obtain ⟨L, l1, l2, hv⟩ := open_nest (P := P) (sz := 4) (enc := encJ) u_S_S_laws_Job cells_S_lJob shows_lJobs d0
  obtain ⟨h2, ρ2, p, vs, q, R2, a2, st, r, N⟩ := add_nest (w := W) (sz := 4) (enc := encJ) (fun x => rfl) (fun y hy => (l2 y hy).2) hv R ha
  refine ⟨h2, ρ2, p, L.map (·.2), vs, q, R2, a2, st, r, N, by simp; omega, fun x hx => ?_⟩
  obtain ⟨y, hy, rfl⟩ := List.mem_map.1 hx
  have := (l2 y hy).1
  omega
variable {ρ : Mp} {h : Hp} {v : Value} {n0 : Nat} {x0 : DataW H × List MemPlace}
theorem open_jobs (R : Rel ρ h W) (ha : AllRo h) (d0 : DataW.trod enc P W 0 (fun _ => true) true n0 t_S_laws_Job [v] = some x0) :
    ∃ (h2 : Hp) (ρ2 : Mp) (p : Value) (xs : List Job), h <+: h2 ∧ Rel ρ2 h2 W ∧ AllRo h2 ∧ Step ρ h ρ2 h2 ∧ VR ρ2 h2 p v ∧ Sees h2 p 4 (xs.map encJ) ∧ xs.length < 2 ^ 63 := by
  have hmx : maxLen = 2 ^ 63 - 1 := rfl
  obtain ⟨xs, l0, s0⟩ := shows_lJobs _ _ _ d0
  obtain ⟨h2, ρ2, p, q, R2, a2, t, r, N⟩ := add_slice (w := W) (len_J xs) R ha (s0 ρ h)
  exact ⟨h2, ρ2, p, xs, q, R2, a2, t, r, N, by omega⟩
theorem open_ints (R : Rel ρ h W) (ha : AllRo h) (d0 : DataW.trod enc P W 0 (fun _ => true) true n0 t_S_int [v] = some x0) :
    ∃ (h2 : Hp) (ρ2 : Mp) (p : Value) (xs : List Int), h <+: h2 ∧ Rel ρ2 h2 W ∧ AllRo h2 ∧ Step ρ h ρ2 h2 ∧ VR ρ2 h2 p v ∧ Sees h2 p 1 (xs.map encI) ∧ xs.length < 2 ^ 63 := by
  have hmx : maxLen = 2 ^ 63 - 1 := rfl
  obtain ⟨xs, l0, s0⟩ := shows_ints (P := P) (v := v) u_S_int u_int cells_int d0
  obtain ⟨h2, ρ2, p, q, R2, a2, t, r, N⟩ := add_slice (w := W) (len_I xs) R ha (s0 ρ h)
  exact ⟨h2, ρ2, p, xs, q, R2, a2, t, r, N, by omega⟩
end
end Go.Pm.PP
