/- The texts PlK, Pl1, Pl2, Pl3, Pl4, Pl5, Pl6, Pl7, Pl8, Pl9, PlI, PlH of this work: Jobs, lists of jobs, orders as arguments, opened as rows. -/
import Derived.ProofKit
import Derived.OpenShut
import Derived.Carry
import Derived.Test.YtakgmbfmbeeadaaP6
import Derived.Test.YtakgmbfmbeeadaaM4
import Derived.Test.YtakgmbfmbeeadaaP7
/- Jobs, lists of jobs, orders as arguments, opened as rows. -/
set_option linter.unusedVariables false
set_option linter.unusedSimpArgs false
set_option maxRecDepth 4000
namespace Go.Pm.PP
open Go.Pm Go.Proofs
theorem follows : P.follows .mixedOrders = true := by kernel_rfl
theorem cells_int : P.cellsOf t_int = 1 := by kernel_rfl
theorem cells_S_int : P.cellsOf t_S_int = 1 := by kernel_rfl
theorem cells_lJob : P.cellsOf t_laws_Job = 4 := by kernel_rfl
theorem cells_S_lJob : P.cellsOf t_S_laws_Job = 1 := by kernel_rfl
theorem lJobF : ∃ fs, P.underlying t_laws_Job = some (.struct fs) ∧ ∀ i, i < 4 → ∃ f, fs[i]? = some f ∧ f.offset = i ∧ P.underlying f.type = some (.int .i64) ∧ P.cellsOf f.type = 1 := by
  refine ⟨_, rfl, fun i hi => ?_⟩
  match i, hi with
  | 0, _ => exact ⟨_, rfl, rfl, rfl, by kernel_rfl⟩
  | 1, _ => exact ⟨_, rfl, rfl, rfl, by kernel_rfl⟩
  | 2, _ => exact ⟨_, rfl, rfl, rfl, by kernel_rfl⟩
  | 3, _ => exact ⟨_, rfl, rfl, rfl, by kernel_rfl⟩
def jobOf (ns : List Int) : Job := ⟨ns.getD 0 0, ns.getD 1 0, ns.getD 2 0, ns.getD 3 0⟩
theorem jobOf_enc {ns : List Int} (h : ns.length = 4) : encJ (jobOf ns) = ns.map fun z => .int .i64 z := by
  match ns, h with
  | [a, b, c, d], _ => rfl
section
variable {H : Type} {enc : TypeId × Value → H} {W : World}
theorem shows_lJobs (fu : Nat) (u : Value) (y : DataW H × List MemPlace) (hd : DataW.trod enc P W 0 (fun _ => true) true fu t_S_laws_Job [u] = some y) : ∃ xs : List Job, xs.length ≤ maxLen ∧ ∀ (ρ : Mp) (h : Hp), Shows ρ h W 4 (xs.map encJ) u := by
  obtain ⟨gs, ug, hg⟩ := lJobF
  obtain ⟨nss, l0, g0, s0⟩ := shows_recs (P := P) (v := u) u_S_laws_Job ug cells_lJob (by omega) hg hd
  have hm0 : (nss.map fun ns => ns.map fun z => Value.int .i64 z) = (nss.map jobOf).map encJ := by
    rw [List.map_map]
    exact List.map_congr_left fun ns hns => (jobOf_enc (g0 ns hns)).symm
  exact ⟨nss.map jobOf, by simpa using l0, fun ρ h => by rw [← hm0]; exact s0 ρ h⟩
theorem open_jss {ρ : Mp} {h : Hp} (R : Rel ρ h W) (ha : AllRo h) {v : Value} {n0 : Nat} {x0 : DataW H × List MemPlace} (d0 : DataW.trod enc P W 0 (fun _ => true) true n0 t_S_S_laws_Job [v] = some x0) :
    ∃ (h2 : Hp) (ρ2 : Mp) (p : Value) (xss : List (List Job)) (vs : List Value), h <+: h2 ∧ Rel ρ2 h2 W ∧ AllRo h2 ∧ Step ρ h ρ2 h2 ∧ VR ρ2 h2 p v ∧ Nest h2 p encJ 4 xss vs ∧ xss.length < 2 ^ 63 ∧ ∀ x ∈ xss, x.length < 2 ^ 63 := by
  have hmx : maxLen = 2 ^ 63 - 1 := rfl
  obtain ⟨L, l1, l2, hv⟩ := open_nest (P := P) (sz := 4) (enc := encJ) u_S_S_laws_Job cells_S_lJob shows_lJobs d0
  obtain ⟨h2, ρ2, p, vs, q, R2, a2, st, r, N⟩ := add_nest (w := W) (sz := 4) (enc := encJ) (fun x => rfl) (fun y hy => (l2 y hy).2) hv R ha
  refine ⟨h2, ρ2, p, L.map (·.2), vs, q, R2, a2, st, r, N, by simp; omega, fun x hx => ?_⟩
  obtain ⟨y, hy, rfl⟩ := List.mem_map.1 hx
  have := (l2 y hy).1
  omega
variable {ρ : Mp} {h : Hp} {v : Value} {n0 : Nat} {x0 : DataW H × List MemPlace}
theorem open_jobs (R : Rel ρ h W) (ha : AllRo h) (d0 : DataW.trod enc P W 0 (fun _ => true) true n0 t_S_laws_Job [v] = some x0) :
    ∃ (h2 : Hp) (ρ2 : Mp) (p : Value) (xs : List Job), h <+: h2 ∧ Rel ρ2 h2 W ∧ AllRo h2 ∧ Step ρ h ρ2 h2 ∧ VR ρ2 h2 p v ∧ Sees h2 p 4 (xs.map encJ) ∧ xs.length < 2 ^ 63 := by
  have hmx : maxLen = 2 ^ 63 - 1 := rfl
  obtain ⟨xs, l0, s0⟩ := shows_lJobs _ _ _ d0
  obtain ⟨h2, ρ2, p, q, R2, a2, t, r, N⟩ := add_slice (w := W) (len_J xs) R ha (s0 ρ h)
  exact ⟨h2, ρ2, p, xs, q, R2, a2, t, r, N, by omega⟩
theorem open_ints (R : Rel ρ h W) (ha : AllRo h) (d0 : DataW.trod enc P W 0 (fun _ => true) true n0 t_S_int [v] = some x0) :
    ∃ (h2 : Hp) (ρ2 : Mp) (p : Value) (xs : List Int), h <+: h2 ∧ Rel ρ2 h2 W ∧ AllRo h2 ∧ Step ρ h ρ2 h2 ∧ VR ρ2 h2 p v ∧ Sees h2 p 1 (xs.map encI) ∧ xs.length < 2 ^ 63 := by
  have hmx : maxLen = 2 ^ 63 - 1 := rfl
  obtain ⟨xs, l0, s0⟩ := shows_ints (P := P) (v := v) u_S_int u_int cells_int d0
  obtain ⟨h2, ρ2, p, q, R2, a2, t, r, N⟩ := add_slice (w := W) (len_I xs) R ha (s0 ρ h)
  exact ⟨h2, ρ2, p, xs, q, R2, a2, t, r, N, by omega⟩
end
end Go.Pm.PP

/- The choice by time, bounds of prefixes, and cases, in plain terms. -/
set_option linter.unusedVariables false
set_option linter.unusedSimpArgs false
namespace Go.Pm.PP
open Go.Pm Go.Pm.PE
structure Sp where
  j : Int
  a : Int
  b : Int
def encS (s : Sp) : List Value := [.int .i64 s.j, .int .i64 s.a, .int .i64 s.b]
/-! ### sums -/
def sumL : List Int → Int
  | [] => 0
  | x :: r => x + sumL r
theorem sumL_append : ∀ {l r : List Int}, sumL (l ++ r) = sumL l + sumL r
  | [], r => by simp [sumL]
  | x :: l, r => by rw [List.cons_append, sumL, sumL, sumL_append]; omega
theorem sumL_set : ∀ {l : List Int} {i : Nat} {y : Int}, i < l.length → sumL (l.set i y) = sumL l - gE l i + y
  | x :: l, 0, y, _ => by simp [sumL, gE]; omega
  | x :: l, i + 1, y, h => by
    have := @sumL_set l i y (by simpa using h)
    rw [List.set_cons_succ, sumL, sumL, this]
    simp [gE]; omega
theorem sumL_nn : ∀ {l : List Int}, (∀ x, x ∈ l → 0 ≤ x ∧ x ≤ 50) → 0 ≤ sumL l ∧ sumL l ≤ 50 * l.length
  | [], _ => by simp [sumL]
  | x :: l, h => by
    have h1 := h x (List.mem_cons_self ..)
    have h2 := sumL_nn fun y hy => h y (List.mem_cons_of_mem _ hy)
    rw [sumL, List.length_cons]; omega
theorem sumL_pos : ∀ {l : List Int}, (∀ x, x ∈ l → 0 ≤ x ∧ x ≤ 50) → 0 < sumL l → ∃ i, i < l.length ∧ 0 < gE l i
  | [], _, h => by simp [sumL] at h
  | x :: l, h, hs => by
    have h1 := h x (List.mem_cons_self ..)
    by_cases c : 0 < x
    · exact ⟨0, by simp, by simpa [gE] using c⟩
    · rw [sumL] at hs
      obtain ⟨i, h3, h4⟩ := sumL_pos (fun y hy => h y (List.mem_cons_of_mem _ hy)) (by omega)
      exact ⟨i + 1, by simpa using h3, by simpa [gE] using h4⟩
theorem gE_mem {l : List Int} {i : Nat} (h : i < l.length) : gE l i ∈ l := List.mem_of_getElem? (gE_get h)
/-! ### rests -/
def inP (B : List Int) (i : Nat) : Bool := B.any (· == (i : Int))
def restL (js : List Job) (B : List Int) : List Int := (List.range js.length).map fun i => if inP B i = true then 0 else (jA js i).t
theorem restL_len {js : List Job} {B : List Int} : (restL js B).length = js.length := by simp [restL]
theorem restL_at {js : List Job} {B : List Int} {i : Nat} (hi : i < js.length) : (restL js B)[i]? = some (if inP B i = true then 0 else (jA js i).t) := by
  unfold restL; rw [List.getElem?_map, List.getElem?_range hi]; rfl
theorem restL_nil {js : List Job} : restL js [] = js.map (·.t) := by
  apply List.ext_getElem?
  intro i
  by_cases hi : i < js.length
  · rw [restL_at hi, List.getElem?_map, List.getElem?_eq_getElem hi]
    simp [inP, jA, hi]
  · rw [List.getElem?_eq_none (by rw [restL_len]; omega), List.getElem?_eq_none (by simp; omega)]
theorem restL_snoc {js : List Job} {B : List Int} {k : Nat} (hk : k < js.length) : (restL js B).set k 0 = restL js (B ++ [(k : Int)]) := by
  apply List.ext_getElem?
  intro i
  by_cases hi : i < js.length
  · rw [List.getElem?_set, restL_at hi, restL_at hi, restL_len]
    by_cases e : k = i
    · subst e
      simp [inP, hk]
    · have e' : ¬ (k : Int) = (i : Int) := by omega
      simp [inP, e, e']
  · rw [List.getElem?_eq_none (by rw [List.length_set, restL_len]; omega), List.getElem?_eq_none (by rw [restL_len]; omega)]
theorem restL_bd {js : List Job} {B : List Int} (hg : goodL js = true) : ∀ x, x ∈ restL js B → 0 ≤ x ∧ x ≤ 50 := by
  intro x hx
  obtain ⟨i, hi, rfl⟩ := List.mem_map.1 hx
  have hi := List.mem_range.1 hi
  split
  · omega
  · obtain ⟨y, hy, _⟩ := drop_at hi
    have e : jA js i = y := by unfold jA; rw [Int.toNat_natCast, hy]; rfl
    rw [e]
    have := job_of (job_at hg hy)
    omega
theorem jA_bd {js : List Job} (hg : goodL js = true) {i : Nat} (hi : i < js.length) : (1 ≤ (jA js i).t ∧ (jA js i).t ≤ 50) ∧ (0 ≤ (jA js i).r ∧ (jA js i).r ≤ 500) ∧ 0 ≤ (jA js i).d ∧ (jA js i).d ≤ 500 := by
  obtain ⟨y, hy, _⟩ := drop_at hi
  have e : jA js i = y := by unfold jA; rw [Int.toNat_natCast, hy]; rfl
  rw [e]
  have := job_of (job_at hg hy)
  omega
/-! ### the choice -/
def betB (o : Int) (js : List Job) (rs : List Int) (i b : Nat) : Bool := if o = 2 then decide (gE rs i < gE rs b) else decide ((jA js i).d < (jA js b).d)
def pickF (o : Int) (js : List Job) (rs : List Int) (now : Int) (b : Int) (i : Nat) : Int := if gE rs i = 0 ∨ now < (jA js i).r then b else if b < 0 ∨ betB o js rs i b.toNat = true then i else b
def pickL (o : Int) (js : List Job) (rs : List Int) (now : Int) : Int := (List.range' 0 js.length).foldl (pickF o js rs now) (-1)
def pkOk (js : List Job) (rs : List Int) (b : Int) : Prop := 0 ≤ b ∧ b < js.length ∧ gE rs b.toNat ≠ 0
theorem pick_fact {o : Int} {js : List Job} {rs : List Int} {now : Int} : ∀ {m i : Nat} {b : Int}, i + m = js.length → (b = -1 ∨ pkOk js rs b) →
    ((List.range' i m).foldl (pickF o js rs now) b = -1 ∧ b = -1 ∧ ∀ k, i ≤ k → k < js.length → gE rs k = 0 ∨ now < (jA js k).r) ∨ pkOk js rs ((List.range' i m).foldl (pickF o js rs now) b)
  | 0, i, b, him, hb => by
    rw [List.range'_zero, List.foldl_nil]
    rcases hb with rfl | hb
    · exact .inl ⟨rfl, rfl, fun k h1 h2 => by omega⟩
    · exact .inr hb
  | m + 1, i, b, him, hb => by
    rw [List.range'_succ, List.foldl_cons]
    by_cases c1 : gE rs i = 0 ∨ now < (jA js i).r
    · have e : pickF o js rs now b i = b := by unfold pickF; rw [if_pos c1]
      rw [e]
      rcases pick_fact (o := o) (now := now) (m := m) (i := i + 1) (by omega) hb with ⟨h1, h2, h3⟩ | h
      · refine .inl ⟨h1, h2, fun k hk1 hk2 => ?_⟩
        by_cases e : k = i
        · subst e; exact c1
        · exact h3 k (by omega) hk2
      · exact .inr h
    · by_cases c2 : b < 0 ∨ betB o js rs i b.toNat = true
      · have e : pickF o js rs now b i = i := by unfold pickF; rw [if_neg c1, if_pos c2]
        rw [e]
        have ok : pkOk js rs (i : Int) := ⟨by omega, by omega, fun g => c1 (.inl g)⟩
        rcases pick_fact (o := o) (now := now) (m := m) (i := i + 1) (by omega) (.inr ok) with ⟨h1, h2, h3⟩ | h
        · omega
        · exact .inr h
      · have e : pickF o js rs now b i = b := by unfold pickF; rw [if_neg c1, if_neg c2]
        have hb' : pkOk js rs b := by rcases hb with rfl | hb; exact absurd (.inl (by omega)) c2; exact hb
        rw [e]
        rcases pick_fact (o := o) (now := now) (m := m) (i := i + 1) (by omega) (.inr hb') with ⟨h1, h2, h3⟩ | h
        · subst h2; exact absurd hb'.1 (by omega)
        · exact .inr h
theorem pick_cases {o : Int} {js : List Job} {rs : List Int} {now : Int} : (pickL o js rs now = -1 ∧ ∀ k, k < js.length → gE rs k = 0 ∨ now < (jA js k).r) ∨ ∃ b : Nat, pickL o js rs now = b ∧ b < js.length ∧ gE rs b ≠ 0 := by
  rcases pick_fact (o := o) (js := js) (rs := rs) (now := now) (m := js.length) (i := 0) (b := -1) (by omega) (.inl rfl) with ⟨h1, _, h3⟩ | ⟨h1, h2, h3⟩
  · exact .inl ⟨h1, fun k hk => h3 k (Nat.zero_le _) hk⟩
  · refine .inr ⟨(pickL o js rs now).toNat, ?_, ?_, h3⟩
    · unfold pickL; omega
    · unfold pickL; omega
def picks (o : Int) (js : List Job) : Nat → Int → List Int → List (Int × Int)
  | 0, _, _ => []
  | m + 1, now, rs => if sumL rs ≤ 0 then [] else if pickL o js rs now < 0 then picks o js m (now + 1) rs
      else (pickL o js rs now, now) :: picks o js m (now + 1) (rs.set (pickL o js rs now).toNat (gE rs (pickL o js rs now).toNat - 1))
def apS (E : List Int) (ps : List (Int × Int)) : List Int := ps.foldl (fun E p => E.set p.1.toNat (p.2 + 1)) E
theorem apS_len : ∀ {ps : List (Int × Int)} {E : List Int}, (apS E ps).length = E.length
  | [], E => rfl
  | p :: ps, E => by
    have := @apS_len ps (E.set p.1.toNat (p.2 + 1))
    unfold apS at this ⊢
    rw [List.foldl_cons, this, List.length_set]
theorem apS_mem {lo hi : Int} : ∀ {ps : List (Int × Int)} {E : List Int}, (∀ e, e ∈ E → lo ≤ e ∧ e ≤ hi) → (∀ p, p ∈ ps → lo ≤ p.2 + 1 ∧ p.2 + 1 ≤ hi) → ∀ e, e ∈ apS E ps → lo ≤ e ∧ e ≤ hi
  | [], E, hE, _, e, he => hE e he
  | p :: ps, E, hE, hp, e, he => by
    refine @apS_mem lo hi ps (E.set p.1.toNat (p.2 + 1)) (fun e he => ?_) (fun q hq => hp q (List.mem_cons_of_mem _ hq)) e he
    rcases List.mem_or_eq_of_mem_set he with g | g
    · exact hE e g
    · rw [g]; exact hp p (List.mem_cons_self ..)
theorem picks_mem {o : Int} {js : List Job} : ∀ {m : Nat} {now : Int} {rs : List Int}, ∀ p, p ∈ picks o js m now rs → now ≤ p.2 ∧ p.2 < now + m
  | 0, now, rs, p, hp => by simp [picks] at hp
  | m + 1, now, rs, p, hp => by
    rw [picks] at hp
    split at hp
    · cases hp
    · split at hp
      · have := picks_mem p hp; omega
      · rcases List.mem_cons.1 hp with rfl | hp
        · dsimp only; omega
        · have := picks_mem p hp; omega
/-- What the choice at a time asks. -/
structure Ch (js : List Job) (rs : List Int) (now : Int) (m : Nat) : Prop where
  l : rs.length = js.length
  b : ∀ x, x ∈ rs → 0 ≤ x ∧ x ≤ 50
  m : sumL rs + (501 - now).toNat ≤ m
theorem Ch.skip {o : Int} {js : List Job} {rs : List Int} {now : Int} {m : Nat} (hg : goodL js = true) (C : Ch js rs now m) (hs : 0 < sumL rs) (hp : pickL o js rs now < 0) : now < 500 ∧ Ch js rs (now + 1) (m - 1) ∧ 0 < m := by
  have h5 : now < 500 := by
    rcases pick_cases (o := o) (js := js) (rs := rs) (now := now) with ⟨_, h2⟩ | ⟨b, h1, _⟩
    · obtain ⟨i, h3, h4⟩ := sumL_pos C.b hs
      have h5 := C.l
      have h6 := jA_bd hg (show i < js.length by omega)
      rcases h2 i (by omega) with h7 | h7 <;> omega
    · omega
  have := C.m
  exact ⟨h5, ⟨C.l, C.b, by omega⟩, by omega⟩
theorem Ch.take {js : List Job} {rs : List Int} {now : Int} {m b : Nat} (C : Ch js rs now m) (hs : 0 < sumL rs) (hb : b < js.length) (h0 : gE rs b ≠ 0) : Ch js (rs.set b (gE rs b - 1)) (now + 1) (m - 1) ∧ 0 < m ∧ sumL (rs.set b (gE rs b - 1)) = sumL rs - 1 := by
  have h1 := C.b _ (gE_mem (show b < rs.length by rw [C.l]; exact hb))
  have h2 := sumL_set (l := rs) (i := b) (y := gE rs b - 1) (by rw [C.l]; exact hb)
  have := C.m
  refine ⟨⟨by rw [List.length_set]; exact C.l, fun x hx => ?_, by omega⟩, by omega, by omega⟩
  rcases List.mem_or_eq_of_mem_set hx with g | g
  · exact C.b x g
  · omega
/-! ### bounds of prefixes -/
def nowGo (js : List Job) : List Int → Int → Int
  | [], now => now
  | x :: r, now => nowGo js r (max now (jA js x).r + (jA js x).t)
def FU : Nat := 1000
def bdE (o : Int) (js : List Job) (B : List Int) : List Int := apS (endsL js B) (picks o js FU (nowGo js B 0) (restL js B))
def bdV (o : Int) (js : List Job) (B : List Int) : Int := valE o js (bdE o js B)
theorem jA_b {js : List Job} (hg : goodL js = true) {x : Int} (hx : 0 ≤ x ∧ x < js.length) : (1 ≤ (jA js x).t ∧ (jA js x).t ≤ 50) ∧ 0 ≤ (jA js x).r ∧ (jA js x).r ≤ 500 := by
  have := jA_bd hg (show x.toNat < js.length by omega)
  rw [show ((x.toNat : Nat) : Int) = x by omega] at this
  exact ⟨this.1, this.2.1⟩
theorem nowGo_bd {js : List Job} (hg : goodL js = true) : ∀ {B : List Int} {now : Int} {k : Nat}, inN js.length B → 0 ≤ now → now ≤ 550 * k → 0 ≤ nowGo js B now ∧ nowGo js B now ≤ 550 * (k + B.length : Nat)
  | [], now, k, _, h1, h2 => by simp [nowGo]; omega
  | x :: r, now, k, hin, h1, h2 => by
    have hx := jA_b hg (hin x (List.mem_cons_self ..))
    have := @nowGo_bd js hg r (max now (jA js x).r + (jA js x).t) (k + 1) (fun y hy => hin y (List.mem_cons_of_mem _ hy)) (by omega) (by omega)
    rw [nowGo, List.length_cons]
    omega
theorem bdE_bd {o : Int} {js : List Job} {B : List Int} (hg : goodL js = true) (hB : B.length ≤ 8) (hin : inN js.length B) : ∀ e, e ∈ bdE o js B → 0 ≤ e ∧ e ≤ 2 ^ 20 := by
  have nb := @nowGo_bd js hg B 0 0 hin (by omega) (by omega)
  refine apS_mem (fun e he => ?_) (fun p hp => ?_)
  · have := endGo_bd hg (k := 0) hin (Int.le_refl 0) (by omega) (fun e he => by rw [List.eq_of_mem_replicate he]; omega) e he
    omega
  · have := picks_mem p hp
    unfold FU at this
    omega
theorem bd_ch {js : List Job} {B : List Int} (hg : goodL js = true) (hn : js.length ≤ 8) (hin : inN js.length B) : Ch js (restL js B) (nowGo js B 0) FU := by
  have nb := @nowGo_bd js hg B 0 0 hin (by omega) (by omega)
  have s := sumL_nn (restL_bd (B := B) hg)
  rw [restL_len] at s
  exact ⟨restL_len, restL_bd hg, by unfold FU; omega⟩
/-! ### cases -/
def casL (f : List Int → Bool) (n : Nat) : Nat → List Int → List (List Int)
  | 0, B => if f B = true then [B] else []
  | k + 1, B => if f B = true then [B] else (rem n B).flatMap fun x => casL f n k (B ++ [x])
def stepS (S : Nat → Int → List (List Int)) (B : List Int) (most : Int) (out : List (List Int)) (i : Nat) : List (List Int) := if (out.length : Int) ≤ most then (if inP B i = true then out else out ++ S i (most - out.length)) else out
def findS (f : List Int → Bool) (n : Nat) : Nat → List Int → Int → List (List Int)
  | 0, B, most => if f B = true then [B] else []
  | k + 1, B, most => if f B = true then [B] else (List.range' 0 n).foldl (stepS (fun i q => findS f n k (B ++ [(i : Int)]) q) B most) []
def findI (f : List Int → Bool) (n : Nat) : Nat → List Int → List (List Int) → Option (List (List Int))
  | 0, B, cs => if f B = true then (if cs.length < 800 then some (cs ++ [B]) else none) else some cs
  | k + 1, B, cs => if f B = true then (if cs.length < 800 then some (cs ++ [B]) else none) else (rem n B).foldl (fun o x => o.bind fun cs => findI f n k (B ++ [x]) cs) (some cs)
theorem stay {S : Nat → Int → List (List Int)} {B : List Int} {most : Int} {out : List (List Int)} (h : most < out.length) : ∀ {l : List Nat}, l.foldl (stepS S B most) out = out
  | [] => rfl
  | i :: l => by
    have e : stepS S B most out i = out := by unfold stepS; rw [if_neg (by omega)]
    rw [List.foldl_cons, e]; exact stay h
theorem steps_law {S : Nat → Int → List (List Int)} {g : Nat → List (List Int)} {B : List Int} {most : Int} (hS : ∀ (i : Nat) (q : Int), 0 ≤ q → (((g i).length : Int) ≤ q → S i q = g i) ∧ (q < ((g i).length : Int) → q < ((S i q).length : Int))) : ∀ {l : List Nat} {out : List (List Int)},
    ((out ++ l.flatMap fun i => if inP B i = true then [] else g i).length ≤ most → l.foldl (stepS S B most) out = out ++ l.flatMap fun i => if inP B i = true then [] else g i) ∧ (most < (out ++ l.flatMap fun i => if inP B i = true then [] else g i).length → most < (l.foldl (stepS S B most) out).length)
  | [], out => by simp
  | i :: l, out => by
    rw [List.flatMap_cons, List.foldl_cons]
    by_cases c : (out.length : Int) ≤ most
    · cases hp : inP B i
      · have e : stepS S B most out i = out ++ S i (most - out.length) := by unfold stepS; rw [if_pos c, hp]; rfl
        obtain ⟨h1, h2⟩ := hS i (most - out.length) (by omega)
        rw [e]
        simp only [Bool.false_eq_true, if_false]
        by_cases c2 : ((g i).length : Int) ≤ most - out.length
        · rw [h1 c2]
          have := @steps_law S g B most hS l (out ++ g i)
          rw [← List.append_assoc]
          exact this
        · have h3 := h2 (by omega)
          rw [stay (by rw [List.length_append]; omega)]
          refine ⟨fun h => ?_, fun _ => by rw [List.length_append]; omega⟩
          simp only [List.length_append] at h
          omega
      · have e : stepS S B most out i = out := by unfold stepS; rw [if_pos c, hp]; rfl
        rw [e]
        simp only [if_true, List.nil_append]
        exact steps_law hS
    · have e : stepS S B most out i = out := by unfold stepS; rw [if_neg c]
      rw [e, stay (by omega)]
      refine ⟨fun h => ?_, fun _ => by omega⟩
      simp only [List.length_append] at h
      omega
theorem flat_filter {g : Int → List (List Int)} {B : List Int} : ∀ {l : List Nat}, (l.flatMap fun i => if inP B i = true then [] else g (i : Int)) = ((l.map fun i : Nat => (i : Int)).filter fun x => !B.any (· == x)).flatMap g
  | [] => rfl
  | i :: l => by
    rw [List.flatMap_cons, flat_filter, List.map_cons, List.filter_cons]
    cases hp : inP B i
    · rw [inP] at hp
      rw [hp]; simp
    · rw [inP] at hp
      rw [hp]; simp
theorem findS_law {f : List Int → Bool} {n : Nat} : ∀ {k : Nat} {B : List Int} {most : Int}, 0 ≤ most → ((casL f n k B).length ≤ most → findS f n k B most = casL f n k B) ∧ (most < (casL f n k B).length → most < (findS f n k B most).length)
  | 0, B, most, h0 => by
    rw [casL, findS]; exact ⟨fun _ => rfl, fun h => h⟩
  | k + 1, B, most, h0 => by
    rw [casL, findS]
    split
    · exact ⟨fun _ => rfl, fun h => h⟩
    · have := @steps_law (fun i q => findS f n k (B ++ [(i : Int)]) q) (fun i => casL f n k (B ++ [(i : Int)])) B most (fun i q hq => findS_law hq) (List.range' 0 n) []
      rw [List.nil_append, flat_filter (g := fun x => casL f n k (B ++ [x]))] at this
      exact this
theorem findI_law {f : List Int → Bool} {n : Nat} : ∀ {k : Nat} {B : List Int} {cs : List (List Int)}, cs.length ≤ 800 → findI f n k B cs = if (cs ++ casL f n k B).length ≤ 800 then some (cs ++ casL f n k B) else none
  | 0, B, cs, h => by
    rw [findI, casL]
    split
    · rw [List.length_append, List.length_singleton]
      by_cases c : cs.length < 800
      · rw [if_pos c, if_pos (by omega)]
      · rw [if_neg c, if_neg (by omega)]
    · rw [List.append_nil, if_pos h]
  | k + 1, B, cs, h => by
    rw [findI, casL]
    split
    · rw [List.length_append, List.length_singleton]
      by_cases c : cs.length < 800
      · rw [if_pos c, if_pos (by omega)]
      · rw [if_neg c, if_neg (by omega)]
    · have none_stay : ∀ l : List Int, l.foldl (fun (o : Option (List (List Int))) x => o.bind fun cs => findI f n k (B ++ [x]) cs) none = none := fun l => by
        induction l with
        | nil => rfl
        | cons x l ih => rw [List.foldl_cons]; exact ih
      have go : ∀ (l : List Int) (cs : List (List Int)), cs.length ≤ 800 → l.foldl (fun (o : Option (List (List Int))) x => o.bind fun cs => findI f n k (B ++ [x]) cs) (some cs) = if (cs ++ l.flatMap fun x => casL f n k (B ++ [x])).length ≤ 800 then some (cs ++ l.flatMap fun x => casL f n k (B ++ [x])) else none := fun l => by
        induction l with
        | nil => intro cs hc; rw [List.flatMap_nil, List.append_nil, if_pos hc]; rfl
        | cons x l ih =>
          intro cs hc
          rw [List.foldl_cons, Option.bind_some, findI_law hc, List.flatMap_cons]
          by_cases c : (cs ++ casL f n k (B ++ [x])).length ≤ 800
          · rw [if_pos c, ih _ c, List.append_assoc]
          · rw [if_neg c, none_stay, if_neg]
            simp only [List.length_append] at c ⊢
            omega
      exact go _ cs h
theorem findS_len {f : List Int → Bool} {n : Nat} (hn : n ≤ 8) : ∀ {k : Nat} {B : List Int} {most : Int}, (findS f n k B most).length ≤ 9 ^ k
  | 0, B, most => by
    rw [findS]; split <;> simp
  | k + 1, B, most => by
    have p : 1 ≤ 9 ^ k := Nat.one_le_pow _ _ (by omega)
    rw [findS]
    split
    · simp only [List.length_singleton]; rw [Nat.pow_succ]; omega
    · have go : ∀ (l : List Nat) (out : List (List Int)), (l.foldl (stepS (fun i q => findS f n k (B ++ [(i : Int)]) q) B most) out).length ≤ out.length + l.length * 9 ^ k := fun l => by
        induction l with
        | nil => intro out; simp
        | cons i l ih =>
          intro out
          rw [List.foldl_cons]
          refine Nat.le_trans (ih _) ?_
          have s : (stepS (fun i q => findS f n k (B ++ [(i : Int)]) q) B most out i).length ≤ out.length + 9 ^ k := by
            unfold stepS
            split
            · split
              · omega
              · have := @findS_len f n hn k (B ++ [(i : Int)]) (most - out.length)
                rw [List.length_append]; dsimp only; omega
            · omega
          rw [List.length_cons, Nat.add_mul]; omega
      have := go (List.range' 0 n) []
      rw [List.length_range', List.length_nil, Nat.zero_add] at this
      have h8 : n * 9 ^ k ≤ 8 * 9 ^ k := Nat.mul_le_mul_right _ hn
      rw [Nat.pow_succ]; omega
end Go.Pm.PP

/- Typed rules for slices: printed by a program of this work (wrap.py). -/
set_option linter.unusedVariables false
set_option linter.unusedSimpArgs false
set_option maxRecDepth 4000
namespace Go.Pm.PP
open Go.Pm Go.Proofs
theorem load_S {h : Hp} {v : Value} {xs : List (Sp)} {i : Nat} {x : Sp} (hv : Sees h v 3 (xs.map encS)) (hx : xs[i]? = some x) :
    indexAddrP P h t_S_impl_Span v (.int .i64 i) = some (.pointer (some (addP (base v) (i * 3)))) ∧ loadP P h t_impl_Span (.pointer (some (addP (base v) (i * 3)))) = some (.agg #[.int .i64 x.j, .int .i64 x.a, .int .i64 x.b]) ∧
    loadP P h t_int (.pointer (some (addP (addP (base v) (i * 3)) 0))) = some (.int .i64 x.j) ∧
    loadP P h t_int (.pointer (some (addP (addP (base v) (i * 3)) 1))) = some (.int .i64 x.a) ∧
    loadP P h t_int (.pointer (some (addP (addP (base v) (i * 3)) 2))) = some (.int .i64 x.b) := by
  have hi := (List.getElem?_eq_some_iff.1 hx).1
  have h1 := hv.indexT (P := P) u_S_impl_Span i_impl_Span (k := .i64) (j := i) (by omega) (by omega)
  rw [Int.toNat_natCast] at h1
  have fld : ∀ k, k < 3 → loadP P h t_int (.pointer (some (addP (addP (base v) (i * 3)) k))) = (encS x)[k]? := by
    intro k hk
    have := hv.cellT (P := P) a_int i_int hx hk
    rw [← this]
    simp only [addP, Nat.add_assoc]
  exact ⟨h1, hv.aggT a_impl_Span i_impl_Span hx, fld 0 (by omega), fld 1 (by omega), fld 2 (by omega)⟩
theorem len_S (xs : List (Sp)) : ∀ e ∈ xs.map encS, e.length = 3 := by
  intro e he
  obtain ⟨x, _, rfl⟩ := List.mem_map.1 he
  rfl
theorem ones_S (xs : List (Sp)) : (xs.map encS).flatten.all one = true := by
  induction xs with
  | nil => rfl
  | cons x xs ih => rw [List.map_cons, List.flatten_cons, List.all_append, ih]; rfl
theorem push_S0 {h0 h : Hp} {L : List Asn} (H : Holds h0 h L) (i : Nat) {v : Value} {xs : List (Sp)} (hi : L[i]? = some (.own v 3 (xs.map encS))) (x : Sp) (hn : xs.length ≤ 2 ^ 40) :
    ∃ v' h', appendP P (h ++ [some ⟨[.int .i64 x.j, .int .i64 x.a, .int .i64 x.b], 3, false⟩]) t_S_impl_Span v (.slice (some ⟨h.length, 0, some 3⟩) 1 1) = some (v', h') ∧ Holds h0 h' (L.set i (.own v' 3 ((xs ++ [x]).map encS))) ∧ Keeps (rowV v) h h' ∧ (rowV v = none → newOk (h ++ [some ⟨[.int .i64 x.j, .int .i64 x.a, .int .i64 x.b], 3, false⟩]) h') := by
  obtain ⟨v', h', g1, g2, g3, g4⟩ := (H.ext (List.prefix_append h [])).push (P := P) i (y := encS x) (n := 3) hi u_S_impl_Span e_t_impl_Span z_t_impl_Span s_t_impl_Span (by omega) (by rw [b_t_impl_Span]; omega) rfl rfl (by simp [encS]) (by rw [b_t_impl_Span]; simp; omega)
  rw [show xs.map encS ++ [encS x] = (xs ++ [x]).map encS by simp] at g2
  exact ⟨v', h', by simpa [encS] using g1, g2, Keeps.app.trans g3, by simpa [encS] using g4⟩
theorem push_S1 {h0 h : Hp} {L : List Asn} (H : Holds h0 h L) (i : Nat) {v : Value} {xs : List (Sp)} (hi : L[i]? = some (.own v 3 (xs.map encS))) (x : Sp) {a1 : Option Row} (hn : xs.length ≤ 2 ^ 40) :
    ∃ v' h', appendP P (h ++ [a1, some ⟨[.int .i64 x.j, .int .i64 x.a, .int .i64 x.b], 3, false⟩]) t_S_impl_Span v (.slice (some ⟨h.length + 1, 0, some 3⟩) 1 1) = some (v', h') ∧ Holds h0 h' (L.set i (.own v' 3 ((xs ++ [x]).map encS))) ∧ Keeps (rowV v) h h' ∧ (rowV v = none → newOk (h ++ [a1, some ⟨[.int .i64 x.j, .int .i64 x.a, .int .i64 x.b], 3, false⟩]) h') := by
  obtain ⟨v', h', g1, g2, g3, g4⟩ := (H.ext (List.prefix_append h [a1])).push (P := P) i (y := encS x) (n := 3) hi u_S_impl_Span e_t_impl_Span z_t_impl_Span s_t_impl_Span (by omega) (by rw [b_t_impl_Span]; omega) rfl rfl (by simp [encS]) (by rw [b_t_impl_Span]; simp; omega)
  rw [show xs.map encS ++ [encS x] = (xs ++ [x]).map encS by simp] at g2
  exact ⟨v', h', by simpa [encS] using g1, g2, Keeps.app.trans g3, by simpa [encS] using g4⟩
theorem push_S2 {h0 h : Hp} {L : List Asn} (H : Holds h0 h L) (i : Nat) {v : Value} {xs : List (Sp)} (hi : L[i]? = some (.own v 3 (xs.map encS))) (x : Sp) {a1 a2 : Option Row} (hn : xs.length ≤ 2 ^ 40) :
    ∃ v' h', appendP P (h ++ [a1, a2, some ⟨[.int .i64 x.j, .int .i64 x.a, .int .i64 x.b], 3, false⟩]) t_S_impl_Span v (.slice (some ⟨h.length + 2, 0, some 3⟩) 1 1) = some (v', h') ∧ Holds h0 h' (L.set i (.own v' 3 ((xs ++ [x]).map encS))) ∧ Keeps (rowV v) h h' ∧ (rowV v = none → newOk (h ++ [a1, a2, some ⟨[.int .i64 x.j, .int .i64 x.a, .int .i64 x.b], 3, false⟩]) h') := by
  obtain ⟨v', h', g1, g2, g3, g4⟩ := (H.ext (List.prefix_append h [a1, a2])).push (P := P) i (y := encS x) (n := 3) hi u_S_impl_Span e_t_impl_Span z_t_impl_Span s_t_impl_Span (by omega) (by rw [b_t_impl_Span]; omega) rfl rfl (by simp [encS]) (by rw [b_t_impl_Span]; simp; omega)
  rw [show xs.map encS ++ [encS x] = (xs ++ [x]).map encS by simp] at g2
  exact ⟨v', h', by simpa [encS] using g1, g2, Keeps.app.trans g3, by simpa [encS] using g4⟩
theorem app_S {h0 h : Hp} {L : List Asn} (H : Holds h0 h L) (i : Nat) {v u : Value} {xs ys : List (Sp)} (hi : L[i]? = some (.own v 3 (xs.map encS))) (s : Sees h u 3 (ys.map encS)) (hn : xs.length + ys.length ≤ 2 ^ 40) :
    ∃ v' h', appendP P h t_S_impl_Span v u = some (v', h') ∧ Holds h0 h' (L.set i (.own v' 3 ((xs ++ ys).map encS))) ∧ Keeps (rowV v) h h' := by
  obtain ⟨v', h', g1, g2, g3⟩ := H.app (P := P) i hi u_S_impl_Span e_t_impl_Span z_t_impl_Span s_t_impl_Span (by omega) (by rw [b_t_impl_Span]; omega) s (ones_S ys) (by rw [b_t_impl_Span]; simp; omega)
  rw [← List.map_append] at g2
  exact ⟨v', h', g1, g2, g3⟩
theorem put_S {h0 h : Hp} {L : List Asn} (H : Holds h0 h L) (i : Nat) {v : Value} {xs : List (Sp)} (hi : L[i]? = some (.own v 3 (xs.map encS))) {j : Nat} (hj : j < xs.length) (x : Sp) :
    ∃ h', storeP P h t_impl_Span (.agg #[.int .i64 x.j, .int .i64 x.a, .int .i64 x.b]) (.pointer (some (addP (base v) (j * 3)))) = some h' ∧ Holds h0 h' (L.set i (.own v 3 ((xs.set j x).map encS))) ∧ Keeps (rowV v) h h' := by
  have := H.put (P := P) i (t := t_impl_Span) (w := .agg #[.int .i64 x.j, .int .i64 x.a, .int .i64 x.b]) (j := j) hi i_impl_Span (by simpa using hj) rfl (by simp)
  simpa [List.map_set, encS] using this
theorem fput_S0 {h0 h : Hp} {L : List Asn} (H : Holds h0 h L) (i : Nat) {v : Value} {xs : List (Sp)} (hi : L[i]? = some (.own v 3 (xs.map encS))) {j : Nat} {y : Sp} (hy : xs[j]? = some y) (z : Int) :
    ∃ h', storeP P h t_int (.int .i64 z) (.pointer (some (addP (addP (base v) (j * 3)) 0))) = some h' ∧ Holds h0 h' (L.set i (.own v 3 ((xs.set j ({ y with j := z })).map encS))) ∧ Keeps (rowV v) h h' := by
  have := H.store (P := P) i hi (t := t_int) (w := .int .i64 z) (j := j) (e := encS y) (l := []) (m := [.int .i64 y.j]) (c := [.int .i64 y.a, .int .i64 y.b]) e_t_int (by simp [hy]) rfl (by simp) (by simp) (by simp)
  simpa [List.map_set, encS, addP, Nat.add_assoc] using this
theorem fput_S1 {h0 h : Hp} {L : List Asn} (H : Holds h0 h L) (i : Nat) {v : Value} {xs : List (Sp)} (hi : L[i]? = some (.own v 3 (xs.map encS))) {j : Nat} {y : Sp} (hy : xs[j]? = some y) (z : Int) :
    ∃ h', storeP P h t_int (.int .i64 z) (.pointer (some (addP (addP (base v) (j * 3)) 1))) = some h' ∧ Holds h0 h' (L.set i (.own v 3 ((xs.set j ({ y with a := z })).map encS))) ∧ Keeps (rowV v) h h' := by
  have := H.store (P := P) i hi (t := t_int) (w := .int .i64 z) (j := j) (e := encS y) (l := [.int .i64 y.j]) (m := [.int .i64 y.a]) (c := [.int .i64 y.b]) e_t_int (by simp [hy]) rfl (by simp) (by simp) (by simp)
  simpa [List.map_set, encS, addP, Nat.add_assoc] using this
theorem fput_S2 {h0 h : Hp} {L : List Asn} (H : Holds h0 h L) (i : Nat) {v : Value} {xs : List (Sp)} (hi : L[i]? = some (.own v 3 (xs.map encS))) {j : Nat} {y : Sp} (hy : xs[j]? = some y) (z : Int) :
    ∃ h', storeP P h t_int (.int .i64 z) (.pointer (some (addP (addP (base v) (j * 3)) 2))) = some h' ∧ Holds h0 h' (L.set i (.own v 3 ((xs.set j ({ y with b := z })).map encS))) ∧ Keeps (rowV v) h h' := by
  have := H.store (P := P) i hi (t := t_int) (w := .int .i64 z) (j := j) (e := encS y) (l := [.int .i64 y.j, .int .i64 y.a]) (m := [.int .i64 y.b]) (c := []) e_t_int (by simp [hy]) rfl (by simp) (by simp) (by simp)
  simpa [List.map_set, encS, addP, Nat.add_assoc] using this
theorem make_S {h0 h : Hp} {L : List Asn} (H : Holds h0 h L) {n : Nat} (hn : n ≤ 2 ^ 40) :
    ∃ v h', makeP P h t_S_impl_Span (.int .i64 n) (.int .i64 n) = some (v, h') ∧ Holds h0 h' (L ++ [.own v 3 ((List.replicate n (⟨0, 0, 0⟩ : Sp)).map encS)]) ∧ h <+: h' ∧ (∃ oa, v = .slice oa n n) := by
  have mk := make_eq (h := h) u_S_impl_Span e_t_impl_Span z_t_impl_Span rfl (by rw [s_t_impl_Span]; omega) (by rw [b_t_impl_Span]; omega) (n := n) (by omega) (by rw [b_t_impl_Span]; omega)
  rw [s_t_impl_Span] at mk
  simp only [Value.cells] at mk
  have hlz : ∀ e ∈ List.replicate n ([.int .i64 0, .int .i64 0, .int .i64 0] : List Value), e.length = 3 := fun e he => by rw [List.eq_of_mem_replicate he]; rfl
  refine ⟨_, _, mk, ?_, List.prefix_append .., _, rfl⟩
  have := H.lit (els := List.replicate n ([.int .i64 0, .int .i64 0, .int .i64 0] : List Value)) (sz := 3) (n := n * 3) hlz (by simp)
  simpa [encS] using this
end Go.Pm.PP

/- Rests and picks: the reference. -/
set_option linter.unusedVariables false
set_option linter.unusedSimpArgs false
set_option maxRecDepth 4000
set_option maxHeartbeats 8000000
namespace Go.Pm.PP
open Go.Pm Go.Proofs Go.Pm.PE
section
variable {h : Hp} {vj vr : Value} {js : List Job} {rs : List Int} {o now : Int}
theorem l5Rests_run (hj : Jobs h vj js) (hn : js.length ≤ 8) : RunsC P G n_spec_l5Rests [vj] h fun v h' => h <+: h' ∧ Own h.length h' v 1 ((restL js []).map encI) := by
  refine hideC fun K hK => enter_run e_spec_l5Rests (by simp) ?_
  have hjs := hj
  obtain ⟨oj, cj, rfl⟩ := hj.shapeT
  have H0 := own_nil (Holds.start (h := h)) Int encI 1
  rw [restL_nil] at hK
  simp -implicitDefEqProofs
  refine R_loopO (fun m s h' => ∃ (i : Nat) (u : Value), i + m = js.length ∧ s = [(0, .slice oj js.length cj), (3, u), (4, .int .i64 i)] ∧ Holds h h' [.own u 1 (((js.take i).map (·.t)).map encI)]) (fun I hI m s h' => ?_) (n := js.length) ⟨0, .slice none 0 0, Nat.zero_add _, by simp, by simpa using H0⟩
  rintro ⟨i, u, hi, rfl, H⟩
  by_cases hlt : i < js.length
  · obtain ⟨y, hy, _⟩ := drop_at hlt
    have ly := load_J (hjs.pre H.pre) hy
    obtain ⟨v', h2, ha, H2, _⟩ := push_I0 H 0 rfl y.t (by simp; omega)
    simp -implicitDefEqProofs [-indexAddrP_some, hlt, ly, ha, winc hlt (by omega)]
    refine ⟨m - 1, by omega, on hI ⟨i + 1, v', by omega, rfl, ?_⟩⟩
    have e : (js.take (i + 1)).map (·.t) = (js.take i).map (·.t) ++ [y.t] := by rw [take_succ' hy, List.map_append]; rfl
    rw [e]; exact H2
  · rw [List.take_of_length_le (by omega)] at H
    simp -implicitDefEqProofs [hlt]
    exact onK hK (H.ret 0 rfl)
theorem l5Pick_run (hj : Jobs h vj js) (hr : Ints h vr rs) (hn : js.length ≤ 8) (hl : rs.length = js.length) (ho : o = 2 ∨ o = 4) : Ret P G n_spec_l5Pick [vj, vr, .int .i64 now, .int .i64 o] h (.int .i64 (pickL o js rs now)) h := by
  refine enter_run e_spec_l5Pick (by simp) ?_
  have hjs := hj
  have hrs := hr
  obtain ⟨oj, cj, rfl⟩ := hj.shapeT
  obtain ⟨oa, c, rfl⟩ := hr.shapeT
  simp -implicitDefEqProofs
  refine R_loopO (fun m s h' => ∃ (i : Nat) (b : Int), i + m = js.length ∧ s = [(0, .slice oj js.length cj), (1, .slice oa rs.length c), (2, .int .i64 now), (3, .int .i64 o), (9, .int .i64 b), (10, .int .i64 i)] ∧ h' = h ∧ (b = -1 ∨ pkOk js rs b) ∧ pickL o js rs now = (List.range' i m).foldl (pickF o js rs now) b) (fun I hI m s h' => ?_) (n := js.length) ⟨0, -1, Nat.zero_add _, by simp, rfl, .inl rfl, rfl⟩
  rintro ⟨i, b, hi, rfl, rfl, hb, hx⟩
  by_cases hlt : i < js.length
  · obtain ⟨m', rfl⟩ : ∃ m', m = m' + 1 := ⟨m - 1, by omega⟩
    rw [List.range'_succ, List.foldl_cons] at hx
    obtain ⟨y, hy, _⟩ := drop_at hlt
    have ey : jA js i = y := by unfold jA; rw [Int.toNat_natCast, hy]; rfl
    have ly := load_J hjs hy
    have lr := load_I hrs (gE_get (l := rs) (i := i) (by omega))
    have wi := winc hlt (show js.length ≤ 2 ^ 40 by omega)
    by_cases c1 : gE rs i = 0
    · have e : pickF o js rs now b i = b := by unfold pickF; rw [if_pos (.inl c1)]
      rw [e] at hx
      rw [c1] at lr
      simp -implicitDefEqProofs [-indexAddrP_some, hlt, lr, wi]
      exact ⟨m', by omega, on hI ⟨i + 1, b, by omega, rfl, rfl, hb, hx⟩⟩
    · by_cases c2 : now < y.r
      · have e : pickF o js rs now b i = b := by unfold pickF; rw [ey, if_pos (.inr c2)]
        rw [e] at hx
        simp -implicitDefEqProofs [-indexAddrP_some, hlt, lr, nb c1, ly, c2, wi]
        exact ⟨m', by omega, on hI ⟨i + 1, b, by omega, rfl, rfl, hb, hx⟩⟩
      · have okI : pkOk js rs (i : Int) := ⟨by omega, by omega, c1⟩
        rcases hb with rfl | hb
        · have e : pickF o js rs now (-1) i = i := by unfold pickF; rw [ey, if_neg (by omega), if_pos (.inl (by omega))]
          rw [e] at hx
          simp -implicitDefEqProofs [-indexAddrP_some, hlt, lr, nb c1, ly, c2, wi]
          exact ⟨m', by omega, on hI ⟨i + 1, i, by omega, rfl, rfl, .inr okI, hx⟩⟩
        · obtain ⟨k, rfl⟩ : ∃ k : Nat, b = k := ⟨b.toNat, by have := hb.1; omega⟩
          have hkl : k < js.length := by have := hb.2.1; omega
          obtain ⟨z, hz, _⟩ := drop_at hkl
          have ez : jA js k = z := by unfold jA; rw [Int.toNat_natCast, hz]; rfl
          have lz := load_J hjs hz
          have lk := load_I hrs (gE_get (l := rs) (i := k) (by omega))
          have hk0 : ¬ (k : Int) < 0 := by omega
          rcases ho with rfl | rfl
          · by_cases c3 : gE rs i < gE rs k
            · have e : pickF 2 js rs now k i = i := by unfold pickF; rw [ey, if_neg (by omega), if_pos (.inr (by simp [betB, c3]))]
              rw [e] at hx
              simp -implicitDefEqProofs [-indexAddrP_some, hlt, lr, nb c1, ly, c2, wi, hk0, lk, c3]
              exact ⟨m', by omega, on hI ⟨i + 1, i, by omega, rfl, rfl, .inr okI, hx⟩⟩
            · have e : pickF 2 js rs now k i = k := by unfold pickF; rw [ey, if_neg (by omega), if_neg (by simp [betB, c3, hk0])]
              rw [e] at hx
              simp -implicitDefEqProofs [-indexAddrP_some, hlt, lr, nb c1, ly, c2, wi, hk0, lk, c3]
              exact ⟨m', by omega, on hI ⟨i + 1, k, by omega, rfl, rfl, .inr hb, hx⟩⟩
          · by_cases c3 : y.d < z.d
            · have e : pickF 4 js rs now k i = i := by unfold pickF; rw [ey, if_neg (by omega), if_pos (.inr (by simp [betB, ey, ez, c3]))]
              rw [e] at hx
              simp -implicitDefEqProofs [-indexAddrP_some, hlt, lr, nb c1, ly, c2, wi, hk0, lz, c3]
              exact ⟨m', by omega, on hI ⟨i + 1, i, by omega, rfl, rfl, .inr okI, hx⟩⟩
            · have e : pickF 4 js rs now k i = k := by unfold pickF; rw [ey, if_neg (by omega), if_neg (by simp [betB, ey, ez, c3, hk0])]
              rw [e] at hx
              simp -implicitDefEqProofs [-indexAddrP_some, hlt, lr, nb c1, ly, c2, wi, hk0, lz, c3]
              exact ⟨m', by omega, on hI ⟨i + 1, k, by omega, rfl, rfl, .inr hb, hx⟩⟩
  · have hm : m = 0 := by omega
    subst hm
    rw [List.range'_zero, List.foldl_nil] at hx
    simp -implicitDefEqProofs [hlt, hx]
end
end Go.Pm.PP

/- The choice by time and the bound of a prefix: the reference. -/
set_option linter.unusedVariables false
set_option linter.unusedSimpArgs false
set_option maxRecDepth 4000
set_option maxHeartbeats 8000000
namespace Go.Pm.PP
open Go.Pm Go.Proofs Go.Pm.PE
def foldS (E : List Int) (S : List Sp) : List Int := S.foldl (fun E s => E.set s.j.toNat s.b) E
theorem foldS_snoc {E : List Int} {S : List Sp} {s : Sp} : foldS E (S ++ [s]) = (foldS E S).set s.j.toNat s.b := by unfold foldS; rw [List.foldl_append]; rfl
theorem apS_cons {E : List Int} {p : Int × Int} {ps : List (Int × Int)} : apS E (p :: ps) = apS (E.set p.1.toNat (p.2 + 1)) ps := rfl
theorem sumL_take {l : List Int} {i : Nat} {x : Int} (h : l[i]? = some x) : sumL (l.take (i + 1)) = sumL (l.take i) + x := by
  rw [take_succ' h, sumL_append]; simp [sumL]
theorem sumL_tk {l : List Int} {i : Nat} (h : ∀ x, x ∈ l → 0 ≤ x ∧ x ≤ 50) : 0 ≤ sumL (l.take i) ∧ sumL (l.take i) ≤ 50 * l.length := by
  have := sumL_nn (l := l.take i) fun x hx => h x (List.mem_of_mem_take hx)
  have h2 : (l.take i).length ≤ l.length := by rw [List.length_take]; omega
  omega
section
variable {h : Hp} {vj vr : Value} {js : List Job} {rs B : List Int} {o now : Int}
theorem l5Choose_run (hj : Jobs h vj js) (hr : Ints h vr rs) (hg : goodL js = true) (hn : js.length ≤ 8) (C : Ch js rs now FU) (hnow : 0 ≤ now ∧ now ≤ 2 ^ 30) (ho : o = 2 ∨ o = 4) :
    RunsC P G n_spec_l5Choose [vj, vr, .int .i64 now, .int .i64 o] h fun v h' => h <+: h' ∧ ∃ S : List Sp, Own h.length h' v 3 (S.map encS) ∧ S.length ≤ FU ∧ (∀ s, s ∈ S → 0 ≤ s.j ∧ s.j < js.length) ∧ ∀ E, apS E (picks o js FU now rs) = foldS E S := by
  refine hideC fun K hK => enter_run e_spec_l5Choose (by simp) ?_
  have hjs := hj
  obtain ⟨oj, cj, rfl⟩ := hj.shapeT
  have hl := C.l
  have H0 := own_nil (Holds.start (h := h)) Sp encS 3
  simp -implicitDefEqProofs
  refine CL_post (l1Own_run hr (by omega)) fun v1 h1 ⟨hp1, ho1⟩ => ?_
  have H1 : Holds h h1 [.own (.slice none 0 0) 3 (([] : List Sp).map encS), .own v1 1 (rs.map encI)] := H0.call hp1 ho1
  obtain ⟨ox, cx, rfl⟩ : ∃ a c, v1 = .slice a js.length c := by obtain ⟨a, c, e⟩ := ho1.sees.shapeT; exact ⟨a, c, by rw [e, hl]⟩
  simp -implicitDefEqProofs
  refine R_loopO (fun m st h' => ∃ i : Nat, i + m = js.length ∧ st = [(0, .slice oj js.length cj), (2, .int .i64 now), (3, .int .i64 o), (9, .slice none 0 0), (10, .slice ox js.length cx), (11, .int .i64 (sumL (rs.take i))), (12, .int .i64 i)] ∧ h' = h1) (fun I hI m st h' => ?_) (n := js.length) ⟨0, Nat.zero_add _, by simp [sumL], rfl⟩
  rintro ⟨i, hi, rfl, rfl⟩
  by_cases hlt : i < js.length
  · have hx := gE_get (l := rs) (i := i) (by omega)
    have lx := load_I (H1.sees 1 rfl) hx
    have bx := C.b _ (List.mem_of_getElem? hx)
    have bs := sumL_tk (i := i) C.b
    have ws : IntKind.i64.wrap (sumL (rs.take i) + gE rs i) = sumL (rs.take (i + 1)) := by rw [sumL_take hx, wrap_ok] <;> omega
    simp -implicitDefEqProofs [-indexAddrP_some, hlt, lx, ws, winc hlt (show js.length ≤ 2 ^ 40 by omega)]
    exact ⟨m - 1, by omega, on hI ⟨i + 1, by omega, rfl, rfl⟩⟩
  rw [List.take_of_length_le (by omega)]
  simp -implicitDefEqProofs [hlt]
  refine R_loopO (fun m st h' => ∃ (now' : Int) (rs' : List Int) (S : List Sp) (u : Value), st = [(0, .slice oj js.length cj), (3, .int .i64 o), (9, u), (10, .slice ox js.length cx), (11, .int .i64 (sumL rs')), (13, .int .i64 now')] ∧ Ch js rs' now' m ∧ 0 ≤ now' ∧ now' + m ≤ 2 ^ 31 ∧ S.length + m ≤ FU ∧ (∀ s, s ∈ S → 0 ≤ s.j ∧ s.j < js.length) ∧
    (∀ E, apS E (picks o js FU now rs) = apS (foldS E S) (picks o js m now' rs')) ∧ Holds h h' [.own u 3 (S.map encS), .own (.slice ox js.length cx) 1 (rs'.map encI)]) (fun I2 hI2 m2 st h' => ?_) (n := FU) ⟨now, rs, [], .slice none 0 0, by simp, C, hnow.1, by unfold FU; omega, by simp, by simp, fun E => rfl, H1⟩
  rintro ⟨now', rs', S, u, rfl, C', n0, n1, hSl, hSj, hE, H⟩
  have hl' := C'.l
  by_cases hs : 0 < sumL rs'
  · have wn : IntKind.i64.wrap (now' + 1) = now' + 1 := by rw [wrap_ok] <;> omega
    have rp := l5Pick_run (o := o) (now := now') (hjs.pre H.pre) (H.sees 1 rfl) hn hl' ho
    rcases pick_cases (o := o) (js := js) (rs := rs') (now := now') with ⟨hp, _⟩ | ⟨b, hp, hb, hb0⟩
    · obtain ⟨_, C2, hm⟩ := C'.skip hg hs (o := o) (by omega)
      obtain ⟨m', rfl⟩ : ∃ m', m2 = m' + 1 := ⟨m2 - 1, by omega⟩
      rw [hp] at rp
      have hE2 : ∀ E, apS E (picks o js FU now rs) = apS (foldS E S) (picks o js m' (now' + 1) rs') := fun E => by
        rw [hE E, picks, if_neg (by omega), hp, if_pos (by omega)]
      simp -implicitDefEqProofs [hs, CL_ret rp, wn]
      exact ⟨m', by omega, on hI2 ⟨now' + 1, rs', S, u, by simp, C2, by omega, by omega, by omega, hSj, hE2, H⟩⟩
    · obtain ⟨C2, hm, hsum⟩ := C'.take hs hb hb0
      obtain ⟨m', rfl⟩ : ∃ m', m2 = m' + 1 := ⟨m2 - 1, by omega⟩
      rw [hp] at rp
      have hE2 : ∀ E, apS E (picks o js FU now rs) = apS ((foldS E S).set b (now' + 1)) (picks o js m' (now' + 1) (rs'.set b (gE rs' b - 1))) := fun E => by
        rw [hE E, picks, if_neg (by omega), hp, if_neg (by omega), apS_cons, Int.toNat_natCast]
      have bs := sumL_nn C'.b
      have bx := C'.b _ (gE_mem (l := rs') (i := b) (by omega))
      have wl : IntKind.i64.wrap (sumL rs' - 1) = sumL (rs'.set b (gE rs' b - 1)) := by rw [hsum, wrap_ok] <;> omega
      have wr : IntKind.i64.wrap (gE rs' b - 1) = gE rs' b - 1 := by rw [wrap_ok] <;> omega
      have hb1 : ¬ (b : Int) < 0 := by omega
      have hF : FU = 1000 := rfl
      have new : ∃ u' h2 h3, appendP P (h' ++ [some ⟨[.int .i64 b, .int .i64 now', .int .i64 (now' + 1)], 3, false⟩]) t_S_impl_Span u (.slice (some ⟨h'.length, 0, some 3⟩) 1 1) = some (u', h2) ∧
          (indexAddrP P h2 t_S_int (.slice ox js.length cx) (.int .i64 b) = some (.pointer (some (addP (base (.slice ox js.length cx)) b))) ∧ loadP P h2 t_int (.pointer (some (addP (base (.slice ox js.length cx)) b))) = some (.int .i64 (gE rs' b)) ∧
          storeP P h2 t_int (.int .i64 (gE rs' b - 1)) (.pointer (some (addP (base (.slice ox js.length cx)) b))) = some h3) ∧
          I2 m' [(0, .slice oj js.length cj), (3, .int .i64 o), (9, u'), (10, .slice ox js.length cx), (11, .int .i64 (sumL (rs'.set b (gE rs' b - 1)))), (13, .int .i64 (now' + 1))] h3 := by
        obtain ⟨u', h2, ha, H2, _⟩ := push_S0 H 0 rfl (⟨b, now', now' + 1⟩ : Sp) (by omega)
        have lr := load_I (H2.sees 1 rfl) (gE_get (l := rs') (i := b) (by omega))
        obtain ⟨h3, s3, H3, _⟩ := put_I H2 1 rfl (j := b) (by omega) (gE rs' b - 1)
        refine ⟨u', h2, h3, ha, ⟨lr.1, lr.2, s3⟩, on hI2 ⟨now' + 1, _, S ++ [(⟨b, now', now' + 1⟩ : Sp)], u', rfl, C2, by omega, by omega, by simp; omega, fun s hs => ?_, fun E => ?_, H3⟩⟩
        · rcases List.mem_append.1 hs with g | g
          · exact hSj s g
          · rw [List.mem_singleton.1 g]; dsimp only; omega
        · rw [hE2 E, foldS_snoc]; rfl
      rcases List.eq_nil_or_concat S with rfl | ⟨S1, l, rfl⟩
      · obtain ⟨ua, uc, rfl⟩ : ∃ a c, u = .slice a 0 c := (H.sees 0 rfl).shapeT
        obtain ⟨u', h2, h3, ha, ⟨i2, l2, s3⟩, hf⟩ := new
        simp -implicitDefEqProofs [-indexAddrP_some, hs, CL_ret rp, hb1, show IntKind.i64.wrap (-1) = -1 by decide, wn, ha, i2, l2, wr, s3, wl]
        exact ⟨m', by omega, hf⟩
      · rw [List.concat_eq_append] at *
        obtain ⟨ua, uc, rfl⟩ : ∃ a c, u = .slice a (S1.length + 1) c := by obtain ⟨a, c, e⟩ := (H.sees 0 rfl).shapeT; exact ⟨a, c, by rw [e]; simp⟩
        have hS1 : S1.length + 1 + (m' + 1) ≤ FU := by simpa using hSl
        have wS : IntKind.i64.wrap (S1.length : Int) = S1.length := by rw [wrap_ok] <;> omega
        have hS0 : (0 : Int) ≤ S1.length := by omega
        have lS := load_S (H.sees 0 rfl) (i := S1.length) (x := l) (by simp)
        by_cases c1 : l.j = b
        · have c1' : (l.j == (b : Int)) = true := by simpa using c1
          by_cases c2 : l.b = now'
          · have c2' : (l.b == now') = true := by simpa using c2
            obtain ⟨h2, s2, H2, _⟩ := fput_S2 H 0 rfl (j := S1.length) (y := l) (by simp) (now' + 1)
            have lr := load_I (H2.sees 1 rfl) (gE_get (l := rs') (i := b) (by omega))
            obtain ⟨h3, s3, H3, _⟩ := put_I H2 1 rfl (j := b) (by omega) (gE rs' b - 1)
            have eset : (S1 ++ [l]).set S1.length { l with b := now' + 1 } = S1 ++ [{ l with b := now' + 1 }] := by rw [List.set_append_right (h := Nat.le_refl _), Nat.sub_self]; rfl
            rw [eset] at H3
            simp -implicitDefEqProofs [-indexAddrP_some, hs, CL_ret rp, hb1, wS, hS0, lS, c1', c2', wn, s2, lr, wr, s3, wl]
            refine ⟨m', by omega, on hI2 ⟨now' + 1, _, S1 ++ [({ l with b := now' + 1 } : Sp)], _, rfl, C2, by omega, by omega, by simp; omega, fun s hs => ?_, fun E => ?_, H3⟩⟩
            · rcases List.mem_append.1 hs with g | g
              · exact hSj s (List.mem_append_left _ g)
              · rw [List.mem_singleton.1 g]; exact hSj l (List.mem_append_right _ (List.mem_singleton.2 rfl))
            · rw [hE2 E, foldS_snoc, foldS_snoc]
              dsimp only
              rw [c1, Int.toNat_natCast, List.set_set]
          · obtain ⟨u', h2, h3, ha, ⟨i2, l2, s3⟩, hf⟩ := new
            simp -implicitDefEqProofs [-indexAddrP_some, hs, CL_ret rp, hb1, wS, hS0, lS, c1', nb c2, wn, ha, i2, l2, wr, s3, wl]
            exact ⟨m', by omega, hf⟩
        · obtain ⟨u', h2, h3, ha, ⟨i2, l2, s3⟩, hf⟩ := new
          simp -implicitDefEqProofs [-indexAddrP_some, hs, CL_ret rp, hb1, wS, hS0, lS, nb c1, wn, ha, i2, l2, wr, s3, wl]
          exact ⟨m', by omega, hf⟩
  · have hE2 : ∀ E, apS E (picks o js FU now rs) = foldS E S := fun E => by
      rw [hE E]
      cases m2 with
      | zero => rfl
      | succ k => rw [picks, if_pos (by omega)]; rfl
    simp -implicitDefEqProofs [hs]
    exact onK hK ⟨(H.ret 0 rfl).1, S, (H.ret 0 rfl).2, by omega, hSj, hE2⟩
end
end Go.Pm.PP

/- The bound of a prefix: the reference. -/
set_option linter.unusedVariables false
set_option linter.unusedSimpArgs false
set_option maxRecDepth 4000
set_option maxHeartbeats 8000000
namespace Go.Pm.PP
open Go.Pm Go.Proofs Go.Pm.PE
theorem foldS_len : ∀ {S : List Sp} {E : List Int}, (foldS E S).length = E.length
  | [], E => rfl
  | s :: S, E => by
    have := @foldS_len S (E.set s.j.toNat s.b)
    rw [List.length_set] at this
    exact this
section
variable {h : Hp} {vj vr : Value} {js : List Job} {rs B : List Int} {o now : Int}
theorem l5Bound_run (hj : Jobs h vj js) (hr : Ints h vr B) (hg : goodL js = true) (hn : js.length ≤ 8) (hB : B.length ≤ 8) (hin : inN js.length B) (ho : o = 2 ∨ o = 4) : Ret P G n_spec_l5Bound [vj, vr, .int .i64 o] h (.int .i64 (bdV o js B)) h := by
  refine enter_run e_spec_l5Bound (by simp) ?_
  have hjs := hj
  have hrs := hr
  obtain ⟨oj, cj, rfl⟩ := hj.shapeT
  obtain ⟨oa, c, rfl⟩ := hr.shapeT
  simp -implicitDefEqProofs
  refine CL_post (l5Rests_run hjs hn) fun v1 h1 ⟨hp1, ho1⟩ => ?_
  have H1 := (Holds.start (h := h)).call hp1 ho1
  obtain ⟨ox, cx, rfl⟩ : ∃ a c, v1 = .slice a js.length c := by obtain ⟨a, c, e⟩ := ho1.sees.shapeT; exact ⟨a, c, by rw [e, restL_len]⟩
  obtain ⟨vz, h2, mk, H2, hp2, oz, rfl⟩ := make_I H1 (n := js.length) (by omega)
  have bE := bdE_bd (o := o) hg hB hin
  have bC := bd_ch hg hn hin
  have bN := @nowGo_bd js hg B 0 0 hin (by omega) (by omega)
  unfold bdV
  have eE : bdE o js B = apS (endsL js B) (picks o js FU (nowGo js B 0) (restL js B)) := rfl
  have lE : (bdE o js B).length = js.length := by rw [eE, apS_len, endsL_len]
  generalize bdE o js B = X at bE eE lE
  simp -implicitDefEqProofs [mk]
  refine R_loopO (fun m s h' => ∃ (i : Nat) (now : Int) (E : List Int), i + m = B.length ∧ s = [(0, .slice oj js.length cj), (1, .slice oa B.length c), (2, .int .i64 o), (7, .slice ox js.length cx), (8, .int .i64 now), (9, .slice oz js.length js.length), (10, .int .i64 i)] ∧
    Holds h h' [.own (.slice ox js.length cx) 1 ((restL js (B.take i)).map encI), .own (.slice oz js.length js.length) 1 (E.map encI)] ∧ endsL js B = endGo js (B.drop i) now E ∧ nowGo js B 0 = nowGo js (B.drop i) now ∧ E.length = js.length ∧ 0 ≤ now ∧ now ≤ 550 * i) (fun I hI m s h' => ?_) ⟨0, 0, List.replicate js.length 0, Nat.zero_add _, by simp, H2, rfl, rfl, by simp, by omega, by omega⟩
  rintro ⟨i, nw, E, hi, rfl, H, hx, hw, hE, n0, n1⟩
  by_cases hlt : i < B.length
  · obtain ⟨x, hxx, hd⟩ := drop_at hlt
    rw [hd, endGo] at hx
    rw [hd, nowGo] at hw
    obtain ⟨k, hk, hkl, hky⟩ := jA_get rfl (hin x (List.mem_of_getElem? hxx))
    have jb := job_of (job_at hg hky)
    have et : B.take i ++ [x] = B.take (i + 1) := (take_succ' hxx).symm
    generalize hJ : jA js x = y at hx hw hky jb
    subst hk
    rw [Int.toNat_natCast] at hx
    have lx := load_I (hrs.pre H.pre) hxx
    have ly := load_J (hjs.pre H.pre) hky
    obtain ⟨M, hM⟩ : ∃ M, M = max nw y.r := ⟨_, rfl⟩
    rw [← hM] at hx hw
    have lm : ∀ {h : Hp}, Ret P G n_spec_l1Most [.int .i64 nw, .int .i64 y.r] h (.int .i64 M) h := fun {h} => by rw [hM]; exact l1Most_run
    have wM : IntKind.i64.wrap (M + y.t) = M + y.t := by rw [wrap_ok] <;> omega
    have ix := (load_I (H.sees 1 rfl) (gE_get (l := E) (i := k) (by omega))).1
    obtain ⟨h3, s3, H3, _⟩ := put_I H 1 rfl (j := k) (by omega) (M + y.t)
    have ix2 := (load_I (H3.sees 0 rfl) (gE_get (l := restL js (B.take i)) (i := k) (by rw [restL_len]; omega))).1
    obtain ⟨h4, s4, H4, _⟩ := put_I H3 0 rfl (j := k) (by rw [restL_len]; omega) 0
    rw [restL_snoc hkl, et] at H4
    simp -implicitDefEqProofs [-indexAddrP_some, hlt, lx, ly, CL_ret lm, CH_at lm, CH_ret lm, wM, ix, s3, ix2, s4, winc hlt (by omega)]
    exact ⟨m - 1, by omega, on hI ⟨i + 1, M + y.t, E.set k (M + y.t), by omega, rfl, H4, hx, hw, by rw [List.length_set]; exact hE, by omega, by omega⟩⟩
  · rw [List.drop_eq_nil_of_le (by omega)] at hx hw
    rw [endGo] at hx
    rw [nowGo] at hw
    rw [List.take_of_length_le (by omega)] at H
    rw [hx, hw] at eE
    rw [hw] at bC bN
    simp -implicitDefEqProofs [hlt]
    refine CL_post (l5Choose_run (hjs.pre H.pre) (H.sees 0 rfl) hg hn bC (by omega) ho) fun v5 h5 ⟨hp5, S, ho5, hSl, hSj, hSE⟩ => ?_
    rw [hSE E] at eE
    have H5 := H.call hp5 ho5
    have hF : FU = 1000 := rfl
    obtain ⟨os, cs, rfl⟩ := ho5.sees.shapeT
    simp -implicitDefEqProofs
    refine R_loopO (fun m s h' => ∃ (i : Nat) (E' : List Int), i + m = S.length ∧ s = [(0, .slice oj js.length cj), (2, .int .i64 o), (9, .slice oz js.length js.length), (12, .slice os S.length cs), (13, .int .i64 i)] ∧
      Holds h h' [.own (.slice ox js.length cx) 1 ((restL js B).map encI), .own (.slice oz js.length js.length) 1 (E'.map encI), .own (.slice os S.length cs) 3 (S.map encS)] ∧ X = foldS E' (S.drop i) ∧ E'.length = js.length) (fun I2 hI2 m2 s h' => ?_) (n := S.length) ⟨0, E, Nat.zero_add _, by simp, H5, by simpa using eE, hE⟩
    rintro ⟨i2, E', hi2, rfl, H', hx', hE'⟩
    by_cases hlt2 : i2 < S.length
    · obtain ⟨p, hpp, hd⟩ := drop_at hlt2
      have hpj := hSj p (List.mem_of_getElem? hpp)
      rw [hd] at hx'
      obtain ⟨k, hk⟩ : ∃ k : Nat, p.j = k := ⟨p.j.toNat, by omega⟩
      have lp := load_S (H'.sees 2 rfl) hpp
      rw [hk] at lp
      have ix := (load_I (H'.sees 1 rfl) (gE_get (l := E') (i := k) (by omega))).1
      obtain ⟨h6, s6, H6, _⟩ := put_I H' 1 rfl (j := k) (by omega) p.b
      have hx2 : X = foldS (E'.set k p.b) (S.drop (i2 + 1)) := by rw [hx']; show foldS (E'.set p.j.toNat p.b) _ = _; rw [hk, Int.toNat_natCast]
      simp -implicitDefEqProofs [-indexAddrP_some, hlt2, lp, ix, s6, winc hlt2 (by omega)]
      exact ⟨m2 - 1, by omega, on hI2 ⟨i2 + 1, _, by omega, rfl, H6, hx2, by rw [List.length_set]; exact hE'⟩⟩
    · rw [List.drop_eq_nil_of_le (by omega)] at hx'
      have hx2 : X = E' := hx'
      subst hx2
      have ro := l2Of_run (o := o) (hjs.pre H'.pre) (H'.sees 1 rfl) hg hn lE bE (by omega)
      simp -implicitDefEqProofs [hlt2, CL_ret ro]
      exact gcP H'.pre rfl
end
end Go.Pm.PP

/- The choice by time and the bound of a prefix: the program. -/
set_option linter.unusedVariables false
set_option linter.unusedSimpArgs false
set_option maxRecDepth 4000
set_option maxHeartbeats 16000000
namespace Go.Pm.PP
open Go.Pm Go.Proofs Go.Pm.PE
section
variable {h : Hp} {vj vr : Value} {js : List Job} {B : List Int} {o : Int}
theorem choose_run (hj : Jobs h vj js) (hr : Ints h vr B) (hg : goodL js = true) (hn : js.length ≤ 8) (hB : B.length ≤ 8) (hin : inN js.length B) (ho : o = 2 ∨ o = 4) :
    RunsC P G n_impl_choose [vj, vr, .int .i64 o] h fun v h' => ∃ u w, v = .tuple #[u, w] ∧ h <+: h' ∧ Ints h' w (bdE o js B) := by
  refine hideC fun K hK => enter_run e_impl_choose (by simp) ?_
  have hjs := hj
  have hrs := hr
  obtain ⟨oj, cj, rfl⟩ := hj.shapeT
  obtain ⟨oa, c, rfl⟩ := hr.shapeT
  obtain ⟨vx, h1, mk1, H1, hp1, ox, rfl⟩ := make_I (Holds.start (h := h)) (n := js.length) (by omega)
  obtain ⟨vz, h2, mk2, H2, hp2, oz, rfl⟩ := make_I H1 (n := js.length) (by omega)
  have bC := bd_ch hg hn hin
  have bN := @nowGo_bd js hg B 0 0 hin (by omega) (by omega)
  have eE : bdE o js B = apS (endsL js B) (picks o js FU (nowGo js B 0) (restL js B)) := rfl
  generalize bdE o js B = X at eE hK
  have hF : FU = 1000 := rfl
  have bR := restL_bd (B := B) hg
  have lR : (restL js B).length = js.length := restL_len
  simp -implicitDefEqProofs [mk1, mk2]
  refine R_loopO (fun m s h' => ∃ (i : Nat) (R : List Int), i + m = js.length ∧ s = [(0, .slice oj js.length cj), (1, .slice oa B.length c), (2, .int .i64 o), (8, .slice ox js.length js.length), (9, .slice oz js.length js.length), (10, .int .i64 (sumL ((restL js B).take i))), (11, .int .i64 0), (27, .slice oj js.length cj), (28, .int .i64 js.length), (29, .int .i64 i)] ∧
    R.length = js.length ∧ (∀ k, k < js.length → gE R k = if k < i then gE (restL js B) k else 0) ∧ Holds h h' [.own (.slice ox js.length js.length) 1 (R.map encI), .own (.slice oz js.length js.length) 1 ((List.replicate js.length (0 : Int)).map encI)]) (fun I hI m s h' => ?_) (n := js.length)
    ⟨0, List.replicate js.length 0, Nat.zero_add _, by simp [sumL], by simp, fun k hk => by rw [if_neg (by omega)]; simp [gE, hk], H2⟩
  rintro ⟨i, R, hi, rfl, hR, hRk, H⟩
  by_cases hlt : i < js.length
  · obtain ⟨y, hy, _⟩ := drop_at hlt
    have ey : jA js i = y := by unfold jA; rw [Int.toNat_natCast, hy]; rfl
    have jb := job_of (job_at hg hy)
    have ly := load_J (hjs.pre H.pre) hy
    have hlt' : (i : Int) < js.length := by omega
    have rx := restL_at (B := B) hlt
    have bs := sumL_tk (i := i) bR
    rw [lR] at bs
    have HB := H.ext (List.prefix_append h' [some (⟨[.int .i64 y.t, .int .i64 y.w, .int .i64 y.r, .int .i64 y.d], 0, false⟩ : Row)])
    have rh := has_run (x := (i : Int)) (hrs.pre HB.pre) (by omega)
    cases c1 : hasL (i : Int) B
    · rw [if_neg (by rw [show inP B i = false from c1]; simp), ey] at rx
      have ix := (load_I (HB.sees 0 rfl) (gE_get (l := R) (i := i) (by omega))).1
      obtain ⟨h3, s3, H3, _⟩ := put_I HB 0 rfl (j := i) (by omega) y.t
      have bx : loadP P h3 t_int (.pointer (some ⟨h'.length, 0, some 4⟩)) = some (.int .i64 y.t) := by
        have HBx := (H.alloc [.int .i64 y.t, .int .i64 y.w, .int .i64 y.r, .int .i64 y.d])
        obtain ⟨h3', s3', H3', _⟩ := put_I HBx 0 rfl (j := i) (by omega) y.t
        rw [s3] at s3'; cases s3'
        exact H3'.bl (P := P) 2 4 rfl rfl t_int 0
      have ws : IntKind.i64.wrap (sumL ((restL js B).take i) + y.t) = sumL ((restL js B).take (i + 1)) := by rw [sumL_take rx, wrap_ok] <;> omega
      simp -implicitDefEqProofs [-indexAddrP_some, hlt, hlt', ly, CL_ret rh, c1, ix, s3, bx, ws, winc hlt (show js.length ≤ 2 ^ 40 by omega)]
      refine ⟨m - 1, by omega, on hI ⟨i + 1, R.set i y.t, by omega, rfl, by rw [List.length_set]; exact hR, fun k hk => ?_, H3⟩⟩
      rw [gE_set (by omega)]
      by_cases g : k = i
      · subst g
        rw [if_pos rfl, if_pos (by omega)]
        unfold gE; rw [rx]; rfl
      · rw [if_neg g, hRk k hk]
        by_cases g2 : k < i
        · rw [if_pos g2, if_pos (by omega)]
        · rw [if_neg g2, if_neg (by omega)]
    · rw [if_pos (show inP B i = true from c1)] at rx
      have ws : sumL ((restL js B).take i) = sumL ((restL js B).take (i + 1)) := by rw [sumL_take rx, Int.add_zero]
      simp -implicitDefEqProofs [-indexAddrP_some, hlt, hlt', ly, CL_ret rh, c1, winc hlt (show js.length ≤ 2 ^ 40 by omega)]
      refine ⟨m - 1, by omega, on hI ⟨i + 1, R, by omega, by rw [ws]; rfl, hR, fun k hk => ?_, HB⟩⟩
      rw [hRk k hk]
      by_cases g : k = i
      · subst g
        rw [if_neg (by omega), if_pos (by omega)]
        unfold gE; rw [rx]; rfl
      · by_cases g2 : k < i
        · rw [if_pos g2, if_pos (by omega)]
        · rw [if_neg g2, if_neg (by omega)]
  have hlt' : ¬ (i : Int) < js.length := by omega
  have hRX : R = restL js B := by
    apply List.ext_getElem?
    intro k
    rcases Nat.lt_or_ge k js.length with g | g
    · have := hRk k g
      rw [if_pos (by omega)] at this
      rw [gE_get (by omega), gE_get (by rw [lR]; omega), this]
    · rw [List.getElem?_eq_none (by omega), List.getElem?_eq_none (by rw [lR]; omega)]
  subst hRX
  rw [List.take_of_length_le (by omega)]
  simp -implicitDefEqProofs [hlt, hlt']
  refine R_loopO (fun m s h' => ∃ (i : Nat) (now : Int) (E : List Int), i + m = B.length ∧ s = [(0, .slice oj js.length cj), (2, .int .i64 o), (8, .slice ox js.length js.length), (9, .slice oz js.length js.length), (10, .int .i64 (sumL (restL js B))), (11, .int .i64 now), (48, .slice oa B.length c), (49, .int .i64 B.length), (50, .int .i64 i)] ∧
    Holds h h' [.own (.slice ox js.length js.length) 1 ((restL js B).map encI), .own (.slice oz js.length js.length) 1 (E.map encI)] ∧ endsL js B = endGo js (B.drop i) now E ∧ nowGo js B 0 = nowGo js (B.drop i) now ∧ E.length = js.length ∧ 0 ≤ now ∧ now ≤ 550 * i) (fun I2 hI2 m2 s h' => ?_) (n := B.length) ⟨0, 0, List.replicate js.length 0, Nat.zero_add _, by simp, H, rfl, rfl, by simp, by omega, by omega⟩
  rintro ⟨i2, nw, E, hi2, rfl, H2, hx, hw, hE, n0, n1⟩
  by_cases hlt2 : i2 < B.length
  · have hlt2' : (i2 : Int) < B.length := by omega
    obtain ⟨x, hxx, hd⟩ := drop_at hlt2
    rw [hd, endGo] at hx
    rw [hd, nowGo] at hw
    obtain ⟨k, hk, hkl, hky⟩ := jA_get rfl (hin x (List.mem_of_getElem? hxx))
    have jb := job_of (job_at hg hky)
    generalize hJ : jA js x = y at hx hw hky jb
    subst hk
    rw [Int.toNat_natCast] at hx
    have lx := load_I (hrs.pre H2.pre) hxx
    have ly := load_J (hjs.pre H2.pre) hky
    obtain ⟨M, hM⟩ : ∃ M, M = max nw y.r := ⟨_, rfl⟩
    rw [← hM] at hx hw
    have wM : IntKind.i64.wrap (max nw y.r + y.t) = M + y.t := by rw [← hM, wrap_ok] <;> omega
    have ix := (load_I (H2.sees 1 rfl) (gE_get (l := E) (i := k) (by omega))).1
    obtain ⟨h3, s3, H3, _⟩ := put_I H2 1 rfl (j := k) (by omega) (M + y.t)
    simp -implicitDefEqProofs [-indexAddrP_some, hlt2, hlt2', lx, ly, foldI, mx_if, wM, ix, s3, winc hlt2 (by omega)]
    exact ⟨m2 - 1, by omega, on hI2 ⟨i2 + 1, M + y.t, E.set k (M + y.t), by omega, rfl, H3, hx, hw, by rw [List.length_set]; exact hE, by omega, by omega⟩⟩
  have hlt2' : ¬ (i2 : Int) < B.length := by omega
  rw [List.drop_eq_nil_of_le (by omega)] at hx hw
  rw [endGo] at hx
  rw [nowGo] at hw
  rw [hx, hw] at eE
  rw [hw] at bC bN
  simp -implicitDefEqProofs [hlt2, hlt2']
  have H3 := own_nil H2 Sp encS 3
  refine R_loopO (fun m s h' => ∃ (now' : Int) (rs' E' : List Int) (S : List Sp) (u : Value), s = [(0, .slice oj js.length cj), (2, .int .i64 o), (8, .slice ox js.length js.length), (9, .slice oz js.length js.length), (10, .int .i64 (sumL rs')), (11, .int .i64 now'), (16, u)] ∧ Ch js rs' now' m ∧ 0 ≤ now' ∧ now' + m ≤ 2 ^ 31 ∧ S.length + m ≤ FU ∧ E'.length = js.length ∧
    X = apS E' (picks o js m now' rs') ∧ Holds h h' [.own (.slice ox js.length js.length) 1 (rs'.map encI), .own (.slice oz js.length js.length) 1 (E'.map encI), .own u 3 (S.map encS)]) (fun I3 hI3 m3 s h' => ?_) (n := FU) ⟨nw, restL js B, E, [], .slice none 0 0, by simp, bC, n0, by omega, by simp, hE, eE, H3⟩
  rintro ⟨now', rs', E', S, u, rfl, C', n0', n1', hSl, hE', hX, H'⟩
  have hl' := C'.l
  by_cases hs : 0 < sumL rs'
  · have wn : IntKind.i64.wrap (now' + 1) = now' + 1 := by rw [wrap_ok] <;> omega
    simp -implicitDefEqProofs [hs]
    refine R_loopO (fun m s h'' => ∃ (i : Nat) (b : Int), i + m = js.length ∧ s = [(0, .slice oj js.length cj), (2, .int .i64 o), (8, .slice ox js.length js.length), (9, .slice oz js.length js.length), (10, .int .i64 (sumL rs')), (11, .int .i64 now'), (16, u), (17, .int .i64 b), (76, .slice oj js.length cj), (77, .int .i64 js.length), (78, .int .i64 i)] ∧ h' <+: h'' ∧ (b = -1 ∨ pkOk js rs' b) ∧ pickL o js rs' now' = (List.range' i m).foldl (pickF o js rs' now') b) (fun I4 hI4 m4 s h'' => ?_) (n := js.length) ⟨0, -1, Nat.zero_add _, by simp, List.prefix_rfl, .inl rfl, rfl⟩
    rintro ⟨i4, b, hi4, rfl, hp4, hb, hx4⟩
    by_cases hlt4 : i4 < js.length
    · have hlt4' : (i4 : Int) < js.length := by omega
      obtain ⟨m', rfl⟩ : ∃ m', m4 = m' + 1 := ⟨m4 - 1, by omega⟩
      rw [List.range'_succ, List.foldl_cons] at hx4
      obtain ⟨y, hy, _⟩ := drop_at hlt4
      have ey : jA js i4 = y := by unfold jA; rw [Int.toNat_natCast, hy]; rfl
      have hp5 := hp4.trans (List.prefix_append h'' [some (⟨[.int .i64 y.t, .int .i64 y.w, .int .i64 y.r, .int .i64 y.d], 0, false⟩ : Row)])
      have ly := load_J (hjs.pre (H'.pre.trans hp4)) hy
      have lr := load_I ((H'.sees 0 rfl).pre hp5) (gE_get (l := rs') (i := i4) (by omega))
      have wi := winc hlt4 (show js.length ≤ 2 ^ 40 by omega)
      by_cases c1 : gE rs' i4 = 0
      · have e : pickF o js rs' now' b i4 = b := by unfold pickF; rw [if_pos (.inl c1)]
        rw [e] at hx4
        rw [c1] at lr
        simp -implicitDefEqProofs [-indexAddrP_some, hlt4, hlt4', ly, lr, wi]
        exact ⟨m', by omega, on hI4 ⟨i4 + 1, b, by omega, rfl, hp5, hb, hx4⟩⟩
      · by_cases c2 : now' < y.r
        · have e : pickF o js rs' now' b i4 = b := by unfold pickF; rw [ey, if_pos (.inr c2)]
          rw [e] at hx4
          simp -implicitDefEqProofs [-indexAddrP_some, hlt4, hlt4', ly, lr, nb c1, c2, wi]
          exact ⟨m', by omega, on hI4 ⟨i4 + 1, b, by omega, rfl, hp5, hb, hx4⟩⟩
        · have okI : pkOk js rs' (i4 : Int) := ⟨by omega, by omega, c1⟩
          rcases hb with rfl | hb
          · have e : pickF o js rs' now' (-1) i4 = i4 := by unfold pickF; rw [ey, if_neg (by omega), if_pos (.inl (by omega))]
            rw [e] at hx4
            simp -implicitDefEqProofs [-indexAddrP_some, hlt4, hlt4', ly, lr, nb c1, c2, wi]
            exact ⟨m', by omega, on hI4 ⟨i4 + 1, i4, by omega, rfl, hp5, .inr okI, hx4⟩⟩
          · obtain ⟨k, rfl⟩ : ∃ k : Nat, b = k := ⟨b.toNat, by have := hb.1; omega⟩
            have hkl : k < js.length := by have := hb.2.1; omega
            obtain ⟨z, hz, _⟩ := drop_at hkl
            have ez : jA js k = z := by unfold jA; rw [Int.toNat_natCast, hz]; rfl
            have lz := load_J (hjs.pre (H'.pre.trans hp5)) hz
            have lk := load_I ((H'.sees 0 rfl).pre hp5) (gE_get (l := rs') (i := k) (by omega))
            have hk0 : ¬ (k : Int) < 0 := by omega
            rcases ho with rfl | rfl
            · by_cases c3 : gE rs' i4 < gE rs' k
              · have e : pickF 2 js rs' now' k i4 = i4 := by unfold pickF; rw [ey, if_neg (by omega), if_pos (.inr (by simp [betB, c3]))]
                rw [e] at hx4
                simp -implicitDefEqProofs [-indexAddrP_some, hlt4, hlt4', ly, lr, nb c1, c2, wi, hk0, lk, c3]
                exact ⟨m', by omega, on hI4 ⟨i4 + 1, i4, by omega, rfl, hp5, .inr okI, hx4⟩⟩
              · have e : pickF 2 js rs' now' k i4 = k := by unfold pickF; rw [ey, if_neg (by omega), if_neg (by simp [betB, c3, hk0])]
                rw [e] at hx4
                simp -implicitDefEqProofs [-indexAddrP_some, hlt4, hlt4', ly, lr, nb c1, c2, wi, hk0, lk, c3]
                exact ⟨m', by omega, on hI4 ⟨i4 + 1, k, by omega, rfl, hp5, .inr hb, hx4⟩⟩
            · by_cases c3 : y.d < z.d
              · have e : pickF 4 js rs' now' k i4 = i4 := by unfold pickF; rw [ey, if_neg (by omega), if_pos (.inr (by simp [betB, ey, ez, c3]))]
                rw [e] at hx4
                simp -implicitDefEqProofs [-indexAddrP_some, hlt4, hlt4', ly, lr, nb c1, c2, wi, hk0, lz, c3]
                exact ⟨m', by omega, on hI4 ⟨i4 + 1, i4, by omega, rfl, hp5, .inr okI, hx4⟩⟩
              · have e : pickF 4 js rs' now' k i4 = k := by unfold pickF; rw [ey, if_neg (by omega), if_neg (by simp [betB, ey, ez, c3, hk0])]
                rw [e] at hx4
                simp -implicitDefEqProofs [-indexAddrP_some, hlt4, hlt4', ly, lr, nb c1, c2, wi, hk0, lz, c3]
                exact ⟨m', by omega, on hI4 ⟨i4 + 1, k, by omega, rfl, hp5, .inr hb, hx4⟩⟩
    have hlt4' : ¬ (i4 : Int) < js.length := by omega
    have hm4 : m4 = 0 := by omega
    subst hm4
    rw [List.range'_zero, List.foldl_nil] at hx4
    subst hx4
    have H4 := H'.ext hp4
    rcases pick_cases (o := o) (js := js) (rs := rs') (now := now') with ⟨hp, _⟩ | ⟨b, hp, hbl, hb0⟩
    · obtain ⟨_, C2, hm⟩ := C'.skip hg hs (o := o) (by omega)
      obtain ⟨m', rfl⟩ : ∃ m', m3 = m' + 1 := ⟨m3 - 1, by omega⟩
      rw [picks, if_neg (by omega), hp, if_pos (by omega)] at hX
      simp -implicitDefEqProofs [hlt4, hlt4', hp, wn]
      exact ⟨m', by omega, on hI3 ⟨now' + 1, rs', E', S, u, by simp, C2, by omega, by omega, by omega, hE', hX, H4⟩⟩
    · obtain ⟨C2, hm, hsum⟩ := C'.take hs hbl hb0
      obtain ⟨m', rfl⟩ : ∃ m', m3 = m' + 1 := ⟨m3 - 1, by omega⟩
      rw [picks, if_neg (by omega), hp, if_neg (by omega), apS_cons, Int.toNat_natCast] at hX
      have bs := sumL_nn C'.b
      have bx := C'.b _ (gE_mem (l := rs') (i := b) (by omega))
      have wl : IntKind.i64.wrap (sumL rs' - 1) = sumL (rs'.set b (gE rs' b - 1)) := by rw [hsum, wrap_ok] <;> omega
      have wr : IntKind.i64.wrap (gE rs' b - 1) = gE rs' b - 1 := by rw [wrap_ok] <;> omega
      have hb1 : ¬ (b : Int) < 0 := by omega
      have put2 : ∀ {h2 : Hp} {u' : Value} {S' : List Sp}, S'.length + m' ≤ FU → Holds h h2 [.own (.slice ox js.length js.length) 1 (rs'.map encI), .own (.slice oz js.length js.length) 1 (E'.map encI), .own u' 3 (S'.map encS)] →
          ∃ h3 h4, (indexAddrP P h2 t_S_int (.slice ox js.length js.length) (.int .i64 b) = some (.pointer (some (addP (base (.slice ox js.length js.length)) b))) ∧ loadP P h2 t_int (.pointer (some (addP (base (.slice ox js.length js.length)) b))) = some (.int .i64 (gE rs' b)) ∧
            storeP P h2 t_int (.int .i64 (gE rs' b - 1)) (.pointer (some (addP (base (.slice ox js.length js.length)) b))) = some h3) ∧
            (indexAddrP P h3 t_S_int (.slice oz js.length js.length) (.int .i64 b) = some (.pointer (some (addP (base (.slice oz js.length js.length)) b))) ∧ storeP P h3 t_int (.int .i64 (now' + 1)) (.pointer (some (addP (base (.slice oz js.length js.length)) b))) = some h4) ∧
            I3 m' [(0, .slice oj js.length cj), (2, .int .i64 o), (8, .slice ox js.length js.length), (9, .slice oz js.length js.length), (10, .int .i64 (sumL (rs'.set b (gE rs' b - 1)))), (11, .int .i64 (now' + 1)), (16, u')] h4 := fun {h2 u' S'} hS' HH => by
        have lr := load_I (HH.sees 0 rfl) (gE_get (l := rs') (i := b) (by omega))
        obtain ⟨h3, s3, H3, _⟩ := put_I HH 0 rfl (j := b) (by omega) (gE rs' b - 1)
        have ix := (load_I (H3.sees 1 rfl) (gE_get (l := E') (i := b) (by omega))).1
        obtain ⟨h4, s4, H4, _⟩ := put_I H3 1 rfl (j := b) (by omega) (now' + 1)
        exact ⟨h3, h4, ⟨lr.1, lr.2, s3⟩, ⟨ix, s4⟩, on hI3 ⟨now' + 1, _, E'.set b (now' + 1), S', u', rfl, C2, by omega, by omega, hS', by rw [List.length_set]; exact hE', hX, H4⟩⟩
      have new : ∃ u' h2 h3 h4, appendP P (h'' ++ [some ⟨[.int .i64 b, .int .i64 now', .int .i64 (now' + 1)], 3, false⟩]) t_S_impl_Span u (.slice (some ⟨h''.length, 0, some 3⟩) 1 1) = some (u', h2) ∧
          (indexAddrP P h2 t_S_int (.slice ox js.length js.length) (.int .i64 b) = some (.pointer (some (addP (base (.slice ox js.length js.length)) b))) ∧ loadP P h2 t_int (.pointer (some (addP (base (.slice ox js.length js.length)) b))) = some (.int .i64 (gE rs' b)) ∧
            storeP P h2 t_int (.int .i64 (gE rs' b - 1)) (.pointer (some (addP (base (.slice ox js.length js.length)) b))) = some h3) ∧
          (indexAddrP P h3 t_S_int (.slice oz js.length js.length) (.int .i64 b) = some (.pointer (some (addP (base (.slice oz js.length js.length)) b))) ∧ storeP P h3 t_int (.int .i64 (now' + 1)) (.pointer (some (addP (base (.slice oz js.length js.length)) b))) = some h4) ∧
          I3 m' [(0, .slice oj js.length cj), (2, .int .i64 o), (8, .slice ox js.length js.length), (9, .slice oz js.length js.length), (10, .int .i64 (sumL (rs'.set b (gE rs' b - 1)))), (11, .int .i64 (now' + 1)), (16, u')] h4 := by
        obtain ⟨u', h2, ha, H2, _⟩ := push_S0 H4 2 rfl (⟨b, now', now' + 1⟩ : Sp) (by omega)
        obtain ⟨h3, h4, g1, g2, g3⟩ := put2 (by simp; omega) H2
        exact ⟨u', h2, h3, h4, ha, g1, g2, g3⟩
      rcases List.eq_nil_or_concat S with rfl | ⟨S1, l, rfl⟩
      · obtain ⟨ua, uc, rfl⟩ : ∃ a c, u = .slice a 0 c := (H'.sees 2 rfl).shapeT
        obtain ⟨u', h2, h3, h4, ha, ⟨i2, l2, s3⟩, ⟨i3, s4⟩, hf⟩ := new
        simp -implicitDefEqProofs [-indexAddrP_some, hlt4, hlt4', hp, hb1, show IntKind.i64.wrap (-1) = -1 by decide, wn, ha, i2, l2, wr, s3, wl, i3, s4]
        exact ⟨m', by omega, hf⟩
      · rw [List.concat_eq_append] at *
        obtain ⟨ua, uc, rfl⟩ : ∃ a c, u = .slice a (S1.length + 1) c := by obtain ⟨a, c, e⟩ := (H'.sees 2 rfl).shapeT; exact ⟨a, c, by rw [e]; simp⟩
        have hS1 : S1.length + 1 + (m' + 1) ≤ FU := by simpa using hSl
        have wS : IntKind.i64.wrap (S1.length : Int) = S1.length := by rw [wrap_ok] <;> omega
        have hS0 : (0 : Int) ≤ S1.length := by omega
        have lS := load_S (H4.sees 2 rfl) (i := S1.length) (x := l) (by simp)
        by_cases c1 : l.j = b
        · have c1' : (l.j == (b : Int)) = true := by simpa using c1
          by_cases c2 : l.b = now'
          · have c2' : (l.b == now') = true := by simpa using c2
            obtain ⟨h2, s2, H2, _⟩ := fput_S2 H4 2 rfl (j := S1.length) (y := l) (by simp) (now' + 1)
            have eset : (S1 ++ [l]).set S1.length { l with b := now' + 1 } = S1 ++ [{ l with b := now' + 1 }] := by rw [List.set_append_right (h := Nat.le_refl _), Nat.sub_self]; rfl
            rw [eset] at H2
            obtain ⟨h3, h4, ⟨i2, l2, s3⟩, ⟨i3, s4⟩, hf⟩ := put2 (S' := S1 ++ [({ l with b := now' + 1 } : Sp)]) (by simp; omega) H2
            have w2 : IntKind.i64.wrap (l.b + 1) = now' + 1 := by rw [c2]; exact wn
            simp -implicitDefEqProofs [-indexAddrP_some, hlt4, hlt4', hp, hb1, wS, hS0, lS, c1', c2', wn, w2, s2, i2, l2, wr, s3, wl, i3, s4]
            exact ⟨m', by omega, hf⟩
          · obtain ⟨u', h2, h3, h4, ha, ⟨i2, l2, s3⟩, ⟨i3, s4⟩, hf⟩ := new
            simp -implicitDefEqProofs [-indexAddrP_some, hlt4, hlt4', hp, hb1, wS, hS0, lS, c1', nb c2, wn, ha, i2, l2, wr, s3, wl, i3, s4]
            exact ⟨m', by omega, hf⟩
        · obtain ⟨u', h2, h3, h4, ha, ⟨i2, l2, s3⟩, ⟨i3, s4⟩, hf⟩ := new
          simp -implicitDefEqProofs [-indexAddrP_some, hlt4, hlt4', hp, hb1, wS, hS0, lS, nb c1, wn, ha, i2, l2, wr, s3, wl, i3, s4]
          exact ⟨m', by omega, hf⟩
  · have hX2 : X = E' := by
      rw [hX]
      cases m3 with
      | zero => rfl
      | succ k => rw [picks, if_pos (by omega)]; rfl
    subst hX2
    simp -implicitDefEqProofs [hs]
    refine onK hK ⟨_, _, rfl, pre_gcU H'.pre, Sees.gcU (H'.sees 1 rfl) fun g => ?_⟩
    have g' : (#[u, Value.slice oz js.length js.length] : Array Value).toList.all plainC = true := g
    simp only [List.all_cons, Bool.and_eq_true] at g'
    exact g'.2.1
theorem prefixBound_run (hj : Jobs h vj js) (hr : Ints h vr B) (hg : goodL js = true) (hn : js.length ≤ 8) (hB : B.length ≤ 8) (hin : inN js.length B) (ho : o = 2 ∨ o = 4) : Ret P G n_impl_prefixBound [vj, vr, .int .i64 o] h (.int .i64 (bdV o js B)) h := by
  refine enter_run e_impl_prefixBound (by simp) ?_
  have hjs := hj
  obtain ⟨oj, cj, rfl⟩ := hj.shapeT
  have lE : (bdE o js B).length = js.length := by unfold bdE; rw [apS_len, endsL_len]
  simp -implicitDefEqProofs
  refine CL_post (choose_run hjs hr hg hn hB hin ho) fun v h1 ⟨u, w, ev, hp1, hw⟩ => ?_
  subst ev
  have ro := valueOfEnds_run (o := o) (hjs.pre hp1) hw hg hn lE (bdE_bd hg hB hin) (by omega)
  simp -implicitDefEqProofs [CL_ret ro]
  exact ⟨rfl, gcP hp1 rfl⟩
end
end Go.Pm.PP

/- Cases: the reference. -/
set_option linter.unusedVariables false
set_option linter.unusedSimpArgs false
set_option maxRecDepth 4000
set_option maxHeartbeats 8000000
namespace Go.Pm
theorem inL_append {α : Type} {enc : α → List Value} {sz : Nat} : ∀ {us vs : List Value} {xs ys : List (List α)}, us.length = xs.length → inL enc sz (us ++ vs) (xs ++ ys) = inL enc sz us xs ++ inL enc sz vs ys
  | [], vs, [], ys, _ => by simp [inL]
  | u :: us, vs, x :: xs, ys, h => by rw [List.cons_append, List.cons_append, inL, inL, List.cons_append, inL_append (by simpa using h)]
  | [], _, x :: xs, _, h => by simp at h
  | u :: us, _, [], _, h => by simp at h
theorem inL_ones {α : Type} {enc : α → List Value} {sz : Nat} {h0 h : Hp} {L1 L2 : List Asn} {us : List Value} {xss : List (List α)} (H : Holds h0 h (L1 ++ (inL enc sz us xss ++ L2))) (hl : us.length = xss.length) : ∀ x ∈ us, one x = true := by
  intro x hx
  obtain ⟨i, hi⟩ := List.getElem?_of_mem hx
  have hil := (List.getElem?_eq_some_iff.1 hi).1
  have s := H.sees (L1.length + i) (v := x) (sz := sz) (els := (xss[i]).map enc) (by
    rw [List.getElem?_append_right (by omega), Nat.add_sub_cancel_left, List.getElem?_append_left (by rw [inL_len hl]; exact hil)]
    exact inL_get hi (List.getElem?_eq_getElem (by omega)))
  obtain ⟨a, c, e⟩ := s.shape
  rw [e]; rfl
/-- What stands in between is let go. -/
theorem Holds.cut {h0 h : Hp} {A B C : List Asn} (H : Holds h0 h ((A ++ B) ++ C)) : Holds h0 h (A ++ C) := by
  refine Holds.weak (T := B) (H.perm ?_)
  rw [List.append_assoc, List.append_assoc]
  exact List.Perm.append_left A List.perm_append_comm
end Go.Pm
namespace Go.Pm.PP
open Go.Pm Go.Proofs Go.Pm.PE
/-- What is returned: a list of lists of one's own. -/
def OwnN (b h : Hp) (v : Value) (xss : List (List Int)) : Prop := ∃ us : List Value, us.length = xss.length ∧ Holds b h (.own v 1 (us.map encV) :: inL encI 1 us xss)
/-- What is returned with whether there is one. -/
def retN (x : Option (List (List Int))) (v : Value) (b h' : Hp) : Prop := ∃ u, v = .tuple #[u, .bool x.isSome] ∧ OwnN b h' u (x.getD [])
theorem OwnN.nil {b h' : Hp} (hp : b <+: h') : OwnN b h' nilV [] := ⟨[], rfl, own_nil (Holds.none hp) _ _ _⟩
theorem retN.none {b h' : Hp} (hp : b <+: h') : b <+: gc b h' (.tuple #[nilV, .bool false]) ∧ retN none (.tuple #[nilV, .bool false]) b (gc b h' (.tuple #[nilV, .bool false])) :=
  ⟨pre_gcU hp, nilV, rfl, OwnN.nil (pre_gcU hp)⟩
theorem retN.some {b h' : Hp} {u : Value} {xss : List (List Int)} (o : OwnN b h' u xss) : b <+: gc b h' (.tuple #[u, .bool true]) ∧ retN (some xss) (.tuple #[u, .bool true]) b (gc b h' (.tuple #[u, .bool true])) := by
  obtain ⟨us, hl, H⟩ := o
  have G := H.gcN (u := .tuple #[u, .bool true]) hl (fun h => by
    have : (#[u, .bool true] : Array Value).toList.all plainC = true := h
    simp only [List.all_cons, Bool.and_eq_true] at this
    exact this.1)
  exact ⟨G.pre, u, rfl, us, hl, G⟩
theorem OwnN.shape {b h : Hp} {v : Value} {xss : List (List Int)} (o : OwnN b h v xss) : ∃ a c, v = .slice a xss.length c := by
  obtain ⟨us, hl, H⟩ := o
  obtain ⟨a, c, e⟩ := (H.sees 0 rfl).shapeT
  exact ⟨a, c, by rw [e, hl]⟩
theorem OwnN.pre {b h : Hp} {v : Value} {xss : List (List Int)} (o : OwnN b h v xss) : b <+: h := by obtain ⟨us, hl, H⟩ := o; exact H.pre
/-- A list of lists of one's own is put behind another. -/
theorem app_lists {h0 h h6 h7 : Hp} {L1 : List Asn} {v w : Value} {us : List Value} {xss R : List (List Int)} (hl : us.length = xss.length) (H : Holds h0 h (L1 ++ (inL encI 1 us xss ++ []))) (o : Nat) (ho : L1[o]? = some (.own v 1 (us.map encV))) (hp : h <+: h6) (C : OwnN h6 h7 w R) (hn : us.length + R.length ≤ 2 ^ 40) :
    ∃ us7 v' h8, appendP P h7 t_S_S_int v w = some (v', h8) ∧ us7.length = R.length ∧ Holds h0 h8 (L1.set o (.own v' 1 ((us ++ us7).map encV)) ++ (inL encI 1 (us ++ us7) (xss ++ R) ++ [])) := by
  obtain ⟨us7, hl7, H7⟩ := C
  have HJ := Holds.joinT (A := [.own w 1 (us7.map encV)]) (M := inL encI 1 us7 R) (H.ext hp) H7
  have hol := (List.getElem?_eq_some_iff.1 ho).1
  have hone := inL_ones (L1 := [.own w 1 (us7.map encV)]) (L2 := []) (by simpa using H7) hl7
  obtain ⟨v', h8, ha, H8, _⟩ := app_N HJ o (by rw [List.getElem?_append_left (by simp; omega), List.getElem?_append_left hol]; exact ho) (u := w) (ys := us7) (HJ.sees L1.length (by rw [List.getElem?_append_left (by simp), List.getElem?_append_right (Nat.le_refl _), Nat.sub_self]; rfl)) hone (by omega)
  refine ⟨us7, v', h8, ha, hl7, ?_⟩
  rw [List.set_append_left _ _ (by simp; omega), List.set_append_left _ _ hol] at H8
  have H9 := H8.cut.swap
  rw [inL_append hl, List.append_assoc]
  exact H9
theorem nodup_len {n : Nat} {B : List Int} (hnd : B.Nodup) (hin : inN n B) : B.length ≤ n := by
  rcases Nat.lt_or_ge n B.length with g | g
  · have := pigeon B (upTo (n + 1)) hnd (fun x hx => mem_upTo.2 (by have := hin x hx; omega)) (by rw [upTo_len]; omega) n (mem_upTo.2 (by omega))
    have := hin _ this
    omega
  · exact g
theorem in_snoc {n : Nat} {B : List Int} {i : Nat} (hin : inN n B) (hi : i < n) : inN n (B ++ [(i : Int)]) := fun x hx => by
  rcases List.mem_append.1 hx with g | g
  · exact hin x g
  · rw [List.mem_singleton.1 g]; omega
theorem nd_snoc {B : List Int} {x : Int} (hnd : B.Nodup) (hx : x ∉ B) : (B ++ [x]).Nodup := List.nodup_append.2 ⟨hnd, by simp, fun a ha c hc => by rw [List.mem_singleton.1 hc]; intro e; exact hx (e ▸ ha)⟩
def bdB (o : Int) (js : List Job) (val : Int) (B : List Int) : Bool := decide (val ≤ bdV o js B)
theorem l5Find_run {js : List Job} {o val : Int} (hg : goodL js = true) (hn : js.length ≤ 8) (ho : o = 2 ∨ o = 4) : ∀ {k : Nat} {h : Hp} {vj vb : Value} {B : List Int} {most : Int}, Jobs h vj js → Ints h vb B → B.length + k = js.length + 1 → inN js.length B → B.Nodup → 0 ≤ most → most ≤ 2 ^ 20 →
    RunsC P G n_spec_l5Find [vj, vb, .int .i64 o, .int .i64 val, .int .i64 most] h fun v h' => h <+: h' ∧ OwnN h h' v (findS (bdB o js val) js.length k B most)
  | 0, h, vj, vb, B, most, J, Bv, hk, hin, hnd, m0, m1 => by
    have := nodup_len hnd hin
    omega
  | k + 1, h, vj, vb, B, most, J, Bv, hk, hin, hnd, m0, m1 => by
    refine hideC fun K hK => enter_run e_spec_l5Find (by simp) ?_
    have Js := J
    have Bs := Bv
    obtain ⟨oj, cj, rfl⟩ := J.shapeT
    obtain ⟨ob, cb, rfl⟩ := Bv.shapeT
    have rb := l5Bound_run (o := o) Js Bs hg hn (by omega) hin ho
    rw [findS] at hK
    by_cases c1 : val ≤ bdV o js B
    · rw [if_pos (by simpa [bdB] using c1)] at hK
      simp -implicitDefEqProofs [CL_ret rb, c1]
      refine CL_post (l1Own_run Bs (by omega)) fun v1 h1 ⟨hp1, ho1⟩ => ?_
      have H1 := (Holds.start (h := h)).call hp1 ho1
      obtain ⟨a1, n1, c1, rfl⟩ : ∃ a n c, v1 = .slice a n c := by obtain ⟨a, c, e⟩ := ho1.sees.shapeT; exact ⟨_, _, _, e⟩
      have H2 : Holds h (h1 ++ [some ⟨[.slice a1 n1 c1], 1, false⟩]) ([] ++ [.own (.slice a1 n1 c1) 1 (B.map encI)] ++ [.own (.slice (some ⟨h1.length, 0, some 1⟩) 1 1) 1 (([.slice a1 n1 c1] : List Value).map encV)]) := by
        have := H1.lit (sz := 1) (n := 1) (els := [[Value.slice a1 n1 c1]]) (by simp) (by simp)
        simpa [encV] using this
      have H3 : Holds h (h1 ++ [some ⟨[.slice a1 n1 c1], 1, false⟩]) (.own (.slice (some ⟨h1.length, 0, some 1⟩) 1 1) 1 (([.slice a1 n1 c1] : List Value).map fun u => [u]) :: inL encI 1 [.slice a1 n1 c1] [B]) := H2.perm (List.Perm.swap _ _ _)
      simp -implicitDefEqProofs
      exact onK hK ⟨pre_gcU H3.pre, [.slice a1 n1 c1], rfl, H3.gcN rfl (by simp [plain])⟩
    · rw [if_neg (by simpa [bdB] using c1)] at hK
      have p9 : ∀ B' most', (findS (bdB o js val) js.length k B' most').length ≤ 9 ^ 8 := fun B' most' => Nat.le_trans (findS_len hn) (Nat.pow_le_pow_right (by omega) (by omega))
      have e9 : (9 : Nat) ^ 8 = 43046721 := by decide
      rw [e9] at p9
      generalize hX : (List.range' 0 js.length).foldl (stepS (fun i q => findS (bdB o js val) js.length k (B ++ [(i : Int)]) q) B most) [] = X at hK
      have H0 := own_nil (Holds.start (h := h)) Value encV 1
      simp -implicitDefEqProofs [CL_ret rb, c1]
      refine R_loopO (fun m st h' => ∃ (i : Nat) (u : Value) (us : List Value) (acc : List (List Int)), i + m = js.length ∧ st = [(0, .slice oj js.length cj), (1, .slice ob B.length cb), (2, .int .i64 o), (3, .int .i64 val), (4, .int .i64 most), (11, u), (12, .int .i64 i)] ∧ us.length = acc.length ∧ acc.length ≤ 2 ^ 30 ∧
        X = (List.range' i m).foldl (stepS (fun i q => findS (bdB o js val) js.length k (B ++ [(i : Int)]) q) B most) acc ∧ Holds h h' ([.own u 1 (us.map encV)] ++ (inL encI 1 us acc ++ []))) (fun I hI m st h' => ?_) (n := js.length)
        ⟨0, .slice none 0 0, [], [], Nat.zero_add _, by simp, rfl, by simp, hX.symm, H0⟩
      rintro ⟨i, u, us, acc, hi, rfl, hul, hal, hx, H⟩
      obtain ⟨ua, uc, rfl⟩ : ∃ a c, u = .slice a acc.length c := by obtain ⟨a, c, e⟩ := (H.sees 0 rfl).shapeT; exact ⟨a, c, by rw [e, hul]⟩
      have ret : X = acc → K (.slice ua acc.length uc) (gc h h' (.slice ua acc.length uc)) := fun e => by
        rw [List.append_nil] at H
        have G := Holds.gcN (u := .slice ua acc.length uc) H hul (fun h => h)
        exact onK hK ⟨G.pre, us, by rw [e]; exact hul, by rw [e]; exact G⟩
      by_cases hlt : i < js.length
      · by_cases c2 : (acc.length : Int) ≤ most
        · obtain ⟨m', rfl⟩ : ∃ m', m = m' + 1 := ⟨m - 1, by omega⟩
          rw [List.range'_succ, List.foldl_cons] at hx
          have rh := l1Has_run (x := (i : Int)) (Bs.pre H.pre) (by omega)
          have wi := winc hlt (show js.length ≤ 2 ^ 40 by omega)
          cases c3 : hasL (i : Int) B
          · have hni : (i : Int) ∉ B := fun g => by rw [hasL_iff'.2 g] at c3; cases c3
            have e : stepS (fun i q => findS (bdB o js val) js.length k (B ++ [(i : Int)]) q) B most acc i = acc ++ findS (bdB o js val) js.length k (B ++ [(i : Int)]) (most - acc.length) := by
              unfold stepS; rw [if_pos c2, show inP B i = false from c3]; rfl
            rw [e] at hx
            have wm : IntKind.i64.wrap (most - acc.length) = most - acc.length := by rw [wrap_ok] <;> omega
            simp -implicitDefEqProofs [hlt, c2, CL_ret rh, c3]
            refine CL_post (l1Own_run (Bs.pre H.pre) (by omega)) fun v5 h5 ⟨hp5, ho5⟩ => ?_
            have H5 : Holds h' h5 [.own v5 1 (B.map encI)] := (Holds.start (h := h')).call hp5 ho5
            obtain ⟨v6, h6, ha6, H6, k6, _⟩ := push_I0 H5 0 rfl (i : Int) (by omega)
            have H6' : Holds h' h6 [.own v6 1 ((B ++ [(i : Int)]).map encI)] := H6
            have ih := l5Find_run (val := val) hg hn ho (k := k) (most := most - acc.length) (Js.pre (H.pre.trans H6'.pre)) (H6'.sees 0 rfl) (by simp; omega) (in_snoc hin hlt) (nd_snoc hnd hni) (by omega) (by omega)
            simp -implicitDefEqProofs [ha6, wm]
            refine CL_post ih fun v7 h7 ⟨hp7, o7⟩ => ?_
            have l7 := p9 (B ++ [(i : Int)]) (most - acc.length)
            obtain ⟨us7, v8, h8, ha8, hl8, H8⟩ := app_lists hul H 0 rfl H6'.pre o7 (by omega)
            obtain ⟨s7, t7, rfl⟩ := o7.shape
            simp -implicitDefEqProofs [ha8, wi]
            exact ⟨m', by omega, on hI ⟨i + 1, v8, us ++ us7, _, by omega, rfl, by simp only [List.length_append]; omega, by simp only [List.length_append]; omega, hx, H8⟩⟩
          · have e : stepS (fun i q => findS (bdB o js val) js.length k (B ++ [(i : Int)]) q) B most acc i = acc := by
              unfold stepS; rw [if_pos c2, show inP B i = true from c3]; rfl
            rw [e] at hx
            simp -implicitDefEqProofs [hlt, c2, CL_ret rh, c3, wi]
            exact ⟨m', by omega, on hI ⟨i + 1, _, us, acc, by omega, rfl, hul, hal, hx, H⟩⟩
        · rw [stay (by omega)] at hx
          simp -implicitDefEqProofs [hlt, c2]
          exact ret hx
      · have hm : m = 0 := by omega
        subst hm
        rw [List.range'_zero, List.foldl_nil] at hx
        simp -implicitDefEqProofs [hlt]
        exact ret hx
end Go.Pm.PP

/- Cases: both. -/
set_option linter.unusedVariables false
set_option linter.unusedSimpArgs false
set_option maxRecDepth 4000
set_option maxHeartbeats 8000000
namespace Go.Pm.PP
open Go.Pm Go.Proofs Go.Pm.PE
theorem OwnN.base {b c h : Hp} {v : Value} {xss : List (List Int)} (hp : b <+: c) (o : OwnN c h v xss) : OwnN b h v xss := by
  obtain ⟨us, hl, H⟩ := o
  exact ⟨us, hl, ((Holds.start (h := b)).ext hp).join H⟩
def twoB (o : Int) : Bool := (o == 2) || (o == 4)
def okC (js : List Job) (o : Int) : Bool := (decide (js.length ≤ 8) && goodL js) && twoB o
def casA (o : Int) (js : List Job) : List (List Int) := casL (bdB o js (bestV o js)) js.length (js.length + 1) []
def casX (o : Int) (js : List Job) : Option (List (List Int)) := if okC js o = true then (if (casA o js).length ≤ 800 then some (casA o js) else none) else none
theorem l5Two_run {h : Hp} {vj : Value} {js : List Job} {o : Int} (J : Jobs h vj js) (hl : js.length ≤ 2 ^ 40) : Ret P G n_spec_l5Two [vj, .int .i64 o] h (.bool (okC js o)) h := by
  refine enter_run e_spec_l5Two (by simp) ?_
  have r := l2Good_run J hl
  cases c1 : (decide (js.length ≤ 8) && goodL js)
  · simp -implicitDefEqProofs [CL_ret r, c1, okC]
  · cases c2 : (o == 2)
    · simp -implicitDefEqProofs [CL_ret r, c1, okC, twoB, c2]
    · simp -implicitDefEqProofs [CL_ret r, c1, okC, twoB, c2]
theorem isSplitObjective_run {h : Hp} {o : Int} : Ret P G n_impl_isSplitObjective [.int .i64 o] h (.bool (twoB o)) h := by
  refine enter_run e_impl_isSplitObjective (by simp) ?_
  cases c2 : (o == 2) <;> simp -implicitDefEqProofs [twoB, c2]
theorem okC_facts {js : List Job} {o : Int} (h : okC js o = true) : js.length ≤ 8 ∧ goodL js = true ∧ (o = 2 ∨ o = 4) := by
  rw [okC, Bool.and_eq_true, Bool.and_eq_true, decide_eq_true_eq, twoB, Bool.or_eq_true, beq_iff_eq, beq_iff_eq] at h
  exact ⟨h.1.1, h.1.2, h.2⟩
theorem specFindCases_run {h : Hp} {vj : Value} {js : List Job} {o : Int} (J : Jobs h vj js) (hl : js.length ≤ 2 ^ 40) : RunsC P G n_spec_FindCases [vj, .int .i64 o] h fun v h' => h <+: h' ∧ retN (casX o js) v h h' := by
  refine hideC fun K hK => enter_run e_spec_FindCases (by simp) ?_
  have Js := J
  have r := l5Two_run (o := o) Js hl
  obtain ⟨oj, cj, rfl⟩ := J.shapeT
  cases c1 : okC js o
  · rw [casX, c1, if_neg (by simp)] at hK
    simp -implicitDefEqProofs [CL_ret r, c1]
    exact onK hK ⟨List.prefix_rfl, nilV, rfl, OwnN.nil List.prefix_rfl⟩
  · obtain ⟨hn, hg, ho⟩ := okC_facts c1
    rw [casX, c1, if_pos rfl] at hK
    simp -implicitDefEqProofs [CL_ret r, c1]
    refine CL_post (l2Best_run Js hg hn (by omega)) fun v1 h1 ⟨hp1, vo, ev⟩ => ?_
    subst ev
    have N0 : Ints h1 (.slice none 0 0) ([] : List Int) := ⟨by simp, none, 0, rfl, .inl ⟨rfl, rfl, rfl⟩⟩
    simp -implicitDefEqProofs
    refine CL_post (l5Find_run (val := bestV o js) hg hn ho (k := js.length + 1) (most := 800) (Js.pre hp1) N0 (by simp) (fun x hx => by cases hx) List.nodup_nil (by omega) (by omega)) fun v2 h2 ⟨hp2, o2⟩ => ?_
    obtain ⟨l1, l2⟩ := @findS_law (bdB o js (bestV o js)) js.length (js.length + 1) [] 800 (by omega)
    change (((casA o js).length : Int) ≤ 800 → _ = casA o js) at l1
    change ((800 : Int) < (casA o js).length → _) at l2
    obtain ⟨s2, t2, rfl⟩ := o2.shape
    by_cases c2 : (casA o js).length ≤ 800
    · rw [if_pos c2] at hK
      rw [l1 (by omega)] at o2 ⊢
      have c3 : ¬ (800 : Int) < (casA o js).length := by omega
      have c3' : ¬ 800 < (casA o js).length := by omega
      simp -implicitDefEqProofs [c3, c3']
      exact onK hK (retN.some (o2.base hp1))
    · rw [if_neg c2] at hK
      have l2' := l2 (by omega)
      generalize findS (bdB o js (bestV o js)) js.length (js.length + 1) [] 800 = R at l2'
      have c3' : 800 < R.length := by omega
      simp -implicitDefEqProofs [l2', c3']
      exact onK hK (retN.none (hp1.trans hp2))
end Go.Pm.PP

/- Cases: the program. -/
set_option linter.unusedVariables false
set_option linter.unusedSimpArgs false
set_option maxRecDepth 4000
set_option maxHeartbeats 8000000
namespace Go.Pm.PP
open Go.Pm Go.Proofs Go.Pm.PE
theorem rem_len' {n : Nat} {B : List Int} : (rem n B).length ≤ n := by
  unfold rem
  refine Nat.le_trans (List.length_filter_le _ _) ?_
  simp
theorem rem_mem {n : Nat} {B : List Int} {x : Int} (h : x ∈ rem n B) : (0 ≤ x ∧ x < n) ∧ x ∉ B := by
  unfold rem at h
  obtain ⟨h1, h2⟩ := List.mem_filter.1 h
  obtain ⟨i, hi, rfl⟩ := List.mem_map.1 h1
  have hi : i < n := by simpa [List.mem_range'_1] using hi
  refine ⟨by omega, fun g => ?_⟩
  have : hasL (i : Int) B = true := hasL_iff'.2 g
  rw [hasL] at this
  rw [this] at h2
  cases h2
def remT (i : Nat) (B : List Int) : List Int := ((List.range' 0 i).map fun i : Nat => (i : Int)).filter fun x => !B.any (· == x)
theorem remT_succ {i : Nat} {B : List Int} : remT (i + 1) B = if hasL (i : Int) B = true then remT i B else remT i B ++ [(i : Int)] := by
  have e : List.range' 0 (i + 1) = List.range' 0 i ++ [i] := by rw [List.range'_concat]; simp
  unfold remT
  rw [e, List.map_append, List.filter_append]
  cases c : hasL (i : Int) B
  · rw [hasL] at c
    simp [c]
  · rw [hasL] at c
    simp [c]
theorem others_run {h : Hp} {vp : Value} {B : List Int} {n : Nat} (hv : Ints h vp B) (hn : n ≤ 8) (hB : B.length ≤ 2 ^ 40) : RunsC P G n_impl_others [.int .i64 n, vp] h fun v h' => h <+: h' ∧ Own h.length h' v 1 ((rem n B).map encI) := by
  refine hideC fun K hK => enter_run e_impl_others (by simp) ?_
  have hvs := hv
  obtain ⟨oa, c, rfl⟩ := hv.shapeT
  have H0 := own_nil (Holds.start (h := h)) Int encI 1
  simp -implicitDefEqProofs
  refine R_loopO (fun m s h' => ∃ (i : Nat) (u : Value), i + m = n ∧ s = [(0, .int .i64 n), (1, .slice oa B.length c), (5, u), (6, .int .i64 i)] ∧ Holds h h' [.own u 1 ((remT i B).map encI)]) (fun I hI m s h' => ?_) (n := n) ⟨0, .slice none 0 0, Nat.zero_add _, by simp, by simpa [remT] using H0⟩
  rintro ⟨i, u, hi, rfl, H⟩
  by_cases hlt : i < n
  · have hlt' : (i : Int) < n := by omega
    have rh := has_run (x := (i : Int)) (hvs.pre H.pre) hB
    have e := @remT_succ i B
    cases c1 : hasL (i : Int) B
    · rw [c1, if_neg (by simp)] at e
      have hle : (remT i B).length ≤ i := rem_len' (n := i)
      obtain ⟨v', h2, ha, H2, _⟩ := push_I0 H 0 rfl (i : Int) (by omega)
      rw [← e] at H2
      simp -implicitDefEqProofs [hlt, hlt', CL_ret rh, c1, ha, winc hlt (by omega)]
      exact ⟨m - 1, by omega, on hI ⟨i + 1, v', by omega, rfl, H2⟩⟩
    · rw [c1, if_pos rfl] at e
      rw [← e] at H
      simp -implicitDefEqProofs [hlt, hlt', CL_ret rh, c1, winc hlt (by omega)]
      exact ⟨m - 1, by omega, on hI ⟨i + 1, u, by omega, rfl, H⟩⟩
  · have hlt' : ¬ (i : Int) < n := by omega
    have e : i = n := by omega
    subst e
    simp -implicitDefEqProofs [hlt, hlt']
    exact onK hK (H.ret 0 rfl)
/-- Lists of one's own that are returned, among others. -/
theorem Holds.gcL {hb h h' : Hp} {A L : List Asn} {u w : Value} {us : List Value} {xss : List (List Int)} (HL : Holds hb h (A ++ L)) (H' : Holds hb h' ([.own w 1 (us.map encV)] ++ (inL encI 1 us xss ++ L))) (hl : us.length = xss.length) (hu : plain u = true → plainC w = true) : Holds hb (gc h h' u) ([.own w 1 (us.map encV)] ++ (inL encI 1 us xss ++ L)) := by
  rcases gc_cases h h' u with g | ⟨hp, g⟩ <;> rw [g]
  · exact H'
  · have hw := hu hp
    have hus : us = [] := by
      have ho := H'.own 0 rfl
      rcases ho.2 with ⟨_, h2⟩ | ⟨_, _, _, _, _, h2, _⟩
      · simpa using h2
      · rw [h2] at hw; cases hw
    subst hus
    have hx : xss = [] := List.eq_nil_of_length_eq_zero (by simpa using hl.symm)
    subst hx
    have hw2 : w = nilV := by
      obtain ⟨a, c, e⟩ := (H'.sees 0 rfl).shape
      rw [e] at hw ⊢
      simp only [List.map_nil, List.length_nil] at hw ⊢
      match a, c, hw with
      | none, 0, _ => rfl
    subst hw2
    have H2 : Holds hb h L := Holds.weak (T := A) (HL.perm List.perm_append_comm)
    have H3 := own_nil H2 Value encV 1
    refine H3.perm ?_
    simp only [inL, List.nil_append]
    exact List.perm_append_comm
def frm (vc vp : Value) (us : List Value) (cs : List (List Int)) (B : List Int) (L : List Asn) : List Asn := [.own vc 1 (us.map encV)] ++ (inL encI 1 us cs ++ ([.own vp 1 (B.map encI)] ++ L))
def outc (hb h h' : Hp) (vc vp : Value) (us : List Value) (cs : List (List Int)) (B : List Int) : Option (List (List Int)) → Value → Prop
  | some cs', v => ∃ w us', v = .tuple #[w, .bool true] ∧ us'.length = cs'.length ∧ ∀ L, Holds hb h (frm vc vp us cs B L) → Holds hb h' ([.own w 1 (us'.map encV)] ++ (inL encI 1 us' cs' ++ L))
  | none, v => ∃ w, v = .tuple #[w, .bool false] ∧ ∀ L, Holds hb h (frm vc vp us cs B L) → Holds hb h' L
theorem frm_eq {vc vp : Value} {us : List Value} {cs : List (List Int)} {B : List Int} {L : List Asn} : frm vc vp us cs B L = ([.own vc 1 (us.map encV)] ++ (inL encI 1 us cs ++ [.own vp 1 (B.map encI)])) ++ L := by simp [frm]
theorem frm_vp {vc vp : Value} {us : List Value} {cs : List (List Int)} {B : List Int} {L : List Asn} : (frm vc vp us cs B L)[1 + (inL encI 1 us cs).length]? = some (.own vp 1 (B.map encI)) := by
  unfold frm
  rw [List.getElem?_append_right (by simp), List.length_singleton, Nat.add_sub_cancel_left, List.getElem?_append_right (Nat.le_refl _), Nat.sub_self]; rfl
theorem frm_at {vc vp : Value} {us : List Value} {cs : List (List Int)} {B : List Int} {L : List Asn} {A : Asn} : (frm vc vp us cs B ([A] ++ L))[1 + ((inL encI 1 us cs).length + 1)]? = some A := by
  unfold frm
  rw [List.getElem?_append_right (by simp), List.length_singleton, Nat.add_sub_cancel_left, List.getElem?_append_right (by omega), Nat.add_sub_cancel_left]; rfl
theorem plain2 {w : Value} {b : Bool} (h : plain (.tuple #[w, .bool b]) = true) : plainC w = true := by
  have : (#[w, .bool b] : Array Value).toList.all plainC = true := h
  simp only [List.all_cons, Bool.and_eq_true] at this
  exact this.1
theorem frm_weak {hb h : Hp} {vc vp : Value} {us : List Value} {cs : List (List Int)} {B : List Int} {L : List Asn} (H : Holds hb h (frm vc vp us cs B L)) : Holds hb h L := by
  unfold frm at H
  refine Holds.weak (T := [.own vc 1 (us.map encV)] ++ (inL encI 1 us cs ++ [.own vp 1 (B.map encI)])) (H.perm ?_)
  have e : [Asn.own vc 1 (us.map encV)] ++ (inL encI 1 us cs ++ ([.own vp 1 (B.map encI)] ++ L)) = ([Asn.own vc 1 (us.map encV)] ++ (inL encI 1 us cs ++ [.own vp 1 (B.map encI)])) ++ L := by simp
  rw [e]
  exact List.perm_append_comm
theorem findI_len {f : List Int → Bool} {n k : Nat} {B : List Int} {cs cs' : List (List Int)} (h : cs.length ≤ 800) (e : findI f n k B cs = some cs') : cs'.length ≤ 800 := by
  rw [findI_law h] at e
  split at e
  · rename_i g; cases e; exact g
  · cases e
theorem findCases_run {hb : Hp} {vj : Value} {js : List Job} {o val : Int} (J : Jobs hb vj js) (hg : goodL js = true) (hn : js.length ≤ 8) (ho : o = 2 ∨ o = 4) : ∀ {k : Nat} {h : Hp} {vc vp : Value} {us : List Value} {cs : List (List Int)} {B : List Int} {L0 : List Asn},
    Holds hb h (frm vc vp us cs B L0) → us.length = cs.length → cs.length ≤ 800 → B.length + k = js.length + 1 → inN js.length B → B.Nodup →
    RunsC P G n_impl_findCases [vj, .int .i64 o, .int .i64 val, vp, vc] h fun v h' => outc hb h h' vc vp us cs B (findI (bdB o js val) js.length k B cs) v
  | 0, h, vc, vp, us, cs, B, L0, H, hul, hcl, hk, hin, hnd => by
    have := nodup_len hnd hin
    omega
  | k + 1, h, vc, vp, us, cs, B, L0, H, hul, hcl, hk, hin, hnd => by
    refine hideC fun K hK => enter_run e_impl_findCases (by simp) ?_
    have Js := J
    obtain ⟨oj, cj, rfl⟩ := J.shapeT
    have Bs : Ints h vp B := H.sees (1 + (inL encI 1 us cs).length) (by
      unfold frm
      rw [List.getElem?_append_right (by simp), List.length_singleton, Nat.add_sub_cancel_left, List.getElem?_append_right (Nat.le_refl _), Nat.sub_self]; rfl)
    obtain ⟨ob, cb, rfl⟩ := Bs.shapeT
    have rb := prefixBound_run (o := o) (Js.pre H.pre) Bs hg hn (by omega) hin ho
    rw [findI] at hK
    by_cases c1 : val ≤ bdV o js B
    · rw [if_pos (by simpa [bdB] using c1)] at hK
      obtain ⟨ua, uc, rfl⟩ : ∃ a c, vc = .slice a cs.length c := by obtain ⟨a, c, e⟩ := (H.sees 0 (v := vc) (sz := 1) (els := us.map encV) rfl).shapeT; exact ⟨a, c, by rw [e, hul]⟩
      have push : ∀ L, Holds hb h (frm (.slice ua cs.length uc) (.slice ob B.length cb) us cs B L) → ∃ v' h', appendP P (h ++ [some ⟨[.slice ob B.length cb], 1, false⟩]) t_S_S_int (.slice ua cs.length uc) (.slice (some ⟨h.length, 0, some 1⟩) 1 1) = some (v', h') ∧
          Holds hb h' ([.own v' 1 ((us ++ [(.slice ob B.length cb : Value)]).map encV)] ++ (inL encI 1 (us ++ [(.slice ob B.length cb : Value)]) (cs ++ [B]) ++ L)) := fun L HL => by
        obtain ⟨v', h', ha, H', _⟩ := push_N0 HL 0 (v := .slice ua cs.length uc) (xs := us) rfl (.slice ob B.length cb) (by simp) (by omega)
        refine ⟨v', h', ha, ?_⟩
        rw [inL_snoc hul, List.append_assoc]
        exact H'
      obtain ⟨v', h', ha, H'⟩ := push L0 H
      have s' := H'.sees 0 (v := v') (sz := 1) (els := (us ++ [Value.slice ob B.length cb]).map encV) rfl
      obtain ⟨wa, wc, rfl⟩ : ∃ a c, v' = .slice a (cs.length + 1) c := by obtain ⟨a, c, e⟩ := s'.shapeT; exact ⟨a, c, by rw [e]; simp [hul]⟩
      by_cases c2 : cs.length < 800
      · have c2' : (cs.length : Int) < 800 := by omega
        rw [if_pos c2] at hK
        simp -implicitDefEqProofs [CL_ret rb, c1, ha, c2, c2']
        refine onK hK ⟨_, us ++ [(.slice ob B.length cb : Value)], rfl, by simp [hul], fun L HL => ?_⟩
        obtain ⟨v2, h2, ha2, H2⟩ := push L HL
        rw [ha] at ha2; cases ha2
        have HL2 : Holds hb h (([.own (.slice ua cs.length uc) 1 (us.map encV)] ++ (inL encI 1 us cs ++ [.own (.slice ob B.length cb) 1 (B.map encI)])) ++ L) := by
          unfold frm at HL; simpa [List.append_assoc] using HL
        exact Holds.gcL HL2 H2 (by simp [hul]) plain2
      · have c2' : ¬ (cs.length : Int) < 800 := by omega
        rw [if_neg c2] at hK
        simp -implicitDefEqProofs [CL_ret rb, c1, ha, c2, c2']
        refine onK hK ⟨_, rfl, fun L HL => ?_⟩
        obtain ⟨v2, h2, ha2, H2⟩ := push L HL
        rw [ha] at ha2; cases ha2
        refine (frm_weak HL).gcR (Holds.weak (T := [.own (.slice wa (cs.length + 1) wc) 1 ((us ++ [(.slice ob B.length cb : Value)]).map encV)] ++ inL encI 1 (us ++ [(.slice ob B.length cb : Value)]) (cs ++ [B])) (H2.perm ?_)) rfl
        rw [← List.append_assoc]
        exact List.perm_append_comm
    · rw [if_neg (by simpa [bdB] using c1)] at hK
      obtain ⟨R, hR⟩ : ∃ R, R = rem js.length B := ⟨_, rfl⟩
      have hrl := @rem_len' js.length B
      have hrm := fun x => @rem_mem js.length B x
      rw [← hR] at hK hrl
      simp only [← hR] at hrm
      generalize hF : R.foldl (fun (o' : Option (List (List Int))) x => o'.bind fun cs => findI (bdB o js val) js.length k (B ++ [x]) cs) (some cs) = F at hK
      simp -implicitDefEqProofs [CL_ret rb, c1]
      refine CL_post (others_run (n := js.length) Bs hn (by omega)) fun vo h1 ⟨hp1, oo1⟩ => ?_
      rw [← hR] at oo1
      obtain ⟨oo, oc, rfl⟩ := oo1.sees.shapeT
      have first : ∀ L, Holds hb h (frm vc (.slice ob B.length cb) us cs B L) → Holds hb h1 (frm vc (.slice ob B.length cb) us cs B ([.own (.slice oo R.length oc) 1 (R.map encI)] ++ L)) := fun L HL => by
        rw [frm_eq] at HL ⊢
        have := Holds.joinT (A := [.own (.slice oo R.length oc) 1 (R.map encI)]) (M := []) HL ((Holds.start (h := h)).call hp1 oo1)
        simpa [List.append_assoc] using this
      simp -implicitDefEqProofs
      refine R_loopO (fun m st h' => ∃ (i : Nat) (vck : Value) (usk : List Value) (csk : List (List Int)), i + m = R.length ∧ st = [(0, .slice oj js.length cj), (1, .int .i64 o), (2, .int .i64 val), (3, .slice ob B.length cb), (4, vck), (31, .slice oo R.length oc), (32, .int .i64 R.length), (33, .int .i64 i)] ∧
        usk.length = csk.length ∧ csk.length ≤ 800 ∧ F = (R.drop i).foldl (fun (o' : Option (List (List Int))) x => o'.bind fun cs => findI (bdB o js val) js.length k (B ++ [x]) cs) (some csk) ∧
        ∀ L, Holds hb h (frm vc (.slice ob B.length cb) us cs B L) → Holds hb h' (frm vck (.slice ob B.length cb) usk csk B ([.own (.slice oo R.length oc) 1 (R.map encI)] ++ L))) (fun I hI m st h' => ?_) (n := R.length)
        ⟨0, vc, us, cs, Nat.zero_add _, by simp, hul, hcl, hF.symm, first⟩
      rintro ⟨i, vck, usk, csk, hi, rfl, hul', hcl', hx, inv⟩
      have HA := inv L0 H
      by_cases hlt : i < R.length
      · have hlt' : (i : Int) < R.length := by omega
        obtain ⟨x, hxx, hd⟩ := drop_at hlt
        rw [hd, List.foldl_cons, Option.bind_some] at hx
        obtain ⟨⟨x0, x1⟩, hxB⟩ := hrm x (List.mem_of_getElem? hxx)
        obtain ⟨j, rfl⟩ : ∃ j : Nat, x = j := ⟨x.toNat, by omega⟩
        have lx := load_I (HA.sees _ (frm_at (A := .own (.slice oo R.length oc) 1 (R.map encI)))) hxx
        have Bk : Ints h' (.slice ob B.length cb) B := HA.sees _ frm_vp
        simp -implicitDefEqProofs [-indexAddrP_some, hlt, hlt', lx]
        refine CL_post (copyInts_run Bk (by omega)) fun v5 h5 ⟨hp5, ho5⟩ => ?_
        have H5 : Holds h' h5 [.own v5 1 (B.map encI)] := (Holds.start (h := h')).call hp5 ho5
        obtain ⟨v6, h6, ha6, H6, k6, _⟩ := push_I0 H5 0 rfl (j : Int) (by omega)
        have H6' : Holds h' h6 [.own v6 1 ((B ++ [(j : Int)]).map encI)] := H6
        have fr6 : ∀ L, Holds hb h' (frm vck (.slice ob B.length cb) usk csk B ([.own (.slice oo R.length oc) 1 (R.map encI)] ++ L)) → Holds hb h6 (frm vck v6 usk csk (B ++ [(j : Int)]) ([.own (.slice ob B.length cb) 1 (B.map encI)] ++ ([.own (.slice oo R.length oc) 1 (R.map encI)] ++ L))) := fun L HL => by
          have HL2 : Holds hb h' (([.own vck 1 (usk.map encV)] ++ inL encI 1 usk csk) ++ ([.own (.slice ob B.length cb) 1 (B.map encI)] ++ ([.own (.slice oo R.length oc) 1 (R.map encI)] ++ L))) := by
            unfold frm at HL; simpa [List.append_assoc] using HL
          have := Holds.joinT (A := [.own v6 1 ((B ++ [(j : Int)]).map encI)]) (M := []) HL2 H6'
          unfold frm
          simpa [List.append_assoc] using this
        have ih := findCases_run (val := val) J hg hn ho (k := k) (fr6 L0 HA) hul' hcl' (by simp; omega) (in_snoc hin (by omega)) (nd_snoc hnd hxB)
        simp -implicitDefEqProofs [ha6]
        refine CL_post ih fun v h7 O7 => ?_
        cases hf : findI (bdB o js val) js.length k (B ++ [(j : Int)]) csk with
        | none =>
          rw [hf] at O7 hx
          have none_stay : ∀ l : List Int, l.foldl (fun (o' : Option (List (List Int))) x => o'.bind fun cs => findI (bdB o js val) js.length k (B ++ [x]) cs) none = none := fun l => by
            induction l with
            | nil => rfl
            | cons x l ih => rw [List.foldl_cons]; exact ih
          rw [none_stay] at hx
          rw [hx] at hK
          obtain ⟨w, ev, F7⟩ := O7
          subst ev
          simp -implicitDefEqProofs
          refine onK hK ⟨nilV, rfl, fun L HL => ?_⟩
          have := F7 _ (fr6 L (inv L HL))
          refine (frm_weak HL).gcR (Holds.weak (T := [.own (.slice ob B.length cb) 1 (B.map encI)] ++ [.own (.slice oo R.length oc) 1 (R.map encI)]) (this.perm ?_)) rfl
          rw [← List.append_assoc]
          exact List.perm_append_comm
        | some cs' =>
          rw [hf] at O7 hx
          obtain ⟨w, us', ev, hl', F7⟩ := O7
          subst ev
          simp -implicitDefEqProofs [winc hlt (show R.length ≤ 2 ^ 40 by omega)]
          exact ⟨m - 1, by omega, on hI ⟨i + 1, w, us', cs', by omega, rfl, hl', findI_len hcl' hf, hx, fun L HL => F7 _ (fr6 L (inv L HL))⟩⟩
      · have hlt' : ¬ (i : Int) < R.length := by omega
        rw [List.drop_eq_nil_of_le (by omega), List.foldl_nil] at hx
        rw [hx] at hK
        simp -implicitDefEqProofs [hlt, hlt']
        refine onK hK ⟨vck, usk, rfl, hul', fun L HL => ?_⟩
        have h1 := inv L HL
        rw [frm_eq] at HL
        refine Holds.gcL HL ?_ hul' plain2
        have h2 : Holds hb h' ((([.own vck 1 (usk.map encV)] ++ inL encI 1 usk csk) ++ ([.own (.slice ob B.length cb) 1 (B.map encI)] ++ [.own (.slice oo R.length oc) 1 (R.map encI)])) ++ L) := by
          unfold frm at h1; simpa [List.append_assoc] using h1
        rw [← List.append_assoc]
        exact h2.cut
end Go.Pm.PP

/- Cases: the program's function, and how long what it returns is. -/
set_option linter.unusedVariables false
set_option linter.unusedSimpArgs false
set_option maxRecDepth 4000
set_option maxHeartbeats 8000000
namespace Go.Pm.PP
open Go.Pm Go.Proofs Go.Pm.PE
theorem FindCases_run {h : Hp} {vj : Value} {js : List Job} {o : Int} (J : Jobs h vj js) (hl : js.length ≤ 2 ^ 40) : RunsC P G n_impl_FindCases [vj, .int .i64 o] h fun v h' => h <+: h' ∧ retN (casX o js) v h h' := by
  refine hideC fun K hK => enter_run e_impl_FindCases (by simp) ?_
  have Js := J
  have r := IsJobs_run Js hl
  have r2 := fun h : Hp => isSplitObjective_run (h := h) (o := o)
  obtain ⟨oj, cj, rfl⟩ := J.shapeT
  have bad : okC js o = false → K (.tuple #[.slice none 0 0, .bool false]) h := fun e => by
    rw [casX, e, if_neg (by simp)] at hK
    exact onK hK ⟨List.prefix_rfl, nilV, rfl, OwnN.nil List.prefix_rfl⟩
  cases c0 : (decide (js.length ≤ 8) && goodL js)
  · simp -implicitDefEqProofs [CL_ret r, CH_at r, c0]
    exact bad (by rw [okC, c0, Bool.false_and])
  · cases c1 : twoB o
    · simp -implicitDefEqProofs [CL_ret r, CH_at r, c0, CL_ret (r2 _), CH_at (r2 _), c1]
      exact bad (by rw [okC, c1, Bool.and_false])
    · have c2 : okC js o = true := by rw [okC, c0, c1]; rfl
      obtain ⟨hn, hg, ho⟩ := okC_facts c2
      rw [casX, c2, if_pos rfl] at hK
      simp -implicitDefEqProofs [CL_ret r, CH_at r, c0, CL_ret (r2 _), CH_at (r2 _), c1]
      refine CL_post (best_run Js hg hn (by omega)) fun v1 h1 ⟨hp1, vf, cc, ev⟩ => ?_
      subst ev
      have E0 : Holds h1 h1 (frm nilV nilV [] [] [] []) := own_nil (own_nil (Holds.start (h := h1)) Value encV 1) Int encI 1
      simp -implicitDefEqProofs
      refine CL_post (findCases_run (val := bestV o js) (Js.pre hp1) hg hn ho (k := js.length + 1) E0 rfl (by simp) (by simp) (fun x hx => by cases hx) List.nodup_nil) fun v2 h2 O2 => ?_
      rw [findI_law (by simp), List.nil_append] at O2
      change outc h1 h1 h2 nilV nilV [] [] [] (if (casA o js).length ≤ 800 then some (casA o js) else none) v2 at O2
      by_cases c3 : (casA o js).length ≤ 800
      · rw [if_pos c3] at O2 hK
        obtain ⟨w, us', ev, hl', F⟩ := O2
        subst ev
        have F0 := F [] E0
        rw [List.append_nil] at F0
        have o2 : OwnN h1 h2 w (casA o js) := ⟨us', hl', F0⟩
        simp -implicitDefEqProofs
        exact onK hK (retN.some (o2.base hp1))
      · rw [if_neg c3] at O2 hK
        obtain ⟨w, ev, F⟩ := O2
        subst ev
        have F0 := F [] E0
        simp -implicitDefEqProofs
        exact onK hK (retN.none (hp1.trans F0.pre))
theorem casL_mem {f : List Int → Bool} {n : Nat} : ∀ {k : Nat} {B x : List Int}, x ∈ casL f n k B → x.length ≤ B.length + k
  | 0, B, x, h => by
    rw [casL] at h
    split at h
    · rw [List.mem_singleton.1 h]; omega
    · cases h
  | k + 1, B, x, h => by
    rw [casL] at h
    split at h
    · rw [List.mem_singleton.1 h]; omega
    · obtain ⟨y, _, hx⟩ := List.mem_flatMap.1 h
      have := casL_mem hx
      rw [List.length_append, List.length_singleton] at this
      omega
theorem tot_le {c : Nat} : ∀ {xss : List (List Int)}, (∀ x ∈ xss, x.length ≤ c) → tot xss ≤ xss.length * c
  | [], _ => by simp [tot]
  | x :: xss, h => by
    have h1 := h x (List.mem_cons_self ..)
    have h2 := tot_le fun y hy => h y (List.mem_cons_of_mem _ hy)
    rw [tot, List.length_cons, Nat.add_mul]; omega
theorem casX_len {o : Int} {js : List Job} : ((casX o js).getD []).length ≤ 2 ^ 40 ∧ tot ((casX o js).getD []) ≤ 2 ^ 40 := by
  unfold casX
  split
  · rename_i c2
    obtain ⟨hn, _, _⟩ := okC_facts c2
    split
    · rename_i c3
      have h1 : ∀ x ∈ casA o js, x.length ≤ 9 := fun x hx => by
        have := casL_mem hx
        rw [List.length_nil] at this; omega
      have := tot_le h1
      simp only [Option.getD_some]
      omega
    · simp [tot]
  · simp [tot]
end Go.Pm.PP

/- Lists of lists of one's own: the order in which they are told; marks that are held. -/
set_option linter.unusedVariables false
set_option linter.unusedSimpArgs false
set_option maxHeartbeats 1000000
namespace Go.Pm
theorem Holds.swap2 {h0 h : Hp} {L A B C D : List Asn} (H : Holds h0 h (L ++ (A ++ (B ++ (C ++ D))))) : Holds h0 h (L ++ (C ++ (A ++ (B ++ D)))) := by
  refine H.perm (List.Perm.append_left L ?_)
  have h1 : (A ++ (B ++ (C ++ D))).Perm (A ++ (C ++ (B ++ D))) := by
    refine List.Perm.append_left A ?_
    rw [← List.append_assoc, ← List.append_assoc]
    exact List.Perm.append_right D List.perm_append_comm
  refine h1.trans ?_
  rw [← List.append_assoc, ← List.append_assoc C]
  exact List.Perm.append_right _ List.perm_append_comm
theorem Holds.swap3 {h0 h : Hp} {L A B C D E : List Asn} (H : Holds h0 h (L ++ (A ++ (B ++ (C ++ (D ++ E)))))) : Holds h0 h (L ++ (D ++ (A ++ (B ++ (C ++ E))))) := by
  have h1 : Holds h0 h ((L ++ A) ++ (B ++ (C ++ (D ++ E)))) := by rw [List.append_assoc]; exact H
  have h2 := h1.swap2
  rw [List.append_assoc] at h2
  exact h2.swap
end Go.Pm
namespace Go.Pm.PP
open Go.Pm Go.Proofs
theorem heldIntSS_run {h : Hp} {v : Value} {us : List Value} {xss : List (List Int)} {k : Int} (hv : Nest h v encI 1 (marksN mkI 1 k xss) us) (hn : xss.length ≤ 2 ^ 40) (ht : tot xss ≤ 2 ^ 40) (h1 : 0 ≤ k) (h2 : k ≤ 2 ^ 40) :
    Ret P G n_laws_heldIntSS [v, .int .i64 k] h (.int .i64 (k + (tot xss : Int))) h := by
  refine enter_run e_laws_heldIntSS (by simp) ?_
  have hvs := hv
  obtain ⟨oa, c, ev⟩ := hv.shape
  rw [marksN_len] at ev
  subst ev
  simp -implicitDefEqProofs
  refine R_loopO (fun m s h' => ∃ (j : Nat), j + m = xss.length ∧ s = [(0, .slice oa xss.length c), (1, .int .i64 (k + (tot (xss.take j) : Int))), (5, .int .i64 j)] ∧ h' = h) (fun I hI m s h' => ?_) ⟨0, Nat.zero_add _, by simp [tot], rfl⟩
  rintro ⟨j, hj, rfl, rfl⟩
  by_cases hlt : j < xss.length
  · obtain ⟨y, hy, hd⟩ := drop_at hlt
    have hg := marksN_get (mk := mkI) (n := 1) (k := k) hy
    obtain ⟨a, ha, ho⟩ := hvs.at hg
    have tt := tot_take_succ hy
    have tl := tot_take_le (xss := xss) (i := j + 1)
    rw [show k + ((1 : Nat) : Int) * (tot (xss.take j) : Int) = k + (tot (xss.take j) : Int) by rw [Int.natCast_one, Int.one_mul]] at ho
    have e := heldIntS_run (n := y.length) ho (Nat.le_trans (tot_mem (List.mem_of_getElem? hy)) ht) (by omega) (by omega)
    have hnn : ¬ (k + (tot (xss.take j) : Int) + (y.length : Int) < 0) := by omega
    simp -implicitDefEqProofs [-indexAddrP_some, hlt, hvs.load (P := P) u_S_S_int i_S_int a_S_int ha, CL_ret e, hnn, winc hlt hn]
    exact ⟨m - 1, by omega, on hI ⟨j + 1, by omega, by rw [tt, Int.natCast_add, ← Int.add_assoc]; rfl, rfl⟩⟩
  · rw [List.take_of_length_le (by omega)]
    simp -implicitDefEqProofs [hlt]
end Go.Pm.PP
