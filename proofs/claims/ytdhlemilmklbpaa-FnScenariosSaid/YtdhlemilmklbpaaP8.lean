/- The texts PoK, PoZ, PoQ, PoR, PoS, PoT, PoU, PoM2, PoO of this work: A code of bytes as an argument, opened as a row. -/
import Derived.ProofKit
import Derived.OpenShut
import Derived.Carry
import Derived.Test.YtdhlemilmklbpaaP7
import Derived.Test.YtdhlemilmklbpaaM4
/- A code of bytes as an argument, opened as a row. -/
set_option linter.unusedVariables false
set_option linter.unusedSimpArgs false
set_option maxRecDepth 4000
namespace Go.Pm
open Go.ChangeShapes Go.WideShapes
section
variable {P : Program} {H : Type} {enc : TypeId × Value → H} {w : World} {base : Nat} {held : Bool}
theorem flat_encU (xs : List Int) : (xs.map PP.encU).flatten = xs.map fun x => .int .u8 x := by
  induction xs with
  | nil => rfl
  | cons x xs ih => rw [List.map_cons, List.flatten_cons, ih]; rfl
/-- A slice of bytes. -/
theorem shows_bytes {t e : TypeId} {fuel : Nat} {v : Value} {x : DataW H × List MemPlace} (ht : P.underlying t = some (.slice e)) (he : P.underlying e = some (.int .u8)) (hc : P.cellsOf e = 1)
    (hd : DataW.trod enc P w base (fun _ => true) held fuel t [v] = some x) : ∃ xs : List Int, xs.length ≤ maxLen ∧ (∀ b, b ∈ xs → (Lit.int .u8 b).wf = true) ∧ ∀ (ρ : Mp) (h : Hp), Shows ρ h w 1 (xs.map PP.encU) v := by
  rcases open_ints ht he hc hd with ⟨h1, _⟩ | ⟨a, len, cap, zs, h1, _, hl, hm, hz, _, hcell, hwf⟩
  · cases h1
    exact ⟨[], by simp, by simp, fun ρ h => .inl ⟨rfl, rfl⟩⟩
  · cases h1
    simp only [if_true] at hz
    have hlen : (zs.take len).length = len := by rw [List.length_take]; omega
    refine ⟨zs.take len, by omega, fun b hb => hwf b (List.mem_of_mem_take hb), fun ρ h => .inr ⟨a, cap, by rw [List.length_map, hlen], by rw [List.length_map, hlen]; exact hl, ?_, fun k c hk => ?_⟩⟩
    · rcases Nat.eq_zero_or_pos cap with h0 | h0
      · exact .inl h0
      · right
        have := hcell 0 (by omega)
        unfold World.cell? at this
        simp only [Addr.add, if_true] at this
        cases hs : a.spot with
        | none => rfl
        | some s =>
          rw [hs] at this
          split at this <;> simp at this
    · rw [flat_encU, List.getElem?_map] at hk
      obtain ⟨z, hz2, rfl⟩ := Option.map_eq_some_iff.1 hk
      have hk1 := (List.getElem?_eq_some_iff.1 hz2).1
      rw [List.getElem?_take, if_pos (by omega)] at hz2
      refine ⟨_, hcell k (by omega), ?_⟩
      rw [List.getD_eq_getElem?_getD, hz2]
      exact .int _ _
end
end Go.Pm
namespace Go.Pm.PP
open Go.Pm Go.Proofs
theorem follows : P.follows .mixedOrders = true := by kernel_rfl
theorem cells_u8 : P.cellsOf t_u8 = 1 := by kernel_rfl
theorem byte_of {b : Int} (h : (Lit.int .u8 b).wf = true) : 0 ≤ b ∧ b ≤ 255 := by
  simp [Lit.wf, IntKind.min, IntKind.max, IntKind.signed, IntKind.bits] at h
  omega
section
variable {H : Type} {enc : TypeId × Value → H} {W : World} {ρ : Mp} {h : Hp} {v : Value} {n0 : Nat} {x0 : DataW H × List MemPlace}
theorem open_bytes (R : Rel ρ h W) (ha : AllRo h) (d0 : DataW.trod enc P W 0 (fun _ => true) true n0 t_S_u8 [v] = some x0) :
    ∃ (h2 : Hp) (ρ2 : Mp) (p : Value) (xs : List Int), h <+: h2 ∧ Rel ρ2 h2 W ∧ AllRo h2 ∧ Step ρ h ρ2 h2 ∧ VR ρ2 h2 p v ∧ Sees h2 p 1 (xs.map encU) ∧ ∀ b, b ∈ xs → 0 ≤ b ∧ b ≤ 255 := by
  obtain ⟨xs, l0, hw, s0⟩ := shows_bytes (P := P) (v := v) u_S_u8 u_u8 cells_u8 d0
  obtain ⟨h2, ρ2, p, q, R2, a2, t, r, N⟩ := add_slice (w := W) (len_U xs) R ha (s0 ρ h)
  exact ⟨h2, ρ2, p, xs, q, R2, a2, t, r, N, fun b hb => byte_of (hw b hb)⟩
end
end Go.Pm.PP

/- Scenarios: values and regrets, by both. -/
set_option linter.unusedVariables false
set_option linter.unusedSimpArgs false
set_option maxRecDepth 4000
set_option maxHeartbeats 8000000
namespace Go.Pm.PP
open Go.Pm Go.Proofs Go.Pm.PE
theorem fold_bd {f : List Int → Int} {B : Int} {upd : Sr → List Int → Sr} (hu : ∀ b xs, (upd b xs).v = f xs ∨ (upd b xs).v = b.v) : ∀ {l : List (List Int)} {b : Sr}, (∀ xs, xs ∈ l → -B ≤ f xs ∧ f xs ≤ B) → -B ≤ b.v → b.v ≤ B → -B ≤ (l.foldl upd b).v ∧ (l.foldl upd b).v ≤ B
  | [], b, _, h1, h2 => ⟨h1, h2⟩
  | x :: l, b, h, h1, h2 => by
    have hx := h x (List.mem_cons_self ..)
    refine fold_bd hu (l := l) (fun y hy => h y (List.mem_cons_of_mem _ hy)) ?_ ?_ <;> rcases hu b x with g | g <;> rw [g] <;> omega
theorem bestV_bd {o : Int} {js : List Job} (hg : goodL js = true) (hn : js.length ≤ 8) : -(2 ^ 30) ≤ bestV o js ∧ bestV o js ≤ 2 ^ 30 := by
  refine fold_bd (f := valX o js) (fun b xs => ?_) (fun xs hx => valX_bd hg hn (ords_ord hx)) (by simp [sr0]) (by simp [sr0])
  unfold updS
  split
  · exact .inl rfl
  · split
    · exact .inr rfl
    · exact .inr rfl
/-! ### scenarios -/
structure Sc (h : Hp) (v : Value) (xss : List (List Job)) (n : Nat) : Prop where
  N : ∃ vs, Nest h v encJ 4 xss vs
  g : ∀ js, js ∈ xss → goodL js = true ∧ js.length = n
  n8 : n ≤ 8
  l1 : 1 ≤ xss.length
  l4 : xss.length ≤ 4
theorem Sc.pre {h h' : Hp} {v : Value} {xss : List (List Job)} {n : Nat} (S : Sc h v xss n) (hp : h <+: h') : Sc h' v xss n := ⟨by obtain ⟨vs, N⟩ := S.N; exact ⟨vs, N.pre hp⟩, S.g, S.n8, S.l1, S.l4⟩
theorem Sc.at {h : Hp} {v : Value} {xss : List (List Job)} {n i : Nat} {js : List Job} (S : Sc h v xss n) (hx : xss[i]? = some js) :
    ∃ u, (indexAddrP P h t_S_S_impl_Job v (.int .i64 i) = some (.pointer (some (addP (base v) i))) ∧ loadP P h t_S_impl_Job (.pointer (some (addP (base v) i))) = some u) ∧ Jobs h u js := by
  obtain ⟨vs, N⟩ := S.N
  obtain ⟨u, hu, ho⟩ := N.at hx
  have := load_NJ N.out hu
  exact ⟨u, ⟨this.1, this.2⟩, ho⟩
theorem Sc.first {h : Hp} {v : Value} {xss : List (List Job)} {n : Nat} (S : Sc h v xss n) :
    ∃ a c, indexAddrP P h t_S_S_impl_Job v (.int .i64 0) = some (.pointer (some (addP (base v) 0))) ∧ loadP P h t_S_impl_Job (.pointer (some (addP (base v) 0))) = some (.slice a n c) := by
  obtain ⟨js, hj, _⟩ := drop_at (show 0 < xss.length from S.l1)
  obtain ⟨u, ⟨h1, h2⟩, ho⟩ := S.at hj
  obtain ⟨a, c, rfl⟩ := ho.shapeT
  rw [(S.g js (List.mem_of_getElem? hj)).2] at h2
  exact ⟨a, c, h1, h2⟩
theorem Sc.shape {h : Hp} {v : Value} {xss : List (List Job)} {n : Nat} (S : Sc h v xss n) : ∃ a c, v = .slice a xss.length c := by obtain ⟨vs, N⟩ := S.N; exact N.shape
def valsL (o : Int) (xss : List (List Job)) (xs : List Int) : List Int := xss.map fun js => valX o js xs
def bestsL (o : Int) (xss : List (List Job)) : List Int := xss.map (bestV o)
section
variable {h : Hp} {vl vo : Value} {xss : List (List Job)} {xs : List Int} {n : Nat} {o : Int}
theorem l11Values_run (S : Sc h vl xss n) (hu : Ints h vo xs) (hx : Ord n xs) (ho : 1 ≤ o ∧ o ≤ 8) : RunsC P G n_spec_l11Values [vl, vo, .int .i64 o] h fun v h' => h <+: h' ∧ Own h.length h' v 1 ((valsL o xss xs).map encI) := by
  refine hideC fun K hK => enter_run e_spec_l11Values (by simp) ?_
  have Ss := S
  have hus := hu
  obtain ⟨ol, cl, rfl⟩ := S.shape
  obtain ⟨oa, c, rfl⟩ := hu.shapeT
  have l4 := S.l4
  have H0 := own_nil (Holds.start (h := h)) Int encI 1
  simp -implicitDefEqProofs
  refine R_loopO (fun m s h' => ∃ (i : Nat) (u : Value), i + m = xss.length ∧ s = [(0, .slice ol xss.length cl), (1, .slice oa xs.length c), (2, .int .i64 o), (7, u), (8, .int .i64 i)] ∧ Holds h h' [.own u 1 ((valsL o (xss.take i) xs).map encI)]) (fun I hI m s h' => ?_) (n := xss.length) ⟨0, .slice none 0 0, Nat.zero_add _, by simp, by simpa [valsL] using H0⟩
  rintro ⟨i, u, hi, rfl, H⟩
  by_cases hlt : i < xss.length
  · obtain ⟨js, hj, _⟩ := drop_at hlt
    obtain ⟨uj, lj, Jj⟩ := (Ss.pre H.pre).at hj
    have gj := Ss.g js (List.mem_of_getElem? hj)
    have rv := l2Value_run (o := o) Jj (hus.pre H.pre) gj.1 (by rw [gj.2]; exact Ss.n8) ho (by rw [gj.2]; exact hx)
    obtain ⟨v', h2, ha, H2, _⟩ := push_I0 H 0 rfl (valX o js xs) (by simp [valsL]; omega)
    simp -implicitDefEqProofs [-indexAddrP_some, hlt, lj, CL_ret rv, ha, winc hlt (by omega)]
    refine ⟨m - 1, by omega, on hI ⟨i + 1, v', by omega, rfl, ?_⟩⟩
    have e : valsL o (xss.take (i + 1)) xs = valsL o (xss.take i) xs ++ [valX o js xs] := by unfold valsL; rw [take_succ' hj, List.map_append]; rfl
    rw [e]; exact H2
  · rw [List.take_of_length_le (by omega)] at H
    simp -implicitDefEqProofs [hlt]
    exact onK hK (H.ret 0 rfl)
theorem scenarioValues_run (S : Sc h vl xss n) (hu : Ints h vo xs) (hx : Ord n xs) (ho : 1 ≤ o ∧ o ≤ 8) : RunsC P G n_impl_scenarioValues [vl, vo, .int .i64 o] h fun v h' => h <+: h' ∧ Own h.length h' v 1 ((valsL o xss xs).map encI) := by
  refine hideC fun K hK => enter_run e_impl_scenarioValues (by simp) ?_
  have Ss := S
  have hus := hu
  obtain ⟨ol, cl, rfl⟩ := S.shape
  obtain ⟨oa, c, rfl⟩ := hu.shapeT
  have l4 := S.l4
  have H0 := own_nil (Holds.start (h := h)) Int encI 1
  simp -implicitDefEqProofs
  refine R_loopO (fun m s h' => ∃ (i : Nat) (u : Value), i + m = xss.length ∧ s = [(1, .slice oa xs.length c), (2, .int .i64 o), (7, u), (10, .slice ol xss.length cl), (11, .int .i64 xss.length), (12, .int .i64 i)] ∧ Holds h h' [.own u 1 ((valsL o (xss.take i) xs).map encI)]) (fun I hI m s h' => ?_) (n := xss.length) ⟨0, .slice none 0 0, Nat.zero_add _, by simp, by simpa [valsL] using H0⟩
  rintro ⟨i, u, hi, rfl, H⟩
  by_cases hlt : i < xss.length
  · obtain ⟨js, hj, _⟩ := drop_at hlt
    obtain ⟨uj, lj, Jj⟩ := (Ss.pre H.pre).at hj
    have gj := Ss.g js (List.mem_of_getElem? hj)
    have rv := valueOf_run (o := o) Jj (hus.pre H.pre) gj.1 (by rw [gj.2]; exact Ss.n8) ho (by rw [gj.2]; exact hx)
    obtain ⟨v', h2, ha, H2, _⟩ := push_I0 H 0 rfl (valX o js xs) (by simp [valsL]; omega)
    simp -implicitDefEqProofs [-indexAddrP_some, hlt, lj, CL_ret rv, ha, winc hlt (by omega)]
    refine ⟨m - 1, by omega, on hI ⟨i + 1, v', by omega, rfl, ?_⟩⟩
    have e : valsL o (xss.take (i + 1)) xs = valsL o (xss.take i) xs ++ [valX o js xs] := by unfold valsL; rw [take_succ' hj, List.map_append]; rfl
    rw [e]; exact H2
  · rw [List.take_of_length_le (by omega)] at H
    simp -implicitDefEqProofs [hlt]
    exact onK hK (H.ret 0 rfl)
theorem l11Bests_run (S : Sc h vl xss n) (ho : 1 ≤ o ∧ o ≤ 8) : RunsC P G n_spec_l11Bests [vl, .int .i64 o] h fun v h' => h <+: h' ∧ Own h.length h' v 1 ((bestsL o xss).map encI) := by
  refine hideC fun K hK => enter_run e_spec_l11Bests (by simp) ?_
  have Ss := S
  obtain ⟨ol, cl, rfl⟩ := S.shape
  have l4 := S.l4
  have H0 := own_nil (Holds.start (h := h)) Int encI 1
  simp -implicitDefEqProofs
  refine R_loopO (fun m s h' => ∃ (i : Nat) (u : Value), i + m = xss.length ∧ s = [(0, .slice ol xss.length cl), (1, .int .i64 o), (5, u), (6, .int .i64 i)] ∧ Holds h h' [.own u 1 ((bestsL o (xss.take i)).map encI)]) (fun I hI m s h' => ?_) (n := xss.length) ⟨0, .slice none 0 0, Nat.zero_add _, by simp, by simpa [bestsL] using H0⟩
  rintro ⟨i, u, hi, rfl, H⟩
  by_cases hlt : i < xss.length
  · obtain ⟨js, hj, _⟩ := drop_at hlt
    obtain ⟨uj, lj, Jj⟩ := (Ss.pre H.pre).at hj
    have gj := Ss.g js (List.mem_of_getElem? hj)
    simp -implicitDefEqProofs [-indexAddrP_some, hlt, lj]
    refine CL_post (l2Best_run (o := o) Jj gj.1 (by rw [gj.2]; exact Ss.n8) ho) fun v h1 ⟨hp1, vo, ev, _⟩ => ?_
    subst ev
    obtain ⟨v', h2, ha, H2, _⟩ := push_I0 (H.ext hp1) 0 rfl (bestV o js) (by simp [bestsL]; omega)
    simp -implicitDefEqProofs [ha, winc hlt (by omega)]
    refine ⟨m - 1, by omega, on hI ⟨i + 1, v', by omega, rfl, ?_⟩⟩
    have e : bestsL o (xss.take (i + 1)) = bestsL o (xss.take i) ++ [bestV o js] := by unfold bestsL; rw [take_succ' hj, List.map_append]; rfl
    rw [e]; exact H2
  · rw [List.take_of_length_le (by omega)] at H
    simp -implicitDefEqProofs [hlt]
    exact onK hK (H.ret 0 rfl)
theorem bestValues_run (S : Sc h vl xss n) (ho : 1 ≤ o ∧ o ≤ 8) : RunsC P G n_impl_bestValues [vl, .int .i64 o] h fun v h' => h <+: h' ∧ Own h.length h' v 1 ((bestsL o xss).map encI) := by
  refine hideC fun K hK => enter_run e_impl_bestValues (by simp) ?_
  have Ss := S
  obtain ⟨ol, cl, rfl⟩ := S.shape
  have l4 := S.l4
  have H0 := own_nil (Holds.start (h := h)) Int encI 1
  simp -implicitDefEqProofs
  refine R_loopO (fun m s h' => ∃ (i : Nat) (u : Value), i + m = xss.length ∧ s = [(1, .int .i64 o), (5, u), (11, .slice ol xss.length cl), (12, .int .i64 xss.length), (13, .int .i64 i)] ∧ Holds h h' [.own u 1 ((bestsL o (xss.take i)).map encI)]) (fun I hI m s h' => ?_) (n := xss.length) ⟨0, .slice none 0 0, Nat.zero_add _, by simp, by simpa [bestsL] using H0⟩
  rintro ⟨i, u, hi, rfl, H⟩
  by_cases hlt : i < xss.length
  · obtain ⟨js, hj, _⟩ := drop_at hlt
    obtain ⟨uj, lj, Jj⟩ := (Ss.pre H.pre).at hj
    have gj := Ss.g js (List.mem_of_getElem? hj)
    simp -implicitDefEqProofs [-indexAddrP_some, hlt, lj]
    refine CL_post (best_run (o := o) Jj gj.1 (by rw [gj.2]; exact Ss.n8) ho) fun v h1 ⟨hp1, vf, ev, _⟩ => ?_
    subst ev
    obtain ⟨v', h2, ha, H2, _⟩ := push_I0 (H.ext hp1) 0 rfl (bestV o js) (by simp [bestsL]; omega)
    simp -implicitDefEqProofs [ha, winc hlt (by omega)]
    refine ⟨m - 1, by omega, on hI ⟨i + 1, v', by omega, rfl, ?_⟩⟩
    have e : bestsL o (xss.take (i + 1)) = bestsL o (xss.take i) ++ [bestV o js] := by unfold bestsL; rw [take_succ' hj, List.map_append]; rfl
    rw [e]; exact H2
  · rw [List.take_of_length_le (by omega)] at H
    simp -implicitDefEqProofs [hlt]
    exact onK hK (H.ret 0 rfl)
end
/-! ### the greatest difference -/
def dfE (vs ls : List Int) (i : Nat) : Int := gE vs i - gE ls i
def wstL (vs ls : List Int) : Int := (List.range' 0 vs.length).foldl (fun a i => max a (dfE vs ls i)) (dfE vs ls 0)
def atF (vs ls : List Int) (a i : Nat) : Nat := if dfE vs ls a < dfE vs ls i then i else a
def wstA (vs ls : List Int) : Nat := (List.range' 0 vs.length).foldl (atF vs ls) 0
theorem at_fold {vs ls : List Int} {n : Nat} : ∀ {l : List Nat} {a : Nat}, (∀ i, i ∈ l → i < n) → a < n → l.foldl (atF vs ls) a < n ∧ dfE vs ls (l.foldl (atF vs ls) a) = l.foldl (fun a i => max a (dfE vs ls i)) (dfE vs ls a)
  | [], a, _, ha => ⟨ha, rfl⟩
  | i :: l, a, hl, ha => by
    rw [List.foldl_cons, List.foldl_cons]
    have hi := hl i (List.mem_cons_self ..)
    have e : dfE vs ls (atF vs ls a i) = max (dfE vs ls a) (dfE vs ls i) := by
      unfold atF; split <;> omega
    rw [← e]
    exact at_fold (fun j hj => hl j (List.mem_cons_of_mem _ hj)) (by unfold atF; split <;> assumption)
theorem wstA_ok {vs ls : List Int} (h : 0 < vs.length) : wstA vs ls < vs.length ∧ dfE vs ls (wstA vs ls) = wstL vs ls := at_fold (fun i hi => by simpa [List.mem_range'_1] using hi) h
theorem max_fold {f : Nat → Int} : ∀ {l : List Nat} {a : Int}, a ≤ l.foldl (fun a i => max a (f i)) a ∧ ∀ i, i ∈ l → f i ≤ l.foldl (fun a i => max a (f i)) a
  | [], a => ⟨Int.le_refl _, fun i hi => by cases hi⟩
  | j :: l, a => by
    rw [List.foldl_cons]
    obtain ⟨h1, h2⟩ := @max_fold f l (max a (f j))
    refine ⟨by omega, fun i hi => ?_⟩
    rcases List.mem_cons.1 hi with rfl | g
    · omega
    · exact h2 i g
theorem wst_le {vs ls : List Int} {i : Nat} (h : i < vs.length) : dfE vs ls i ≤ wstL vs ls := max_fold.2 i (by simpa [List.mem_range'_1] using h)
structure Ld (m : Nat) (vs ls : List Int) : Prop where
  v : vs.length = m
  l : ls.length = m
  m1 : 1 ≤ m
  m4 : m ≤ 4
  b : ∀ i, i < m → (-(2 ^ 30) ≤ gE vs i ∧ gE vs i ≤ 2 ^ 30) ∧ -(2 ^ 30) ≤ gE ls i ∧ gE ls i ≤ 2 ^ 30
section
variable {h : Hp} {vv vl : Value} {vs ls : List Int} {m : Nat}
theorem foldr1 {β : Type} {f : β → Nat → β} {a : β} {i m : Nat} (hm : 0 < m) : (List.range' i m).foldl f a = (List.range' (i + 1) (m - 1)).foldl f (f a i) := by
  obtain ⟨k, rfl⟩ : ∃ k, m = k + 1 := ⟨m - 1, by omega⟩
  rw [List.range'_succ, List.foldl_cons, Nat.add_sub_cancel]
theorem l11Worst_run (hv : Ints h vv vs) (hl : Ints h vl ls) (D : Ld m vs ls) : RunsC P G n_spec_l11Worst [vv, vl] h fun v h' => h' = h ∧ v = .tuple #[.int .i64 (wstL vs ls), .int .i64 (wstA vs ls)] := by
  refine hideC fun K hK => enter_run e_spec_l11Worst (by simp) ?_
  have hvs := hv
  have hls := hl
  have dv := D.v
  have dl := D.l
  have m1 := D.m1
  have m4 := D.m4
  obtain ⟨ov, cv, rfl⟩ : ∃ a c, vv = .slice a m c := by obtain ⟨a, c, e⟩ := hv.shapeT; exact ⟨a, c, by rw [e, dv]⟩
  obtain ⟨ol, cl, rfl⟩ : ∃ a c, vl = .slice a m c := by obtain ⟨a, c, e⟩ := hl.shapeT; exact ⟨a, c, by rw [e, dl]⟩
  have wd : ∀ i, i < m → IntKind.i64.wrap (gE vs i - gE ls i) = dfE vs ls i := fun i hi => by have := D.b i hi; unfold dfE; rw [wrap_ok] <;> omega
  have first : wstL vs ls = (List.range' 1 (m - 1)).foldl (fun a i => max a (dfE vs ls i)) (dfE vs ls 0) := by
    unfold wstL; rw [dv, foldr1 (by omega), Int.max_self]
  have firstA : wstA vs ls = (List.range' 1 (m - 1)).foldl (atF vs ls) 0 := by
    unfold wstA; rw [dv, foldr1 (by omega)]
    congr 1
    unfold atF; split <;> rfl
  simp -implicitDefEqProofs
  refine R_loopO (fun k s h' => ∃ (i a : Nat), 1 ≤ i ∧ i + k = m ∧ a < m ∧ s = [(0, .slice ov m cv), (1, .slice ol m cl), (6, .int .i64 a), (7, .int .i64 i)] ∧ h' = h ∧ wstL vs ls = (List.range' i k).foldl (fun a i => max a (dfE vs ls i)) (dfE vs ls a) ∧ wstA vs ls = (List.range' i k).foldl (atF vs ls) a) (fun I hI k s h' => ?_) (n := m - 1) ⟨1, 0, by omega, by omega, by omega, by simp, rfl, first, firstA⟩
  rintro ⟨i, a, hi1, hi, ha, rfl, rfl, hx, hy⟩
  have lva := load_I hvs (gE_get (l := vs) (i := a) (by omega))
  have lla := load_I hls (gE_get (l := ls) (i := a) (by omega))
  have wa := wd a ha
  by_cases hlt : i < m
  · have hlt' : (i : Int) < m := by omega
    rw [foldr1 (by omega)] at hx hy
    have lvi := load_I hvs (gE_get (l := vs) (i := i) (by omega))
    have lli := load_I hls (gE_get (l := ls) (i := i) (by omega))
    have wi := wd i hlt
    by_cases c : dfE vs ls a < dfE vs ls i
    · rw [show max (dfE vs ls a) (dfE vs ls i) = dfE vs ls i by omega] at hx
      rw [show atF vs ls a i = i by unfold atF; rw [if_pos c]] at hy
      simp -implicitDefEqProofs [-indexAddrP_some, hlt, hlt', lvi, lli, lva, lla, wi, wa, c, winc hlt (by omega)]
      exact ⟨k - 1, by omega, on hI ⟨i + 1, i, by omega, by omega, hlt, rfl, rfl, hx, hy⟩⟩
    · rw [show max (dfE vs ls a) (dfE vs ls i) = dfE vs ls a by omega] at hx
      rw [show atF vs ls a i = a by unfold atF; rw [if_neg c]] at hy
      simp -implicitDefEqProofs [-indexAddrP_some, hlt, hlt', lvi, lli, lva, lla, wi, wa, c, winc hlt (by omega)]
      exact ⟨k - 1, by omega, on hI ⟨i + 1, a, by omega, by omega, ha, rfl, rfl, hx, hy⟩⟩
  · have hlt' : ¬ (i : Int) < m := by omega
    have hk : k = 0 := by omega
    subst hk
    rw [List.range'_zero, List.foldl_nil] at hx hy
    rw [hx, hy] at hK
    simp -implicitDefEqProofs [-indexAddrP_some, hlt, hlt', lva, lla, wa]
    exact onK hK ⟨rfl, rfl⟩
theorem greatest_run (hv : Ints h vv vs) (hl : Ints h vl ls) (D : Ld m vs ls) : RunsC P G n_impl_greatest [vv, vl] h fun v h' => h' = h ∧ v = .tuple #[.int .i64 (wstL vs ls), .int .i64 (wstA vs ls)] := by
  refine hideC fun K hK => enter_run e_impl_greatest (by simp) ?_
  have hvs := hv
  have hls := hl
  have dv := D.v
  have dl := D.l
  have m1 := D.m1
  have m4 := D.m4
  obtain ⟨ov, cv, rfl⟩ : ∃ a c, vv = .slice a m c := by obtain ⟨a, c, e⟩ := hv.shapeT; exact ⟨a, c, by rw [e, dv]⟩
  obtain ⟨ol, cl, rfl⟩ : ∃ a c, vl = .slice a m c := by obtain ⟨a, c, e⟩ := hl.shapeT; exact ⟨a, c, by rw [e, dl]⟩
  have wd : ∀ i, i < m → IntKind.i64.wrap (gE vs i - gE ls i) = dfE vs ls i := fun i hi => by have := D.b i hi; unfold dfE; rw [wrap_ok] <;> omega
  have lv0 := load_I hvs (gE_get (l := vs) (i := 0) (by omega))
  have ll0 := load_I hls (gE_get (l := ls) (i := 0) (by omega))
  rw [show ((0 : Nat) : Int) = 0 from rfl] at lv0 ll0
  simp -implicitDefEqProofs [-indexAddrP_some, lv0, ll0, wd 0 (by omega)]
  refine R_loopO (fun k s h' => ∃ (i b : Nat) (a : Int), i + k = m ∧ a = dfE vs ls b ∧ wstA vs ls = (List.range' i k).foldl (atF vs ls) b ∧ s = [(1, .slice ol m cl), (6, .int .i64 a), (7, .int .i64 b), (17, .slice ov m cv), (18, .int .i64 m), (19, .int .i64 i)] ∧ h' = h ∧ wstL vs ls = (List.range' i k).foldl (fun a i => max a (dfE vs ls i)) a) (fun I hI k s h' => ?_) (n := m) ⟨0, 0, _, by omega, rfl, by unfold wstA; rw [dv], by simp, rfl, by unfold wstL; rw [dv]⟩
  rintro ⟨i, b, a, hi, ha, hy, rfl, rfl, hx⟩
  by_cases hlt : i < m
  · have hlt' : (i : Int) < m := by omega
    rw [foldr1 (by omega)] at hx hy
    have lvi := load_I hvs (gE_get (l := vs) (i := i) (by omega))
    have lli := load_I hls (gE_get (l := ls) (i := i) (by omega))
    have wi := wd i hlt
    by_cases c : a < dfE vs ls i
    · rw [show max a (dfE vs ls i) = dfE vs ls i by omega] at hx
      rw [show atF vs ls b i = i by unfold atF; rw [if_pos (by rw [← ha]; exact c)]] at hy
      simp -implicitDefEqProofs [-indexAddrP_some, hlt, hlt', lvi, lli, wi, c, winc hlt (by omega)]
      exact ⟨k - 1, by omega, on hI ⟨i + 1, i, _, by omega, rfl, hy, rfl, rfl, hx⟩⟩
    · rw [show max a (dfE vs ls i) = a by omega] at hx
      rw [show atF vs ls b i = b by unfold atF; rw [if_neg (by rw [← ha]; exact c)]] at hy
      simp -implicitDefEqProofs [-indexAddrP_some, hlt, hlt', lvi, lli, wi, c, winc hlt (by omega)]
      exact ⟨k - 1, by omega, on hI ⟨i + 1, b, a, by omega, ha, hy, rfl, rfl, hx⟩⟩
  · have hlt' : ¬ (i : Int) < m := by omega
    have hk : k = 0 := by omega
    subst hk
    rw [List.range'_zero, List.foldl_nil] at hx hy
    rw [hx, hy] at hK
    simp -implicitDefEqProofs [hlt, hlt']
    exact onK hK ⟨rfl, rfl⟩
end
end Go.Pm.PP

/- The least greatest regret: the reference's search. -/
set_option linter.unusedVariables false
set_option linter.unusedSimpArgs false
set_option maxRecDepth 4000
set_option maxHeartbeats 8000000
namespace Go.Pm.PP
open Go.Pm Go.Proofs Go.Pm.PE
def regV (o : Int) (xss : List (List Job)) (ls xs : List Int) : Int := wstL (valsL o xss xs) ls
def updG (f : List Int → Int) (b : Sr) (xs : List Int) : Sr := if b.c = 0 ∨ f xs < b.v then ⟨xs, f xs, 1⟩ else b
/-- Scenarios and a list of numbers that bound their regrets. -/
structure Lb (xss : List (List Job)) (ls : List Int) : Prop where
  l : ls.length = xss.length
  b : ∀ i, i < xss.length → -(2 ^ 30) ≤ gE ls i ∧ gE ls i ≤ 2 ^ 30
theorem gE_map {o : Int} {xss : List (List Job)} {f : List Job → Int} {i : Nat} {js : List Job} (h : xss[i]? = some js) : gE (xss.map f) i = f js := by
  unfold gE; rw [List.getElem?_map, h]; rfl
theorem Sc.ld {h : Hp} {v : Value} {xss : List (List Job)} {n : Nat} {o : Int} {xs ls : List Int} (S : Sc h v xss n) (hx : Ord n xs) (B : Lb xss ls) : Ld xss.length (valsL o xss xs) ls := by
  refine ⟨by simp [valsL], B.l, S.l1, S.l4, fun i hi => ⟨?_, B.b i hi⟩⟩
  obtain ⟨js, hj, _⟩ := drop_at hi
  have g := S.g js (List.mem_of_getElem? hj)
  rw [valsL, gE_map (o := o) hj]
  exact valX_bd g.1 (by rw [g.2]; exact S.n8) (by rw [g.2]; exact hx)
theorem Sc.bests {h : Hp} {v : Value} {xss : List (List Job)} {n : Nat} {o : Int} (S : Sc h v xss n) : Lb xss (bestsL o xss) := by
  refine ⟨by simp [bestsL], fun i hi => ?_⟩
  obtain ⟨js, hj, _⟩ := drop_at hi
  have g := S.g js (List.mem_of_getElem? hj)
  rw [bestsL, gE_map (o := o) hj]
  exact bestV_bd g.1 (by rw [g.2]; exact S.n8)
theorem l11Least_run {xss : List (List Job)} {n : Nat} {o : Int} {ls : List Int} (ho : 1 ≤ o ∧ o ≤ 8) (hn : n ≤ 8) (LB : Lb xss ls) : ∀ {k : Nat} {h : Hp} {vj vb vl vo : Value} {begun : List Int} {b : Sr}, Sc h vj xss n → Ints h vb begun → Ints h vl ls → Ints h vo b.o → begun.length + k = n → inN n begun → begun.Nodup → b.o.length ≤ 8 →
    RunsC P G n_spec_l11Least [vj, vb, .int .i64 o, vl, sv3 vo b] h fun v h' => h <+: h' ∧ (dfs (updG (regV o xss ls)) n k begun b).o.length ≤ 8 ∧ ∃ vo', v = sv3 vo' (dfs (updG (regV o xss ls)) n k begun b) ∧ Ints h' vo' (dfs (updG (regV o xss ls)) n k begun b).o
  | 0, h, vj, vb, vl, vo, begun, b, S, B, Lv, O, hk, hin, hnd, hol => by
    refine hideC fun K hK => enter_run e_spec_l11Least (by simp) ?_
    have Ss := S
    have Bs := B
    have Os := O
    have Ls := Lv
    obtain ⟨oj, cj, rfl⟩ := S.shape
    obtain ⟨ob, cb, rfl⟩ : ∃ a c, vb = .slice a n c := by obtain ⟨a, c, e⟩ := B.shapeT; exact ⟨a, c, by rw [e]; congr 1⟩
    obtain ⟨od, cd, rfl⟩ := O.shapeT
    obtain ⟨ol, cl, rfl⟩ := Lv.shapeT
    have hx : Ord n begun := ⟨by omega, hin, hnd⟩
    have H0 := (Holds.start.alloc [.slice od b.o.length cd, .int .i64 b.v, .int .i64 b.c] (h := h)).alloc [.slice none 0 0, .int .i64 0, .int .i64 0]
    simp only [List.append_assoc, List.cons_append, List.nil_append, List.length_append, List.length_cons, List.length_nil, Nat.zero_add] at H0
    obtain ⟨a0, c0, i0, l0⟩ := (Ss.pre H0.pre).first
    rw [dfs] at hK
    obtain ⟨V, hV⟩ : ∃ V, V = regV o xss ls begun := ⟨_, rfl⟩
    simp -implicitDefEqProofs [-indexAddrP_some, i0, l0]
    refine CL_post (l11Values_run (Ss.pre H0.pre) (Bs.pre H0.pre) hx ho) fun v1 h1 ⟨hp1, ho1⟩ => ?_
    have H1 := H0.call hp1 ho1
    simp -implicitDefEqProofs
    refine CL_post (l11Worst_run ho1.sees (Ls.pre H1.pre) ((Ss.pre H1.pre).ld hx LB)) fun v2 h2 ⟨e2, ev2⟩ => ?_
    subst e2
    subst ev2
    rw [show wstL (valsL o xss begun) ls = V from hV.symm]
    have l1 := H1.bl (P := P) 0 3 rfl rfl
    by_cases c1 : b.c = 0 ∨ V < b.v
    · have e : updG (regV o xss ls) b begun = ⟨begun, V, 1⟩ := by unfold updG; rw [← hV, if_pos c1]
      rw [e] at hK
      obtain ⟨h3, s3, H3, k3⟩ := H1.set (P := P) 1 (n := 3) (o := 0) (ty := t_spec_l2Search) (w := sv3 (.slice ob n cb) ⟨begun, V, 1⟩) rfl rfl e_t_spec_l2Search (by simp) (by simp) (by simp)
      have s3' : storeP P h2 t_spec_l2Search (.agg #[.slice ob n cb, .int .i64 V, .int .i64 1]) (.pointer (some ⟨h.length + 1, 0, some 3⟩)) = some h3 := s3
      have l3 := H3.bl (P := P) 1 3 rfl rfl
      have fin : K (sv3 (.slice ob n cb) ⟨begun, V, 1⟩) (gc h h3 (sv3 (.slice ob n cb) ⟨begun, V, 1⟩)) := onK hK ⟨pre_gcU H3.pre, by simp only; rw [hx.len]; exact hn, _, rfl, Sees.gcU (Bs.pre H3.pre) plain3⟩
      rcases Classical.em (b.c = 0) with c2 | c2
      · simp -implicitDefEqProofs [-storeP_app0, l1, show (b.c == 0) = true by simpa using c2, s3', l3]
        exact fin
      · have c3 : V < b.v := by rcases c1 with g | g; exact absurd g c2; exact g
        simp -implicitDefEqProofs [-storeP_app0, l1, nb c2, c3, s3', l3]
        exact fin
    · have c2 : ¬ b.c = 0 := fun g => c1 (.inl g)
      have c3 : ¬ V < b.v := fun g => c1 (.inr g)
      have e : updG (regV o xss ls) b begun = b := by unfold updG; rw [← hV, if_neg c1]
      rw [e] at hK
      obtain ⟨h3, s3, H3, k3⟩ := H1.set (P := P) 1 (n := 3) (o := 0) (ty := t_spec_l2Search) (w := sv3 (.slice od b.o.length cd) b) rfl rfl e_t_spec_l2Search (by simp) (by simp) (by simp)
      have l3 := H3.bl (P := P) 1 3 rfl rfl
      simp -implicitDefEqProofs [-storeP_app0, l1, nb c2, c3, s3, l3]
      exact onK hK ⟨pre_gcU H3.pre, hol, _, rfl, Sees.gcU (Os.pre H3.pre) plain3⟩
  | k + 1, h, vj, vb, vl, vo, begun, b, S, B, Lv, O, hk, hin, hnd, hol => by
    refine hideC fun K hK => enter_run e_spec_l11Least (by simp) ?_
    have Ss := S
    have Bs := B
    have Os := O
    have Ls := Lv
    obtain ⟨oj, cj, rfl⟩ := S.shape
    obtain ⟨ob, cb, rfl⟩ := B.shapeT
    obtain ⟨od, cd, rfl⟩ := O.shapeT
    obtain ⟨ol, cl, rfl⟩ := Lv.shapeT
    have hne : ((begun.length : Int) == (n : Int)) = false := nb (by omega)
    have H0 := (Holds.start.alloc [.slice od b.o.length cd, .int .i64 b.v, .int .i64 b.c] (h := h)).alloc [.slice none 0 0, .int .i64 0, .int .i64 0]
    simp only [List.append_assoc, List.cons_append, List.nil_append, List.length_append, List.length_cons, List.length_nil, Nat.zero_add] at H0
    generalize hX : dfs (updG (regV o xss ls)) n (k + 1) begun b = X at hK
    rw [dfs] at hX
    have hne' : ¬ begun.length = n := by omega
    obtain ⟨a0, c0, i0, l0⟩ := (Ss.pre H0.pre).first
    simp -implicitDefEqProofs [-indexAddrP_some, i0, l0, hne, hne']
    refine R_loopO (fun m st h' => ∃ (i : Nat) (b' : Sr) (vo' : Value), i + m = n ∧ st = [(0, .slice oj xss.length cj), (1, .slice ob begun.length cb), (2, .int .i64 o), (3, .slice ol ls.length cl), (9, .pointer (some ⟨h.length, 0, some 3⟩)), (10, .pointer (some ⟨h.length + 1, 0, some 3⟩)), (13, .int .i64 i)] ∧
      X = (List.range' i m).foldl (fun b (j : Nat) => if begun.any (· == (j : Int)) = true then b else dfs (updG (regV o xss ls)) n k (begun ++ [(j : Int)]) b) b' ∧ b'.o.length ≤ 8 ∧ Ints h' vo' b'.o ∧
      Holds h h' [.box h.length [vo', .int .i64 b'.v, .int .i64 b'.c], .box (h.length + 1) [.slice none 0 0, .int .i64 0, .int .i64 0]]) (fun I hI m st h' => ?_) (n := n)
      ⟨0, b, .slice od b.o.length cd, Nat.zero_add _, by simp, hX.symm, hol, Os.pre H0.pre, H0⟩
    rintro ⟨i, b', vo', hi, rfl, hx, hbl, O', H⟩
    have Ons := O'
    obtain ⟨oq, cn, rfl⟩ := O'.shapeT
    obtain ⟨a1, c1', i1, l1⟩ := (Ss.pre H.pre).first
    by_cases hlt : i < n
    · obtain ⟨m', rfl⟩ : ∃ m', m = m' + 1 := ⟨m - 1, by omega⟩
      rw [List.range'_succ, List.foldl_cons] at hx
      have rh := l1Has_run (x := (i : Int)) (Bs.pre H.pre) (by omega)
      have wi := winc hlt (show n ≤ 2 ^ 40 by omega)
      have hlt' : (i : Int) < n := by omega
      cases c1 : hasL (i : Int) begun
      · have hx' : X = (List.range' (i + 1) m').foldl (fun b (j : Nat) => if begun.any (· == (j : Int)) = true then b else dfs (updG (regV o xss ls)) n k (begun ++ [(j : Int)]) b) (dfs (updG (regV o xss ls)) n k (begun ++ [(i : Int)]) b') := by
          rw [hx, show begun.any (· == (i : Int)) = false from c1]; rfl
        have hni : (i : Int) ∉ begun := fun g => by rw [hasL_iff'.2 g] at c1; cases c1
        simp -implicitDefEqProofs [-indexAddrP_some, i1, l1, hlt, hlt', CL_ret rh, c1]
        refine CG_post (l1Own_run (Bs.pre H.pre) (by omega)).new fun v5 h5 ⟨⟨hp5, ho5⟩, hn5⟩ => ⟨hn5 hp5, ?_⟩
        have H5 : Holds h' h5 [.own v5 1 (begun.map encI)] := (Holds.start (h := h')).call hp5 ho5
        obtain ⟨v6, h6, ha6, H6, k6, _⟩ := push_I0 H5 0 rfl (i : Int) (by omega)
        have H6' : Holds h' h6 [.own v6 1 ((begun ++ [(i : Int)]).map encI)] := H6
        have n6 : NR h'.length (h5 ++ [some ⟨[.int .i64 (i : Int)], 1, false⟩]) := (hn5 hp5).nr.new [.int .i64 (i : Int)] 1
        have md := app_mod (b := h'.length) rfl n6 ha6 (hp5.trans (List.prefix_append ..)) H6'.pre
        have HH6 := H.ext H6'.pre
        have ih := l11Least_run ho hn LB (k := k) (Ss.pre HH6.pre) (H6'.sees 0 rfl) (Ls.pre HH6.pre) (Ons.pre H6'.pre) (by simp; omega) (fun x hx => by
          rcases List.mem_append.1 hx with g | g
          · exact hin x g
          · rw [List.mem_singleton.1 g]; omega) (List.nodup_append.2 ⟨hnd, by simp, fun a ha c hc => by rw [List.mem_singleton.1 hc]; intro e; exact hni (e ▸ ha)⟩) hbl
        obtain ⟨d1, d2, d3, rfl⟩ : ∃ a n c, v5 = .slice a n c := by obtain ⟨a, c, e⟩ := ho5.sees.shape; exact ⟨_, _, _, e⟩
        obtain ⟨e1, e2, e3, rfl⟩ : ∃ a n c, v6 = .slice a n c := by obtain ⟨a, c, e⟩ := (H6'.sees 0 rfl).shape; exact ⟨_, _, _, e⟩
        simp -implicitDefEqProofs [ha6, md, HH6.bl 0 3 rfl rfl]
        refine CL_post ih fun v h7 ⟨hp7, hb7, vo7, ev7, O7⟩ => ?_
        subst ev7
        generalize dfs (updG (regV o xss ls)) n k (begun ++ [(i : Int)]) b' = b7 at hx' hb7 O7
        have O7s := O7
        obtain ⟨f1, f2, rfl⟩ := O7.shapeT
        have H7 := HH6.ext hp7
        obtain ⟨h8, s8, H8, k8⟩ := H7.set (P := P) 0 (n := 3) (o := 0) (ty := t_spec_l2Search) (w := sv3 (.slice f1 b7.o.length f2) b7) rfl rfl e_t_spec_l2Search (by simp) (by simp) (by simp)
        have bx := H7.box 0 rfl
        simp -implicitDefEqProofs [s8, wi]
        exact ⟨m', by omega, on hI ⟨i + 1, b7, _, by omega, rfl, hx', hb7, Sees.boxK O7s (by omega) bx k8, by simpa using H8⟩⟩
      · have hx' : X = (List.range' (i + 1) m').foldl (fun b (j : Nat) => if begun.any (· == (j : Int)) = true then b else dfs (updG (regV o xss ls)) n k (begun ++ [(j : Int)]) b) b' := by
          rw [hx, show begun.any (· == (i : Int)) = true from c1]; rfl
        simp -implicitDefEqProofs [-indexAddrP_some, i1, l1, hlt, hlt', CL_ret rh, c1, wi]
        exact ⟨m', by omega, on hI ⟨i + 1, b', _, by omega, rfl, hx', hbl, Ons, H⟩⟩
    · have hm : m = 0 := by omega
      have hlt' : ¬ (i : Int) < n := by omega
      subst hm
      rw [List.range'_zero, List.foldl_nil] at hx
      subst hx
      obtain ⟨h8, s8, H8, k8⟩ := H.set (P := P) 1 (n := 3) (o := 0) (ty := t_spec_l2Search) (w := sv3 (.slice oq X.o.length cn) X) rfl rfl e_t_spec_l2Search (by simp) (by simp) (by simp)
      have bx := H.box 1 rfl
      simp -implicitDefEqProofs [-indexAddrP_some, i1, l1, hlt, hlt', H.bl 0 3 rfl rfl, s8, H8.bl 1 3 rfl rfl]
      exact onK hK ⟨pre_gcU H8.pre, hbl, _, rfl, Sees.gcU (Sees.boxK Ons (by omega) bx k8) plain3⟩
end Go.Pm.PP

/- The least greatest regret: the program's search. -/
set_option linter.unusedVariables false
set_option linter.unusedSimpArgs false
set_option maxRecDepth 4000
set_option maxHeartbeats 8000000
namespace Go.Pm.PP
open Go.Pm Go.Proofs Go.Pm.PE
def fnd (b : Sr) : Bool := !(b.c == 0)
def bxG (p q r : Nat) (vf : Value) (b : Sr) : List Asn := [.box p [vf], .box q [.int .i64 b.v], .box r [.bool (fnd b)], .own vf 1 (b.o.map encI)]
theorem gcG {hb h h' : Hp} {p q r : Nat} {vf vf' u : Value} {b b' : Sr} {L : List Asn} (HL : Holds hb h (bxG p q r vf b ++ L)) (H' : Holds hb h' (bxG p q r vf' b' ++ L)) : Holds hb (gc h h' u) (bxG p q r vf' b' ++ L) := by
  rcases gc_cases' h h' u with g | ⟨hp, g⟩
  · rw [g]; exact H'
  · have e1 := HL.box (cs := [vf]) (r := p) 0 rfl
    have e2 := H'.box (cs := [vf']) (r := p) 0 rfl
    obtain ⟨t, rfl⟩ := hp
    rw [List.getElem?_append_left (List.getElem?_eq_some_iff.1 e1).1, e1] at e2
    cases e2
    exact HL.gcR H' rfl
theorem tellG_run {hb h : Hp} {p q r rj ro rl : Nat} {vj vl vf vg : Value} {xss : List (List Job)} {n : Nat} {o : Int} {ls xs : List Int} {b : Sr} (S : Sc hb vj xss n) (Lv : Ints hb vl ls) (LB : Lb xss ls) (bj : hb[rj]? = some (some ⟨[vj], 0, false⟩)) (bo : hb[ro]? = some (some ⟨[.int .i64 o], 0, false⟩)) (bl : hb[rl]? = some (some ⟨[vl], 0, false⟩))
    (ho : 1 ≤ o ∧ o ≤ 8) (hx : Ord n xs) (H : Holds hb h (bxG p q r vf b ++ [.own vg 1 (xs.map encI)])) :
    RunsC P G n_impl_leastGreatest_1 [vg, .pointer (some ⟨rj, 0, some 1⟩), .pointer (some ⟨ro, 0, some 1⟩), .pointer (some ⟨rl, 0, some 1⟩), .pointer (some ⟨r, 0, some 1⟩), .pointer (some ⟨q, 0, some 1⟩), .pointer (some ⟨p, 0, some 1⟩)] h fun v h' =>
      ∃ vf', ∀ L, Holds hb h (bxG p q r vf b ++ L) → Holds hb h' (bxG p q r vf' (updG (regV o xss ls) b xs) ++ L) := by
  refine hideC fun K hK => enter_run e_impl_leastGreatest_1 (by simp) ?_
  obtain ⟨f1, f2, f3, rfl⟩ : ∃ a n c, vf = .slice a n c := by obtain ⟨a, c, e⟩ := (H.sees 3 (v := vf) (sz := 1) (els := b.o.map encI) rfl).shape; exact ⟨_, _, _, e⟩
  have Ss := S
  have Ls := Lv
  have n8 := S.n8
  obtain ⟨oj, cj, rfl⟩ := S.shape
  obtain ⟨ol, cl, rfl⟩ := Lv.shapeT
  have Sg : Ints h vg xs := H.sees 4 rfl
  have lj := load_pre H.pre bj (n := 1) rfl
  have lo := load_pre H.pre bo (n := 1) rfl
  obtain ⟨V, hV⟩ : ∃ V, V = regV o xss ls xs := ⟨_, rfl⟩
  simp -implicitDefEqProofs [lj, lo]
  refine CH_post (scenarioValues_run (Ss.pre H.pre) Sg hx ho).new fun v1 h1 ⟨⟨hp1, ho1⟩, hn1⟩ => ⟨hn1 hp1, ?_⟩
  have lb := load_pre (H.pre.trans hp1) bl (n := 1) rfl
  simp -implicitDefEqProofs [lb]
  refine CH_post (greatest_run ho1.sees (Ls.pre (H.pre.trans hp1)) (Ss.ld hx LB)).new fun v2 h2 ⟨⟨e2, ev2⟩, hn2⟩ => ⟨hn2 (e2 ▸ List.prefix_rfl), ?_⟩
  subst e2
  subst ev2
  rw [show wstL (valsL o xss xs) ls = V from hV.symm]
  have H1 := H.ext hp1
  have Sg1 : Ints h2 vg xs := H1.sees 4 rfl
  have lq := H1.bl (P := P) 1 1 rfl rfl
  have lr := H1.bl (P := P) 2 1 rfl rfl
  by_cases c1 : b.c = 0 ∨ V < b.v
  · have e : updG (regV o xss ls) b xs = ⟨xs, V, 1⟩ := by unfold updG; rw [← hV, if_pos c1]
    rw [e] at hK
    have fin : RunsC P G n_impl_copyInts [vg] h2 fun v1 h1 => ∃ a n c h3 h4 h5, v1 = .slice a n c ∧ storeP P h1 t_S_int (.slice a n c) (.pointer (some ⟨p, 0, some 1⟩)) = some h3 ∧ storeP P h3 t_int (.int .i64 V) (.pointer (some ⟨q, 0, some 1⟩)) = some h4 ∧
        storeP P h4 t_bool (.bool true) (.pointer (some ⟨r, 0, some 1⟩)) = some h5 ∧ ∀ u, K u (gc h h5 u) := by
      refine RunsC.mono (copyInts_run Sg1 (by rw [hx.len]; omega)) fun v1 h1 ⟨hp1', ho1'⟩ => ?_
      obtain ⟨a, c, rfl⟩ := ho1'.sees.shapeT
      obtain ⟨h3, s2, H2, _⟩ := (H1.ext hp1').set (P := P) 0 (n := 1) (o := 0) (ty := t_S_int) (w := .slice a xs.length c) rfl rfl e_t_S_int (by simp) (by simp) (by simp)
      obtain ⟨h4, s3, H3, _⟩ := H2.set (P := P) 1 (n := 1) (o := 0) (ty := t_int) (w := .int .i64 V) rfl rfl e_t_int (by simp) (by simp) (by simp)
      obtain ⟨h5, s4, H4, _⟩ := H3.set (P := P) 2 (n := 1) (o := 0) (ty := t_bool) (w := .bool true) rfl rfl e_t_bool (by simp) (by simp) (by simp)
      refine ⟨a, xs.length, c, h3, h4, h5, rfl, s2, s3, s4, fun u => onK hK ⟨.slice a xs.length c, fun L HL => ?_⟩⟩
      have HJ := Holds.joinT (A := [.own (.slice a xs.length c) 1 (xs.map encI)]) (M := []) (HL.ext hp1) ((Holds.start (h := h2)).call hp1' ho1')
      obtain ⟨h3', s2', H2', _⟩ := HJ.set (P := P) 0 (n := 1) (o := 0) (ty := t_S_int) (w := .slice a xs.length c) rfl rfl e_t_S_int (by simp) (by simp) (by simp)
      rw [s2] at s2'; cases s2'
      obtain ⟨h4', s3', H3', _⟩ := H2'.set (P := P) 1 (n := 1) (o := 0) (ty := t_int) (w := .int .i64 V) rfl rfl e_t_int (by simp) (by simp) (by simp)
      rw [s3] at s3'; cases s3'
      obtain ⟨h5', s4', H4', _⟩ := H3'.set (P := P) 2 (n := 1) (o := 0) (ty := t_bool) (w := .bool true) rfl rfl e_t_bool (by simp) (by simp) (by simp)
      rw [s4] at s4'; cases s4'
      have H5 : Holds hb h5 (([.box p [.slice a xs.length c], .box q [.int .i64 V], .box r [.bool true]] ++ [.own (.slice f1 f2 f3) 1 (b.o.map encI)]) ++ ([.own (.slice a xs.length c) 1 (xs.map encI)] ++ L)) := H4'
      have H6 : Holds hb h5 (bxG p q r (.slice a xs.length c) ⟨xs, V, 1⟩ ++ L) := H5.cut
      exact gcG HL H6
    rcases Classical.em (b.c = 0) with c2 | c2
    · simp -implicitDefEqProofs [lr, lq, fnd, show (b.c == 0) = true by simpa using c2]
      refine CL_post fin fun v1 h1 ⟨a, n1, c, h2, h3, h4, ev, s2, s3, s4, f2⟩ => ?_
      subst ev
      simp -implicitDefEqProofs [s2, s3, s4]
      exact f2 _
    · have c3 : V < b.v := by rcases c1 with g | g; exact absurd g c2; exact g
      simp -implicitDefEqProofs [lr, lq, fnd, nb c2, c3]
      refine CL_post fin fun v1 h1 ⟨a, n1, c, h2, h3, h4, ev, s2, s3, s4, f2⟩ => ?_
      subst ev
      simp -implicitDefEqProofs [s2, s3, s4]
      exact f2 _
  · have c2 : ¬ b.c = 0 := fun g => c1 (.inl g)
    have c3 : ¬ V < b.v := fun g => c1 (.inr g)
    have e : updG (regV o xss ls) b xs = b := by unfold updG; rw [← hV, if_neg c1]
    rw [e] at hK
    simp -implicitDefEqProofs [lr, lq, fnd, nb c2, c3]
    exact onK hK ⟨.slice f1 f2 f3, fun L HL => gcG HL (HL.ext hp1)⟩
def leastR (f : List Int → Int) (n : Nat) : Sr := (ordsL n).foldl (updG f) sr0
theorem least_dfs {f : List Int → Int} {n : Nat} : dfs (updG f) n n [] sr0 = leastR f n := by
  rw [dfs_perms (by rw [up_rem, upTo_len]), up_rem]; rfl
theorem leastGreatest_run {h : Hp} {vj vl : Value} {xss : List (List Job)} {n : Nat} {o : Int} {ls : List Int} (S : Sc h vj xss n) (Lv : Ints h vl ls) (LB : Lb xss ls) (ho : 1 ≤ o ∧ o ≤ 8) :
    RunsC P G n_impl_leastGreatest [vj, vl, .int .i64 o] h fun v h' => h <+: h' ∧ ∃ vf, v = .tuple #[vf, .int .i64 (leastR (regV o xss ls) n).v] ∧ Ints h' vf (leastR (regV o xss ls) n).o := by
  refine hideC fun K hK => enter_run e_impl_leastGreatest (by simp) ?_
  have Ss := S
  have Ls := Lv
  have n8 := S.n8
  obtain ⟨oj, cj, rfl⟩ := S.shape
  obtain ⟨ol, cl, rfl⟩ := Lv.shapeT
  have H0 := ((Holds.start.alloc [.slice oj xss.length cj] (h := h)).alloc [.slice ol ls.length cl]).alloc [.int .i64 o]
  simp only [List.append_assoc, List.cons_append, List.nil_append, List.length_append, List.length_cons, List.length_nil, Nat.zero_add] at H0
  generalize hHb : h ++ [some ⟨[.slice oj xss.length cj], 0, false⟩, some ⟨[.slice ol ls.length cl], 0, false⟩, some ⟨[.int .i64 o], 0, false⟩] = hb at H0
  have hbl : hb.length = h.length + 1 + 1 + 1 := by rw [← hHb]; simp
  have E0 := own_nil (((Holds.start.alloc [.slice none 0 0] (h := hb)).alloc [.int .i64 0]).alloc [.bool false]) Int encI 1
  simp only [List.append_assoc, List.cons_append, List.nil_append, List.length_append, List.length_cons, List.length_nil, Nat.zero_add] at E0
  have E : Holds hb (hb ++ [some ⟨[.slice none 0 0], 0, false⟩, some ⟨[.int .i64 0], 0, false⟩, some ⟨[.bool false], 0, false⟩]) (bxG hb.length (hb.length + 1) (hb.length + 1 + 1) (.slice none 0 0) sr0 ++ []) := E0
  have er := eachOrder_run (hb := hb) (g := n_impl_leastGreatest_1) (c := #[.pointer (some ⟨h.length, 0, some 1⟩), .pointer (some ⟨h.length + 1 + 1, 0, some 1⟩), .pointer (some ⟨h.length + 1, 0, some 1⟩), .pointer (some ⟨hb.length + 1 + 1, 0, some 1⟩), .pointer (some ⟨hb.length + 1, 0, some 1⟩), .pointer (some ⟨hb.length, 0, some 1⟩)]) n8
    (Q := fun i BX => ∃ vf, BX = bxG hb.length (hb.length + 1) (hb.length + 1 + 1) vf (((ordsL n).take i).foldl (updG (regV o xss ls)) sr0))
    (fun i BX i' BX' h h' L u ⟨vf, e⟩ ⟨vf', e'⟩ HL H' => by subst e; subst e'; exact gcG HL H')
    (fun i xs h BX vg ⟨vf, eBX⟩ hxs HB => by
      subst eBX
      refine RunsC.mono (tellG_run (Ss.pre H0.pre) (Ls.pre H0.pre) LB (H0.box 0 rfl) (H0.box 2 rfl) (H0.box 1 rfl) ho (ords_ord (List.mem_of_getElem? hxs)) HB) fun v h' ⟨vf', F⟩ => ?_
      refine ⟨_, ⟨vf', rfl⟩, fun L HL => ?_⟩
      have := F L HL
      rw [take_succ' hxs, List.foldl_append, List.foldl_cons, List.foldl_nil]
      exact this) ⟨_, rfl⟩ E
  have hcount : hb ++ [some ⟨[.slice none 0 0], 0, false⟩, some ⟨[.int .i64 0], 0, false⟩, some ⟨[.bool false], 0, false⟩] = h ++ [some ⟨[.slice oj xss.length cj], 0, false⟩, some ⟨[.slice ol ls.length cl], 0, false⟩, some ⟨[.int .i64 o], 0, false⟩, some ⟨[.slice none 0 0], 0, false⟩, some ⟨[.int .i64 0], 0, false⟩, some ⟨[.bool false], 0, false⟩] := by rw [← hHb]; simp
  rw [hcount, hbl] at er
  rw [hcount] at E
  have hpE : h <+: h ++ [some ⟨[.slice oj xss.length cj], 0, false⟩, some ⟨[.slice ol ls.length cl], 0, false⟩, some ⟨[.int .i64 o], 0, false⟩, some ⟨[.slice none 0 0], 0, false⟩, some ⟨[.int .i64 0], 0, false⟩, some ⟨[.bool false], 0, false⟩] := List.prefix_append ..
  obtain ⟨a0, c0, i0, l0⟩ := (Ss.pre hpE).first
  simp -implicitDefEqProofs [-indexAddrP_some, i0, l0]
  refine CL_post er fun v h4 ⟨BX', ⟨vf, eBX⟩, F⟩ => ?_
  subst eBX
  have H4 := F [] (by rw [← hbl]; exact E)
  rw [List.take_length] at H4
  have s4 : Ints h4 vf (leastR (regV o xss ls) n).o := H4.sees 3 rfl
  obtain ⟨a, c, rfl⟩ := s4.shapeT
  have l0 := H4.bl (P := P) 0 1 rfl rfl
  have l1 := H4.bl (P := P) 1 1 rfl rfl
  simp only [Nat.add_assoc, Nat.reduceAdd] at l0 l1
  simp -implicitDefEqProofs [l0, l1]
  exact onK hK ⟨pre_gcU (H0.pre.trans H4.pre), _, rfl, Sees.gcU s4 fun g => plainT (r := [_]) g⟩
end Go.Pm.PP

/- The greatest regret and its bound: what is asked, and both. -/
set_option linter.unusedVariables false
set_option linter.unusedSimpArgs false
set_option maxRecDepth 4000
set_option maxHeartbeats 8000000
namespace Go.Pm.PP
open Go.Pm Go.Proofs Go.Pm.PE
def okJ (n : Nat) (js : List Job) : Bool := (decide (js.length ≤ 8) && goodL js) && ((js.length : Int) == n)
def len0 (xss : List (List Job)) : Nat := ((xss[0]?).getD []).length
def allJ (n : Nat) (xss : List (List Job)) : Bool := xss.all (okJ n)
theorem allJ_cons {n : Nat} {js : List Job} {xss : List (List Job)} : allJ n (js :: xss) = (okJ n js && allJ n xss) := rfl
theorem allJ_nil {n : Nat} : allJ n [] = true := rfl
def scOk (xss : List (List Job)) : Bool := allJ (len0 xss) xss && inB xss.length 1 4
theorem nest_at {h : Hp} {v : Value} {xss : List (List Job)} {vs : List Value} {i : Nat} {js : List Job} (N : Nest h v encJ 4 xss vs) (hx : xss[i]? = some js) :
    ∃ u, (indexAddrP P h t_S_S_impl_Job v (.int .i64 i) = some (.pointer (some (addP (base v) i))) ∧ loadP P h t_S_impl_Job (.pointer (some (addP (base v) i))) = some u) ∧ Jobs h u js := by
  obtain ⟨u, hu, ho⟩ := N.at hx
  have := load_NJ N.out hu
  exact ⟨u, ⟨this.1, this.2⟩, ho⟩
theorem nest_first {h : Hp} {v : Value} {xss : List (List Job)} {vs : List Value} (N : Nest h v encJ 4 xss vs) (hl : 0 < xss.length) :
    ∃ a c, indexAddrP P h t_S_S_impl_Job v (.int .i64 0) = some (.pointer (some (addP (base v) 0))) ∧ loadP P h t_S_impl_Job (.pointer (some (addP (base v) 0))) = some (.slice a (len0 xss) c) := by
  obtain ⟨js, hj, _⟩ := drop_at hl
  obtain ⟨u, ⟨h1, h2⟩, ho⟩ := nest_at N hj
  obtain ⟨a, c, rfl⟩ := ho.shapeT
  have : len0 xss = js.length := by unfold len0; rw [hj]; rfl
  rw [← this] at h2
  exact ⟨a, c, h1, h2⟩
section
variable {h : Hp} {v vo : Value} {xss : List (List Job)} {vs : List Value} {xs : List Int} {o : Int}
theorem l11Lists_run (N : Nest h v encJ 4 xss vs) (hn : xss.length ≤ 2 ^ 40) (hi : ∀ x ∈ xss, x.length ≤ 2 ^ 40) : Ret P G n_spec_l11Lists [v] h (.bool (scOk xss)) h := by
  refine enter_run e_spec_l11Lists (by simp) ?_
  have Ns := N
  obtain ⟨oa, c, rfl⟩ := N.shape
  simp -implicitDefEqProofs
  refine R_loopO (fun m s h' => ∃ i : Nat, i + m = xss.length ∧ s = [(0, .slice oa xss.length c), (3, .int .i64 i)] ∧ h' = h ∧ scOk xss = (allJ (len0 xss) (xss.drop i) && inB xss.length 1 4)) (fun I hI m s h' => ?_) ⟨0, Nat.zero_add _, by simp, rfl, rfl⟩
  rintro ⟨i, him, rfl, rfl, hx⟩
  by_cases hlt : i < xss.length
  · obtain ⟨js, hj, hd⟩ := drop_at hlt
    rw [hd, allJ_cons] at hx
    obtain ⟨u, lj, Jj⟩ := nest_at Ns hj
    obtain ⟨a0, c0, i0, l0⟩ := nest_first Ns (by omega)
    have hl := hi js (List.mem_of_getElem? hj)
    have rg := l2Good_run Jj hl
    obtain ⟨a1, c1, rfl⟩ : ∃ a c, u = .slice a js.length c := Jj.shapeT
    cases c1 : (decide (js.length ≤ 8) && goodL js)
    · simp -implicitDefEqProofs [-indexAddrP_some, hlt, lj, CL_ret rg, CH_at rg, c1]
      rw [okJ, c1] at hx
      simp [hx]
    · rw [okJ, c1, Bool.true_and] at hx
      cases c2 : ((js.length : Int) == (len0 xss : Nat))
      · rw [c2, Bool.false_and, Bool.false_and] at hx
        have c2' : ((js.length : Int) != (len0 xss : Nat)) = true := by rw [bne, c2]; rfl
        simp -implicitDefEqProofs [-indexAddrP_some, -bne_iff_ne, hlt, lj, CL_ret rg, CH_at rg, c1, i0, l0, c2', hx]
      · rw [c2, Bool.true_and] at hx
        have c2' : ((js.length : Int) != (len0 xss : Nat)) = false := by rw [bne, c2]; rfl
        simp -implicitDefEqProofs [-indexAddrP_some, hlt, lj, CL_ret rg, CH_at rg, c1, i0, l0, c2', winc hlt hn]
        exact ⟨m - 1, by omega, on hI ⟨i + 1, by omega, rfl, rfl, hx⟩⟩
  · rw [List.drop_eq_nil_of_le (by omega), allJ_nil, Bool.true_and] at hx
    simp -implicitDefEqProofs [hlt, CL_ret l1In_run, hx]
theorem AreScenarios_run (N : Nest h v encJ 4 xss vs) (hn : xss.length ≤ 2 ^ 40) (hi : ∀ x ∈ xss, x.length ≤ 2 ^ 40) : Ret P G n_impl_AreScenarios [v] h (.bool (scOk xss)) h := by
  refine enter_run e_impl_AreScenarios (by simp) ?_
  have Ns := N
  obtain ⟨oa, c, rfl⟩ := N.shape
  cases c0 : inB xss.length 1 4
  · simp -implicitDefEqProofs [CL_ret within_run, c0, scOk]
  have hsc : scOk xss = allJ (len0 xss) xss := by rw [scOk, c0, Bool.and_true]
  simp -implicitDefEqProofs [CL_ret within_run, c0]
  refine R_loopO (fun m s h' => ∃ i : Nat, i + m = xss.length ∧ s = [(0, .slice oa xss.length c), (9, .slice oa xss.length c), (10, .int .i64 xss.length), (11, .int .i64 i)] ∧ h' = h ∧ scOk xss = allJ (len0 xss) (xss.drop i)) (fun I hI m s h' => ?_) ⟨0, Nat.zero_add _, by simp, rfl, hsc⟩
  rintro ⟨i, him, rfl, rfl, hx⟩
  by_cases hlt : i < xss.length
  · obtain ⟨js, hj, hd⟩ := drop_at hlt
    rw [hd, allJ_cons] at hx
    obtain ⟨u, lj, Jj⟩ := nest_at Ns hj
    obtain ⟨a0, c0, i0, l0⟩ := nest_first Ns (by omega)
    have hl := hi js (List.mem_of_getElem? hj)
    have rg := IsJobs_run Jj hl
    obtain ⟨a1, c1, rfl⟩ : ∃ a c, u = .slice a js.length c := Jj.shapeT
    cases c1 : (decide (js.length ≤ 8) && goodL js)
    · simp -implicitDefEqProofs [-indexAddrP_some, hlt, lj, CL_ret rg, CH_at rg, c1]
      rw [okJ, c1] at hx
      simp [hx]
    · rw [okJ, c1, Bool.true_and] at hx
      cases c2 : ((js.length : Int) == (len0 xss : Nat))
      · rw [c2, Bool.false_and] at hx
        have c2' : ((js.length : Int) != (len0 xss : Nat)) = true := by rw [bne, c2]; rfl
        simp -implicitDefEqProofs [-indexAddrP_some, -bne_iff_ne, hlt, lj, CL_ret rg, CH_at rg, c1, i0, l0, c2', hx]
      · rw [c2, Bool.true_and] at hx
        have c2' : ((js.length : Int) != (len0 xss : Nat)) = false := by rw [bne, c2]; rfl
        simp -implicitDefEqProofs [-indexAddrP_some, hlt, lj, CL_ret rg, CH_at rg, c1, i0, l0, c2', winc hlt hn]
        exact ⟨m - 1, by omega, on hI ⟨i + 1, by omega, rfl, rfl, hx⟩⟩
  · rw [List.drop_eq_nil_of_le (by omega), allJ_nil] at hx
    simp -implicitDefEqProofs [hlt, hx]
theorem scOk_len (hs : scOk xss = true) : 1 ≤ xss.length ∧ xss.length ≤ 4 ∧ len0 xss ≤ 8 := by
  rw [scOk, Bool.and_eq_true] at hs
  obtain ⟨h1, h2⟩ := hs
  simp only [inB, Bool.and_eq_true, decide_eq_true_eq] at h2
  obtain ⟨js, hj, _⟩ := drop_at (show 0 < xss.length by omega)
  have := List.all_eq_true.1 h1 js (List.mem_of_getElem? hj)
  have hl : len0 xss = js.length := by unfold len0; rw [hj]; rfl
  rw [okJ, Bool.and_eq_true, Bool.and_eq_true, decide_eq_true_eq] at this
  omega
theorem scOk_sc (N : Nest h v encJ 4 xss vs) (hs : scOk xss = true) : Sc h v xss (len0 xss) := by
  obtain ⟨l1, l4, n8⟩ := scOk_len hs
  rw [scOk, Bool.and_eq_true] at hs
  refine ⟨⟨vs, N⟩, fun js hj => ?_, n8, l1, l4⟩
  have := List.all_eq_true.1 hs.1 js hj
  rw [okJ, Bool.and_eq_true, Bool.and_eq_true, decide_eq_true_eq, beq_iff_eq] at this
  exact ⟨this.1.2, by omega⟩
def fitB (xss : List (List Job)) (xs : List Int) (o : Int) : Bool := (scOk xss && l2OrderL (len0 xss) xs) && inB o 1 8
theorem fitB_ord (hf : l2OrderL (len0 xss) xs = true) : Ord (len0 xss) xs := by
  rw [l2OrderL, Bool.and_eq_true, Bool.and_eq_true] at hf
  obtain ⟨⟨h1, h2⟩, h3⟩ := hf
  have hl : len0 xss ≤ 8 := by simp only [inB, Bool.and_eq_true, decide_eq_true_eq] at h1; omega
  have := order_eq (n := len0 xss) (xs := xs) hl
  rw [h2, h3, Bool.true_and, Bool.true_and] at this
  have wn : w64 ((len0 xss : Int) - 1) = (len0 xss : Int) - 1 := by unfold w64; rw [wrap_ok] <;> omega
  obtain ⟨g1, g2, _⟩ := (arGo_iff wn).1 this
  exact ⟨by have := beq_iff_eq.1 h2; omega, g1, g2⟩
theorem l11Fits_run (N : Nest h v encJ 4 xss vs) (hu : Ints h vo xs) (hn : xss.length ≤ 2 ^ 40) (hi : ∀ x ∈ xss, x.length ≤ 2 ^ 40) (hx : xs.length ≤ 2 ^ 40) : Ret P G n_spec_l11Fits [v, vo, .int .i64 o] h (.bool (fitB xss xs o)) h := by
  refine enter_run e_spec_l11Fits (by simp) ?_
  have Ns := N
  have hus := hu
  obtain ⟨oa, c, rfl⟩ := N.shape
  obtain ⟨ob, cb, rfl⟩ := hu.shapeT
  have r1 := l11Lists_run Ns hn hi
  cases c1 : scOk xss
  · simp -implicitDefEqProofs [CL_ret r1, c1, fitB]
  · obtain ⟨a0, c0, i0, l0⟩ := nest_first Ns (by have := scOk_len c1; omega)
    have r2 := l2Order_run (n := len0 xss) hus hx
    cases c2 : l2OrderL (len0 xss) xs
    · simp -implicitDefEqProofs [-indexAddrP_some, CL_ret r1, c1, i0, l0, CL_ret r2, c2, fitB]
    · simp -implicitDefEqProofs [-indexAddrP_some, CL_ret r1, c1, i0, l0, CL_ret r2, c2, fitB, CL_ret l2Objective_run]
theorem areRobust_run (N : Nest h v encJ 4 xss vs) (hn : xss.length ≤ 2 ^ 40) (hi : ∀ x ∈ xss, x.length ≤ 2 ^ 40) : Ret P G n_impl_areRobust [v, .int .i64 o] h (.bool (scOk xss && inB o 1 8)) h := by
  refine enter_run e_impl_areRobust (by simp) ?_
  have r1 := AreScenarios_run N hn hi
  obtain ⟨oa, c, rfl⟩ := N.shape
  cases c1 : scOk xss
  · simp -implicitDefEqProofs [CL_ret r1, c1]
  · simp -implicitDefEqProofs [CL_ret r1, c1, CL_ret isObjective_run]
def rgV (xss : List (List Job)) (xs : List Int) (o : Int) : Int := w64 (wstL (valsL o xss xs) (bestsL o xss) - (leastR (regV o xss (bestsL o xss)) (len0 xss)).v)
def rgX (xss : List (List Job)) (xs : List Int) (o : Int) : Int := if fitB xss xs o = true then rgV xss xs o else 0
theorem spec_RegretBound_run (N : Nest h v encJ 4 xss vs) (hu : Ints h vo xs) (hn : xss.length ≤ 2 ^ 40) (hi : ∀ x ∈ xss, x.length ≤ 2 ^ 40) (hx : xs.length ≤ 2 ^ 40) :
    RunsC P G n_spec_RegretBound [v, vo, .int .i64 o] h fun v h' => h <+: h' ∧ v = .tuple #[.int .i64 (rgX xss xs o), .bool (fitB xss xs o)] := by
  refine hideC fun K hK => enter_run e_spec_RegretBound (by simp) ?_
  have Ns := N
  have hus := hu
  have r1 := l11Fits_run (o := o) Ns hus hn hi hx
  obtain ⟨oa, c, rfl⟩ := N.shape
  obtain ⟨ob, cb, rfl⟩ := hu.shapeT
  cases c1 : fitB xss xs o
  · rw [rgX, c1] at hK
    simp -implicitDefEqProofs [CL_ret r1, c1]
    exact onK hK ⟨List.prefix_rfl, rfl⟩
  · rw [rgX, c1, if_pos rfl] at hK
    have c1' := c1
    rw [fitB, Bool.and_eq_true, Bool.and_eq_true] at c1
    obtain ⟨⟨s1, s2⟩, s3⟩ := c1
    have S := scOk_sc Ns s1
    have ox := fitB_ord s2
    have ho : 1 ≤ o ∧ o ≤ 8 := by simpa [inB] using s3
    have LB := S.bests (o := o)
    simp -implicitDefEqProofs [CL_ret r1, c1']
    refine CL_post (l11Bests_run S ho) fun v1 h1 ⟨hp1, ho1⟩ => ?_
    have H1 := (Holds.start (h := h)).call hp1 ho1
    obtain ⟨b1, b2, b3, rfl⟩ : ∃ a n c, v1 = .slice a n c := by obtain ⟨a, c, e⟩ := ho1.sees.shape; exact ⟨_, _, _, e⟩
    simp -implicitDefEqProofs
    refine CL_post (l11Values_run (S.pre H1.pre) (hus.pre H1.pre) ox ho) fun v2 h2 ⟨hp2, ho2⟩ => ?_
    have H2 := H1.ext hp2
    simp -implicitDefEqProofs
    refine CL_post (l11Worst_run ho2.sees (H2.sees 0 rfl) ((S.pre H2.pre).ld ox LB)) fun v3 h3 ⟨e3, ev3⟩ => ?_
    subst e3
    subst ev3
    have N0 : Ints h3 (.slice none 0 0) ([] : List Int) := ⟨by simp, none, 0, rfl, .inl ⟨rfl, rfl, rfl⟩⟩
    simp -implicitDefEqProofs
    refine CL_post (l11Least_run ho S.n8 LB (k := len0 xss) (b := sr0) (S.pre H2.pre) N0 (H2.sees 0 rfl) N0 (by simp) (fun x hx => by cases hx) List.nodup_nil (by simp [sr0])) fun v h4 ⟨hp4, hb4, vo4, ev, O4⟩ => ?_
    subst ev
    rw [least_dfs]
    simp -implicitDefEqProofs
    exact onK hK ⟨pre_gcU (H2.pre.trans hp4), rfl⟩
theorem RegretBound_run (N : Nest h v encJ 4 xss vs) (hu : Ints h vo xs) (hn : xss.length ≤ 2 ^ 40) (hi : ∀ x ∈ xss, x.length ≤ 2 ^ 40) (hx : xs.length ≤ 2 ^ 40) :
    RunsC P G n_impl_RegretBound [v, vo, .int .i64 o] h fun v h' => h <+: h' ∧ v = .tuple #[.int .i64 (rgX xss xs o), .bool (fitB xss xs o)] := by
  refine hideC fun K hK => enter_run e_impl_RegretBound (by simp) ?_
  have Ns := N
  have hus := hu
  have r1 := areRobust_run (o := o) Ns hn hi
  have r2 := isOrder_run (n := len0 xss) hus hx
  obtain ⟨oa, c, rfl⟩ := N.shape
  obtain ⟨ob, cb, rfl⟩ := hu.shapeT
  cases c1 : (scOk xss && inB o 1 8)
  · have e : fitB xss xs o = false := by
      rw [fitB, Bool.and_assoc, Bool.and_comm (l2OrderL _ _), ← Bool.and_assoc, c1, Bool.false_and]
    rw [rgX, e] at hK
    simp -implicitDefEqProofs [CL_ret r1, CH_at r1, c1]
    exact onK hK ⟨List.prefix_rfl, rfl⟩
  · have c1' := Bool.and_eq_true_iff.1 c1
    obtain ⟨s1, s3⟩ := c1'
    have e : fitB xss xs o = l2OrderL (len0 xss) xs := by rw [fitB, s1, s3, Bool.true_and, Bool.and_true]
    obtain ⟨l1, l4, n8⟩ := scOk_len s1
    have e2 : l2OrderL (len0 xss) xs = (((xs.length : Int) == (len0 xss : Nat)) && arGo (len0 xss) [] xs) := by
      rw [order_eq n8, l2OrderL, show inB (len0 xss) 0 8 = true by simp [inB]; omega, Bool.true_and]
    obtain ⟨a0, c0, i0, l0⟩ := nest_first Ns (by omega)
    cases c2 : l2OrderL (len0 xss) xs
    · rw [rgX, e, c2] at hK
      rw [← e2, c2] at r2
      simp -implicitDefEqProofs [-indexAddrP_some, CL_ret r1, CH_at r1, s1, s3, i0, l0, CL_ret r2, CH_at r2]
      exact onK hK ⟨List.prefix_rfl, rfl⟩
    · rw [rgX, e, c2, if_pos rfl] at hK
      rw [← e2, c2] at r2
      have S := scOk_sc Ns s1
      have ox := fitB_ord c2
      have ho : 1 ≤ o ∧ o ≤ 8 := by simpa [inB] using s3
      have LB := S.bests (o := o)
      simp -implicitDefEqProofs [-indexAddrP_some, CL_ret r1, CH_at r1, s1, s3, i0, l0, CL_ret r2, CH_at r2]
      refine CL_post (bestValues_run S ho) fun v1 h1 ⟨hp1, ho1⟩ => ?_
      have H1 := (Holds.start (h := h)).call hp1 ho1
      obtain ⟨b1, b2, b3, rfl⟩ : ∃ a n c, v1 = .slice a n c := by obtain ⟨a, c, e⟩ := ho1.sees.shape; exact ⟨_, _, _, e⟩
      simp -implicitDefEqProofs
      refine CL_post (scenarioValues_run (S.pre H1.pre) (hus.pre H1.pre) ox ho) fun v2 h2 ⟨hp2, ho2⟩ => ?_
      have H2 := H1.ext hp2
      simp -implicitDefEqProofs
      refine CL_post (greatest_run ho2.sees (H2.sees 0 rfl) ((S.pre H2.pre).ld ox LB)) fun v3 h3 ⟨e3, ev3⟩ => ?_
      subst e3
      subst ev3
      simp -implicitDefEqProofs
      refine CL_post (leastGreatest_run (S.pre H2.pre) (H2.sees 0 rfl) LB ho) fun v h4 ⟨hp4, vf, ev, _⟩ => ?_
      subst ev
      simp -implicitDefEqProofs
      exact onK hK ⟨pre_gcU (H2.pre.trans hp4), rfl⟩
/-! ### what the programs tell -/
def scB (xss : List (List Job)) (o : Int) : Bool := scOk xss && inB o 1 8
theorem fitB_sc {xss : List (List Job)} {xs : List Int} {o : Int} (h : fitB xss xs o = true) : scOk xss = true ∧ Ord (len0 xss) xs ∧ (1 ≤ o ∧ o ≤ 8) ∧ scB xss o = true := by
  rw [fitB, Bool.and_eq_true, Bool.and_eq_true] at h
  exact ⟨h.1.1, ord_of h.1.2, inB_of h.2, by rw [scB, h.1.1, h.2]; rfl⟩
theorem fitB_ord' {xss : List (List Job)} {xs ys : List Int} {o : Int} (h : fitB xss xs o = true) (hy : Ord (len0 xss) ys) : fitB xss ys o = true := by
  have hn := (scOk_len (fitB_sc h).1).2.2
  rw [fitB, Bool.and_eq_true, Bool.and_eq_true] at h
  rw [fitB, h.1.1, ord_ok hn hy, h.2]; rfl
def gR (xss : List (List Job)) (xs : List Int) (o : Int) : Int := if fitB xss xs o = true then wstL (valsL o xss xs) (bestsL o xss) else 0
def gA (xss : List (List Job)) (xs : List Int) (o : Int) : Nat := if fitB xss xs o = true then wstA (valsL o xss xs) (bestsL o xss) else 0
def sV (xss : List (List Job)) (xs : List Int) (o : Int) : List Int := if fitB xss xs o = true then valsL o xss xs else []
theorem robust_fit {xss : List (List Job)} {xs : List Int} {o : Int} (hs : scB xss o = true) : fitB xss xs o = l2OrderL (len0 xss) xs ∧ l2OrderL (len0 xss) xs = (((xs.length : Int) == (len0 xss : Nat)) && arGo (len0 xss) [] xs) ∧ scOk xss = true ∧ inB o 1 8 = true := by
  rw [scB, Bool.and_eq_true] at hs
  obtain ⟨l1, l4, n8⟩ := scOk_len hs.1
  exact ⟨by rw [fitB, hs.1, hs.2, Bool.true_and, Bool.and_true], by rw [order_eq n8, l2OrderL, show inB (len0 xss) 0 8 = true by simp [inB]; omega, Bool.true_and], hs.1, hs.2⟩
theorem robust_no {xss : List (List Job)} {xs : List Int} {o : Int} (hs : scB xss o = false) : fitB xss xs o = false := by
  rw [fitB, Bool.and_assoc, Bool.and_comm (l2OrderL _ _), ← Bool.and_assoc]
  rw [scB] at hs
  rw [hs, Bool.false_and]
theorem implScenarioValues_run (N : Nest h v encJ 4 xss vs) (hu : Ints h vo xs) (hn : xss.length ≤ 2 ^ 40) (hi : ∀ x ∈ xss, x.length ≤ 2 ^ 40) (hx : xs.length ≤ 2 ^ 40) :
    RunsC P G n_impl_ScenarioValues [v, vo, .int .i64 o] h fun w h' => h <+: h' ∧ ∃ b, w = .tuple #[b, .bool (fitB xss xs o)] ∧ Ints h' b (sV xss xs o) := by
  refine hideC fun K hK => enter_run e_impl_ScenarioValues (by simp) ?_
  have Ns := N
  have hus := hu
  have r1 := areRobust_run (o := o) Ns hn hi
  rw [show (scOk xss && inB o 1 8) = scB xss o from rfl] at r1
  have r2 := isOrder_run (n := len0 xss) hus hx
  obtain ⟨oa, c, rfl⟩ := N.shape
  obtain ⟨ob, cb, rfl⟩ := hu.shapeT
  have bad : fitB xss xs o = false → K (.tuple #[.slice none 0 0, .bool false]) h := fun e => by
    rw [sV, e, if_neg (by simp)] at hK
    exact onK hK ⟨List.prefix_rfl, _, rfl, ⟨by simp, none, 0, rfl, .inl ⟨rfl, rfl, rfl⟩⟩⟩
  cases c1 : scB xss o
  · simp -implicitDefEqProofs [CL_ret r1, CH_at r1, c1]
    exact bad (robust_no c1)
  · obtain ⟨e, e2, s1, s3⟩ := robust_fit (xs := xs) c1
    obtain ⟨l1, l4, n8⟩ := scOk_len s1
    obtain ⟨a0, c0, i0, l0⟩ := nest_first Ns (by omega)
    cases c2 : l2OrderL (len0 xss) xs
    · rw [← e2, c2] at r2
      simp -implicitDefEqProofs [-indexAddrP_some, CL_ret r1, CH_at r1, c1, i0, l0, CL_ret r2, CH_at r2]
      exact bad (by rw [e, c2])
    · rw [← e2, c2] at r2
      rw [sV, e, c2, if_pos rfl] at hK
      have S := scOk_sc Ns s1
      have ox := ord_of c2
      have ho := inB_of s3
      simp -implicitDefEqProofs [-indexAddrP_some, CL_ret r1, CH_at r1, c1, i0, l0, CL_ret r2, CH_at r2]
      refine CL_post (scenarioValues_run S hus ox ho) fun v2 h2 ⟨hp2, ho2⟩ => ?_
      obtain ⟨b1, b2, b3, rfl⟩ : ∃ a n c, v2 = .slice a n c := by obtain ⟨a, c, e⟩ := ho2.sees.shape; exact ⟨_, _, _, e⟩
      simp -implicitDefEqProofs
      exact onK hK ⟨pre_gcU hp2, _, rfl, Sees.gcU ho2.sees fun g => plainT (r := [_]) g⟩
theorem specScenarioValues_run (N : Nest h v encJ 4 xss vs) (hu : Ints h vo xs) (hn : xss.length ≤ 2 ^ 40) (hi : ∀ x ∈ xss, x.length ≤ 2 ^ 40) (hx : xs.length ≤ 2 ^ 40) :
    RunsC P G n_spec_ScenarioValues [v, vo, .int .i64 o] h fun w h' => h <+: h' ∧ ∃ b, w = .tuple #[b, .bool (fitB xss xs o)] ∧ Ints h' b (sV xss xs o) := by
  refine hideC fun K hK => enter_run e_spec_ScenarioValues (by simp) ?_
  have Ns := N
  have hus := hu
  have r1 := l11Fits_run (o := o) Ns hus hn hi hx
  obtain ⟨oa, c, rfl⟩ := N.shape
  obtain ⟨ob, cb, rfl⟩ := hu.shapeT
  cases c1 : fitB xss xs o
  · rw [sV, c1, if_neg (by simp)] at hK
    simp -implicitDefEqProofs [CL_ret r1, c1]
    exact onK hK ⟨List.prefix_rfl, _, rfl, ⟨by simp, none, 0, rfl, .inl ⟨rfl, rfl, rfl⟩⟩⟩
  · rw [sV, c1, if_pos rfl] at hK
    obtain ⟨s1, ox, ho, _⟩ := fitB_sc c1
    have S := scOk_sc Ns s1
    simp -implicitDefEqProofs [CL_ret r1, c1]
    refine CL_post (l11Values_run S hus ox ho) fun v2 h2 ⟨hp2, ho2⟩ => ?_
    obtain ⟨b1, b2, b3, rfl⟩ : ∃ a n c, v2 = .slice a n c := by obtain ⟨a, c, e⟩ := ho2.sees.shape; exact ⟨_, _, _, e⟩
    simp -implicitDefEqProofs
    exact onK hK ⟨pre_gcU hp2, _, rfl, Sees.gcU ho2.sees fun g => plainT (r := [_]) g⟩
theorem implGreatestRegret_run (N : Nest h v encJ 4 xss vs) (hu : Ints h vo xs) (hn : xss.length ≤ 2 ^ 40) (hi : ∀ x ∈ xss, x.length ≤ 2 ^ 40) (hx : xs.length ≤ 2 ^ 40) :
    Ret P G n_impl_GreatestRegret [v, vo, .int .i64 o] h (.tuple #[.int .i64 (gR xss xs o), .int .i64 (gA xss xs o), .bool (fitB xss xs o)]) h := by
  refine enter_run e_impl_GreatestRegret (by simp) ?_
  have Ns := N
  have hus := hu
  have r1 := areRobust_run (o := o) Ns hn hi
  rw [show (scOk xss && inB o 1 8) = scB xss o from rfl] at r1
  have r2 := isOrder_run (n := len0 xss) hus hx
  obtain ⟨oa, c, rfl⟩ := N.shape
  obtain ⟨ob, cb, rfl⟩ := hu.shapeT
  cases c1 : scB xss o
  · have e := robust_no (xs := xs) c1
    simp -implicitDefEqProofs [CL_ret r1, CH_at r1, c1, gR, gA, e]
  · obtain ⟨e, e2, s1, s3⟩ := robust_fit (xs := xs) c1
    obtain ⟨l1, l4, n8⟩ := scOk_len s1
    obtain ⟨a0, c0, i0, l0⟩ := nest_first Ns (by omega)
    cases c2 : l2OrderL (len0 xss) xs
    · rw [← e2, c2] at r2
      have e' : fitB xss xs o = false := by rw [e, c2]
      simp -implicitDefEqProofs [-indexAddrP_some, CL_ret r1, CH_at r1, c1, i0, l0, CL_ret r2, CH_at r2, gR, gA, e']
    · rw [← e2, c2] at r2
      have e' : fitB xss xs o = true := by rw [e, c2]
      have S := scOk_sc Ns s1
      have ox := ord_of c2
      have ho := inB_of s3
      have LB := S.bests (o := o)
      simp -implicitDefEqProofs [-indexAddrP_some, CL_ret r1, CH_at r1, c1, i0, l0, CL_ret r2, CH_at r2, gR, gA, e']
      refine CL_post (scenarioValues_run S hus ox ho) fun v2 h2 ⟨hp2, ho2⟩ => ?_
      have H2 := (Holds.start (h := h)).call hp2 ho2
      obtain ⟨b1, b2, b3, rfl⟩ : ∃ a n c, v2 = .slice a n c := by obtain ⟨a, c, e⟩ := ho2.sees.shape; exact ⟨_, _, _, e⟩
      simp -implicitDefEqProofs
      refine CL_post (bestValues_run (S.pre H2.pre) ho) fun v3 h3 ⟨hp3, ho3⟩ => ?_
      have H3 := H2.ext hp3
      obtain ⟨d1, d2, d3, rfl⟩ : ∃ a n c, v3 = .slice a n c := by obtain ⟨a, c, e⟩ := ho3.sees.shape; exact ⟨_, _, _, e⟩
      simp -implicitDefEqProofs
      refine CL_post (greatest_run (H3.sees 0 rfl) ho3.sees ((S.pre H3.pre).ld ox LB)) fun v4 h4 ⟨e4, ev4⟩ => ?_
      subst e4
      subst ev4
      simp -implicitDefEqProofs
      exact gcP H3.pre rfl
theorem specGreatestRegret_run (N : Nest h v encJ 4 xss vs) (hu : Ints h vo xs) (hn : xss.length ≤ 2 ^ 40) (hi : ∀ x ∈ xss, x.length ≤ 2 ^ 40) (hx : xs.length ≤ 2 ^ 40) :
    Ret P G n_spec_GreatestRegret [v, vo, .int .i64 o] h (.tuple #[.int .i64 (gR xss xs o), .int .i64 (gA xss xs o), .bool (fitB xss xs o)]) h := by
  refine enter_run e_spec_GreatestRegret (by simp) ?_
  have Ns := N
  have hus := hu
  have r1 := l11Fits_run (o := o) Ns hus hn hi hx
  obtain ⟨oa, c, rfl⟩ := N.shape
  obtain ⟨ob, cb, rfl⟩ := hu.shapeT
  cases c1 : fitB xss xs o
  · simp -implicitDefEqProofs [CL_ret r1, c1, gR, gA]
  · obtain ⟨s1, ox, ho, _⟩ := fitB_sc c1
    have S := scOk_sc Ns s1
    have LB := S.bests (o := o)
    simp -implicitDefEqProofs [CL_ret r1, c1, gR, gA]
    refine CL_post (l11Values_run S hus ox ho) fun v2 h2 ⟨hp2, ho2⟩ => ?_
    have H2 := (Holds.start (h := h)).call hp2 ho2
    obtain ⟨b1, b2, b3, rfl⟩ : ∃ a n c, v2 = .slice a n c := by obtain ⟨a, c, e⟩ := ho2.sees.shape; exact ⟨_, _, _, e⟩
    simp -implicitDefEqProofs
    refine CL_post (l11Bests_run (S.pre H2.pre) ho) fun v3 h3 ⟨hp3, ho3⟩ => ?_
    have H3 := H2.ext hp3
    obtain ⟨d1, d2, d3, rfl⟩ : ∃ a n c, v3 = .slice a n c := by obtain ⟨a, c, e⟩ := ho3.sees.shape; exact ⟨_, _, _, e⟩
    simp -implicitDefEqProofs
    refine CL_post (l11Worst_run (H3.sees 0 rfl) ho3.sees ((S.pre H3.pre).ld ox LB)) fun v4 h4 ⟨e4, ev4⟩ => ?_
    subst e4
    subst ev4
    simp -implicitDefEqProofs
    exact gcP H3.pre rfl
end
end Go.Pm.PP

/- The least greatest values and regrets, as the programs tell them. -/
set_option linter.unusedVariables false
set_option linter.unusedSimpArgs false
set_option maxRecDepth 4000
set_option maxHeartbeats 8000000
namespace Go.Pm.PP
open Go.Pm Go.Proofs Go.Pm.PE
def zeL (xss : List (List Job)) : List Int := List.replicate xss.length 0
def lstR (xss : List (List Job)) (o : Int) (ls : List Int) : Sr := if scB xss o = true then leastR (regV o xss ls) (len0 xss) else sr0
theorem zeL_lb {xss : List (List Job)} : Lb xss (zeL xss) := ⟨by simp [zeL], fun i hi => by
  have : gE (zeL xss) i = 0 := by unfold gE zeL; simp [hi]
  omega⟩
section
variable {h : Hp} {v vo : Value} {xss : List (List Job)} {vs : List Value} {xs : List Int} {o : Int}
theorem nilI {h : Hp} : Ints h (.slice none 0 0) ([] : List Int) := ⟨by simp, none, 0, rfl, .inl ⟨rfl, rfl, rfl⟩⟩
theorem implLeastWorst_run (N : Nest h v encJ 4 xss vs) (hn : xss.length ≤ 2 ^ 40) (hi : ∀ x ∈ xss, x.length ≤ 2 ^ 40) :
    RunsC P G n_impl_LeastWorst [v, .int .i64 o] h fun w h' => h <+: h' ∧ ∃ b, w = .tuple #[b, .int .i64 (lstR xss o (zeL xss)).v, .bool (scB xss o)] ∧ Ints h' b (lstR xss o (zeL xss)).o := by
  refine hideC fun K hK => enter_run e_impl_LeastWorst (by simp) ?_
  have Ns := N
  have r1 := areRobust_run (o := o) Ns hn hi
  rw [show (scOk xss && inB o 1 8) = scB xss o from rfl] at r1
  obtain ⟨oa, c, rfl⟩ := N.shape
  cases c1 : scB xss o
  · rw [lstR, c1, if_neg (by simp)] at hK
    simp -implicitDefEqProofs [CL_ret r1, c1]
    exact onK hK ⟨List.prefix_rfl, _, rfl, nilI⟩
  · rw [lstR, c1, if_pos rfl] at hK
    obtain ⟨_, _, s1, s3⟩ := robust_fit (xs := []) c1
    have S := scOk_sc Ns s1
    have ho := inB_of s3
    obtain ⟨vz, h1, mk, H1, hp1, oz, rfl⟩ := make_I (Holds.start (h := h)) (n := xss.length) hn
    simp -implicitDefEqProofs [CL_ret r1, c1, mk]
    refine CL_post (leastGreatest_run (S.pre H1.pre) (H1.sees 0 rfl) (zeL_lb (xss := xss)) ho) fun w h2 ⟨hp2, vf, ev, s2⟩ => ?_
    subst ev
    obtain ⟨b1, b2, b3, rfl⟩ : ∃ a n c, vf = .slice a n c := by obtain ⟨a, c, e⟩ := s2.shape; exact ⟨_, _, _, e⟩
    simp -implicitDefEqProofs
    exact onK hK ⟨pre_gcU (H1.pre.trans hp2), _, rfl, Sees.gcU s2 fun g => plainT (r := [_, _]) g⟩
theorem implLeastRegret_run (N : Nest h v encJ 4 xss vs) (hn : xss.length ≤ 2 ^ 40) (hi : ∀ x ∈ xss, x.length ≤ 2 ^ 40) :
    RunsC P G n_impl_LeastRegret [v, .int .i64 o] h fun w h' => h <+: h' ∧ ∃ b, w = .tuple #[b, .int .i64 (lstR xss o (bestsL o xss)).v, .bool (scB xss o)] ∧ Ints h' b (lstR xss o (bestsL o xss)).o := by
  refine hideC fun K hK => enter_run e_impl_LeastRegret (by simp) ?_
  have Ns := N
  have r1 := areRobust_run (o := o) Ns hn hi
  rw [show (scOk xss && inB o 1 8) = scB xss o from rfl] at r1
  obtain ⟨oa, c, rfl⟩ := N.shape
  cases c1 : scB xss o
  · rw [lstR, c1, if_neg (by simp)] at hK
    simp -implicitDefEqProofs [CL_ret r1, c1]
    exact onK hK ⟨List.prefix_rfl, _, rfl, nilI⟩
  · rw [lstR, c1, if_pos rfl] at hK
    obtain ⟨_, _, s1, s3⟩ := robust_fit (xs := []) c1
    have S := scOk_sc Ns s1
    have ho := inB_of s3
    simp -implicitDefEqProofs [CL_ret r1, c1]
    refine CL_post (bestValues_run S ho) fun v1 h1 ⟨hp1, ho1⟩ => ?_
    have H1 := (Holds.start (h := h)).call hp1 ho1
    obtain ⟨d1, d2, d3, rfl⟩ : ∃ a n c, v1 = .slice a n c := by obtain ⟨a, c, e⟩ := ho1.sees.shape; exact ⟨_, _, _, e⟩
    simp -implicitDefEqProofs
    refine CL_post (leastGreatest_run (S.pre H1.pre) (H1.sees 0 rfl) (S.bests (o := o)) ho) fun w h2 ⟨hp2, vf, ev, s2⟩ => ?_
    subst ev
    obtain ⟨b1, b2, b3, rfl⟩ : ∃ a n c, vf = .slice a n c := by obtain ⟨a, c, e⟩ := s2.shape; exact ⟨_, _, _, e⟩
    simp -implicitDefEqProofs
    exact onK hK ⟨pre_gcU (H1.pre.trans hp2), _, rfl, Sees.gcU s2 fun g => plainT (r := [_, _]) g⟩
theorem specLeastWorst_run (N : Nest h v encJ 4 xss vs) (hn : xss.length ≤ 2 ^ 40) (hi : ∀ x ∈ xss, x.length ≤ 2 ^ 40) :
    RunsC P G n_spec_LeastWorst [v, .int .i64 o] h fun w h' => h <+: h' ∧ ∃ b, w = .tuple #[b, .int .i64 (lstR xss o (zeL xss)).v, .bool (scB xss o)] ∧ Ints h' b (lstR xss o (zeL xss)).o := by
  refine hideC fun K hK => enter_run e_spec_LeastWorst (by simp) ?_
  have Ns := N
  have r1 := l11Lists_run Ns hn hi
  obtain ⟨oa, c, rfl⟩ := N.shape
  have bad : scB xss o = false → K (.tuple #[.slice none 0 0, .int .i64 0, .bool false]) h := fun e => by
    rw [lstR, e, if_neg (by simp)] at hK
    exact onK hK ⟨List.prefix_rfl, _, rfl, nilI⟩
  cases c0 : scOk xss
  · simp -implicitDefEqProofs [CL_ret r1, CH_at r1, c0]
    exact bad (by rw [scB, c0]; rfl)
  cases c9 : inB o 1 8
  · simp -implicitDefEqProofs [CL_ret r1, CH_at r1, c0, CL_ret l2Objective_run, CH_at l2Objective_run, c9]
    exact bad (by rw [scB, c9, Bool.and_false])
  have c1 : scB xss o = true := by rw [scB, c0, c9]; rfl
  rw [lstR, c1, if_pos rfl] at hK
  have S := scOk_sc Ns c0
  have ho := inB_of c9
  obtain ⟨vz, h1, mk, H1, hp1, oz, rfl⟩ := make_I (Holds.start (h := h)) (n := xss.length) hn
  simp -implicitDefEqProofs [CL_ret r1, CH_at r1, c0, CL_ret l2Objective_run, CH_at l2Objective_run, c9, mk]
  refine CL_post (l11Least_run ho S.n8 (zeL_lb (xss := xss)) (k := len0 xss) (b := sr0) (S.pre H1.pre) nilI (H1.sees 0 rfl) nilI (by simp) (fun x hx => by cases hx) List.nodup_nil (by simp [sr0])) fun w h2 ⟨hp2, hb2, vo2, ev, O2⟩ => ?_
  subst ev
  rw [least_dfs] at O2 ⊢
  obtain ⟨b1, b2, b3, rfl⟩ : ∃ a n c, vo2 = .slice a n c := by obtain ⟨a, c, e⟩ := O2.shape; exact ⟨_, _, _, e⟩
  simp -implicitDefEqProofs
  exact onK hK ⟨pre_gcU ((H1.pre.trans hp2).trans (List.prefix_append ..)), _, rfl, Sees.gcU (O2.pre (List.prefix_append ..)) fun g => plainT (r := [_, _]) g⟩
theorem specLeastRegret_run (N : Nest h v encJ 4 xss vs) (hn : xss.length ≤ 2 ^ 40) (hi : ∀ x ∈ xss, x.length ≤ 2 ^ 40) :
    RunsC P G n_spec_LeastRegret [v, .int .i64 o] h fun w h' => h <+: h' ∧ ∃ b, w = .tuple #[b, .int .i64 (lstR xss o (bestsL o xss)).v, .bool (scB xss o)] ∧ Ints h' b (lstR xss o (bestsL o xss)).o := by
  refine hideC fun K hK => enter_run e_spec_LeastRegret (by simp) ?_
  have Ns := N
  have r1 := l11Lists_run Ns hn hi
  obtain ⟨oa, c, rfl⟩ := N.shape
  have bad : scB xss o = false → K (.tuple #[.slice none 0 0, .int .i64 0, .bool false]) h := fun e => by
    rw [lstR, e, if_neg (by simp)] at hK
    exact onK hK ⟨List.prefix_rfl, _, rfl, nilI⟩
  cases c0 : scOk xss
  · simp -implicitDefEqProofs [CL_ret r1, CH_at r1, c0]
    exact bad (by rw [scB, c0]; rfl)
  cases c9 : inB o 1 8
  · simp -implicitDefEqProofs [CL_ret r1, CH_at r1, c0, CL_ret l2Objective_run, CH_at l2Objective_run, c9]
    exact bad (by rw [scB, c9, Bool.and_false])
  have c1 : scB xss o = true := by rw [scB, c0, c9]; rfl
  rw [lstR, c1, if_pos rfl] at hK
  have S := scOk_sc Ns c0
  have ho := inB_of c9
  simp -implicitDefEqProofs [CL_ret r1, CH_at r1, c0, CL_ret l2Objective_run, CH_at l2Objective_run, c9]
  refine CL_post (l11Bests_run S ho) fun v1 h1 ⟨hp1, ho1⟩ => ?_
  have H1 := (Holds.start (h := h)).call hp1 ho1
  obtain ⟨d1, d2, d3, rfl⟩ : ∃ a n c, v1 = .slice a n c := by obtain ⟨a, c, e⟩ := ho1.sees.shape; exact ⟨_, _, _, e⟩
  simp -implicitDefEqProofs
  refine CL_post (l11Least_run ho S.n8 (S.bests (o := o)) (k := len0 xss) (b := sr0) (S.pre H1.pre) nilI (H1.sees 0 rfl) nilI (by simp) (fun x hx => by cases hx) List.nodup_nil (by simp [sr0])) fun w h2 ⟨hp2, hb2, vo2, ev, O2⟩ => ?_
  subst ev
  rw [least_dfs] at O2 ⊢
  obtain ⟨b1, b2, b3, rfl⟩ : ∃ a n c, vo2 = .slice a n c := by obtain ⟨a, c, e⟩ := O2.shape; exact ⟨_, _, _, e⟩
  simp -implicitDefEqProofs
  exact onK hK ⟨pre_gcU ((H1.pre.trans hp2).trans (List.prefix_append ..)), _, rfl, Sees.gcU (O2.pre (List.prefix_append ..)) fun g => plainT (r := [_, _]) g⟩
theorem specAreScenarios_run (N : Nest h v encJ 4 xss vs) (hn : xss.length ≤ 2 ^ 40) (hi : ∀ x ∈ xss, x.length ≤ 2 ^ 40) : Ret P G n_spec_AreScenarios [v] h (.bool (scOk xss)) h := by
  refine enter_run e_spec_AreScenarios (by simp) ?_
  have r1 := l11Lists_run N hn hi
  obtain ⟨oa, c, rfl⟩ := N.shape
  simp -implicitDefEqProofs [CL_ret r1]
end
/-! ### plain laws -/
theorem least_fold {f : List Int → Int} : ∀ {l : List (List Int)} {b : Sr} {S : List Int → Prop}, (∀ xs, xs ∈ l → S xs) → (b.c = 0 ∨ (b.c = 1 ∧ f b.o = b.v ∧ S b.o)) →
    (l = [] ∧ l.foldl (updG f) b = b) ∨ ((l.foldl (updG f) b).c = 1 ∧ f (l.foldl (updG f) b).o = (l.foldl (updG f) b).v ∧ S (l.foldl (updG f) b).o ∧ (b.c = 0 ∨ (l.foldl (updG f) b).v ≤ b.v) ∧ ∀ xs, xs ∈ l → (l.foldl (updG f) b).v ≤ f xs)
  | [], b, S, _, _ => .inl ⟨rfl, rfl⟩
  | x :: l, b, S, hS, hb => by
    right
    rw [List.foldl_cons]
    have hx := hS x (List.mem_cons_self ..)
    have key : ((updG f b x).c = 1 ∧ f (updG f b x).o = (updG f b x).v ∧ S (updG f b x).o) ∧ (updG f b x).v ≤ f x ∧ (b.c = 0 ∨ (updG f b x).v ≤ b.v) := by
      unfold updG
      split
      · rename_i g
        refine ⟨⟨rfl, rfl, hx⟩, by simp, ?_⟩
        rcases g with g | g
        · exact .inl g
        · exact .inr (by simp only; omega)
      · rename_i g
        rcases hb with h0 | ⟨h1, h3, h4⟩
        · exact absurd (.inl h0) g
        · have : ¬ f x < b.v := fun h => g (.inr h)
          exact ⟨⟨h1, h3, h4⟩, by omega, .inr (Int.le_refl _)⟩
    obtain ⟨k1, k2, k3⟩ := key
    rcases least_fold (l := l) (b := updG f b x) (S := S) (fun y hy => hS y (List.mem_cons_of_mem _ hy)) (.inr k1) with ⟨e, h⟩ | ⟨h1, h2, h3, h4, h5⟩
    · subst e
      rw [List.foldl_nil]
      refine ⟨k1.1, k1.2.1, k1.2.2, k3, fun xs hxs => ?_⟩
      rcases List.mem_cons.1 hxs with rfl | g
      · exact k2
      · cases g
    · have h4' : (l.foldl (updG f) (updG f b x)).v ≤ (updG f b x).v := by
        rcases h4 with g | g
        · rw [k1.1] at g; omega
        · exact g
      refine ⟨h1, h2, h3, ?_, fun xs hxs => ?_⟩
      · rcases k3 with g | g
        · exact .inl g
        · exact .inr (by omega)
      · rcases List.mem_cons.1 hxs with rfl | g
        · omega
        · exact h5 xs g
theorem least_facts {f : List Int → Int} {n : Nat} : f (leastR f n).o = (leastR f n).v ∧ Ord n (leastR f n).o ∧ ∀ xs, Ord n xs → (leastR f n).v ≤ f xs := by
  have h0 : upTo n ∈ ordsL n := perms_all (upTo_len n) (List.Perm.refl _)
  rcases least_fold (f := f) (l := ordsL n) (b := sr0) (S := Ord n) (fun xs hx => ords_ord hx) (.inl rfl) with ⟨e, _⟩ | ⟨h1, h2, h3, _, h5⟩
  · rw [e] at h0; cases h0
  · exact ⟨h2, h3, fun xs hx => h5 xs (ord_mem hx)⟩
end Go.Pm.PP

/- Draws: scenarios. -/
set_option linter.unusedVariables false
set_option linter.unusedSimpArgs false
set_option maxRecDepth 4000
set_option maxHeartbeats 16000000
namespace Go.Pm
theorem gc_np {h h' : Hp} {u : Value} (hu : plain u = false) : gc h h' u = h' := by
  rcases gc_cases h h' u with g | ⟨hp, _⟩
  · exact g
  · rw [hu] at hp; cases hp
theorem inL_one' {α : Type} {enc : α → List Value} {sz : Nat} {u : Value} {x : List α} : inL enc sz [u] [x] = [.own u sz (x.map enc)] := rfl
end Go.Pm
namespace Go.Pm.PP
open Go.Pm Go.Proofs Go.Pm.PE
section
variable {h0 h : Hp} {r n : Nat} {vc : Value} {L L' : List Asn}
theorem Cur.perm (C : Cur h0 h r vc n L) (p : L.Perm L') : Cur h0 h r vc n L' := by
  obtain ⟨a, s, h1, h2, H⟩ := C
  exact ⟨a, s, h1, h2, H.perm (List.Perm.cons _ p)⟩
/-- Lists of jobs of one's own. -/
def jss (v : Value) (us : List Value) (xss : List (List Job)) : List Asn := [.own v 1 (us.map encV)] ++ inL encJ 4 us xss
theorem Cur.nestJ {v : Value} {us : List Value} {xss : List (List Job)} (C : Cur h0 h r vc n (L ++ jss v us xss)) (hl : us.length = xss.length) : Nest h v encJ 4 xss us := by
  obtain ⟨a, s, h1, h2, H⟩ := C
  have H2 : Holds h0 h ((cu r vc a s :: L ++ [.own v 1 (us.map encV)]) ++ (inL encJ 4 us xss ++ [])) := by
    rw [List.append_nil, List.append_assoc]; exact H
  exact H2.nest (o := L.length + 1) (by rw [List.cons_append, List.getElem?_cons_succ]; exact snoc_get) hl
/-- A list of jobs of one's own is put at the end. -/
theorem Cur.pushN {v u : Value} {us : List Value} {xss : List (List Job)} {x : List Job} (hl : us.length = xss.length) (C : Cur h0 h r vc n ((L ++ jss v us xss) ++ [.own u 4 (x.map encJ)])) (hn : us.length ≤ 2 ^ 40) :
    ∃ v' h', appendP P (h ++ [some ⟨[u], 1, false⟩]) t_S_S_impl_Job v (.slice (some ⟨h.length, 0, some 1⟩) 1 1) = some (v', h') ∧ Cur h0 h' r vc n (L ++ jss v' (us ++ [u]) (xss ++ [x])) := by
  obtain ⟨a, s, h1, h2, H⟩ := C
  have hone : one u = true := by
    have so := H.sees ((L ++ jss v us xss).length + 1) (v := u) (sz := 4) (els := x.map encJ) (by rw [List.getElem?_cons_succ]; exact snoc_get)
    obtain ⟨a, c, e⟩ := so.shape
    rw [e]; rfl
  have hget : (cu r vc a s :: ((L ++ jss v us xss) ++ [.own u 4 (x.map encJ)]))[L.length + 1]? = some (.own v 1 (us.map encV)) := by
    rw [List.getElem?_cons_succ, List.append_assoc, List.getElem?_append_right (Nat.le_refl _), Nat.sub_self]; rfl
  obtain ⟨v', h', g1, g2, _⟩ := push_NJ0 H (L.length + 1) hget u hone hn
  refine ⟨v', h', g1, a, s, h1, h2, ?_⟩
  have e : (cu r vc a s :: ((L ++ jss v us xss) ++ [.own u 4 (x.map encJ)])).set (L.length + 1) (.own v' 1 ((us ++ [u]).map encV)) = cu r vc a s :: (L ++ jss v' (us ++ [u]) (xss ++ [x])) := by
    rw [List.set_cons_succ, List.append_assoc, List.set_append_right (h := Nat.le_refl _), Nat.sub_self]
    unfold jss
    rw [inL_snoc hl]
    simp
  rw [e] at g2
  exact g2
theorem Cur.appJ {u w : Value} {xs ys : List Job} (C : Cur h0 h r vc n (L ++ [.own u 4 (xs.map encJ)])) (s : Sees h w 4 (ys.map encJ)) (hn : xs.length + ys.length ≤ 2 ^ 40) : ∃ u' h', appendP P h t_S_impl_Job u w = some (u', h') ∧ Cur h0 h' r vc n (L ++ [.own u' 4 ((xs ++ ys).map encJ)]) := by
  obtain ⟨a, s', h1, h2, H⟩ := C
  obtain ⟨u', h', g1, g2, _⟩ := app_J H (L.length + 1) (by rw [List.getElem?_cons_succ]; exact snoc_get) s hn
  refine ⟨u', h', g1, a, s', h1, h2, ?_⟩
  rw [List.set_cons_succ, List.set_append_right (h := Nat.le_refl _), Nat.sub_self] at g2
  exact g2
/-- A list of jobs of one's own takes another's place. -/
theorem Cur.putN {v u : Value} {us : List Value} {xss : List (List Job)} {x : List Job} {k : Nat} (hl : us.length = xss.length) (C : Cur h0 h r vc n ((L ++ jss v us xss) ++ [.own u 4 (x.map encJ)])) (hk : k < us.length) :
    ∃ h', storeP P h t_S_impl_Job u (.pointer (some (addP (base v) k))) = some h' ∧ Cur h0 h' r vc n (L ++ jss v (us.set k u) (xss.set k x)) := by
  obtain ⟨a, s, h1, h2, H⟩ := C
  have hone : one u = true := by
    have so := H.sees ((L ++ jss v us xss).length + 1) (v := u) (sz := 4) (els := x.map encJ) (by rw [List.getElem?_cons_succ]; exact snoc_get)
    obtain ⟨a, c, e⟩ := so.shape
    rw [e]; rfl
  have hget : (cu r vc a s :: ((L ++ jss v us xss) ++ [.own u 4 (x.map encJ)]))[L.length + 1]? = some (.own v 1 (us.map encV)) := by
    rw [List.getElem?_cons_succ, List.append_assoc, List.getElem?_append_right (Nat.le_refl _), Nat.sub_self]; rfl
  obtain ⟨h', g1, g2, _⟩ := put_NJ H (L.length + 1) hget hk u hone
  refine ⟨h', g1, a, s, h1, h2, ?_⟩
  have e : (cu r vc a s :: ((L ++ jss v us xss) ++ [.own u 4 (x.map encJ)])).set (L.length + 1) (.own v 1 ((us.set k u).map encV)) = (cu r vc a s :: L ++ [.own v 1 ((us.set k u).map encV)]) ++ (inL encJ 4 us xss ++ [.own u 4 (x.map encJ)]) := by
    rw [List.set_cons_succ, List.append_assoc, List.set_append_right (h := Nat.le_refl _), Nat.sub_self]
    unfold jss
    simp
  rw [e] at g2
  have g3 := g2.replace hl hk
  rw [List.append_nil, List.append_assoc] at g3
  exact g3
theorem nest_shape {v : Value} {us : List Value} {xss : List (List Job)} (C : Cur h0 h r vc n (L ++ jss v us xss)) (hl : us.length = xss.length) : ∃ a c, v = .slice a xss.length c := (C.nestJ hl).shape
theorem scenarios_run (B : By h0 vc) (C : Cur h0 h r vc n L) (hn : n ≤ 2 ^ 18) : RunsC P G n_spec_l1Cur_scenarios [.pointer (some ⟨r, 0, some 3⟩)] h fun v h' => ∃ (us : List Value) (xss : List (List Job)), us.length = xss.length ∧ xss.length ≤ 5 ∧ (∀ x, x ∈ xss → x.length ≤ 10) ∧ Cur h0 h' r vc (n + 1000) (L ++ jss v us xss) := by
  refine hideC fun K hK => enter_run e_spec_l1Cur_scenarios (by simp) ?_
  simp -implicitDefEqProofs
  refine CL_post (one_run B C (by omega) (k := 3) (by omega)) fun v h1 ⟨b, ev, C1⟩ => ?_
  subst ev
  simp -implicitDefEqProofs
  refine CL_post (someJobs_run B C1 (by omega) (b := b) (most := 4) (by omega)) fun f h2 ⟨js, hjl, C2⟩ => ?_
  obtain ⟨fa, fc, rfl⟩ : ∃ a c, f = .slice a js.length c := C2.seesJ.shapeT
  have C3 : Cur h0 (h2 ++ [some ⟨[.slice fa js.length fc], 1, false⟩]) r vc (n + 202) (L ++ jss (.slice (some ⟨h2.length, 0, some 1⟩) 1 1) [.slice fa js.length fc] [js]) := by
    obtain ⟨a, s, g1, g2, H⟩ := C2
    refine Cur.perm (L := (L ++ [.own (.slice fa js.length fc) 4 (js.map encJ)]) ++ [.own (.slice (some ⟨h2.length, 0, some 1⟩) 1 1) 1 (([.slice fa js.length fc] : List Value).map encV)]) ⟨a, s, g1, g2, ?_⟩ ?_
    · have := H.lit (sz := 1) (n := 1) (els := [[Value.slice fa js.length fc]]) (by simp) (by simp)
      exact this
    · rw [List.append_assoc]
      exact List.Perm.append_left L (List.Perm.swap _ _ _)
  have C4 := C3.lit [0, 1, 1, 2, 3]
  have C4' : Cur h0 (h2 ++ [some ⟨[.slice fa js.length fc], 1, false⟩, some ⟨([0, 1, 1, 2, 3] : List Int).map fun x => .int .i64 x, 1, false⟩]) r vc (n + 202) ((L ++ jss (.slice (some ⟨h2.length, 0, some 1⟩) 1 1) [.slice fa js.length fc] [js]) ++ [.own (.slice (some ⟨h2.length + 1, 0, some 5⟩) 5 5) 1 (([0, 1, 1, 2, 3] : List Int).map encI)]) := by
    rw [List.append_assoc h2, List.length_append] at C4
    exact C4
  simp -implicitDefEqProofs
  refine CL_post (among_run B C4' (by omega) snoc_get (xs := [0, 1, 1, 2, 3]) (by simp) (by simp)) fun v h3 ⟨x, ev, hx, C5'⟩ => ?_
  subst ev
  have C5 := C5'.weak
  have hx2 : 0 ≤ x ∧ x ≤ 3 := by
    simp only [List.mem_cons, List.not_mem_nil, or_false] at hx
    omega
  simp -implicitDefEqProofs
  refine R_loopO (fun m st h' => ∃ (us : List Value) (xss : List (List Job)) (v : Value), st = [(0, .pointer (some ⟨r, 0, some 3⟩)), (3, .slice fa js.length fc), (4, v), (5, .int .i64 m)] ∧ us.length = xss.length ∧ 1 ≤ xss.length ∧ xss.length + m ≤ 4 ∧ (∀ y, y ∈ xss → y.length ≤ 9) ∧ us[0]? = some (.slice fa js.length fc) ∧ xss[0]? = some js ∧ Cur h0 h' r vc (n + 204 + 100 * xss.length) (L ++ jss v us xss)) (fun I hI m st h' => ?_) (n := x.toNat)
    ⟨[.slice fa js.length fc], [js], .slice (some ⟨h2.length, 0, some 1⟩) 1 1, by first | (simp; done) | (simp; omega), rfl, by simp, by first | (simp; done) | (simp; omega), by first | (simp; done) | (simp; omega), rfl, rfl, C5.mono (by first | (simp; done) | (simp; omega))⟩
  rintro ⟨us, xss, v, rfl, hul, hx1, hx4, hin, hu0, hx0, C6⟩
  obtain ⟨va, vd, rfl⟩ := nest_shape C6 hul
  by_cases hm : 0 < m
  · have hm' : (0 : Int) < m := by omega
    have wm : IntKind.i64.wrap ((m : Int) - 1) = ((m - 1 : Nat) : Int) := by rw [wrap_ok] <;> omega
    simp -implicitDefEqProofs [hm, hm']
    refine R_loopO (fun m2 st h' => ∃ (i : Nat) (ks : List Job) (u : Value), i + m2 = js.length ∧ st = [(0, .pointer (some ⟨r, 0, some 3⟩)), (3, .slice fa js.length fc), (4, .slice va xss.length vd), (5, .int .i64 m), (6, u), (7, .int .i64 i)] ∧ ks.length = i ∧ Cur h0 h' r vc (n + 204 + 100 * xss.length + 10 * i) ((L ++ jss (.slice va xss.length vd) us xss) ++ [.own u 4 (ks.map encJ)])) (fun I2 hI2 m2 st h' => ?_) (n := js.length)
      ⟨0, [], .slice none 0 0, by omega, by simp, rfl, C6.nil Job encJ 4⟩
    rintro ⟨i, ks, u, hi, rfl, hks, C7⟩
    by_cases hlt : i < js.length
    · have hlt' : (i : Int) < js.length := by omega
      obtain ⟨ub, ud, rfl⟩ : ∃ a c, u = .slice a ks.length c := C7.seesJ.shapeT
      simp -implicitDefEqProofs [hlt, hlt']
      refine CL_post (one_run B C7 (by omega) (k := 4) (by omega)) fun v h8 ⟨b8, ev, C8⟩ => ?_
      subst ev
      simp -implicitDefEqProofs
      refine CL_post (job_run B C8 (by omega) (b := b8)) fun v h9 ⟨j, ev, C9⟩ => ?_
      subst ev
      obtain ⟨u', h10, ha, C10⟩ := C9.pushJ j (by omega)
      simp -implicitDefEqProofs [ha, winc hlt (show js.length ≤ 2 ^ 40 by omega)]
      exact ⟨m2 - 1, by omega, on hI2 ⟨i + 1, ks ++ [j], u', by omega, rfl, by simp [hks], C10.mono (by omega)⟩⟩
    · have hlt' : ¬ (i : Int) < js.length := by omega
      obtain ⟨v', h8, ha, C8⟩ := C7.pushN hul (by omega)
      obtain ⟨ub, ud, rfl⟩ : ∃ a c, u = .slice a ks.length c := C7.seesJ.shapeT
      simp -implicitDefEqProofs [hlt, hlt', ha, wm]
      refine ⟨m - 1, by omega, on hI ⟨us ++ [_], xss ++ [ks], v', by simp, by simp [hul], by simp, by simp; omega, fun y hy => ?_, ?_, ?_, C8.mono (by simp; omega)⟩⟩
      · rcases List.mem_append.1 hy with g | g
        · exact hin y g
        · rw [List.mem_singleton.1 g]; omega
      · rw [List.getElem?_append_left (by omega)]; exact hu0
      · rw [List.getElem?_append_left (by omega)]; exact hx0
  · have hm' : ¬ (0 : Int) < m := by omega
    have np : ∀ (a : Option Addr) (k c : Nat), plain (.slice a (k + 1) c) = false := fun a k c => by cases a <;> rfl
    simp -implicitDefEqProofs [hm, hm']
    refine CL_post (pick_run B C6 (by omega) (k := 40) (by omega)) fun v h8 ⟨q, ev, q0, _, _, C8⟩ => ?_
    subst ev
    by_cases c0 : q = 0
    · subst c0
      simp -implicitDefEqProofs
      refine onK hK ⟨[], [], rfl, by simp, by simp, ?_⟩
      exact C.gcO (w := .slice none 0 0) (sz := 1) (els := []) ((C8.weak.mono (by omega)).nil Value encV 1) (fun h => h)
    · by_cases c1 : q = 1
      · subst c1
        have hkx : xss.length - 1 < xss.length := by omega
        generalize hk : xss.length - 1 = k at hkx
        have wl : IntKind.i64.wrap ((xss.length : Int) - 1) = (k : Int) := by rw [wrap_ok] <;> omega
        obtain ⟨ys, hys, _⟩ := drop_at hkx
        have hyl := hin ys (List.mem_of_getElem? hys)
        obtain ⟨w0, ⟨ix, lx⟩, Jw⟩ := nest_at (C8.nestJ hul) hys
        obtain ⟨v9, h9, ha9, C9⟩ := (C8.nil Job encJ 4).appJ (xs := []) Jw (by simp; omega)
        rw [List.nil_append] at C9
        obtain ⟨wa, wb, wc, rfl⟩ : ∃ a n c, w0 = .slice a n c := by obtain ⟨a, c, e⟩ := Jw.shape; exact ⟨_, _, _, e⟩
        obtain ⟨xa, xc, rfl⟩ : ∃ a c, v9 = .slice a ys.length c := C9.seesJ.shapeT
        simp -implicitDefEqProofs [-indexAddrP_some, wl, ix, lx, ha9]
        refine CL_post (job_run B C9 (by omega) (b := false)) fun v h10 ⟨j, ev, C10⟩ => ?_
        subst ev
        obtain ⟨v11, h11, ha11, C11⟩ := C10.pushJ j (by omega)
        obtain ⟨_, ⟨ix2, _⟩, _⟩ := nest_at (C11.weak.nestJ hul) hys
        obtain ⟨h12, s12, C12⟩ := C11.putN hul (k := k) (by omega)
        obtain ⟨ya, yc, rfl⟩ : ∃ a c, v11 = .slice a (ys.length + 1) c := by obtain ⟨a, c, e⟩ := C11.seesJ.shapeT; exact ⟨a, c, by rw [e]; simp⟩
        simp -implicitDefEqProofs [-indexAddrP_some, ha11, ix2, s12]
        refine onK hK ⟨us.set k (.slice ya (ys.length + 1) yc), xss.set k (ys ++ [j]), by rw [List.length_set, List.length_set]; exact hul, by rw [List.length_set]; omega, fun y hy => ?_, ?_⟩
        · rcases List.mem_or_eq_of_mem_set hy with g | g
          · have := hin y g; omega
          · rw [g]; simp; omega
        · obtain ⟨k', hk'⟩ : ∃ k, xss.length = k + 1 := ⟨xss.length - 1, by omega⟩
          rw [gc_np (by rw [hk']; exact np ..)]
          exact C12.mono (by omega)
      · by_cases c2 : q = 2
        · subst c2
          simp -implicitDefEqProofs
          refine R_loopO (fun m st h' => ∃ (us : List Value) (xss : List (List Job)) (v : Value), st = [(3, .slice fa js.length fc), (4, v)] ∧ us.length = xss.length ∧ 1 ≤ xss.length ∧ xss.length + m = 5 ∧ (∀ y, y ∈ xss → y.length ≤ 9) ∧ us[0]? = some (.slice fa js.length fc) ∧ xss[0]? = some js ∧ Cur h0 h' r vc (n + 1000) (L ++ jss v us xss)) (fun I2 hI2 m2 st h' => ?_) (n := 5 - xss.length)
            ⟨us, xss, .slice va xss.length vd, by simp, hul, hx1, by omega, hin, hu0, hx0, C8.mono (by omega)⟩
          rintro ⟨us2, xss2, v2, rfl, hul2, hx12, hx42, hin2, hu02, hx02, C9⟩
          obtain ⟨vb, ve, rfl⟩ := nest_shape C9 hul2
          by_cases c9 : xss2.length < 5
          · have c9' : (xss2.length : Int) < 5 := by omega
            have Jf : Jobs h' (.slice fa js.length fc) js := (C9.nestJ hul2).inn 0 _ _ hu02 hx02
            obtain ⟨v10, h10, ha10, C10⟩ := (C9.nil Job encJ 4).appJ (xs := []) Jf (by simp; omega)
            rw [List.nil_append] at C10
            obtain ⟨v11, h11, ha11, C11⟩ := C10.pushN hul2 (by omega)
            obtain ⟨xa, xc, rfl⟩ : ∃ a c, v10 = .slice a js.length c := C10.seesJ.shapeT
            simp -implicitDefEqProofs [c9, c9', ha10, ha11]
            refine ⟨m2 - 1, by omega, on hI2 ⟨us2 ++ [_], xss2 ++ [js], v11, by simp, by simp [hul2], by simp, by simp; omega, fun y hy => ?_, ?_, ?_, C11⟩⟩
            · rcases List.mem_append.1 hy with g | g
              · exact hin2 y g
              · rw [List.mem_singleton.1 g]; exact hjl
            · rw [List.getElem?_append_left (by omega)]; exact hu02
            · rw [List.getElem?_append_left (by omega)]; exact hx02
          · have c9' : ¬ (xss2.length : Int) < 5 := by omega
            simp -implicitDefEqProofs [c9, c9']
            refine onK hK ⟨us2, xss2, hul2, by omega, fun y hy => by have := hin2 y hy; omega, ?_⟩
            obtain ⟨k, hk⟩ : ∃ k, xss2.length = k + 1 := ⟨xss2.length - 1, by omega⟩
            rw [gc_np (by rw [hk]; exact np ..)]
            exact C9
        · simp -implicitDefEqProofs [nb c0, nb c1, nb c2]
          refine onK hK ⟨us, xss, hul, by omega, fun y hy => by have := hin y hy; omega, ?_⟩
          obtain ⟨k, hk⟩ : ∃ k, xss.length = k + 1 := ⟨xss.length - 1, by omega⟩
          rw [gc_np (by rw [hk]; exact np ..)]
          exact C8.mono (by omega)
end
end Go.Pm.PP

/- FnScenarios in the small machine. -/
set_option linter.unusedVariables false
set_option linter.unusedSimpArgs false
set_option maxRecDepth 4000
set_option maxHeartbeats 16000000
namespace Go.Pm.PP
open Go.Pm Go.Proofs Go.Pm.PE
theorem nest_plain {h h' : Hp} {v : Value} {xss : List (List Job)} {us : List Value} (N : Nest h v encJ 4 xss us) (hp : plainC v = true) : Nest h' v encJ 4 xss [] ∧ us = [] := by
  have hs := N.out
  obtain ⟨a, c, e⟩ := hs.shape
  have hv : v = nilV ∧ us = [] := by
    obtain ⟨h2, oa, c', e', h3⟩ := hs
    rcases h3 with ⟨e1, e2, e3⟩ | ⟨r, o, x, e1, _⟩
    · have hu : us = [] := by simpa using e2
      subst hu
      rw [e', e1, e3]
      exact ⟨rfl, rfl⟩
    · rw [e', e1] at hp; cases hp
  obtain ⟨rfl, rfl⟩ := hv
  have hx : xss = [] := List.eq_nil_of_length_eq_zero (by have := N.len; simpa using this.symm)
  subst hx
  exact ⟨⟨⟨by simp, none, 0, rfl, .inl ⟨rfl, rfl, rfl⟩⟩, rfl, fun i u xs g => by simp at g⟩, rfl⟩
/-- At a function's end, for what is seen. -/
theorem nest_gc {h h' : Hp} {v u : Value} {xss : List (List Job)} {us : List Value} (N : Nest h' v encJ 4 xss us) (hu : plain u = true → plainC v = true) : ∃ us', Nest (gc h h' u) v encJ 4 xss us' := by
  rcases gc_cases h h' u with g | ⟨hp, g⟩ <;> rw [g]
  · exact ⟨us, N⟩
  · exact ⟨_, (nest_plain N (hu hp)).1⟩
theorem plainT2 {a b : Value} {r : List Value} (h : plain (.tuple (a :: b :: r).toArray) = true) : plainC b = true := by
  have : ((a :: b :: r).toArray : Array Value).toList.all plainC = true := h
  simp only [List.all_cons, Bool.and_eq_true] at this
  exact this.2.1
theorem DrawScenarioValues_run {h : Hp} {vc : Value} (B : By h vc) : RunsC P G n_spec_DrawScenarioValues [vc] h fun v h' => h <+: h' ∧ ∃ (xss : List (List Job)) (us : List Value) (xs : List Int) (o : Int) (u w : Value), v = .tuple #[u, w, .int .i64 o] ∧ xss.length ≤ 5 ∧ (∀ x, x ∈ xss → x.length ≤ 10) ∧ xs.length ≤ 11 ∧ Nest h' u encJ 4 xss us ∧ Ints h' w xs := by
  refine hideC fun K hK => enter_run e_spec_DrawScenarioValues (by simp) ?_
  have C0 : Cur h (h ++ [some ⟨[vc, .int .i64 0, .int .u64 0], 0, false⟩]) h.length vc 0 [] := ⟨0, 0, by omega, by omega, (Holds.start (h := h)).alloc _⟩
  obtain ⟨bs, Sb, hb, hbl⟩ := B
  have Bs : By h vc := ⟨bs, Sb, hb, hbl⟩
  obtain ⟨ob, cb, rfl⟩ := Sb.shapeT
  simp -implicitDefEqProofs
  refine CL_post (scenarios_run Bs C0 (by omega)) fun u h1 ⟨us, xss, hul, hx5, hin, C1⟩ => ?_
  have N1 := C1.nestJ hul
  obtain ⟨ua, uc, rfl⟩ := N1.shape
  have hl0 : len0 xss ≤ 10 := by
    unfold len0
    cases e : xss[0]? with
    | none => simp
    | some x => exact hin x (List.mem_of_getElem? e)
  have rest : ∀ {h1 : Hp} {n : Nat}, Cur h h1 h.length (.slice ob bs.length cb) 1000 ([] ++ jss (.slice ua xss.length uc) us xss) → n ≤ 10 → RunsC P G n_spec_l1Cur_order [.pointer (some ⟨h.length, 0, some 3⟩), .int .i64 n] h1 fun w h2 => ∃ xs : List Int, xs.length ≤ n + 1 ∧ Cur h h2 h.length (.slice ob bs.length cb) (1000 + 2 * n + 4) (([] ++ jss (.slice ua xss.length uc) us xss) ++ [.own w 1 (xs.map encI)]) := fun C hn => order_run Bs C (by omega) (by omega)
  have fin : ∀ {n : Nat} {w : Value} {h2 : Hp} {xs : List Int}, n ≤ 10 → xs.length ≤ n + 1 → Cur h h2 h.length (.slice ob bs.length cb) (1000 + 2 * n + 4) (([] ++ jss (.slice ua xss.length uc) us xss) ++ [.own w 1 (xs.map encI)]) →
      RunsC P G n_spec_l1Cur_objective [.pointer (some ⟨h.length, 0, some 3⟩)] h2 fun v h3 => ∃ o : Int, v = .int .i64 o ∧ K (.tuple #[.slice ua xss.length uc, w, .int .i64 o]) (gc h h3 (.tuple #[.slice ua xss.length uc, w, .int .i64 o])) := fun {n w h2 xs} hn hxs C2 => by
    refine RunsC.mono (objective_run Bs C2 (by omega)) fun v h3 ⟨o, ev, C3⟩ => ⟨o, ev, ?_⟩
    have s3 := C3.seesI
    have N3 := C3.weak.nestJ hul
    obtain ⟨us', N4⟩ := nest_gc (h := h) (u := .tuple #[.slice ua xss.length uc, w, .int .i64 o]) N3 fun g => plainT (r := [_, _]) g
    exact onK hK ⟨pre_gcU C3.pre, xss, us', xs, o, _, _, rfl, hx5, hin, by omega, N4, Sees.gcU s3 fun g => plainT2 (r := [_]) g⟩
  by_cases c : 0 < xss.length
  · have c' : (0 : Int) < xss.length := by omega
    obtain ⟨a0, c0, i0, l0⟩ := nest_first N1 c
    simp -implicitDefEqProofs [-indexAddrP_some, c, c', i0, l0]
    refine CL_post (rest C1 hl0) fun w h2 ⟨xs, hxl, C2⟩ => ?_
    simp -implicitDefEqProofs
    refine CL_post (fin hl0 hxl C2) fun v h3 ⟨o, ev, f⟩ => ?_
    subst ev
    simp -implicitDefEqProofs
    exact f
  · have c' : ¬ (0 : Int) < xss.length := by omega
    simp -implicitDefEqProofs [c, c']
    refine CL_post (rest (n := 0) C1 (by omega)) fun w h2 ⟨xs, hxl, C2⟩ => ?_
    simp -implicitDefEqProofs
    refine CL_post (fin (n := 0) (by omega) hxl C2) fun v h3 ⟨o, ev, f⟩ => ?_
    subst ev
    simp -implicitDefEqProofs
    exact f
theorem DrawGreatestRegret_run {h : Hp} {vc : Value} (B : By h vc) : RunsC P G n_spec_DrawGreatestRegret [vc] h fun v h' => h <+: h' ∧ ∃ (xss : List (List Job)) (us : List Value) (xs : List Int) (o : Int) (u w : Value), v = .tuple #[u, w, .int .i64 o] ∧ xss.length ≤ 5 ∧ (∀ x, x ∈ xss → x.length ≤ 10) ∧ xs.length ≤ 11 ∧ Nest h' u encJ 4 xss us ∧ Ints h' w xs := by
  refine hideC fun K hK => enter_run e_spec_DrawGreatestRegret (by simp) ?_
  obtain ⟨bs, Sb, hb, hbl⟩ := B
  have Bs : By h vc := ⟨bs, Sb, hb, hbl⟩
  obtain ⟨ob, cb, rfl⟩ := Sb.shapeT
  simp -implicitDefEqProofs
  refine CL_post (DrawScenarioValues_run Bs) fun v h1 ⟨hp, xss, us, xs, o, u, w, ev, h5, hin, hxl, N, X⟩ => ?_
  subst ev
  simp -implicitDefEqProofs
  obtain ⟨us', N4⟩ := nest_gc (h := h) (u := .tuple #[u, w, .int .i64 o]) N fun g => plainT (r := [_, _]) g
  exact onK hK ⟨pre_gcU hp, xss, us', xs, o, _, _, rfl, h5, hin, hxl, N4, Sees.gcU X fun g => plainT2 (r := [_]) g⟩
end Go.Pm.PP

/- FnScenarios in the small machine. -/
set_option linter.unusedVariables false
set_option linter.unusedSimpArgs false
set_option maxRecDepth 4000
set_option maxHeartbeats 16000000
namespace Go.Pm.PP
open Go.Pm Go.Proofs Go.Pm.PE
theorem gE_zeL {xss : List (List Job)} {i : Nat} : gE (zeL xss) i = 0 := by
  unfold gE zeL
  rw [List.getElem?_replicate]
  split <;> rfl
theorem wst_zeL {xss : List (List Job)} {vs : List Int} : wstL vs (zeL xss) = (List.range' 0 vs.length).foldl (fun a i => max a (gE vs i)) (gE vs 0) := by
  have e : ∀ i, dfE vs (zeL xss) i = gE vs i := fun i => by unfold dfE; rw [gE_zeL, Int.sub_zero]
  unfold wstL
  rw [e 0]
  congr 1
  funext a i
  rw [e i]
theorem law_Scenarios {h : Hp} {vc : Value} {bs : List Int} (Sb : Sees h vc 1 (bs.map encU)) (hb : ∀ b, b ∈ bs → 0 ≤ b ∧ b ≤ 255) : Ret P G n_laws_FnScenarios [vc] h (.bool true) h := by
  refine enter_run e_laws_FnScenarios (by simp) ?_
  have r0 := rBig_run Sb
  by_cases c0 : (65536 : Int) < bs.length
  · simp -implicitDefEqProofs [CL_ret r0, c0]
  have B : By h vc := ⟨bs, Sb, hb, by omega⟩
  obtain ⟨ob, cb, rfl⟩ := Sb.shapeT
  simp -implicitDefEqProofs [CL_ret r0, c0]
  refine CL_post (DrawGreatestRegret_run B) fun v h1 ⟨hp1, xss, us, xs, o, u, w, ev, hx5, hin, hxl, N, X⟩ => ?_
  subst ev
  have hn : xss.length ≤ 2 ^ 40 := by omega
  have hi : ∀ x ∈ xss, x.length ≤ 2 ^ 40 := fun x hx => by have := hin x hx; omega
  have hx : xs.length ≤ 2 ^ 40 := by omega
  have Ns := N
  have Xs := X
  obtain ⟨ja, jc, rfl⟩ := N.shape
  obtain ⟨xa, xc, rfl⟩ := X.shapeT
  have r1 := implGreatestRegret_run (o := o) Ns Xs hn hi hx
  have r2 := specGreatestRegret_run (o := o) Ns Xs hn hi hx
  simp -implicitDefEqProofs [CL_ret r1, CL_ret r2]
  refine CL_post (implScenarioValues_run (o := o) Ns Xs hn hi hx) fun v h2 ⟨p2, b1, ev, B1⟩ => ?_
  subst ev
  simp -implicitDefEqProofs
  refine CL_post (specScenarioValues_run (o := o) (Ns.pre p2) (Xs.pre p2) hn hi hx) fun v h3 ⟨p3, b2, ev, B2⟩ => ?_
  subst ev
  have p13 := p2.trans p3
  have hsl : (sV xss xs o).length ≤ 2 ^ 40 := by
    unfold sV; split
    · simp [valsL]; omega
    · simp
  have q1 := rInts_run (B1.pre p3) B2 hsl
  simp -implicitDefEqProofs [CL_ret q1]
  have hll : ∀ ls, (lstR xss o ls).o.length ≤ 2 ^ 40 := fun ls => by
    unfold lstR; split
    · rename_i g
      have h1 := (least_facts (f := regV o xss ls) (n := len0 xss)).2.1.len
      have h2 := (scOk_len (robust_fit (xs := []) g).2.2.1).2.2
      omega
    · simp [sr0]
  refine CL_post (implLeastWorst_run (o := o) (Ns.pre p13) hn hi) fun v h4 ⟨p4, w1, ev, W1⟩ => ?_
  subst ev
  have p14 := p13.trans p4
  simp -implicitDefEqProofs
  refine CL_post (specLeastWorst_run (o := o) (Ns.pre p14) hn hi) fun v h5 ⟨p5, w2, ev, W2⟩ => ?_
  subst ev
  have p15 := p14.trans p5
  have q2 := rInts_run (W1.pre p5) W2 (hll _)
  simp -implicitDefEqProofs [CL_ret q2]
  refine CL_post (implLeastRegret_run (o := o) (Ns.pre p15) hn hi) fun v h6 ⟨p6, d1, ev, D1⟩ => ?_
  subst ev
  have p16 := p15.trans p6
  simp -implicitDefEqProofs
  refine CL_post (specLeastRegret_run (o := o) (Ns.pre p16) hn hi) fun v h7 ⟨p7, d2, ev, D2⟩ => ?_
  subst ev
  have p17 := p16.trans p7
  have q3 := rInts_run (D1.pre p7) D2 (hll _)
  simp -implicitDefEqProofs [CL_ret q3]
  refine CL_post (RegretBound_run (o := o) (Ns.pre p17) (Xs.pre p17) hn hi hx) fun v h8 ⟨p8, ev⟩ => ?_
  subst ev
  have p18 := p17.trans p8
  simp -implicitDefEqProofs
  refine CL_post (spec_RegretBound_run (o := o) (Ns.pre p18) (Xs.pre p18) hn hi hx) fun v h9 ⟨p9, ev⟩ => ?_
  subst ev
  have p19 := p18.trans p9
  have s1 := AreScenarios_run (Ns.pre p19) hn hi
  have s2 := specAreScenarios_run (Ns.pre p19) hn hi
  have hp9 : h <+: h9 := hp1.trans p19
  cases c1 : fitB xss xs o
  · cases c2 : scB xss o
    · simp -implicitDefEqProofs [CL_ret s1, CL_ret s2, c1, c2]
      exact gcP hp9 rfl
    · have c3 := (robust_fit (xs := xs) c2).2.2.1
      rw [c3] at s1 s2
      simp -implicitDefEqProofs [CL_ret s1, CL_ret s2, c1, c2]
      exact gcP hp9 rfl
  obtain ⟨c3, ox, ho, c2⟩ := fitB_sc c1
  rw [c3] at s1 s2
  have S := scOk_sc Ns c3
  have LB := S.bests (o := o)
  have hls : (valsL o xss xs).length = xss.length := by simp [valsL]
  obtain ⟨f1, f2, f3⟩ := least_facts (f := regV o xss (bestsL o xss)) (n := len0 xss)
  obtain ⟨z1, z2, z3⟩ := least_facts (f := regV o xss (zeL xss)) (n := len0 xss)
  have g1 := f3 xs ox
  have g2 := z3 xs ox
  have k1 := fitB_ord' c1 f2
  have eS : sV xss xs o = valsL o xss xs := by rw [sV, if_pos c1]
  have eR : gR xss xs o = wstL (valsL o xss xs) (bestsL o xss) := by rw [gR, if_pos c1]
  have eA : gA xss xs o = wstA (valsL o xss xs) (bestsL o xss) := by rw [gA, if_pos c1]
  have eL : lstR xss o (bestsL o xss) = leastR (regV o xss (bestsL o xss)) (len0 xss) := by rw [lstR, if_pos c2]
  have eW : lstR xss o (zeL xss) = leastR (regV o xss (zeL xss)) (len0 xss) := by rw [lstR, if_pos c2]
  have eX : rgX xss xs o = IntKind.i64.wrap (wstL (valsL o xss xs) (bestsL o xss) - (leastR (regV o xss (bestsL o xss)) (len0 xss)).v) := by rw [rgX, if_pos c1]; rfl
  rw [eS] at B1
  rw [eL] at D1
  have t1 := implGreatestRegret_run (o := o) (Ns.pre p19) (D1.pre (p7.trans (p8.trans p9))) hn hi (by rw [← eL]; exact hll _)
  rw [show gR xss (leastR (regV o xss (bestsL o xss)) (len0 xss)).o o = (leastR (regV o xss (bestsL o xss)) (len0 xss)).v by rw [gR, if_pos k1]; exact f1, k1] at t1
  rw [eR, eA, eL, eW, eX]
  have hA := wstA_ok (vs := valsL o xss xs) (ls := bestsL o xss) (by rw [hls]; have := S.l1; omega)
  have hle := fun i (hi : i < xss.length) => wst_le (vs := valsL o xss xs) (ls := bestsL o xss) (i := i) (by omega)
  have hz := wst_zeL (xss := xss) (vs := valsL o xss xs)
  have g1' : (leastR (regV o xss (bestsL o xss)) (len0 xss)).v ≤ wstL (valsL o xss xs) (bestsL o xss) := g1
  have g2' : (leastR (regV o xss (zeL xss)) (len0 xss)).v ≤ wstL (valsL o xss xs) (zeL xss) := g2
  rw [hz, hls] at g2'
  have Bv : Ints h9 b1 (valsL o xss xs) := B1.pre (p3.trans (p4.trans (p5.trans (p6.trans (p7.trans (p8.trans p9))))))
  obtain ⟨va, vd, rfl⟩ : ∃ a c, b1 = .slice a xss.length c := by obtain ⟨a, c, e⟩ := Bv.shapeT; exact ⟨a, c, by rw [e, hls]⟩
  have lv := fun (i : Nat) (hi : i < xss.length) => load_I Bv (gE_get (l := valsL o xss xs) (i := i) (by omega))
  have lv0 := lv 0 (by have := S.l1; omega)
  rw [show ((0 : Nat) : Int) = 0 from rfl] at lv0
  generalize hLv : (leastR (regV o xss (bestsL o xss)) (len0 xss)).v = least at *
  generalize hWv : (leastR (regV o xss (zeL xss)) (len0 xss)).v = worst at *
  generalize hRg : wstL (valsL o xss xs) (bestsL o xss) = regret at *
  generalize hAt : wstA (valsL o xss xs) (bestsL o xss) = at' at *
  obtain ⟨da, dn, dc, rfl⟩ : ∃ a n c, d1 = .slice a n c := by obtain ⟨a, c, e⟩ := D1.shape; exact ⟨_, _, _, e⟩
  simp -implicitDefEqProofs [-indexAddrP_some, CL_ret s1, CL_ret s2, c1, c2, lv0]
  refine R_loopO (fun m s h' => ∃ i : Nat, i + m = xss.length ∧ s = [(3, .slice ja xss.length jc), (5, .int .i64 o), (6, .int .i64 regret), (7, .int .i64 at'), (12, .slice va xss.length vd), (17, .int .i64 worst), (22, .slice da dn dc), (23, .int .i64 least), (28, .int .i64 (IntKind.i64.wrap (regret - least))), (32, .int .i64 ((List.range' 0 i).foldl (fun a i => max a (gE (valsL o xss xs) i)) (gE (valsL o xss xs) 0))), (33, .int .i64 i)] ∧ h' = h9) (fun I hI m s h' => ?_) (n := xss.length)
    ⟨0, Nat.zero_add _, by simp, rfl⟩
  rintro ⟨i, him, rfl, rfl⟩
  by_cases hlt : i < xss.length
  · obtain ⟨js, hjs, _⟩ := drop_at hlt
    obtain ⟨uj, lj, Jj⟩ := nest_at (Ns.pre p19) hjs
    have gj := S.g js (List.mem_of_getElem? hjs)
    have n8 := S.n8
    have okb : okB js o = true := by
      have h1 : jOk js = true := by rw [jOk, gj.1, Bool.and_true, decide_eq_true_eq]; omega
      rw [okB, h1]; simp [inB]; omega
    have rb := rBest_run (o := o) Jj (by omega)
    rw [bR_v okb] at rb
    have li := lv i hlt
    have ev : gE (valsL o xss xs) i = valX o js xs := gE_map (o := o) hjs
    have eb : gE (bestsL o xss) i = bestV o js := gE_map (o := o) hjs
    have bb := (best_facts (f := valX o js) (n := js.length) (by omega)).2.2.2 xs (by rw [gj.2]; exact ox)
    have bb' : bestV o js ≤ valX o js xs := bb
    have bd1 := valX_bd (o := o) (xs := xs) gj.1 (by omega) (by rw [gj.2]; exact ox)
    have bd2 := bestV_bd (o := o) gj.1 (by omega)
    have wd : IntKind.i64.wrap (gE (valsL o xss xs) i - bestV o js) = gE (valsL o xss xs) i - bestV o js := by rw [ev, wrap_ok] <;> omega
    have hd : dfE (valsL o xss xs) (bestsL o xss) i = gE (valsL o xss xs) i - bestV o js := by unfold dfE; rw [eb]
    have hdl := hle i hlt
    rw [hd] at hdl
    have d1 : ¬ gE (valsL o xss xs) i - bestV o js < 0 := by omega
    have d2 : ¬ regret < gE (valsL o xss xs) i - bestV o js := by omega
    obtain ⟨ua', un', uc', rfl⟩ : ∃ a n c, uj = .slice a n c := by obtain ⟨a, c, e⟩ := Jj.shape; exact ⟨_, _, _, e⟩
    have wi := winc hlt (show xss.length ≤ 2 ^ 40 by omega)
    obtain ⟨M, hM⟩ : ∃ M, M = (List.range' 0 i).foldl (fun a i => max a (gE (valsL o xss xs) i)) (gE (valsL o xss xs) 0) := ⟨_, rfl⟩
    have hM2 : (List.range' 0 (i + 1)).foldl (fun a i => max a (gE (valsL o xss xs) i)) (gE (valsL o xss xs) 0) = max M (gE (valsL o xss xs) i) := by
      rw [List.range'_concat, List.foldl_append, hM]; simp
    rw [← hM]
    have next : ∃ k, k < m ∧ I k [(3, .slice ja xss.length jc), (5, .int .i64 o), (6, .int .i64 regret), (7, .int .i64 at'), (12, .slice va xss.length vd), (17, .int .i64 worst), (22, .slice da dn dc), (23, .int .i64 least), (28, .int .i64 (IntKind.i64.wrap (regret - least))), (32, .int .i64 (max M (gE (valsL o xss xs) i))), (33, .int .i64 ((i : Int) + 1))] h' :=
      ⟨m - 1, by omega, on hI ⟨i + 1, by omega, by rw [hM2]; rfl, rfl⟩⟩
    by_cases ca : (i : Int) = at'
    · have hia : i = at' := by omega
      have d3 : gE (valsL o xss xs) i - bestV o js = regret := by rw [← hd, hia]; exact hA.2
      subst hia
      rw [d3] at d1
      have wd := wd.trans d3
      by_cases cm : M < gE (valsL o xss xs) i
      · rw [show max M (gE (valsL o xss xs) i) = gE (valsL o xss xs) i by omega] at next
        simp -implicitDefEqProofs [-indexAddrP_some, hlt, lj, CL_ret rb, li, wd, d1, cm, wi]
        exact next
      · rw [show max M (gE (valsL o xss xs) i) = M by omega] at next
        simp -implicitDefEqProofs [-indexAddrP_some, hlt, lj, CL_ret rb, li, wd, d1, cm, wi]
        exact next
    · by_cases cm : M < gE (valsL o xss xs) i
      · rw [show max M (gE (valsL o xss xs) i) = gE (valsL o xss xs) i by omega] at next
        simp -implicitDefEqProofs [-indexAddrP_some, hlt, lj, CL_ret rb, li, wd, d1, d2, nb ca, cm, wi]
        exact next
      · rw [show max M (gE (valsL o xss xs) i) = M by omega] at next
        simp -implicitDefEqProofs [-indexAddrP_some, hlt, lj, CL_ret rb, li, wd, d1, d2, nb ca, cm, wi]
        exact next
  · have hi2 : i = xss.length := by omega
    rw [hi2]
    generalize hM : (List.range' 0 xss.length).foldl (fun a i => max a (gE (valsL o xss xs) i)) (gE (valsL o xss xs) 0) = M at g2'
    have hnl : ¬ xss.length < xss.length := by omega
    simp -implicitDefEqProofs [hlt, hnl, CL_ret t1, g1', g2']
    exact gcP hp9 rfl
end Go.Pm.PP
