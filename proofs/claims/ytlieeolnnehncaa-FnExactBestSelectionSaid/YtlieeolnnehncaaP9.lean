/- The texts Pj16, PjJ4, PjO, PjJ5, Pj17, Pj18, PjS, PjJ6, Pj20, Pj19 of this work: Job shops: CriticalPath and CriticalSwaps of both. -/
import Derived.Test.YtlieeolnnehncaaP8
import Derived.Test.YtlieeolnnehncaaM4
/- Job shops: CriticalPath and CriticalSwaps of both. -/
set_option linter.unusedVariables false
set_option linter.unusedSimpArgs false
set_option maxRecDepth 4000
set_option maxHeartbeats 2000000
namespace Go.Pm.PP
open Go.Pm Go.Proofs Go.Pm.JS
noncomputable def critO (s : Shop) (oss : List (List Int)) : Option (List Int) := (headsO s oss).map fun _ => pathI s oss
section
variable {h : Hp} {vr vo : Value} {s : Shop} {oss : List (List Int)}
theorem specCriticalPath_run (S : SAt h vr s) (O : OAt h vo oss) : RunsC P G n_spec_CriticalPath [sv s vr, vo] h fun v h' => h <+: h' ∧ retL (critO s oss) v h.length h' := by
  refine hideC fun K hK => enter_run e_spec_CriticalPath (by simp) ?_
  have Ss := S
  have Os := O
  obtain ⟨oa, c, rfl⟩ := S.shape
  obtain ⟨ob, d, rfl⟩ := O.shape
  have r1 := fun l => l9Open_run (Ss.ext l) (Os.ext l)
  have H0 := Holds.start.alloc [.int .i64 s.m, .slice oa s.routes.length c] (h := h)
  cases c2 : headsO s oss with
  | none =>
    simp -implicitDefEqProofs [CL_ret (r1 _), c2]
    exact onK hK ⟨pre_gcU H0.pre, _, by rw [critO, c2]; rfl, by rw [critO, c2]; exact Own.nil⟩
  | some us =>
    simp -implicitDefEqProofs [CL_ret (r1 _), c2]
    refine CL_post (l9Path_run (Ss.ext _) (Os.ext _) c2) fun v h1 ⟨hp1, ho⟩ => ?_
    have H1 := H0.call hp1 ho
    simp -implicitDefEqProofs
    exact onK hK ⟨(H1.ret2 1 rfl).1, _, by rw [critO, c2]; rfl, by rw [critO, c2]; exact (H1.ret2 1 rfl).2⟩
/-- What a selection has, told by what is its own. -/
theorem SelOwn.shapes {b : Nat} {vo vt vi va vh vT : Value} {us : List Int} (o : SelOwn b h vo vt vi va vh vT s oss us) :
    (∃ a c, vo = .slice a (opsL s).length c) ∧ (∃ a c, vt = .slice a (flatF s).rt.length c) ∧ (∃ a c, vi = .slice a (flatF s).ix.length c) ∧ (∃ a c, va = .slice a (arcsL oss).length c) ∧ (∃ a c, vh = .slice a us.length c) ∧ ∃ a c, vT = .slice a (tailsL s (psL s oss)).length c :=
  ⟨o.o.sees.shapeT, o.t.sees.shapeT, o.i.sees.shapeT, o.a.sees.shapeT, o.hd.sees.shapeT, o.tl.sees.shapeT⟩
theorem CriticalPath_run (S : SAt h vr s) (O : OAt h vo oss) : RunsC P G n_impl_CriticalPath [sv s vr, vo] h fun v h' => h <+: h' ∧ retL (critO s oss) v h.length h' := by
  refine hideC fun K hK => enter_run e_impl_CriticalPath (by simp) ?_
  have Ss := S
  have Os := O
  obtain ⟨oa, c, rfl⟩ := S.shape
  obtain ⟨ob, d, rfl⟩ := O.shape
  simp -implicitDefEqProofs
  refine CL_post (selectedBy_run (Ss.ext _) (Os.ext _)) fun v h1 ⟨hp1, hs⟩ => ?_
  have hp := (List.prefix_append h [some (⟨[.int .i64 s.m, .slice oa s.routes.length c], 0, false⟩ : Row)]).trans hp1
  rcases hs with ⟨hn, rfl⟩ | ⟨us, wo, wt, wi, wa, wh, wT, hn, rfl, o⟩
  · simp -implicitDefEqProofs
    exact onK hK ⟨pre_gcU (hp.trans (List.prefix_append ..)), _, by rw [critO, hn]; rfl, by rw [critO, hn]; exact Own.nil⟩
  · have os := o
    obtain ⟨hg, hs, ao, hd, tl, hN⟩ := headsO_facts Os.tot hn
    obtain ⟨⟨a1, c1, rfl⟩, ⟨a2, c2, rfl⟩, ⟨a3, c3, rfl⟩, ⟨a4, c4, rfl⟩, ⟨a5, c5, rfl⟩, a6, c6, rfl⟩ := o.shapes
    have H0 := Holds.none hp
    simp -implicitDefEqProofs
    refine CL_post (selPath_run ((os.see hs).pre (List.prefix_append ..)) Os.tot hn) fun v h2 ⟨hp2, ho⟩ => ?_
    have H1 := (H0.ext (List.prefix_append ..)).call hp2 ho
    simp -implicitDefEqProofs
    exact onK hK ⟨(H1.ret2 0 rfl).1, _, by rw [critO, hn]; rfl, by rw [critO, hn]; exact (H1.ret2 0 rfl).2⟩
/-! ### swaps -/
def swB (s : Shop) (oss : List (List Int)) (us : List Int) (a b : Int) : Bool := gN us a.toNat + gN (tsL s) a.toNat + gN (tailsL s (psL s oss)) b.toNat == mx (tailsL s (psL s oss))
def swGo (f : Int → Int → Bool) (k : Nat) : Nat → List Int → List (Int × Int)
  | i, a :: b :: r => if f a b then ((k : Int), (i : Int)) :: swGo f k (i + 1) (b :: r) else swGo f k (i + 1) (b :: r)
  | _, _ => []
def swAll (f : Int → Int → Bool) : Nat → List (List Int) → List (Int × Int)
  | _, [] => []
  | k, o :: r => swGo f k 0 o ++ swAll f (k + 1) r
theorem swGo_len {f : Int → Int → Bool} {k : Nat} : ∀ {xs : List Int} {i : Nat}, (swGo f k i xs).length ≤ xs.length
  | [], i => by simp [swGo]
  | [a], i => by simp [swGo]
  | a :: b :: r, i => by
    rw [swGo]
    have := @swGo_len f k (b :: r) (i + 1)
    split <;> simp at this ⊢ <;> omega
theorem swAll_len {f : Int → Int → Bool} : ∀ {xs : List (List Int)} {k : Nat}, (swAll f k xs).length ≤ cntN xs
  | [], k => by simp [swAll, cntN]
  | o :: r, k => by
    rw [swAll, List.length_append, cntN]
    have := @swGo_len f k o 0
    have := @swAll_len f r (k + 1)
    omega
noncomputable def swapsO (s : Shop) (oss : List (List Int)) : Option (List (Int × Int)) := (headsO s oss).map fun us => swAll (swB s oss us) 0 oss
def retQ (x : Option (List (Int × Int))) (v : Value) (b : Nat) (h' : Hp) : Prop := ∃ u, v = .tuple #[u, .bool x.isSome] ∧ Own b h' u 2 ((x.getD []).map encQ)
theorem nbr_at {xs : List Int} {j : Nat} {a b : Int} (ha : xs[j]? = some a) (hb : xs[j + 1]? = some b) : (a, b) ∈ nbr xs := by
  induction xs generalizing j with
  | nil => cases ha
  | cons x r ih =>
    cases j with
    | zero =>
      simp at ha hb
      subst ha
      cases r with
      | nil => simp at hb
      | cons y r => simp at hb; subst hb; rw [nbr]; exact List.mem_cons_self ..
    | succ j =>
      simp at ha hb
      have := ih ha hb
      cases r with
      | nil => simp at ha
      | cons y r => rw [nbr]; exact List.mem_cons_of_mem _ this
theorem arc_at {o : List Int} {i j : Nat} {a b : Nat} (ho : oss[i]? = some o) (ha : o[j]? = some (a : Int)) (hb : o[j + 1]? = some (b : Int)) : (a, b) ∈ psL s oss := by
  rw [psL_eq]
  refine List.mem_append_right _ ?_
  refine List.mem_map.2 ⟨((a : Int), (b : Int)), ?_, rfl⟩
  exact List.mem_flatten.2 ⟨nbr o, List.mem_map.2 ⟨o, List.mem_of_getElem? ho, rfl⟩, nbr_at ha hb⟩
theorem specCriticalSwaps_run (S : SAt h vr s) (O : OAt h vo oss) : RunsC P G n_spec_CriticalSwaps [sv s vr, vo] h fun v h' => h <+: h' ∧ retQ (swapsO s oss) v h.length h' := by
  refine hideC fun K hK => enter_run e_spec_CriticalSwaps (by simp) ?_
  have Ss := S
  have Os := O
  obtain ⟨oa, c, rfl⟩ := S.shape
  obtain ⟨ob, d, rfl⟩ := O.shape
  have rn := Os.rn
  have r1 := fun l => l9Open_run (Ss.ext l) (Os.ext l)
  have H0 := Holds.start.alloc [.int .i64 s.m, .slice oa s.routes.length c] (h := h)
  cases c2 : headsO s oss with
  | none =>
    simp -implicitDefEqProofs [CL_ret (r1 _), c2]
    exact onK hK ⟨pre_gcU H0.pre, _, by rw [swapsO, c2]; rfl, by rw [swapsO, c2]; exact Own.nil⟩
  | some us =>
    obtain ⟨hg, hs, ao, hd, tl, hN⟩ := headsO_facts Os.tot c2
    have ulen := hd.len
    have tlen := tl.len
    have tb := tails_small ao hN
    simp -implicitDefEqProofs [CL_ret (r1 _), c2]
    refine CH_post (l9Arcs_run (Ss.ext _) (Os.ext _)).new fun v h1 ⟨⟨hp1, ho1⟩, hn⟩ => ⟨hn hp1, ?_⟩
    rw [← psL_map hs] at ho1
    have H1 := H0.call hp1 ho1
    obtain ⟨a1, c1, rfl⟩ : ∃ a c, v = .slice a (psL s oss).length c := by obtain ⟨a, c, e⟩ := ho1.sees.shapeT; exact ⟨a, c, by rw [e, List.length_map]⟩
    simp -implicitDefEqProofs [H1.bl 0 2 rfl rfl]
    refine CL_post (l9All_run (Ss.pre H1.pre)) fun v h2 ⟨hp2, ho2⟩ => ?_
    have H2 := H1.call hp2 ho2
    obtain ⟨a2, c2', rfl⟩ := ho2.sees.shapeT
    simp -implicitDefEqProofs [H2.bl 0 2 rfl rfl]
    refine CH_post (l9Heads_run (Ss.pre H2.pre) (Os.pre H2.pre) c2).new fun v h3 ⟨⟨hp3, ho3⟩, hn3⟩ => ⟨hn3 hp3, ?_⟩
    have H3 := H2.call hp3 ho3
    obtain ⟨a3, c3, e3⟩ := ho3.sees.shapeT
    rw [ulen] at e3
    subst e3
    simp -implicitDefEqProofs [H3.bl 0 2 rfl rfl]
    refine CL_post (l9Tails_run (Ss.pre H3.pre) (H3.sees 1 rfl) ao) fun v h4 ⟨hp4, ho4⟩ => ?_
    have H4 := H3.call hp4 ho4
    obtain ⟨a4, c4, e4⟩ := ho4.sees.shapeT
    rw [tlen] at e4
    subst e4
    have rl2 := l2Last_run (H4.sees 4 rfl) (by rw [tlen]; omega)
    obtain ⟨R, hR⟩ : ∃ R, R = swAll (swB s oss us) 0 oss := ⟨_, rfl⟩
    have hRl : R.length ≤ 2 ^ 40 := by rw [hR]; exact Nat.le_trans swAll_len (Nat.le_trans Os.tot (by omega))
    simp -implicitDefEqProofs [CL_ret rl2]
    refine R_loopO (fun n st h' => ∃ (k : Nat) (u : Value) (us' : List (Int × Int)), k + n = oss.length ∧ st = [(1, .slice ob oss.length d), (6, u), (8, .slice a2 (opsL s).length c2'), (9, .slice a3 (opsL s).length c3), (10, .slice a4 (opsL s).length c4), (11, .int .i64 (mx (tailsL s (psL s oss)))), (12, .int .i64 k)] ∧
      Holds h h' [.box h.length [.int .i64 s.m, .slice oa s.routes.length c], .own (.slice a1 (psL s oss).length c1) 2 (((psL s oss).map cP).map encQ), .own (.slice a2 (opsL s).length c2') 2 ((opsL s).map encO), .own (.slice a3 (opsL s).length c3) 1 (us.map encI), .own (.slice a4 (opsL s).length c4) 1 ((tailsL s (psL s oss)).map encI), .own u 2 (us'.map encQ)] ∧
      R = us' ++ swAll (swB s oss us) k (oss.drop k)) (fun I hI n st h' => ?_) ⟨0, _, [], Nat.zero_add _, by simp, own_nil H4 _ _ _, by simpa using hR⟩
    rintro ⟨k, u, us', hk, rfl, H, hx⟩
    by_cases hlt : k < oss.length
    · obtain ⟨y, hy, hdr⟩ := drop_at hlt
      rw [hdr, swAll] at hx
      obtain ⟨oc, e, hI1, hyn, g⟩ := Os.at hy
      simp -implicitDefEqProofs [-indexAddrP_some, hlt]
      refine R_loopO (fun n st h' => ∃ (j : Nat) (u : Value) (us' : List (Int × Int)), j + n = y.length ∧ st = [(1, .slice ob oss.length d), (6, u), (8, .slice a2 (opsL s).length c2'), (9, .slice a3 (opsL s).length c3), (10, .slice a4 (opsL s).length c4), (11, .int .i64 (mx (tailsL s (psL s oss)))), (12, .int .i64 k), (13, .int .i64 j)] ∧
        Holds h h' [.box h.length [.int .i64 s.m, .slice oa s.routes.length c], .own (.slice a1 (psL s oss).length c1) 2 (((psL s oss).map cP).map encQ), .own (.slice a2 (opsL s).length c2') 2 ((opsL s).map encO), .own (.slice a3 (opsL s).length c3) 1 (us.map encI), .own (.slice a4 (opsL s).length c4) 1 ((tailsL s (psL s oss)).map encI), .own u 2 (us'.map encQ)] ∧
        R = us' ++ (swGo (swB s oss us) k j (y.drop j) ++ swAll (swB s oss us) (k + 1) (oss.drop (k + 1)))) (fun I2 hI2 m st h2 => ?_) ⟨0, u, us', Nat.zero_add _, by simp, H, by simpa using hx⟩
      rintro ⟨j, u, us', hj, rfl, H, hx⟩
      have hus : us'.length ≤ 2 ^ 40 := by
        have := congrArg List.length hx
        rw [List.length_append] at this; omega
      have gg := g h2 H.pre
      have hI2' := hI1.pre H.pre
      by_cases hlt2 : j + 1 < y.length
      · obtain ⟨a, ha, hda⟩ := drop_at (show j < y.length by omega)
        obtain ⟨b, hb, hdb⟩ := drop_at hlt2
        rw [hda, hdb, swGo, ← hdb] at hx
        obtain ⟨an, rfl, han⟩ := hs.mem y (List.mem_of_getElem? hy) a (List.mem_of_getElem? ha)
        obtain ⟨bn, rfl, hbn⟩ := hs.mem y (List.mem_of_getElem? hy) b (List.mem_of_getElem? hb)
        have lb := load_I hI2' hb
        rw [show ((j + 1 : Nat) : Int) = (j : Int) + 1 from rfl] at lb
        have hlt' : (j : Int) + 1 < y.length := by omega
        have hw : IntKind.i64.wrap ((j : Int) + 1) = (j : Int) + 1 := by rw [wrap_ok] <;> omega
        obtain ⟨z, hz, htz, ht1, ht2⟩ := ao.time han
        have l1 := load_I (H.sees 3 rfl) (gN_get (v := us) (i := an) (by omega))
        have l2 := load_O (H.sees 2 rfl) hz
        have l3 := load_I (H.sees 4 rfl) (gN_get (v := tailsL s (psL s oss)) (i := bn) (by omega))
        have sA := hd.sum tl an
        have pA := hd.pos an
        have uA := tl.up an
        have lB := gN_le_mx (tailsL s (psL s oss)) bn
        have uB := tl.up bn
        have nB := ao.pok.nonneg bn
        have w1 : IntKind.i64.wrap (gN us an + z.t) = gN us an + z.t := by rw [wrap_ok] <;> omega
        have w2 : IntKind.i64.wrap (gN us an + z.t + gN (tailsL s (psL s oss)) bn) = gN us an + z.t + gN (tailsL s (psL s oss)) bn := by rw [wrap_ok] <;> omega
        have hsw : swB s oss us (an : Int) (bn : Int) = (gN us an + z.t + gN (tailsL s (psL s oss)) bn == mx (tailsL s (psL s oss))) := by rw [swB, Int.toNat_natCast, Int.toNat_natCast, htz]
        rw [hsw] at hx
        cases c7 : (gN us an + z.t + gN (tailsL s (psL s oss)) bn == mx (tailsL s (psL s oss)))
        · rw [c7] at hx
          simp -implicitDefEqProofs [-indexAddrP_some, hlt', gg, load_I hI2' ha, lb, hw, l1, l2, l3, w1, w2, c7]
          exact ⟨m - 1, by omega, on hI2 ⟨j + 1, u, us', by omega, rfl, H, by simpa using hx⟩⟩
        · rw [c7] at hx
          obtain ⟨v', h3, hap, H5, k5, _⟩ := push_Q0 H 5 rfl ((k : Int), (j : Int)) hus
          simp -implicitDefEqProofs [-indexAddrP_some, hlt', gg, load_I hI2' ha, lb, hw, l1, l2, l3, w1, w2, c7, hap]
          exact ⟨m - 1, by omega, on hI2 ⟨j + 1, v', us' ++ [((k : Int), (j : Int))], by omega, rfl, H5, by simpa using hx⟩⟩
      · have hlt' : ¬ (j : Int) + 1 < y.length := by omega
        have hn : swGo (swB s oss us) k j (y.drop j) = [] := by
          have : (y.drop j).length ≤ 1 := by rw [List.length_drop]; omega
          match y.drop j, this with
          | [], _ => rfl
          | [a], _ => rfl
          | a :: b :: r, h => simp at h
        rw [hn, List.nil_append] at hx
        have hwj : IntKind.i64.wrap ((j : Int) + 1) = (j : Int) + 1 := by rw [wrap_ok] <;> omega
        simp -implicitDefEqProofs [-indexAddrP_some, hlt', gg, hwj, winc hlt (by omega)]
        exact ⟨n - 1, by omega, on hI ⟨k + 1, u, us', by omega, rfl, H, hx⟩⟩
    · rw [List.drop_eq_nil_of_le (by omega), swAll, List.append_nil] at hx
      simp -implicitDefEqProofs [hlt]
      exact onK hK ⟨(H.ret2 5 rfl).1, _, by rw [swapsO, c2]; rfl, by rw [swapsO, c2, Option.map_some, Option.getD_some, ← hR, hx]; exact (H.ret2 5 rfl).2⟩
theorem CriticalSwaps_run (S : SAt h vr s) (O : OAt h vo oss) : RunsC P G n_impl_CriticalSwaps [sv s vr, vo] h fun v h' => h <+: h' ∧ retQ (swapsO s oss) v h.length h' := by
  refine hideC fun K hK => enter_run e_impl_CriticalSwaps (by simp) ?_
  have Ss := S
  have Os := O
  obtain ⟨oa, c, rfl⟩ := S.shape
  obtain ⟨ob, d, rfl⟩ := O.shape
  have rn := Os.rn
  simp -implicitDefEqProofs
  refine CL_post (selectedBy_run (Ss.ext _) (Os.ext _)) fun v h1 ⟨hp1, hs⟩ => ?_
  have hp := (List.prefix_append h [some (⟨[.int .i64 s.m, .slice oa s.routes.length c], 0, false⟩ : Row)]).trans hp1
  rcases hs with ⟨hn, rfl⟩ | ⟨us, wo, wt, wi, wa, wh, wT, hn, rfl, o⟩
  · simp -implicitDefEqProofs
    exact onK hK ⟨pre_gcU (hp.trans (List.prefix_append ..)), _, by rw [swapsO, hn]; rfl, by rw [swapsO, hn]; exact Own.nil⟩
  · obtain ⟨hg, hs, ao, hd, tl, hN⟩ := headsO_facts Os.tot hn
    have ulen := hd.len
    have tlen := tl.len
    have tb := tails_small ao hN
    have os := o
    obtain ⟨⟨a1, c1, rfl⟩, ⟨a2, c2, rfl⟩, ⟨a3, c3, rfl⟩, ⟨a4, c4, rfl⟩, ⟨a5, c5, e5⟩, a6, c6, e6⟩ := o.shapes
    rw [ulen] at e5
    rw [tlen] at e6
    subst e5; subst e6
    have X := os.see hs
    obtain ⟨R, hR⟩ : ∃ R, R = swAll (swB s oss us) 0 oss := ⟨_, rfl⟩
    have hRl : R.length ≤ 2 ^ 40 := by rw [hR]; exact Nat.le_trans swAll_len (Nat.le_trans Os.tot (by omega))
    generalize hL : mx (tailsL s (psL s oss)) = L at *
    have H0 := (Holds.start (h := h1)).alloc [.slice a1 (opsL s).length c1, .slice a2 (flatF s).rt.length c2, .slice a3 (flatF s).ix.length c3, .slice a4 (arcsL oss).length c4, .slice a5 (opsL s).length c5, .slice a6 (opsL s).length c6, .int .i64 L]
    simp -implicitDefEqProofs
    refine R_loopO (fun n st h' => ∃ (k : Nat) (u : Value) (us' : List (Int × Int)), k + n = oss.length ∧ st = [(6, .pointer (some ⟨h1.length, 0, some 7⟩)), (8, u), (22, .slice ob oss.length d), (23, .int .i64 oss.length), (24, .int .i64 k)] ∧
      Holds h1 h' [.box h1.length [.slice a1 (opsL s).length c1, .slice a2 (flatF s).rt.length c2, .slice a3 (flatF s).ix.length c3, .slice a4 (arcsL oss).length c4, .slice a5 (opsL s).length c5, .slice a6 (opsL s).length c6, .int .i64 L], .own u 2 (us'.map encQ)] ∧
      R = us' ++ swAll (swB s oss us) k (oss.drop k)) (fun I hI n st h' => ?_) ⟨0, _, [], Nat.zero_add _, by simp, own_nil H0 _ _ _, by simpa using hR⟩
    rintro ⟨k, u, us', hk, rfl, H, hx⟩
    by_cases hlt : k < oss.length
    · obtain ⟨y, hy, hdr⟩ := drop_at hlt
      rw [hdr, swAll] at hx
      obtain ⟨oc, e, hI1, hyn, g⟩ := Os.at hy
      simp -implicitDefEqProofs [-indexAddrP_some, hlt, g h' (hp.trans H.pre)]
      refine R_loopO (fun n st h' => ∃ (j : Nat) (u : Value) (us' : List (Int × Int)), j + n = y.length ∧ st = [(6, .pointer (some ⟨h1.length, 0, some 7⟩)), (8, u), (9, .int .i64 k), (10, .slice oc y.length e), (11, .int .i64 ((j : Int) + 1)), (22, .slice ob oss.length d), (23, .int .i64 oss.length), (24, .int .i64 k)] ∧
        Holds h1 h' [.box h1.length [.slice a1 (opsL s).length c1, .slice a2 (flatF s).rt.length c2, .slice a3 (flatF s).ix.length c3, .slice a4 (arcsL oss).length c4, .slice a5 (opsL s).length c5, .slice a6 (opsL s).length c6, .int .i64 L], .own u 2 (us'.map encQ)] ∧
        R = us' ++ (swGo (swB s oss us) k j (y.drop j) ++ swAll (swB s oss us) (k + 1) (oss.drop (k + 1)))) (fun I2 hI2 m st h2 => ?_) (n := y.length) ⟨0, u, us', Nat.zero_add _, by simp, H, by simpa using hx⟩
      rintro ⟨j, u, us', hj, rfl, H, hx⟩
      have hus : us'.length ≤ 2 ^ 40 := by
        have := congrArg List.length hx
        rw [List.length_append] at this; omega
      have hI2' := hI1.pre (hp.trans H.pre)
      by_cases hlt2 : j + 1 < y.length
      · obtain ⟨a, ha, hda⟩ := drop_at (show j < y.length by omega)
        obtain ⟨b, hb, hdb⟩ := drop_at hlt2
        rw [hda, hdb, swGo, ← hdb] at hx
        obtain ⟨an, rfl, han⟩ := hs.mem y (List.mem_of_getElem? hy) a (List.mem_of_getElem? ha)
        obtain ⟨bn, rfl, hbn⟩ := hs.mem y (List.mem_of_getElem? hy) b (List.mem_of_getElem? hb)
        have harc := arc_at (s := s) hy ha hb
        have lb := load_I hI2' hb
        rw [show ((j + 1 : Nat) : Int) = (j : Int) + 1 from rfl] at lb
        have hlt' : (j : Int) + 1 < y.length := by omega
        have w0 : IntKind.i64.wrap ((j : Int) + 1 - 1) = (j : Int) := by rw [wrap_ok] <;> omega
        have w0' : IntKind.i64.wrap (j : Int) = (j : Int) := by rw [wrap_ok] <;> omega
        have w02 : IntKind.i64.wrap ((j : Int) + 1 + 1) = (j : Int) + 1 + 1 := by rw [wrap_ok] <;> omega
        obtain ⟨z, hz, htz, ht1, ht2⟩ := ao.time han
        have l1 := load_I (X.hd.pre H.pre) (gN_get (v := us) (i := an) (by omega))
        have l1b := load_I (X.hd.pre H.pre) (gN_get (v := us) (i := bn) (by omega))
        have l2 := load_O (X.f.o.pre H.pre) hz
        have l3 := load_I (X.tl.pre H.pre) (gN_get (v := tailsL s (psL s oss)) (i := an) (by omega))
        have l3b := load_I (X.tl.pre H.pre) (gN_get (v := tailsL s (psL s oss)) (i := bn) (by omega))
        have sA := hd.sum tl an
        have sB := hd.sum tl bn
        have pA := hd.pos an
        have pB := hd.pos bn
        have uA := tl.up an
        have uB := tl.up bn
        have nA := ao.pok.nonneg an
        have nB := ao.pok.nonneg bn
        have w1 : IntKind.i64.wrap (gN us an + z.t) = gN us an + z.t := by rw [wrap_ok] <;> omega
        have w2 : IntKind.i64.wrap (gN us an + gN (tailsL s (psL s oss)) an) = gN us an + gN (tailsL s (psL s oss)) an := by rw [wrap_ok] <;> omega
        have w3 : IntKind.i64.wrap (gN us bn + gN (tailsL s (psL s oss)) bn) = gN us bn + gN (tailsL s (psL s oss)) bn := by rw [wrap_ok] <;> omega
        have cp := crit_pair hd tl harc
        rw [hL, htz] at cp
        have hsw : swB s oss us (an : Int) (bn : Int) = (gN us an + z.t == gN us bn && gN us an + gN (tailsL s (psL s oss)) an == L && gN us bn + gN (tailsL s (psL s oss)) bn == L) := by
          rw [swB, Int.toNat_natCast, Int.toNat_natCast, htz, hL, Bool.eq_iff_iff]
          simp only [Bool.and_eq_true, beq_iff_eq, and_assoc]
          exact cp
        rw [hsw] at hx
        cases c7 : (gN us an + z.t == gN us bn)
        · rw [c7] at hx
          simp -implicitDefEqProofs [-indexAddrP_some, hlt', load_I hI2' ha, lb, w0, w0', w02, H.bl 0 7 rfl rfl, l1, l1b, l2, w1, c7]
          exact ⟨m - 1, by omega, on hI2 ⟨j + 1, u, us', by omega, rfl, H, by simpa using hx⟩⟩
        · cases c8 : (gN us an + gN (tailsL s (psL s oss)) an == L)
          · rw [c7, c8] at hx
            simp -implicitDefEqProofs [-indexAddrP_some, hlt', load_I hI2' ha, lb, w0, w0', w02, H.bl 0 7 rfl rfl, l1, l1b, l2, l3, w1, w2, c7, c8]
            exact ⟨m - 1, by omega, on hI2 ⟨j + 1, u, us', by omega, rfl, H, by simpa using hx⟩⟩
          · cases c9 : (gN us bn + gN (tailsL s (psL s oss)) bn == L)
            · rw [c7, c8, c9] at hx
              simp -implicitDefEqProofs [-indexAddrP_some, hlt', load_I hI2' ha, lb, w0, w0', w02, H.bl 0 7 rfl rfl, l1, l1b, l2, l3, l3b, w1, w2, w3, c7, c8, c9]
              exact ⟨m - 1, by omega, on hI2 ⟨j + 1, u, us', by omega, rfl, H, by simpa using hx⟩⟩
            · rw [c7, c8, c9] at hx
              obtain ⟨v', h3, hap, H5, k5, _⟩ := push_Q0 H 1 rfl ((k : Int), (j : Int)) hus
              simp -implicitDefEqProofs [-indexAddrP_some, hlt', load_I hI2' ha, lb, w0, w0', w02, H.bl 0 7 rfl rfl, l1, l1b, l2, l3, l3b, w1, w2, w3, c7, c8, c9, hap]
              exact ⟨m - 1, by omega, on hI2 ⟨j + 1, v', us' ++ [((k : Int), (j : Int))], by omega, rfl, H5, by simpa using hx⟩⟩
      · have hlt' : ¬ (j : Int) + 1 < y.length := by omega
        have hnn : swGo (swB s oss us) k j (y.drop j) = [] := by
          have : (y.drop j).length ≤ 1 := by rw [List.length_drop]; omega
          match y.drop j, this with
          | [], _ => rfl
          | [a], _ => rfl
          | a :: b :: r, h => simp at h
        rw [hnn, List.nil_append] at hx
        simp -implicitDefEqProofs [-indexAddrP_some, hlt', winc hlt (by omega)]
        exact ⟨n - 1, by omega, on hI ⟨k + 1, u, us', by omega, rfl, H, hx⟩⟩
    · rw [List.drop_eq_nil_of_le (by omega), swAll, List.append_nil] at hx
      simp -implicitDefEqProofs [hlt]
      exact onK hK ⟨pre_gcU (hp.trans H.pre), _, by rw [swapsO, hn]; rfl, by rw [swapsO, hn, Option.map_some, Option.getD_some, ← hR, hx]; exact ((H.own 1 rfl).low hp.length_le).gcU plainT⟩
theorem swaps_len : ((swapsO s oss).getD []).length ≤ cntN oss := by
  unfold swapsO
  cases headsO s oss with
  | none => simp
  | some us => exact swAll_len
theorem pathGo_len : ∀ {f : Nat} {last : Option Nat} {want : Int}, (pathGo s oss f last want).length ≤ f
  | 0, _, _ => by simp [pathGo]
  | f + 1, last, want => by
    rw [pathGo]
    split
    · split
      · have := @pathGo_len f
        simp only [List.length_cons]
        exact Nat.succ_le_succ this
      · simp
    · simp
theorem crit_len' (ho : cntN oss ≤ 2 ^ 20) : ((critO s oss).getD []).length ≤ 2 ^ 40 := by
  unfold critO
  cases h : headsO s oss with
  | none => simp
  | some us =>
    obtain ⟨_, _, ao, _, _, hN⟩ := headsO_facts ho h
    have h1 := tails_small ao hN
    have h2 : (pathL s oss).length ≤ (mx (tailsL s (psL s oss))).toNat := pathGo_len
    simp only [Option.map_some, Option.getD_some, pathI, List.length_map]
    omega
end
end Go.Pm.PP

/- FnExactCriticalPath in the small machine. -/
set_option linter.unusedVariables false
set_option linter.unusedSimpArgs false
set_option maxRecDepth 4000
set_option maxHeartbeats 4000000
namespace Go.Pm.PP
open Go.Pm Go.Proofs
theorem law_CriticalPath {h : Hp} {vr vo : Value} {s : Shop} {oss : List (List Int)} {vs ws : List Value} (NS : Nest h vr encO 2 s.routes vs) (NO : Nest h vo encI 1 oss ws) (l1 : s.routes.length < 2 ^ 63) (l2 : ∀ x ∈ s.routes, x.length < 2 ^ 63) (l3 : oss.length < 2 ^ 63) (l4 : ∀ x ∈ oss, x.length < 2 ^ 63) :
    Ret P G n_laws_FnExactCriticalPath [sv s vr, vo] h (.bool true) h := by
  refine enter_run e_laws_FnExactCriticalPath (by simp) ?_
  have NSs := NS
  have NOs := NO
  obtain ⟨oa, ca, rfl⟩ := NS.shape
  obtain ⟨ob, cb, rfl⟩ := NO.shape
  have z1 := fun l => szJobShop_run (left := 1048576) (NSs.pre (List.prefix_append h l)) l1 l2 (by omega) (by omega)
  by_cases c1 : szN 1048576 s.routes < 0
  · simp -implicitDefEqProofs [CL_ret (z1 _), c1]
  have e1 := szN_ok c1
  have z2 := fun l => szIntSS_run (left := szN 1048576 s.routes) (NOs.pre (List.prefix_append h l)) l3 l4 (by omega) (by omega)
  by_cases c2 : szN (szN 1048576 s.routes) oss < 0
  · simp -implicitDefEqProofs [CL_ret (z1 _), c1, CL_ret (z2 _), c2]
  have e2 := szN_ok c2
  have b1 : s.routes.length ≤ 2 ^ 20 := by omega
  have b2 : tot s.routes ≤ 2 ^ 20 := by omega
  have b3 : oss.length ≤ 2 ^ 20 := by omega
  have b4 : tot oss ≤ 2 ^ 20 := by omega
  have b5 : ∀ x ∈ s.routes, x.length ≤ 2 ^ 40 := fun x hx => by have := tot_mem hx; omega
  have b6 : ∀ x ∈ oss, x.length ≤ 2 ^ 40 := fun x hx => by have := tot_mem hx; omega
  have toS : ∀ {h' : Hp}, h <+: h' → RunsC P G n_laws_toJobShop [sv s (.slice oa s.routes.length ca)] h' fun v h2 => ∃ vr' us, v = sv s vr' ∧ us.length = s.routes.length ∧ Holds h' h2 (.own vr' 1 (us.map encV) :: inL encO 2 us s.routes) := fun hp => toJobShop_run (NSs.pre hp) (by omega) b5
  have toO : ∀ {h' : Hp}, h <+: h' → RunsC P G n_laws_toIntSS [.slice ob oss.length cb] h' fun v h2 => ∃ us : List Value, us.length = oss.length ∧ Holds h' h2 (.own v 1 (us.map encV) :: inL encI 1 us oss) := fun hp => toIntSS_run (NOs.pre hp) (by omega) b6
  have H0 := (Holds.start.alloc [.int .i64 s.m, .slice oa s.routes.length ca] (h := h)).open
  obtain ⟨X, hX⟩ : ∃ X, X = critO s oss := ⟨_, rfl⟩
  obtain ⟨xs, hxs⟩ : ∃ xs, xs = X.getD [] := ⟨_, rfl⟩
  -- the reference
  simp -implicitDefEqProofs [CL_ret (z1 _), c1, CL_ret (z2 _), c2]
  refine CL_post (toS H0.pre) fun v h1 ⟨r1, u1, ev, hu1, C1⟩ => ?_
  subst ev
  have p1 := H0.pre.trans C1.pre
  simp -implicitDefEqProofs
  refine CL_post (toO p1) fun v2 h2 ⟨u2, hu2, C2⟩ => ?_
  have S1 : SAt h2 r1 s := ⟨⟨u1, (Holds.nest (L1 := [_]) (L2 := []) (o := 0) (C1.ext C2.pre).open rfl hu1)⟩, b1, by rw [cnt_tot]; exact b2⟩
  have O1 : OAt h2 v2 oss := ⟨⟨u2, (Holds.nest (L1 := [_]) (L2 := []) (o := 0) C2.open rfl hu2)⟩, b3, by rw [cnt_tot]; exact b4⟩
  simp -implicitDefEqProofs
  refine CL_post (specCriticalPath_run S1 O1) fun v h3 ⟨p3, w, ev, ow⟩ => ?_
  subst ev
  rw [← hX, ← hxs] at ow
  rw [← hX]
  obtain ⟨w1, w2, w3, rfl⟩ : ∃ a n c, w = .slice a n c := by obtain ⟨a, c, e⟩ := ow.sees.shape; exact ⟨_, _, _, e⟩
  have H1 := (H0.ext (C1.pre.trans C2.pre)).callT p3 ow
  -- the copies
  simp -implicitDefEqProofs [H1.bl 0 2 rfl rfl]
  refine CL_post (toS H1.pre) fun v h4 ⟨r3, u3, ev, hu3, C3⟩ => ?_
  subst ev
  obtain ⟨x1, x2, x3, rfl⟩ : ∃ a n c, r3 = .slice a n c := by obtain ⟨a, c, e⟩ := (C3.sees 0 rfl).shape; exact ⟨_, _, _, e⟩
  have H2 := (Holds.joinT (A := [_]) (M := inL encO 2 u3 s.routes) H1 C3).allocT [.int .i64 s.m, .slice x1 x2 x3]
  simp -implicitDefEqProofs
  refine CL_post (toO H2.pre) fun v5 h5 ⟨u4, hu4, C4⟩ => ?_
  obtain ⟨y1, y2, y3, rfl⟩ : ∃ a n c, v5 = .slice a n c := by obtain ⟨a, c, e⟩ := (C4.sees 0 rfl).shape; exact ⟨_, _, _, e⟩
  have H3 := Holds.joinT (A := [_]) (M := inL encI 1 u4 oss) H2 C4
  have N3 := Holds.nest (o := 2) H3.swap rfl hu3
  have M3 := Holds.nest (o := 4) H3 rfl hu4
  have S3 : SAt h5 (.slice x1 x2 x3) s := ⟨⟨u3, N3⟩, b1, by rw [cnt_tot]; exact b2⟩
  have O3 : OAt h5 (.slice y1 y2 y3) oss := ⟨⟨u4, M3⟩, b3, by rw [cnt_tot]; exact b4⟩
  -- the program
  simp -implicitDefEqProofs [H3.bl 3 2 rfl rfl]
  refine CL_post (CriticalPath_run S3 O3) fun v h6 ⟨p6, g, ev, og⟩ => ?_
  subst ev
  rw [← hX, ← hxs] at og
  rw [← hX]
  obtain ⟨g1, g2, g3, rfl⟩ : ∃ a n c, g = .slice a n c := by obtain ⟨a, c, e⟩ := og.sees.shape; exact ⟨_, _, _, e⟩
  have H4 := H3.callT p6 og
  have xl : xs.length ≤ 2 ^ 40 := by rw [hxs, hX]; exact crit_len' (by rw [cnt_tot]; exact b4)
  have q1 := eqIntS_run (H4.sees 5 rfl) (H4.sees 1 rfl) xl
  simp -implicitDefEqProofs [CL_ret q1, H4.bl 3 2 rfl rfl, H4.bl 0 2 rfl rfl]
  -- the copies are as they were
  refine CH_post (toS H4.pre).new fun v h7 ⟨⟨r7, u7, ev, hu7, C7⟩, hn7⟩ => ⟨hn7 C7.pre, ?_⟩
  subst ev
  have H5 := H4.ext C7.pre
  have q2 := eqJobShop_run (N3.pre (p6.trans C7.pre)) (Holds.nest (L1 := [_]) (L2 := []) (o := 0) C7.open rfl hu7) (by omega) b5
  simp -implicitDefEqProofs [CL_ret q2, CH_at q2]
  refine CL_post (toO H5.pre) fun v8 h8 ⟨u8, hu8, C8⟩ => ?_
  have H6 := H5.ext C8.pre
  have q3 := eqIntSS_run (M3.pre (p6.trans (C7.pre.trans C8.pre))) (Holds.nest (L1 := [_]) (L2 := []) (o := 0) C8.open rfl hu8) (by omega) b6
  simp -implicitDefEqProofs [CL_ret q3, H6.bl 3 2 rfl rfl]
  -- marks in the copies
  refine CL_post (markJobShop_run (k := 1) (o := 2) H6.swap rfl hu3 (by omega) (by omega) (by omega) (by omega)) fun r h9 ⟨er, H7⟩ => ?_
  subst er
  have H8 := H7.swap
  simp -implicitDefEqProofs
  refine CL_post (markIntSS_run (k := 1 + 2 * (tot s.routes : Int)) (o := 4) H8 rfl hu4 (by omega) (by omega) (by omega) (by omega)) fun r h10 ⟨er, H9⟩ => ?_
  subst er
  have q4 := eqIntS_run (H9.sees 5 rfl) (H9.sees 1 rfl) xl
  have hk0 : ¬ (1 + 2 * (tot s.routes : Int) + tot oss < 0) := by omega
  simp -implicitDefEqProofs [hk0, CL_ret q4]
  -- marks in the result
  refine CL_post (markIntS_run (k := 1) H9 5 rfl xl (by omega) (by omega)) fun r h11 ⟨er, H10⟩ => ?_
  subst er
  have q5 := heldIntS_run (k := 1) (H10.sees 5 rfl) xl (by omega) (by omega)
  have hk1 : ¬ (1 + (xs.length : Int) < 0) := by omega
  simp -implicitDefEqProofs [CL_ret q5, hk1, H10.bl 0 2 rfl rfl]
  -- once more
  refine CL_post (toS H10.pre) fun v h12 ⟨r12, u12, ev, hu12, C12⟩ => ?_
  subst ev
  simp -implicitDefEqProofs
  refine CL_post (toO (H10.pre.trans C12.pre)) fun v13 h13 ⟨u13, hu13, C13⟩ => ?_
  have S13 : SAt h13 r12 s := ⟨⟨u12, (Holds.nest (L1 := [_]) (L2 := []) (o := 0) (C12.ext C13.pre).open rfl hu12)⟩, b1, by rw [cnt_tot]; exact b2⟩
  have O13 : OAt h13 v13 oss := ⟨⟨u13, (Holds.nest (L1 := [_]) (L2 := []) (o := 0) C13.open rfl hu13)⟩, b3, by rw [cnt_tot]; exact b4⟩
  simp -implicitDefEqProofs
  refine CL_post (CriticalPath_run S13 O13) fun v h14 ⟨p14, t, ev, ot⟩ => ?_
  subst ev
  rw [← hX, ← hxs] at ot
  rw [← hX]
  have H11 := H10.ext (C12.pre.trans (C13.pre.trans p14))
  have q6 := eqIntS_run ot.sees (H11.sees 1 rfl) xl
  have q7 := heldIntS_run (k := 1) (H11.sees 5 rfl) xl (by omega) (by omega)
  simp -implicitDefEqProofs [CL_ret q6, CL_ret q7, hk1]
  exact gcP H11.pre rfl
end Go.Pm.PP

/- The laws' own functions on pairs of numbers. -/
set_option linter.unusedVariables false
set_option linter.unusedSimpArgs false
set_option maxRecDepth 4000
set_option maxHeartbeats 2000000
namespace Go.Pm.PP
open Go.Pm Go.Proofs
theorem eqIntA2_run {h : Hp} {x : Int × Int} : Ret P G n_laws_eqIntA2 [qv x, qv x] h (.bool true) h := by
  refine enter_run e_laws_eqIntA2 (by simp) ?_
  simp -implicitDefEqProofs
  refine R_loopO (fun n st h' => ∃ j : Nat, j + n = 2 ∧ st = [(2, .pointer (some ⟨h.length, 0, some 2⟩)), (3, .pointer (some ⟨h.length + 1, 0, some 2⟩)), (5, .int .i64 j)] ∧ h' = h ++ [some ⟨[.int .i64 x.1, .int .i64 x.2], 0, false⟩, some ⟨[.int .i64 x.1, .int .i64 x.2], 0, false⟩]) (fun I hI n st h' => ?_) ⟨0, Nat.zero_add _, by simp, rfl⟩
  rintro ⟨j, hj, rfl, rfl⟩
  match j, hj with
  | 0, hj =>
    simp -implicitDefEqProofs [wrap_ok]
    exact ⟨n - 1, by omega, on hI ⟨1, by omega, rfl, rfl⟩⟩
  | 1, hj =>
    simp -implicitDefEqProofs [wrap_ok]
    exact ⟨n - 1, by omega, on hI ⟨2, by omega, rfl, rfl⟩⟩
  | 2, hj => simp -implicitDefEqProofs
  | j + 3, hj => omega
theorem eqIntA2S_run {h : Hp} {v u : Value} {xs : List (Int × Int)} (hv : Sees h v 2 (xs.map encQ)) (hu : Sees h u 2 (xs.map encQ)) (hn : xs.length ≤ 2 ^ 40) :
    Ret P G n_laws_eqIntA2S [v, u] h (.bool true) h := by
  refine enter_run e_laws_eqIntA2S (by simp) ?_
  have hvs := hv
  have hus := hu
  obtain ⟨oa, c, rfl⟩ := hv.shapeT
  obtain ⟨ob, d, rfl⟩ := hu.shapeT
  simp -implicitDefEqProofs
  refine R_loopO (fun m s h' => ∃ i : Nat, i + m = xs.length ∧ s = [(0, .slice oa xs.length c), (1, .slice ob xs.length d), (5, .int .i64 i)] ∧ h' = h) (fun I hI m s h' => ?_) ⟨0, Nat.zero_add _, by simp, rfl⟩
  rintro ⟨i, hi, rfl, rfl⟩
  by_cases hlt : i < xs.length
  · obtain ⟨y, hy, hd⟩ := drop_at hlt
    simp -implicitDefEqProofs [-indexAddrP_some, hlt, load_Q hvs hy, load_Q hus hy, CL_ret eqIntA2_run, CH_ret eqIntA2_run, winc hlt hn]
    exact ⟨m - 1, by omega, on hI ⟨i + 1, by omega, rfl, rfl⟩⟩
  · simp -implicitDefEqProofs [hlt]
def mkQ (k : Int) : Int × Int := (k, k + 1)
theorem markIntA2S_run {h0 h : Hp} {L : List Asn} {v : Value} {xs : List (Int × Int)} {k : Int} (H0 : Holds h0 h L) (i : Nat) (hi0 : L[i]? = some (.own v 2 (xs.map encQ))) (hn : xs.length ≤ 2 ^ 40) (h1 : 0 ≤ k) (h2 : k ≤ 2 ^ 50) :
    RunsC P G n_laws_markIntA2S [v, .int .i64 k] h fun r h' => r = .int .i64 (k + 2 * (xs.length : Int)) ∧ Holds h0 h' (L.set i (.own v 2 ((marksT mkQ 2 k xs.length).map encQ))) := by
  refine hideC fun K hK => enter_run e_laws_markIntA2S (by simp) ?_
  have hil := (List.getElem?_eq_some_iff.1 hi0).1
  have hget := (List.getElem?_eq_some_iff.1 hi0).2
  obtain ⟨oa, c, ev⟩ := (H0.sees i hi0).shapeT
  subst ev
  simp -implicitDefEqProofs
  refine R_loopO (fun m s h' => ∃ (j : Nat), j + m = xs.length ∧ s = [(0, .slice oa xs.length c), (1, .int .i64 (k + 2 * (j : Int))), (5, .int .i64 j)] ∧ Holds h0 h' (L.set i (.own (.slice oa xs.length c) 2 ((marksT mkQ 2 k j ++ xs.drop j).map encQ)))) (fun I hI m s h' => ?_) ⟨0, Nat.zero_add _, by simp, by
      rw [show (marksT mkQ 2 k 0 ++ xs.drop 0) = xs by simp [marksT], ← hget, List.set_getElem_self]; exact H0⟩
  rintro ⟨j, hi, rfl, H⟩
  have hEl : (marksT mkQ 2 k j ++ xs.drop j).length = xs.length := by rw [List.length_append, marksT_len, List.length_drop]; omega
  by_cases hlt : j < xs.length
  · obtain ⟨y, hy, hd⟩ := drop_at hlt
    obtain ⟨z, hz, _⟩ := drop_at (show j < (marksT mkQ 2 k j ++ xs.drop j).length by rw [hEl]; exact hlt)
    obtain ⟨hB, hs2, H2, k2⟩ := fput_Q0 H i (List.getElem?_set_self hil) hz (k + 2 * j)
    rw [List.set_set] at H2
    have hz2 : ((marksT mkQ 2 k j ++ xs.drop j).set j (k + 2 * (j : Int), z.2))[j]? = some (k + 2 * (j : Int), z.2) := List.getElem?_set_self (by rw [hEl]; exact hlt)
    obtain ⟨hC, hs3, H3, k3⟩ := fput_Q1 H2 i (List.getElem?_set_self hil) hz2 (k + 2 * j + 1)
    rw [List.set_set, List.set_set] at H3
    have ix := (load_Q (H.sees i (List.getElem?_set_self hil)) hz).1
    have ix2 := (load_Q (H2.sees i (List.getElem?_set_self hil)) hz2).1
    have w1 : IntKind.i64.wrap (k + 2 * j + 1) = k + 2 * j + 1 := by rw [wrap_ok] <;> omega
    have w2 : IntKind.i64.wrap (k + 2 * j + 1 + 1) = k + 2 * j + 1 + 1 := by rw [wrap_ok] <;> omega
    simp -implicitDefEqProofs [hlt]
    refine R_loopO (fun n s h4 => (n = 2 ∧ s = [(0, .slice oa xs.length c), (1, .int .i64 (k + 2 * (j : Int))), (5, .int .i64 j), (6, .int .i64 0)] ∧ h4 = h') ∨ (n = 1 ∧ s = [(0, .slice oa xs.length c), (1, .int .i64 (k + 2 * (j : Int) + 1)), (5, .int .i64 j), (6, .int .i64 1)] ∧ h4 = hB) ∨
      (n = 0 ∧ s = [(0, .slice oa xs.length c), (1, .int .i64 (k + 2 * (j : Int) + 1 + 1)), (5, .int .i64 j), (6, .int .i64 2)] ∧ h4 = hC)) (fun I2 hI2 n s h4 => ?_) (n := 2) (.inl ⟨rfl, by simp, rfl⟩)
    rintro (⟨rfl, rfl, rfl⟩ | ⟨rfl, rfl, rfl⟩ | ⟨rfl, rfl, rfl⟩)
    · simp -implicitDefEqProofs [-indexAddrP_some, ix, hs2, w1, wrap_ok]
      exact ⟨1, by omega, on hI2 (.inr (.inl ⟨rfl, rfl, rfl⟩))⟩
    · simp -implicitDefEqProofs [-indexAddrP_some, ix2, hs3, w2, wrap_ok]
      exact on hI2 (.inr (.inr ⟨rfl, rfl, rfl⟩))
    · simp -implicitDefEqProofs [winc hlt hn]
      refine ⟨m - 1, by omega, on hI ⟨j + 1, by omega, ?_, ?_⟩⟩
      · rw [show k + 2 * (j : Int) + 1 + 1 = k + 2 * ((j + 1 : Nat) : Int) by omega]; rfl
      · rw [marks_next (mk := mkQ) (n := 2) hy (show mkQ (k + (2 : Nat) * (j : Int)) = (k + 2 * (j : Int), k + 2 * (j : Int) + 1) by simp [mkQ])] at H3; exact H3
  · have hj : j = xs.length := by omega
    subst hj
    rw [List.drop_eq_nil_of_le (Nat.le_refl _), List.append_nil] at H
    simp -implicitDefEqProofs [hlt]
    exact onK hK ⟨rfl, H0.gcR H (set_row hi0 rfl)⟩
theorem heldIntA2S_run {h : Hp} {v : Value} {n : Nat} {k : Int} (hv : Sees h v 2 ((marksT mkQ 2 k n).map encQ)) (hn : n ≤ 2 ^ 40) (h1 : 0 ≤ k) (h2 : k ≤ 2 ^ 50) :
    Ret P G n_laws_heldIntA2S [v, .int .i64 k] h (.int .i64 (k + 2 * (n : Int))) h := by
  refine enter_run e_laws_heldIntA2S (by simp) ?_
  have hvs := hv
  obtain ⟨oa, c, ev⟩ := hv.shapeT
  rw [marksT_len] at ev
  subst ev
  simp -implicitDefEqProofs
  refine R_loopO (fun m s h' => ∃ (j : Nat), j + m = n ∧ s = [(0, .slice oa n c), (1, .int .i64 (k + 2 * (j : Int))), (5, .int .i64 j)] ∧ h' = h) (fun I hI m s h' => ?_) ⟨0, Nat.zero_add _, by simp, rfl⟩
  rintro ⟨j, hi, rfl, rfl⟩
  by_cases hlt : j < n
  · have hz : (marksT mkQ 2 k n)[j]? = some (k + 2 * (j : Int), k + 2 * (j : Int) + 1) := by have := marksT_get (mk := mkQ) (n := 2) (k := k) hlt; simpa [mkQ] using this
    have lz := load_Q hvs hz
    have w1 : IntKind.i64.wrap (k + 2 * j + 1) = k + 2 * j + 1 := by rw [wrap_ok] <;> omega
    have w2 : IntKind.i64.wrap (k + 2 * j + 1 + 1) = k + 2 * j + 1 + 1 := by rw [wrap_ok] <;> omega
    simp -implicitDefEqProofs [hlt]
    refine R_loopO (fun q s h4 => (q = 2 ∧ s = [(0, .slice oa n c), (1, .int .i64 (k + 2 * (j : Int))), (5, .int .i64 j), (6, .int .i64 0)] ∧ h4 = h') ∨ (q = 1 ∧ s = [(0, .slice oa n c), (1, .int .i64 (k + 2 * (j : Int) + 1)), (5, .int .i64 j), (6, .int .i64 1)] ∧ h4 = h') ∨
      (q = 0 ∧ s = [(0, .slice oa n c), (1, .int .i64 (k + 2 * (j : Int) + 1 + 1)), (5, .int .i64 j), (6, .int .i64 2)] ∧ h4 = h')) (fun I2 hI2 q s h4 => ?_) (n := 2) (.inl ⟨rfl, by simp, rfl⟩)
    rintro (⟨rfl, rfl, rfl⟩ | ⟨rfl, rfl, rfl⟩ | ⟨rfl, rfl, rfl⟩)
    · simp -implicitDefEqProofs [-indexAddrP_some, lz, w1, wrap_ok]
      exact ⟨1, by omega, on hI2 (.inr (.inl ⟨rfl, rfl, rfl⟩))⟩
    · simp -implicitDefEqProofs [-indexAddrP_some, lz, w2, wrap_ok]
      exact on hI2 (.inr (.inr ⟨rfl, rfl, rfl⟩))
    · simp -implicitDefEqProofs [winc hlt hn]
      refine ⟨m - 1, by omega, on hI ⟨j + 1, by omega, ?_, rfl⟩⟩
      rw [show k + 2 * (j : Int) + 1 + 1 = k + 2 * ((j + 1 : Nat) : Int) by omega]; rfl
  · have hj : j = n := by omega
    subst hj
    simp -implicitDefEqProofs [hlt]
end Go.Pm.PP

/- FnExactCriticalSwaps in the small machine. -/
set_option linter.unusedVariables false
set_option linter.unusedSimpArgs false
set_option maxRecDepth 4000
set_option maxHeartbeats 4000000
namespace Go.Pm.PP
open Go.Pm Go.Proofs
theorem law_CriticalSwaps {h : Hp} {vr vo : Value} {s : Shop} {oss : List (List Int)} {vs ws : List Value} (NS : Nest h vr encO 2 s.routes vs) (NO : Nest h vo encI 1 oss ws) (l1 : s.routes.length < 2 ^ 63) (l2 : ∀ x ∈ s.routes, x.length < 2 ^ 63) (l3 : oss.length < 2 ^ 63) (l4 : ∀ x ∈ oss, x.length < 2 ^ 63) :
    Ret P G n_laws_FnExactCriticalSwaps [sv s vr, vo] h (.bool true) h := by
  refine enter_run e_laws_FnExactCriticalSwaps (by simp) ?_
  have NSs := NS
  have NOs := NO
  obtain ⟨oa, ca, rfl⟩ := NS.shape
  obtain ⟨ob, cb, rfl⟩ := NO.shape
  have z1 := fun l => szJobShop_run (left := 1048576) (NSs.pre (List.prefix_append h l)) l1 l2 (by omega) (by omega)
  by_cases c1 : szN 1048576 s.routes < 0
  · simp -implicitDefEqProofs [CL_ret (z1 _), c1]
  have e1 := szN_ok c1
  have z2 := fun l => szIntSS_run (left := szN 1048576 s.routes) (NOs.pre (List.prefix_append h l)) l3 l4 (by omega) (by omega)
  by_cases c2 : szN (szN 1048576 s.routes) oss < 0
  · simp -implicitDefEqProofs [CL_ret (z1 _), c1, CL_ret (z2 _), c2]
  have e2 := szN_ok c2
  have b1 : s.routes.length ≤ 2 ^ 20 := by omega
  have b2 : tot s.routes ≤ 2 ^ 20 := by omega
  have b3 : oss.length ≤ 2 ^ 20 := by omega
  have b4 : tot oss ≤ 2 ^ 20 := by omega
  have b5 : ∀ x ∈ s.routes, x.length ≤ 2 ^ 40 := fun x hx => by have := tot_mem hx; omega
  have b6 : ∀ x ∈ oss, x.length ≤ 2 ^ 40 := fun x hx => by have := tot_mem hx; omega
  have toS : ∀ {h' : Hp}, h <+: h' → RunsC P G n_laws_toJobShop [sv s (.slice oa s.routes.length ca)] h' fun v h2 => ∃ vr' us, v = sv s vr' ∧ us.length = s.routes.length ∧ Holds h' h2 (.own vr' 1 (us.map encV) :: inL encO 2 us s.routes) := fun hp => toJobShop_run (NSs.pre hp) (by omega) b5
  have toO : ∀ {h' : Hp}, h <+: h' → RunsC P G n_laws_toIntSS [.slice ob oss.length cb] h' fun v h2 => ∃ us : List Value, us.length = oss.length ∧ Holds h' h2 (.own v 1 (us.map encV) :: inL encI 1 us oss) := fun hp => toIntSS_run (NOs.pre hp) (by omega) b6
  have H0 := (Holds.start.alloc [.int .i64 s.m, .slice oa s.routes.length ca] (h := h)).open
  obtain ⟨X, hX⟩ : ∃ X, X = swapsO s oss := ⟨_, rfl⟩
  obtain ⟨xs, hxs⟩ : ∃ xs, xs = X.getD [] := ⟨_, rfl⟩
  -- the reference
  simp -implicitDefEqProofs [CL_ret (z1 _), c1, CL_ret (z2 _), c2]
  refine CL_post (toS H0.pre) fun v h1 ⟨r1, u1, ev, hu1, C1⟩ => ?_
  subst ev
  have p1 := H0.pre.trans C1.pre
  simp -implicitDefEqProofs
  refine CL_post (toO p1) fun v2 h2 ⟨u2, hu2, C2⟩ => ?_
  have S1 : SAt h2 r1 s := ⟨⟨u1, (Holds.nest (L1 := [_]) (L2 := []) (o := 0) (C1.ext C2.pre).open rfl hu1)⟩, b1, by rw [cnt_tot]; exact b2⟩
  have O1 : OAt h2 v2 oss := ⟨⟨u2, (Holds.nest (L1 := [_]) (L2 := []) (o := 0) C2.open rfl hu2)⟩, b3, by rw [cnt_tot]; exact b4⟩
  simp -implicitDefEqProofs
  refine CL_post (specCriticalSwaps_run S1 O1) fun v h3 ⟨p3, w, ev, ow⟩ => ?_
  subst ev
  rw [← hX, ← hxs] at ow
  rw [← hX]
  obtain ⟨w1, w2, w3, rfl⟩ : ∃ a n c, w = .slice a n c := by obtain ⟨a, c, e⟩ := ow.sees.shape; exact ⟨_, _, _, e⟩
  have H1 := (H0.ext (C1.pre.trans C2.pre)).callT p3 ow
  -- the copies
  simp -implicitDefEqProofs [H1.bl 0 2 rfl rfl]
  refine CL_post (toS H1.pre) fun v h4 ⟨r3, u3, ev, hu3, C3⟩ => ?_
  subst ev
  obtain ⟨x1, x2, x3, rfl⟩ : ∃ a n c, r3 = .slice a n c := by obtain ⟨a, c, e⟩ := (C3.sees 0 rfl).shape; exact ⟨_, _, _, e⟩
  have H2 := (Holds.joinT (A := [_]) (M := inL encO 2 u3 s.routes) H1 C3).allocT [.int .i64 s.m, .slice x1 x2 x3]
  simp -implicitDefEqProofs
  refine CL_post (toO H2.pre) fun v5 h5 ⟨u4, hu4, C4⟩ => ?_
  obtain ⟨y1, y2, y3, rfl⟩ : ∃ a n c, v5 = .slice a n c := by obtain ⟨a, c, e⟩ := (C4.sees 0 rfl).shape; exact ⟨_, _, _, e⟩
  have H3 := Holds.joinT (A := [_]) (M := inL encI 1 u4 oss) H2 C4
  have N3 := Holds.nest (o := 2) H3.swap rfl hu3
  have M3 := Holds.nest (o := 4) H3 rfl hu4
  have S3 : SAt h5 (.slice x1 x2 x3) s := ⟨⟨u3, N3⟩, b1, by rw [cnt_tot]; exact b2⟩
  have O3 : OAt h5 (.slice y1 y2 y3) oss := ⟨⟨u4, M3⟩, b3, by rw [cnt_tot]; exact b4⟩
  -- the program
  simp -implicitDefEqProofs [H3.bl 3 2 rfl rfl]
  refine CL_post (CriticalSwaps_run S3 O3) fun v h6 ⟨p6, g, ev, og⟩ => ?_
  subst ev
  rw [← hX, ← hxs] at og
  rw [← hX]
  obtain ⟨g1, g2, g3, rfl⟩ : ∃ a n c, g = .slice a n c := by obtain ⟨a, c, e⟩ := og.sees.shape; exact ⟨_, _, _, e⟩
  have H4 := H3.callT p6 og
  have xl : xs.length ≤ 2 ^ 40 := by rw [hxs, hX]; exact Nat.le_trans swaps_len (by rw [cnt_tot]; omega)
  have q1 := eqIntA2S_run (H4.sees 5 rfl) (H4.sees 1 rfl) xl
  simp -implicitDefEqProofs [CL_ret q1, H4.bl 3 2 rfl rfl, H4.bl 0 2 rfl rfl]
  -- the copies are as they were
  refine CH_post (toS H4.pre).new fun v h7 ⟨⟨r7, u7, ev, hu7, C7⟩, hn7⟩ => ⟨hn7 C7.pre, ?_⟩
  subst ev
  have H5 := H4.ext C7.pre
  have q2 := eqJobShop_run (N3.pre (p6.trans C7.pre)) (Holds.nest (L1 := [_]) (L2 := []) (o := 0) C7.open rfl hu7) (by omega) b5
  simp -implicitDefEqProofs [CL_ret q2, CH_at q2]
  refine CL_post (toO H5.pre) fun v8 h8 ⟨u8, hu8, C8⟩ => ?_
  have H6 := H5.ext C8.pre
  have q3 := eqIntSS_run (M3.pre (p6.trans (C7.pre.trans C8.pre))) (Holds.nest (L1 := [_]) (L2 := []) (o := 0) C8.open rfl hu8) (by omega) b6
  simp -implicitDefEqProofs [CL_ret q3, H6.bl 3 2 rfl rfl]
  -- marks in the copies
  refine CL_post (markJobShop_run (k := 1) (o := 2) H6.swap rfl hu3 (by omega) (by omega) (by omega) (by omega)) fun r h9 ⟨er, H7⟩ => ?_
  subst er
  have H8 := H7.swap
  simp -implicitDefEqProofs
  refine CL_post (markIntSS_run (k := 1 + 2 * (tot s.routes : Int)) (o := 4) H8 rfl hu4 (by omega) (by omega) (by omega) (by omega)) fun r h10 ⟨er, H9⟩ => ?_
  subst er
  have q4 := eqIntA2S_run (H9.sees 5 rfl) (H9.sees 1 rfl) xl
  have hk0 : ¬ (1 + 2 * (tot s.routes : Int) + tot oss < 0) := by omega
  simp -implicitDefEqProofs [hk0, CL_ret q4]
  -- marks in the result
  refine CL_post (markIntA2S_run (k := 1) H9 5 rfl xl (by omega) (by omega)) fun r h11 ⟨er, H10⟩ => ?_
  subst er
  have q5 := heldIntA2S_run (k := 1) (H10.sees 5 rfl) xl (by omega) (by omega)
  have hk1 : ¬ (1 + 2 * (xs.length : Int) < 0) := by omega
  simp -implicitDefEqProofs [CL_ret q5, hk1, H10.bl 0 2 rfl rfl]
  -- once more
  refine CL_post (toS H10.pre) fun v h12 ⟨r12, u12, ev, hu12, C12⟩ => ?_
  subst ev
  simp -implicitDefEqProofs
  refine CL_post (toO (H10.pre.trans C12.pre)) fun v13 h13 ⟨u13, hu13, C13⟩ => ?_
  have S13 : SAt h13 r12 s := ⟨⟨u12, (Holds.nest (L1 := [_]) (L2 := []) (o := 0) (C12.ext C13.pre).open rfl hu12)⟩, b1, by rw [cnt_tot]; exact b2⟩
  have O13 : OAt h13 v13 oss := ⟨⟨u13, (Holds.nest (L1 := [_]) (L2 := []) (o := 0) C13.open rfl hu13)⟩, b3, by rw [cnt_tot]; exact b4⟩
  simp -implicitDefEqProofs
  refine CL_post (CriticalSwaps_run S13 O13) fun v h14 ⟨p14, t, ev, ot⟩ => ?_
  subst ev
  rw [← hX, ← hxs] at ot
  rw [← hX]
  have H11 := H10.ext (C12.pre.trans (C13.pre.trans p14))
  have q6 := eqIntA2S_run ot.sees (H11.sees 1 rfl) xl
  have q7 := heldIntA2S_run (k := 1) (H11.sees 5 rfl) xl (by omega) (by omega)
  simp -implicitDefEqProofs [CL_ret q6, CL_ret q7, hk1]
  exact gcP H11.pre rfl
end Go.Pm.PP

/- Job shops: blocks of the first critical path. -/
set_option linter.unusedVariables false
set_option linter.unusedSimpArgs false
set_option maxRecDepth 4000
set_option maxHeartbeats 2000000
namespace Go.Pm.PP
open Go.Pm Go.Proofs Go.Pm.JS
def addLast (acc : List (List Int)) (x : Int) : List (List Int) := acc.dropLast ++ [acc.getLastD [] ++ [x]]
def mOf (s : Shop) (i : Nat) : Int := ((opsL s).getD i ⟨0, 0⟩).m
def contB (s : Shop) (prev : Option Nat) (x : Nat) : Bool := match prev with
  | some p => mOf s p == mOf s x
  | none => false
def blkGo (s : Shop) : List (List Int) → Option Nat → List Nat → List (List Int)
  | acc, _, [] => acc
  | acc, prev, x :: r => blkGo s (if contB s prev x then addLast acc x else acc ++ [[(x : Int)]]) (some x) r
def blocksI (s : Shop) (oss : List (List Int)) : List (List Int) := blkGo s [] none (pathL s oss)
theorem addLast_snoc {acc : List (List Int)} {l : List Int} {x : Int} : addLast (acc ++ [l]) x = acc ++ [l ++ [x]] := by simp [addLast]
theorem mOf_get {s : Shop} {i : Nat} {y : OpR} (h : (opsL s)[i]? = some y) : mOf s i = y.m := by
  unfold mOf; rw [List.getD_eq_getElem?_getD, h]; rfl
/-- What has been made so far: one block at least behind the first Op; few numbers in all. -/
def BlkOk (acc : List (List Int)) (k : Nat) : Prop := (0 < k → acc ≠ []) ∧ acc.length ≤ k ∧ tot acc ≤ k
theorem tot_append {α : Type} {xs ys : List (List α)} : tot (xs ++ ys) = tot xs + tot ys := by
  induction xs with
  | nil => simp [tot]
  | cons x xs ih => rw [List.cons_append, tot, tot, ih]; omega
theorem path_mem {s : Shop} {oss : List (List Int)} : ∀ {f : Nat} {last : Option Nat} {want : Int} {i : Nat}, i ∈ pathGo s oss f last want → i < (opsL s).length
  | 0, _, _, _, h => by cases h
  | f + 1, last, want, i, h => by
    rw [pathGo] at h
    split at h
    · split at h
      · rename_i j hj
        rcases List.mem_cons.1 h with rfl | h
        · have := List.mem_of_find?_eq_some hj
          simpa using this
        · exact path_mem h
      · cases h
    · cases h
/-- The last of a list of lists of one's own: one number more. -/
theorem push_last {h0 h : Hp} {L1 : List Asn} {v : Value} {us : List Value} {u : Value} {xss : List (List Int)} {l : List Int} (hl : us.length = xss.length) (H : Holds h0 h (L1 ++ (inL encI 1 (us ++ [u]) (xss ++ [l]) ++ []))) (o : Nat) (ho : L1[o]? = some (.own v 1 ((us ++ [u]).map encV))) (x : Int) (hn : l.length ≤ 2 ^ 40) :
    ∃ u' h1 h2, appendP P (h ++ [some ⟨[.int .i64 x], 1, false⟩]) t_S_int u (.slice (some ⟨h.length, 0, some 1⟩) 1 1) = some (u', h1) ∧ indexAddrP P h1 t_S_S_int v (.int .i64 us.length) = some (.pointer (some (addP (base v) us.length))) ∧
      storeP P h1 t_S_int u' (.pointer (some (addP (base v) us.length))) = some h2 ∧ Holds h0 h2 ((L1.set o (.own v 1 ((us ++ [u']).map encV))) ++ (inL encI 1 (us ++ [u']) (xss ++ [l ++ [x]]) ++ [])) ∧ one u' = true ∧ (rowV u = none → newOk (h ++ [some ⟨[.int .i64 x], 1, false⟩]) h1) := by
  rw [inL_snoc hl, List.append_nil] at H
  have hil : (inL encI 1 us xss).length = us.length := inL_len hl
  have hp : (L1 ++ (inL encI 1 us xss ++ [Asn.own u 1 (l.map encI)]))[L1.length + us.length]? = some (Asn.own u 1 (l.map encI)) := by
    rw [List.getElem?_append_right (by omega), Nat.add_sub_cancel_left, List.getElem?_append_right (by omega), hil, Nat.sub_self]; rfl
  obtain ⟨u', h1, ha, H1, k, hnew⟩ := push_I0 H (L1.length + us.length) hp x hn
  have hset : (L1 ++ (inL encI 1 us xss ++ [Asn.own u 1 (l.map encI)])).set (L1.length + us.length) (Asn.own u' 1 ((l ++ [x]).map encI)) = L1 ++ (inL encI 1 us xss ++ [Asn.own u' 1 ((l ++ [x]).map encI)]) := by
    have e1 := List.set_append_right (s := L1) (t := inL encI 1 us xss ++ [Asn.own u 1 (l.map encI)]) (i := L1.length + us.length) (x := Asn.own u' 1 ((l ++ [x]).map encI)) (by omega)
    have e2 := List.set_append_right (s := inL encI 1 us xss) (t := [Asn.own u 1 (l.map encI)]) (i := us.length) (x := Asn.own u' 1 ((l ++ [x]).map encI)) (by omega)
    rw [e1, Nat.add_sub_cancel_left, e2, hil, Nat.sub_self]; rfl
  rw [hset] at H1
  have hol := (List.getElem?_eq_some_iff.1 ho).1
  have ho2 : (L1 ++ (inL encI 1 us xss ++ [Asn.own u' 1 ((l ++ [x]).map encI)]))[o]? = some (.own v 1 ((us ++ [u]).map encV)) := by rw [List.getElem?_append_left hol]; exact ho
  have hone : one u' = true := by
    have := H1.own (L1.length + us.length) (by rw [List.getElem?_append_right (by omega), Nat.add_sub_cancel_left, List.getElem?_append_right (by omega), hil, Nat.sub_self]; rfl)
    obtain ⟨a, c, e⟩ := this.sees.shape
    rw [e]; rfl
  have hul : us.length < (us ++ [u]).length := by simp
  obtain ⟨z, hz, _⟩ := drop_at hul
  have ix := (load_N (H1.sees o ho2) hz).1
  obtain ⟨h2, hs, H2, k2⟩ := put_N H1 o ho2 hul u' hone
  have hse : (us ++ [u]).set us.length u' = us ++ [u'] := by
    have e2 := List.set_append_right (s := us) (t := [u]) (i := us.length) (x := u') (by omega)
    rw [e2, Nat.sub_self]; rfl
  rw [hse, List.set_append_left _ _ hol] at H2
  refine ⟨u', h1, h2, ha, ix, hs, ?_, hone, hnew⟩
  rw [inL_snoc hl, List.append_nil]
  exact H2
end Go.Pm.PP

/- Job shops: blocks of the first critical path, of both. -/
set_option linter.unusedVariables false
set_option linter.unusedSimpArgs false
set_option maxRecDepth 4000
set_option maxHeartbeats 2000000
namespace Go.Pm.PP
open Go.Pm Go.Proofs Go.Pm.JS
theorem _root_.Go.Pm.Holds.snocT {h0 h h1 : Hp} {L1 : List Asn} {us : List Value} {u : Value} {xss : List (List Int)} {x : List Int} (hl : us.length = xss.length) (H : Holds h0 h (L1 ++ (inL encI 1 us xss ++ []))) (hp : h <+: h1) (C : Own h.length h1 u 1 (x.map encI)) : Holds h0 h1 (L1 ++ (inL encI 1 (us ++ [u]) (xss ++ [x]) ++ [])) := by
  have := H.call hp C
  rw [inL_snoc hl, List.append_nil]
  rw [List.append_nil, List.append_assoc] at this
  exact this
/-- A list of one's own is put at the end of a list of lists of one's own. -/
theorem push_new {h0 h h1 : Hp} {L1 : List Asn} {v : Value} {us : List Value} {u : Value} {xss : List (List Int)} {x : List Int} (hl : us.length = xss.length) (H : Holds h0 h (L1 ++ (inL encI 1 us xss ++ []))) (o : Nat) (ho : L1[o]? = some (.own v 1 (us.map encV))) (hp : h <+: h1) (C : Own h.length h1 u 1 (x.map encI)) (hn : us.length ≤ 2 ^ 40) :
    ∃ v' h', appendP P (h1 ++ [some ⟨[u], 1, false⟩]) t_S_S_int v (.slice (some ⟨h1.length, 0, some 1⟩) 1 1) = some (v', h') ∧ Holds h0 h' ((L1.set o (.own v' 1 ((us ++ [u]).map encV))) ++ (inL encI 1 (us ++ [u]) (xss ++ [x]) ++ [])) ∧ (rowV v = none → newOk (h1 ++ [some ⟨[u], 1, false⟩]) h') := by
  have H1 := H.snocT hl hp C
  have hol := (List.getElem?_eq_some_iff.1 ho).1
  have hone : one u = true := by
    obtain ⟨a, c, e⟩ := C.sees.shape
    rw [e]; rfl
  obtain ⟨v', h', g1, g2, g3, g4⟩ := push_N0 H1 o (by rw [List.getElem?_append_left hol]; exact ho) u hone hn
  rw [List.set_append_left _ _ hol] at g2
  exact ⟨v', h', g1, g2, g4⟩
def prevO (p : List Nat) (i : Nat) : Option Nat := if i = 0 then none else p[i - 1]?
theorem prev_succ {p : List Nat} {i x : Nat} (h : p[i]? = some x) : prevO p (i + 1) = some x := by rw [prevO, if_neg (by omega)]; exact h
theorem BlkOk.next {acc : List (List Int)} {k : Nat} {x : Int} (b : BlkOk acc k) : BlkOk (acc ++ [[x]]) (k + 1) ∧ (0 < k → BlkOk (addLast acc x) (k + 1)) := by
  obtain ⟨h1, h2, h3⟩ := b
  refine ⟨⟨fun _ => by simp, by simp; omega, by rw [tot_append]; simp [tot]; omega⟩, fun hk => ?_⟩
  obtain ⟨ys, l, rfl⟩ : ∃ ys l, acc = ys ++ [l] := ⟨acc.dropLast, acc.getLast (h1 hk), (List.dropLast_concat_getLast (h1 hk)).symm⟩
  rw [addLast_snoc]
  rw [tot_append] at h3
  simp [tot] at h2 h3
  exact ⟨fun _ => by simp, by simp; omega, by rw [tot_append]; simp [tot]; omega⟩
/-- What is returned: a list of lists of one's own. -/
def OwnN (b h : Hp) (v : Value) (xss : List (List Int)) : Prop := ∃ us : List Value, us.length = xss.length ∧ Holds b h (.own v 1 (us.map encV) :: inL encI 1 us xss)
section
variable {h : Hp} {vr vo : Value} {s : Shop} {oss : List (List Int)}
theorem path_len {us : List Int} (ho : cntN oss ≤ 2 ^ 20) (h : headsO s oss = some us) : (pathL s oss).length ≤ 2 ^ 30 := by
  obtain ⟨_, _, ao, _, _, hN⟩ := headsO_facts ho h
  have h1 := tails_small ao hN
  have h2 : (pathL s oss).length ≤ (mx (tailsL s (psL s oss))).toNat := pathGo_len
  omega
theorem path_ops {x : Nat} (h : x ∈ pathL s oss) : ∃ z, (opsL s)[x]? = some z ∧ mOf s x = z.m := by
  have := path_mem h
  exact ⟨_, List.getElem?_eq_getElem this, mOf_get (List.getElem?_eq_getElem this)⟩
theorem l9Blocks_run (S : SAt h vr s) (O : OAt h vo oss) {us : List Int} (hO : headsO s oss = some us) : RunsC P G n_spec_l9Blocks [sv s vr, vo] h fun v h' => h <+: h' ∧ OwnN h h' v (blocksI s oss) := by
  refine hideC fun K hK => enter_run e_spec_l9Blocks (by simp) ?_
  have Ss := S
  have Os := O
  obtain ⟨oa, c, rfl⟩ := S.shape
  obtain ⟨ob, d, rfl⟩ := O.shape
  obtain ⟨hg, hs, ao, hd, tl, hN⟩ := headsO_facts Os.tot hO
  have pl := path_len Os.tot hO
  have H0 := Holds.start.alloc [.int .i64 s.m, .slice oa s.routes.length c] (h := h)
  simp -implicitDefEqProofs
  refine CH_post (l9Path_run (Ss.ext _) (Os.ext _) hO).new fun v h1 ⟨⟨hp1, ho1⟩, hn⟩ => ⟨hn hp1, ?_⟩
  have H1 := H0.call hp1 ho1
  obtain ⟨a1, c1, rfl⟩ : ∃ a c, v = .slice a (pathL s oss).length c := by obtain ⟨a, c, e⟩ := ho1.sees.shapeT; exact ⟨a, c, by rw [e, pathI, List.length_map]⟩
  simp -implicitDefEqProofs [H1.bl 0 2 rfl rfl]
  refine CL_post (l9All_run (Ss.pre H1.pre)) fun v h2 ⟨hp2, ho2⟩ => ?_
  have H2 := H1.call hp2 ho2
  obtain ⟨a2, c2, rfl⟩ := ho2.sees.shapeT
  obtain ⟨R, hR⟩ : ∃ R, R = blocksI s oss := ⟨_, rfl⟩
  rw [← hR] at hK
  simp -implicitDefEqProofs
  refine R_loopO (fun n st h' => ∃ (i : Nat) (u : Value) (us : List Value) (acc : List (List Int)), i + n = (pathL s oss).length ∧ st = [(5, u), (6, .slice a1 (pathL s oss).length c1), (7, .slice a2 (opsL s).length c2), (8, .int .i64 i)] ∧ us.length = acc.length ∧ BlkOk acc i ∧
    Holds h h' ([.box h.length [.int .i64 s.m, .slice oa s.routes.length c], .own (.slice a1 (pathL s oss).length c1) 1 ((pathI s oss).map encI), .own (.slice a2 (opsL s).length c2) 2 ((opsL s).map encO), .own u 1 (us.map encV)] ++ (inL encI 1 us acc ++ [])) ∧
    R = blkGo s acc (prevO (pathL s oss) i) ((pathL s oss).drop i)) (fun I hI n st h' => ?_) ⟨0, nilV, [], [], Nat.zero_add _, by simp, rfl, ⟨by simp, by simp, by simp [tot]⟩, (own_nil H2 _ _ _), by simpa [prevO, blocksI] using hR⟩
  rintro ⟨i, u, us, acc, hi, rfl, hul, hb, H, hx⟩
  by_cases hlt : i < (pathL s oss).length
  · obtain ⟨x, hxx, hdr⟩ := drop_at hlt
    rw [hdr, blkGo, ← prev_succ hxx] at hx
    obtain ⟨z, hz, hmz⟩ := path_ops (List.mem_of_getElem? hxx)
    have lx := load_I (H.sees 1 rfl) (i := i) (x := (x : Int)) (by rw [pathI, List.getElem?_map, hxx]; rfl)
    have lz := load_O (H.sees 2 rfl) hz
    have hacc := hb.2.1
    have htot := hb.2.2
    have hw : IntKind.i64.wrap ((i : Int) - 1) = (i : Int) - 1 := by rw [wrap_ok] <;> omega
    have new : contB s (prevO (pathL s oss) i) x = false → ∃ v' h2, appendP P (h' ++ [some ⟨[.int .i64 x], 1, false⟩, some ⟨[.slice (some ⟨h'.length, 0, some 1⟩) 1 1], 1, false⟩]) t_S_S_int u (.slice (some ⟨h'.length + 1, 0, some 1⟩) 1 1) = some (v', h2) ∧
        I (n - 1) [(5, v'), (6, .slice a1 (pathL s oss).length c1), (7, .slice a2 (opsL s).length c2), (8, .int .i64 ((i : Int) + 1))] h2 := fun hc => by
      rw [hc] at hx
      obtain ⟨v', h2, ha, H2, _⟩ := push_new hul H 3 rfl (List.prefix_append h' [some (⟨[.int .i64 x], 1, false⟩ : Row)]) (x := [(x : Int)]) (u := Value.slice (some (⟨h'.length, 0, some 1⟩ : Addr)) 1 1) (Own.fresh (els := [[.int .i64 x]]) (Nat.le_refl _) (by simp) (by simp)) (by omega)
      refine ⟨v', h2, by simpa using ha, on hI ⟨i + 1, v', us ++ [Value.slice (some (⟨h'.length, 0, some 1⟩ : Addr)) 1 1], acc ++ [[(x : Int)]], by omega, rfl, by simp [hul], hb.next.1, H2, by simpa using hx⟩⟩
    by_cases h0 : 0 < i
    · have h0' := h0
      obtain ⟨y, hy, _⟩ := drop_at (show i - 1 < (pathL s oss).length by omega)
      obtain ⟨z2, hz2, hmz2⟩ := path_ops (List.mem_of_getElem? hy)
      have ly := load_I (H.sees 1 rfl) (i := i - 1) (x := (y : Int)) (by rw [pathI, List.getElem?_map, hy]; rfl)
      rw [show ((i - 1 : Nat) : Int) = (i : Int) - 1 by omega] at ly
      have lz2 := load_O (H.sees 2 rfl) hz2
      have hct : contB s (prevO (pathL s oss) i) x = (z2.m == z.m) := by rw [prevO, if_neg (by omega), hy, contB, hmz, hmz2]
      have hcm : (z2.m == z.m) = (z.m == z2.m) := Bool.eq_iff_iff.2 (by simp only [beq_iff_eq]; exact eq_comm)
      cases cc : (z.m == z2.m)
      · obtain ⟨v', h2, ha, hf⟩ := new (by rw [hct, hcm, cc])
        simp -implicitDefEqProofs [-indexAddrP_some, hlt, h0', hw, lx, ly, lz, lz2, cc, ha, winc hlt (by omega)]
        exact ⟨n - 1, by omega, hf⟩
      · rw [hct, hcm, cc, if_pos rfl] at hx
        obtain ⟨ys, l, rfl⟩ : ∃ ys l, acc = ys ++ [l] := ⟨acc.dropLast, acc.getLast (hb.1 h0), (List.dropLast_concat_getLast (hb.1 h0)).symm⟩
        rw [addLast_snoc] at hx
        have hne : us ≠ [] := fun e => by rw [e] at hul; simp at hul
        obtain ⟨vs, w, rfl⟩ : ∃ vs w, us = vs ++ [w] := ⟨us.dropLast, us.getLast hne, (List.dropLast_concat_getLast hne).symm⟩
        have hvl : vs.length = ys.length := by simpa using hul
        have hll : l.length ≤ 2 ^ 40 := by rw [tot_append] at htot; simp [tot] at htot; omega
        obtain ⟨u', h3, h4, ha, hix, hst, H4, hone, _⟩ := push_last hvl H 3 rfl (x : Int) hll
        have lw := load_N (H.sees 3 rfl) (i := vs.length) (x := w) (by simp)
        obtain ⟨ua, uc, rfl⟩ : ∃ a c, u = .slice a (vs.length + 1) c := by obtain ⟨a, c, e⟩ := (H.sees 3 rfl).shapeT; exact ⟨a, c, by rw [e]; simp⟩
        have hwl : IntKind.i64.wrap (vs.length : Int) = (vs.length : Int) := by rw [wrap_ok] <;> simp at hacc <;> omega
        have hb2 := hb.next (x := (x : Int))
        rw [addLast_snoc] at hb2
        simp -implicitDefEqProofs [-indexAddrP_some, hlt, h0', hw, lx, ly, lz, lz2, cc, hwl, lw, ha, hix, hst, winc hlt (by omega)]
        exact ⟨n - 1, by omega, on hI ⟨i + 1, _, vs ++ [u'], ys ++ [l ++ [(x : Int)]], by omega, rfl, by simp [hvl], hb2.2 h0, H4, hx⟩⟩
    · obtain rfl : i = 0 := by omega
      obtain ⟨v', h2, ha, hf⟩ := new (by simp [prevO, contB])
      rw [show ((0 : Nat) : Int) = 0 from rfl] at lx
      simp -implicitDefEqProofs [-indexAddrP_some, hlt, lx, ha, show IntKind.i64.wrap 1 = 1 by decide]
      exact ⟨n - 1, by omega, by simpa using hf⟩
  · rw [List.drop_eq_nil_of_le (by omega), blkGo] at hx
    obtain ⟨ua, uc, rfl⟩ : ∃ a c, u = .slice a us.length c := by obtain ⟨a, c, e⟩ := (H.sees 3 rfl).shapeT; exact ⟨a, c, e⟩
    simp -implicitDefEqProofs [hlt]
    rw [List.append_nil] at H
    have H' : Holds h h' (.own (.slice ua us.length uc) 1 (us.map encV) :: inL encI 1 us acc) := H.tail.tail.tail
    have G := H'.gcN (u := .slice ua us.length uc) hul (fun h => h)
    exact onK hK ⟨G.pre, us, by rw [hx]; exact hul, by rw [hx]; exact G⟩
/-- What is returned with whether there is one. -/
def retN (x : Option (List (List Int))) (v : Value) (b h' : Hp) : Prop := ∃ u, v = .tuple #[u, .bool x.isSome] ∧ OwnN b h' u (x.getD [])
theorem OwnN.nil {b h' : Hp} (hp : b <+: h') : OwnN b h' nilV [] := ⟨[], rfl, own_nil (Holds.none hp) _ _ _⟩
theorem retN.none {b h' : Hp} (hp : b <+: h') : b <+: gc b h' (.tuple #[nilV, .bool false]) ∧ retN none (.tuple #[nilV, .bool false]) b (gc b h' (.tuple #[nilV, .bool false])) :=
  ⟨pre_gcU hp, nilV, rfl, OwnN.nil (pre_gcU hp)⟩
theorem retN.some {b h' : Hp} {u : Value} {xss : List (List Int)} (o : OwnN b h' u xss) : b <+: gc b h' (.tuple #[u, .bool true]) ∧ retN (some xss) (.tuple #[u, .bool true]) b (gc b h' (.tuple #[u, .bool true])) := by
  obtain ⟨us, hl, H⟩ := o
  have G := H.gcN (u := .tuple #[u, .bool true]) hl (fun h => by
    have : (#[u, .bool true] : Array Value).toList.all plainC = true := h
    simp only [List.all_cons, Bool.and_eq_true] at this
    exact this.1)
  exact ⟨G.pre, u, rfl, us, hl, G⟩
noncomputable def blocksO (s : Shop) (oss : List (List Int)) : Option (List (List Int)) := (headsO s oss).map fun _ => blocksI s oss
theorem specCriticalBlocks_run (S : SAt h vr s) (O : OAt h vo oss) : RunsC P G n_spec_CriticalBlocks [sv s vr, vo] h fun v h' => h <+: h' ∧ retN (blocksO s oss) v h h' := by
  refine hideC fun K hK => enter_run e_spec_CriticalBlocks (by simp) ?_
  have Ss := S
  have Os := O
  obtain ⟨oa, c, rfl⟩ := S.shape
  obtain ⟨ob, d, rfl⟩ := O.shape
  have r1 := fun l => l9Open_run (Ss.ext l) (Os.ext l)
  have H0 := Holds.start.alloc [.int .i64 s.m, .slice oa s.routes.length c] (h := h)
  cases c2 : headsO s oss with
  | none =>
    simp -implicitDefEqProofs [CL_ret (r1 _), c2]
    exact onK hK (by rw [blocksO, c2]; exact retN.none H0.pre)
  | some us =>
    simp -implicitDefEqProofs [CL_ret (r1 _), c2]
    refine CL_post (l9Blocks_run (Ss.ext _) (Os.ext _) c2) fun v h1 ⟨hp1, us1, hl1, C⟩ => ?_
    simp -implicitDefEqProofs
    have H1 := Holds.join H0 C
    exact onK hK (by rw [blocksO, c2]; exact retN.some ⟨us1, hl1, H1.tail⟩)
theorem blk_new {acc : List (List Int)} {x : Int} : addLast (acc ++ [[]]) x = acc ++ [[x]] := by rw [addLast_snoc]; rfl
theorem selBlocks_run {vo vt vi va vh vT : Value} {us : List Int} (o : SelSee h vo vt vi va vh vT s oss us) (ho : cntN oss ≤ 2 ^ 20) (hO : headsO s oss = some us) :
    RunsC P G n_impl_selected_blocks [selv vo vt vi va vh vT (mx (tailsL s (psL s oss)))] h fun v h' => h <+: h' ∧ OwnN h h' v (blocksI s oss) := by
  refine hideC fun K hK => enter_run e_impl_selected_blocks (by simp) ?_
  obtain ⟨hg, hs, ao, hd, tl, hN⟩ := headsO_facts ho hO
  have pl := path_len ho hO
  have os := o
  have rp := fun l => selPath_run (os.pre (List.prefix_append h l)) ho hO
  obtain ⟨⟨a1, c1, rfl⟩, ⟨a2, c2, rfl⟩, ⟨a3, c3, rfl⟩, ⟨a4, c4, rfl⟩, ⟨a5, c5, rfl⟩, a6, c6, rfl⟩ := o.shapes
  generalize hL : mx (tailsL s (psL s oss)) = L at *
  have H0 := Holds.start.alloc [.slice a1 (opsL s).length c1, .slice a2 (flatF s).rt.length c2, .slice a3 (flatF s).ix.length c3, .slice a4 (qsL oss).length c4, .slice a5 us.length c5, .slice a6 (tailsL s (psL s oss)).length c6, .int .i64 L] (h := h)
  simp -implicitDefEqProofs
  refine CL_post (rp _) fun v h1 ⟨hp1, ho1⟩ => ?_
  have H1 := H0.call hp1 ho1
  obtain ⟨b1, d1, rfl⟩ : ∃ a c, v = .slice a (pathL s oss).length c := by obtain ⟨a, c, e⟩ := ho1.sees.shapeT; exact ⟨a, c, by rw [e, pathI, List.length_map]⟩
  obtain ⟨R, hR⟩ : ∃ R, R = blocksI s oss := ⟨_, rfl⟩
  rw [← hR] at hK
  simp -implicitDefEqProofs
  refine R_loopO (fun n st h' => ∃ (i : Nat) (u : Value) (vs : List Value) (acc : List (List Int)), i + n = (pathL s oss).length ∧ st = [(1, .pointer (some ⟨h.length, 0, some 7⟩)), (3, u), (4, .slice b1 (pathL s oss).length d1), (9, .slice b1 (pathL s oss).length d1), (10, .int .i64 (pathL s oss).length), (11, .int .i64 i)] ∧ vs.length = acc.length ∧ BlkOk acc i ∧
    Holds h h' ([.box h.length [.slice a1 (opsL s).length c1, .slice a2 (flatF s).rt.length c2, .slice a3 (flatF s).ix.length c3, .slice a4 (qsL oss).length c4, .slice a5 us.length c5, .slice a6 (tailsL s (psL s oss)).length c6, .int .i64 L], .own (.slice b1 (pathL s oss).length d1) 1 ((pathI s oss).map encI), .own u 1 (vs.map encV)] ++ (inL encI 1 vs acc ++ [])) ∧
    R = blkGo s acc (prevO (pathL s oss) i) ((pathL s oss).drop i)) (fun I hI n st h' => ?_) ⟨0, nilV, [], [], Nat.zero_add _, by simp, rfl, ⟨by simp, by simp, by simp [tot]⟩, (own_nil H1 _ _ _), by simpa [prevO, blocksI] using hR⟩
  rintro ⟨i, u, vs, acc, hi, rfl, hul, hb, H, hx⟩
  by_cases hlt : i < (pathL s oss).length
  · obtain ⟨x, hxx, hdr⟩ := drop_at hlt
    rw [hdr, blkGo, ← prev_succ hxx] at hx
    obtain ⟨z, hz, hmz⟩ := path_ops (List.mem_of_getElem? hxx)
    have lx := load_I (H.sees 1 rfl) (i := i) (x := (x : Int)) (by rw [pathI, List.getElem?_map, hxx]; rfl)
    have lz := load_O (os.f.o.pre H.pre) hz
    have hacc := hb.2.1
    have htot := hb.2.2
    have hw : IntKind.i64.wrap ((i : Int) - 1) = (i : Int) - 1 := by rw [wrap_ok] <;> omega
    have new : contB s (prevO (pathL s oss) i) x = false → ∃ v' h2 h3 h4 u' a c, appendP P (h' ++ [some ⟨[nilV], 1, false⟩]) t_S_S_int u (.slice (some ⟨h'.length, 0, some 1⟩) 1 1) = some (v', h2) ∧ v' = .slice a (vs.length + 1) c ∧
        indexAddrP P h2 t_S_S_int v' (.int .i64 vs.length) = some (.pointer (some (addP (base v') vs.length))) ∧ loadP P h2 t_S_int (.pointer (some (addP (base v') vs.length))) = some nilV ∧
        appendP P (h2 ++ [some ⟨[.int .i64 x], 1, false⟩]) t_S_int nilV (.slice (some ⟨h2.length, 0, some 1⟩) 1 1) = some (u', h3) ∧ indexAddrP P h3 t_S_S_int v' (.int .i64 vs.length) = some (.pointer (some (addP (base v') vs.length))) ∧
        storeP P h3 t_S_int u' (.pointer (some (addP (base v') vs.length))) = some h4 ∧
        I (n - 1) [(1, .pointer (some ⟨h.length, 0, some 7⟩)), (3, v'), (4, .slice b1 (pathL s oss).length d1), (9, .slice b1 (pathL s oss).length d1), (10, .int .i64 (pathL s oss).length), (11, .int .i64 ((i : Int) + 1))] h4 := fun hc => by
      rw [hc] at hx
      obtain ⟨v', h2, ha, H2, _⟩ := push_new hul H 2 rfl List.prefix_rfl (x := []) (u := nilV) Own.nil (by omega)
      have H2' : Holds h h2 ([.box h.length [.slice a1 (opsL s).length c1, .slice a2 (flatF s).rt.length c2, .slice a3 (flatF s).ix.length c3, .slice a4 (qsL oss).length c4, .slice a5 us.length c5, .slice a6 (tailsL s (psL s oss)).length c6, .int .i64 L], .own (.slice b1 (pathL s oss).length d1) 1 ((pathI s oss).map encI), .own v' 1 ((vs ++ [nilV]).map encV)] ++ (inL encI 1 (vs ++ [nilV]) (acc ++ [[]]) ++ [])) := H2
      obtain ⟨u', h3, h4, hb1, hix, hst, H4, hone, _⟩ := push_last hul H2' 2 rfl (x : Int) (by simp)
      have lw := load_N (H2'.sees 2 rfl) (i := vs.length) (x := nilV) (by simp)
      obtain ⟨a, c, e⟩ := (H2'.sees 2 rfl).shapeT
      refine ⟨v', h2, h3, h4, u', a, c, ha, by rw [e]; simp, lw.1, lw.2, hb1, hix, hst, on hI ⟨i + 1, v', vs ++ [u'], acc ++ [[(x : Int)]], by omega, rfl, by simp [hul], hb.next.1, H4, by simpa using hx⟩⟩
    by_cases h0 : 0 < i
    · have h0' : ((i : Int) == 0) = false := nb (by omega)
      obtain ⟨y, hy, _⟩ := drop_at (show i - 1 < (pathL s oss).length by omega)
      obtain ⟨z2, hz2, hmz2⟩ := path_ops (List.mem_of_getElem? hy)
      have ly := load_I (H.sees 1 rfl) (i := i - 1) (x := (y : Int)) (by rw [pathI, List.getElem?_map, hy]; rfl)
      rw [show ((i - 1 : Nat) : Int) = (i : Int) - 1 by omega] at ly
      have lz2 := load_O (os.f.o.pre H.pre) hz2
      have hct : contB s (prevO (pathL s oss) i) x = (z2.m == z.m) := by rw [prevO, if_neg (by omega), hy, contB, hmz, hmz2]
      cases cc : (z2.m == z.m)
      · obtain ⟨v', h2, h3, h4, u', a, c, ha, rfl, hix, hld, hb1, hix2, hst, hf⟩ := new (by rw [hct, cc])
        have hcn : (z2.m != z.m) = true := by rw [bne, cc]; rfl
        have hwl : IntKind.i64.wrap (vs.length : Int) = (vs.length : Int) := by rw [wrap_ok] <;> omega
        simp -implicitDefEqProofs [-indexAddrP_some, hlt, h0', hw, lx, ly, lz, lz2, H.bl 0 7 rfl rfl, H.blx 0 7 rfl rfl, hcn, ha, hwl, hix, hld, hb1, hix2, hst, winc hlt (by omega)]
        exact ⟨n - 1, by omega, hf⟩
      · rw [hct, cc, if_pos rfl] at hx
        have hcn : (z2.m != z.m) = false := by rw [bne, cc]; rfl
        obtain ⟨ys, l, rfl⟩ : ∃ ys l, acc = ys ++ [l] := ⟨acc.dropLast, acc.getLast (hb.1 h0), (List.dropLast_concat_getLast (hb.1 h0)).symm⟩
        rw [addLast_snoc] at hx
        have hne : vs ≠ [] := fun e => by rw [e] at hul; simp at hul
        obtain ⟨vs, w, rfl⟩ : ∃ ws w, vs = ws ++ [w] := ⟨vs.dropLast, vs.getLast hne, (List.dropLast_concat_getLast hne).symm⟩
        have hvl : vs.length = ys.length := by simpa using hul
        have hll : l.length ≤ 2 ^ 40 := by rw [tot_append] at htot; simp [tot] at htot; omega
        obtain ⟨u', h3, h4, ha, hix, hst, H4, hone, _⟩ := push_last hvl H 2 rfl (x : Int) hll
        have lw := load_N (H.sees 2 rfl) (i := vs.length) (x := w) (by simp)
        obtain ⟨ua, uc, rfl⟩ : ∃ a c, u = .slice a (vs.length + 1) c := by obtain ⟨a, c, e⟩ := (H.sees 2 rfl).shapeT; exact ⟨a, c, by rw [e]; simp⟩
        have hwl : IntKind.i64.wrap (vs.length : Int) = (vs.length : Int) := by rw [wrap_ok] <;> simp at hacc <;> omega
        have hb2 := hb.next (x := (x : Int))
        rw [addLast_snoc] at hb2
        simp -implicitDefEqProofs [-indexAddrP_some, hlt, h0', hw, lx, ly, lz, lz2, H.bl 0 7 rfl rfl, H.blx 0 7 rfl rfl, hcn, hwl, lw, ha, hix, hst, winc hlt (by omega)]
        exact ⟨n - 1, by omega, on hI ⟨i + 1, _, vs ++ [u'], ys ++ [l ++ [(x : Int)]], by omega, rfl, by simp [hvl], hb2.2 h0, H4, hx⟩⟩
    · obtain rfl : i = 0 := by omega
      obtain ⟨v', h2, h3, h4, u', a, c, ha, rfl, hix, hld, hb1, hix2, hst, hf⟩ := new (by simp [prevO, contB])
      have hwl : IntKind.i64.wrap (vs.length : Int) = (vs.length : Int) := by rw [wrap_ok] <;> omega
      rw [show ((0 : Nat) : Int) = 0 from rfl] at lx
      simp -implicitDefEqProofs [-indexAddrP_some, hlt, lx, ha, hwl, hix, hld, hb1, hix2, hst, H.bl 0 7 rfl rfl, H.blx 0 7 rfl rfl, show IntKind.i64.wrap 1 = 1 by decide]
      exact ⟨n - 1, by omega, by simpa using hf⟩
  · rw [List.drop_eq_nil_of_le (by omega), blkGo] at hx
    obtain ⟨ua, uc, rfl⟩ : ∃ a c, u = .slice a vs.length c := by obtain ⟨a, c, e⟩ := (H.sees 2 rfl).shapeT; exact ⟨a, c, e⟩
    simp -implicitDefEqProofs [hlt]
    rw [List.append_nil] at H
    have H' : Holds h h' (.own (.slice ua vs.length uc) 1 (vs.map encV) :: inL encI 1 vs acc) := H.tail.tail
    have G := H'.gcN (u := .slice ua vs.length uc) hul (fun h => h)
    exact onK hK ⟨G.pre, vs, by rw [hx]; exact hul, by rw [hx]; exact G⟩
theorem CriticalBlocks_run (S : SAt h vr s) (O : OAt h vo oss) : RunsC P G n_impl_CriticalBlocks [sv s vr, vo] h fun v h' => h <+: h' ∧ retN (blocksO s oss) v h h' := by
  refine hideC fun K hK => enter_run e_impl_CriticalBlocks (by simp) ?_
  have Ss := S
  have Os := O
  obtain ⟨oa, c, rfl⟩ := S.shape
  obtain ⟨ob, d, rfl⟩ := O.shape
  simp -implicitDefEqProofs
  refine CL_post (selectedBy_run (Ss.ext _) (Os.ext _)) fun v h1 ⟨hp1, hs⟩ => ?_
  have hp := (List.prefix_append h [some (⟨[.int .i64 s.m, .slice oa s.routes.length c], 0, false⟩ : Row)]).trans hp1
  rcases hs with ⟨hn, rfl⟩ | ⟨us, wo, wt, wi, wa, wh, wT, hn, rfl, o⟩
  · simp -implicitDefEqProofs
    exact onK hK (by rw [blocksO, hn]; exact retN.none (hp.trans (List.prefix_append ..)))
  · have os := o
    obtain ⟨hg, hs, ao, hd, tl, hN⟩ := headsO_facts Os.tot hn
    obtain ⟨⟨a1, c1, rfl⟩, ⟨a2, c2, rfl⟩, ⟨a3, c3, rfl⟩, ⟨a4, c4, rfl⟩, ⟨a5, c5, rfl⟩, a6, c6, rfl⟩ := o.shapes
    have H0 := Holds.none hp
    simp -implicitDefEqProofs
    refine CL_post (selBlocks_run ((os.see hs).pre (List.prefix_append ..)) Os.tot hn) fun v h2 ⟨hp2, us1, hl1, C⟩ => ?_
    have H1 := (H0.ext (List.prefix_append ..)).join C
    simp -implicitDefEqProofs
    exact onK hK (by rw [blocksO, hn]; exact retN.some ⟨us1, hl1, H1⟩)
theorem blkGo_len {s : Shop} : ∀ {r : List Nat} {acc : List (List Int)} {prev : Option Nat}, (prev ≠ none → acc ≠ []) → (blkGo s acc prev r).length ≤ acc.length + r.length ∧ tot (blkGo s acc prev r) = tot acc + r.length
  | [], acc, prev, _ => by simp [blkGo]
  | x :: r, acc, prev, hp => by
    rw [blkGo]
    by_cases hc : contB s prev x = true
    · rw [if_pos hc]
      have hne : acc ≠ [] := hp fun e => by rw [e] at hc; simp [contB] at hc
      obtain ⟨ys, l, rfl⟩ : ∃ ys l, acc = ys ++ [l] := ⟨acc.dropLast, acc.getLast hne, (List.dropLast_concat_getLast hne).symm⟩
      rw [addLast_snoc]
      obtain ⟨h1, h2⟩ := blkGo_len (s := s) (r := r) (acc := ys ++ [l ++ [(x : Int)]]) (prev := some x) (by simp)
      rw [tot_append] at h2 ⊢
      simp [tot] at h1 h2 ⊢
      omega
    · rw [if_neg hc]
      obtain ⟨h1, h2⟩ := blkGo_len (s := s) (r := r) (acc := acc ++ [[(x : Int)]]) (prev := some x) (by simp)
      rw [tot_append] at h2
      simp [tot] at h1 h2 ⊢
      omega
theorem blocks_len (ho : cntN oss ≤ 2 ^ 20) : ((blocksO s oss).getD []).length ≤ 2 ^ 40 ∧ tot ((blocksO s oss).getD []) ≤ 2 ^ 40 := by
  unfold blocksO
  cases h : headsO s oss with
  | none => simp [tot]
  | some us =>
    have pl := path_len ho h
    obtain ⟨h1, h2⟩ := blkGo_len (s := s) (r := pathL s oss) (acc := []) (prev := none) (by simp)
    simp only [Option.map_some, Option.getD_some, blocksI]
    rw [h2]
    simp [tot] at h1 ⊢
    omega
end
end Go.Pm.PP

/- Lists of lists of one's own: the order in which they are told; marks that are held. -/
set_option linter.unusedVariables false
set_option linter.unusedSimpArgs false
set_option maxHeartbeats 1000000
namespace Go.Pm
theorem Holds.swap2 {h0 h : Hp} {L A B C D : List Asn} (H : Holds h0 h (L ++ (A ++ (B ++ (C ++ D))))) : Holds h0 h (L ++ (C ++ (A ++ (B ++ D)))) := by
  refine H.perm (List.Perm.append_left L ?_)
  have h1 : (A ++ (B ++ (C ++ D))).Perm (A ++ (C ++ (B ++ D))) := by
    refine List.Perm.append_left A ?_
    rw [← List.append_assoc, ← List.append_assoc]
    exact List.Perm.append_right D List.perm_append_comm
  refine h1.trans ?_
  rw [← List.append_assoc, ← List.append_assoc C]
  exact List.Perm.append_right _ List.perm_append_comm
theorem Holds.swap3 {h0 h : Hp} {L A B C D E : List Asn} (H : Holds h0 h (L ++ (A ++ (B ++ (C ++ (D ++ E)))))) : Holds h0 h (L ++ (D ++ (A ++ (B ++ (C ++ E))))) := by
  have h1 : Holds h0 h ((L ++ A) ++ (B ++ (C ++ (D ++ E)))) := by rw [List.append_assoc]; exact H
  have h2 := h1.swap2
  rw [List.append_assoc] at h2
  exact h2.swap
end Go.Pm
namespace Go.Pm.PP
open Go.Pm Go.Proofs
theorem heldIntSS_run {h : Hp} {v : Value} {us : List Value} {xss : List (List Int)} {k : Int} (hv : Nest h v encI 1 (marksN mkI 1 k xss) us) (hn : xss.length ≤ 2 ^ 40) (ht : tot xss ≤ 2 ^ 40) (h1 : 0 ≤ k) (h2 : k ≤ 2 ^ 40) :
    Ret P G n_laws_heldIntSS [v, .int .i64 k] h (.int .i64 (k + (tot xss : Int))) h := by
  refine enter_run e_laws_heldIntSS (by simp) ?_
  have hvs := hv
  obtain ⟨oa, c, ev⟩ := hv.shape
  rw [marksN_len] at ev
  subst ev
  simp -implicitDefEqProofs
  refine R_loopO (fun m s h' => ∃ (j : Nat), j + m = xss.length ∧ s = [(0, .slice oa xss.length c), (1, .int .i64 (k + (tot (xss.take j) : Int))), (5, .int .i64 j)] ∧ h' = h) (fun I hI m s h' => ?_) ⟨0, Nat.zero_add _, by simp [tot], rfl⟩
  rintro ⟨j, hj, rfl, rfl⟩
  by_cases hlt : j < xss.length
  · obtain ⟨y, hy, hd⟩ := drop_at hlt
    have hg := marksN_get (mk := mkI) (n := 1) (k := k) hy
    obtain ⟨a, ha, ho⟩ := hvs.at hg
    have tt := tot_take_succ hy
    have tl := tot_take_le (xss := xss) (i := j + 1)
    rw [show k + ((1 : Nat) : Int) * (tot (xss.take j) : Int) = k + (tot (xss.take j) : Int) by rw [Int.natCast_one, Int.one_mul]] at ho
    have e := heldIntS_run (n := y.length) ho (Nat.le_trans (tot_mem (List.mem_of_getElem? hy)) ht) (by omega) (by omega)
    have hnn : ¬ (k + (tot (xss.take j) : Int) + (y.length : Int) < 0) := by omega
    simp -implicitDefEqProofs [-indexAddrP_some, hlt, hvs.load (P := P) u_S_S_int i_S_int a_S_int ha, CL_ret e, hnn, winc hlt hn]
    exact ⟨m - 1, by omega, on hI ⟨j + 1, by omega, by rw [tt, Int.natCast_add, ← Int.add_assoc]; rfl, rfl⟩⟩
  · rw [List.take_of_length_le (by omega)]
    simp -implicitDefEqProofs [hlt]
end Go.Pm.PP

/- FnExactCriticalBlocks in the small machine. -/
set_option linter.unusedVariables false
set_option linter.unusedSimpArgs false
set_option maxRecDepth 4000
set_option maxHeartbeats 4000000
namespace Go.Pm.PP
open Go.Pm Go.Proofs
theorem law_CriticalBlocks {h : Hp} {vr vo : Value} {s : Shop} {oss : List (List Int)} {vs ws : List Value} (NS : Nest h vr encO 2 s.routes vs) (NO : Nest h vo encI 1 oss ws) (l1 : s.routes.length < 2 ^ 63) (l2 : ∀ x ∈ s.routes, x.length < 2 ^ 63) (l3 : oss.length < 2 ^ 63) (l4 : ∀ x ∈ oss, x.length < 2 ^ 63) :
    Ret P G n_laws_FnExactCriticalBlocks [sv s vr, vo] h (.bool true) h := by
  refine enter_run e_laws_FnExactCriticalBlocks (by simp) ?_
  have NSs := NS
  have NOs := NO
  obtain ⟨oa, ca, rfl⟩ := NS.shape
  obtain ⟨ob, cb, rfl⟩ := NO.shape
  have z1 := fun l => szJobShop_run (left := 1048576) (NSs.pre (List.prefix_append h l)) l1 l2 (by omega) (by omega)
  by_cases c1 : szN 1048576 s.routes < 0
  · simp -implicitDefEqProofs [CL_ret (z1 _), c1]
  have e1 := szN_ok c1
  have z2 := fun l => szIntSS_run (left := szN 1048576 s.routes) (NOs.pre (List.prefix_append h l)) l3 l4 (by omega) (by omega)
  by_cases c2 : szN (szN 1048576 s.routes) oss < 0
  · simp -implicitDefEqProofs [CL_ret (z1 _), c1, CL_ret (z2 _), c2]
  have e2 := szN_ok c2
  have b1 : s.routes.length ≤ 2 ^ 20 := by omega
  have b2 : tot s.routes ≤ 2 ^ 20 := by omega
  have b3 : oss.length ≤ 2 ^ 20 := by omega
  have b4 : tot oss ≤ 2 ^ 20 := by omega
  have b5 : ∀ x ∈ s.routes, x.length ≤ 2 ^ 40 := fun x hx => by have := tot_mem hx; omega
  have b6 : ∀ x ∈ oss, x.length ≤ 2 ^ 40 := fun x hx => by have := tot_mem hx; omega
  have toS : ∀ {h' : Hp}, h <+: h' → RunsC P G n_laws_toJobShop [sv s (.slice oa s.routes.length ca)] h' fun v h2 => ∃ vr' us, v = sv s vr' ∧ us.length = s.routes.length ∧ Holds h' h2 (.own vr' 1 (us.map encV) :: inL encO 2 us s.routes) := fun hp => toJobShop_run (NSs.pre hp) (by omega) b5
  have toO : ∀ {h' : Hp}, h <+: h' → RunsC P G n_laws_toIntSS [.slice ob oss.length cb] h' fun v h2 => ∃ us : List Value, us.length = oss.length ∧ Holds h' h2 (.own v 1 (us.map encV) :: inL encI 1 us oss) := fun hp => toIntSS_run (NOs.pre hp) (by omega) b6
  have H0 := (Holds.start.alloc [.int .i64 s.m, .slice oa s.routes.length ca] (h := h)).open
  obtain ⟨X, hX⟩ : ∃ X, X = blocksO s oss := ⟨_, rfl⟩
  obtain ⟨xs, hxs⟩ : ∃ xs, xs = X.getD [] := ⟨_, rfl⟩
  -- the reference
  simp -implicitDefEqProofs [CL_ret (z1 _), c1, CL_ret (z2 _), c2]
  refine CL_post (toS H0.pre) fun v h1 ⟨r1, u1, ev, hu1, C1⟩ => ?_
  subst ev
  have p1 := H0.pre.trans C1.pre
  simp -implicitDefEqProofs
  refine CL_post (toO p1) fun v2 h2 ⟨u2, hu2, C2⟩ => ?_
  have S1 : SAt h2 r1 s := ⟨⟨u1, (Holds.nest (L1 := [_]) (L2 := []) (o := 0) (C1.ext C2.pre).open rfl hu1)⟩, b1, by rw [cnt_tot]; exact b2⟩
  have O1 : OAt h2 v2 oss := ⟨⟨u2, (Holds.nest (L1 := [_]) (L2 := []) (o := 0) C2.open rfl hu2)⟩, b3, by rw [cnt_tot]; exact b4⟩
  simp -implicitDefEqProofs
  refine CL_post (specCriticalBlocks_run S1 O1) fun v h3 ⟨p3, w, ev, uw, lw, CW⟩ => ?_
  subst ev
  rw [← hX, ← hxs] at CW lw
  rw [← hX]
  obtain ⟨w1, w2, w3, rfl⟩ : ∃ a n c, w = .slice a n c := by obtain ⟨a, c, e⟩ := (CW.sees 0 rfl).shape; exact ⟨_, _, _, e⟩
  have H1 := Holds.joinT (A := [_]) (M := inL encI 1 uw xs) (H0.ext (C1.pre.trans C2.pre)) CW
  -- the copies
  simp -implicitDefEqProofs [H1.bl 0 2 rfl rfl]
  refine CL_post (toS H1.pre) fun v h4 ⟨r3, u3, ev, hu3, C3⟩ => ?_
  subst ev
  obtain ⟨x1, x2, x3, rfl⟩ : ∃ a n c, r3 = .slice a n c := by obtain ⟨a, c, e⟩ := (C3.sees 0 rfl).shape; exact ⟨_, _, _, e⟩
  have H2 := (Holds.joinT (A := [_]) (M := inL encO 2 u3 s.routes) H1 C3).allocT [.int .i64 s.m, .slice x1 x2 x3]
  simp -implicitDefEqProofs
  refine CL_post (toO H2.pre) fun v5 h5 ⟨u4, hu4, C4⟩ => ?_
  obtain ⟨y1, y2, y3, rfl⟩ : ∃ a n c, v5 = .slice a n c := by obtain ⟨a, c, e⟩ := (C4.sees 0 rfl).shape; exact ⟨_, _, _, e⟩
  have H3 := Holds.joinT (A := [_]) (M := inL encI 1 u4 oss) H2 C4
  have N3 := Holds.nest (o := 2) H3.swap rfl hu3
  have M3 := Holds.nest (o := 4) H3 rfl hu4
  have S3 : SAt h5 (.slice x1 x2 x3) s := ⟨⟨u3, N3⟩, b1, by rw [cnt_tot]; exact b2⟩
  have O3 : OAt h5 (.slice y1 y2 y3) oss := ⟨⟨u4, M3⟩, b3, by rw [cnt_tot]; exact b4⟩
  -- the program
  simp -implicitDefEqProofs [H3.bl 3 2 rfl rfl]
  refine CL_post (CriticalBlocks_run S3 O3) fun v h6 ⟨p6, g, ev, ug, lg, CG⟩ => ?_
  subst ev
  rw [← hX, ← hxs] at CG lg
  rw [← hX]
  obtain ⟨g1, g2, g3, rfl⟩ : ∃ a n c, g = .slice a n c := by obtain ⟨a, c, e⟩ := (CG.sees 0 rfl).shape; exact ⟨_, _, _, e⟩
  have H4 := Holds.joinT (A := [_]) (M := inL encI 1 ug xs) H3 CG
  have xl : xs.length ≤ 2 ^ 40 := by rw [hxs, hX]; exact (blocks_len (by rw [cnt_tot]; exact b4)).1
  have xt : tot xs ≤ 2 ^ 40 := by rw [hxs, hX]; exact (blocks_len (by rw [cnt_tot]; exact b4)).2
  have xi : ∀ x ∈ xs, x.length ≤ 2 ^ 40 := fun x hx => Nat.le_trans (tot_mem hx) xt
  have q1 := eqIntSS_run (Holds.nest (o := 5) H4 rfl lg) (Holds.nest (o := 1) H4.swap3 rfl lw) xl xi
  simp -implicitDefEqProofs [CL_ret q1, H4.bl 3 2 rfl rfl, H4.bl 0 2 rfl rfl]
  -- the copies are as they were
  refine CH_post (toS H4.pre).new fun v h7 ⟨⟨r7, u7, ev, hu7, C7⟩, hn7⟩ => ⟨hn7 C7.pre, ?_⟩
  subst ev
  have H5 := H4.ext C7.pre
  have q2 := eqJobShop_run (N3.pre (p6.trans C7.pre)) (Holds.nest (L1 := [_]) (L2 := []) (o := 0) C7.open rfl hu7) (by omega) b5
  simp -implicitDefEqProofs [CL_ret q2, CH_at q2]
  refine CL_post (toO H5.pre) fun v8 h8 ⟨u8, hu8, C8⟩ => ?_
  have H6 := H5.ext C8.pre
  have q3 := eqIntSS_run (M3.pre (p6.trans (C7.pre.trans C8.pre))) (Holds.nest (L1 := [_]) (L2 := []) (o := 0) C8.open rfl hu8) (by omega) b6
  simp -implicitDefEqProofs [CL_ret q3, H6.bl 3 2 rfl rfl]
  -- marks in the copies
  refine CL_post (markJobShop_run (k := 1) (o := 2) H6.swap2 rfl hu3 (by omega) (by omega) (by omega) (by omega)) fun r h9 ⟨er, H7⟩ => ?_
  subst er
  have H8 := H7.swap2
  simp -implicitDefEqProofs
  refine CL_post (markIntSS_run (k := 1 + 2 * (tot s.routes : Int)) (o := 4) H8 rfl hu4 (by omega) (by omega) (by omega) (by omega)) fun r h10 ⟨er, H9⟩ => ?_
  subst er
  have q4 := eqIntSS_run (Holds.nest (o := 5) H9.swap2 rfl lg) (Holds.nest (o := 1) H9.swap3 rfl lw) xl xi
  have hk0 : ¬ (1 + 2 * (tot s.routes : Int) + tot oss < 0) := by omega
  simp -implicitDefEqProofs [hk0, CL_ret q4]
  -- marks in the result
  refine CL_post (markIntSS_run (k := 1) (o := 5) H9.swap2 rfl lg xl xt (by omega) (by omega)) fun r h11 ⟨er, H10⟩ => ?_
  subst er
  have lm : ug.length = (marksN mkI 1 1 xs).length := by rw [marksN_len]; exact lg
  have q5 := heldIntSS_run (k := 1) (Holds.nest (o := 5) H10 rfl lm) xl xt (by omega) (by omega)
  have hk1 : ¬ (1 + (tot xs : Int) < 0) := by omega
  simp -implicitDefEqProofs [CL_ret q5, hk1, H10.bl 0 2 rfl rfl]
  -- once more
  refine CL_post (toS H10.pre) fun v h12 ⟨r12, u12, ev, hu12, C12⟩ => ?_
  subst ev
  simp -implicitDefEqProofs
  refine CL_post (toO (H10.pre.trans C12.pre)) fun v13 h13 ⟨u13, hu13, C13⟩ => ?_
  have S13 : SAt h13 r12 s := ⟨⟨u12, (Holds.nest (L1 := [_]) (L2 := []) (o := 0) (C12.ext C13.pre).open rfl hu12)⟩, b1, by rw [cnt_tot]; exact b2⟩
  have O13 : OAt h13 v13 oss := ⟨⟨u13, (Holds.nest (L1 := [_]) (L2 := []) (o := 0) C13.open rfl hu13)⟩, b3, by rw [cnt_tot]; exact b4⟩
  simp -implicitDefEqProofs
  refine CL_post (CriticalBlocks_run S13 O13) fun v h14 ⟨p14, t, ev, ut, lt, CT⟩ => ?_
  subst ev
  rw [← hX, ← hxs] at CT lt
  rw [← hX]
  have H11 := H10.ext (C12.pre.trans (C13.pre.trans p14))
  have q6 := eqIntSS_run (Holds.nest (L1 := [_]) (L2 := []) (o := 0) CT.open rfl lt) (Holds.nest (o := 1) H11.swap3 rfl lw) xl xi
  have q7 := heldIntSS_run (k := 1) (Holds.nest (o := 5) H11 rfl lm) xl xt (by omega) (by omega)
  simp -implicitDefEqProofs [CL_ret q6, CL_ret q7, hk1]
  exact gcP H11.pre rfl
end Go.Pm.PP

/- Job shops: LeavesBlocks of both. -/
set_option linter.unusedVariables false
set_option linter.unusedSimpArgs false
set_option maxRecDepth 4000
set_option maxHeartbeats 2000000
namespace Go.Pm.PP
open Go.Pm Go.Proofs Go.Pm.JS
def atGo (x : Int) : List Int → Nat → Int
  | [], _ => -1
  | a :: r, i => if a == x then (i : Int) else atGo x r (i + 1)
def atI (xs : List Int) (x : Int) : Int := atGo x xs 0
theorem l3At_run {h : Hp} {v : Value} {xs : List Int} {x : Int} (hv : Ints h v xs) (hn : xs.length ≤ 2 ^ 40) : Ret P G n_spec_l3At [v, .int .i64 x] h (.int .i64 (atI xs x)) h := by
  refine enter_run e_spec_l3At (by simp) ?_
  have hvs := hv
  obtain ⟨oa, c, rfl⟩ := hv.shapeT
  obtain ⟨R, hR⟩ : ∃ R, R = atI xs x := ⟨_, rfl⟩
  rw [← hR]
  simp -implicitDefEqProofs
  refine R_loopO (fun n st h' => ∃ (i : Nat), i + n = xs.length ∧ st = [(0, .slice oa xs.length c), (1, .int .i64 x), (5, .int .i64 i)] ∧ h' = h ∧ R = atGo x (xs.drop i) i) (fun I hI n st h' => ?_) ⟨0, Nat.zero_add _, by simp, rfl, by simpa [atI] using hR⟩
  rintro ⟨i, hi, rfl, rfl, hx⟩
  by_cases hlt : i < xs.length
  · obtain ⟨y, hy, hd⟩ := drop_at hlt
    rw [hd, atGo] at hx
    cases c1 : (y == x)
    · rw [c1, if_neg (by simp)] at hx
      simp -implicitDefEqProofs [-indexAddrP_some, hlt, load_I hvs hy, c1, winc hlt hn]
      exact ⟨n - 1, by omega, on hI ⟨i + 1, by omega, rfl, rfl, hx⟩⟩
    · rw [c1, if_pos rfl] at hx
      simp -implicitDefEqProofs [-indexAddrP_some, hlt, load_I hvs hy, c1, hx]
  · rw [List.drop_eq_nil_of_le (by omega), atGo] at hx
    simp -implicitDefEqProofs [hlt, hx]
theorem placeIn_run {h : Hp} {v : Value} {xs : List Int} {x : Int} (hv : Ints h v xs) (hn : xs.length ≤ 2 ^ 40) : Ret P G n_impl_placeIn [v, .int .i64 x] h (.int .i64 (atI xs x)) h := by
  refine enter_run e_impl_placeIn (by simp) ?_
  have hvs := hv
  obtain ⟨oa, c, rfl⟩ := hv.shapeT
  obtain ⟨R, hR⟩ : ∃ R, R = atI xs x := ⟨_, rfl⟩
  rw [← hR]
  simp -implicitDefEqProofs
  refine R_loopO (fun n st h' => ∃ (i : Nat), i + n = xs.length ∧ st = [(1, .int .i64 x), (7, .slice oa xs.length c), (8, .int .i64 xs.length), (9, .int .i64 i)] ∧ h' = h ∧ R = atGo x (xs.drop i) i) (fun I hI n st h' => ?_) ⟨0, Nat.zero_add _, by simp, rfl, by simpa [atI] using hR⟩
  rintro ⟨i, hi, rfl, rfl, hx⟩
  by_cases hlt : i < xs.length
  · obtain ⟨y, hy, hd⟩ := drop_at hlt
    rw [hd, atGo] at hx
    cases c1 : (y == x)
    · rw [c1, if_neg (by simp)] at hx
      simp -implicitDefEqProofs [-indexAddrP_some, hlt, load_I hvs hy, c1, winc hlt hn]
      exact ⟨n - 1, by omega, on hI ⟨i + 1, by omega, rfl, rfl, hx⟩⟩
    · rw [c1, if_pos rfl] at hx
      simp -implicitDefEqProofs [-indexAddrP_some, hlt, load_I hvs hy, c1, hx]
  · rw [List.drop_eq_nil_of_le (by omega), atGo] at hx
    simp -implicitDefEqProofs [hlt, hx]
theorem rtOk_m {M : Int} : ∀ {xs : List OpR} {us : List Int}, rtOk M us xs = true → ∀ x ∈ xs, 0 ≤ x.m ∧ x.m ≤ w64 (M - 1)
  | [], _, _, x, hx => by cases hx
  | y :: r, us, h, x, hx => by
    rw [rtOk, Bool.and_eq_true, Bool.and_eq_true, Bool.and_eq_true] at h
    rcases List.mem_cons.1 hx with rfl | hx
    · have := h.1.1.1
      simp only [inB, Bool.and_eq_true, decide_eq_true_eq] at this
      exact this
    · exact rtOk_m h.2 x hx
theorem good_m {s : Shop} (h : goodS s = true) : ∀ x ∈ opsL s, 0 ≤ x.m ∧ x.m < s.m := by
  have hn := good_n h
  have hw : w64 (s.m - 1) = s.m - 1 := by rw [w64, wrap_ok] <;> omega
  rw [goodS, Bool.and_eq_true, Bool.and_eq_true, Bool.and_eq_true] at h
  intro x hx
  obtain ⟨l, hl, hx⟩ := List.mem_flatten.1 hx
  have := rtOk_m (List.all_eq_true.1 h.1.2 l hl) x hx
  rw [hw] at this
  omega
/-- A block: Ops of one machine. -/
def BOk (s : Shop) (b : List Int) : Prop := b ≠ [] ∧ ∀ x ∈ b, ∃ n : Nat, x = n ∧ n < (opsL s).length ∧ mOf s n = mOf s (b.headD 0).toNat
theorem blkGo_ok {s : Shop} : ∀ {r : List Nat} {acc : List (List Int)} {prev : Option Nat}, (∀ x ∈ r, x < (opsL s).length) → (∀ b ∈ acc, BOk s b) → (∀ p, prev = some p → ∃ ys l, acc = ys ++ [l] ∧ mOf s (l.headD 0).toNat = mOf s p) → ∀ b ∈ blkGo s acc prev r, BOk s b
  | [], acc, prev, _, h2, _, b, hb => h2 b hb
  | x :: r, acc, prev, h1, h2, h3, b, hb => by
    rw [blkGo] at hb
    have hx := h1 x (List.mem_cons_self ..)
    by_cases hc : contB s prev x = true
    · rw [if_pos hc] at hb
      obtain ⟨p, rfl⟩ : ∃ p, prev = some p := by
        cases prev with
        | none => simp [contB] at hc
        | some p => exact ⟨p, rfl⟩
      have hpx : mOf s p = mOf s x := by simpa [contB] using hc
      obtain ⟨ys, l, rfl, hl⟩ := h3 p rfl
      rw [addLast_snoc] at hb
      obtain ⟨hl1, hl2⟩ := h2 l (by simp)
      have hhd : (l ++ [(x : Int)]).headD 0 = l.headD 0 := by
        cases l with
        | nil => exact absurd rfl hl1
        | cons a t => rfl
      refine blkGo_ok (fun y hy => h1 y (List.mem_cons_of_mem _ hy)) (fun c hc' => ?_) (fun q hq => ⟨ys, l ++ [(x : Int)], rfl, ?_⟩) b hb
      · rcases List.mem_append.1 hc' with h | h
        · exact h2 c (List.mem_append_left _ h)
        · rw [List.mem_singleton] at h
          subst h
          refine ⟨by simp, fun y hy => ?_⟩
          rw [hhd]
          rcases List.mem_append.1 hy with h | h
          · exact hl2 y h
          · rw [List.mem_singleton] at h
            exact ⟨x, h, hx, by rw [← hpx, hl]⟩
      · cases hq
        rw [hhd, hl, hpx]
    · rw [if_neg hc] at hb
      refine blkGo_ok (fun y hy => h1 y (List.mem_cons_of_mem _ hy)) (fun c hc' => ?_) (fun q hq => ⟨acc, [(x : Int)], rfl, ?_⟩) b hb
      · rcases List.mem_append.1 hc' with h | h
        · exact h2 c h
        · rw [List.mem_singleton] at h
          subst h
          refine ⟨by simp, fun y hy => ?_⟩
          rw [List.mem_singleton] at hy
          exact ⟨x, hy, hx, by simp⟩
      · cases hq
        simp
theorem blocks_ok {s : Shop} {oss : List (List Int)} : ∀ b ∈ blocksI s oss, BOk s b := blkGo_ok (fun x hx => path_mem hx) (by simp) (by simp)
theorem heads_m {s : Shop} {oss : List (List Int)} {us : List Int} (h : headsO s oss = some us) : s.m = oss.length := by
  unfold headsO at h
  split at h
  · rename_i hc
    exact (sel2_iff.1 hc).2.1.symm
  · cases h
/-- Where an Op stands among those of its machine. -/
def plB (s : Shop) (os2 : List (List Int)) (x : Int) : Int := atI (os2.getD (mOf s x.toNat).toNat []) x
def outB (s : Shop) (os2 : List (List Int)) (b : List Int) (x : Int) : Bool := decide (plB s os2 x < plB s os2 (b.headD 0)) || decide (plB s os2 (b.getLastD 0) < plB s os2 x)
def leavesB (s : Shop) (oss os2 : List (List Int)) : Bool := (blocksI s oss).any fun b => b.any (outB s os2 b)
noncomputable def leaves1 (s : Shop) (oss os2 : List (List Int)) : Bool := (headsO s oss).isSome && (headsO s os2).isSome
noncomputable def leaves0 (s : Shop) (oss os2 : List (List Int)) : Bool := leaves1 s oss os2 && leavesB s oss os2
section
variable {h : Hp} {vr vo vo2 : Value} {s : Shop} {oss os2 : List (List Int)}
theorem l9Place_run {n : Nat} (S : SAt h vr s) (O : OAt h vo os2) (hn : n < (opsL s).length) (hm : 0 ≤ mOf s n ∧ mOf s n < os2.length) : Ret P G n_spec_l9Place [sv s vr, vo, .int .i64 n] h (.int .i64 (plB s os2 n)) h := by
  refine enter_run e_spec_l9Place (by simp) ?_
  have Ss := S
  have Os := O
  obtain ⟨oa, c, rfl⟩ := S.shape
  obtain ⟨ob, d, rfl⟩ := O.shape
  have H0 := Holds.start.alloc [.int .i64 s.m, .slice oa s.routes.length c] (h := h)
  obtain ⟨z, hz, _⟩ := drop_at hn
  have hmz := mOf_get hz
  obtain ⟨k, hk⟩ : ∃ k : Nat, mOf s n = k := ⟨(mOf s n).toNat, by omega⟩
  obtain ⟨y, hy, _⟩ := drop_at (show k < os2.length by omega)
  obtain ⟨oc, e, hI1, hyn, g⟩ := Os.at hy
  have hpl : plB s os2 n = atI y n := by rw [plB, Int.toNat_natCast, hk, Int.toNat_natCast, List.getD_eq_getElem?_getD, hy]; rfl
  rw [hpl]
  simp -implicitDefEqProofs
  refine CL_post (l9All_run (Ss.ext _)) fun v h2 ⟨hp2, ho2⟩ => ?_
  have H2 := H0.call hp2 ho2
  have lz := load_O (H2.sees 1 rfl) hz
  rw [← hmz, hk] at lz
  have r := l3At_run (x := (n : Int)) (hI1.pre H2.pre) (by omega)
  simp -implicitDefEqProofs [-indexAddrP_some, lz, g _ H2.pre, CL_ret r]
  exact gcP H2.pre rfl
end
end Go.Pm.PP

/- Job shops: SwapOps of both. -/
set_option linter.unusedVariables false
set_option linter.unusedSimpArgs false
set_option maxRecDepth 4000
set_option maxHeartbeats 2000000
namespace Go.Pm.PP
open Go.Pm Go.Proofs Go.Pm.JS
theorem l1Own_run {h : Hp} {v : Value} {xs : List Int} (hv : Ints h v xs) (hn : xs.length ≤ 2 ^ 40) : RunsC P G n_spec_l1Own [v] h fun v' h' => h <+: h' ∧ Own h.length h' v' 1 (xs.map encI) := by
  refine hideC fun K hK => enter_run e_spec_l1Own (by simp) ?_
  have H0 := own_nil (Holds.start (h := h)) Int encI 1
  obtain ⟨v', h', ha, H1, k⟩ := app_I H0 0 rfl hv (by simp; omega)
  simp -implicitDefEqProofs [ha]
  exact onK hK (H1.ret 0 rfl)
theorem copyInts_run {h : Hp} {v : Value} {xs : List Int} (hv : Ints h v xs) (hn : xs.length ≤ 2 ^ 40) : RunsC P G n_impl_copyInts [v] h fun v' h' => h <+: h' ∧ Own h.length h' v' 1 (xs.map encI) := by
  refine hideC fun K hK => enter_run e_impl_copyInts (by simp) ?_
  have H0 := own_nil (Holds.start (h := h)) Int encI 1
  obtain ⟨v', h', ha, H1, k⟩ := app_I H0 0 rfl hv (by simp; omega)
  simp -implicitDefEqProofs [ha]
  exact onK hK (H1.ret 0 rfl)
def swapI (xs : List Int) (j : Nat) : List Int := match xs[j]?, xs[j + 1]? with
  | some a, some b => (xs.set j b).set (j + 1) a
  | _, _ => xs
theorem swapI_len {xs : List Int} {j : Nat} : (swapI xs j).length = xs.length := by unfold swapI; split <;> simp
theorem l2Swap_run {h : Hp} {v : Value} {xs : List Int} {j : Nat} (hv : Ints h v xs) (hn : xs.length ≤ 2 ^ 40) (hj : j + 1 < xs.length) : RunsC P G n_spec_l2Swap [v, .int .i64 j] h fun v' h' => h <+: h' ∧ Own h.length h' v' 1 ((swapI xs j).map encI) := by
  refine hideC fun K hK => enter_run e_spec_l2Swap (by simp) ?_
  obtain ⟨a, ha, _⟩ := drop_at (show j < xs.length by omega)
  obtain ⟨b, hb, _⟩ := drop_at hj
  have hsw : swapI xs j = (xs.set j b).set (j + 1) a := by rw [swapI, ha, hb]
  have hw : IntKind.i64.wrap ((j : Int) + 1) = (j : Int) + 1 := by rw [wrap_ok] <;> omega
  simp -implicitDefEqProofs
  refine CL_post (l1Own_run hv hn) fun v1 h1 ⟨hp1, ho1⟩ => ?_
  have H1 := (Holds.start (h := h)).call hp1 ho1
  have lb := load_I (hv.pre H1.pre) hb
  rw [show ((j + 1 : Nat) : Int) = (j : Int) + 1 from rfl] at lb
  obtain ⟨h2, s2, H2, _⟩ := put_I H1 0 rfl (j := j) (by omega) b
  have i1 := (load_I (H1.sees 0 rfl) ha).1
  have la := load_I (hv.pre H2.pre) ha
  obtain ⟨h3, s3, H3, _⟩ := put_I H2 0 rfl (j := j + 1) (by simpa using hj) a
  have i2 := (load_I (H2.sees 0 rfl) (i := j + 1) (x := b) (by rw [List.getElem?_set_ne (by omega)]; exact hb)).1
  rw [show ((j + 1 : Nat) : Int) = (j : Int) + 1 from rfl] at i2
  rw [← hsw] at H3
  simp -implicitDefEqProofs [-indexAddrP_some, hw, lb, i1, s2, la, i2, s3]
  exact onK hK (H3.ret 0 rfl)
theorem exchanged_run {h : Hp} {v : Value} {xs : List Int} {j : Nat} (hv : Ints h v xs) (hn : xs.length ≤ 2 ^ 40) (hj : j + 1 < xs.length) : RunsC P G n_impl_exchanged [v, .int .i64 j] h fun v' h' => h <+: h' ∧ Own h.length h' v' 1 ((swapI xs j).map encI) := by
  refine hideC fun K hK => enter_run e_impl_exchanged (by simp) ?_
  obtain ⟨a, ha, _⟩ := drop_at (show j < xs.length by omega)
  obtain ⟨b, hb, _⟩ := drop_at hj
  have hsw : swapI xs j = (xs.set j b).set (j + 1) a := by rw [swapI, ha, hb]
  have hw : IntKind.i64.wrap ((j : Int) + 1) = (j : Int) + 1 := by rw [wrap_ok] <;> omega
  simp -implicitDefEqProofs
  refine CL_post (copyInts_run hv hn) fun v1 h1 ⟨hp1, ho1⟩ => ?_
  have H1 := (Holds.start (h := h)).call hp1 ho1
  have lb := load_I (H1.sees 0 rfl) hb
  rw [show ((j + 1 : Nat) : Int) = (j : Int) + 1 from rfl] at lb
  obtain ⟨h2, s2, H2, _⟩ := put_I H1 0 rfl (j := j) (by omega) b
  have la := load_I (H1.sees 0 rfl) ha
  obtain ⟨h3, s3, H3, _⟩ := put_I H2 0 rfl (j := j + 1) (by simpa using hj) a
  have i2 := (load_I (H2.sees 0 rfl) (i := j + 1) (x := b) (by rw [List.getElem?_set_ne (by omega)]; exact hb)).1
  rw [show ((j + 1 : Nat) : Int) = (j : Int) + 1 from rfl] at i2
  rw [← hsw] at H3
  simp -implicitDefEqProofs [-indexAddrP_some, hw, lb, s2, la, i2, s3]
  exact onK hK (H3.ret 0 rfl)
/-- A list of one's own takes the place of one in a list of lists of one's own. -/
theorem put_new {h0 h h1 : Hp} {L1 : List Asn} {v w : Value} {us : List Value} {xss : List (List Int)} {x : List Int} {i : Nat} (hl : us.length = xss.length) (H : Holds h0 h (L1 ++ (inL encI 1 us xss ++ []))) (o : Nat) (ho : L1[o]? = some (.own v 1 (us.map encV))) (hi : i < us.length) (hp : h <+: h1) (C : Own h.length h1 w 1 (x.map encI)) :
    ∃ h2, indexAddrP P h1 t_S_S_int v (.int .i64 i) = some (.pointer (some (addP (base v) i))) ∧ storeP P h1 t_S_int w (.pointer (some (addP (base v) i))) = some h2 ∧
      Holds h0 h2 ((L1.set o (.own v 1 ((us.set i w).map encV))) ++ (inL encI 1 (us.set i w) (xss.set i x) ++ [])) := by
  have H1 := H.call hp C
  rw [List.append_nil, List.append_assoc] at H1
  have hol := (List.getElem?_eq_some_iff.1 ho).1
  have ho2 : (L1 ++ (inL encI 1 us xss ++ [Asn.own w 1 (x.map encI)]))[o]? = some (.own v 1 (us.map encV)) := by rw [List.getElem?_append_left hol]; exact ho
  have hone : one w = true := by
    obtain ⟨a, c, e⟩ := C.sees.shape
    rw [e]; rfl
  obtain ⟨z, hz, _⟩ := drop_at hi
  have ix := (load_N (H1.sees o ho2) hz).1
  obtain ⟨h2, hs, H2, k2⟩ := put_N H1 o ho2 hi w hone
  rw [List.set_append_left _ _ hol] at H2
  exact ⟨h2, ix, hs, H2.replace hl hi⟩
def swN (oss : List (List Int)) (m k : Nat) : List (List Int) := oss.set m (swapI (oss.getD m []) k)
noncomputable def swapO (s : Shop) (oss : List (List Int)) (m k : Int) : Option (List (List Int)) :=
  if (headsO s oss).isSome = true ∧ (0 ≤ m ∧ m ≤ (oss.length : Int) - 1) ∧ 0 ≤ k ∧ k ≤ ((oss.getD m.toNat []).length : Int) - 2 then (headsO s (swN oss m.toNat k.toNat)).map fun _ => swN oss m.toNat k.toNat else none
theorem cnt_set {xss : List (List Int)} : ∀ {m : Nat} {x y : List Int}, xss[m]? = some y → x.length = y.length → cntN (xss.set m x) = cntN xss := by
  induction xss with
  | nil => intro m x y h; cases h
  | cons z r ih =>
    intro m x y h hl
    cases m with
    | zero => simp at h; subst h; simp [cntN, hl]
    | succ m => simp at h; simp [cntN, ih h hl]
theorem swN_cnt {oss : List (List Int)} {m k : Nat} {y : List Int} (hy : oss[m]? = some y) : cntN (swN oss m k) = cntN oss := by
  unfold swN
  rw [List.getD_eq_getElem?_getD, hy, Option.getD_some]
  exact cnt_set hy swapI_len
section
variable {h : Hp} {vr vo : Value} {s : Shop} {oss : List (List Int)}
theorem swap_none {m k : Int} (h : ¬ ((headsO s oss).isSome = true ∧ (0 ≤ m ∧ m ≤ (oss.length : Int) - 1) ∧ 0 ≤ k ∧ k ≤ ((oss.getD m.toNat []).length : Int) - 2)) : swapO s oss m k = none := if_neg h
theorem inB_false {x a b : Int} (h : inB x a b = false) : ¬ (a ≤ x ∧ x ≤ b) := by intro ⟨h1, h2⟩; simp [inB, h1, h2] at h
theorem inB_true {x a b : Int} (h : inB x a b = true) : a ≤ x ∧ x ≤ b := by simpa [inB] using h
theorem specSwapOps_run {m k : Int} (S : SAt h vr s) (O : OAt h vo oss) : RunsC P G n_spec_SwapOps [sv s vr, vo, .int .i64 m, .int .i64 k] h fun v h' => h <+: h' ∧ retN (swapO s oss m k) v h h' := by
  refine hideC fun K hK => enter_run e_spec_SwapOps (by simp) ?_
  have Ss := S
  have Os := O
  obtain ⟨oa, c, rfl⟩ := S.shape
  obtain ⟨ob, d, rfl⟩ := O.shape
  have rn := Os.rn
  have r1 := fun l => l9Open_run (Ss.ext l) (Os.ext l)
  have H0 := Holds.start.alloc [.int .i64 s.m, .slice oa s.routes.length c] (h := h)
  cases c2 : headsO s oss with
  | none =>
    simp -implicitDefEqProofs [CL_ret (r1 _), c2]
    exact onK hK (by rw [swap_none (by rw [c2]; simp)]; exact retN.none H0.pre)
  | some us =>
    have hm := heads_m c2
    have hw : IntKind.i64.wrap (s.m - 1) = s.m - 1 := by rw [wrap_ok] <;> omega
    cases c3 : inB m 0 (s.m - 1)
    · have c3' := inB_false c3
      rw [hm] at c3'
      simp -implicitDefEqProofs [CL_ret (r1 _), c2, H0.bl 0 2 rfl rfl, H0.blx 0 2 rfl rfl, hw, CL_ret l1In_run, c3]
      exact onK hK (by rw [swap_none (fun hh => c3' hh.2.1)]; exact retN.none H0.pre)
    · obtain ⟨c31, c32⟩ := inB_true c3
      rw [hm] at c32
      obtain ⟨i, rfl⟩ : ∃ i : Nat, m = i := ⟨m.toNat, by omega⟩
      obtain ⟨y, hy, _⟩ := drop_at (show i < oss.length by omega)
      obtain ⟨oc, e, hI1, hyn, g⟩ := Os.at hy
      have hgd : oss.getD i [] = y := by rw [List.getD_eq_getElem?_getD, hy]; rfl
      have hw2 : IntKind.i64.wrap ((y.length : Int) - 2) = (y.length : Int) - 2 := by rw [wrap_ok] <;> omega
      cases c4 : inB k 0 ((y.length : Int) - 2)
      · have c4' := inB_false c4
        simp -implicitDefEqProofs [-indexAddrP_some, CL_ret (r1 _), c2, H0.bl 0 2 rfl rfl, H0.blx 0 2 rfl rfl, hw, CL_ret l1In_run, c3, g _ H0.pre, hw2, c4]
        exact onK hK (by rw [swap_none (fun hh => c4' (by have := hh.2.2; rwa [Int.toNat_natCast, hgd] at this))]; exact retN.none H0.pre)
      · obtain ⟨c41, c42⟩ := inB_true c4
        obtain ⟨j, rfl⟩ : ∃ j : Nat, k = j := ⟨k.toNat, by omega⟩
        have hsw : swapO s oss i j = (headsO s (swN oss i j)).map fun _ => swN oss i j := by
          unfold swapO
          rw [if_pos ⟨by rw [c2]; rfl, ⟨c31, c32⟩, c41, by rw [Int.toNat_natCast, hgd]; exact c42⟩, Int.toNat_natCast, Int.toNat_natCast]
        have hsn : swN oss i j = oss.set i (swapI y j) := by rw [swN, hgd]
        rw [hsw] at hK
        simp -implicitDefEqProofs [-indexAddrP_some, CL_ret (r1 _), c2, H0.bl 0 2 rfl rfl, H0.blx 0 2 rfl rfl, hw, CL_ret l1In_run, c3, g _ H0.pre, hw2, c4]
        refine R_loopO (fun n st h' => ∃ (p : Nat) (u : Value) (us : List Value), p + n = oss.length ∧ st = [(1, .slice ob oss.length d), (2, .int .i64 i), (3, .int .i64 j), (4, .pointer (some ⟨h.length, 0, some 2⟩)), (10, u), (11, .int .i64 p)] ∧ us.length = (oss.take p).length ∧
          Holds h h' ([.box h.length [.int .i64 s.m, .slice oa s.routes.length c], .own u 1 (us.map encV)] ++ (inL encI 1 us (oss.take p) ++ []))) (fun I hI n st h' => ?_) ⟨0, nilV, [], Nat.zero_add _, by simp, rfl, own_nil H0 _ _ _⟩
        rintro ⟨p, u, us, hp, rfl, hul, H⟩
        by_cases hlt : p < oss.length
        · obtain ⟨q, hq, hdr⟩ := drop_at hlt
          obtain ⟨od, e2, hI2, hqn, g2⟩ := Os.at hq
          simp -implicitDefEqProofs [-indexAddrP_some, hlt, g2 _ H.pre]
          refine CL_post (l1Own_run (hI2.pre H.pre) (by omega)) fun w h1 ⟨hp1, ho1⟩ => ?_
          obtain ⟨wo', wn', wc', rfl⟩ : ∃ a n c, w = .slice a n c := by obtain ⟨a, c, e⟩ := ho1.sees.shape; exact ⟨_, _, _, e⟩
          have hul2 : us.length = p := by rw [hul, List.length_take]; omega
          obtain ⟨v', h2, ha, H2, _⟩ := push_new hul H 1 rfl hp1 ho1 (by omega)
          rw [← take_succ' hq] at H2
          simp -implicitDefEqProofs [ha, winc hlt (by omega)]
          exact ⟨n - 1, by omega, on hI ⟨p + 1, v', us ++ [Value.slice wo' wn' wc'], by omega, rfl, by simp [hul]; omega, H2⟩⟩
        · have hpe : oss.take p = oss := List.take_of_length_le (by omega)
          rw [hpe] at H hul
          simp -implicitDefEqProofs [-indexAddrP_some, hlt, g _ H.pre]
          refine CL_post (l2Swap_run (hI1.pre H.pre) (by omega) (by omega)) fun w h1 ⟨hp1, ho1⟩ => ?_
          obtain ⟨h2, hix, hst, H2⟩ := put_new hul H 1 rfl (i := i) (by omega) hp1 ho1
          rw [← hsn] at H2
          have H2' : Holds h h2 ([.box h.length [.int .i64 s.m, .slice oa s.routes.length c], .own u 1 ((us.set i w).map encV)] ++ (inL encI 1 (us.set i w) (swN oss i j) ++ [])) := H2
          have hl2 : (us.set i w).length = (swN oss i j).length := by rw [hsn]; simp [hul]
          have O2 : OAt h2 u (swN oss i j) := ⟨⟨_, Holds.nest (o := 1) H2' rfl hl2⟩, by rw [hsn]; simpa using rn, by rw [swN_cnt hy]; exact Os.tot⟩
          have r2 := l9Open_run (Ss.pre H2'.pre) O2
          obtain ⟨ua, uc, rfl⟩ : ∃ a c, u = .slice a oss.length c := by obtain ⟨a, c, e⟩ := O2.shape; exact ⟨a, c, by rw [e, hsn]; simp⟩
          cases c5 : headsO s (swN oss i j) with
          | none =>
            rw [c5] at hK
            simp -implicitDefEqProofs [hix, hst, H2'.bl 0 2 rfl rfl, H2'.blx 0 2 rfl rfl, CL_ret r2, c5]
            exact onK hK (retN.none H2'.pre)
          | some us2 =>
            rw [c5] at hK
            rw [List.append_nil] at H2'
            have H3 : Holds h h2 (.own (.slice ua oss.length uc) 1 ((us.set i w).map encV) :: inL encI 1 (us.set i w) (swN oss i j)) := H2'.tail
            simp -implicitDefEqProofs [hix, hst, H2'.bl 0 2 rfl rfl, H2'.blx 0 2 rfl rfl, CL_ret r2, c5]
            exact onK hK (retN.some ⟨_, hl2, H3⟩)
theorem SwapOps_run {m k : Int} (S : SAt h vr s) (O : OAt h vo oss) : RunsC P G n_impl_SwapOps [sv s vr, vo, .int .i64 m, .int .i64 k] h fun v h' => h <+: h' ∧ retN (swapO s oss m k) v h h' := by
  refine hideC fun K hK => enter_run e_impl_SwapOps (by simp) ?_
  have Ss := S
  have Os := O
  obtain ⟨oa, c, rfl⟩ := S.shape
  obtain ⟨ob, d, rfl⟩ := O.shape
  have rn := Os.rn
  have H0 := Holds.start.alloc [.int .i64 s.m, .slice oa s.routes.length c] (h := h)
  simp -implicitDefEqProofs
  refine CL_post (selectedBy_run (Ss.ext _) (Os.ext _)) fun v h1 ⟨hp1, hs⟩ => ?_
  have H1 := H0.ext hp1
  rcases hs with ⟨hn, rfl⟩ | ⟨us, wo, wt, wi, wa, wh, wT, hn, rfl, o1⟩
  · simp -implicitDefEqProofs
    exact onK hK (by rw [swap_none (by rw [hn]; simp)]; exact retN.none (H1.pre.trans (List.prefix_append ..)))
  · have hm := heads_m hn
    have hw : w64 (s.m - 1) = s.m - 1 := by rw [w64, wrap_ok] <;> omega
    obtain ⟨⟨a1, c1, rfl⟩, ⟨a2, c2, rfl⟩, ⟨a3, c3, rfl⟩, ⟨a4, c4, rfl⟩, ⟨a5, c5, rfl⟩, a6, c6, rfl⟩ := o1.shapes
    have H2 := H1.ext (List.prefix_append h1 [some (⟨[.slice a1 (opsL s).length c1, .slice a2 (flatF s).rt.length c2, .slice a3 (flatF s).ix.length c3, .slice a4 (arcsL oss).length c4, .slice a5 us.length c5, .slice a6 (tailsL s (psL s oss)).length c6, .int .i64 (mx (tailsL s (psL s oss)))], 0, false⟩ : Row)])
    cases c3 : inB m 0 (s.m - 1)
    · have c3' := inB_false c3
      rw [hm] at c3'
      simp -implicitDefEqProofs [H2.bl 0 2 rfl rfl, H2.blx 0 2 rfl rfl, hw, CL_ret isNumber_run, c3]
      exact onK hK (by rw [swap_none (fun hh => c3' hh.2.1)]; exact retN.none H2.pre)
    · obtain ⟨c31, c32⟩ := inB_true c3
      rw [hm] at c32
      obtain ⟨i, rfl⟩ : ∃ i : Nat, m = i := ⟨m.toNat, by omega⟩
      obtain ⟨y, hy, _⟩ := drop_at (show i < oss.length by omega)
      obtain ⟨oc, e, hI1, hyn, g⟩ := Os.at hy
      have hgd : oss.getD i [] = y := by rw [List.getD_eq_getElem?_getD, hy]; rfl
      have hw2 : IntKind.i64.wrap ((y.length : Int) - 2) = (y.length : Int) - 2 := by rw [wrap_ok] <;> omega
      cases c4 : inB k 0 ((y.length : Int) - 2)
      · have c4' := inB_false c4
        simp -implicitDefEqProofs [-indexAddrP_some, H2.bl 0 2 rfl rfl, H2.blx 0 2 rfl rfl, hw, CL_ret isNumber_run, CL_ret within_run, c3, g _ H2.pre, hw2, c4]
        exact onK hK (by rw [swap_none (fun hh => c4' (by have := hh.2.2; rwa [Int.toNat_natCast, hgd] at this))]; exact retN.none H2.pre)
      · obtain ⟨c41, c42⟩ := inB_true c4
        obtain ⟨j, rfl⟩ : ∃ j : Nat, k = j := ⟨k.toNat, by omega⟩
        have hsw : swapO s oss i j = (headsO s (swN oss i j)).map fun _ => swN oss i j := by
          unfold swapO
          rw [if_pos ⟨by rw [hn]; rfl, ⟨c31, c32⟩, c41, by rw [Int.toNat_natCast, hgd]; exact c42⟩, Int.toNat_natCast, Int.toNat_natCast]
        have hsn : swN oss i j = oss.set i (swapI y j) := by rw [swN, hgd]
        rw [hsw] at hK
        simp -implicitDefEqProofs [-indexAddrP_some, H2.bl 0 2 rfl rfl, H2.blx 0 2 rfl rfl, hw, CL_ret isNumber_run, CL_ret within_run, c3, g _ H2.pre, hw2, c4]
        refine R_loopO (fun n st h' => ∃ (p : Nat) (u : Value) (us : List Value), p + n = oss.length ∧ st = [(2, .int .i64 i), (3, .int .i64 j), (4, .pointer (some ⟨h.length, 0, some 2⟩)), (12, u), (43, .slice ob oss.length d), (44, .int .i64 oss.length), (45, .int .i64 p)] ∧ us.length = (oss.take p).length ∧
          Holds h h' ([.box h.length [.int .i64 s.m, .slice oa s.routes.length c], .own u 1 (us.map encV)] ++ (inL encI 1 us (oss.take p) ++ []))) (fun I hI n st h' => ?_) ⟨0, nilV, [], Nat.zero_add _, by simp, rfl, own_nil H2 _ _ _⟩
        rintro ⟨p, u, us, hp, rfl, hul, H⟩
        by_cases hlt : p < oss.length
        · obtain ⟨q, hq, hdr⟩ := drop_at hlt
          obtain ⟨od, e2, hI2, hqn, g2⟩ := Os.at hq
          simp -implicitDefEqProofs [-indexAddrP_some, hlt, g2 _ H.pre]
          refine CL_post (copyInts_run (hI2.pre H.pre) (by omega)) fun w h1 ⟨hp1, ho1⟩ => ?_
          obtain ⟨wo', wn', wc', rfl⟩ : ∃ a n c, w = .slice a n c := by obtain ⟨a, c, e⟩ := ho1.sees.shape; exact ⟨_, _, _, e⟩
          have hul2 : us.length = p := by rw [hul, List.length_take]; omega
          obtain ⟨v', h2, ha, H2, _⟩ := push_new hul H 1 rfl hp1 ho1 (by omega)
          rw [← take_succ' hq] at H2
          simp -implicitDefEqProofs [ha, winc hlt (by omega)]
          exact ⟨n - 1, by omega, on hI ⟨p + 1, v', us ++ [Value.slice wo' wn' wc'], by omega, rfl, by simp [hul]; omega, H2⟩⟩
        · have hpe : oss.take p = oss := List.take_of_length_le (by omega)
          rw [hpe] at H hul
          have N := Holds.nest (o := 1) H rfl hul
          obtain ⟨uy, huy, hIy⟩ := N.at hy
          have ly := N.load (P := P) u_S_S_int i_S_int a_S_int huy
          simp -implicitDefEqProofs [-indexAddrP_some, hlt, ly]
          refine CL_post (exchanged_run hIy (by omega) (by omega)) fun w h1 ⟨hp1, ho1⟩ => ?_
          obtain ⟨h2, hix, hst, H2⟩ := put_new hul H 1 rfl (i := i) (by omega) hp1 ho1
          rw [← hsn] at H2
          have H2' : Holds h h2 ([.box h.length [.int .i64 s.m, .slice oa s.routes.length c], .own u 1 ((us.set i w).map encV)] ++ (inL encI 1 (us.set i w) (swN oss i j) ++ [])) := H2
          have hl2 : (us.set i w).length = (swN oss i j).length := by rw [hsn]; simp [hul]
          have O2 : OAt h2 u (swN oss i j) := ⟨⟨_, Holds.nest (o := 1) H2' rfl hl2⟩, by rw [hsn]; simpa using rn, by rw [swN_cnt hy]; exact Os.tot⟩
          have r2 := selectedBy_run (Ss.pre H2'.pre) O2
          obtain ⟨ua, uc, rfl⟩ : ∃ a c, u = .slice a oss.length c := by obtain ⟨a, c, e⟩ := O2.shape; exact ⟨a, c, by rw [e, hsn]; simp⟩
          simp -implicitDefEqProofs [hix, hst, H2'.bl 0 2 rfl rfl, H2'.blx 0 2 rfl rfl]
          refine CL_post r2 fun v h3 ⟨hp3, hs3⟩ => ?_
          rw [List.append_nil] at H2'
          have H3 : Holds h h2 (.own (.slice ua oss.length uc) 1 ((us.set i w).map encV) :: inL encI 1 (us.set i w) (swN oss i j)) := H2'.tail
          rcases hs3 with ⟨hn3, rfl⟩ | ⟨us3, wo, wt, wi, wa, wh, wT, hn3, rfl, o3⟩
          · rw [hn3] at hK
            simp -implicitDefEqProofs
            exact onK hK (retN.none (H2'.pre.trans (hp3.trans (List.prefix_append ..))))
          · rw [hn3] at hK
            obtain ⟨⟨a1, c1, rfl⟩, ⟨a2, c2, rfl⟩, ⟨a3, c3, rfl⟩, ⟨a4, c4, rfl⟩, ⟨a5, c5, rfl⟩, a6, c6, rfl⟩ := o3.shapes
            simp -implicitDefEqProofs
            exact onK hK (retN.some ⟨_, hl2, H3.ext (hp3.trans (List.prefix_append ..))⟩)
theorem swap_len {m k : Int} (h1 : oss.length ≤ 2 ^ 20) (h2 : tot oss ≤ 2 ^ 20) : ((swapO s oss m k).getD []).length ≤ 2 ^ 40 ∧ tot ((swapO s oss m k).getD []) ≤ 2 ^ 40 := by
  unfold swapO
  split
  · rename_i hc
    cases headsO s (swN oss m.toNat k.toNat) with
    | none => simp [tot]
    | some us =>
      simp only [Option.map_some, Option.getD_some]
      obtain ⟨y, hy, _⟩ := drop_at (show m.toNat < oss.length by omega)
      have := swN_cnt (k := k.toNat) hy
      rw [cnt_tot, cnt_tot] at this
      rw [this]
      refine ⟨?_, by omega⟩
      rw [swN, List.length_set]; omega
  · simp [tot]
end
end Go.Pm.PP
