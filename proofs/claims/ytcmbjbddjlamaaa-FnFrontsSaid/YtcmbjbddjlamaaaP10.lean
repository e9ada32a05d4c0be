/- The texts PvFd, PvFe, PvSf, PvSg, PvSh, PvSi, PvFf, PvFg, PvL, PvM, PvK of this work: Fronts: what both export. -/
import Derived.ProofKit
import Derived.OpenShut
import Derived.Carry
import Derived.Test.YtcmbjbddjlamaaaP9
import Derived.Test.YtcmbjbddjlamaaaP8
import Derived.Test.YtcmbjbddjlamaaaM4
/- Fronts: what both export. -/
set_option linter.unusedVariables false
set_option linter.unusedSimpArgs false
set_option maxRecDepth 4000
set_option maxHeartbeats 16000000
namespace Go.Pm.PP
open Go.Pm Go.Proofs Go.Pm.PE
def frV (js : List Job) (f g : Int) : List Pt := if aTwo js f g = true then frontR f g js else []
def hasPt (F : List Pt) (p : Pt) : Bool := F.any fun q => sameB q p
theorem hasPt_iff {F : List Pt} {p : Pt} : hasPt F p = true ↔ p ∈ F := by
  unfold hasPt
  rw [List.any_eq_true]
  constructor
  · rintro ⟨q, hq, h⟩; rw [sameB_iff] at h; subst h; exact hq
  · intro h; exact ⟨p, h, sameB_iff.2 rfl⟩
section
variable {h : Hp} {vj v u : Value} {js : List Job} {xs : List Int} {f g : Int}
theorem implFrontOf_run (J : Jobs h vj js) (hl : js.length ≤ 2 ^ 40) : RunsC P G n_impl_FrontOf [vj, .int .i64 f, .int .i64 g] h fun w h' => h <+: h' ∧ ∃ d, w = .tuple #[d, .bool (aTwo js f g)] ∧ Prs h' d (frV js f g) ∧ FOk (frV js f g) := by
  refine hideC fun K hK => enter_run e_impl_FrontOf (by simp) ?_
  have r1 := areTwo_run (f := f) (g := g) J hl
  have Js := J
  obtain ⟨oj, cj, rfl⟩ := J.shapeT
  cases c1 : aTwo js f g
  · rw [frV, c1] at hK
    simp -implicitDefEqProofs [CL_ret r1, c1]
    exact onK hK ⟨List.prefix_rfl, _, rfl, ⟨by simp, none, 0, rfl, .inl ⟨rfl, rfl, rfl⟩⟩, FOk.nil⟩
  · obtain ⟨hn, hg, hf, hg8⟩ := aTwo_of c1
    rw [frV, c1, if_pos rfl] at hK
    simp -implicitDefEqProofs [CL_ret r1, c1]
    refine CL_post (frontOf_run (f := f) (g := g) Js hg hn hf hg8) fun w h1 ⟨hp1, hF, S1⟩ => ?_
    simp -implicitDefEqProofs
    exact onK hK ⟨pre_gcU hp1, _, rfl, Sees.gcU S1 fun g => plainT (r := [_]) g, hF⟩
theorem aTwo_eq {js : List Job} {f g : Int} : aTwo js f g = (jOk js && (inB f 1 8 && inB g 1 8)) := by unfold aTwo; rw [Bool.and_assoc]
theorem specFrontOf_run (J : Jobs h vj js) (hl : js.length ≤ 2 ^ 40) : RunsC P G n_spec_FrontOf [vj, .int .i64 f, .int .i64 g] h fun w h' => h <+: h' ∧ ∃ d, w = .tuple #[d, .bool (aTwo js f g)] ∧ Prs h' d (frV js f g) ∧ FOk (frV js f g) := by
  refine hideC fun K hK => enter_run e_spec_FrontOf (by simp) ?_
  have r1 := good_run J hl
  have Js := J
  obtain ⟨oj, cj, rfl⟩ := J.shapeT
  have bad : aTwo js f g = false → K (.tuple #[.slice none 0 0, .bool false]) h := fun e => by
    rw [frV, e] at hK
    exact onK hK ⟨List.prefix_rfl, _, rfl, ⟨by simp, none, 0, rfl, .inl ⟨rfl, rfl, rfl⟩⟩, FOk.nil⟩
  cases c1 : jOk js
  · simp -implicitDefEqProofs [CL_ret r1, c1]
    exact bad (by rw [aTwo_eq, c1]; rfl)
  cases c2 : (inB f 1 8 && inB g 1 8)
  · simp -implicitDefEqProofs [CL_ret r1, c1, CL_ret l11Two_run, c2]
    exact bad (by rw [aTwo_eq, c2, Bool.and_false])
  · have c3 : aTwo js f g = true := by rw [aTwo_eq, c1, c2]; rfl
    obtain ⟨hn, hg, hf, hg8⟩ := aTwo_of c3
    rw [frV, c3, if_pos rfl] at hK
    simp -implicitDefEqProofs [CL_ret r1, c1, CL_ret l11Two_run, c2]
    refine CL_post (l11Front_run (f := f) (g := g) Js hg hn hf hg8) fun w h1 ⟨hp1, hF, S1⟩ => ?_
    simp -implicitDefEqProofs
    exact onK hK ⟨pre_gcU hp1, _, rfl, Sees.gcU S1 fun g => plainT (r := [_]) g, hF⟩
def undB (js : List Job) (xs : List Int) (f g : Int) : Bool := aTwo js f g && l2OrderL js.length xs
theorem implIsUndominated_run (J : Jobs h vj js) (X : Ints h v xs) (hl : js.length ≤ 2 ^ 40) (hx : xs.length ≤ 2 ^ 40) : Ret P G n_impl_IsUndominated [vj, v, .int .i64 f, .int .i64 g] h (.tuple #[.bool (undB js xs f g && hasPt (frontR f g js) (ptX f g js xs)), .bool (undB js xs f g)]) h := by
  refine enter_run e_impl_IsUndominated (by simp) ?_
  have r1 := areTwo_run (f := f) (g := g) J hl
  have r2 := isOrder_run (n := js.length) X hx
  have Js := J
  have Xs := X
  obtain ⟨oj, cj, rfl⟩ := J.shapeT
  obtain ⟨oa, ca, rfl⟩ := X.shapeT
  unfold undB
  cases c1 : aTwo js f g
  · simp -implicitDefEqProofs [CL_ret r1, c1]
  obtain ⟨hn, hg, hf, hg8⟩ := aTwo_of c1
  have e : (((xs.length : Int) == (js.length : Nat)) && arGo js.length [] xs) = l2OrderL js.length xs := by
    rw [order_eq hn, l2OrderL, show inB js.length 0 8 = true by simp [inB]; omega, Bool.true_and]
  rw [e] at r2
  cases c2 : l2OrderL js.length xs
  · simp -implicitDefEqProofs [CL_ret r1, CL_ret r2, c1, c2]
  have rp := pointOf_run (f := f) (g := g) Js Xs hg hn hf hg8 (ord_of c2)
  generalize ptX f g js xs = p at *
  have H0 := (Holds.start (h := h)).alloc [.int .i64 p.1, .int .i64 p.2]
  simp -implicitDefEqProofs [CL_ret r1, CL_ret r2, c1, c2, CL_ret rp]
  refine CL_post (frontOf_run (f := f) (g := g) (Js.pre H0.pre) hg hn hf hg8) fun w h1 ⟨hp1, hF, S1⟩ => ?_
  have H1 := H0.ext hp1
  have hFl := hF.len
  generalize frontR f g js = F at *
  obtain ⟨fa, fc, rfl⟩ : ∃ a c, w = .slice a F.length c := S1.shapeT
  simp -implicitDefEqProofs
  refine R_loopO (fun m s h' => ∃ i : Nat, i + m = F.length ∧ s = [(10, .pointer (some ⟨h.length, 0, some 2⟩)), (33, .slice fa F.length fc), (34, .int .i64 F.length), (35, .int .i64 i)] ∧ hasPt F p = hasPt (F.drop i) p ∧ h1 <+: h') (fun I hI m s h' => ?_) (n := F.length)
    ⟨0, Nat.zero_add _, by simp, by simp, List.prefix_rfl⟩
  rintro ⟨i, hi, rfl, hx', hp⟩
  have lp := fun {l : Hp} => (H1.ext hp).blx (P := P) 0 2 rfl rfl l t_A2_int 0
  by_cases hlt : i < F.length
  · obtain ⟨q, hq, hd⟩ := drop_at hlt
    have lq := load_Q (S1.pre hp) hq
    have e : hasPt (q :: F.drop (i + 1)) p = (sameB q p || hasPt (F.drop (i + 1)) p) := rfl
    have sc : sameB p q = sameB q p := by
      rw [Bool.eq_iff_iff, sameB_iff, sameB_iff]; exact eq_comm
    rw [hd, e] at hx'
    cases c3 : sameB q p
    · rw [c3, Bool.false_or] at hx'
      rw [c3] at sc
      simp -implicitDefEqProofs [-indexAddrP_some, hlt, lq, lp, eqPt, sc, winc hlt (by omega)]
      exact ⟨m - 1, by omega, on hI ⟨i + 1, by omega, rfl, hx', hp.trans (List.prefix_append ..)⟩⟩
    · rw [c3, Bool.true_or] at hx'
      rw [c3] at sc
      simp -implicitDefEqProofs [-indexAddrP_some, hlt, lq, lp, eqPt, sc, hx']
      exact gcP (H1.pre.trans (hp.trans (List.prefix_append ..))) rfl
  · rw [List.drop_eq_nil_of_le (by omega)] at hx'
    have hx' : hasPt F p = false := hx'
    simp -implicitDefEqProofs [hlt, hx']
    exact gcP (H1.pre.trans hp) rfl
theorem l11Has_run {vf : Value} {F : List Pt} {p : Pt} (S : Prs h vf F) (hFl : F.length ≤ 2 ^ 40) : Ret P G n_spec_l11Has [vf, ptv p] h (.bool (hasPt F p)) h := by
  refine enter_run e_spec_l11Has (by simp) ?_
  have Ss := S
  obtain ⟨fa, fc, rfl⟩ := S.shapeT
  have H0 := (Holds.start (h := h)).alloc [.int .i64 p.1, .int .i64 p.2]
  have lp := H0.bl (P := P) 0 2 rfl rfl t_A2_int 0
  simp -implicitDefEqProofs
  refine R_loopO (fun m s h' => ∃ i : Nat, i + m = F.length ∧ s = [(0, .slice fa F.length fc), (3, .pointer (some ⟨h.length, 0, some 2⟩)), (5, .int .i64 i)] ∧ hasPt F p = hasPt (F.drop i) p ∧ h' = h ++ [some ⟨[.int .i64 p.1, .int .i64 p.2], 0, false⟩]) (fun I hI m s h' => ?_) (n := F.length)
    ⟨0, Nat.zero_add _, by simp, by simp, rfl⟩
  rintro ⟨i, hi, rfl, hx', rfl⟩
  by_cases hlt : i < F.length
  · obtain ⟨q, hq, hd⟩ := drop_at hlt
    have lq := load_Q (Ss.pre H0.pre) hq
    have e : hasPt (q :: F.drop (i + 1)) p = (sameB q p || hasPt (F.drop (i + 1)) p) := rfl
    rw [hd, e] at hx'
    cases c3 : sameB q p
    · rw [c3, Bool.false_or] at hx'
      simp -implicitDefEqProofs [-indexAddrP_some, hlt, lq, lp, eqPt, c3, winc hlt (by omega)]
      exact ⟨m - 1, by omega, on hI ⟨i + 1, by omega, rfl, hx', rfl⟩⟩
    · rw [c3, Bool.true_or] at hx'
      simp -implicitDefEqProofs [-indexAddrP_some, hlt, lq, lp, eqPt, c3, hx']
  · rw [List.drop_eq_nil_of_le (by omega)] at hx'
    have hx' : hasPt F p = false := hx'
    simp -implicitDefEqProofs [hlt, hx']
theorem specIsUndominated_run (J : Jobs h vj js) (X : Ints h v xs) (hl : js.length ≤ 2 ^ 40) (hx : xs.length ≤ 2 ^ 40) : Ret P G n_spec_IsUndominated [vj, v, .int .i64 f, .int .i64 g] h (.tuple #[.bool (undB js xs f g && hasPt (frontR f g js) (ptX f g js xs)), .bool (undB js xs f g)]) h := by
  refine enter_run e_spec_IsUndominated (by simp) ?_
  have r1 := l2Two_run J X hl hx
  have Js := J
  have Xs := X
  obtain ⟨oj, cj, rfl⟩ := J.shapeT
  obtain ⟨oa, ca, rfl⟩ := X.shapeT
  have e1 : undB js xs f g = ((jOk js && l2OrderL js.length xs) && (inB f 1 8 && inB g 1 8)) := by
    unfold undB aTwo
    cases jOk js <;> cases l2OrderL js.length xs <;> cases inB f 1 8 <;> cases inB g 1 8 <;> rfl
  rw [e1]
  cases c1 : (jOk js && l2OrderL js.length xs)
  · simp -implicitDefEqProofs [CL_ret r1, c1]
  cases c2 : (inB f 1 8 && inB g 1 8)
  · simp -implicitDefEqProofs [CL_ret r1, CL_ret l11Two_run, c1, c2]
  have c3 : aTwo js f g = true ∧ l2OrderL js.length xs = true := by
    rw [Bool.and_eq_true] at c1
    exact ⟨by rw [aTwo_eq, c1.1, c2]; rfl, c1.2⟩
  obtain ⟨hn, hg, hf, hg8⟩ := aTwo_of c3.1
  simp -implicitDefEqProofs [CL_ret r1, CL_ret l11Two_run, c1, c2]
  refine CL_post (l11Front_run (f := f) (g := g) Js hg hn hf hg8) fun w h1 ⟨hp1, hF, S1⟩ => ?_
  have rp := l11Point_run (f := f) (g := g) (Js.pre hp1) (Xs.pre hp1) hg hn hf hg8 (ord_of c3.2)
  have rh := l11Has_run (p := ptX f g js xs) S1 (by have := hF.len; omega)
  simp -implicitDefEqProofs [CL_ret rp, CL_ret rh]
  exact gcP hp1 rfl
/-! ### the first order with a point -/
def isP (f g : Int) (js : List Job) (p : Pt) (xs : List Int) : Bool := sameB (ptX f g js xs) p
theorem l11First_run {js : List Job} {f g : Int} {p : Pt} (hg : goodL js = true) (hn : js.length ≤ 8) (hf : 1 ≤ f ∧ f ≤ 8) (hg8 : 1 ≤ g ∧ g ≤ 8) : ∀ {k : Nat} {h : Hp} {vj vb : Value} {begun : List Int}, Jobs h vj js → Ints h vb begun → begun.length + k = js.length → inN js.length begun → begun.Nodup →
    RunsC P G n_spec_l11First [vj, vb, .int .i64 f, .int .i64 g, ptv p] h fun w h' => h <+: h' ∧ ∃ a n c, w = .tuple #[.slice a n c, .bool (ffs (isP f g js p) js.length k begun).isSome] ∧ ∀ o, ffs (isP f g js p) js.length k begun = some o → Ints h' (.slice a n c) o
  | 0, h, vj, vb, begun, J, B, hk, hin, hnd => by
    refine hideC fun K hK => enter_run e_spec_l11First (by simp) ?_
    have Js := J
    have Bs := B
    obtain ⟨oj, cj, rfl⟩ := J.shapeT
    obtain ⟨ob, cb, rfl⟩ : ∃ a c, vb = .slice a js.length c := by obtain ⟨a, c, e⟩ := B.shapeT; exact ⟨a, c, by rw [e]; congr 1⟩
    have hx : Ord js.length begun := ⟨by omega, hin, hnd⟩
    have H0 := (Holds.start (h := h)).alloc [.int .i64 p.1, .int .i64 p.2]
    have lp := H0.bl (P := P) 0 2 rfl rfl t_A2_int 0
    have rp := l11Point_run (f := f) (g := g) (Js.pre H0.pre) (Bs.pre H0.pre) hg hn hf hg8 hx
    have e0 : ffs (isP f g js p) js.length 0 begun = if sameB (ptX f g js begun) p = true then some begun else none := rfl
    rw [e0] at hK
    have e1 : (if sameB (ptX f g js begun) p = true then some begun else none : Option (List Int)).isSome = sameB (ptX f g js begun) p := by cases sameB (ptX f g js begun) p <;> rfl
    simp -implicitDefEqProofs [CL_ret rp, CH_at rp, lp, eqPt]
    refine onK hK ⟨pre_gcU H0.pre, ob, js.length, cb, by rw [e1], fun o ho => ?_⟩
    split at ho
    · cases ho
      exact Sees.gcU (Bs.pre H0.pre) fun g => plainT (r := [_]) g
    · cases ho
  | k + 1, h, vj, vb, begun, J, B, hk, hin, hnd => by
    refine hideC fun K hK => enter_run e_spec_l11First (by simp) ?_
    have Js := J
    have Bs := B
    obtain ⟨oj, cj, rfl⟩ := J.shapeT
    obtain ⟨ob, cb, rfl⟩ := B.shapeT
    have hne : ((begun.length : Int) == (js.length : Int)) = false := nb (by omega)
    have hne' : ¬ begun.length = js.length := by omega
    have H0 := (Holds.start (h := h)).alloc [.int .i64 p.1, .int .i64 p.2]
    generalize hX : ffs (isP f g js p) js.length (k + 1) begun = X at hK
    rw [ffs] at hX
    simp -implicitDefEqProofs [hne, hne']
    refine R_loopO (fun m st h' => ∃ (i : Nat) (v9 : Value), i + m = js.length ∧ st = [(0, .slice oj js.length cj), (1, .slice ob begun.length cb), (2, .int .i64 f), (3, .int .i64 g), (9, .pointer (some ⟨h.length, 0, some 2⟩)), (12, .int .i64 i)] ∧
      X = (List.range' i m).findSome? (fun (j : Nat) => if begun.any (· == (j : Int)) = true then none else ffs (isP f g js p) js.length k (begun ++ [(j : Int)])) ∧ Holds h h' [.box h.length [.int .i64 p.1, .int .i64 p.2]]) (fun I hI m st h' => ?_) (n := js.length)
      ⟨0, .bool true, Nat.zero_add _, by simp, hX.symm, H0⟩
    rintro ⟨i, _, hi, rfl, hx, H⟩
    by_cases hlt : i < js.length
    · obtain ⟨m', rfl⟩ : ∃ m', m = m' + 1 := ⟨m - 1, by omega⟩
      rw [List.range'_succ, List.findSome?_cons] at hx
      have rh := l1Has_run (x := (i : Int)) (Bs.pre H.pre) (by omega)
      have wi := winc hlt (show js.length ≤ 2 ^ 40 by omega)
      cases c1 : hasL (i : Int) begun
      · have ha0 : begun.any (· == (i : Int)) = false := c1
        rw [ha0] at hx
        simp only [Bool.false_eq_true, if_false] at hx
        have hni : (i : Int) ∉ begun := fun g => by rw [hasL_iff'.2 g] at c1; cases c1
        simp -implicitDefEqProofs [hlt, CL_ret rh, c1]
        refine CG_post (l1Own_run (Bs.pre H.pre) (by omega)).new fun v5 h5 ⟨⟨hp5, ho5⟩, hn5⟩ => ⟨hn5 hp5, ?_⟩
        have H5 : Holds h' h5 [.own v5 1 (begun.map encI)] := (Holds.start (h := h')).call hp5 ho5
        obtain ⟨v6, h6, ha6, H6, k6, _⟩ := push_I0 H5 0 rfl (i : Int) (by omega)
        have H6' : Holds h' h6 [.own v6 1 ((begun ++ [(i : Int)]).map encI)] := H6
        have n6 : NR h'.length (h5 ++ [some ⟨[.int .i64 (i : Int)], 1, false⟩]) := (hn5 hp5).nr.new [.int .i64 (i : Int)] 1
        have md := app_mod (b := h'.length) rfl n6 ha6 (hp5.trans (List.prefix_append ..)) H6'.pre
        have HH6 := H.ext H6'.pre
        have no6 := newOk_of H6'.pre (append_nr n6 ha6)
        have ih := l11First_run (p := p) hg hn hf hg8 (k := k) (Js.pre HH6.pre) (H6'.sees 0 rfl) (by simp; omega) (fun x hx => by
          rcases List.mem_append.1 hx with g | g
          · exact hin x g
          · rw [List.mem_singleton.1 g]; omega) (List.nodup_append.2 ⟨hnd, by simp, fun a ha c hc => by rw [List.mem_singleton.1 hc]; intro e; exact hni (e ▸ ha)⟩)
        obtain ⟨d1, d2, d3, rfl⟩ : ∃ a n c, v5 = .slice a n c := by obtain ⟨a, c, e⟩ := ho5.sees.shape; exact ⟨_, _, _, e⟩
        obtain ⟨e1, e2, e3, rfl⟩ : ∃ a n c, v6 = .slice a n c := by obtain ⟨a, c, e⟩ := (H6'.sees 0 rfl).shape; exact ⟨_, _, _, e⟩
        simp -implicitDefEqProofs [ha6, md, no6, HH6.bl 0 2 rfl rfl]
        refine CG_post ih.new fun w h7 ⟨⟨hp7, a7, n7, c7, ew, hs7⟩, hn7⟩ => ⟨hn7 hp7, ?_⟩
        subst ew
        generalize ffs (isP f g js p) js.length k (begun ++ [(i : Int)]) = R at hx hs7
        cases R with
        | none =>
          simp -implicitDefEqProofs [wi]
          exact ⟨m', by omega, on hI ⟨i + 1, .bool true, by omega, rfl, hx, HH6.ext hp7⟩⟩
        | some o =>
          have hx : X = some o := hx
          rw [hx] at hK
          simp -implicitDefEqProofs
          exact onK hK ⟨pre_gcU (HH6.pre.trans hp7), _, _, _, rfl, fun o' ho => by cases ho; exact Sees.gcU (hs7 o rfl) fun g => plainT (r := [_]) g⟩
      · have ha0 : begun.any (· == (i : Int)) = true := c1
        rw [ha0] at hx
        simp only [if_true] at hx
        simp -implicitDefEqProofs [hlt, CL_ret rh, c1, wi]
        exact ⟨m', by omega, on hI ⟨i + 1, .bool true, by omega, rfl, hx, H⟩⟩
    · have hm : m = 0 := by omega
      subst hm
      have hx : X = none := hx
      rw [hx] at hK
      simp -implicitDefEqProofs [hlt]
      exact onK hK ⟨pre_gcU H.pre, none, 0, 0, rfl, fun o ho => by cases ho⟩
end
end Go.Pm.PP

/- The first order with a point of a front, by both; the draw. -/
set_option linter.unusedVariables false
set_option linter.unusedSimpArgs false
set_option maxRecDepth 4000
set_option maxHeartbeats 16000000
namespace Go.Pm.PP
open Go.Pm Go.Proofs Go.Pm.PE
/-! ### a search for the first one -/
def upO (P : List Int → Bool) (r : Option (List Int)) (xs : List Int) : Option (List Int) := if r.isSome = true then r else if P xs = true then some xs else none
theorem upO_find {P : List Int → Bool} : ∀ {l : List (List Int)} {r : Option (List Int)}, l.foldl (upO P) r = if r.isSome = true then r else l.find? P
  | [], r => by cases r <;> rfl
  | x :: l, r => by
    rw [List.foldl_cons, upO_find]
    cases r with
    | some y => simp [upO]
    | none =>
      rw [List.find?_cons]
      cases h : P x <;> simp [upO, h]
def bxO (p q : Nat) (vo : Value) (r : Option (List Int)) : List Asn := [.box p [vo], .box q [.bool r.isSome], .own vo 1 ((r.getD []).map encI)]
theorem gcO' {hb h h' : Hp} {p q : Nat} {vo vo' u : Value} {r r' : Option (List Int)} {L : List Asn} (HL : Holds hb h (bxO p q vo r ++ L)) (H' : Holds hb h' (bxO p q vo' r' ++ L)) : Holds hb (gc h h' u) (bxO p q vo' r' ++ L) := by
  rcases gc_cases' h h' u with g | ⟨hp, g⟩
  · rw [g]; exact H'
  · have e1 := HL.box (cs := [vo]) (r := p) 0 rfl
    have e2 := H'.box (cs := [vo']) (r := p) 0 rfl
    obtain ⟨t, rfl⟩ := hp
    rw [List.getElem?_append_left (List.getElem?_eq_some_iff.1 e1).1, e1] at e2
    cases e2
    exact HL.gcR H' rfl
def firstO (f g : Int) (js : List Job) (p : Pt) : Option (List Int) := (ordsL js.length).find? (isP f g js p)
theorem first_ffs {f g : Int} {js : List Job} {p : Pt} : ffs (isP f g js p) js.length js.length [] = firstO f g js p := by
  rw [ffs_perms (by rw [rem_nil]; simp), up_rem]
  unfold firstO ordsL
  simp
section
variable {h : Hp} {vj v u : Value} {js : List Job} {xs : List Int} {f g : Int}
theorem tellO_run {hb h : Hp} {p q rj rf rg rF rk : Nat} {vj vF vo vg : Value} {js : List Job} {f g : Int} {F : List Pt} {k : Nat} {P0 : Pt} {xs : List Int} {r : Option (List Int)} (J : Jobs hb vj js) (SF : Prs hb vF F)
    (bj : hb[rj]? = some (some ⟨[vj], 0, false⟩)) (bf : hb[rf]? = some (some ⟨[.int .i64 f], 0, false⟩)) (bg : hb[rg]? = some (some ⟨[.int .i64 g], 0, false⟩)) (bF : hb[rF]? = some (some ⟨[vF], 0, false⟩)) (bk : hb[rk]? = some (some ⟨[.int .i64 k], 0, false⟩)) (hk : F[k]? = some P0)
    (hgd : goodL js = true) (hn : js.length ≤ 8) (hf : 1 ≤ f ∧ f ≤ 8) (hg8 : 1 ≤ g ∧ g ≤ 8) (hx : Ord js.length xs) (H : Holds hb h (bxO p q vo r ++ [.own vg 1 (xs.map encI)])) :
    RunsC P G n_impl_FrontOrder_1 [vg, .pointer (some ⟨q, 0, some 1⟩), .pointer (some ⟨rj, 0, some 1⟩), .pointer (some ⟨rf, 0, some 1⟩), .pointer (some ⟨rg, 0, some 1⟩), .pointer (some ⟨rF, 0, some 1⟩), .pointer (some ⟨rk, 0, some 1⟩), .pointer (some ⟨p, 0, some 1⟩)] h fun v h' =>
      ∃ vo', ∀ L, Holds hb h (bxO p q vo r ++ L) → Holds hb h' (bxO p q vo' (upO (isP f g js P0) r xs) ++ L) := by
  refine hideC fun K hK => enter_run e_impl_FrontOrder_1 (by simp) ?_
  have Js := J
  obtain ⟨oj, cj, rfl⟩ := J.shapeT
  have SFs := SF
  obtain ⟨fa, fc, rfl⟩ := SF.shapeT
  have Sg : Ints h vg xs := H.sees 3 rfl
  obtain ⟨g1, g3, rfl⟩ : ∃ a c, vg = .slice a xs.length c := Sg.shapeT
  have lj := load_pre H.pre bj (n := 1) rfl
  have lf := load_pre H.pre bf (n := 1) rfl
  have lg := load_pre H.pre bg (n := 1) rfl
  have lF := load_pre H.pre bF (n := 1) rfl
  have lk := load_pre H.pre bk (n := 1) rfl
  have lq := H.bl (P := P) 1 1 rfl rfl
  have lx := load_Q (SFs.pre H.pre) hk
  have rp := pointOf_run (f := f) (g := g) (Js.pre H.pre) Sg hgd hn hf hg8 hx
  cases r with
  | some o =>
    have eU : upO (isP f g js P0) (some o) xs = some o := rfl
    rw [eU] at hK
    simp -implicitDefEqProofs [lq]
    exact onK hK ⟨vo, fun L HL => by simpa using gcO' (u := .tuple #[]) HL HL⟩
  | none =>
    have eI : sameB (ptX f g js xs) P0 = isP f g js P0 xs := rfl
    cases c : isP f g js P0 xs
    · have eU : upO (isP f g js P0) none xs = none := by simp [upO, c]
      rw [eU] at hK
      simp -implicitDefEqProofs [-indexAddrP_some, lq, lj, lf, lg, lF, lk, CL_ret rp, CH_at rp, lx, eqPt, eI, c]
      exact onK hK ⟨vo, fun L HL => by simpa using gcO' (u := .tuple #[]) HL HL⟩
    · have eU : upO (isP f g js P0) none xs = some xs := by simp [upO, c]
      rw [eU] at hK
      simp -implicitDefEqProofs [-indexAddrP_some, lq, lj, lf, lg, lF, lk, CL_ret rp, CH_at rp, lx, eqPt, eI, c]
      refine CL_post (copyInts_run Sg (by rw [hx.len]; omega)) fun v1 h1 ⟨hp1, ho1⟩ => ?_
      obtain ⟨a, c', rfl⟩ := ho1.sees.shapeT
      obtain ⟨h2, s2, H2, _⟩ := (H.ext hp1).set (P := P) 0 (n := 1) (o := 0) (ty := t_S_int) (w := .slice a xs.length c') rfl rfl e_t_S_int (by simp) (by simp) (by simp)
      obtain ⟨h3, s3, H3, _⟩ := H2.set (P := P) 1 (n := 1) (o := 0) (ty := t_bool) (w := .bool true) rfl rfl e_t_bool (by simp) (by simp) (by simp)
      simp -implicitDefEqProofs [s2, s3]
      refine onK hK ⟨.slice a xs.length c', fun L HL => ?_⟩
      have HJ := Holds.joinT (L := bxO p q vo none) (T := L) (A := [.own (.slice a xs.length c') 1 (xs.map encI)]) (M := []) HL ((Holds.start (h := h)).call hp1 ho1)
      obtain ⟨h2', s2', H2', _⟩ := HJ.set (P := P) 0 (n := 1) (o := 0) (ty := t_S_int) (w := .slice a xs.length c') rfl rfl e_t_S_int (by simp) (by simp) (by simp)
      rw [s2] at s2'; cases s2'
      obtain ⟨h3', s3', H3', _⟩ := H2'.set (P := P) 1 (n := 1) (o := 0) (ty := t_bool) (w := .bool true) rfl rfl e_t_bool (by simp) (by simp) (by simp)
      rw [s3] at s3'; cases s3'
      have H5 : Holds hb h3 (([.box p [.slice a xs.length c'], .box q [.bool true]] ++ [.own vo 1 (([] : List Int).map encI)]) ++ ([.own (.slice a xs.length c') 1 (xs.map encI)] ++ L)) := H3'
      have H6 : Holds hb h3 (bxO p q (.slice a xs.length c') (some xs) ++ L) := H5.cut
      exact gcO' HL H6
theorem implFrontOrder_run {k : Nat} (J : Jobs h vj js) (hl : js.length ≤ 2 ^ 40) (hok : aTwo js f g = true) {P0 : Pt} (hk : (frontR f g js)[k]? = some P0) : RunsC P G n_impl_FrontOrder [vj, .int .i64 f, .int .i64 g, .int .i64 k] h fun w h' => h <+: h' ∧ ∃ d, w = .tuple #[d, .bool true] ∧ Ints h' d ((firstO f g js P0).getD []) := by
  refine hideC fun K hK => enter_run e_impl_FrontOrder (by simp) ?_
  have Js := J
  obtain ⟨oj, cj, rfl⟩ := J.shapeT
  obtain ⟨hn, hg, hf, hg8⟩ := aTwo_of hok
  have H0 := ((((Holds.start (h := h)).alloc [.slice oj js.length cj]).alloc [.int .i64 f]).alloc [.int .i64 g]).alloc [.int .i64 k]
  simp only [List.append_assoc, List.cons_append, List.nil_append, List.length_append, List.length_cons, List.length_nil, Nat.zero_add] at H0
  have r1 := areTwo_run (f := f) (g := g) (Js.pre H0.pre) hl
  rw [hok] at r1
  simp -implicitDefEqProofs [CL_ret r1]
  refine CL_post (frontOf_run (f := f) (g := g) (Js.pre H0.pre) hg hn hf hg8) fun w h1 ⟨hp1, hF, S1⟩ => ?_
  have H1 := H0.ext hp1
  have hFl := hF.len
  generalize frontR f g js = F at *
  obtain ⟨fa, fc, rfl⟩ : ∃ a c, w = .slice a F.length c := S1.shapeT
  have hkl := (List.getElem?_eq_some_iff.1 hk).1
  have wn : w64 ((F.length : Int) - 1) = (F.length : Int) - 1 := by unfold w64; rw [wrap_ok] <;> omega
  have ik : inB (k : Int) 0 (w64 ((F.length : Int) - 1)) = true := by rw [wn]; simp [inB]; omega
  have H2 := H1.alloc [.slice fa F.length fc]
  have lk := fun {l : Hp} => H1.blx (P := P) 3 1 rfl rfl l t_int 0
  have lj := fun {l : Hp} => H1.blx (P := P) 0 1 rfl rfl l t_S_impl_Job 0
  generalize hHb : h1 ++ [some ⟨[.slice fa F.length fc], 0, false⟩] = hb at H2
  have hbl : hb.length = h1.length + 1 := by rw [← hHb]; simp
  have E : Holds hb (hb ++ [some ⟨[.slice none 0 0], 0, false⟩, some ⟨[.bool false], 0, false⟩]) (bxO hb.length (hb.length + 1) (.slice none 0 0) none ++ []) := by
    have := own_nil (((Holds.start (h := hb)).alloc [.slice none 0 0]).alloc [.bool false]) Int encI 1
    simp only [List.append_assoc, List.cons_append, List.nil_append, List.length_append, List.length_cons, List.length_nil, Nat.zero_add] at this
    exact this
  have pF : h1 <+: hb := by rw [← hHb]; exact List.prefix_append ..
  have er := eachOrder_run (hb := hb) (g := n_impl_FrontOrder_1) (c := #[.pointer (some ⟨hb.length + 1, 0, some 1⟩), .pointer (some ⟨h.length, 0, some 1⟩), .pointer (some ⟨h.length + 1, 0, some 1⟩), .pointer (some ⟨h.length + 1 + 1, 0, some 1⟩), .pointer (some ⟨h1.length, 0, some 1⟩), .pointer (some ⟨h.length + 1 + 1 + 1, 0, some 1⟩), .pointer (some ⟨hb.length, 0, some 1⟩)]) hn
    (Q := fun i BX => ∃ vo, BX = bxO hb.length (hb.length + 1) vo (((ordsL js.length).take i).foldl (upO (isP f g js P0)) none))
    (fun i BX i' BX' h h' L u ⟨vf, e⟩ ⟨vf', e'⟩ HL H' => by
      subst e; subst e'
      exact gcO' HL H')
    (fun i xs h BX vg ⟨vf, eBX⟩ hxs HB => by
      subst eBX
      have ox := ords_ord (List.mem_of_getElem? hxs)
      refine RunsC.mono (tellO_run (Js.pre H2.pre) (S1.pre pF) (H2.box 0 rfl) (H2.box 1 rfl) (H2.box 2 rfl) (H2.box 4 rfl) (H2.box 3 rfl) hk hg hn hf hg8 ox HB) fun v h' ⟨vf', Fx⟩ => ?_
      have es : ((ordsL js.length).take (i + 1)).foldl (upO (isP f g js P0)) none = upO (isP f g js P0) (((ordsL js.length).take i).foldl (upO (isP f g js P0)) none) xs := by
        rw [take_succ' hxs, List.foldl_append, List.foldl_cons, List.foldl_nil]
      refine ⟨_, ⟨vf', rfl⟩, fun L HL => ?_⟩
      rw [es]
      exact Fx L HL) ⟨_, rfl⟩ E
  have hcount : hb ++ [some ⟨[.slice none 0 0], 0, false⟩, some ⟨[.bool false], 0, false⟩] = h1 ++ [some ⟨[.slice fa F.length fc], 0, false⟩, some ⟨[.slice none 0 0], 0, false⟩, some ⟨[.bool false], 0, false⟩] := by rw [← hHb]; simp
  rw [hcount, hbl] at er
  rw [hcount, hbl] at E
  simp -implicitDefEqProofs [lk, lj, CL_ret isNumber_run, ik]
  refine CL_post er fun v h4 ⟨BX', ⟨vf, eBX⟩, Fx⟩ => ?_
  subst eBX
  have H4 := Fx [] E
  rw [List.take_length, upO_find] at H4
  have s4 : Ints h4 vf ((firstO f g js P0).getD []) := H4.sees 2 rfl
  obtain ⟨a, c, rfl⟩ := s4.shapeT
  have l0 := H4.bl (P := P) 0 1 rfl rfl
  simp -implicitDefEqProofs [l0]
  exact onK hK ⟨pre_gcU (H2.pre.trans H4.pre), _, rfl, Sees.gcU s4 fun g => plainT (r := [_]) g⟩
theorem specFrontOrder_run {k : Nat} (J : Jobs h vj js) (hl : js.length ≤ 2 ^ 40) (hok : aTwo js f g = true) {P0 : Pt} (hk : (frontR f g js)[k]? = some P0) {o : List Int} (ho : firstO f g js P0 = some o) : RunsC P G n_spec_FrontOrder [vj, .int .i64 f, .int .i64 g, .int .i64 k] h fun w h' => h <+: h' ∧ ∃ d, w = .tuple #[d, .bool true] ∧ Ints h' d o := by
  refine hideC fun K hK => enter_run e_spec_FrontOrder (by simp) ?_
  have Js := J
  have r1 := good_run J hl
  obtain ⟨oj, cj, rfl⟩ := J.shapeT
  obtain ⟨hn, hg, hf, hg8⟩ := aTwo_of hok
  have c12 := hok
  rw [aTwo_eq, Bool.and_eq_true] at c12
  simp -implicitDefEqProofs [CL_ret r1, c12.1, CL_ret l11Two_run, c12.2]
  refine CL_post (l11Front_run (f := f) (g := g) Js hg hn hf hg8) fun w h1 ⟨hp1, hF, S1⟩ => ?_
  have hFl := hF.len
  generalize frontR f g js = F at *
  obtain ⟨fa, fc, rfl⟩ : ∃ a c, w = .slice a F.length c := S1.shapeT
  have hkl := (List.getElem?_eq_some_iff.1 hk).1
  have wn : IntKind.i64.wrap ((F.length : Int) - 1) = (F.length : Int) - 1 := by rw [wrap_ok] <;> omega
  have ik : inB (k : Int) 0 ((F.length : Int) - 1) = true := by simp [inB]; omega
  have lq := load_Q S1 hk
  have nilI : Ints h1 (.slice none 0 0) [] := ⟨by simp, none, 0, rfl, .inl ⟨rfl, rfl, rfl⟩⟩
  have r := l11First_run (p := P0) hg hn hf hg8 (k := js.length) (Js.pre hp1) nilI (by simp) (fun x hx => by cases hx) List.nodup_nil
  rw [first_ffs, ho] at r
  simp -implicitDefEqProofs [-indexAddrP_some, wn, CL_ret l1In_run, ik, lq]
  refine CL_post r fun w h2 ⟨hp2, a, n, c, ew, hs⟩ => ?_
  subst ew
  simp -implicitDefEqProofs
  exact onK hK ⟨pre_gcU (hp1.trans hp2), _, rfl, Sees.gcU (hs o rfl) fun g => plainT (r := [_]) g⟩
end
/-! ### in plain terms -/
theorem front_facts {f g : Int} {js : List Job} (hn : js.length ≤ 8) : Srt (frontR f g js) ∧ (∀ q, q ∈ frontR f g js → ∃ xs, Ord js.length xs ∧ ptX f g js xs = q) ∧ (∀ xs, Ord js.length xs → ∃ q, q ∈ frontR f g js ∧ q.1 ≤ valX f js xs ∧ q.2 ≤ valX g js xs) := by
  obtain ⟨h1, h2, h3⟩ := front_fold (pt := ptX f g js) (l := ordsL js.length) (F := []) (S := fun q => ∃ xs, Ord js.length xs ∧ ptX f g js xs = q) List.Pairwise.nil (fun q hq => by cases hq) fun xs hx => ⟨xs, ords_ord hx, rfl⟩
  exact ⟨h1, h2, fun xs ox => h3 (ptX f g js xs) (.inl ⟨xs, ord_mem ox, rfl⟩)⟩
theorem first_some {f g : Int} {js : List Job} {p : Pt} (h : ∃ xs, Ord js.length xs ∧ ptX f g js xs = p) : ∃ o, firstO f g js p = some o ∧ Ord js.length o ∧ ptX f g js o = p := by
  obtain ⟨xs, ox, e⟩ := h
  cases hf : firstO f g js p with
  | none =>
    have := List.find?_eq_none.1 hf xs (ord_mem ox)
    unfold isP at this
    rw [sameB_iff] at this
    exact absurd e this
  | some o =>
    have h1 := List.find?_some hf
    unfold isP at h1
    rw [sameB_iff] at h1
    exact ⟨o, rfl, ords_ord (List.mem_of_find?_eq_some hf), h1⟩
end Go.Pm.PP

/- Tables of the least values of sets, by both. -/
set_option linter.unusedVariables false
set_option linter.unusedSimpArgs false
set_option maxRecDepth 4000
set_option maxHeartbeats 8000000
namespace Go.Pm.PP
open Go.Pm Go.Proofs Go.Pm.PE
/-! ### digits in the machine -/
theorem pow_le60 {i : Nat} (h : i ≤ 60) : 0 < 2 ^ i ∧ 2 ^ i ≤ 2 ^ 60 := ⟨Nat.two_pow_pos i, Nat.pow_le_pow_right (by omega) h⟩
/-- A digit is taken away, as the machine has it. -/
theorem clr_val {k i b z : Nat} (hk : k < 2 ^ 60) (hb : b = 2 ^ i) (ht : k.testBit i = true) (hz : z = k - 2 ^ i) : IntKind.i64.wrap ↑(((k : Int) % 2 ^ IntKind.i64.bits).toNat &&& 2 ^ IntKind.i64.bits - 1 - ((b : Int) % 2 ^ IntKind.i64.bits).toNat) = (z : Int) := by
  have hbits : IntKind.i64.bits = 64 := rfl
  have hle := bit_le ht
  have e1 : ∀ n : Nat, n < 2 ^ 60 → ((n : Int) % 2 ^ IntKind.i64.bits).toNat = n := fun n hn => by
    have h5 : (n : Int) < 2 ^ 64 := by omega
    rw [hbits, Int.emod_eq_of_lt (Int.natCast_nonneg _) h5, Int.toNat_natCast]
  rw [e1 k hk, e1 b (by omega), hbits]
  have e2 : k &&& 2 ^ 64 - 1 - b = z := by
    refine Nat.eq_of_testBit_eq fun j => ?_
    rw [hz, bit_sub ht, Nat.testBit_and, show 2 ^ 64 - 1 - b = 2 ^ 64 - (b + 1) by omega, Nat.testBit_two_pow_sub_succ (by omega), hb, Nat.testBit_two_pow]
    cases hj : k.testBit j with
    | false => rfl
    | true =>
      have := bit_lt hk hj
      rw [Bool.true_and, Bool.true_and, show decide (j < 64) = true by simp; omega, Bool.true_and]
      congr 1
      simp only [decide_eq_decide]
      exact eq_comm
  rw [e2, wrap_ok (by omega) (by omega)]
theorem listOf_run {h : Hp} {n c : Nat} (hn : n ≤ 50) (hc : c < 2 ^ n) : RunsC P G n_impl_listOf [.int .i64 c] h fun v h' => h <+: h' ∧ Own h.length h' v 1 ((bitsL n c).map encI) := by
  refine hideC fun K hK => enter_run e_impl_listOf (by simp) ?_
  have H0 := own_nil (Holds.start (h := h)) Int encI 1
  have hc60 : c < 2 ^ 60 := by have : 2 ^ n ≤ 2 ^ 50 := Nat.pow_le_pow_right (by omega) hn; omega
  simp -implicitDefEqProofs
  refine R_loopO (fun m s h' => ∃ (i : Nat) (u : Value), i + m = n ∧ s = [(0, .int .i64 c), (3, u), (4, .int .i64 i)] ∧ Holds h h' [.own u 1 ((bitsL i c).map encI)]) (fun I hI m s h' => ?_) (n := n) ⟨0, _, Nat.zero_add _, by simp; rfl, by simpa [bitsL] using H0⟩
  rintro ⟨i, u, hi, rfl, H⟩
  by_cases hlt : 0 < c / 2 ^ i
  · have hin : i < n := by
      have h1 : 2 ^ i ≤ c := (Nat.div_pos_iff.1 hlt).2
      exact (Nat.pow_lt_pow_iff_right (by omega : 1 < 2)).1 (Nat.lt_of_le_of_lt h1 hc)
    have hlt' : (0 : Int) < (c : Int) / 2 ^ i := by
      have : ((c : Int) / 2 ^ i) = ((c / 2 ^ i : Nat) : Int) := by simp
      omega
    have bl := @bits_len i c
    have bs := @bits_snoc i c
    have bv := bit_val (i := i) hc60
    cases ct : c.testBit i
    · rw [ct, if_neg (by simp)] at bs bv
      rw [List.append_nil] at bs
      simp -implicitDefEqProofs [hlt', shr_eq hc60, bv, winc hin (by omega)]
      exact ⟨m - 1, by omega, on hI ⟨i + 1, _, by omega, rfl, by rw [bs]; exact H⟩⟩
    · rw [ct, if_pos rfl] at bs bv
      obtain ⟨v', h2, ha, H2, _⟩ := push_I0 H 0 rfl (i : Int) (by omega)
      simp -implicitDefEqProofs [hlt', shr_eq hc60, bv, ha, winc hin (by omega)]
      exact ⟨m - 1, by omega, on hI ⟨i + 1, _, by omega, rfl, by rw [bs]; exact H2⟩⟩
  · have h1 : c < 2 ^ i := by
      rcases Nat.lt_or_ge c (2 ^ i) with g | g
      · exact g
      · exact absurd (Nat.div_pos g (Nat.two_pow_pos i)) hlt
    rw [bits_any h1 hc] at H
    have hlt' : ¬ (0 : Int) < (c : Int) / 2 ^ i := by
      have : ((c : Int) / 2 ^ i) = ((c / 2 ^ i : Nat) : Int) := by simp
      omega
    simp -implicitDefEqProofs [hlt', shr_eq hc60]
    exact onK hK (H.ret 0 rfl)
section
variable {h : Hp} {vj v : Value} {js : List Job} {xs : List Int}
/-- A sum of times, bit by bit. -/
def timeGo (js : List Job) (xs : List Int) : Int := (xs.map fun x => (jA js x).t).sum
theorem time_take {js : List Job} {xs : List Int} {i : Nat} {y : Int} (hy : xs[i]? = some y) : timeGo js (xs.take (i + 1)) = timeGo js (xs.take i) + (jA js y).t := by
  unfold timeGo; rw [take_succ' hy, List.map_append, List.sum_append]; simp
theorem time_bd {js : List Job} (bd : Bd js) : ∀ {xs : List Int}, 0 ≤ timeGo js xs ∧ timeGo js xs ≤ xs.length * 2 ^ 20
  | [] => by simp [timeGo]
  | x :: xs => by
    have ih := time_bd bd (xs := xs)
    have := bd.t x
    have e : timeGo js (x :: xs) = (jA js x).t + timeGo js xs := rfl
    rw [e, List.length_cons]; omega
theorem timeOf_run {c : Nat} (J : Jobs h vj js) (hn : js.length ≤ 8) (hg : goodL js = true) (hc : c < 2 ^ js.length) : Ret P G n_impl_timeOf [vj, .int .i64 c] h (.int .i64 (timeC js c)) h := by
  refine enter_run e_impl_timeOf (by simp) ?_
  have Js := J
  obtain ⟨oj, cj, rfl⟩ := J.shapeT
  have bd := good_bd hg
  simp -implicitDefEqProofs
  refine CL_post (listOf_run (n := js.length) (by omega) hc) fun v1 h1 ⟨hp1, ho1⟩ => ?_
  have S1 : Ints h1 v1 (bitsL js.length c) := ho1.sees
  have e : timeC js c = timeGo js (bitsL js.length c) := rfl
  have hin : inN js.length (bitsL js.length c) := fun x hx => by have := mem_bits.1 hx; omega
  have hl := @bits_len js.length c
  rw [e]
  generalize bitsL js.length c = ys at *
  have S1s := S1
  obtain ⟨oy, cy, rfl⟩ := S1.shapeT
  simp -implicitDefEqProofs
  refine R_loopO (fun m s h' => ∃ (i : Nat), i + m = ys.length ∧ s = [(0, .slice oj js.length cj), (5, .int .i64 (timeGo js (ys.take i))), (9, .slice oy ys.length cy), (10, .int .i64 ys.length), (11, .int .i64 i)] ∧ h' = h1) (fun I hI m s h' => ?_) (n := ys.length)
    ⟨0, Nat.zero_add _, by simp [timeGo], rfl⟩
  rintro ⟨i, hi, rfl, rfl⟩
  by_cases hlt : i < ys.length
  · obtain ⟨y, hy, _⟩ := drop_at hlt
    have ly := load_I S1s hy
    have lj := load_JX (Js.pre hp1) (hin y (List.mem_of_getElem? hy))
    have tb := time_bd bd (xs := ys.take i)
    have bt := bd.t y
    have tl : (ys.take i).length ≤ 8 := by rw [List.length_take]; omega
    have w1 : IntKind.i64.wrap (timeGo js (ys.take i) + (jA js y).t) = timeGo js (ys.take (i + 1)) := by rw [time_take hy, wrap_ok] <;> omega
    simp -implicitDefEqProofs [-indexAddrP_some, hlt, ly, lj, w1, winc hlt (by omega)]
    exact ⟨m - 1, by omega, on hI ⟨i + 1, by omega, rfl, rfl⟩⟩
  · rw [List.take_of_length_le (by omega)]
    simp -implicitDefEqProofs [hlt]
    exact gcP hp1 rfl
theorem good_time {js : List Job} (hg : goodL js = true) (hn : js.length ≤ 8) {c : Nat} : 0 ≤ timeC js c ∧ timeC js c ≤ 2 ^ 23 := by
  have := time_bd (good_bd hg) (xs := bitsL js.length c)
  have := @bits_len js.length c
  have e : timeC js c = timeGo js (bitsL js.length c) := rfl
  rw [e]; omega
theorem time_bits {i c : Nat} {js : List Job} : timeGo js (bitsL (i + 1) c) = timeGo js (bitsL i c) + if c.testBit i = true then (jA js i).t else 0 := by
  rw [bits_snoc]
  unfold timeGo
  rw [List.map_append, List.sum_append]
  split <;> simp
theorem l6Times_run {c : Nat} (J : Jobs h vj js) (hn : js.length ≤ 8) (hg : goodL js = true) (hc : c < 2 ^ 60) : Ret P G n_spec_l6Times [vj, .int .i64 c] h (.int .i64 (timeC js c)) h := by
  refine enter_run e_spec_l6Times (by simp) ?_
  have Js := J
  obtain ⟨oj, cj, rfl⟩ := J.shapeT
  have bd := good_bd hg
  simp -implicitDefEqProofs
  refine R_loopO (fun m s h' => ∃ (i : Nat), i + m = js.length ∧ s = [(0, .slice oj js.length cj), (1, .int .i64 c), (5, .int .i64 (timeGo js (bitsL i c))), (6, .int .i64 i)] ∧ h' = h) (fun I hI m s h' => ?_) (n := js.length)
    ⟨0, Nat.zero_add _, by simp [timeGo, bitsL], rfl⟩
  rintro ⟨i, hi, rfl, rfl⟩
  by_cases hlt : i < js.length
  · have lj := load_JX Js (x := (i : Int)) (by omega)
    have tb := time_bd bd (xs := bitsL i c)
    have tl := @bits_len i c
    have bt := bd.t i
    have bv := bit_val (i := i) hc
    have tt := @time_bits i c js
    cases ct : c.testBit i
    · rw [ct, if_neg (by simp)] at bv tt
      rw [Int.add_zero] at tt
      simp -implicitDefEqProofs [-indexAddrP_some, hlt, shr_eq hc, bv, winc hlt (by omega)]
      exact ⟨m - 1, by omega, on hI ⟨i + 1, by omega, by rw [tt]; rfl, rfl⟩⟩
    · rw [ct, if_pos rfl] at bv tt
      have w1 : IntKind.i64.wrap (timeGo js (bitsL i c) + (jA js i).t) = timeGo js (bitsL (i + 1) c) := by rw [tt, wrap_ok] <;> omega
      rw [Int.toNat_natCast] at lj
      simp -implicitDefEqProofs [-indexAddrP_some, hlt, shr_eq hc, bv, lj, w1, winc hlt (by omega)]
      exact ⟨m - 1, by omega, on hI ⟨i + 1, by omega, rfl, rfl⟩⟩
  · have : i = js.length := by omega
    subst this
    simp -implicitDefEqProofs [hlt]
    rfl
/-! ### objectives that are sums -/
def sumB (o : Int) : Bool := inB o 1 8 && !(o == 1) && !(o == 4)
theorem sumB_of {o : Int} (h : sumB o = true) : (1 ≤ o ∧ o ≤ 8) ∧ ¬ o = 1 ∧ ¬ o = 4 := by
  simp only [sumB, Bool.and_eq_true, Bool.not_eq_true', beq_eq_false_iff_ne] at h
  exact ⟨inB_of h.1.1, h.1.2, h.2⟩
theorem costV_mono {o : Int} {j : Job} {e e' : Int} (hw : 0 ≤ j.w) (h : e ≤ e') : costV o j e ≤ costV o j e' := by
  unfold costV
  split
  · exact h
  split
  · exact Int.mul_le_mul_of_nonneg_left h hw
  split
  · omega
  split
  · exact Int.mul_le_mul_of_nonneg_left (by omega) hw
  split
  · split
    · exact Int.le_refl _
    · split <;> omega
  · split
    · omega
    · split <;> omega
theorem good_cb {o : Int} {js : List Job} (hg : goodL js = true) (ho : sumB o = true) : Cb o js := by
  obtain ⟨h1, h2, h3⟩ := sumB_of ho
  have z1 : ∀ e, 0 ≤ e → 0 ≤ costV o ⟨0, 0, 0, 0⟩ e ∧ costV o ⟨0, 0, 0, 0⟩ e ≤ e + 1 := by
    intro e he
    unfold costV
    split
    · omega
    split
    · simp; omega
    split
    · simp only; omega
    split
    · simp; omega
    split
    · omega
    split <;> simp <;> omega
  have hw : ∀ x, 0 ≤ (jA js x).w := by
    intro x
    rcases @jA_in js x with g | g
    · exact (job_of (List.all_eq_true.1 hg _ g)).2.1.1
    · rw [g]; exact Int.le_refl _
  refine ⟨fun x e he => ?_, fun x e he he2 => ?_, fun x e e' _ h => costV_mono (hw x) h⟩
  · rcases @jA_in js x with g | g
    · have hj := job_of (List.all_eq_true.1 hg _ g)
      unfold costV
      have m1 := Int.mul_nonneg hj.2.1.1 he
      have m2 := Int.mul_nonneg hj.2.1.1 (show 0 ≤ max (e - (jA js x).d) 0 by omega)
      split
      · exact he
      split
      · exact m1
      split
      · omega
      split
      · exact m2
      split
      · omega
      split <;> omega
    · rw [g]; exact (z1 e he).1
  · rcases @jA_in js x with g | g
    · exact (cost_bd (List.all_eq_true.1 hg _ g) he he2).2
    · rw [g]; have := (z1 e he).2; omega
end
end Go.Pm.PP

/- Tables of the least values of sets, by both: the tables. -/
set_option linter.unusedVariables false
set_option linter.unusedSimpArgs false
set_option maxRecDepth 4000
set_option maxHeartbeats 8000000
namespace Go.Pm.PP
open Go.Pm Go.Proofs Go.Pm.PE
theorem sum_bd {o : Int} {js : List Job} (p : Pl js) (cb : Cb o js) (bd : ∀ x, (jA js x).t ≤ 50) : ∀ {xs : List Int} {now : Int}, 0 ≤ now → now + xs.length * 50 ≤ 2 ^ 20 → sumGo o js now xs ≤ xs.length * 2 ^ 27
  | [], now, _, _ => by simp [sumGo]
  | x :: xs, now, h, hb => by
    have t0 := p.t x
    have t1 := bd x
    rw [List.length_cons] at hb ⊢
    have ih := sum_bd p cb bd (xs := xs) (now := now + (jA js x).t) (by omega) (by omega)
    have := cb.hi x (now + (jA js x).t) (by omega) (by omega)
    rw [sumGo, p.endAt h]; omega
theorem good_t50 {js : List Job} (hg : goodL js = true) (x : Int) : (jA js x).t ≤ 50 := by
  rcases @jA_in js x with g | g
  · exact (job_of (List.all_eq_true.1 hg _ g)).1.2
  · rw [g]; simp
theorem tab_bd {o s : Int} {js : List Job} (hok : plOk js = true) (ho : sumB o = true) (hs : 0 ≤ s ∧ s ≤ 2 ^ 19) {m c : Nat} (h : c ≤ m) (hc : c < 2 ^ js.length) : 0 ≤ gE (tabV o js s m) c ∧ gE (tabV o js s m) c ≤ 2 ^ 30 := by
  obtain ⟨hn, hg, _⟩ := plOk_of hok
  have p := plOk_pl hok
  have cb := good_cb hg ho
  obtain ⟨⟨xs, hx, e⟩, _⟩ := tab_spec p cb hs.1 h hc
  have hl : xs.length ≤ 8 := by rw [hx.length_eq]; have := @bits_len js.length c; omega
  have h1 := sum_nonneg p cb (xs := xs) hs.1
  have h2 := sum_bd p cb (good_t50 hg) (xs := xs) hs.1 (by omega)
  rw [e]; omega
theorem last_bd {o s : Int} {js : List Job} (hok : plOk js = true) (ho : sumB o = true) (hs : 0 ≤ s ∧ s ≤ 2 ^ 19) {m c i : Nat} (h : c ≤ m + 1) (hc : c < 2 ^ js.length) (hi : c.testBit i = true) : 0 ≤ lastC o js s (tabV o js s m) c i ∧ lastC o js s (tabV o js s m) c i ≤ 2 ^ 31 := by
  obtain ⟨hn, hg, _⟩ := plOk_of hok
  have hle := bit_le hi
  have hpos := Nat.two_pow_pos i
  have g1 : c - 2 ^ i ≤ m := by omega
  have g2 : c - 2 ^ i < 2 ^ js.length := by omega
  have tb := tab_bd hok ho hs g1 g2
  have cb := good_cb hg ho
  have tt := good_time hg hn (c := c)
  have tl : timeC js c ≤ 8 * 50 := by
    have key : ∀ l : List Int, timeGo js l ≤ l.length * 50 := by
      intro l
      induction l with
      | nil => simp [timeGo]
      | cons x l ih =>
        have := good_t50 hg x
        have e : timeGo js (x :: l) = (jA js x).t + timeGo js l := rfl
        rw [e, List.length_cons]; omega
    have := key (bitsL js.length c)
    have := @bits_len js.length c
    have e : timeC js c = timeGo js (bitsL js.length c) := rfl
    rw [e]; omega
  have c1 := cb.lo i (s + timeC js c) (by omega)
  have c2 := cb.hi i (s + timeC js c) (by omega) (by omega)
  unfold lastC
  omega
/-- The best one, along the list of a set. -/
def stepL (o : Int) (js : List Job) (s : Int) (T : List Int) (c : Nat) (b : Int) (x : Int) : Int := if b < 0 ∨ lastC o js s T c x.toNat < b then lastC o js s T c x.toNat else b
theorem best_bits {o s : Int} {js : List Job} {T : List Int} {c : Nat} : bestC o js s T c = (bitsL js.length c).foldl (stepL o js s T c) (-1) := by
  unfold bestC bitsL
  rw [List.foldl_map, List.foldl_filter]
  exact fold_congr fun i _ b => by simp only [stepC, stepL, Int.toNat_natCast]
section
variable {h : Hp} {vj v : Value} {js : List Job} {xs : List Int} {o : Int}
theorem setValues_run {s : Int} (J : Jobs h vj js) (hok : plOk js = true) (ho : sumB o = true) (hs : 0 ≤ s ∧ s ≤ 2 ^ 19) : RunsC P G n_impl_setValues [vj, .int .i64 o, .int .i64 s] h fun w h' => h <+: h' ∧ Own h.length h' w 1 ((tabV o js s (2 ^ js.length - 1)).map encI) := by
  refine hideC fun K hK => enter_run e_impl_setValues (by simp) ?_
  have Js := J
  obtain ⟨oj, cj, rfl⟩ := J.shapeT
  obtain ⟨hn, hg, _⟩ := plOk_of hok
  obtain ⟨ho8, ho1, ho4⟩ := sumB_of ho
  obtain ⟨d, hd⟩ : ∃ d, d = 2 ^ js.length := ⟨_, rfl⟩
  have d1 : 1 ≤ d ∧ d ≤ 256 := by
    have := Nat.two_pow_pos js.length
    have : 2 ^ js.length ≤ 2 ^ 8 := Nat.pow_le_pow_right (by omega) hn
    omega
  have sh := shl_eq (i := js.length) (by omega)
  rw [← hd] at sh hK
  obtain ⟨v1, h1, mk, H1, hp1, oa, rfl⟩ := make_I (Holds.start (h := h)) (n := d) (by omega)
  have H1 : Holds h h1 [.own (.slice oa d d) 1 ((List.replicate d (0 : Int)).map encI)] := H1
  simp -implicitDefEqProofs [sh, mk]
  refine R_loopO (fun m st h' => ∃ (c k : Nat), k = c + 1 ∧ k + m = d ∧ st = [(0, .slice oj js.length cj), (1, .int .i64 o), (2, .int .i64 s), (7, .slice oa d d), (8, .int .i64 k)] ∧ Holds h h' [.own (.slice oa d d) 1 ((tabV o js s c ++ List.replicate m 0).map encI)]) (fun I hI m st h' => ?_) (n := d - 1)
    ⟨0, 1, rfl, by omega, by simp, by
      have e : tabV o js s 0 ++ List.replicate (d - 1) 0 = List.replicate d 0 := by
        obtain ⟨k, rfl⟩ : ∃ k, d = k + 1 := ⟨d - 1, by omega⟩
        rw [List.replicate_succ]; rfl
      rw [e]; exact H1⟩
  rintro ⟨c, k, hkc, hkm, rfl, H⟩
  by_cases hlt : k < d
  · obtain ⟨m', rfl⟩ : ∃ m', m = m' + 1 := ⟨m - 1, by omega⟩
    have hlt' : (k : Int) < d := by omega
    have hcd : k < 2 ^ js.length := by omega
    have rt := timeOf_run (c := k) (Js.pre H.pre) hn hg hcd
    have tt := good_time hg hn (c := k)
    have w1 : IntKind.i64.wrap (s + timeC js k) = s + timeC js k := by rw [wrap_ok] <;> omega
    have tl := @tabV_len o s js c
    obtain ⟨h2, s2, H2, k2⟩ := put_I H 0 rfl (j := k) (by simp; omega) (-1)
    have e2 : ∀ z, (tabV o js s c ++ List.replicate (m' + 1) 0).set k z = tabV o js s c ++ z :: List.replicate m' 0 := fun z => by
      rw [List.set_append_right (h := by omega), show k - (tabV o js s c).length = 0 by omega, List.replicate_succ]; rfl
    rw [e2] at H2
    have hg2 : (tabV o js s c ++ List.replicate (m' + 1) 0)[k]? = some 0 := by rw [List.getElem?_append_right (by omega), show k - (tabV o js s c).length = 0 by omega]; rfl
    have ix := (load_I (H.sees 0 rfl) hg2).1
    simp -implicitDefEqProofs [-indexAddrP_some, hlt, hlt', CL_ret rt, w1, ix, s2]
    refine CL_post (listOf_run (n := js.length) (by omega) hcd) fun v3 h3 ⟨hp3, ho3⟩ => ?_
    have H3 := H2.call hp3 ho3
    have S3 : Ints h3 v3 (bitsL js.length k) := ho3.sees
    have bb := best_bits (o := o) (s := s) (js := js) (T := tabV o js s c) (c := k)
    have hbit : ∀ x, x ∈ bitsL js.length k → 0 ≤ x ∧ x < js.length ∧ k.testBit x.toNat = true := fun x hx => mem_bits.1 hx
    have hbl := @bits_len js.length k
    generalize bitsL js.length k = ys at *
    obtain ⟨oy, cy, rfl⟩ : ∃ a c, v3 = .slice a ys.length c := S3.shapeT
    simp -implicitDefEqProofs
    refine R_loopO (fun m2 st h4 => ∃ (i : Nat), i + m2 = ys.length ∧ st = [(0, .slice oj js.length cj), (1, .int .i64 o), (2, .int .i64 s), (7, .slice oa d d), (8, .int .i64 k), (9, .int .i64 (s + timeC js k)), (32, .slice oy ys.length cy), (33, .int .i64 ys.length), (34, .int .i64 i)] ∧
      Holds h h4 [.own (.slice oa d d) 1 ((tabV o js s c ++ ((ys.take i).foldl (stepL o js s (tabV o js s c) k) (-1)) :: List.replicate m' 0).map encI), .own (.slice oy ys.length cy) 1 (ys.map encI)]) (fun I2 hI2 m2 st h4 => ?_) (n := ys.length)
      ⟨0, Nat.zero_add _, by simp, H3⟩
    rintro ⟨i, him, rfl, H4⟩
    have S4 : Ints h4 (.slice oy ys.length cy) ys := H4.sees 1 rfl
    by_cases hli : i < ys.length
    · obtain ⟨y, hy, _⟩ := drop_at hli
      have hyb := hbit y (List.mem_of_getElem? hy)
      have ly := load_I S4 hy
      have lj := load_JX (Js.pre H4.pre) ⟨hyb.1, hyb.2.1⟩
      have hle := bit_le hyb.2.2
      have hpos := Nat.two_pow_pos y.toNat
      have g1 : k - 2 ^ y.toNat ≤ c := by omega
      have g2 : k - 2 ^ y.toNat < 2 ^ js.length := by omega
      have tb := tab_bd hok ho hs g1 g2
      obtain ⟨z, hz⟩ : ∃ z : Nat, z = k - 2 ^ y.toNat := ⟨_, rfl⟩
      have lz := load_I (H4.sees 0 rfl) (i := z) (x := gE (tabV o js s c) z) (by rw [List.getElem?_append_left (by omega)]; exact gE_get (by omega))
      obtain ⟨b, hb⟩ : ∃ b : Nat, b = 2 ^ y.toNat := ⟨_, rfl⟩
      have shy := shl_eq (i := y.toNat) (by omega)
      rw [show ((y.toNat : Nat) : Int) = y by omega, ← hb] at shy
      have cv := clr_val (k := k) (by omega) hb hyb.2.2 hz
      have jo : jobOk (jA js y) = true := by
        obtain ⟨q, hq, hql, hqy⟩ := jA_get (js := js) rfl ⟨hyb.1, hyb.2.1⟩
        exact job_at hg hqy
      have tl50 : timeC js k ≤ 2 ^ 19 := by
        have key : ∀ l : List Int, timeGo js l ≤ l.length * 50 := by
          intro l
          induction l with
          | nil => simp [timeGo]
          | cons x l ih =>
            have := good_t50 hg x
            have e : timeGo js (x :: l) = (jA js x).t + timeGo js l := rfl
            rw [e, List.length_cons]; omega
        have := key (bitsL js.length k)
        have := @bits_len js.length k
        have e : timeC js k = timeGo js (bitsL js.length k) := rfl
        rw [e]; omega
      rw [← hz] at tb
      have ra := fun {hh : Hp} => add_run (h := hh) (j := jA js y) (a := gE (tabV o js s c) z) (e := s + timeC js k) (o := o) (f := false) jo (by omega) (by omega) ho8 (by omega)
      have es : stepV o false (gE (tabV o js s c) z) (jA js y) (s + timeC js k) = lastC o js s (tabV o js s c) k y.toNat := by
        unfold stepV lastC
        rw [if_neg ho1, if_neg ho4, hz, show ((y.toNat : Nat) : Int) = y by omega]
      rw [es] at ra
      have lb := last_bd hok ho hs (m := c) (c := k) (i := y.toNat) (by omega) hcd hyb.2.2
      obtain ⟨V, hV⟩ : ∃ V, V = lastC o js s (tabV o js s c) k y.toNat := ⟨_, rfl⟩
      obtain ⟨b0, hb0⟩ : ∃ b0, b0 = (ys.take i).foldl (stepL o js s (tabV o js s c) k) (-1) := ⟨_, rfl⟩
      have eb : (ys.take (i + 1)).foldl (stepL o js s (tabV o js s c) k) (-1) = if b0 < 0 ∨ V < b0 then V else b0 := by
        rw [take_succ' hy, List.foldl_append, ← hb0, hV]; rfl
      rw [← hb0] at H4
      rw [← hV] at ra lb
      have hg4 : (tabV o js s c ++ b0 :: List.replicate m' 0)[k]? = some b0 := by rw [List.getElem?_append_right (by omega), show k - (tabV o js s c).length = 0 by omega]; rfl
      have lk := load_I (H4.sees 0 rfl) hg4
      by_cases c1 : b0 < 0 ∨ V < b0
      · rw [if_pos c1] at eb
        obtain ⟨h5, s5, H5, k5⟩ := put_I H4 0 rfl (j := k) (by simp; omega) V
        have e5 : (tabV o js s c ++ b0 :: List.replicate m' 0).set k V = tabV o js s c ++ V :: List.replicate m' 0 := by
          rw [List.set_append_right (h := by omega), show k - (tabV o js s c).length = 0 by omega]; rfl
        rw [e5] at H5
        rcases Classical.em (b0 < 0) with c2 | c2
        · simp -implicitDefEqProofs [-indexAddrP_some, hli, ly, shy, cv, lz, lj, CL_ret ra, CH_at ra, lk, c2, s5, winc hli (by omega)]
          exact ⟨m2 - 1, by omega, on hI2 ⟨i + 1, by omega, rfl, by rw [eb]; exact H5⟩⟩
        · have c3 : V < b0 := by rcases c1 with g | g; exact absurd g c2; exact g
          simp -implicitDefEqProofs [-indexAddrP_some, hli, ly, shy, cv, lz, lj, CL_ret ra, CH_at ra, lk, c2, c3, s5, winc hli (by omega)]
          exact ⟨m2 - 1, by omega, on hI2 ⟨i + 1, by omega, rfl, by rw [eb]; exact H5⟩⟩
      · rw [if_neg c1] at eb
        have c2 : ¬ b0 < 0 := fun g => c1 (.inl g)
        have c3 : ¬ V < b0 := fun g => c1 (.inr g)
        simp -implicitDefEqProofs [-indexAddrP_some, hli, ly, shy, cv, lz, lj, CL_ret ra, CH_at ra, lk, c2, c3, winc hli (by omega)]
        exact ⟨m2 - 1, by omega, on hI2 ⟨i + 1, by omega, rfl, by rw [eb]; exact H4⟩⟩
    · rw [List.take_of_length_le (by omega), ← bb] at H4
      simp -implicitDefEqProofs [hli, winc hlt (by omega)]
      refine ⟨m', by omega, on hI ⟨c + 1, k + 1, by omega, by omega, by simp, ?_⟩⟩
      have e6 : tabV o js s (c + 1) ++ List.replicate m' 0 = tabV o js s c ++ bestC o js s (tabV o js s c) k :: List.replicate m' 0 := by
        rw [tabV, ← hkc, List.append_assoc]; rfl
      rw [e6]
      exact H4.one 0 rfl
  · have hm : m = 0 := by omega
    subst hm
    rw [List.replicate_zero, List.append_nil, show c = d - 1 by omega] at H
    simp -implicitDefEqProofs [hlt]
    exact onK hK (H.ret 0 rfl)
/-! ### by the reference -/
theorem l6Last_run {s0 c i : Nat} {vt : Value} {T : List Int} (J : Jobs h vj js) (X : Ints h vt T) (hn : js.length ≤ 8) (hg : goodL js = true) (ho : sumB o = true) (hc : c < 2 ^ js.length) (hi : c.testBit i = true) (hT : c - 2 ^ i < T.length) (ht : 0 ≤ gE T (c - 2 ^ i) ∧ gE T (c - 2 ^ i) ≤ 2 ^ 31) :
    Ret P G n_spec_l6Last [vj, .int .i64 o, vt, .int .i64 c, .int .i64 i] h (.int .i64 (lastC o js 0 T c i)) h := by
  refine enter_run e_spec_l6Last (by simp) ?_
  have Js := J
  have Xs := X
  obtain ⟨oj, cj, rfl⟩ := J.shapeT
  obtain ⟨ot, ct, rfl⟩ := X.shapeT
  have hil := bit_lt hc hi
  have hle := bit_le hi
  have hpos := Nat.two_pow_pos i
  have h8 : 2 ^ js.length ≤ 2 ^ 8 := Nat.pow_le_pow_right (by omega) hn
  obtain ⟨ho8, ho1, ho4⟩ := sumB_of ho
  have rt := fun {hh : Hp} (hp : h <+: hh) => l6Times_run (c := c) (Js.pre hp) hn hg (by omega)
  have tt := good_time hg hn (c := c)
  have cb := good_cb hg ho
  have tl50 : timeC js c ≤ 2 ^ 19 := by
    have key : ∀ l : List Int, timeGo js l ≤ l.length * 50 := by
      intro l
      induction l with
      | nil => simp [timeGo]
      | cons x l ih =>
        have := good_t50 hg x
        have e : timeGo js (x :: l) = (jA js x).t + timeGo js l := rfl
        rw [e, List.length_cons]; omega
    have := key (bitsL js.length c)
    have := @bits_len js.length c
    have e : timeC js c = timeGo js (bitsL js.length c) := rfl
    rw [e]; omega
  have jo : jobOk (jA js i) = true := by
    obtain ⟨q, hq, hql, hqy⟩ := jA_get (js := js) (x := (i : Int)) rfl (by omega)
    exact job_at hg hqy
  have rc := fun {hh : Hp} => l2Cost_run (h := hh) (j := jA js i) (e := timeC js c) (o := o) jo (by omega) (by omega) ho8 ho1 ho4
  have c1 := cb.lo i (timeC js c) (by omega)
  have c2 := cb.hi i (timeC js c) (by omega) (by omega)
  obtain ⟨z, hz⟩ : ∃ z : Nat, z = c - 2 ^ i := ⟨_, rfl⟩
  obtain ⟨b, hb⟩ : ∃ b : Nat, b = 2 ^ i := ⟨_, rfl⟩
  have shy := shl_eq (i := i) (by omega)
  rw [← hb] at shy
  rw [← hz] at hT ht
  have wz : IntKind.i64.wrap ((c : Int) - (b : Int)) = (z : Int) := by rw [wrap_ok] <;> omega
  have lz := load_I Xs (gE_get hT)
  have lj := load_JX Js (x := (i : Int)) (by omega)
  rw [Int.toNat_natCast] at lj
  have w2 : IntKind.i64.wrap (gE T z + costV o (jA js i) (timeC js c)) = gE T z + costV o (jA js i) (timeC js c) := by rw [wrap_ok] <;> omega
  have e : lastC o js 0 T c i = gE T z + costV o (jA js i) (timeC js c) := by unfold lastC; rw [Int.zero_add, hz]
  rw [e]
  simp -implicitDefEqProofs [-indexAddrP_some, shy, wz, lz, lj, CL_ret (rt List.prefix_rfl), CH_at (rt List.prefix_rfl), CL_ret rc, CH_at rc, w2]
theorem l6Values_run (J : Jobs h vj js) (hok : plOk js = true) (ho : sumB o = true) : RunsC P G n_spec_l6Values [vj, .int .i64 o] h fun w h' => h <+: h' ∧ Own h.length h' w 1 ((tabV o js 0 (2 ^ js.length - 1)).map encI) := by
  refine hideC fun K hK => enter_run e_spec_l6Values (by simp) ?_
  have Js := J
  obtain ⟨oj, cj, rfl⟩ := J.shapeT
  obtain ⟨hn, hg, _⟩ := plOk_of hok
  obtain ⟨d, hd⟩ : ∃ d, d = 2 ^ js.length := ⟨_, rfl⟩
  have d1 : 1 ≤ d ∧ d ≤ 256 := by
    have := Nat.two_pow_pos js.length
    have : 2 ^ js.length ≤ 2 ^ 8 := Nat.pow_le_pow_right (by omega) hn
    omega
  have sh := shl_eq (i := js.length) (by omega)
  rw [← hd] at sh hK
  have H0 : Holds h (h ++ [some ⟨[.int .i64 0], 1, false⟩]) [.own (.slice (some ⟨h.length, 0, some 1⟩) 1 1) 1 ((tabV o js 0 0).map encI)] := by
    have := (Holds.start (h := h)).lit (sz := 1) (n := 1) (els := ([0] : List Int).map encI) (len_I [0]) (by simp)
    have e0 : tabV o js 0 0 = [0] := rfl
    rw [e0]
    simpa [encI] using this
  simp -implicitDefEqProofs
  refine R_loopO (fun m st h' => ∃ (c k : Nat) (u : Value), k = c + 1 ∧ k + m = d ∧ st = [(0, .slice oj js.length cj), (1, .int .i64 o), (5, u), (6, .int .i64 k)] ∧ Holds h h' [.own u 1 ((tabV o js 0 c).map encI)]) (fun I hI m st h' => ?_) (n := d - 1)
    ⟨0, 1, _, rfl, by omega, by simp, H0⟩
  rintro ⟨c, k, u, hkc, hkm, rfl, H⟩
  have tl := @tabV_len o 0 js c
  have S : Ints h' u (tabV o js 0 c) := H.sees 0 rfl
  by_cases hlt : k < d
  · have hlt' : (k : Int) < d := by omega
    have hcd : k < 2 ^ js.length := by omega
    simp -implicitDefEqProofs [sh, hlt, hlt']
    refine R_loopO (fun m2 st h4 => ∃ (i : Nat), i + m2 = js.length ∧ st = [(0, .slice oj js.length cj), (1, .int .i64 o), (5, u), (6, .int .i64 k), (7, .int .i64 ((List.range' 0 i).foldl (stepC o js 0 (tabV o js 0 c) k) (-1))), (8, .int .i64 i)] ∧ h4 = h') (fun I2 hI2 m2 st h4 => ?_) (n := js.length)
      ⟨0, Nat.zero_add _, by simp, rfl⟩
    rintro ⟨i, him, rfl, rfl⟩
    obtain ⟨b0, hb0⟩ : ∃ b0, b0 = (List.range' 0 i).foldl (stepC o js 0 (tabV o js 0 c) k) (-1) := ⟨_, rfl⟩
    have eb : (List.range' 0 (i + 1)).foldl (stepC o js 0 (tabV o js 0 c) k) (-1) = stepC o js 0 (tabV o js 0 c) k b0 i := by
      rw [List.range'_concat, List.foldl_append, ← hb0]; simp
    rw [← hb0]
    by_cases hli : i < js.length
    · have bv := bit_val (c := k) (i := i) (by omega)
      cases ct : k.testBit i
      · have es : stepC o js 0 (tabV o js 0 c) k b0 i = b0 := by unfold stepC; rw [ct, if_neg (by simp)]
        rw [ct, if_neg (by simp)] at bv
        rw [es] at eb
        simp -implicitDefEqProofs [hli, shr_eq (c := k) (i := i) (by omega), bv, winc hli (by omega)]
        exact ⟨m2 - 1, by omega, on hI2 ⟨i + 1, by omega, by rw [eb]; rfl, rfl⟩⟩
      · rw [ct, if_pos rfl] at bv
        have hle := bit_le ct
        have hpos := Nat.two_pow_pos i
        have g1 : k - 2 ^ i ≤ c := by omega
        have g2 : k - 2 ^ i < 2 ^ js.length := by omega
        have tb := tab_bd hok ho (s := 0) (by omega) g1 g2
        have rl := l6Last_run (s0 := 0) (Js.pre H.pre) S hn hg ho hcd ct (by omega) (by omega)
        have es : stepC o js 0 (tabV o js 0 c) k b0 i = if b0 < 0 ∨ lastC o js 0 (tabV o js 0 c) k i < b0 then lastC o js 0 (tabV o js 0 c) k i else b0 := by unfold stepC; rw [ct, if_pos rfl]
        rw [es] at eb
        generalize lastC o js 0 (tabV o js 0 c) k i = V at *
        obtain ⟨uo, un, uc, rfl⟩ : ∃ a n c, u = .slice a n c := by obtain ⟨a, c, e⟩ := S.shape; exact ⟨_, _, _, e⟩
        by_cases c1 : b0 < 0
        · rw [if_pos (.inl c1)] at eb
          simp -implicitDefEqProofs [hli, shr_eq (c := k) (i := i) (by omega), bv, CL_ret rl, c1, winc hli (by omega)]
          exact ⟨m2 - 1, by omega, on hI2 ⟨i + 1, by omega, by rw [eb]; rfl, rfl⟩⟩
        · by_cases c2 : V < b0
          · rw [if_pos (.inr c2)] at eb
            simp -implicitDefEqProofs [hli, shr_eq (c := k) (i := i) (by omega), bv, CL_ret rl, c1, c2, winc hli (by omega)]
            exact ⟨m2 - 1, by omega, on hI2 ⟨i + 1, by omega, by rw [eb]; rfl, rfl⟩⟩
          · rw [if_neg (by rintro (g | g); exact c1 g; exact c2 g)] at eb
            simp -implicitDefEqProofs [hli, shr_eq (c := k) (i := i) (by omega), bv, CL_ret rl, c1, c2, winc hli (by omega)]
            exact ⟨m2 - 1, by omega, on hI2 ⟨i + 1, by omega, by rw [eb]; rfl, rfl⟩⟩
    · have : i = js.length := by omega
      have eB : b0 = bestC o js 0 (tabV o js 0 c) k := by rw [hb0, this]; rfl
      obtain ⟨v2, h2, ha, H2, _⟩ := push_I0 H 0 rfl b0 (by omega)
      simp -implicitDefEqProofs [hli, ha, winc hlt (by omega)]
      refine ⟨m - 1, by omega, on hI ⟨c + 1, k + 1, v2, by omega, by omega, by simp, ?_⟩⟩
      have e6 : tabV o js 0 (c + 1) = tabV o js 0 c ++ [b0] := by rw [tabV, ← hkc, eB]
      rw [e6]
      exact H2
  · have hm : m = 0 := by omega
    subst hm
    rw [show c = d - 1 by omega] at H
    have hlt' : ¬ (k : Int) < d := by omega
    simp -implicitDefEqProofs [sh, hlt, hlt']
    exact onK hK (H.ret 0 rfl)
end
end Go.Pm.PP

/- The order that is found from its end, by both; total times. -/
set_option linter.unusedVariables false
set_option linter.unusedSimpArgs false
set_option maxRecDepth 4000
set_option maxHeartbeats 8000000
namespace Go.Pm.PP
open Go.Pm Go.Proofs Go.Pm.PE
def setOk (js : List Job) (o : Int) : Bool := plOk js && sumB o
def fullC (js : List Job) : Nat := 2 ^ js.length - 1
def tabF (o : Int) (js : List Job) : List Int := tabV o js 0 (fullC js)
def backF (o : Int) (js : List Job) : List Int := backC o js 0 (tabF o js) (fullC js) (fullC js)
theorem back_more {o s : Int} {js : List Job} {T : List Int} : ∀ {n m c : Nat}, c ≤ n → c ≤ m → backC o js s T n c = backC o js s T m c
  | 0, m, c, h1, _ => by
    have : c = 0 := by omega
    subst this
    cases m with
    | zero => rfl
    | succ m => rw [backC, backC, if_pos rfl]
  | n + 1, 0, c, _, h2 => by
    have : c = 0 := by omega
    subst this
    have e1 : backC o js s T (n + 1) 0 = [] := by rw [backC, if_pos rfl]
    rw [e1]; rfl
  | n + 1, m + 1, c, h1, h2 => by
    rw [backC, backC]
    split
    · rfl
    · split
      · rfl
      · rename_i hc i hi
        have hp := List.find?_some hi
        unfold pickC at hp
        rw [Bool.and_eq_true] at hp
        have := bit_le hp.1
        have := Nat.two_pow_pos i
        rw [back_more (n := n) (m := m) (by omega) (by omega)]
theorem fullC_lt {js : List Job} : fullC js < 2 ^ js.length := by have := Nat.two_pow_pos js.length; unfold fullC; omega
section
variable {h : Hp} {vj v : Value} {js : List Job} {xs : List Int} {o : Int}
/-- The first one of a set that fits. -/
theorem find_bits {q : Nat → Bool} {n c i0 : Nat} (h : (List.range' 0 n).find? (fun i => c.testBit i && q i) = some i0) : ∃ A B : List Int, bitsL n c = A ++ (i0 : Int) :: B ∧ (∀ x, x ∈ A → q x.toNat = false) ∧ q i0 = true := by
  have hp := List.find?_some h
  have hfe := List.find?_eq_some_iff_getElem.1 h
  obtain ⟨_, k, hk, hki, hall⟩ := hfe
  have hki' : k = i0 := by simpa using hki
  subst hki'
  have hkn : k < n := by simpa using hk
  rw [Bool.and_eq_true] at hp
  have hm : (k : Int) ∈ bitsL n c := mem_bits.2 ⟨by omega, by omega, by simpa using hp.1⟩
  obtain ⟨A, B, e⟩ := List.append_of_mem hm
  refine ⟨A, B, e, fun x hx => ?_, hp.2⟩
  have hasc : (bitsL n c).Pairwise (· < ·) := bits_asc
  rw [e, List.pairwise_append] at hasc
  have hlt := hasc.2.2 x hx (k : Int) (List.mem_cons_self ..)
  have hxb := mem_bits.1 (show x ∈ bitsL n c by rw [e]; exact List.mem_append_left _ hx)
  have := hall x.toNat (by omega)
  have e2 : (List.range' 0 n)[x.toNat]'(by simp; omega) = x.toNat := by simp
  rw [e2, hxb.2.2, Bool.true_and] at this
  simpa using this
/-! ### total times -/
def totT (js : List Job) : Int := (js.map (·.t)).sum
theorem tot_bd {js : List Job} (hg : goodL js = true) : 0 ≤ totT js ∧ totT js ≤ js.length * 50 := by
  induction js with
  | nil => simp [totT]
  | cons j js ih =>
    rw [goodL_cons, Bool.and_eq_true] at hg
    have := job_of hg.1
    have ih := ih hg.2
    have e : totT (j :: js) = j.t + totT js := rfl
    rw [e, List.length_cons]; omega
theorem tot_take {js : List Job} {i : Nat} {y : Job} (hy : js[i]? = some y) : totT (js.take (i + 1)) = totT (js.take i) + y.t := by
  unfold totT; rw [take_succ' hy, List.map_append, List.sum_append]; simp
theorem good_take {js : List Job} (hg : goodL js = true) {i : Nat} : goodL (js.take i) = true := by
  rw [goodL, List.all_eq_true] at hg ⊢
  exact fun x hx => hg x (List.mem_of_mem_take hx)
theorem l2Times_run (J : Jobs h vj js) (hn : js.length ≤ 8) (hg : goodL js = true) : Ret P G n_spec_l2Times [vj] h (.int .i64 (totT js)) h := by
  refine enter_run e_spec_l2Times (by simp) ?_
  have Js := J
  obtain ⟨oj, cj, rfl⟩ := J.shapeT
  simp -implicitDefEqProofs
  refine R_loopO (fun m s h' => ∃ (i : Nat), i + m = js.length ∧ s = [(0, .slice oj js.length cj), (3, .int .i64 (totT (js.take i))), (4, .int .i64 i)] ∧ h' = h) (fun I hI m s h' => ?_) (n := js.length)
    ⟨0, Nat.zero_add _, by simp [totT], rfl⟩
  rintro ⟨i, hi, rfl, rfl⟩
  by_cases hlt : i < js.length
  · obtain ⟨y, hy, _⟩ := drop_at hlt
    have lj := load_J Js hy
    have tb := tot_bd (good_take hg (i := i))
    have jb := job_of (job_at hg hy)
    have tl : (js.take i).length ≤ 8 := by rw [List.length_take]; omega
    have w1 : IntKind.i64.wrap (totT (js.take i) + y.t) = totT (js.take (i + 1)) := by rw [tot_take hy, wrap_ok] <;> omega
    simp -implicitDefEqProofs [-indexAddrP_some, hlt, lj, w1, winc hlt (by omega)]
    exact ⟨m - 1, by omega, on hI ⟨i + 1, by omega, rfl, rfl⟩⟩
  · rw [List.take_of_length_le (by omega)]
    simp -implicitDefEqProofs [hlt]
theorem totalOf_run (J : Jobs h vj js) (hn : js.length ≤ 8) (hg : goodL js = true) : Ret P G n_impl_totalOf [vj] h (.int .i64 (totT js)) h := by
  refine enter_run e_impl_totalOf (by simp) ?_
  have Js := J
  obtain ⟨oj, cj, rfl⟩ := J.shapeT
  simp -implicitDefEqProofs
  refine R_loopO (fun m s h' => ∃ (i : Nat), i + m = js.length ∧ s = [(3, .int .i64 (totT (js.take i))), (6, .slice oj js.length cj), (7, .int .i64 js.length), (8, .int .i64 i)] ∧ h <+: h') (fun I hI m s h' => ?_) (n := js.length)
    ⟨0, Nat.zero_add _, by simp [totT], List.prefix_rfl⟩
  rintro ⟨i, hi, rfl, hp⟩
  by_cases hlt : i < js.length
  · obtain ⟨y, hy, _⟩ := drop_at hlt
    have lj := load_J (Js.pre hp) hy
    have tb := tot_bd (good_take hg (i := i))
    have jb := job_of (job_at hg hy)
    have tl : (js.take i).length ≤ 8 := by rw [List.length_take]; omega
    have w1 : IntKind.i64.wrap (totT (js.take i) + y.t) = totT (js.take (i + 1)) := by rw [tot_take hy, wrap_ok] <;> omega
    simp -implicitDefEqProofs [-indexAddrP_some, hlt, lj, w1, winc hlt (by omega)]
    exact ⟨m - 1, by omega, on hI ⟨i + 1, by omega, rfl, hp.trans (List.prefix_append ..)⟩⟩
  · rw [List.take_of_length_le (by omega)]
    simp -implicitDefEqProofs [hlt]
    exact gcP hp rfl
def ttV (js : List Job) : Int := if plOk js = true then totT js else 0
theorem implTotalTime_run (J : Jobs h vj js) (hl : js.length ≤ 2 ^ 40) : Ret P G n_impl_TotalTime [vj] h (.tuple #[.int .i64 (ttV js), .bool (plOk js)]) h := by
  refine enter_run e_impl_TotalTime (by simp) ?_
  have r1 := IsPlain_run J hl
  have Js := J
  obtain ⟨oj, cj, rfl⟩ := J.shapeT
  cases c1 : plOk js
  · simp -implicitDefEqProofs [CL_ret r1, c1, ttV]
  · have r2 := totalOf_run Js (plOk_of c1).1 (plOk_of c1).2.1
    simp -implicitDefEqProofs [CL_ret r1, c1, ttV, CL_ret r2]
end
end Go.Pm.PP

/- FnSetValues in the small machine. -/
set_option linter.unusedVariables false
set_option linter.unusedSimpArgs false
set_option maxRecDepth 4000
set_option maxHeartbeats 16000000
namespace Go.Pm.PP
open Go.Pm Go.Proofs Go.Pm.PE
section
variable {h0 h : Hp} {r n : Nat} {vc : Value} {L : List Asn}
end
/-! ### in plain terms -/
theorem ord_of_perm {n : Nat} {xs : List Int} (h : xs.Perm (upTo n)) : Ord n xs := ⟨by rw [h.length_eq, upTo_len], fun x hx => mem_upTo.1 (h.mem_iff.1 hx), h.nodup_iff.2 (upTo_nodup _)⟩
theorem back_best {js : List Job} {o : Int} (hok : setOk js o = true) : Ord js.length (backF o js) ∧ valX o js (backF o js) = gE (tabF o js) (fullC js) ∧ bestV o js = gE (tabF o js) (fullC js) := by
  rw [setOk, Bool.and_eq_true] at hok
  obtain ⟨hn, hg, _⟩ := plOk_of hok.1
  obtain ⟨ho8, ho1, ho4⟩ := sumB_of hok.2
  have p := plOk_pl hok.1
  have cb := good_cb hg hok.2
  obtain ⟨b1, b2, _⟩ := back_spec p cb (Int.le_refl 0) fullC_lt (n := fullC js) (Nat.le_refl (fullC js)) (Nat.le_refl _)
  have hbf : bitsL js.length (fullC js) = upTo js.length := bits_up
  rw [hbf] at b1
  have o1 : Ord js.length (backF o js) := ord_of_perm b1
  have v1 : valX o js (backF o js) = gE (tabF o js) (fullC js) := by
    unfold valX
    rw [val_sum ho1 ho4 (ord_prm o1)]
    exact b2
  refine ⟨o1, v1, ?_⟩
  obtain ⟨h1, h2, h3, h4⟩ := best_facts (f := valX o js) (n := js.length) hn
  have e : bestV o js = (bestR (valX o js) js.length).v := rfl
  have g1 := h4 _ o1
  have g2 := (tab_spec (o := o) (s := 0) p cb (Int.le_refl 0) (Nat.le_refl (fullC js)) fullC_lt).2 (bestR (valX o js) js.length).o (by rw [hbf]; exact ord_perm h3)
  have g3 : valX o js (bestR (valX o js) js.length).o = sumGo o js 0 (bestR (valX o js) js.length).o := val_sum ho1 ho4 (ord_prm h3)
  have g2 : gE (tabF o js) (fullC js) ≤ sumGo o js 0 (bestR (valX o js) js.length).o := g2
  rw [e]; omega
theorem tot_sum {js : List Job} : totT js = ((upTo js.length).map fun x => (jA js x).t).sum := by
  unfold totT upTo
  rw [List.map_map]
  have : js = (List.range js.length).map fun i => (js[i]?).getD ⟨0, 0, 0, 0⟩ := by
    apply List.ext_getElem?
    intro i
    rw [List.getElem?_map]
    rcases Nat.lt_or_ge i js.length with g | g
    · rw [List.getElem?_range g]; simp [List.getElem?_eq_getElem g]
    · rw [List.getElem?_eq_none g, List.getElem?_eq_none (by simpa using g)]; rfl
  conv => lhs; rw [this]
  rw [List.map_map]
  rfl
theorem end_tot {js : List Job} (hok : plOk js = true) {xs : List Int} (o : Ord js.length xs) : valX 1 js xs = totT js := by
  have p := plOk_pl hok
  unfold valX
  rw [val_end p.t (ord_prm o), nowGo_plain p (Int.le_refl 0), tot_sum, Int.zero_add, perm_time (ord_perm o)]
end Go.Pm.PP

/- FnFronts in the small machine. -/
set_option linter.unusedVariables false
set_option linter.unusedSimpArgs false
set_option maxRecDepth 4000
set_option maxHeartbeats 16000000
namespace Go.Pm.PP
open Go.Pm Go.Proofs Go.Pm.PE
theorem front_ne {f g : Int} {js : List Job} (hn : js.length ≤ 8) : 0 < (frontR f g js).length := by
  obtain ⟨q, hq, _⟩ := (front_facts (f := f) (g := g) hn).2.2 (upTo js.length) (ord_of_perm (List.Perm.refl _))
  exact List.length_pos_of_mem hq
section
variable {h0 h : Hp} {r n : Nat} {vc : Value} {L : List Asn}
theorem keepsR_gc {r : Option Nat} {u : Value} {h h' : Hp} (k : Keeps r h h') : Keeps r h (gc h h' u) := by
  rcases gc_cases h h' u with g | ⟨_, g⟩ <;> rw [g]
  · exact k
  · exact .refl
/-- The same, and nothing else is written. -/
theorem nextK_run (B : By h0 vc) (C : Cur h0 h r vc n L) (hn : n ≤ 2 ^ 50) : RunsC P G n_spec_l1Cur_next [.pointer (some ⟨r, 0, some 3⟩)] h fun v h' => ∃ x : Int, v = .int .i64 x ∧ 0 ≤ x ∧ x ≤ 255 ∧ Cur h0 h' r vc (n + 1) L ∧ Keeps (some r) h h' := by
  refine hideC fun K hK => enter_run e_spec_l1Cur_next (by simp) ?_
  have Cs := C
  obtain ⟨bs, Sb, hb, hl⟩ := B
  obtain ⟨a, s, a0, a1, H⟩ := C
  obtain ⟨ob, cb, rfl⟩ := Sb.shapeT
  have Sb' := Sb.pre H.pre
  have l1 := H.bl (P := P) 0 3 rfl rfl
  obtain ⟨h1, s1, H1, k1⟩ := H.set (P := P) 0 (n := 3) (o := 1) (ty := t_int) (w := .int .i64 (a + 1)) rfl rfl e_t_int (by simp) (by simp) (by simp)
  have l2 := H1.bl (P := P) 0 3 rfl rfl
  have wa : IntKind.i64.wrap (a + 1) = a + 1 := by rw [wrap_ok] <;> omega
  by_cases c1 : a < bs.length
  · obtain ⟨b, hbb, _⟩ := drop_at (show a.toNat < bs.length by omega)
    have lb := load_U Sb' hbb
    rw [show ((a.toNat : Nat) : Int) = a by omega] at lb
    have hb' := hb b (List.mem_of_getElem? hbb)
    have wb : IntKind.i64.wrap b = b := by rw [wrap_ok] <;> omega
    have c2 : a + 1 ≤ bs.length := by omega
    obtain ⟨h2, s2, H2, k2⟩ := H1.set (P := P) 0 (n := 3) (o := 2) (ty := t_u64) (w := .int .u64 (IntKind.u64.wrap (IntKind.u64.wrap (IntKind.u64.wrap (s * 6364136223846793005) + IntKind.u64.wrap b) + 462197))) rfl rfl e_t_u64 (by simp) (by simp) (by simp)
    have l3 := H2.bl (P := P) 0 3 rfl rfl
    simp -implicitDefEqProofs [-indexAddrP_some, l1, c1, lb, wb, wa, s1, l2, s2, l3, c2, cv1, cv2, cv3]
    exact onK hK ⟨b, rfl, hb'.1, hb'.2, Cs.gc ⟨a + 1, _, by omega, by omega, H2⟩, keepsR_gc (k1.trans k2)⟩
  · have c2 : ¬ a + 1 ≤ bs.length := by omega
    obtain ⟨h2, s2, H2, k2⟩ := H1.set (P := P) 0 (n := 3) (o := 2) (ty := t_u64) (w := .int .u64 (IntKind.u64.wrap (IntKind.u64.wrap (IntKind.u64.wrap (s * 6364136223846793005) + IntKind.u64.wrap 0) + 462197))) rfl rfl e_t_u64 (by simp) (by simp) (by simp)
    have l3 := H2.bl (P := P) 0 3 rfl rfl
    obtain ⟨z, hz⟩ := shr40 (IntKind.u64.wrap (IntKind.u64.wrap (IntKind.u64.wrap (s * 6364136223846793005) + IntKind.u64.wrap 0) + 462197))
    simp -implicitDefEqProofs [-indexAddrP_some, l1, c1, wa, s1, l2, s2, l3, c2, cv1, cv2, cv3, hz]
    exact onK hK ⟨_, rfl, (and_bd _).1, (and_bd _).2, Cs.gc ⟨a + 1, _, by omega, by omega, H2⟩, keepsR_gc (k1.trans k2)⟩
theorem pickK_run (B : By h0 vc) (C : Cur h0 h r vc n L) (hn : n ≤ 2 ^ 40) {k : Int} (hk : k ≤ 2 ^ 40) : RunsC P G n_spec_l1Cur_pick [.pointer (some ⟨r, 0, some 3⟩), .int .i64 k] h fun v h' => ∃ x : Int, v = .int .i64 x ∧ 0 ≤ x ∧ (1 ≤ k → x < k) ∧ Cur h0 h' r vc (n + 2) L ∧ Keeps (some r) h h' := by
  refine hideC fun K hK => enter_run e_spec_l1Cur_pick (by simp) ?_
  by_cases c0 : k ≤ 1
  · simp -implicitDefEqProofs [c0]
    exact onK hK ⟨0, rfl, by omega, fun h => by omega, C.mono (by omega), .refl⟩
  · simp -implicitDefEqProofs [c0]
    refine CL_post (nextK_run B C (by omega)) fun v h1 ⟨x, ev, x0, x1, C1, k1⟩ => ?_
    subst ev
    have k0 : ¬ k = 0 := by omega
    by_cases c1 : 200 < k
    · have w1 : IntKind.i64.wrap (x * 256) = x * 256 := by rw [wrap_ok] <;> omega
      simp -implicitDefEqProofs [c1, w1]
      refine CL_post (nextK_run B C1 (by omega)) fun v h2 ⟨y, ev, y0, y1, C2, k2⟩ => ?_
      subst ev
      have w2 : IntKind.i64.wrap (x * 256 + y) = x * 256 + y := by rw [wrap_ok] <;> omega
      have e : (x * 256 + y).tmod k = (x * 256 + y) % k := Int.tmod_eq_emod_of_nonneg (by omega)
      have m1 := Int.emod_nonneg (x * 256 + y) k0
      have m2 := Int.emod_lt_of_pos (x * 256 + y) (show 0 < k by omega)
      simp -implicitDefEqProofs [w2, k0, e]
      exact onK hK ⟨_, rfl, m1, fun _ => m2, C.gc C2, keepsR_gc (k1.trans k2)⟩
    · have e : x.tmod k = x % k := Int.tmod_eq_emod_of_nonneg x0
      have m1 := Int.emod_nonneg x k0
      have m2 := Int.emod_lt_of_pos x (show 0 < k by omega)
      simp -implicitDefEqProofs [c1, k0, e]
      exact onK hK ⟨_, rfl, m1, fun _ => m2, C.gc (C1.mono (by omega)), keepsR_gc k1⟩
end
theorem DrawIsUndominated_run {h : Hp} {vc : Value} (B : By h vc) : RunsC P G n_spec_DrawIsUndominated [vc] h fun v h' => h <+: h' ∧ ∃ (js : List Job) (xs : List Int) (f g : Int) (u w : Value), v = .tuple #[u, w, .int .i64 f, .int .i64 g] ∧ js.length ≤ 9 ∧ xs.length ≤ 10 ∧ Jobs h' u js ∧ Ints h' w xs := by
  refine hideC fun K hK => enter_run e_spec_DrawIsUndominated (by simp) ?_
  have C0 : Cur h (h ++ [some ⟨[vc, .int .i64 0, .int .u64 0], 0, false⟩]) h.length vc 0 [] := ⟨0, 0, by omega, by omega, (Holds.start (h := h)).alloc _⟩
  obtain ⟨bs, Sb, hb, hbl⟩ := B
  have Bs : By h vc := ⟨bs, Sb, hb, hbl⟩
  obtain ⟨ob, cb, rfl⟩ := Sb.shapeT
  simp -implicitDefEqProofs
  refine CL_post (one_run Bs C0 (by omega) (k := 3) (by omega)) fun v h1 ⟨b, ev, C1⟩ => ?_
  subst ev
  simp -implicitDefEqProofs
  refine CL_post (someJobs_run Bs C1 (by omega) (b := b) (most := 5) (by omega)) fun u h2 ⟨js, hl, C2⟩ => ?_
  obtain ⟨ua, uc, rfl⟩ : ∃ a c, u = .slice a js.length c := C2.seesJ.shapeT
  simp -implicitDefEqProofs
  refine CL_post (order_run Bs C2 (by omega) (N := js.length) (by omega)) fun w h3 ⟨xs, hl3, C3⟩ => ?_
  obtain ⟨wa, wc, rfl⟩ : ∃ a c, w = .slice a xs.length c := C3.seesI.shapeT
  simp -implicitDefEqProofs
  refine CL_post (objective_run Bs C3 (by omega)) fun v h4 ⟨f, ev, C4⟩ => ?_
  subst ev
  simp -implicitDefEqProofs
  refine CL_post (objective_run Bs C4 (by omega)) fun v h5 ⟨g, ev, C5⟩ => ?_
  subst ev
  have J5 := C5.weak.seesJ
  have fin : ∀ {w : Value} {ys : List Int} {h9 : Hp}, h5 <+: h9 → ys.length ≤ 10 → Ints h9 w ys → K (.tuple #[.slice ua js.length uc, w, .int .i64 f, .int .i64 g]) (gc h h9 (.tuple #[.slice ua js.length uc, w, .int .i64 f, .int .i64 g])) := fun {w ys h9} hp hy W => by
    have := gc_JX (r := [.int .i64 f, .int .i64 g]) (C5.pre.trans hp) (J5.pre hp) W
    exact onK hK ⟨this.1, js, ys, f, g, _, _, rfl, hl, hy, this.2⟩
  have rg := good_run J5 (by omega)
  cases c1 : jOk js
  · rw [c1] at rg
    simp -implicitDefEqProofs [CL_ret rg]
    exact fin List.prefix_rfl (by omega) C5.seesI
  rw [c1] at rg
  cases c2 : (inB f 1 8 && inB g 1 8)
  · simp -implicitDefEqProofs [CL_ret rg, CL_ret l11Two_run, c2]
    exact fin List.prefix_rfl (by omega) C5.seesI
  have hok : aTwo js f g = true := by rw [aTwo_eq, c1, c2]; rfl
  obtain ⟨hn, hg, hf, hg8⟩ := aTwo_of hok
  simp -implicitDefEqProofs [CL_ret rg, CL_ret l11Two_run, c2]
  refine CL_post (one_run Bs C5 (by omega) (k := 2) (by omega)) fun v h6 ⟨b6, ev, C6⟩ => ?_
  subst ev
  have J6 := C6.weak.seesJ
  have fin6 : ∀ {w : Value} {ys : List Int} {h9 : Hp}, h6 <+: h9 → ys.length ≤ 10 → Ints h9 w ys → K (.tuple #[.slice ua js.length uc, w, .int .i64 f, .int .i64 g]) (gc h h9 (.tuple #[.slice ua js.length uc, w, .int .i64 f, .int .i64 g])) := fun {w ys h9} hp hy W => by
    have := gc_JX (r := [.int .i64 f, .int .i64 g]) (C6.pre.trans hp) (J6.pre hp) W
    exact onK hK ⟨this.1, js, ys, f, g, _, _, rfl, hl, hy, this.2⟩
  cases b6
  · simp -implicitDefEqProofs
    exact fin6 List.prefix_rfl (by omega) C6.seesI
  simp -implicitDefEqProofs
  refine CL_post (l11Front_run (f := f) (g := g) J6 hg hn hf hg8) fun w7 h7 ⟨hp7, hF, S7⟩ => ?_
  have hpos := front_ne (f := f) (g := g) hn
  have ff := (front_facts (f := f) (g := g) hn).2.1
  have hFl := hF.len
  generalize frontR f g js = F at *
  obtain ⟨fa, fc, rfl⟩ : ∃ a c, w7 = .slice a F.length c := S7.shapeT
  have C7 : Cur h h7 h.length (.slice ob bs.length cb) (0 + 1000) ([.own (.slice ua js.length uc) 4 (js.map encJ)]) := by
    obtain ⟨a, s, a0, a1, H⟩ := C6.weak
    exact ⟨a, s, a0, by omega, H.ext hp7⟩
  simp -implicitDefEqProofs
  refine CL_post (pickK_run Bs C7 (by omega) (k := F.length) (by omega)) fun v h8 ⟨x, ev, x0, x1, C8, k8⟩ => ?_
  subst ev
  obtain ⟨k, rfl⟩ : ∃ k : Nat, x = k := ⟨x.toNat, by omega⟩
  have hk : k < F.length := by have := x1 (by omega); omega
  have hbox : ∃ cs, h7[h.length]? = some (some ⟨cs, 0, false⟩) := by
    obtain ⟨a, s, _, _, H⟩ := C7
    exact ⟨_, H.box 0 rfl⟩
  obtain ⟨cs, hbox⟩ := hbox
  have S8 : Prs h8 (.slice fa F.length fc) F := Sees.boxK S7 (by omega) hbox k8
  obtain ⟨q, hq, _⟩ := drop_at hk
  have lq := load_Q S8 hq
  have J8 : Jobs h8 (.slice ua js.length uc) js := by
    obtain ⟨a, s, _, _, H⟩ := C8
    exact H.sees 1 rfl
  have nilI : Ints h8 (.slice none 0 0) [] := ⟨by simp, none, 0, rfl, .inl ⟨rfl, rfl, rfl⟩⟩
  have r := l11First_run (p := q) hg hn hf hg8 (k := js.length) J8 nilI (by simp) (fun x hx => by cases hx) List.nodup_nil
  obtain ⟨o, ho, oo, _⟩ := first_some (ff q (List.mem_of_getElem? hq))
  rw [first_ffs, ho] at r
  simp -implicitDefEqProofs [-indexAddrP_some, lq]
  refine CL_post r fun w h9 ⟨hp9, a9, n9, c9, ew, hs⟩ => ?_
  subst ew
  have So := hs o rfl
  simp -implicitDefEqProofs
  have hh9 : h <+: h9 := C8.pre.trans hp9
  have := gc_JX (r := [.int .i64 f, .int .i64 g]) hh9 (J8.pre hp9) So
  exact onK hK ⟨this.1, js, o, f, g, _, _, rfl, hl, by rw [oo.len]; omega, this.2⟩
end Go.Pm.PP

/- FnFronts. -/
set_option linter.unusedVariables false
set_option linter.unusedSimpArgs false
set_option maxRecDepth 4000
set_option maxHeartbeats 16000000
namespace Go.Pm.PP
open Go.Pm Go.Proofs Go.Pm.PE
theorem rPairs_run {h : Hp} {v u : Value} {ps : List (Int × Int)} (hv : Prs h v ps) (hu : Prs h u ps) (hx : ps.length ≤ 2 ^ 40) : Ret P G n_laws_rPairs [v, u] h (.bool true) h := by
  refine enter_run e_laws_rPairs (by simp) ?_
  have hvs := hv
  have hus := hu
  obtain ⟨oa, c, rfl⟩ := hv.shapeT
  obtain ⟨ob, c', rfl⟩ := hu.shapeT
  simp -implicitDefEqProofs
  refine R_loopO (fun m s h' => ∃ i : Nat, i + m = ps.length ∧ s = [(0, .slice oa ps.length c), (1, .slice ob ps.length c'), (5, .int .i64 i)] ∧ h' = h) (fun I hI m s h' => ?_) (n := ps.length) ⟨0, Nat.zero_add _, by simp, rfl⟩
  rintro ⟨i, hi, rfl, rfl⟩
  by_cases hlt : i < ps.length
  · obtain ⟨p, hp, _⟩ := drop_at hlt
    simp -implicitDefEqProofs [-indexAddrP_some, hlt, load_Q hvs hp, load_Q hus hp, eqA2, winc hlt hx]
    exact ⟨m - 1, by omega, on hI ⟨i + 1, by omega, rfl, rfl⟩⟩
  · simp -implicitDefEqProofs [hlt]
/-! ### in plain terms -/
theorem srt_at {F : List Pt} (h : Srt F) {i j : Nat} {p q : Pt} (hi : F[i]? = some p) (hj : F[j]? = some q) (hl : i < j) : p.1 < q.1 ∧ q.2 < p.2 := by
  obtain ⟨a, ea⟩ := List.getElem?_eq_some_iff.1 hi
  obtain ⟨b, eb⟩ := List.getElem?_eq_some_iff.1 hj
  have := List.pairwise_iff_getElem.1 h i j a b hl
  rw [ea, eb] at this
  exact this
theorem front_ends {f g : Int} {js : List Job} (hn : js.length ≤ 8) : ∃ a b, (frontR f g js)[0]? = some a ∧ (frontR f g js)[(frontR f g js).length - 1]? = some b ∧ a.1 = bestV f js ∧ b.2 = bestV g js := by
  have hp := front_ne (f := f) (g := g) hn
  obtain ⟨hs, hm, hc⟩ := front_facts (f := f) (g := g) hn
  obtain ⟨a, ha, _⟩ := drop_at hp
  obtain ⟨b, hb, _⟩ := drop_at (show (frontR f g js).length - 1 < (frontR f g js).length by omega)
  refine ⟨a, b, ha, hb, ?_, ?_⟩
  · obtain ⟨_, e, oo, hle⟩ := best_facts (f := valX f js) (n := js.length) hn
    obtain ⟨q, hq, h1, _⟩ := hc _ oo
    rw [e] at h1
    obtain ⟨xs, ox, ex⟩ := hm a (List.mem_of_getElem? ha)
    have h2 := hle xs ox
    have h3 : a.1 = valX f js xs := by rw [← ex]; rfl
    obtain ⟨k, hk⟩ := List.getElem?_of_mem hq
    have h4 : a.1 ≤ q.1 := by
      rcases Nat.eq_zero_or_pos k with rfl | g
      · rw [ha] at hk; cases hk; exact Int.le_refl _
      · exact Int.le_of_lt (srt_at hs ha hk g).1
    show a.1 = (bestR (valX f js) js.length).v
    omega
  · obtain ⟨_, e, oo, hle⟩ := best_facts (f := valX g js) (n := js.length) hn
    obtain ⟨q, hq, _, h1⟩ := hc _ oo
    rw [e] at h1
    obtain ⟨xs, ox, ex⟩ := hm b (List.mem_of_getElem? hb)
    have h2 := hle xs ox
    have h3 : b.2 = valX g js xs := by rw [← ex]; rfl
    obtain ⟨k, hk⟩ := List.getElem?_of_mem hq
    have hk1 := (List.getElem?_eq_some_iff.1 hk).1
    have h4 : b.2 ≤ q.2 := by
      by_cases g : k = (frontR f g js).length - 1
      · subst g; rw [hb] at hk; cases hk; exact Int.le_refl _
      · exact Int.le_of_lt (srt_at hs hk hb (by omega)).2
    show b.2 = (bestR (valX g js) js.length).v
    omega
def belB (p q : Pt) : Bool := decide (q.1 ≤ p.1) && decide (q.2 ≤ p.2)
theorem law_Fronts {h : Hp} {vc : Value} {bs : List Int} (Sb : Sees h vc 1 (bs.map encU)) (hb : ∀ b, b ∈ bs → 0 ≤ b ∧ b ≤ 255) : Ret P G n_laws_FnFronts [vc] h (.bool true) h := by
  refine enter_run e_laws_FnFronts (by simp) ?_
  have r0 := rBig_run Sb
  by_cases c0 : (65536 : Int) < bs.length
  · simp -implicitDefEqProofs [CL_ret r0, c0]
  have B : By h vc := ⟨bs, Sb, hb, by omega⟩
  obtain ⟨ob, cb, rfl⟩ := Sb.shapeT
  simp -implicitDefEqProofs [CL_ret r0, c0]
  refine CL_post (DrawIsUndominated_run B) fun v h1 ⟨hp1, js, xs, f, g, u, w, ev, hjl, hxl, J, X⟩ => ?_
  subst ev
  have l1 : js.length ≤ 2 ^ 40 := by omega
  have l2 : xs.length ≤ 2 ^ 40 := by omega
  have Js := J
  have Xs := X
  obtain ⟨ja, jc, rfl⟩ := J.shapeT
  obtain ⟨xa, xc, rfl⟩ := X.shapeT
  simp -implicitDefEqProofs
  refine CL_post (implFrontOf_run (f := f) (g := g) Js l1) fun v h2 ⟨hp2, d1, ev, D1, hF⟩ => ?_
  subst ev
  simp -implicitDefEqProofs
  refine CL_post (specFrontOf_run (f := f) (g := g) (Js.pre hp2) l1) fun v h3 ⟨hp3, d2, ev, D2, _⟩ => ?_
  subst ev
  have hFl := hF.len
  have D1s := D1.pre hp3
  have q1 := rPairs_run D1s D2 (by omega)
  have p13 := hp2.trans hp3
  have Js3 := Js.pre p13
  have Xs3 := Xs.pre p13
  have r1 := implIsUndominated_run (f := f) (g := g) Js3 Xs3 l1 l2
  have r2 := specIsUndominated_run (f := f) (g := g) Js3 Xs3 l1 l2
  generalize hFV : frV js f g = F at *
  obtain ⟨da, dc, rfl⟩ : ∃ a c, d1 = .slice a F.length c := D1.shapeT
  obtain ⟨db, de, rfl⟩ : ∃ a c, d2 = .slice a F.length c := D2.shapeT
  simp -implicitDefEqProofs [CL_ret q1, CL_ret r1, CL_ret r2]
  refine CL_post (implPointOf_run (f := f) (g := g) Js3 Xs3 l1 l2) fun v h4 ⟨hp4, ev⟩ => ?_
  subst ev
  generalize hP : ptV js xs f g = pt at *
  have H4 := (Holds.start (h := h4)).alloc [.int .i64 pt.1, .int .i64 pt.2]
  simp -implicitDefEqProofs
  refine CL_post (specPointOf_run (f := f) (g := g) (Js3.pre (hp4.trans H4.pre)) (Xs3.pre (hp4.trans H4.pre)) l1 l2) fun v h5 ⟨hp5, ev⟩ => ?_
  rw [hP] at ev
  subst ev
  have H5 := (H4.ext hp5).alloc [.int .i64 pt.1, .int .i64 pt.2]
  have lp1 := H5.bl (P := P) 0 2 rfl rfl t_A2_int 0
  have lp2 := H5.bl (P := P) 1 2 rfl rfl t_A2_int 0
  have hall : h <+: h5 ++ [some ⟨[.int .i64 pt.1, .int .i64 pt.2], 0, false⟩] := hp1.trans (p13.trans (hp4.trans H5.pre))
  have eu : undB js xs f g = (aTwo js f g && l2OrderL js.length xs) := rfl
  rw [eu]
  cases c1 : aTwo js f g
  · simp -implicitDefEqProofs [lp1, lp2, eqA2]
    exact gcP hall rfl
  rw [frV, c1, if_pos rfl] at hFV
  obtain ⟨hn, hg, hf, hg8⟩ := aTwo_of c1
  obtain ⟨hs, hm, hc⟩ := front_facts (f := f) (g := g) hn
  obtain ⟨fa, fb, ea, eb, va, vb⟩ := front_ends (f := f) (g := g) hn
  have hpos := front_ne (f := f) (g := g) hn
  rw [hFV] at hs hm hc ea eb hpos
  have J5 := Js3.pre (hp4.trans H5.pre)
  have D5 := D1s.pre (hp4.trans H5.pre)
  have jok : jOk js = true := by have := c1; rw [aTwo_eq, Bool.and_eq_true] at this; exact this.1
  have okf : okB js f = true := by rw [okB, jok]; simp [inB]; omega
  have okg : okB js g = true := by rw [okB, jok]; simp [inB]; omega
  have bf := fun {h : Hp} {vj : Value} (J : Jobs h vj js) => rBest_run (o := f) J l1
  have bg := fun {h : Hp} {vj : Value} (J : Jobs h vj js) => rBest_run (o := g) J l1
  rw [bR_v okf] at bf
  rw [bR_v okg] at bg
  generalize hT : l2OrderL js.length xs = two at *
  rw [hFV]
  simp -implicitDefEqProofs [lp1, lp2, eqA2]
  generalize h5 ++ [some ⟨[.int .i64 pt.1, .int .i64 pt.2], 0, false⟩] = h6 at *
  refine R_loopO (fun m s h' => ∃ i : Nat, 1 ≤ i ∧ i + m = F.length ∧ s = [(3, .slice ja js.length jc), (5, .int .i64 f), (6, .int .i64 g), (7, .slice da F.length dc), (11, .bool (two && hasPt F (ptX f g js xs))), (15, .pointer (some ⟨h4.length, 0, some 2⟩)), (16, .bool two), (19, .int .i64 i)] ∧ h' = h6) (fun I hI m s h6 => ?_) (n := F.length - 1) ⟨1, by omega, by omega, by simp, rfl⟩
  rintro ⟨i, hi1, hi, rfl, rfl⟩
  by_cases hlt : i < F.length
  · obtain ⟨p, hp, _⟩ := drop_at hlt
    obtain ⟨q, hq, _⟩ := drop_at (show i - 1 < F.length by omega)
    have lt := srt_at hs hq hp (by omega)
    have wi : IntKind.i64.wrap ((i : Int) - 1) = ((i - 1 : Nat) : Int) := by rw [wrap_ok] <;> omega
    have n1 : ¬ p.1 ≤ q.1 := by omega
    have n2 : ¬ q.2 ≤ p.2 := by omega
    simp -implicitDefEqProofs [-indexAddrP_some, hlt, wi, load_Q D5 hp, load_Q D5 hq, ia20, ia21, n1, n2, winc hlt (by omega)]
    exact ⟨m - 1, by omega, on hI ⟨i + 1, by omega, by omega, rfl, rfl⟩⟩
  simp -implicitDefEqProofs [hlt]
  refine R_loopO (fun m s h' => ∃ i : Nat, i + m = F.length ∧ s = [(3, .slice ja js.length jc), (5, .int .i64 f), (6, .int .i64 g), (7, .slice da F.length dc), (11, .bool (two && hasPt F (ptX f g js xs))), (15, .pointer (some ⟨h4.length, 0, some 2⟩)), (16, .bool two), (20, .int .i64 i)] ∧ h6 <+: h') (fun I hI m s h' => ?_) (n := F.length) ⟨0, by omega, by simp, List.prefix_rfl⟩
  rintro ⟨i, hi, rfl, hpx⟩
  by_cases hlt : i < F.length
  · obtain ⟨p, hp, _⟩ := drop_at hlt
    obtain ⟨o, ho, oo, eo⟩ := first_some (hm p (List.mem_of_getElem? hp))
    simp -implicitDefEqProofs [hlt]
    refine CL_post (implFrontOrder_run (f := f) (g := g) (k := i) (J5.pre hpx) l1 c1 (P0 := p) (by rw [hFV]; exact hp)) fun v h7 ⟨hp7, d7, ev, D7⟩ => ?_
    subst ev
    rw [ho] at D7
    have D7s : Ints h7 d7 o := D7
    obtain ⟨ya, yc, rfl⟩ : ∃ a c, d7 = .slice a o.length c := D7s.shapeT
    have olen : o.length ≤ 2 ^ 40 := by rw [oo.len]; exact l1
    simp -implicitDefEqProofs
    refine CL_post (implPointOf_run (f := f) (g := g) (J5.pre (hpx.trans hp7)) D7s l1 olen) fun v h8 ⟨hp8, ev⟩ => ?_
    subst ev
    have ep : ptV js o f g = p := by rw [ptV, c1, ord_ok hn oo]; exact eo
    rw [c1, ord_ok hn oo, ep]
    have H8 := (Holds.start (h := h8)).alloc [.int .i64 p.1, .int .i64 p.2]
    have p9 := hpx.trans (hp7.trans (hp8.trans H8.pre))
    simp -implicitDefEqProofs
    refine CL_post (specFrontOrder_run (f := f) (g := g) (k := i) (J5.pre p9) l1 c1 (P0 := p) (by rw [hFV]; exact hp) ho) fun v h9 ⟨hp9, d9, ev, D9⟩ => ?_
    subst ev
    obtain ⟨za, zc, rfl⟩ : ∃ a c, d9 = .slice a o.length c := D9.shapeT
    have H9 := H8.ext hp9
    have lb := H9.bl (P := P) 0 2 rfl rfl t_A2_int 0
    have ri := rInts_run (D7s.pre (hp8.trans H9.pre)) D9 olen
    have lq := load_Q (D5.pre (p9.trans hp9)) hp
    simp -implicitDefEqProofs [-indexAddrP_some, CL_ret ri, CH_at ri, lb, lq, eqA2, winc hlt (by omega)]
    exact ⟨m - 1, by omega, on hI ⟨i + 1, by omega, rfl, p9.trans hp9⟩⟩
  have rbf := bf (J5.pre hpx)
  have rbg := bg (J5.pre hpx)
  have lqa := load_Q (D5.pre hpx) ea
  have lqb := load_Q (D5.pre hpx) eb
  have wl : IntKind.i64.wrap ((F.length : Int) - 1) = ((F.length - 1 : Nat) : Int) := by rw [wrap_ok] <;> omega
  have nz : ((F.length : Int) == 0) = false := nb (by omega)
  have nz' : ¬ F.length = 0 := by omega
  have lqa' : indexAddrP P h' t_S_A2_int (.slice da F.length dc) (.int .i64 0) = _ := lqa.1
  have hx0 : h <+: h' := hall.trans hpx
  cases two
  · simp -implicitDefEqProofs [-indexAddrP_some, hlt, CL_ret rbf, CL_ret rbg, nz, nz', lqa', lqa, wl, lqb, ia20, ia21, va, vb]
    exact gcP hx0 rfl
  have ox : Ord js.length xs := ord_of hT
  have ept : ptX f g js xs = pt := by rw [← hP, ptV, c1, hT]; rfl
  rw [ept]
  simp -implicitDefEqProofs [-indexAddrP_some, hlt, CL_ret rbf, CL_ret rbg, nz, nz', lqa', lqa, wl, lqb, ia20, ia21, va, vb]
  refine R_loopO (fun m s h9 => ∃ (i : Nat) (b : Bool), i + m = F.length ∧ s = [(7, .slice da F.length dc), (11, .bool (hasPt F pt)), (15, .pointer (some ⟨h4.length, 0, some 2⟩)), (31, .bool b), (32, .int .i64 i)] ∧ b = (F.take i).any (belB pt) ∧ h9 = h') (fun I hI m s h9 => ?_) (n := F.length) ⟨0, false, by omega, by simp, rfl, rfl⟩
  rintro ⟨i, b, hi, rfl, eb', rfl⟩
  by_cases hlt : i < F.length
  · obtain ⟨p, hp, _⟩ := drop_at hlt
    have lq := load_Q (D5.pre hpx) hp
    have en : (F.take (i + 1)).any (belB pt) = (b || belB pt p) := by rw [take_succ' hp, List.any_append, eb']; simp
    have lpx := (H5.ext hpx).bl (P := P) 0 2 rfl rfl
    have hno : sameB p pt = true → hasPt F pt = true := fun hs' => by
      rw [sameB_iff] at hs'
      subst hs'
      exact hasPt_iff.2 (List.mem_of_getElem? hp)
    have fin : ∀ b' : Bool, b' = (F.take (i + 1)).any (belB pt) → (I (m - 1) [(7, .slice da F.length dc), (11, .bool (hasPt F pt)), (15, .pointer (some ⟨h4.length, 0, some 2⟩)), (31, .bool b'), (32, .int .i64 ((i + 1 : Nat) : Int))] h9) := fun b' e => on hI ⟨i + 1, b', by omega, rfl, e, rfl⟩
    rw [en] at fin
    unfold belB at fin
    clear en eb'
    generalize hasPt F pt = hs2 at *
    cases cs' : sameB p pt
    case' true => rw [hno cs'] at fin ⊢
    all_goals
      cases b
      · by_cases a1 : p.1 ≤ pt.1
        · by_cases a2 : p.2 ≤ pt.2
          · simp -implicitDefEqProofs [-indexAddrP_some, hlt, lq, lpx, ia20, ia21, eqPt, cs', a1, a2, winc hlt (by omega)]
            exact ⟨m - 1, by omega, fin _ (by simp [a1, a2])⟩
          · simp -implicitDefEqProofs [-indexAddrP_some, hlt, lq, lpx, ia20, ia21, eqPt, cs', a1, a2, winc hlt (by omega)]
            exact ⟨m - 1, by omega, fin _ (by simp [a1, a2])⟩
        · simp -implicitDefEqProofs [-indexAddrP_some, hlt, lq, lpx, ia20, ia21, eqPt, cs', a1, winc hlt (by omega)]
          exact ⟨m - 1, by omega, fin _ (by simp [a1])⟩
      · simp -implicitDefEqProofs [-indexAddrP_some, hlt, lq, lpx, ia20, ia21, eqPt, cs', winc hlt (by omega)]
        exact ⟨m - 1, by omega, fin _ (by simp)⟩
  rw [List.take_of_length_le (by omega)] at eb'
  have ebt : b = true := by
    obtain ⟨q, hq, a1, a2⟩ := hc xs ox
    rw [eb', List.any_eq_true]
    refine ⟨q, hq, ?_⟩
    rw [← ept, belB, Bool.and_eq_true, decide_eq_true_eq, decide_eq_true_eq]
    exact ⟨a1, a2⟩
  subst ebt
  simp -implicitDefEqProofs [hlt]
  exact gcP hx0 rfl
end Go.Pm.PP

/- Best orders: exchanging downwards. -/
set_option linter.unusedVariables false
set_option linter.unusedSimpArgs false
set_option maxRecDepth 4000
set_option maxHeartbeats 8000000
namespace Go.Pm.PP
open Go.Pm Go.Proofs Go.Pm.PE
/-- As many exchanges as there can be. -/
def FD : Nat := 2147483649
def dnR (js : List Job) (xs : List Int) (o : Int) : List Int × Nat := if okV js xs o = true then down (valX o js) FD xs else ([], 0)
section
variable {h : Hp} {v u : Value} {js : List Job} {xs : List Int} {o : Int}
theorem down_none {f : List Int → Int} {m : Nat} {xs : List Int} (e : nxt f xs = none) : down f m xs = (xs, 0) := by
  cases m with
  | zero => rfl
  | succ m => rw [down, e]
theorem down_some {f : List Int → Int} {m i : Nat} {xs : List Int} (e : nxt f xs = some i) : down f (m + 1) xs = ((down f m (swp xs i)).1, (down f m (swp xs i)).2 + 1) := by
  rw [down, e]
end
end Go.Pm.PP

/- FnBestOrders in the small machine. -/
set_option linter.unusedVariables false
set_option linter.unusedSimpArgs false
set_option maxRecDepth 4000
set_option maxHeartbeats 8000000
namespace Go.Pm.PP
open Go.Pm Go.Proofs Go.Pm.PE
end Go.Pm.PP

/- A code of bytes as an argument, opened as a row. -/
set_option linter.unusedVariables false
set_option linter.unusedSimpArgs false
set_option maxRecDepth 4000
namespace Go.Pm
open Go.ChangeShapes Go.WideShapes
section
variable {P : Program} {H : Type} {enc : TypeId × Value → H} {w : World} {base : Nat} {held : Bool}
theorem flat_encU (xs : List Int) : (xs.map PP.encU).flatten = xs.map fun x => .int .u8 x := by
  induction xs with
  | nil => rfl
  | cons x xs ih => rw [List.map_cons, List.flatten_cons, ih]; rfl
/-- A slice of bytes. -/
theorem shows_bytes {t e : TypeId} {fuel : Nat} {v : Value} {x : DataW H × List MemPlace} (ht : P.underlying t = some (.slice e)) (he : P.underlying e = some (.int .u8)) (hc : P.cellsOf e = 1)
    (hd : DataW.trod enc P w base (fun _ => true) held fuel t [v] = some x) : ∃ xs : List Int, xs.length ≤ maxLen ∧ (∀ b, b ∈ xs → (Lit.int .u8 b).wf = true) ∧ ∀ (ρ : Mp) (h : Hp), Shows ρ h w 1 (xs.map PP.encU) v := by
  rcases open_ints ht he hc hd with ⟨h1, _⟩ | ⟨a, len, cap, zs, h1, _, hl, hm, hz, _, hcell, hwf⟩
  · cases h1
    exact ⟨[], by simp, by simp, fun ρ h => .inl ⟨rfl, rfl⟩⟩
  · cases h1
    simp only [if_true] at hz
    have hlen : (zs.take len).length = len := by rw [List.length_take]; omega
    refine ⟨zs.take len, by omega, fun b hb => hwf b (List.mem_of_mem_take hb), fun ρ h => .inr ⟨a, cap, by rw [List.length_map, hlen], by rw [List.length_map, hlen]; exact hl, ?_, fun k c hk => ?_⟩⟩
    · rcases Nat.eq_zero_or_pos cap with h0 | h0
      · exact .inl h0
      · right
        have := hcell 0 (by omega)
        unfold World.cell? at this
        simp only [Addr.add, if_true] at this
        cases hs : a.spot with
        | none => rfl
        | some s =>
          rw [hs] at this
          split at this <;> simp at this
    · rw [flat_encU, List.getElem?_map] at hk
      obtain ⟨z, hz2, rfl⟩ := Option.map_eq_some_iff.1 hk
      have hk1 := (List.getElem?_eq_some_iff.1 hz2).1
      rw [List.getElem?_take, if_pos (by omega)] at hz2
      refine ⟨_, hcell k (by omega), ?_⟩
      rw [List.getD_eq_getElem?_getD, hz2]
      exact .int _ _
end
end Go.Pm
namespace Go.Pm.PP
open Go.Pm Go.Proofs
theorem follows : P.follows .mixedOrders = true := by kernel_rfl
theorem cells_u8 : P.cellsOf t_u8 = 1 := by kernel_rfl
theorem byte_of {b : Int} (h : (Lit.int .u8 b).wf = true) : 0 ≤ b ∧ b ≤ 255 := by
  simp [Lit.wf, IntKind.min, IntKind.max, IntKind.signed, IntKind.bits] at h
  omega
section
variable {H : Type} {enc : TypeId × Value → H} {W : World} {ρ : Mp} {h : Hp} {v : Value} {n0 : Nat} {x0 : DataW H × List MemPlace}
theorem open_bytes (R : Rel ρ h W) (ha : AllRo h) (d0 : DataW.trod enc P W 0 (fun _ => true) true n0 t_S_u8 [v] = some x0) :
    ∃ (h2 : Hp) (ρ2 : Mp) (p : Value) (xs : List Int), h <+: h2 ∧ Rel ρ2 h2 W ∧ AllRo h2 ∧ Step ρ h ρ2 h2 ∧ VR ρ2 h2 p v ∧ Sees h2 p 1 (xs.map encU) ∧ ∀ b, b ∈ xs → 0 ≤ b ∧ b ≤ 255 := by
  obtain ⟨xs, l0, hw, s0⟩ := shows_bytes (P := P) (v := v) u_S_u8 u_u8 cells_u8 d0
  obtain ⟨h2, ρ2, p, q, R2, a2, t, r, N⟩ := add_slice (w := W) (len_U xs) R ha (s0 ρ h)
  exact ⟨h2, ρ2, p, xs, q, R2, a2, t, r, N, fun b hb => byte_of (hw b hb)⟩
end
end Go.Pm.PP
