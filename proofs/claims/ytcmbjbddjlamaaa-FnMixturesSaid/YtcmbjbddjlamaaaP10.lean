/- The texts PvFd, PvFe, PvFh, PvFi, PvFk, PvFl, PvFj, PvSf of this work: Fronts: what both export. -/
import Derived.Test.YtcmbjbddjlamaaaP9
import Derived.Test.YtcmbjbddjlamaaaP8
/- Fronts: what both export. -/
set_option linter.unusedVariables false
set_option linter.unusedSimpArgs false
set_option maxRecDepth 4000
set_option maxHeartbeats 16000000
namespace Go.Pm.PP
open Go.Pm Go.Proofs Go.Pm.PE
def frV (js : List Job) (f g : Int) : List Pt := if aTwo js f g = true then frontR f g js else []
def hasPt (F : List Pt) (p : Pt) : Bool := F.any fun q => sameB q p
theorem hasPt_iff {F : List Pt} {p : Pt} : hasPt F p = true ↔ p ∈ F := by
  unfold hasPt
  rw [List.any_eq_true]
  constructor
  · rintro ⟨q, hq, h⟩; rw [sameB_iff] at h; subst h; exact hq
  · intro h; exact ⟨p, h, sameB_iff.2 rfl⟩
section
variable {h : Hp} {vj v u : Value} {js : List Job} {xs : List Int} {f g : Int}
theorem implFrontOf_run (J : Jobs h vj js) (hl : js.length ≤ 2 ^ 40) : RunsC P G n_impl_FrontOf [vj, .int .i64 f, .int .i64 g] h fun w h' => h <+: h' ∧ ∃ d, w = .tuple #[d, .bool (aTwo js f g)] ∧ Prs h' d (frV js f g) ∧ FOk (frV js f g) := by
  refine hideC fun K hK => enter_run e_impl_FrontOf (by simp) ?_
  have r1 := areTwo_run (f := f) (g := g) J hl
  have Js := J
  obtain ⟨oj, cj, rfl⟩ := J.shapeT
  cases c1 : aTwo js f g
  · rw [frV, c1] at hK
    simp -implicitDefEqProofs [CL_ret r1, c1]
    exact onK hK ⟨List.prefix_rfl, _, rfl, ⟨by simp, none, 0, rfl, .inl ⟨rfl, rfl, rfl⟩⟩, FOk.nil⟩
  · obtain ⟨hn, hg, hf, hg8⟩ := aTwo_of c1
    rw [frV, c1, if_pos rfl] at hK
    simp -implicitDefEqProofs [CL_ret r1, c1]
    refine CL_post (frontOf_run (f := f) (g := g) Js hg hn hf hg8) fun w h1 ⟨hp1, hF, S1⟩ => ?_
    simp -implicitDefEqProofs
    exact onK hK ⟨pre_gcU hp1, _, rfl, Sees.gcU S1 fun g => plainT (r := [_]) g, hF⟩
theorem aTwo_eq {js : List Job} {f g : Int} : aTwo js f g = (jOk js && (inB f 1 8 && inB g 1 8)) := by unfold aTwo; rw [Bool.and_assoc]
theorem specFrontOf_run (J : Jobs h vj js) (hl : js.length ≤ 2 ^ 40) : RunsC P G n_spec_FrontOf [vj, .int .i64 f, .int .i64 g] h fun w h' => h <+: h' ∧ ∃ d, w = .tuple #[d, .bool (aTwo js f g)] ∧ Prs h' d (frV js f g) ∧ FOk (frV js f g) := by
  refine hideC fun K hK => enter_run e_spec_FrontOf (by simp) ?_
  have r1 := good_run J hl
  have Js := J
  obtain ⟨oj, cj, rfl⟩ := J.shapeT
  have bad : aTwo js f g = false → K (.tuple #[.slice none 0 0, .bool false]) h := fun e => by
    rw [frV, e] at hK
    exact onK hK ⟨List.prefix_rfl, _, rfl, ⟨by simp, none, 0, rfl, .inl ⟨rfl, rfl, rfl⟩⟩, FOk.nil⟩
  cases c1 : jOk js
  · simp -implicitDefEqProofs [CL_ret r1, c1]
    exact bad (by rw [aTwo_eq, c1]; rfl)
  cases c2 : (inB f 1 8 && inB g 1 8)
  · simp -implicitDefEqProofs [CL_ret r1, c1, CL_ret l11Two_run, c2]
    exact bad (by rw [aTwo_eq, c2, Bool.and_false])
  · have c3 : aTwo js f g = true := by rw [aTwo_eq, c1, c2]; rfl
    obtain ⟨hn, hg, hf, hg8⟩ := aTwo_of c3
    rw [frV, c3, if_pos rfl] at hK
    simp -implicitDefEqProofs [CL_ret r1, c1, CL_ret l11Two_run, c2]
    refine CL_post (l11Front_run (f := f) (g := g) Js hg hn hf hg8) fun w h1 ⟨hp1, hF, S1⟩ => ?_
    simp -implicitDefEqProofs
    exact onK hK ⟨pre_gcU hp1, _, rfl, Sees.gcU S1 fun g => plainT (r := [_]) g, hF⟩
def undB (js : List Job) (xs : List Int) (f g : Int) : Bool := aTwo js f g && l2OrderL js.length xs
theorem implIsUndominated_run (J : Jobs h vj js) (X : Ints h v xs) (hl : js.length ≤ 2 ^ 40) (hx : xs.length ≤ 2 ^ 40) : Ret P G n_impl_IsUndominated [vj, v, .int .i64 f, .int .i64 g] h (.tuple #[.bool (undB js xs f g && hasPt (frontR f g js) (ptX f g js xs)), .bool (undB js xs f g)]) h := by
  refine enter_run e_impl_IsUndominated (by simp) ?_
  have r1 := areTwo_run (f := f) (g := g) J hl
  have r2 := isOrder_run (n := js.length) X hx
  have Js := J
  have Xs := X
  obtain ⟨oj, cj, rfl⟩ := J.shapeT
  obtain ⟨oa, ca, rfl⟩ := X.shapeT
  unfold undB
  cases c1 : aTwo js f g
  · simp -implicitDefEqProofs [CL_ret r1, c1]
  obtain ⟨hn, hg, hf, hg8⟩ := aTwo_of c1
  have e : (((xs.length : Int) == (js.length : Nat)) && arGo js.length [] xs) = l2OrderL js.length xs := by
    rw [order_eq hn, l2OrderL, show inB js.length 0 8 = true by simp [inB]; omega, Bool.true_and]
  rw [e] at r2
  cases c2 : l2OrderL js.length xs
  · simp -implicitDefEqProofs [CL_ret r1, CL_ret r2, c1, c2]
  have rp := pointOf_run (f := f) (g := g) Js Xs hg hn hf hg8 (ord_of c2)
  generalize ptX f g js xs = p at *
  have H0 := (Holds.start (h := h)).alloc [.int .i64 p.1, .int .i64 p.2]
  simp -implicitDefEqProofs [CL_ret r1, CL_ret r2, c1, c2, CL_ret rp]
  refine CL_post (frontOf_run (f := f) (g := g) (Js.pre H0.pre) hg hn hf hg8) fun w h1 ⟨hp1, hF, S1⟩ => ?_
  have H1 := H0.ext hp1
  have hFl := hF.len
  generalize frontR f g js = F at *
  obtain ⟨fa, fc, rfl⟩ : ∃ a c, w = .slice a F.length c := S1.shapeT
  simp -implicitDefEqProofs
  refine R_loopO (fun m s h' => ∃ i : Nat, i + m = F.length ∧ s = [(10, .pointer (some ⟨h.length, 0, some 2⟩)), (33, .slice fa F.length fc), (34, .int .i64 F.length), (35, .int .i64 i)] ∧ hasPt F p = hasPt (F.drop i) p ∧ h1 <+: h') (fun I hI m s h' => ?_) (n := F.length)
    ⟨0, Nat.zero_add _, by simp, by simp, List.prefix_rfl⟩
  rintro ⟨i, hi, rfl, hx', hp⟩
  have lp := fun {l : Hp} => (H1.ext hp).blx (P := P) 0 2 rfl rfl l t_A2_int 0
  by_cases hlt : i < F.length
  · obtain ⟨q, hq, hd⟩ := drop_at hlt
    have lq := load_Q (S1.pre hp) hq
    have e : hasPt (q :: F.drop (i + 1)) p = (sameB q p || hasPt (F.drop (i + 1)) p) := rfl
    have sc : sameB p q = sameB q p := by
      rw [Bool.eq_iff_iff, sameB_iff, sameB_iff]; exact eq_comm
    rw [hd, e] at hx'
    cases c3 : sameB q p
    · rw [c3, Bool.false_or] at hx'
      rw [c3] at sc
      simp -implicitDefEqProofs [-indexAddrP_some, hlt, lq, lp, eqPt, sc, winc hlt (by omega)]
      exact ⟨m - 1, by omega, on hI ⟨i + 1, by omega, rfl, hx', hp.trans (List.prefix_append ..)⟩⟩
    · rw [c3, Bool.true_or] at hx'
      rw [c3] at sc
      simp -implicitDefEqProofs [-indexAddrP_some, hlt, lq, lp, eqPt, sc, hx']
      exact gcP (H1.pre.trans (hp.trans (List.prefix_append ..))) rfl
  · rw [List.drop_eq_nil_of_le (by omega)] at hx'
    have hx' : hasPt F p = false := hx'
    simp -implicitDefEqProofs [hlt, hx']
    exact gcP (H1.pre.trans hp) rfl
theorem l11Has_run {vf : Value} {F : List Pt} {p : Pt} (S : Prs h vf F) (hFl : F.length ≤ 2 ^ 40) : Ret P G n_spec_l11Has [vf, ptv p] h (.bool (hasPt F p)) h := by
  refine enter_run e_spec_l11Has (by simp) ?_
  have Ss := S
  obtain ⟨fa, fc, rfl⟩ := S.shapeT
  have H0 := (Holds.start (h := h)).alloc [.int .i64 p.1, .int .i64 p.2]
  have lp := H0.bl (P := P) 0 2 rfl rfl t_A2_int 0
  simp -implicitDefEqProofs
  refine R_loopO (fun m s h' => ∃ i : Nat, i + m = F.length ∧ s = [(0, .slice fa F.length fc), (3, .pointer (some ⟨h.length, 0, some 2⟩)), (5, .int .i64 i)] ∧ hasPt F p = hasPt (F.drop i) p ∧ h' = h ++ [some ⟨[.int .i64 p.1, .int .i64 p.2], 0, false⟩]) (fun I hI m s h' => ?_) (n := F.length)
    ⟨0, Nat.zero_add _, by simp, by simp, rfl⟩
  rintro ⟨i, hi, rfl, hx', rfl⟩
  by_cases hlt : i < F.length
  · obtain ⟨q, hq, hd⟩ := drop_at hlt
    have lq := load_Q (Ss.pre H0.pre) hq
    have e : hasPt (q :: F.drop (i + 1)) p = (sameB q p || hasPt (F.drop (i + 1)) p) := rfl
    rw [hd, e] at hx'
    cases c3 : sameB q p
    · rw [c3, Bool.false_or] at hx'
      simp -implicitDefEqProofs [-indexAddrP_some, hlt, lq, lp, eqPt, c3, winc hlt (by omega)]
      exact ⟨m - 1, by omega, on hI ⟨i + 1, by omega, rfl, hx', rfl⟩⟩
    · rw [c3, Bool.true_or] at hx'
      simp -implicitDefEqProofs [-indexAddrP_some, hlt, lq, lp, eqPt, c3, hx']
  · rw [List.drop_eq_nil_of_le (by omega)] at hx'
    have hx' : hasPt F p = false := hx'
    simp -implicitDefEqProofs [hlt, hx']
theorem specIsUndominated_run (J : Jobs h vj js) (X : Ints h v xs) (hl : js.length ≤ 2 ^ 40) (hx : xs.length ≤ 2 ^ 40) : Ret P G n_spec_IsUndominated [vj, v, .int .i64 f, .int .i64 g] h (.tuple #[.bool (undB js xs f g && hasPt (frontR f g js) (ptX f g js xs)), .bool (undB js xs f g)]) h := by
  refine enter_run e_spec_IsUndominated (by simp) ?_
  have r1 := l2Two_run J X hl hx
  have Js := J
  have Xs := X
  obtain ⟨oj, cj, rfl⟩ := J.shapeT
  obtain ⟨oa, ca, rfl⟩ := X.shapeT
  have e1 : undB js xs f g = ((jOk js && l2OrderL js.length xs) && (inB f 1 8 && inB g 1 8)) := by
    unfold undB aTwo
    cases jOk js <;> cases l2OrderL js.length xs <;> cases inB f 1 8 <;> cases inB g 1 8 <;> rfl
  rw [e1]
  cases c1 : (jOk js && l2OrderL js.length xs)
  · simp -implicitDefEqProofs [CL_ret r1, c1]
  cases c2 : (inB f 1 8 && inB g 1 8)
  · simp -implicitDefEqProofs [CL_ret r1, CL_ret l11Two_run, c1, c2]
  have c3 : aTwo js f g = true ∧ l2OrderL js.length xs = true := by
    rw [Bool.and_eq_true] at c1
    exact ⟨by rw [aTwo_eq, c1.1, c2]; rfl, c1.2⟩
  obtain ⟨hn, hg, hf, hg8⟩ := aTwo_of c3.1
  simp -implicitDefEqProofs [CL_ret r1, CL_ret l11Two_run, c1, c2]
  refine CL_post (l11Front_run (f := f) (g := g) Js hg hn hf hg8) fun w h1 ⟨hp1, hF, S1⟩ => ?_
  have rp := l11Point_run (f := f) (g := g) (Js.pre hp1) (Xs.pre hp1) hg hn hf hg8 (ord_of c3.2)
  have rh := l11Has_run (p := ptX f g js xs) S1 (by have := hF.len; omega)
  simp -implicitDefEqProofs [CL_ret rp, CL_ret rh]
  exact gcP hp1 rfl
/-! ### the first order with a point -/
def isP (f g : Int) (js : List Job) (p : Pt) (xs : List Int) : Bool := sameB (ptX f g js xs) p
theorem l11First_run {js : List Job} {f g : Int} {p : Pt} (hg : goodL js = true) (hn : js.length ≤ 8) (hf : 1 ≤ f ∧ f ≤ 8) (hg8 : 1 ≤ g ∧ g ≤ 8) : ∀ {k : Nat} {h : Hp} {vj vb : Value} {begun : List Int}, Jobs h vj js → Ints h vb begun → begun.length + k = js.length → inN js.length begun → begun.Nodup →
    RunsC P G n_spec_l11First [vj, vb, .int .i64 f, .int .i64 g, ptv p] h fun w h' => h <+: h' ∧ ∃ a n c, w = .tuple #[.slice a n c, .bool (ffs (isP f g js p) js.length k begun).isSome] ∧ ∀ o, ffs (isP f g js p) js.length k begun = some o → Ints h' (.slice a n c) o
  | 0, h, vj, vb, begun, J, B, hk, hin, hnd => by
    refine hideC fun K hK => enter_run e_spec_l11First (by simp) ?_
    have Js := J
    have Bs := B
    obtain ⟨oj, cj, rfl⟩ := J.shapeT
    obtain ⟨ob, cb, rfl⟩ : ∃ a c, vb = .slice a js.length c := by obtain ⟨a, c, e⟩ := B.shapeT; exact ⟨a, c, by rw [e]; congr 1⟩
    have hx : Ord js.length begun := ⟨by omega, hin, hnd⟩
    have H0 := (Holds.start (h := h)).alloc [.int .i64 p.1, .int .i64 p.2]
    have lp := H0.bl (P := P) 0 2 rfl rfl t_A2_int 0
    have rp := l11Point_run (f := f) (g := g) (Js.pre H0.pre) (Bs.pre H0.pre) hg hn hf hg8 hx
    have e0 : ffs (isP f g js p) js.length 0 begun = if sameB (ptX f g js begun) p = true then some begun else none := rfl
    rw [e0] at hK
    have e1 : (if sameB (ptX f g js begun) p = true then some begun else none : Option (List Int)).isSome = sameB (ptX f g js begun) p := by cases sameB (ptX f g js begun) p <;> rfl
    simp -implicitDefEqProofs [CL_ret rp, CH_at rp, lp, eqPt]
    refine onK hK ⟨pre_gcU H0.pre, ob, js.length, cb, by rw [e1], fun o ho => ?_⟩
    split at ho
    · cases ho
      exact Sees.gcU (Bs.pre H0.pre) fun g => plainT (r := [_]) g
    · cases ho
  | k + 1, h, vj, vb, begun, J, B, hk, hin, hnd => by
    refine hideC fun K hK => enter_run e_spec_l11First (by simp) ?_
    have Js := J
    have Bs := B
    obtain ⟨oj, cj, rfl⟩ := J.shapeT
    obtain ⟨ob, cb, rfl⟩ := B.shapeT
    have hne : ((begun.length : Int) == (js.length : Int)) = false := nb (by omega)
    have hne' : ¬ begun.length = js.length := by omega
    have H0 := (Holds.start (h := h)).alloc [.int .i64 p.1, .int .i64 p.2]
    generalize hX : ffs (isP f g js p) js.length (k + 1) begun = X at hK
    rw [ffs] at hX
    simp -implicitDefEqProofs [hne, hne']
    refine R_loopO (fun m st h' => ∃ (i : Nat) (v9 : Value), i + m = js.length ∧ st = [(0, .slice oj js.length cj), (1, .slice ob begun.length cb), (2, .int .i64 f), (3, .int .i64 g), (9, .pointer (some ⟨h.length, 0, some 2⟩)), (12, .int .i64 i)] ∧
      X = (List.range' i m).findSome? (fun (j : Nat) => if begun.any (· == (j : Int)) = true then none else ffs (isP f g js p) js.length k (begun ++ [(j : Int)])) ∧ Holds h h' [.box h.length [.int .i64 p.1, .int .i64 p.2]]) (fun I hI m st h' => ?_) (n := js.length)
      ⟨0, .bool true, Nat.zero_add _, by simp, hX.symm, H0⟩
    rintro ⟨i, _, hi, rfl, hx, H⟩
    by_cases hlt : i < js.length
    · obtain ⟨m', rfl⟩ : ∃ m', m = m' + 1 := ⟨m - 1, by omega⟩
      rw [List.range'_succ, List.findSome?_cons] at hx
      have rh := l1Has_run (x := (i : Int)) (Bs.pre H.pre) (by omega)
      have wi := winc hlt (show js.length ≤ 2 ^ 40 by omega)
      cases c1 : hasL (i : Int) begun
      · have ha0 : begun.any (· == (i : Int)) = false := c1
        rw [ha0] at hx
        simp only [Bool.false_eq_true, if_false] at hx
        have hni : (i : Int) ∉ begun := fun g => by rw [hasL_iff'.2 g] at c1; cases c1
        simp -implicitDefEqProofs [hlt, CL_ret rh, c1]
        refine CG_post (l1Own_run (Bs.pre H.pre) (by omega)).new fun v5 h5 ⟨⟨hp5, ho5⟩, hn5⟩ => ⟨hn5 hp5, ?_⟩
        have H5 : Holds h' h5 [.own v5 1 (begun.map encI)] := (Holds.start (h := h')).call hp5 ho5
        obtain ⟨v6, h6, ha6, H6, k6, _⟩ := push_I0 H5 0 rfl (i : Int) (by omega)
        have H6' : Holds h' h6 [.own v6 1 ((begun ++ [(i : Int)]).map encI)] := H6
        have n6 : NR h'.length (h5 ++ [some ⟨[.int .i64 (i : Int)], 1, false⟩]) := (hn5 hp5).nr.new [.int .i64 (i : Int)] 1
        have md := app_mod (b := h'.length) rfl n6 ha6 (hp5.trans (List.prefix_append ..)) H6'.pre
        have HH6 := H.ext H6'.pre
        have no6 := newOk_of H6'.pre (append_nr n6 ha6)
        have ih := l11First_run (p := p) hg hn hf hg8 (k := k) (Js.pre HH6.pre) (H6'.sees 0 rfl) (by simp; omega) (fun x hx => by
          rcases List.mem_append.1 hx with g | g
          · exact hin x g
          · rw [List.mem_singleton.1 g]; omega) (List.nodup_append.2 ⟨hnd, by simp, fun a ha c hc => by rw [List.mem_singleton.1 hc]; intro e; exact hni (e ▸ ha)⟩)
        obtain ⟨d1, d2, d3, rfl⟩ : ∃ a n c, v5 = .slice a n c := by obtain ⟨a, c, e⟩ := ho5.sees.shape; exact ⟨_, _, _, e⟩
        obtain ⟨e1, e2, e3, rfl⟩ : ∃ a n c, v6 = .slice a n c := by obtain ⟨a, c, e⟩ := (H6'.sees 0 rfl).shape; exact ⟨_, _, _, e⟩
        simp -implicitDefEqProofs [ha6, md, no6, HH6.bl 0 2 rfl rfl]
        refine CG_post ih.new fun w h7 ⟨⟨hp7, a7, n7, c7, ew, hs7⟩, hn7⟩ => ⟨hn7 hp7, ?_⟩
        subst ew
        generalize ffs (isP f g js p) js.length k (begun ++ [(i : Int)]) = R at hx hs7
        cases R with
        | none =>
          simp -implicitDefEqProofs [wi]
          exact ⟨m', by omega, on hI ⟨i + 1, .bool true, by omega, rfl, hx, HH6.ext hp7⟩⟩
        | some o =>
          have hx : X = some o := hx
          rw [hx] at hK
          simp -implicitDefEqProofs
          exact onK hK ⟨pre_gcU (HH6.pre.trans hp7), _, _, _, rfl, fun o' ho => by cases ho; exact Sees.gcU (hs7 o rfl) fun g => plainT (r := [_]) g⟩
      · have ha0 : begun.any (· == (i : Int)) = true := c1
        rw [ha0] at hx
        simp only [if_true] at hx
        simp -implicitDefEqProofs [hlt, CL_ret rh, c1, wi]
        exact ⟨m', by omega, on hI ⟨i + 1, .bool true, by omega, rfl, hx, H⟩⟩
    · have hm : m = 0 := by omega
      subst hm
      have hx : X = none := hx
      rw [hx] at hK
      simp -implicitDefEqProofs [hlt]
      exact onK hK ⟨pre_gcU H.pre, none, 0, 0, rfl, fun o ho => by cases ho⟩
end
end Go.Pm.PP

/- The first order with a point of a front, by both; the draw. -/
set_option linter.unusedVariables false
set_option linter.unusedSimpArgs false
set_option maxRecDepth 4000
set_option maxHeartbeats 16000000
namespace Go.Pm.PP
open Go.Pm Go.Proofs Go.Pm.PE
/-! ### a search for the first one -/
def upO (P : List Int → Bool) (r : Option (List Int)) (xs : List Int) : Option (List Int) := if r.isSome = true then r else if P xs = true then some xs else none
theorem upO_find {P : List Int → Bool} : ∀ {l : List (List Int)} {r : Option (List Int)}, l.foldl (upO P) r = if r.isSome = true then r else l.find? P
  | [], r => by cases r <;> rfl
  | x :: l, r => by
    rw [List.foldl_cons, upO_find]
    cases r with
    | some y => simp [upO]
    | none =>
      rw [List.find?_cons]
      cases h : P x <;> simp [upO, h]
def bxO (p q : Nat) (vo : Value) (r : Option (List Int)) : List Asn := [.box p [vo], .box q [.bool r.isSome], .own vo 1 ((r.getD []).map encI)]
theorem gcO' {hb h h' : Hp} {p q : Nat} {vo vo' u : Value} {r r' : Option (List Int)} {L : List Asn} (HL : Holds hb h (bxO p q vo r ++ L)) (H' : Holds hb h' (bxO p q vo' r' ++ L)) : Holds hb (gc h h' u) (bxO p q vo' r' ++ L) := by
  rcases gc_cases' h h' u with g | ⟨hp, g⟩
  · rw [g]; exact H'
  · have e1 := HL.box (cs := [vo]) (r := p) 0 rfl
    have e2 := H'.box (cs := [vo']) (r := p) 0 rfl
    obtain ⟨t, rfl⟩ := hp
    rw [List.getElem?_append_left (List.getElem?_eq_some_iff.1 e1).1, e1] at e2
    cases e2
    exact HL.gcR H' rfl
def firstO (f g : Int) (js : List Job) (p : Pt) : Option (List Int) := (ordsL js.length).find? (isP f g js p)
theorem first_ffs {f g : Int} {js : List Job} {p : Pt} : ffs (isP f g js p) js.length js.length [] = firstO f g js p := by
  rw [ffs_perms (by rw [rem_nil]; simp), up_rem]
  unfold firstO ordsL
  simp
section
variable {h : Hp} {vj v u : Value} {js : List Job} {xs : List Int} {f g : Int}
theorem tellO_run {hb h : Hp} {p q rj rf rg rF rk : Nat} {vj vF vo vg : Value} {js : List Job} {f g : Int} {F : List Pt} {k : Nat} {P0 : Pt} {xs : List Int} {r : Option (List Int)} (J : Jobs hb vj js) (SF : Prs hb vF F)
    (bj : hb[rj]? = some (some ⟨[vj], 0, false⟩)) (bf : hb[rf]? = some (some ⟨[.int .i64 f], 0, false⟩)) (bg : hb[rg]? = some (some ⟨[.int .i64 g], 0, false⟩)) (bF : hb[rF]? = some (some ⟨[vF], 0, false⟩)) (bk : hb[rk]? = some (some ⟨[.int .i64 k], 0, false⟩)) (hk : F[k]? = some P0)
    (hgd : goodL js = true) (hn : js.length ≤ 8) (hf : 1 ≤ f ∧ f ≤ 8) (hg8 : 1 ≤ g ∧ g ≤ 8) (hx : Ord js.length xs) (H : Holds hb h (bxO p q vo r ++ [.own vg 1 (xs.map encI)])) :
    RunsC P G n_impl_FrontOrder_1 [vg, .pointer (some ⟨q, 0, some 1⟩), .pointer (some ⟨rj, 0, some 1⟩), .pointer (some ⟨rf, 0, some 1⟩), .pointer (some ⟨rg, 0, some 1⟩), .pointer (some ⟨rF, 0, some 1⟩), .pointer (some ⟨rk, 0, some 1⟩), .pointer (some ⟨p, 0, some 1⟩)] h fun v h' =>
      ∃ vo', ∀ L, Holds hb h (bxO p q vo r ++ L) → Holds hb h' (bxO p q vo' (upO (isP f g js P0) r xs) ++ L) := by
  refine hideC fun K hK => enter_run e_impl_FrontOrder_1 (by simp) ?_
  have Js := J
  obtain ⟨oj, cj, rfl⟩ := J.shapeT
  have SFs := SF
  obtain ⟨fa, fc, rfl⟩ := SF.shapeT
  have Sg : Ints h vg xs := H.sees 3 rfl
  obtain ⟨g1, g3, rfl⟩ : ∃ a c, vg = .slice a xs.length c := Sg.shapeT
  have lj := load_pre H.pre bj (n := 1) rfl
  have lf := load_pre H.pre bf (n := 1) rfl
  have lg := load_pre H.pre bg (n := 1) rfl
  have lF := load_pre H.pre bF (n := 1) rfl
  have lk := load_pre H.pre bk (n := 1) rfl
  have lq := H.bl (P := P) 1 1 rfl rfl
  have lx := load_Q (SFs.pre H.pre) hk
  have rp := pointOf_run (f := f) (g := g) (Js.pre H.pre) Sg hgd hn hf hg8 hx
  cases r with
  | some o =>
    have eU : upO (isP f g js P0) (some o) xs = some o := rfl
    rw [eU] at hK
    simp -implicitDefEqProofs [lq]
    exact onK hK ⟨vo, fun L HL => by simpa using gcO' (u := .tuple #[]) HL HL⟩
  | none =>
    have eI : sameB (ptX f g js xs) P0 = isP f g js P0 xs := rfl
    cases c : isP f g js P0 xs
    · have eU : upO (isP f g js P0) none xs = none := by simp [upO, c]
      rw [eU] at hK
      simp -implicitDefEqProofs [-indexAddrP_some, lq, lj, lf, lg, lF, lk, CL_ret rp, CH_at rp, lx, eqPt, eI, c]
      exact onK hK ⟨vo, fun L HL => by simpa using gcO' (u := .tuple #[]) HL HL⟩
    · have eU : upO (isP f g js P0) none xs = some xs := by simp [upO, c]
      rw [eU] at hK
      simp -implicitDefEqProofs [-indexAddrP_some, lq, lj, lf, lg, lF, lk, CL_ret rp, CH_at rp, lx, eqPt, eI, c]
      refine CL_post (copyInts_run Sg (by rw [hx.len]; omega)) fun v1 h1 ⟨hp1, ho1⟩ => ?_
      obtain ⟨a, c', rfl⟩ := ho1.sees.shapeT
      obtain ⟨h2, s2, H2, _⟩ := (H.ext hp1).set (P := P) 0 (n := 1) (o := 0) (ty := t_S_int) (w := .slice a xs.length c') rfl rfl e_t_S_int (by simp) (by simp) (by simp)
      obtain ⟨h3, s3, H3, _⟩ := H2.set (P := P) 1 (n := 1) (o := 0) (ty := t_bool) (w := .bool true) rfl rfl e_t_bool (by simp) (by simp) (by simp)
      simp -implicitDefEqProofs [s2, s3]
      refine onK hK ⟨.slice a xs.length c', fun L HL => ?_⟩
      have HJ := Holds.joinT (L := bxO p q vo none) (T := L) (A := [.own (.slice a xs.length c') 1 (xs.map encI)]) (M := []) HL ((Holds.start (h := h)).call hp1 ho1)
      obtain ⟨h2', s2', H2', _⟩ := HJ.set (P := P) 0 (n := 1) (o := 0) (ty := t_S_int) (w := .slice a xs.length c') rfl rfl e_t_S_int (by simp) (by simp) (by simp)
      rw [s2] at s2'; cases s2'
      obtain ⟨h3', s3', H3', _⟩ := H2'.set (P := P) 1 (n := 1) (o := 0) (ty := t_bool) (w := .bool true) rfl rfl e_t_bool (by simp) (by simp) (by simp)
      rw [s3] at s3'; cases s3'
      have H5 : Holds hb h3 (([.box p [.slice a xs.length c'], .box q [.bool true]] ++ [.own vo 1 (([] : List Int).map encI)]) ++ ([.own (.slice a xs.length c') 1 (xs.map encI)] ++ L)) := H3'
      have H6 : Holds hb h3 (bxO p q (.slice a xs.length c') (some xs) ++ L) := H5.cut
      exact gcO' HL H6
theorem implFrontOrder_run {k : Nat} (J : Jobs h vj js) (hl : js.length ≤ 2 ^ 40) (hok : aTwo js f g = true) {P0 : Pt} (hk : (frontR f g js)[k]? = some P0) : RunsC P G n_impl_FrontOrder [vj, .int .i64 f, .int .i64 g, .int .i64 k] h fun w h' => h <+: h' ∧ ∃ d, w = .tuple #[d, .bool true] ∧ Ints h' d ((firstO f g js P0).getD []) := by
  refine hideC fun K hK => enter_run e_impl_FrontOrder (by simp) ?_
  have Js := J
  obtain ⟨oj, cj, rfl⟩ := J.shapeT
  obtain ⟨hn, hg, hf, hg8⟩ := aTwo_of hok
  have H0 := ((((Holds.start (h := h)).alloc [.slice oj js.length cj]).alloc [.int .i64 f]).alloc [.int .i64 g]).alloc [.int .i64 k]
  simp only [List.append_assoc, List.cons_append, List.nil_append, List.length_append, List.length_cons, List.length_nil, Nat.zero_add] at H0
  have r1 := areTwo_run (f := f) (g := g) (Js.pre H0.pre) hl
  rw [hok] at r1
  simp -implicitDefEqProofs [CL_ret r1]
  refine CL_post (frontOf_run (f := f) (g := g) (Js.pre H0.pre) hg hn hf hg8) fun w h1 ⟨hp1, hF, S1⟩ => ?_
  have H1 := H0.ext hp1
  have hFl := hF.len
  generalize frontR f g js = F at *
  obtain ⟨fa, fc, rfl⟩ : ∃ a c, w = .slice a F.length c := S1.shapeT
  have hkl := (List.getElem?_eq_some_iff.1 hk).1
  have wn : w64 ((F.length : Int) - 1) = (F.length : Int) - 1 := by unfold w64; rw [wrap_ok] <;> omega
  have ik : inB (k : Int) 0 (w64 ((F.length : Int) - 1)) = true := by rw [wn]; simp [inB]; omega
  have H2 := H1.alloc [.slice fa F.length fc]
  have lk := fun {l : Hp} => H1.blx (P := P) 3 1 rfl rfl l t_int 0
  have lj := fun {l : Hp} => H1.blx (P := P) 0 1 rfl rfl l t_S_impl_Job 0
  generalize hHb : h1 ++ [some ⟨[.slice fa F.length fc], 0, false⟩] = hb at H2
  have hbl : hb.length = h1.length + 1 := by rw [← hHb]; simp
  have E : Holds hb (hb ++ [some ⟨[.slice none 0 0], 0, false⟩, some ⟨[.bool false], 0, false⟩]) (bxO hb.length (hb.length + 1) (.slice none 0 0) none ++ []) := by
    have := own_nil (((Holds.start (h := hb)).alloc [.slice none 0 0]).alloc [.bool false]) Int encI 1
    simp only [List.append_assoc, List.cons_append, List.nil_append, List.length_append, List.length_cons, List.length_nil, Nat.zero_add] at this
    exact this
  have pF : h1 <+: hb := by rw [← hHb]; exact List.prefix_append ..
  have er := eachOrder_run (hb := hb) (g := n_impl_FrontOrder_1) (c := #[.pointer (some ⟨hb.length + 1, 0, some 1⟩), .pointer (some ⟨h.length, 0, some 1⟩), .pointer (some ⟨h.length + 1, 0, some 1⟩), .pointer (some ⟨h.length + 1 + 1, 0, some 1⟩), .pointer (some ⟨h1.length, 0, some 1⟩), .pointer (some ⟨h.length + 1 + 1 + 1, 0, some 1⟩), .pointer (some ⟨hb.length, 0, some 1⟩)]) hn
    (Q := fun i BX => ∃ vo, BX = bxO hb.length (hb.length + 1) vo (((ordsL js.length).take i).foldl (upO (isP f g js P0)) none))
    (fun i BX i' BX' h h' L u ⟨vf, e⟩ ⟨vf', e'⟩ HL H' => by
      subst e; subst e'
      exact gcO' HL H')
    (fun i xs h BX vg ⟨vf, eBX⟩ hxs HB => by
      subst eBX
      have ox := ords_ord (List.mem_of_getElem? hxs)
      refine RunsC.mono (tellO_run (Js.pre H2.pre) (S1.pre pF) (H2.box 0 rfl) (H2.box 1 rfl) (H2.box 2 rfl) (H2.box 4 rfl) (H2.box 3 rfl) hk hg hn hf hg8 ox HB) fun v h' ⟨vf', Fx⟩ => ?_
      have es : ((ordsL js.length).take (i + 1)).foldl (upO (isP f g js P0)) none = upO (isP f g js P0) (((ordsL js.length).take i).foldl (upO (isP f g js P0)) none) xs := by
        rw [take_succ' hxs, List.foldl_append, List.foldl_cons, List.foldl_nil]
      refine ⟨_, ⟨vf', rfl⟩, fun L HL => ?_⟩
      rw [es]
      exact Fx L HL) ⟨_, rfl⟩ E
  have hcount : hb ++ [some ⟨[.slice none 0 0], 0, false⟩, some ⟨[.bool false], 0, false⟩] = h1 ++ [some ⟨[.slice fa F.length fc], 0, false⟩, some ⟨[.slice none 0 0], 0, false⟩, some ⟨[.bool false], 0, false⟩] := by rw [← hHb]; simp
  rw [hcount, hbl] at er
  rw [hcount, hbl] at E
  simp -implicitDefEqProofs [lk, lj, CL_ret isNumber_run, ik]
  refine CL_post er fun v h4 ⟨BX', ⟨vf, eBX⟩, Fx⟩ => ?_
  subst eBX
  have H4 := Fx [] E
  rw [List.take_length, upO_find] at H4
  have s4 : Ints h4 vf ((firstO f g js P0).getD []) := H4.sees 2 rfl
  obtain ⟨a, c, rfl⟩ := s4.shapeT
  have l0 := H4.bl (P := P) 0 1 rfl rfl
  simp -implicitDefEqProofs [l0]
  exact onK hK ⟨pre_gcU (H2.pre.trans H4.pre), _, rfl, Sees.gcU s4 fun g => plainT (r := [_]) g⟩
theorem specFrontOrder_run {k : Nat} (J : Jobs h vj js) (hl : js.length ≤ 2 ^ 40) (hok : aTwo js f g = true) {P0 : Pt} (hk : (frontR f g js)[k]? = some P0) {o : List Int} (ho : firstO f g js P0 = some o) : RunsC P G n_spec_FrontOrder [vj, .int .i64 f, .int .i64 g, .int .i64 k] h fun w h' => h <+: h' ∧ ∃ d, w = .tuple #[d, .bool true] ∧ Ints h' d o := by
  refine hideC fun K hK => enter_run e_spec_FrontOrder (by simp) ?_
  have Js := J
  have r1 := good_run J hl
  obtain ⟨oj, cj, rfl⟩ := J.shapeT
  obtain ⟨hn, hg, hf, hg8⟩ := aTwo_of hok
  have c12 := hok
  rw [aTwo_eq, Bool.and_eq_true] at c12
  simp -implicitDefEqProofs [CL_ret r1, c12.1, CL_ret l11Two_run, c12.2]
  refine CL_post (l11Front_run (f := f) (g := g) Js hg hn hf hg8) fun w h1 ⟨hp1, hF, S1⟩ => ?_
  have hFl := hF.len
  generalize frontR f g js = F at *
  obtain ⟨fa, fc, rfl⟩ : ∃ a c, w = .slice a F.length c := S1.shapeT
  have hkl := (List.getElem?_eq_some_iff.1 hk).1
  have wn : IntKind.i64.wrap ((F.length : Int) - 1) = (F.length : Int) - 1 := by rw [wrap_ok] <;> omega
  have ik : inB (k : Int) 0 ((F.length : Int) - 1) = true := by simp [inB]; omega
  have lq := load_Q S1 hk
  have nilI : Ints h1 (.slice none 0 0) [] := ⟨by simp, none, 0, rfl, .inl ⟨rfl, rfl, rfl⟩⟩
  have r := l11First_run (p := P0) hg hn hf hg8 (k := js.length) (Js.pre hp1) nilI (by simp) (fun x hx => by cases hx) List.nodup_nil
  rw [first_ffs, ho] at r
  simp -implicitDefEqProofs [-indexAddrP_some, wn, CL_ret l1In_run, ik, lq]
  refine CL_post r fun w h2 ⟨hp2, a, n, c, ew, hs⟩ => ?_
  subst ew
  simp -implicitDefEqProofs
  exact onK hK ⟨pre_gcU (hp1.trans hp2), _, rfl, Sees.gcU (hs o rfl) fun g => plainT (r := [_]) g⟩
end
/-! ### in plain terms -/
theorem front_facts {f g : Int} {js : List Job} (hn : js.length ≤ 8) : Srt (frontR f g js) ∧ (∀ q, q ∈ frontR f g js → ∃ xs, Ord js.length xs ∧ ptX f g js xs = q) ∧ (∀ xs, Ord js.length xs → ∃ q, q ∈ frontR f g js ∧ q.1 ≤ valX f js xs ∧ q.2 ≤ valX g js xs) := by
  obtain ⟨h1, h2, h3⟩ := front_fold (pt := ptX f g js) (l := ordsL js.length) (F := []) (S := fun q => ∃ xs, Ord js.length xs ∧ ptX f g js xs = q) List.Pairwise.nil (fun q hq => by cases hq) fun xs hx => ⟨xs, ords_ord hx, rfl⟩
  exact ⟨h1, h2, fun xs ox => h3 (ptX f g js xs) (.inl ⟨xs, ord_mem ox, rfl⟩)⟩
theorem first_some {f g : Int} {js : List Job} {p : Pt} (h : ∃ xs, Ord js.length xs ∧ ptX f g js xs = p) : ∃ o, firstO f g js p = some o ∧ Ord js.length o ∧ ptX f g js o = p := by
  obtain ⟨xs, ox, e⟩ := h
  cases hf : firstO f g js p with
  | none =>
    have := List.find?_eq_none.1 hf xs (ord_mem ox)
    unfold isP at this
    rw [sameB_iff] at this
    exact absurd e this
  | some o =>
    have h1 := List.find?_some hf
    unfold isP at h1
    rw [sameB_iff] at h1
    exact ⟨o, rfl, ords_ord (List.mem_of_find?_eq_some hf), h1⟩
end Go.Pm.PP

/- Searches of least mixtures and under limits, by the reference. -/
set_option linter.unusedVariables false
set_option linter.unusedSimpArgs false
set_option maxRecDepth 4000
set_option maxHeartbeats 16000000
namespace Go.Pm.PP
open Go.Pm Go.Proofs Go.Pm.PE
/-- The first of the least ones of those that pass. -/
def updG (ok : List Int → Bool) (V : List Int → Int) (b : Sr) (xs : List Int) : Sr := if ok xs = true ∧ (b.c = 0 ∨ V xs < b.v) then ⟨xs, V xs, 1⟩ else b
def mixV (f g x y : Int) (js : List Job) (xs : List Int) : Int := x * valX f js xs + y * valX g js xs
def bestG (ok : List Int → Bool) (V : List Int → Int) (n : Nat) : Sr := (ordsL n).foldl (updG ok V) sr0
theorem bestG_dfs {ok : List Int → Bool} {V : List Int → Int} {n : Nat} : dfs (updG ok V) n n [] sr0 = bestG ok V n := by
  rw [dfs_perms (by rw [up_rem, upTo_len]), up_rem]; rfl
theorem mul99 {x p : Int} (hx : 0 ≤ x ∧ x ≤ 99) (hp : -(2 ^ 30) ≤ p ∧ p ≤ 2 ^ 30) : -(99 * 2 ^ 30) ≤ x * p ∧ x * p ≤ 99 * 2 ^ 30 := by
  have h1 := Int.mul_le_mul_of_nonneg_left hp.2 hx.1
  have h2 := Int.mul_le_mul_of_nonneg_left hp.1 hx.1
  constructor <;> omega
theorem upd_fold {ok : List Int → Bool} {V : List Int → Int} : ∀ {l : List (List Int)} {b : Sr} {S : List Int → Prop}, (∀ x, x ∈ l → S x) → (b = sr0 ∨ (b.c = 1 ∧ ok b.o = true ∧ V b.o = b.v ∧ S b.o)) →
    ((l.foldl (updG ok V) b = sr0 ∧ b = sr0 ∧ ∀ x, x ∈ l → ok x = false) ∨ ((l.foldl (updG ok V) b).c = 1 ∧ ok (l.foldl (updG ok V) b).o = true ∧ V (l.foldl (updG ok V) b).o = (l.foldl (updG ok V) b).v ∧ S (l.foldl (updG ok V) b).o ∧ (b.c = 1 → (l.foldl (updG ok V) b).v ≤ b.v) ∧ ∀ x, x ∈ l → ok x = true → (l.foldl (updG ok V) b).v ≤ V x))
  | [], b, S, _, hb => by
    rcases hb with rfl | ⟨h1, h2, h3, h4⟩
    · exact .inl ⟨rfl, rfl, fun x hx => by cases hx⟩
    · exact .inr ⟨h1, h2, h3, h4, fun _ => Int.le_refl _, fun x hx => by cases hx⟩
  | x :: l, b, S, hl, hb => by
    rw [List.foldl_cons]
    by_cases c : ok x = true ∧ (b.c = 0 ∨ V x < b.v)
    · have e : updG ok V b x = ⟨x, V x, 1⟩ := by unfold updG; rw [if_pos c]
      rw [e]
      rcases upd_fold (b := ⟨x, V x, 1⟩) (fun y hy => hl y (List.mem_cons_of_mem _ hy)) (.inr ⟨rfl, c.1, rfl, hl x (List.mem_cons_self ..)⟩) with h | ⟨h1, h2, h3, h4, h5, h6⟩
      · exact absurd h.2.1 (fun g => by have : (1 : Int) = 0 := congrArg Sr.c g; omega)
      · have h5 := h5 rfl
        refine .inr ⟨h1, h2, h3, h4, fun g => ?_, fun y hy hok => ?_⟩
        · rcases c.2 with g' | g'
          · omega
          · exact Int.le_trans h5 (Int.le_of_lt g')
        · rcases List.mem_cons.1 hy with rfl | hy
          · exact h5
          · exact h6 y hy hok
    · have e : updG ok V b x = b := by unfold updG; rw [if_neg c]
      rw [e]
      rcases upd_fold (b := b) (fun y hy => hl y (List.mem_cons_of_mem _ hy)) hb with ⟨h1, h2, h3⟩ | ⟨h1, h2, h3, h4, h5, h6⟩
      · refine .inl ⟨h1, h2, fun y hy => ?_⟩
        rcases List.mem_cons.1 hy with rfl | hy
        · subst h2
          cases ho : ok y
          · rfl
          · exact absurd ⟨ho, .inl rfl⟩ c
        · exact h3 y hy
      · refine .inr ⟨h1, h2, h3, h4, h5, fun y hy hok => ?_⟩
        rcases List.mem_cons.1 hy with rfl | hy
        · rcases hb with rfl | ⟨g1, _⟩
          · exact absurd ⟨hok, .inl rfl⟩ c
          · have := h5 g1
            have : ¬ V y < b.v := fun g => c ⟨hok, .inr g⟩
            omega
        · exact h6 y hy hok
theorem bestG_facts {ok : List Int → Bool} {V : List Int → Int} {n : Nat} : (bestG ok V n = sr0 ∧ ∀ xs, Ord n xs → ok xs = false) ∨ ((bestG ok V n).c = 1 ∧ ok (bestG ok V n).o = true ∧ V (bestG ok V n).o = (bestG ok V n).v ∧ Ord n (bestG ok V n).o ∧ ∀ xs, Ord n xs → ok xs = true → (bestG ok V n).v ≤ V xs) := by
  rcases upd_fold (ok := ok) (V := V) (l := ordsL n) (b := sr0) (S := Ord n) (fun x hx => ords_ord hx) (.inl rfl) with ⟨h1, _, h3⟩ | ⟨h1, h2, h3, h4, _, h6⟩
  · exact .inl ⟨h1, fun xs ox => h3 xs (ord_mem ox)⟩
  · exact .inr ⟨h1, h2, h3, h4, fun xs ox => h6 xs (ord_mem ox)⟩

theorem l11Mix_run {js : List Job} {f g x y : Int} (hg : goodL js = true) (hn : js.length ≤ 8) (hf : 1 ≤ f ∧ f ≤ 8) (hg8 : 1 ≤ g ∧ g ≤ 8) (hx0 : 0 ≤ x ∧ x ≤ 99) (hy0 : 0 ≤ y ∧ y ≤ 99) : ∀ {k : Nat} {h : Hp} {vj vb vo : Value} {begun : List Int} {b : Sr}, Jobs h vj js → Ints h vb begun → Ints h vo b.o → begun.length + k = js.length → inN js.length begun → begun.Nodup → b.o.length ≤ 8 →
    RunsC P G n_spec_l11Mix [vj, vb, .int .i64 f, .int .i64 g, .int .i64 x, .int .i64 y, sv3 vo b] h fun v h' => h <+: h' ∧ (dfs (updG (fun _ => true) (mixV f g x y js)) js.length k begun b).o.length ≤ 8 ∧ ∃ vo', v = sv3 vo' (dfs (updG (fun _ => true) (mixV f g x y js)) js.length k begun b) ∧ Ints h' vo' (dfs (updG (fun _ => true) (mixV f g x y js)) js.length k begun b).o
  | 0, h, vj, vb, vo, begun, b, J, B, O, hk, hin, hnd, hol => by
    refine hideC fun K hK => enter_run e_spec_l11Mix (by simp) ?_
    have Js := J
    have Bs := B
    have Os := O
    obtain ⟨oj, cj, rfl⟩ := J.shapeT
    obtain ⟨ob, cb, rfl⟩ : ∃ a c, vb = .slice a js.length c := by obtain ⟨a, c, e⟩ := B.shapeT; exact ⟨a, c, by rw [e]; congr 1⟩
    obtain ⟨od, cd, rfl⟩ := O.shapeT
    have hx : Ord js.length begun := ⟨by omega, hin, hnd⟩
    have hl : begun.length = js.length := hx.len
    have H0 := (Holds.start.alloc [.slice od b.o.length cd, .int .i64 b.v, .int .i64 b.c] (h := h)).alloc [.slice none 0 0, .int .i64 0, .int .i64 0]
    simp only [List.append_assoc, List.cons_append, List.nil_append, List.length_append, List.length_cons, List.length_nil, Nat.zero_add] at H0
    have rp := l11Point_run (f := f) (g := g) (Js.pre H0.pre) (Bs.pre H0.pre) hg hn hf hg8 hx
    have b1 := valX_bd (o := f) hg hn hx
    have b2 := valX_bd (o := g) hg hn hx
    have e1 : (ptX f g js begun).1 = valX f js begun := rfl
    have e2 : (ptX f g js begun).2 = valX g js begun := rfl
    rw [← e1] at b1
    rw [← e2] at b2
    rw [dfs] at hK
    generalize hP : ptX f g js begun = p at *
    have hV : mixV f g x y js begun = x * p.1 + y * p.2 := by rw [← hP]; rfl
    have m1 := mul99 hx0 b1
    have m2 := mul99 hy0 b2
    have w1 : IntKind.i64.wrap (x * p.1) = x * p.1 := by rw [wrap_ok] <;> omega
    have w2 : IntKind.i64.wrap (y * p.2) = y * p.2 := by rw [wrap_ok] <;> omega
    have w3 : IntKind.i64.wrap (x * p.1 + y * p.2) = x * p.1 + y * p.2 := by rw [wrap_ok] <;> omega
    have H1 := H0.alloc [.int .i64 p.1, .int .i64 p.2]
    simp only [List.append_assoc, List.cons_append, List.nil_append, List.length_append, List.length_cons, List.length_nil, Nat.zero_add, Nat.add_assoc, Nat.reduceAdd] at H1
    have lp := H1.bl (P := P) 2 2 rfl rfl
    have lb := H1.bl (P := P) 0 3 rfl rfl
    by_cases c1 : b.c = 0 ∨ x * p.1 + y * p.2 < b.v
    · have e : updG (fun _ => true) (mixV f g x y js) b begun = ⟨begun, x * p.1 + y * p.2, 1⟩ := by unfold updG; rw [hV, if_pos ⟨rfl, c1⟩]
      rw [e] at hK
      obtain ⟨h2, s2, H2, _⟩ := H1.set (P := P) 1 (n := 3) (o := 0) (ty := t_spec_l2Search) (w := sv3 (.slice ob js.length cb) ⟨begun, x * p.1 + y * p.2, 1⟩) rfl rfl e_t_spec_l2Search (by simp) (by simp) (by simp)
      have l2 := H2.bl (P := P) 1 3 rfl rfl
      have fin : K (sv3 (.slice ob js.length cb) ⟨begun, x * p.1 + y * p.2, 1⟩) (gc h h2 (sv3 (.slice ob js.length cb) ⟨begun, x * p.1 + y * p.2, 1⟩)) := onK hK ⟨pre_gcU H2.pre, by rw [hl]; exact hn, _, rfl, Sees.gcU (Bs.pre H2.pre) plain3⟩
      rcases Classical.em (b.c = 0) with c2 | c2
      · simp -implicitDefEqProofs [-storeP_app0, CL_ret rp, ia20, ia21, lp, lb, w1, w2, w3, show (b.c == 0) = true by simpa using c2, s2, l2]
        exact fin
      · have c3 : x * p.1 + y * p.2 < b.v := by rcases c1 with g | g; exact absurd g c2; exact g
        simp -implicitDefEqProofs [-storeP_app0, CL_ret rp, ia20, ia21, lp, lb, w1, w2, w3, nb c2, c3, s2, l2]
        exact fin
    · have e : updG (fun _ => true) (mixV f g x y js) b begun = b := by unfold updG; rw [hV, if_neg (fun q => c1 q.2)]
      rw [e] at hK
      have c2 : ¬ b.c = 0 := fun g => c1 (.inl g)
      have c3 : ¬ x * p.1 + y * p.2 < b.v := fun g => c1 (.inr g)
      obtain ⟨h2, s2, H2, k2⟩ := H1.set (P := P) 1 (n := 3) (o := 0) (ty := t_spec_l2Search) (w := sv3 (.slice od b.o.length cd) b) rfl rfl e_t_spec_l2Search (by simp) (by simp) (by simp)
      have l2 := H2.bl (P := P) 1 3 rfl rfl
      simp -implicitDefEqProofs [-storeP_app0, CL_ret rp, ia20, ia21, lp, lb, w1, w2, w3, nb c2, c3, s2, l2]
      exact onK hK ⟨pre_gcU H2.pre, hol, _, rfl, Sees.gcU (Os.pre H2.pre) plain3⟩
  | k + 1, h, vj, vb, vo, begun, b, J, B, O, hk, hin, hnd, hol => by
    refine hideC fun K hK => enter_run e_spec_l11Mix (by simp) ?_
    have Js := J
    have Bs := B
    have Os := O
    obtain ⟨oj, cj, rfl⟩ := J.shapeT
    obtain ⟨ob, cb, rfl⟩ := B.shapeT
    obtain ⟨od, cd, rfl⟩ := O.shapeT
    have hne : ((begun.length : Int) == (js.length : Int)) = false := nb (by omega)
    have H0 := (Holds.start.alloc [.slice od b.o.length cd, .int .i64 b.v, .int .i64 b.c] (h := h)).alloc [.slice none 0 0, .int .i64 0, .int .i64 0]
    simp only [List.append_assoc, List.cons_append, List.nil_append, List.length_append, List.length_cons, List.length_nil, Nat.zero_add] at H0
    generalize hX : dfs (updG (fun _ => true) (mixV f g x y js)) js.length (k + 1) begun b = X at hK
    rw [dfs] at hX
    have hne' : ¬ begun.length = js.length := by omega
    simp -implicitDefEqProofs [hne, hne']
    refine R_loopO (fun m st h' => ∃ (i : Nat) (b' : Sr) (vo' : Value), i + m = js.length ∧ st = [(0, .slice oj js.length cj), (1, .slice ob begun.length cb), (2, .int .i64 f), (3, .int .i64 g), (4, .int .i64 x), (5, .int .i64 y), (13, .pointer (some ⟨h.length, 0, some 3⟩)), (14, .pointer (some ⟨h.length + 1, 0, some 3⟩)), (17, .int .i64 i)] ∧
      X = (List.range' i m).foldl (fun b (j : Nat) => if begun.any (· == (j : Int)) = true then b else dfs (updG (fun _ => true) (mixV f g x y js)) js.length k (begun ++ [(j : Int)]) b) b' ∧ b'.o.length ≤ 8 ∧ Ints h' vo' b'.o ∧
      Holds h h' [.box h.length [vo', .int .i64 b'.v, .int .i64 b'.c], .box (h.length + 1) [.slice none 0 0, .int .i64 0, .int .i64 0]]) (fun I hI m st h' => ?_) (n := js.length)
      ⟨0, b, .slice od b.o.length cd, Nat.zero_add _, by simp, hX.symm, hol, Os.pre H0.pre, H0⟩
    rintro ⟨i, b', vo', hi, rfl, hx, hbl, O', H⟩
    have Ons := O'
    obtain ⟨oq, cn, rfl⟩ := O'.shapeT
    by_cases hlt : i < js.length
    · obtain ⟨m', rfl⟩ : ∃ m', m = m' + 1 := ⟨m - 1, by omega⟩
      rw [List.range'_succ, List.foldl_cons] at hx
      have rh := l1Has_run (x := (i : Int)) (Bs.pre H.pre) (by omega)
      have wi := winc hlt (show js.length ≤ 2 ^ 40 by omega)
      cases c1 : hasL (i : Int) begun
      · have hx' : X = (List.range' (i + 1) m').foldl (fun b (j : Nat) => if begun.any (· == (j : Int)) = true then b else dfs (updG (fun _ => true) (mixV f g x y js)) js.length k (begun ++ [(j : Int)]) b) (dfs (updG (fun _ => true) (mixV f g x y js)) js.length k (begun ++ [(i : Int)]) b') := by
          rw [hx, show begun.any (· == (i : Int)) = false from c1]; rfl
        have hni : (i : Int) ∉ begun := fun g => by rw [hasL_iff'.2 g] at c1; cases c1
        simp -implicitDefEqProofs [hlt, CL_ret rh, c1]
        refine CG_post (l1Own_run (Bs.pre H.pre) (by omega)).new fun v5 h5 ⟨⟨hp5, ho5⟩, hn5⟩ => ⟨hn5 hp5, ?_⟩
        have H5 : Holds h' h5 [.own v5 1 (begun.map encI)] := (Holds.start (h := h')).call hp5 ho5
        obtain ⟨v6, h6, ha6, H6, k6, _⟩ := push_I0 H5 0 rfl (i : Int) (by omega)
        have H6' : Holds h' h6 [.own v6 1 ((begun ++ [(i : Int)]).map encI)] := H6
        have n6 : NR h'.length (h5 ++ [some ⟨[.int .i64 (i : Int)], 1, false⟩]) := (hn5 hp5).nr.new [.int .i64 (i : Int)] 1
        have md := app_mod (b := h'.length) rfl n6 ha6 (hp5.trans (List.prefix_append ..)) H6'.pre
        have HH6 := H.ext H6'.pre
        have ih := l11Mix_run hg hn hf hg8 hx0 hy0 (k := k) (Js.pre HH6.pre) (H6'.sees 0 rfl) (Ons.pre H6'.pre) (by simp; omega) (fun x hx => by
          rcases List.mem_append.1 hx with g | g
          · exact hin x g
          · rw [List.mem_singleton.1 g]; omega) (List.nodup_append.2 ⟨hnd, by simp, fun a ha c hc => by rw [List.mem_singleton.1 hc]; intro e; exact hni (e ▸ ha)⟩) hbl
        obtain ⟨d1, d2, d3, rfl⟩ : ∃ a n c, v5 = .slice a n c := by obtain ⟨a, c, e⟩ := ho5.sees.shape; exact ⟨_, _, _, e⟩
        obtain ⟨e1, e2, e3, rfl⟩ : ∃ a n c, v6 = .slice a n c := by obtain ⟨a, c, e⟩ := (H6'.sees 0 rfl).shape; exact ⟨_, _, _, e⟩
        simp -implicitDefEqProofs [ha6, md, HH6.bl 0 3 rfl rfl]
        refine CL_post ih fun v h7 ⟨hp7, hb7, vo7, ev7, O7⟩ => ?_
        subst ev7
        generalize dfs (updG (fun _ => true) (mixV f g x y js)) js.length k (begun ++ [(i : Int)]) b' = b7 at hx' hb7 O7
        have O7s := O7
        obtain ⟨f1, f2, rfl⟩ := O7.shapeT
        have H7 := HH6.ext hp7
        obtain ⟨h8, s8, H8, k8⟩ := H7.set (P := P) 0 (n := 3) (o := 0) (ty := t_spec_l2Search) (w := sv3 (.slice f1 b7.o.length f2) b7) rfl rfl e_t_spec_l2Search (by simp) (by simp) (by simp)
        have bx := H7.box 0 rfl
        simp -implicitDefEqProofs [s8, wi]
        exact ⟨m', by omega, on hI ⟨i + 1, b7, _, by omega, rfl, hx', hb7, Sees.boxK O7s (by omega) bx k8, by simpa using H8⟩⟩
      · have hx' : X = (List.range' (i + 1) m').foldl (fun b (j : Nat) => if begun.any (· == (j : Int)) = true then b else dfs (updG (fun _ => true) (mixV f g x y js)) js.length k (begun ++ [(j : Int)]) b) b' := by
          rw [hx, show begun.any (· == (i : Int)) = true from c1]; rfl
        simp -implicitDefEqProofs [hlt, CL_ret rh, c1, wi]
        exact ⟨m', by omega, on hI ⟨i + 1, b', _, by omega, rfl, hx', hbl, Ons, H⟩⟩
    · have hm : m = 0 := by omega
      subst hm
      have hx' : X = b' := by simpa using hx
      subst hx'
      obtain ⟨h8, s8, H8, k8⟩ := H.set (P := P) 1 (n := 3) (o := 0) (ty := t_spec_l2Search) (w := sv3 (.slice oq X.o.length cn) X) rfl rfl e_t_spec_l2Search (by simp) (by simp) (by simp)
      simp -implicitDefEqProofs [hlt, H.bl 0 3 rfl rfl, s8, H8.bl 1 3 rfl rfl]
      exact onK hK ⟨pre_gcU H8.pre, hbl, _, rfl, Sees.gcU (Sees.boxK Ons (by omega) (H.box 1 rfl) k8) plain3⟩

theorem l11Under_run {js : List Job} {f g lim : Int} (hg : goodL js = true) (hn : js.length ≤ 8) (hf : 1 ≤ f ∧ f ≤ 8) (hg8 : 1 ≤ g ∧ g ≤ 8) : ∀ {k : Nat} {h : Hp} {vj vb vo : Value} {begun : List Int} {b : Sr}, Jobs h vj js → Ints h vb begun → Ints h vo b.o → begun.length + k = js.length → inN js.length begun → begun.Nodup → b.o.length ≤ 8 →
    RunsC P G n_spec_l11Under [vj, vb, .int .i64 f, .int .i64 g, .int .i64 lim, sv3 vo b] h fun v h' => h <+: h' ∧ (dfs (updG (fun xs => decide (valX g js xs ≤ lim)) (valX f js)) js.length k begun b).o.length ≤ 8 ∧ ∃ vo', v = sv3 vo' (dfs (updG (fun xs => decide (valX g js xs ≤ lim)) (valX f js)) js.length k begun b) ∧ Ints h' vo' (dfs (updG (fun xs => decide (valX g js xs ≤ lim)) (valX f js)) js.length k begun b).o
  | 0, h, vj, vb, vo, begun, b, J, B, O, hk, hin, hnd, hol => by
    refine hideC fun K hK => enter_run e_spec_l11Under (by simp) ?_
    have Js := J
    have Bs := B
    have Os := O
    obtain ⟨oj, cj, rfl⟩ := J.shapeT
    obtain ⟨ob, cb, rfl⟩ : ∃ a c, vb = .slice a js.length c := by obtain ⟨a, c, e⟩ := B.shapeT; exact ⟨a, c, by rw [e]; congr 1⟩
    obtain ⟨od, cd, rfl⟩ := O.shapeT
    have hx : Ord js.length begun := ⟨by omega, hin, hnd⟩
    have hl : begun.length = js.length := hx.len
    have H0 := (Holds.start.alloc [.slice od b.o.length cd, .int .i64 b.v, .int .i64 b.c] (h := h)).alloc [.slice none 0 0, .int .i64 0, .int .i64 0]
    simp only [List.append_assoc, List.cons_append, List.nil_append, List.length_append, List.length_cons, List.length_nil, Nat.zero_add] at H0
    have rp := l11Point_run (f := f) (g := g) (Js.pre H0.pre) (Bs.pre H0.pre) hg hn hf hg8 hx
    have b1 := valX_bd (o := f) hg hn hx
    have b2 := valX_bd (o := g) hg hn hx
    have e1 : (ptX f g js begun).1 = valX f js begun := rfl
    have e2 : (ptX f g js begun).2 = valX g js begun := rfl
    rw [← e1] at b1
    rw [← e2] at b2
    rw [dfs] at hK
    generalize hP : ptX f g js begun = p at *
    have hV : valX f js begun = p.1 := by rw [← hP]; rfl
    have hW : valX g js begun = p.2 := by rw [← hP]; rfl
    have H1 := H0.alloc [.int .i64 p.1, .int .i64 p.2]
    simp only [List.append_assoc, List.cons_append, List.nil_append, List.length_append, List.length_cons, List.length_nil, Nat.zero_add, Nat.add_assoc, Nat.reduceAdd] at H1
    have lp := H1.bl (P := P) 2 2 rfl rfl
    have lb := H1.bl (P := P) 0 3 rfl rfl
    have other : ¬ (p.2 ≤ lim ∧ (b.c = 0 ∨ p.1 < b.v)) → ∃ h2, storeP P (h ++ [some ⟨[.slice od b.o.length cd, .int .i64 b.v, .int .i64 b.c], 0, false⟩, some ⟨[.slice none 0 0, .int .i64 0, .int .i64 0], 0, false⟩, some ⟨[.int .i64 p.1, .int .i64 p.2], 0, false⟩]) t_spec_l2Search (sv3 (.slice od b.o.length cd) b) (.pointer (some ⟨h.length + 1, 0, some 3⟩)) = some h2 ∧
        loadP P h2 t_spec_l2Search (.pointer (some ⟨h.length + 1, 0, some 3⟩)) = some (sv3 (.slice od b.o.length cd) b) ∧ K (sv3 (.slice od b.o.length cd) b) (gc h h2 (sv3 (.slice od b.o.length cd) b)) := fun c1 => by
      have e : updG (fun xs => decide (valX g js xs ≤ lim)) (valX f js) b begun = b := by unfold updG; simp only [hV, hW, decide_eq_true_eq]; rw [if_neg c1]
      rw [e] at hK
      obtain ⟨h2, s2, H2, k2⟩ := H1.set (P := P) 1 (n := 3) (o := 0) (ty := t_spec_l2Search) (w := sv3 (.slice od b.o.length cd) b) rfl rfl e_t_spec_l2Search (by simp) (by simp) (by simp)
      have l2 := H2.bl (P := P) 1 3 rfl rfl
      exact ⟨h2, s2, by rw [l2]; simp, onK hK ⟨pre_gcU H2.pre, hol, _, rfl, Sees.gcU (Os.pre H2.pre) plain3⟩⟩
    have self : p.2 ≤ lim ∧ (b.c = 0 ∨ p.1 < b.v) → ∃ h2, storeP P (h ++ [some ⟨[.slice od b.o.length cd, .int .i64 b.v, .int .i64 b.c], 0, false⟩, some ⟨[.slice none 0 0, .int .i64 0, .int .i64 0], 0, false⟩, some ⟨[.int .i64 p.1, .int .i64 p.2], 0, false⟩]) t_spec_l2Search (sv3 (.slice ob js.length cb) ⟨begun, p.1, 1⟩) (.pointer (some ⟨h.length + 1, 0, some 3⟩)) = some h2 ∧
        loadP P h2 t_spec_l2Search (.pointer (some ⟨h.length + 1, 0, some 3⟩)) = some (sv3 (.slice ob js.length cb) ⟨begun, p.1, 1⟩) ∧ K (sv3 (.slice ob js.length cb) ⟨begun, p.1, 1⟩) (gc h h2 (sv3 (.slice ob js.length cb) ⟨begun, p.1, 1⟩)) := fun c1 => by
      have e : updG (fun xs => decide (valX g js xs ≤ lim)) (valX f js) b begun = ⟨begun, p.1, 1⟩ := by unfold updG; simp only [hV, hW, decide_eq_true_eq]; rw [if_pos c1]
      rw [e] at hK
      obtain ⟨h2, s2, H2, _⟩ := H1.set (P := P) 1 (n := 3) (o := 0) (ty := t_spec_l2Search) (w := sv3 (.slice ob js.length cb) ⟨begun, p.1, 1⟩) rfl rfl e_t_spec_l2Search (by simp) (by simp) (by simp)
      have l2 := H2.bl (P := P) 1 3 rfl rfl
      exact ⟨h2, s2, by rw [l2]; simp, onK hK ⟨pre_gcU H2.pre, by rw [hl]; exact hn, _, rfl, Sees.gcU (Bs.pre H2.pre) plain3⟩⟩
    by_cases c0 : p.2 ≤ lim
    · rcases Classical.em (b.c = 0) with c2 | c2
      · obtain ⟨h2, s2, l2, fin⟩ := self ⟨c0, .inl c2⟩
        simp -implicitDefEqProofs [-storeP_app0, CL_ret rp, ia20, ia21, lp, lb, c0, show (b.c == 0) = true by simpa using c2, s2, l2]
        exact fin
      · by_cases c3 : p.1 < b.v
        · obtain ⟨h2, s2, l2, fin⟩ := self ⟨c0, .inr c3⟩
          simp -implicitDefEqProofs [-storeP_app0, CL_ret rp, ia20, ia21, lp, lb, c0, nb c2, c3, s2, l2]
          exact fin
        · obtain ⟨h2, s2, l2, fin⟩ := other (fun q => by rcases q.2 with g | g; exact c2 g; exact c3 g)
          simp -implicitDefEqProofs [-storeP_app0, CL_ret rp, ia20, ia21, lp, lb, c0, nb c2, c3, s2, l2]
          exact fin
    · obtain ⟨h2, s2, l2, fin⟩ := other (fun q => c0 q.1)
      simp -implicitDefEqProofs [-storeP_app0, CL_ret rp, ia20, ia21, lp, lb, c0, s2, l2]
      exact fin
  | k + 1, h, vj, vb, vo, begun, b, J, B, O, hk, hin, hnd, hol => by
    refine hideC fun K hK => enter_run e_spec_l11Under (by simp) ?_
    have Js := J
    have Bs := B
    have Os := O
    obtain ⟨oj, cj, rfl⟩ := J.shapeT
    obtain ⟨ob, cb, rfl⟩ := B.shapeT
    obtain ⟨od, cd, rfl⟩ := O.shapeT
    have hne : ((begun.length : Int) == (js.length : Int)) = false := nb (by omega)
    have H0 := (Holds.start.alloc [.slice od b.o.length cd, .int .i64 b.v, .int .i64 b.c] (h := h)).alloc [.slice none 0 0, .int .i64 0, .int .i64 0]
    simp only [List.append_assoc, List.cons_append, List.nil_append, List.length_append, List.length_cons, List.length_nil, Nat.zero_add] at H0
    generalize hX : dfs (updG (fun xs => decide (valX g js xs ≤ lim)) (valX f js)) js.length (k + 1) begun b = X at hK
    rw [dfs] at hX
    have hne' : ¬ begun.length = js.length := by omega
    simp -implicitDefEqProofs [hne, hne']
    refine R_loopO (fun m st h' => ∃ (i : Nat) (b' : Sr) (vo' : Value), i + m = js.length ∧ st = [(0, .slice oj js.length cj), (1, .slice ob begun.length cb), (2, .int .i64 f), (3, .int .i64 g), (4, .int .i64 lim), (11, .pointer (some ⟨h.length, 0, some 3⟩)), (12, .pointer (some ⟨h.length + 1, 0, some 3⟩)), (14, .int .i64 i)] ∧
      X = (List.range' i m).foldl (fun b (j : Nat) => if begun.any (· == (j : Int)) = true then b else dfs (updG (fun xs => decide (valX g js xs ≤ lim)) (valX f js)) js.length k (begun ++ [(j : Int)]) b) b' ∧ b'.o.length ≤ 8 ∧ Ints h' vo' b'.o ∧
      Holds h h' [.box h.length [vo', .int .i64 b'.v, .int .i64 b'.c], .box (h.length + 1) [.slice none 0 0, .int .i64 0, .int .i64 0]]) (fun I hI m st h' => ?_) (n := js.length)
      ⟨0, b, .slice od b.o.length cd, Nat.zero_add _, by simp, hX.symm, hol, Os.pre H0.pre, H0⟩
    rintro ⟨i, b', vo', hi, rfl, hx, hbl, O', H⟩
    have Ons := O'
    obtain ⟨oq, cn, rfl⟩ := O'.shapeT
    by_cases hlt : i < js.length
    · obtain ⟨m', rfl⟩ : ∃ m', m = m' + 1 := ⟨m - 1, by omega⟩
      rw [List.range'_succ, List.foldl_cons] at hx
      have rh := l1Has_run (x := (i : Int)) (Bs.pre H.pre) (by omega)
      have wi := winc hlt (show js.length ≤ 2 ^ 40 by omega)
      cases c1 : hasL (i : Int) begun
      · have hx' : X = (List.range' (i + 1) m').foldl (fun b (j : Nat) => if begun.any (· == (j : Int)) = true then b else dfs (updG (fun xs => decide (valX g js xs ≤ lim)) (valX f js)) js.length k (begun ++ [(j : Int)]) b) (dfs (updG (fun xs => decide (valX g js xs ≤ lim)) (valX f js)) js.length k (begun ++ [(i : Int)]) b') := by
          rw [hx, show begun.any (· == (i : Int)) = false from c1]; rfl
        have hni : (i : Int) ∉ begun := fun g => by rw [hasL_iff'.2 g] at c1; cases c1
        simp -implicitDefEqProofs [hlt, CL_ret rh, c1]
        refine CG_post (l1Own_run (Bs.pre H.pre) (by omega)).new fun v5 h5 ⟨⟨hp5, ho5⟩, hn5⟩ => ⟨hn5 hp5, ?_⟩
        have H5 : Holds h' h5 [.own v5 1 (begun.map encI)] := (Holds.start (h := h')).call hp5 ho5
        obtain ⟨v6, h6, ha6, H6, k6, _⟩ := push_I0 H5 0 rfl (i : Int) (by omega)
        have H6' : Holds h' h6 [.own v6 1 ((begun ++ [(i : Int)]).map encI)] := H6
        have n6 : NR h'.length (h5 ++ [some ⟨[.int .i64 (i : Int)], 1, false⟩]) := (hn5 hp5).nr.new [.int .i64 (i : Int)] 1
        have md := app_mod (b := h'.length) rfl n6 ha6 (hp5.trans (List.prefix_append ..)) H6'.pre
        have HH6 := H.ext H6'.pre
        have ih := l11Under_run hg hn hf hg8 (lim := lim) (k := k) (Js.pre HH6.pre) (H6'.sees 0 rfl) (Ons.pre H6'.pre) (by simp; omega) (fun x hx => by
          rcases List.mem_append.1 hx with g | g
          · exact hin x g
          · rw [List.mem_singleton.1 g]; omega) (List.nodup_append.2 ⟨hnd, by simp, fun a ha c hc => by rw [List.mem_singleton.1 hc]; intro e; exact hni (e ▸ ha)⟩) hbl
        obtain ⟨d1, d2, d3, rfl⟩ : ∃ a n c, v5 = .slice a n c := by obtain ⟨a, c, e⟩ := ho5.sees.shape; exact ⟨_, _, _, e⟩
        obtain ⟨e1, e2, e3, rfl⟩ : ∃ a n c, v6 = .slice a n c := by obtain ⟨a, c, e⟩ := (H6'.sees 0 rfl).shape; exact ⟨_, _, _, e⟩
        simp -implicitDefEqProofs [ha6, md, HH6.bl 0 3 rfl rfl]
        refine CL_post ih fun v h7 ⟨hp7, hb7, vo7, ev7, O7⟩ => ?_
        subst ev7
        generalize dfs (updG (fun xs => decide (valX g js xs ≤ lim)) (valX f js)) js.length k (begun ++ [(i : Int)]) b' = b7 at hx' hb7 O7
        have O7s := O7
        obtain ⟨f1, f2, rfl⟩ := O7.shapeT
        have H7 := HH6.ext hp7
        obtain ⟨h8, s8, H8, k8⟩ := H7.set (P := P) 0 (n := 3) (o := 0) (ty := t_spec_l2Search) (w := sv3 (.slice f1 b7.o.length f2) b7) rfl rfl e_t_spec_l2Search (by simp) (by simp) (by simp)
        have bx := H7.box 0 rfl
        simp -implicitDefEqProofs [s8, wi]
        exact ⟨m', by omega, on hI ⟨i + 1, b7, _, by omega, rfl, hx', hb7, Sees.boxK O7s (by omega) bx k8, by simpa using H8⟩⟩
      · have hx' : X = (List.range' (i + 1) m').foldl (fun b (j : Nat) => if begun.any (· == (j : Int)) = true then b else dfs (updG (fun xs => decide (valX g js xs ≤ lim)) (valX f js)) js.length k (begun ++ [(j : Int)]) b) b' := by
          rw [hx, show begun.any (· == (i : Int)) = true from c1]; rfl
        simp -implicitDefEqProofs [hlt, CL_ret rh, c1, wi]
        exact ⟨m', by omega, on hI ⟨i + 1, b', _, by omega, rfl, hx', hbl, Ons, H⟩⟩
    · have hm : m = 0 := by omega
      subst hm
      have hx' : X = b' := by simpa using hx
      subst hx'
      obtain ⟨h8, s8, H8, k8⟩ := H.set (P := P) 1 (n := 3) (o := 0) (ty := t_spec_l2Search) (w := sv3 (.slice oq X.o.length cn) X) rfl rfl e_t_spec_l2Search (by simp) (by simp) (by simp)
      simp -implicitDefEqProofs [hlt, H.bl 0 3 rfl rfl, s8, H8.bl 1 3 rfl rfl]
      exact onK hK ⟨pre_gcU H8.pre, hbl, _, rfl, Sees.gcU (Sees.boxK Ons (by omega) (H.box 1 rfl) k8) plain3⟩

end Go.Pm.PP

/- Least mixtures, by both. -/
set_option linter.unusedVariables false
set_option linter.unusedSimpArgs false
set_option maxRecDepth 4000
set_option maxHeartbeats 16000000
namespace Go.Pm.PP
open Go.Pm Go.Proofs Go.Pm.PE
def bxM (p q : Nat) (b : Sr) : List Asn := [.box p [.int .i64 b.v], .box q [.bool !(b.c == 0)]]
theorem gcM {hb h h' : Hp} {p q : Nat} {u : Value} {b b' : Sr} {L : List Asn} (HL : Holds hb h (bxM p q b ++ L)) (H' : Holds hb h' (bxM p q b' ++ L)) : Holds hb (gc h h' u) (bxM p q b' ++ L) := by
  rcases gc_cases' h h' u with g | ⟨hp, g⟩
  · rw [g]; exact H'
  · have e1 := HL.box (cs := [.int .i64 b.v]) (r := p) 0 rfl
    have e2 := H'.box (cs := [.int .i64 b'.v]) (r := p) 0 rfl
    have e3 := HL.box (cs := [.bool !(b.c == 0)]) (r := q) 1 rfl
    have e4 := H'.box (cs := [.bool !(b'.c == 0)]) (r := q) 1 rfl
    obtain ⟨t, rfl⟩ := hp
    rw [List.getElem?_append_left (List.getElem?_eq_some_iff.1 e1).1, e1] at e2
    rw [List.getElem?_append_left (List.getElem?_eq_some_iff.1 e3).1, e3] at e4
    have q1 : b.v = b'.v := by cases b; cases b'; cases e2; rfl
    have q2 : (b.c == 0) = (b'.c == 0) := by
      have e5 : (!(b.c == 0)) = !(b'.c == 0) := by
        injection e4 with e4; injection e4 with e4; injection e4 with e4; injection e4 with e4; injection e4 with e4
      cases g1 : b.c == 0 <;> cases g2 : b'.c == 0 <;> simp [g1, g2] at e5 ⊢
    rw [g, bxM, ← q1, ← q2]
    exact HL
theorem tellM_run {hb h : Hp} {p q rj rf rg rx ry : Nat} {vj vg : Value} {js : List Job} {f g x y : Int} {xs : List Int} {b : Sr} (J : Jobs hb vj js)
    (bj : hb[rj]? = some (some ⟨[vj], 0, false⟩)) (bf : hb[rf]? = some (some ⟨[.int .i64 f], 0, false⟩)) (bg : hb[rg]? = some (some ⟨[.int .i64 g], 0, false⟩)) (bx : hb[rx]? = some (some ⟨[.int .i64 x], 0, false⟩)) (by' : hb[ry]? = some (some ⟨[.int .i64 y], 0, false⟩))
    (hgd : goodL js = true) (hn : js.length ≤ 8) (hf : 1 ≤ f ∧ f ≤ 8) (hg8 : 1 ≤ g ∧ g ≤ 8) (hx0 : 0 ≤ x ∧ x ≤ 99) (hy0 : 0 ≤ y ∧ y ≤ 99) (hx : Ord js.length xs) (H : Holds hb h (bxM p q b ++ [.own vg 1 (xs.map encI)])) :
    RunsC P G n_impl_LeastMix_1 [vg, .pointer (some ⟨rj, 0, some 1⟩), .pointer (some ⟨rf, 0, some 1⟩), .pointer (some ⟨rg, 0, some 1⟩), .pointer (some ⟨rx, 0, some 1⟩), .pointer (some ⟨ry, 0, some 1⟩), .pointer (some ⟨q, 0, some 1⟩), .pointer (some ⟨p, 0, some 1⟩)] h fun v h' =>
      ∀ L, Holds hb h (bxM p q b ++ L) → Holds hb h' (bxM p q (updG (fun _ => true) (mixV f g x y js) b xs) ++ L) := by
  refine hideC fun K hK => enter_run e_impl_LeastMix_1 (by simp) ?_
  have Js := J
  obtain ⟨oj, cj, rfl⟩ := J.shapeT
  have Sg : Ints h vg xs := H.sees 2 rfl
  obtain ⟨g1, g3, rfl⟩ : ∃ a c, vg = .slice a xs.length c := Sg.shapeT
  have lj := load_pre H.pre bj (n := 1) rfl
  have lf := load_pre H.pre bf (n := 1) rfl
  have lg := load_pre H.pre bg (n := 1) rfl
  have rp := pointOf_run (f := f) (g := g) (Js.pre H.pre) Sg hgd hn hf hg8 hx
  have b1 := valX_bd (o := f) hgd hn hx
  have b2 := valX_bd (o := g) hgd hn hx
  have e1 : (ptX f g js xs).1 = valX f js xs := rfl
  have e2 : (ptX f g js xs).2 = valX g js xs := rfl
  rw [← e1] at b1
  rw [← e2] at b2
  generalize hP : ptX f g js xs = pt at *
  have hV : mixV f g x y js xs = x * pt.1 + y * pt.2 := by rw [← hP]; rfl
  have m1 := mul99 hx0 b1
  have m2 := mul99 hy0 b2
  have w1 : IntKind.i64.wrap (x * pt.1) = x * pt.1 := by rw [wrap_ok] <;> omega
  have w2 : IntKind.i64.wrap (y * pt.2) = y * pt.2 := by rw [wrap_ok] <;> omega
  have w3 : IntKind.i64.wrap (x * pt.1 + y * pt.2) = x * pt.1 + y * pt.2 := by rw [wrap_ok] <;> omega
  have N1 := (Holds.start (h := h)).alloc [.int .i64 pt.1, .int .i64 pt.2]
  have pN : h <+: h ++ [some ⟨[.int .i64 pt.1, .int .i64 pt.2], 0, false⟩] := List.prefix_append ..
  have lp := N1.bl (P := P) 0 2 rfl rfl
  have lx := load_pre (H.pre.trans pN) bx (n := 1) rfl
  have ly := load_pre (H.pre.trans pN) by' (n := 1) rfl
  have HN := H.ext pN
  have lv := HN.bl (P := P) 0 1 rfl rfl
  have lc := HN.bl (P := P) 1 1 rfl rfl
  by_cases c1 : b.c = 0 ∨ x * pt.1 + y * pt.2 < b.v
  · have e : updG (fun _ => true) (mixV f g x y js) b xs = ⟨xs, x * pt.1 + y * pt.2, 1⟩ := by unfold updG; rw [hV, if_pos ⟨rfl, c1⟩]
    rw [e] at hK
    obtain ⟨h2, s2, H2, _⟩ := HN.set (P := P) 0 (n := 1) (o := 0) (ty := t_int) (w := .int .i64 (x * pt.1 + y * pt.2)) rfl rfl e_t_int (by simp) (by simp) (by simp)
    obtain ⟨h3, s3, H3, _⟩ := H2.set (P := P) 1 (n := 1) (o := 0) (ty := t_bool) (w := .bool true) rfl rfl e_t_bool (by simp) (by simp) (by simp)
    have fin : ∀ u, K u (gc h h3 u) := fun u => onK hK fun L HL => by
      obtain ⟨h2', s2', H2', _⟩ := (HL.ext pN).set (P := P) 0 (n := 1) (o := 0) (ty := t_int) (w := .int .i64 (x * pt.1 + y * pt.2)) rfl rfl e_t_int (by simp) (by simp) (by simp)
      rw [s2] at s2'; cases s2'
      obtain ⟨h3', s3', H3', _⟩ := H2'.set (P := P) 1 (n := 1) (o := 0) (ty := t_bool) (w := .bool true) rfl rfl e_t_bool (by simp) (by simp) (by simp)
      rw [s3] at s3'; cases s3'
      exact gcM (b' := ⟨xs, x * pt.1 + y * pt.2, 1⟩) HL H3'
    rcases Classical.em (b.c = 0) with c2 | c2
    · simp -implicitDefEqProofs [lj, lf, lg, CL_ret rp, ia20, ia21, lp, lx, ly, lv, lc, w1, w2, w3, show (b.c == 0) = true by simpa using c2, s2, s3]
      exact fin _
    · have c3 : x * pt.1 + y * pt.2 < b.v := by rcases c1 with g | g; exact absurd g c2; exact g
      simp -implicitDefEqProofs [lj, lf, lg, CL_ret rp, ia20, ia21, lp, lx, ly, lv, lc, w1, w2, w3, nb c2, c3, s2, s3]
      exact fin _
  · have e : updG (fun _ => true) (mixV f g x y js) b xs = b := by unfold updG; rw [hV, if_neg (fun q => c1 q.2)]
    rw [e] at hK
    have c2 : ¬ b.c = 0 := fun g => c1 (.inl g)
    have c3 : ¬ x * pt.1 + y * pt.2 < b.v := fun g => c1 (.inr g)
    simp -implicitDefEqProofs [lj, lf, lg, CL_ret rp, ia20, ia21, lp, lx, ly, lv, lc, w1, w2, w3, nb c2, c3]
    exact onK hK fun L HL => gcM HL (HL.ext pN)
def mixOk (js : List Job) (f g x y : Int) : Bool := aTwo js f g && inB x 0 99 && inB y 0 99
def mixB (js : List Job) (f g x y : Int) : Sr := bestG (fun _ => true) (mixV f g x y js) js.length
def mixR (js : List Job) (f g x y : Int) : Int := if mixOk js f g x y = true then (mixB js f g x y).v else 0
section
variable {h : Hp} {vj v u : Value} {js : List Job} {xs : List Int} {f g x y : Int}
theorem in99 (h : inB x 0 99 = true) : 0 ≤ x ∧ x ≤ 99 := by simpa [inB] using h
theorem implLeastMix_run (J : Jobs h vj js) (hl : js.length ≤ 2 ^ 40) : RunsC P G n_impl_LeastMix [vj, .int .i64 f, .int .i64 g, .int .i64 x, .int .i64 y] h fun w h' => h <+: h' ∧ w = .tuple #[.int .i64 (mixR js f g x y), .bool (mixOk js f g x y)] := by
  refine hideC fun K hK => enter_run e_impl_LeastMix (by simp) ?_
  have Js := J
  obtain ⟨oj, cj, rfl⟩ := J.shapeT
  have H0 := (((((Holds.start (h := h)).alloc [.slice oj js.length cj]).alloc [.int .i64 f]).alloc [.int .i64 g]).alloc [.int .i64 x]).alloc [.int .i64 y]
  simp only [List.append_assoc, List.cons_append, List.nil_append, List.length_append, List.length_cons, List.length_nil, Nat.zero_add] at H0
  have r1 := areTwo_run (f := f) (g := g) (Js.pre H0.pre) hl
  have bad : mixOk js f g x y = false → K (.tuple #[.int .i64 0, .bool false]) h := fun e => onK hK ⟨List.prefix_rfl, by rw [mixR, e]; rfl⟩
  have bad' : mixOk js f g x y = false → ∀ l, K (.tuple #[.int .i64 0, .bool false]) (gc h (h ++ l) (.tuple #[.int .i64 0, .bool false])) := fun e l => onK hK ⟨pre_gcU (List.prefix_append ..), by rw [mixR, e]; rfl⟩
  cases c1 : aTwo js f g
  · rw [c1] at r1
    simp -implicitDefEqProofs [CL_ret r1]
    exact bad (by rw [mixOk, c1]; rfl)
  cases c2 : inB x 0 99
  · rw [c1] at r1
    simp -implicitDefEqProofs [CL_ret r1, CL_ret within_run, c2]
    exact bad (by rw [mixOk, c1, c2]; rfl)
  cases c3 : inB y 0 99
  · rw [c1] at r1
    simp -implicitDefEqProofs [CL_ret r1, CL_ret within_run, c2, c3]
    exact bad (by rw [mixOk, c1, c2, c3]; rfl)
  have cm : mixOk js f g x y = true := by rw [mixOk, c1, c2, c3]; rfl
  rw [mixR, cm, if_pos rfl] at hK
  rw [c1] at r1
  obtain ⟨hn, hg, hf, hg8⟩ := aTwo_of c1
  generalize hHb : h ++ [some ⟨[.slice oj js.length cj], 0, false⟩, some ⟨[.int .i64 f], 0, false⟩, some ⟨[.int .i64 g], 0, false⟩, some ⟨[.int .i64 x], 0, false⟩, some ⟨[.int .i64 y], 0, false⟩] = hb at H0
  have hbl : hb.length = h.length + 1 + 1 + 1 + 1 + 1 := by rw [← hHb]; simp
  have E : Holds hb (hb ++ [some ⟨[.int .i64 0], 0, false⟩, some ⟨[.bool false], 0, false⟩]) (bxM hb.length (hb.length + 1) sr0 ++ []) := by
    have := ((Holds.start (h := hb)).alloc [.int .i64 0]).alloc [.bool false]
    simp only [List.append_assoc, List.cons_append, List.nil_append, List.length_append, List.length_cons, List.length_nil, Nat.zero_add] at this
    exact this
  have er := eachOrder_run (hb := hb) (g := n_impl_LeastMix_1) (c := #[.pointer (some ⟨h.length, 0, some 1⟩), .pointer (some ⟨h.length + 1, 0, some 1⟩), .pointer (some ⟨h.length + 1 + 1, 0, some 1⟩), .pointer (some ⟨h.length + 1 + 1 + 1, 0, some 1⟩), .pointer (some ⟨h.length + 1 + 1 + 1 + 1, 0, some 1⟩), .pointer (some ⟨hb.length + 1, 0, some 1⟩), .pointer (some ⟨hb.length, 0, some 1⟩)]) hn
    (Q := fun i BX => BX = bxM hb.length (hb.length + 1) (((ordsL js.length).take i).foldl (updG (fun _ => true) (mixV f g x y js)) sr0))
    (fun i BX i' BX' h h' L u e e' HL H' => by
      subst e; subst e'
      exact gcM HL H')
    (fun i xs h BX vg eBX hxs HB => by
      subst eBX
      have ox := ords_ord (List.mem_of_getElem? hxs)
      refine RunsC.mono (tellM_run (Js.pre H0.pre) (H0.box 0 rfl) (H0.box 1 rfl) (H0.box 2 rfl) (H0.box 3 rfl) (H0.box 4 rfl) hg hn hf hg8 (in99 c2) (in99 c3) ox HB) fun v h' Fx => ?_
      refine ⟨_, rfl, fun L HL => ?_⟩
      rw [take_succ' hxs, List.foldl_append, List.foldl_cons, List.foldl_nil]
      exact Fx L HL) rfl E
  have hcount : hb ++ [some ⟨[.int .i64 0], 0, false⟩, some ⟨[.bool false], 0, false⟩] = h ++ [some ⟨[.slice oj js.length cj], 0, false⟩, some ⟨[.int .i64 f], 0, false⟩, some ⟨[.int .i64 g], 0, false⟩, some ⟨[.int .i64 x], 0, false⟩, some ⟨[.int .i64 y], 0, false⟩, some ⟨[.int .i64 0], 0, false⟩, some ⟨[.bool false], 0, false⟩] := by rw [← hHb]; simp
  rw [hcount, hbl] at er
  rw [hcount, hbl] at E
  simp -implicitDefEqProofs [CL_ret r1, CL_ret within_run, c2, c3]
  refine CL_post er fun v h4 ⟨BX', eBX, Fx⟩ => ?_
  subst eBX
  have H4 := Fx [] E
  rw [List.take_length] at H4
  have l0 := H4.bl (P := P) 0 1 rfl rfl
  simp -implicitDefEqProofs [l0]
  exact onK hK ⟨pre_gcU (H0.pre.trans H4.pre), rfl⟩
theorem specLeastMix_run (J : Jobs h vj js) (hl : js.length ≤ 2 ^ 40) : RunsC P G n_spec_LeastMix [vj, .int .i64 f, .int .i64 g, .int .i64 x, .int .i64 y] h fun w h' => h <+: h' ∧ w = .tuple #[.int .i64 (mixR js f g x y), .bool (mixOk js f g x y)] := by
  refine hideC fun K hK => enter_run e_spec_LeastMix (by simp) ?_
  have Js := J
  obtain ⟨oj, cj, rfl⟩ := J.shapeT
  have r1 := good_run Js hl
  have bad : mixOk js f g x y = false → K (.tuple #[.int .i64 0, .bool false]) h := fun e => onK hK ⟨List.prefix_rfl, by rw [mixR, e]; rfl⟩
  cases c1 : jOk js
  · simp -implicitDefEqProofs [CL_ret r1, c1]
    exact bad (by rw [mixOk, aTwo_eq, c1]; rfl)
  cases c0 : (inB f 1 8 && inB g 1 8)
  · simp -implicitDefEqProofs [CL_ret r1, c1, CL_ret l11Two_run, c0]
    exact bad (by rw [mixOk, aTwo_eq, c1, c0]; rfl)
  cases c2 : inB x 0 99
  · simp -implicitDefEqProofs [CL_ret r1, c1, CL_ret l11Two_run, c0, CL_ret l1In_run, c2]
    exact bad (by rw [mixOk, c2, Bool.and_false, Bool.false_and])
  cases c3 : inB y 0 99
  · simp -implicitDefEqProofs [CL_ret r1, c1, CL_ret l11Two_run, c0, CL_ret l1In_run, c2, c3]
    exact bad (by rw [mixOk, c3, Bool.and_false])
  have ca : aTwo js f g = true := by rw [aTwo_eq, c1, c0]; rfl
  have cm : mixOk js f g x y = true := by rw [mixOk, ca, c2, c3]; rfl
  rw [mixR, cm, if_pos rfl] at hK
  obtain ⟨hn, hg, hf, hg8⟩ := aTwo_of ca
  have N0 : Ints h (.slice none 0 0) ([] : List Int) := ⟨by simp, none, 0, rfl, .inl ⟨rfl, rfl, rfl⟩⟩
  have r := l11Mix_run hg hn hf hg8 (in99 c2) (in99 c3) (k := js.length) (b := sr0) Js N0 N0 (by simp) (fun x hx => by cases hx) List.nodup_nil (by simp [sr0])
  rw [bestG_dfs] at r
  simp -implicitDefEqProofs [CL_ret r1, c1, CL_ret l11Two_run, c0, CL_ret l1In_run, c2, c3]
  refine CL_post r fun v h1 ⟨hp1, _, vo, ev, O1⟩ => ?_
  subst ev
  simp -implicitDefEqProofs
  exact onK hK ⟨pre_gcU hp1, rfl⟩
end
end Go.Pm.PP

/- Supported points, by both. -/
set_option linter.unusedVariables false
set_option linter.unusedSimpArgs false
set_option maxRecDepth 4000
set_option maxHeartbeats 16000000
namespace Go.Pm.PP
open Go.Pm Go.Proofs Go.Pm.PE
def belV (r p q : Pt) : Bool := decide ((p.2 - q.2) * (p.1 - r.1) ≤ (r.2 - p.2) * (q.1 - p.1))
theorem belV_eq {r p q : Pt} : decide ((p.2 - r.2) * (q.1 - r.1) ≤ (q.2 - r.2) * (p.1 - r.1)) = belV r p q := by
  unfold belV
  rw [Bool.eq_iff_iff, decide_eq_true_eq, decide_eq_true_eq]
  simp only [Int.sub_mul, Int.mul_sub]
  omega
def PBd (q : Pt) : Prop := (-(2 ^ 30) ≤ q.1 ∧ q.1 ≤ 2 ^ 30) ∧ -(2 ^ 30) ≤ q.2 ∧ q.2 ≤ 2 ^ 30
theorem mul_ab {a b : Int} (ha : -(2 ^ 31) ≤ a ∧ a ≤ 2 ^ 31) (hb : -(2 ^ 31) ≤ b ∧ b ≤ 2 ^ 31) : -(2 ^ 62) ≤ a * b ∧ a * b ≤ 2 ^ 62 := by
  have key : ∀ {a b : Int}, 0 ≤ a → a ≤ 2 ^ 31 → -(2 ^ 31) ≤ b → b ≤ 2 ^ 31 → -(2 ^ 62) ≤ a * b ∧ a * b ≤ 2 ^ 62 := fun {a b} h1 h2 h3 h4 => by
    have u := Int.mul_le_mul_of_nonneg_left h4 h1
    have l := Int.mul_le_mul_of_nonneg_left h3 h1
    constructor <;> omega
  rcases Int.le_total 0 a with h | h
  · exact key h ha.2 hb.1 hb.2
  · have := key (a := -a) (b := b) (by omega) (by omega) hb.1 hb.2
    rw [Int.neg_mul] at this
    omega
theorem wsub {a b : Int} (ha : -(2 ^ 30) ≤ a ∧ a ≤ 2 ^ 30) (hb : -(2 ^ 30) ≤ b ∧ b ≤ 2 ^ 30) : IntKind.i64.wrap (a - b) = a - b ∧ -(2 ^ 31) ≤ a - b ∧ a - b ≤ 2 ^ 31 := ⟨by rw [wrap_ok] <;> omega, by omega, by omega⟩
theorem wmul {a b : Int} (ha : -(2 ^ 31) ≤ a ∧ a ≤ 2 ^ 31) (hb : -(2 ^ 31) ≤ b ∧ b ≤ 2 ^ 31) : IntKind.i64.wrap (a * b) = a * b := by
  have := mul_ab ha hb
  rw [wrap_ok] <;> omega
def supAt (F : List Pt) (k : Nat) (p : Pt) : Bool := (F.take k).all fun r => (F.drop (k + 1)).all fun q => belV r p q
def supP (F : List Pt) : Nat → List Pt → List Pt
  | _, [] => []
  | k, p :: l => if supAt F k p = true then p :: supP F (k + 1) l else supP F (k + 1) l
section
variable {h : Hp} {vj v u vf : Value} {js : List Job} {F : List Pt} {f g : Int}
theorem l11Below_run {r p q : Pt} (hr : PBd r) (hp : PBd p) (hq : PBd q) : Ret P G n_spec_l11Below [ptv r, ptv p, ptv q] h (.bool (belV r p q)) h := by
  refine enter_run e_spec_l11Below (by simp) ?_
  have H := (((Holds.start (h := h)).alloc [.int .i64 r.1, .int .i64 r.2]).alloc [.int .i64 p.1, .int .i64 p.2]).alloc [.int .i64 q.1, .int .i64 q.2]
  simp only [List.append_assoc, List.cons_append, List.nil_append, List.length_append, List.length_cons, List.length_nil, Nat.zero_add] at H
  have l1 := H.bl (P := P) 0 2 rfl rfl
  have l2 := H.bl (P := P) 1 2 rfl rfl
  have l3 := H.bl (P := P) 2 2 rfl rfl
  have w1 := wsub hp.2 hr.2
  have w2 := wsub hq.1 hr.1
  have w3 := wsub hq.2 hr.2
  have w4 := wsub hp.1 hr.1
  rw [← belV_eq]
  simp -implicitDefEqProofs [l1, l2, l3, ia20, ia21, w1.1, w2.1, w3.1, w4.1, wmul w1.2 w2.2, wmul w3.2 w4.2]
theorem l11Supported_run (S : Prs h vf F) (hF : FOk F) (hb : ∀ q, q ∈ F → PBd q) {k : Nat} {p : Pt} (hk : F[k]? = some p) : Ret P G n_spec_l11Supported [vf, .int .i64 k] h (.bool (supAt F k p)) h := by
  refine enter_run e_spec_l11Supported (by simp) ?_
  have Ss := S
  have hFl := hF.len
  obtain ⟨oa, ca, rfl⟩ := S.shapeT
  have hkl := (List.getElem?_eq_some_iff.1 hk).1
  have bp := hb p (List.mem_of_getElem? hk)
  have lk := load_Q Ss hk
  have wk : IntKind.i64.wrap ((k : Int) + 1) = ((k + 1 : Nat) : Int) := by rw [wrap_ok] <;> omega
  have wk' : IntKind.i64.wrap ((k : Int) + 1) = (k : Int) + 1 := by rw [wrap_ok] <;> omega
  simp -implicitDefEqProofs
  refine R_loopO (fun m s h' => ∃ i : Nat, i + m = k ∧ s = [(0, .slice oa F.length ca), (1, .int .i64 k), (5, .int .i64 i)] ∧ supAt F k p = (((F.take k).drop i).all fun r => (F.drop (k + 1)).all fun q => belV r p q) ∧ h' = h) (fun I hI m s h' => ?_) (n := k) ⟨0, Nat.zero_add _, by simp, rfl, rfl⟩
  rintro ⟨i, hi, rfl, hx, rfl⟩
  by_cases hlt : i < k
  · have hlt' : (i : Int) < k := by omega
    obtain ⟨r, hr, hd⟩ := drop_at (show i < (F.take k).length by rw [List.length_take]; omega)
    have hrF : F[i]? = some r := by rw [List.getElem?_take, if_pos hlt] at hr; exact hr
    have br := hb r (List.mem_of_getElem? hrF)
    have lr := load_Q Ss hrF
    rw [hd, List.all_cons] at hx
    simp -implicitDefEqProofs [hlt, hlt', wk']
    refine R_loopO (fun m2 s2 h2 => ∃ j : Nat, (k + 1) + j + m2 = F.length ∧ s2 = [(0, .slice oa F.length ca), (1, .int .i64 k), (5, .int .i64 i), (6, .int .i64 ((k + 1 + j : Nat) : Int))] ∧ supAt F k p = (((F.drop (k + 1 + j)).all fun q => belV r p q) && (((F.take k).drop (i + 1)).all fun r => (F.drop (k + 1)).all fun q => belV r p q)) ∧ h2 = h') (fun I2 hI2 m2 s2 h2 => ?_) (n := F.length - (k + 1))
      ⟨0, by omega, by simp, by simpa using hx, rfl⟩
    rintro ⟨j, hj, rfl, hx2, rfl⟩
    by_cases hlt2 : k + 1 + j < F.length
    · have hlt2' : ((k + 1 + j : Nat) : Int) < F.length := by omega
      have hlt2'' : (k : Int) + 1 + j < F.length := by omega
      obtain ⟨q, hq, hd2⟩ := drop_at hlt2
      have bq := hb q (List.mem_of_getElem? hq)
      have lq := load_Q Ss hq
      have rb := fun {hh : Hp} => l11Below_run (h := hh) br bp bq
      have wj : IntKind.i64.wrap ((k : Int) + 1 + j + 1) = (k : Int) + 1 + j + 1 := by rw [wrap_ok] <;> omega
      simp only [Int.natCast_add, Int.cast_ofNat_Int] at lq
      rw [hd2, List.all_cons] at hx2
      cases c : belV r p q
      · rw [c, Bool.false_and, Bool.false_and] at hx2
        rw [c] at rb
        simp -implicitDefEqProofs [-indexAddrP_some, hlt2, hlt2'', lr, lk, lq, CL_ret rb, CH_at rb, hx2]
      · rw [c, Bool.true_and] at hx2
        rw [c] at rb
        simp -implicitDefEqProofs [-indexAddrP_some, hlt2, hlt2'', lr, lk, lq, CL_ret rb, CH_at rb, wj]
        exact ⟨m2 - 1, by omega, on hI2 ⟨j + 1, by omega, by simp; omega, by rw [hx2]; congr 2, rfl⟩⟩
    · have hlt2'' : ¬ (k : Int) + 1 + j < F.length := by omega
      rw [List.drop_eq_nil_of_le (by omega), List.all_nil, Bool.true_and] at hx2
      simp -implicitDefEqProofs [hlt2, hlt2'', winc hlt (by omega)]
      exact ⟨m - 1, by omega, on hI ⟨i + 1, by omega, rfl, hx2, rfl⟩⟩
  · have hlt' : ¬ (i : Int) < k := by omega
    rw [List.drop_eq_nil_of_le (by rw [List.length_take]; omega), List.all_nil] at hx
    simp -implicitDefEqProofs [hlt, hlt', hx]
end
end Go.Pm.PP

/- Supported points: what both export. -/
set_option linter.unusedVariables false
set_option linter.unusedSimpArgs false
set_option maxRecDepth 4000
set_option maxHeartbeats 16000000
namespace Go.Pm.PP
open Go.Pm Go.Proofs Go.Pm.PE
def spV (js : List Job) (f g : Int) : List Pt := if aTwo js f g = true then supP (frontR f g js) 0 (frontR f g js) else []
theorem supP_len {F : List Pt} : ∀ {l : List Pt} {k : Nat}, (supP F k l).length ≤ l.length
  | [], _ => by simp [supP]
  | p :: l, k => by
    rw [supP]
    have := supP_len (F := F) (l := l) (k := k + 1)
    split <;> simp only [List.length_cons] <;> omega
theorem front_bd {f g : Int} {js : List Job} (hg : goodL js = true) (hn : js.length ≤ 8) : ∀ q, q ∈ frontR f g js → PBd q := fun q hq => by
  obtain ⟨xs, ox, e⟩ := (front_facts (f := f) (g := g) hn).2.1 q hq
  have b1 := valX_bd (o := f) hg hn ox
  have b2 := valX_bd (o := g) hg hn ox
  rw [← e]
  exact ⟨b1, b2⟩
section
variable {h : Hp} {vj v u vf : Value} {js : List Job} {F : List Pt} {f g : Int}
theorem specSupportedPoints_run (J : Jobs h vj js) (hl : js.length ≤ 2 ^ 40) : RunsC P G n_spec_SupportedPoints [vj, .int .i64 f, .int .i64 g] h fun w h' => h <+: h' ∧ ∃ d, w = .tuple #[d, .bool (aTwo js f g)] ∧ Prs h' d (spV js f g) := by
  refine hideC fun K hK => enter_run e_spec_SupportedPoints (by simp) ?_
  have Js := J
  obtain ⟨oj, cj, rfl⟩ := J.shapeT
  have r1 := good_run Js hl
  have bad : aTwo js f g = false → K (.tuple #[.slice none 0 0, .bool false]) h := fun e => by
    rw [spV, e] at hK
    exact onK hK ⟨List.prefix_rfl, _, rfl, ⟨by simp, none, 0, rfl, .inl ⟨rfl, rfl, rfl⟩⟩⟩
  cases c1 : jOk js
  · simp -implicitDefEqProofs [CL_ret r1, c1]
    exact bad (by rw [aTwo_eq, c1]; rfl)
  cases c0 : (inB f 1 8 && inB g 1 8)
  · simp -implicitDefEqProofs [CL_ret r1, c1, CL_ret l11Two_run, c0]
    exact bad (by rw [aTwo_eq, c1, c0]; rfl)
  have ca : aTwo js f g = true := by rw [aTwo_eq, c1, c0]; rfl
  obtain ⟨hn, hg, hf, hg8⟩ := aTwo_of ca
  rw [spV, ca, if_pos rfl] at hK
  have hbd := front_bd (f := f) (g := g) hg hn
  simp -implicitDefEqProofs [CL_ret r1, c1, CL_ret l11Two_run, c0]
  refine CL_post (l11Front_run (f := f) (g := g) Js hg hn hf hg8) fun w h1 ⟨hp1, hF, S1⟩ => ?_
  have hFl := hF.len
  generalize frontR f g js = F at *
  have S1s := S1
  obtain ⟨fa, fc, rfl⟩ : ∃ a c, w = .slice a F.length c := S1.shapeT
  have H0 := own_nil (Holds.start (h := h1)) Pt encQ 2
  generalize hX : supP F 0 F = X at hK
  simp -implicitDefEqProofs
  refine R_loopO (fun m s h' => ∃ (i : Nat) (u : Value) (out : List Pt), i + m = F.length ∧ s = [(8, u), (9, .slice fa F.length fc), (10, .int .i64 i)] ∧ X = out ++ supP F i (F.drop i) ∧ out.length ≤ i ∧ Holds h1 h' [.own u 2 (out.map encQ)]) (fun I hI m s h' => ?_) (n := F.length) ⟨0, .slice none 0 0, [], Nat.zero_add _, by simp, hX.symm, by simp, H0⟩
  rintro ⟨i, u, out, hi, rfl, hx, hol, H⟩
  by_cases hlt : i < F.length
  · obtain ⟨p, hp, hd⟩ := drop_at hlt
    have Sp := S1s.pre H.pre
    have rs := l11Supported_run Sp hF hbd hp
    have lq := load_Q Sp hp
    rw [hd, supP] at hx
    cases c : supAt F i p
    · rw [c, if_neg (show ¬ (false = true) by simp)] at hx
      rw [c] at rs
      simp -implicitDefEqProofs [-indexAddrP_some, hlt, CL_ret rs, winc hlt (by omega)]
      exact ⟨m - 1, by omega, on hI ⟨i + 1, u, out, by omega, rfl, hx, by omega, H⟩⟩
    · rw [c, if_pos rfl] at hx
      rw [c] at rs
      obtain ⟨u', h2, ha, H2, _⟩ := push_Q0 H 0 rfl p (by omega)
      have H2 : Holds h1 h2 [.own u' 2 ((out ++ [p]).map encQ)] := H2
      simp -implicitDefEqProofs [-indexAddrP_some, hlt, CL_ret rs, lq, ha, winc hlt (by omega)]
      exact ⟨m - 1, by omega, on hI ⟨i + 1, u', out ++ [p], by omega, rfl, by rw [hx]; simp, by simp; omega, H2⟩⟩
  · rw [List.drop_eq_nil_of_le (by omega)] at hx
    have hx : X = out := by rw [hx]; simp [supP]
    rw [hx] at hK
    have S : Prs h' u out := H.sees 0 rfl
    have Ss := S
    obtain ⟨ua, un, uc, rfl⟩ : ∃ a n c, u = .slice a n c := by obtain ⟨a, c, e⟩ := S.shape; exact ⟨_, _, _, e⟩
    simp -implicitDefEqProofs [hlt]
    exact onK hK ⟨pre_gcU (hp1.trans H.pre), _, rfl, Sees.gcU Ss fun g => plainT (r := [_]) g⟩
theorem implSupportedPoints_run (J : Jobs h vj js) (hl : js.length ≤ 2 ^ 40) : RunsC P G n_impl_SupportedPoints [vj, .int .i64 f, .int .i64 g] h fun w h' => h <+: h' ∧ ∃ d, w = .tuple #[d, .bool (aTwo js f g)] ∧ Prs h' d (spV js f g) := by
  refine hideC fun K hK => enter_run e_impl_SupportedPoints (by simp) ?_
  have Js := J
  obtain ⟨oj, cj, rfl⟩ := J.shapeT
  have r1 := areTwo_run (f := f) (g := g) Js hl
  cases ca : aTwo js f g
  · rw [spV, ca] at hK
    simp -implicitDefEqProofs [CL_ret r1, ca]
    exact onK hK ⟨List.prefix_rfl, _, rfl, ⟨by simp, none, 0, rfl, .inl ⟨rfl, rfl, rfl⟩⟩⟩
  obtain ⟨hn, hg, hf, hg8⟩ := aTwo_of ca
  rw [spV, ca, if_pos rfl] at hK
  have hbd := front_bd (f := f) (g := g) hg hn
  simp -implicitDefEqProofs [CL_ret r1, ca]
  refine CL_post (frontOf_run (f := f) (g := g) Js hg hn hf hg8) fun w h1 ⟨hp1, hF, S1⟩ => ?_
  have hFl := hF.len
  generalize frontR f g js = F at *
  have S1s := S1
  obtain ⟨fa, fc, rfl⟩ : ∃ a c, w = .slice a F.length c := S1.shapeT
  have H0 := own_nil (Holds.start (h := h1)) Pt encQ 2
  generalize hX : supP F 0 F = X at hK
  simp -implicitDefEqProofs
  refine R_loopO (fun m s h' => ∃ (i : Nat) (u : Value) (out : List Pt), i + m = F.length ∧ s = [(8, .slice fa F.length fc), (9, u), (26, .slice fa F.length fc), (27, .int .i64 F.length), (28, .int .i64 i)] ∧ X = out ++ supP F i (F.drop i) ∧ out.length ≤ i ∧ Holds h1 h' [.own u 2 (out.map encQ)]) (fun I hI m s h' => ?_) (n := F.length) ⟨0, .slice none 0 0, [], Nat.zero_add _, by simp, hX.symm, by simp, H0⟩
  rintro ⟨i, u, out, hi, rfl, hx, hol, H⟩
  by_cases hlt : i < F.length
  · obtain ⟨p, hp, hd⟩ := drop_at hlt
    have bp := hbd p (List.mem_of_getElem? hp)
    have Sp := S1s.pre H.pre
    have lq := load_Q Sp hp
    rw [hd, supP] at hx
    obtain ⟨v3, s3, f3⟩ := (Sp.pre (List.prefix_append h' [some ⟨[.int .i64 p.1, .int .i64 p.2], 0, false⟩])).front (P := P) u_S_A2_int i_A2_int (k := .i64) (j := (i : Int)) (by omega) (by simp; omega)
    rw [Int.toNat_natCast, ← List.map_take] at f3
    have fs := f3
    obtain ⟨f3a, f3c, rfl⟩ := f3.shapeT
    have tl : (F.take i).length = i := by rw [List.length_take]; omega
    rw [tl] at fs s3
    have HB := H.alloc [.int .i64 p.1, .int .i64 p.2]
    simp -implicitDefEqProofs [-indexAddrP_some, hlt, lq, s3]
    refine R_loopO (fun m2 s2 h2 => ∃ (j : Nat) (b : Bool), j + m2 = i ∧ s2 = [(8, .slice fa F.length fc), (9, u), (10, .int .i64 i), (11, .pointer (some ⟨h'.length, 0, some 2⟩)), (12, .bool b), (26, .slice fa F.length fc), (27, .int .i64 F.length), (28, .int .i64 i), (35, .slice f3a i f3c), (36, .int .i64 i), (37, .int .i64 j)] ∧
        supAt F i p = (b && (((F.take i).drop j).all fun r => (F.drop (i + 1)).all fun q => belV r p q)) ∧ Holds h1 h2 [.own u 2 (out.map encQ), .box h'.length [.int .i64 p.1, .int .i64 p.2]] ∧ h' ++ [some ⟨[.int .i64 p.1, .int .i64 p.2], 0, false⟩] <+: h2) (fun I2 hI2 m2 s2 h2 => ?_) (n := i)
      ⟨0, true, Nat.zero_add _, by simp, by simp [supAt], HB, List.prefix_rfl⟩
    rintro ⟨j, b, hj, rfl, hsup, H2, hp2⟩
    by_cases hltj : j < i
    · obtain ⟨r, hr, hdr⟩ := drop_at (show j < (F.take i).length by omega)
      have hrF : F[j]? = some r := by rw [List.getElem?_take, if_pos hltj] at hr; exact hr
      have br := hbd r (List.mem_of_getElem? hrF)
      have lr := load_Q (fs.pre hp2) hr
      rw [hdr, List.all_cons] at hsup
      generalize hrest : ((F.take i).drop (j + 1)).all (fun r => (F.drop (i + 1)).all fun q => belV r p q) = rest at hsup
      have H3 := H2.alloc [.int .i64 r.1, .int .i64 r.2]
      have wi : IntKind.i64.wrap ((i : Int) + 1) = (i : Int) + 1 := by rw [wrap_ok] <;> omega
      obtain ⟨v4, s4, f4, _⟩ := (S1s.pre H3.pre).back (P := P) u_S_A2_int i_A2_int (k := .i64) (j := ((i + 1 : Nat) : Int)) (by omega) (by simp; omega)
      rw [Int.toNat_natCast, ← List.map_drop] at f4
      have f4s := f4
      obtain ⟨f4a, f4c, rfl⟩ := f4.shapeT
      have dl : (F.drop (i + 1)).length = F.length - (i + 1) := by rw [List.length_drop]
      rw [dl] at f4s s4
      obtain ⟨D, hD⟩ : ∃ D : Nat, D = F.length - (i + 1) := ⟨_, rfl⟩
      rw [← hD] at f4s s4 dl
      simp only [Int.natCast_add, Int.cast_ofNat_Int] at s4
      simp -implicitDefEqProofs [-indexAddrP_some, hltj, lr, wi, s4]
      refine R_loopO (fun m3 s3 h3 => ∃ (l : Nat) (b2 : Bool), l + m3 = D ∧ s3 = [(8, .slice fa F.length fc), (9, u), (10, .int .i64 i), (11, .pointer (some ⟨h'.length, 0, some 2⟩)), (12, .bool b2), (14, .pointer (some ⟨h2.length, 0, some 2⟩)), (26, .slice fa F.length fc), (27, .int .i64 F.length), (28, .int .i64 i), (35, .slice f3a i f3c), (36, .int .i64 i), (37, .int .i64 j), (44, .slice f4a D f4c), (45, .int .i64 D), (46, .int .i64 l)] ∧
          supAt F i p = (b2 && ((((F.drop (i + 1)).drop l).all fun q => belV r p q) && rest)) ∧ Holds h1 h3 [.own u 2 (out.map encQ), .box h'.length [.int .i64 p.1, .int .i64 p.2], .box h2.length [.int .i64 r.1, .int .i64 r.2]] ∧ h2 ++ [some ⟨[.int .i64 r.1, .int .i64 r.2], 0, false⟩] <+: h3) (fun I3 hI3 m3 s3 h3 => ?_) (n := D)
        ⟨0, b, Nat.zero_add _, by simp, by simpa using hsup, H3, List.prefix_rfl⟩
      rintro ⟨l, b2, hl3, rfl, hsup3, H4, hp4⟩
      by_cases hltl : l < D
      · obtain ⟨q, hq, hdq⟩ := drop_at (show l < (F.drop (i + 1)).length by omega)
        have hqF : F[i + 1 + l]? = some q := by rw [List.getElem?_drop] at hq; exact hq
        have bq := hbd q (List.mem_of_getElem? hqF)
        have lq2 := load_Q (f4s.pre hp4) hq
        rw [hdq, List.all_cons] at hsup3
        have H5 := H4.alloc [.int .i64 q.1, .int .i64 q.2]
        have lp := H5.bl (P := P) 1 2 rfl rfl
        have lr2 := H5.bl (P := P) 2 2 rfl rfl
        have lq5 := H5.bl (P := P) 3 2 rfl rfl
        have w1 := wsub bp.2 bq.2
        have w2 := wsub bp.1 br.1
        have w3 := wsub br.2 bp.2
        have w4 := wsub bq.1 bp.1
        have H6 : Holds h1 (h3 ++ [some ⟨[.int .i64 q.1, .int .i64 q.2], 0, false⟩]) [.own u 2 (out.map encQ), .box h'.length [.int .i64 p.1, .int .i64 p.2], .box h2.length [.int .i64 r.1, .int .i64 r.2]] := H4.ext (List.prefix_append ..)
        cases b2
        · rw [Bool.false_and] at hsup3
          simp -implicitDefEqProofs [-indexAddrP_some, hltl, lq2, winc hltl (by omega)]
          exact ⟨m3 - 1, by omega, on hI3 ⟨l + 1, false, by omega, rfl, by rw [hsup3, Bool.false_and], H6, hp4.trans (List.prefix_append ..)⟩⟩
        · rw [Bool.true_and] at hsup3
          have fin : ∀ b3, belV r p q = b3 → ∃ m', m' < m3 ∧ I3 m' [(8, .slice fa F.length fc), (9, u), (10, .int .i64 i), (11, .pointer (some ⟨h'.length, 0, some 2⟩)), (12, .bool b3), (14, .pointer (some ⟨h2.length, 0, some 2⟩)), (26, .slice fa F.length fc), (27, .int .i64 F.length), (28, .int .i64 i), (35, .slice f3a i f3c), (36, .int .i64 i), (37, .int .i64 j), (44, .slice f4a D f4c), (45, .int .i64 D), (46, .int .i64 ((l + 1 : Nat) : Int))] (h3 ++ [some ⟨[.int .i64 q.1, .int .i64 q.2], 0, false⟩]) := fun b3 e =>
            ⟨m3 - 1, by omega, on hI3 ⟨l + 1, b3, by omega, rfl, by rw [hsup3, e, Bool.and_assoc], H6, hp4.trans (List.prefix_append ..)⟩⟩
          by_cases cb : (p.2 - q.2) * (p.1 - r.1) ≤ (r.2 - p.2) * (q.1 - p.1)
          · simp -implicitDefEqProofs [-indexAddrP_some, hltl, lq2, lp, lr2, lq5, ia20, ia21, w1.1, w2.1, w3.1, w4.1, wmul w1.2 w2.2, wmul w3.2 w4.2, cb, winc hltl (by omega)]
            exact fin true (by simp [belV, cb])
          · simp -implicitDefEqProofs [-indexAddrP_some, hltl, lq2, lp, lr2, lq5, ia20, ia21, w1.1, w2.1, w3.1, w4.1, wmul w1.2 w2.2, wmul w3.2 w4.2, cb, winc hltl (by omega)]
            exact fin false (by simp [belV, cb])
      · rw [List.drop_eq_nil_of_le (by omega), List.all_nil, Bool.true_and] at hsup3
        simp -implicitDefEqProofs [hltl, winc hltj (by omega)]
        have H6 : Holds h1 h3 ([.own u 2 (out.map encQ), .box h'.length [.int .i64 p.1, .int .i64 p.2]] ++ [.box h2.length [.int .i64 r.1, .int .i64 r.2]]) := H4
        exact ⟨m2 - 1, by omega, on hI2 ⟨j + 1, b2, by omega, rfl, by rw [hsup3, hrest], H6.weak, hp2.trans ((List.prefix_append ..).trans hp4)⟩⟩
    · rw [List.drop_eq_nil_of_le (by rw [tl]; omega), List.all_nil, Bool.and_true] at hsup
      rw [hsup] at hx
      have lp := H2.bl (P := P) 1 2 rfl rfl
      cases b
      · rw [if_neg (show ¬ (false = true) by simp)] at hx
        simp -implicitDefEqProofs [hltj, winc hlt (by omega)]
        exact ⟨m - 1, by omega, on hI ⟨i + 1, u, out, by omega, rfl, hx, by omega, H2.weak (T := [_])⟩⟩
      · rw [if_pos rfl] at hx
        obtain ⟨u', h4, ha, H4, _⟩ := push_Q0 H2 0 rfl p (by omega)
        have H4 : Holds h1 h4 ([.own u' 2 ((out ++ [p]).map encQ)] ++ [.box h'.length [.int .i64 p.1, .int .i64 p.2]]) := H4
        simp -implicitDefEqProofs [hltj, lp, ha, winc hlt (by omega)]
        exact ⟨m - 1, by omega, on hI ⟨i + 1, u', out ++ [p], by omega, rfl, by rw [hx]; simp, by simp; omega, H4.weak⟩⟩
  · rw [List.drop_eq_nil_of_le (by omega)] at hx
    have hx : X = out := by rw [hx]; simp [supP]
    rw [hx] at hK
    have S : Prs h' u out := H.sees 0 rfl
    have Ss := S
    obtain ⟨ua, un, uc, rfl⟩ : ∃ a n c, u = .slice a n c := by obtain ⟨a, c, e⟩ := S.shape; exact ⟨_, _, _, e⟩
    simp -implicitDefEqProofs [hlt]
    exact onK hK ⟨pre_gcU (hp1.trans H.pre), _, rfl, Sees.gcU Ss fun g => plainT (r := [_]) g⟩
end
end Go.Pm.PP

/- Best orders under a limit, by both. -/
set_option linter.unusedVariables false
set_option linter.unusedSimpArgs false
set_option maxRecDepth 4000
set_option maxHeartbeats 16000000
namespace Go.Pm.PP
open Go.Pm Go.Proofs Go.Pm.PE
def undG (js : List Job) (f g lim : Int) : Sr := bestG (fun xs => decide (valX g js xs ≤ lim)) (valX f js) js.length
def undO (js : List Job) (f g lim : Int) : Bool := aTwo js f g && !((undG js f g lim).c == 0)
def undF (js : List Job) (f g lim : Int) : List Int := if aTwo js f g = true then (undG js f g lim).o else []
theorem undG_facts {js : List Job} {f g lim : Int} : (undG js f g lim = sr0 ∧ ∀ xs, Ord js.length xs → lim < valX g js xs) ∨ ((undG js f g lim).c = 1 ∧ valX g js (undG js f g lim).o ≤ lim ∧ Ord js.length (undG js f g lim).o ∧ ∀ xs, Ord js.length xs → valX g js xs ≤ lim → valX f js (undG js f g lim).o ≤ valX f js xs) := by
  unfold undG
  rcases @bestG_facts (fun xs => decide (valX g js xs ≤ lim)) (valX f js) js.length with ⟨h1, h2⟩ | ⟨h1, h2, h3, h4, h5⟩
  · refine .inl ⟨h1, fun xs ox => ?_⟩
    have := h2 xs ox
    simp only [decide_eq_false_iff_not] at this
    omega
  · refine .inr ⟨h1, by simpa using h2, h4, fun xs ox hl => ?_⟩
    rw [h3]
    exact h5 xs ox (by simpa using hl)
/-- What is lacking: the program's BestUnder. -/
def IUnder : Prop := ∀ {h : Hp} {vj : Value} {js : List Job} {f g lim : Int}, Jobs h vj js → js.length ≤ 2 ^ 40 → RunsC P G n_impl_BestUnder [vj, .int .i64 f, .int .i64 g, .int .i64 lim] h fun w h' => h <+: h' ∧ ∃ d, w = .tuple #[d, .bool (undO js f g lim)] ∧ Ints h' d (undF js f g lim)
section
variable {h : Hp} {vj v u : Value} {js : List Job} {xs : List Int} {f g lim : Int}
theorem specBestUnder_run (J : Jobs h vj js) (hl : js.length ≤ 2 ^ 40) : RunsC P G n_spec_BestUnder [vj, .int .i64 f, .int .i64 g, .int .i64 lim] h fun w h' => h <+: h' ∧ ∃ d, w = .tuple #[d, .bool (undO js f g lim)] ∧ Ints h' d (undF js f g lim) := by
  refine hideC fun K hK => enter_run e_spec_BestUnder (by simp) ?_
  have Js := J
  obtain ⟨oj, cj, rfl⟩ := J.shapeT
  have r1 := good_run Js hl
  have bad : aTwo js f g = false → K (.tuple #[.slice none 0 0, .bool false]) h := fun e => by
    rw [undO, undF, e] at hK
    exact onK hK ⟨List.prefix_rfl, _, rfl, by simp, none, 0, rfl, .inl ⟨rfl, rfl, rfl⟩⟩
  cases c1 : jOk js
  · simp -implicitDefEqProofs [CL_ret r1, c1]
    exact bad (by rw [aTwo_eq, c1]; rfl)
  cases c0 : (inB f 1 8 && inB g 1 8)
  · simp -implicitDefEqProofs [CL_ret r1, c1, CL_ret l11Two_run, c0]
    exact bad (by rw [aTwo_eq, c1, c0]; rfl)
  have ca : aTwo js f g = true := by rw [aTwo_eq, c1, c0]; rfl
  rw [undO, undF, ca, if_pos rfl, Bool.true_and] at hK
  obtain ⟨hn, hg, hf, hg8⟩ := aTwo_of ca
  have N0 : Ints h (.slice none 0 0) ([] : List Int) := ⟨by simp, none, 0, rfl, .inl ⟨rfl, rfl, rfl⟩⟩
  have r := l11Under_run (lim := lim) hg hn hf hg8 (k := js.length) (b := sr0) Js N0 N0 (by simp) (fun x hx => by cases hx) List.nodup_nil (by simp [sr0])
  rw [bestG_dfs] at r
  have gt : ∀ b : Sr, (b = sr0 ∨ b.c = 1) → decide (0 < b.c) = !(b.c == 0) := fun b hb => by
    rcases hb with rfl | e
    · rfl
    · rw [e]; rfl
  have gt := gt (undG js f g lim) (by rcases @undG_facts js f g lim with q | q; exact .inl q.1; exact .inr q.1)
  have eB : bestG (fun xs => decide (valX g js xs ≤ lim)) (valX f js) js.length = undG js f g lim := rfl
  rw [eB] at r
  generalize undG js f g lim = b at *
  simp -implicitDefEqProofs [CL_ret r1, c1, CL_ret l11Two_run, c0]
  refine CL_post r fun v h1 ⟨hp1, hbl, vo, ev, O1⟩ => ?_
  subst ev
  have Os := O1
  obtain ⟨a, c, rfl⟩ := O1.shapeT
  have H1 := (Holds.start (h := h1)).alloc [.slice a b.o.length c, .int .i64 b.v, .int .i64 b.c]
  have lb := H1.bl (P := P) 0 3 rfl rfl
  simp -implicitDefEqProofs [lb]
  refine CH_post (l1Own_run (Os.pre H1.pre) (by omega)).new fun v2 h2 ⟨⟨hp2, ho2⟩, hn2⟩ => ⟨hn2 hp2, ?_⟩
  obtain ⟨a2, c2, rfl⟩ := ho2.sees.shapeT
  have lb2 := (H1.ext hp2).bl (P := P) 0 3 rfl rfl
  simp -implicitDefEqProofs [lb2, gt]
  exact onK hK ⟨pre_gcU (hp1.trans (H1.pre.trans hp2)), _, rfl, Sees.gcU ho2.sees fun g => plainT (r := [_]) g⟩
end
end Go.Pm.PP

/- Tables of the least values of sets, by both. -/
set_option linter.unusedVariables false
set_option linter.unusedSimpArgs false
set_option maxRecDepth 4000
set_option maxHeartbeats 8000000
namespace Go.Pm.PP
open Go.Pm Go.Proofs Go.Pm.PE
/-! ### digits in the machine -/
theorem pow_le60 {i : Nat} (h : i ≤ 60) : 0 < 2 ^ i ∧ 2 ^ i ≤ 2 ^ 60 := ⟨Nat.two_pow_pos i, Nat.pow_le_pow_right (by omega) h⟩
/-- A digit is taken away, as the machine has it. -/
theorem clr_val {k i b z : Nat} (hk : k < 2 ^ 60) (hb : b = 2 ^ i) (ht : k.testBit i = true) (hz : z = k - 2 ^ i) : IntKind.i64.wrap ↑(((k : Int) % 2 ^ IntKind.i64.bits).toNat &&& 2 ^ IntKind.i64.bits - 1 - ((b : Int) % 2 ^ IntKind.i64.bits).toNat) = (z : Int) := by
  have hbits : IntKind.i64.bits = 64 := rfl
  have hle := bit_le ht
  have e1 : ∀ n : Nat, n < 2 ^ 60 → ((n : Int) % 2 ^ IntKind.i64.bits).toNat = n := fun n hn => by
    have h5 : (n : Int) < 2 ^ 64 := by omega
    rw [hbits, Int.emod_eq_of_lt (Int.natCast_nonneg _) h5, Int.toNat_natCast]
  rw [e1 k hk, e1 b (by omega), hbits]
  have e2 : k &&& 2 ^ 64 - 1 - b = z := by
    refine Nat.eq_of_testBit_eq fun j => ?_
    rw [hz, bit_sub ht, Nat.testBit_and, show 2 ^ 64 - 1 - b = 2 ^ 64 - (b + 1) by omega, Nat.testBit_two_pow_sub_succ (by omega), hb, Nat.testBit_two_pow]
    cases hj : k.testBit j with
    | false => rfl
    | true =>
      have := bit_lt hk hj
      rw [Bool.true_and, Bool.true_and, show decide (j < 64) = true by simp; omega, Bool.true_and]
      congr 1
      simp only [decide_eq_decide]
      exact eq_comm
  rw [e2, wrap_ok (by omega) (by omega)]
theorem listOf_run {h : Hp} {n c : Nat} (hn : n ≤ 50) (hc : c < 2 ^ n) : RunsC P G n_impl_listOf [.int .i64 c] h fun v h' => h <+: h' ∧ Own h.length h' v 1 ((bitsL n c).map encI) := by
  refine hideC fun K hK => enter_run e_impl_listOf (by simp) ?_
  have H0 := own_nil (Holds.start (h := h)) Int encI 1
  have hc60 : c < 2 ^ 60 := by have : 2 ^ n ≤ 2 ^ 50 := Nat.pow_le_pow_right (by omega) hn; omega
  simp -implicitDefEqProofs
  refine R_loopO (fun m s h' => ∃ (i : Nat) (u : Value), i + m = n ∧ s = [(0, .int .i64 c), (3, u), (4, .int .i64 i)] ∧ Holds h h' [.own u 1 ((bitsL i c).map encI)]) (fun I hI m s h' => ?_) (n := n) ⟨0, _, Nat.zero_add _, by simp; rfl, by simpa [bitsL] using H0⟩
  rintro ⟨i, u, hi, rfl, H⟩
  by_cases hlt : 0 < c / 2 ^ i
  · have hin : i < n := by
      have h1 : 2 ^ i ≤ c := (Nat.div_pos_iff.1 hlt).2
      exact (Nat.pow_lt_pow_iff_right (by omega : 1 < 2)).1 (Nat.lt_of_le_of_lt h1 hc)
    have hlt' : (0 : Int) < (c : Int) / 2 ^ i := by
      have : ((c : Int) / 2 ^ i) = ((c / 2 ^ i : Nat) : Int) := by simp
      omega
    have bl := @bits_len i c
    have bs := @bits_snoc i c
    have bv := bit_val (i := i) hc60
    cases ct : c.testBit i
    · rw [ct, if_neg (by simp)] at bs bv
      rw [List.append_nil] at bs
      simp -implicitDefEqProofs [hlt', shr_eq hc60, bv, winc hin (by omega)]
      exact ⟨m - 1, by omega, on hI ⟨i + 1, _, by omega, rfl, by rw [bs]; exact H⟩⟩
    · rw [ct, if_pos rfl] at bs bv
      obtain ⟨v', h2, ha, H2, _⟩ := push_I0 H 0 rfl (i : Int) (by omega)
      simp -implicitDefEqProofs [hlt', shr_eq hc60, bv, ha, winc hin (by omega)]
      exact ⟨m - 1, by omega, on hI ⟨i + 1, _, by omega, rfl, by rw [bs]; exact H2⟩⟩
  · have h1 : c < 2 ^ i := by
      rcases Nat.lt_or_ge c (2 ^ i) with g | g
      · exact g
      · exact absurd (Nat.div_pos g (Nat.two_pow_pos i)) hlt
    rw [bits_any h1 hc] at H
    have hlt' : ¬ (0 : Int) < (c : Int) / 2 ^ i := by
      have : ((c : Int) / 2 ^ i) = ((c / 2 ^ i : Nat) : Int) := by simp
      omega
    simp -implicitDefEqProofs [hlt', shr_eq hc60]
    exact onK hK (H.ret 0 rfl)
section
variable {h : Hp} {vj v : Value} {js : List Job} {xs : List Int}
/-- A sum of times, bit by bit. -/
def timeGo (js : List Job) (xs : List Int) : Int := (xs.map fun x => (jA js x).t).sum
theorem time_take {js : List Job} {xs : List Int} {i : Nat} {y : Int} (hy : xs[i]? = some y) : timeGo js (xs.take (i + 1)) = timeGo js (xs.take i) + (jA js y).t := by
  unfold timeGo; rw [take_succ' hy, List.map_append, List.sum_append]; simp
theorem time_bd {js : List Job} (bd : Bd js) : ∀ {xs : List Int}, 0 ≤ timeGo js xs ∧ timeGo js xs ≤ xs.length * 2 ^ 20
  | [] => by simp [timeGo]
  | x :: xs => by
    have ih := time_bd bd (xs := xs)
    have := bd.t x
    have e : timeGo js (x :: xs) = (jA js x).t + timeGo js xs := rfl
    rw [e, List.length_cons]; omega
theorem timeOf_run {c : Nat} (J : Jobs h vj js) (hn : js.length ≤ 8) (hg : goodL js = true) (hc : c < 2 ^ js.length) : Ret P G n_impl_timeOf [vj, .int .i64 c] h (.int .i64 (timeC js c)) h := by
  refine enter_run e_impl_timeOf (by simp) ?_
  have Js := J
  obtain ⟨oj, cj, rfl⟩ := J.shapeT
  have bd := good_bd hg
  simp -implicitDefEqProofs
  refine CL_post (listOf_run (n := js.length) (by omega) hc) fun v1 h1 ⟨hp1, ho1⟩ => ?_
  have S1 : Ints h1 v1 (bitsL js.length c) := ho1.sees
  have e : timeC js c = timeGo js (bitsL js.length c) := rfl
  have hin : inN js.length (bitsL js.length c) := fun x hx => by have := mem_bits.1 hx; omega
  have hl := @bits_len js.length c
  rw [e]
  generalize bitsL js.length c = ys at *
  have S1s := S1
  obtain ⟨oy, cy, rfl⟩ := S1.shapeT
  simp -implicitDefEqProofs
  refine R_loopO (fun m s h' => ∃ (i : Nat), i + m = ys.length ∧ s = [(0, .slice oj js.length cj), (5, .int .i64 (timeGo js (ys.take i))), (9, .slice oy ys.length cy), (10, .int .i64 ys.length), (11, .int .i64 i)] ∧ h' = h1) (fun I hI m s h' => ?_) (n := ys.length)
    ⟨0, Nat.zero_add _, by simp [timeGo], rfl⟩
  rintro ⟨i, hi, rfl, rfl⟩
  by_cases hlt : i < ys.length
  · obtain ⟨y, hy, _⟩ := drop_at hlt
    have ly := load_I S1s hy
    have lj := load_JX (Js.pre hp1) (hin y (List.mem_of_getElem? hy))
    have tb := time_bd bd (xs := ys.take i)
    have bt := bd.t y
    have tl : (ys.take i).length ≤ 8 := by rw [List.length_take]; omega
    have w1 : IntKind.i64.wrap (timeGo js (ys.take i) + (jA js y).t) = timeGo js (ys.take (i + 1)) := by rw [time_take hy, wrap_ok] <;> omega
    simp -implicitDefEqProofs [-indexAddrP_some, hlt, ly, lj, w1, winc hlt (by omega)]
    exact ⟨m - 1, by omega, on hI ⟨i + 1, by omega, rfl, rfl⟩⟩
  · rw [List.take_of_length_le (by omega)]
    simp -implicitDefEqProofs [hlt]
    exact gcP hp1 rfl
theorem good_time {js : List Job} (hg : goodL js = true) (hn : js.length ≤ 8) {c : Nat} : 0 ≤ timeC js c ∧ timeC js c ≤ 2 ^ 23 := by
  have := time_bd (good_bd hg) (xs := bitsL js.length c)
  have := @bits_len js.length c
  have e : timeC js c = timeGo js (bitsL js.length c) := rfl
  rw [e]; omega
theorem time_bits {i c : Nat} {js : List Job} : timeGo js (bitsL (i + 1) c) = timeGo js (bitsL i c) + if c.testBit i = true then (jA js i).t else 0 := by
  rw [bits_snoc]
  unfold timeGo
  rw [List.map_append, List.sum_append]
  split <;> simp
theorem l6Times_run {c : Nat} (J : Jobs h vj js) (hn : js.length ≤ 8) (hg : goodL js = true) (hc : c < 2 ^ 60) : Ret P G n_spec_l6Times [vj, .int .i64 c] h (.int .i64 (timeC js c)) h := by
  refine enter_run e_spec_l6Times (by simp) ?_
  have Js := J
  obtain ⟨oj, cj, rfl⟩ := J.shapeT
  have bd := good_bd hg
  simp -implicitDefEqProofs
  refine R_loopO (fun m s h' => ∃ (i : Nat), i + m = js.length ∧ s = [(0, .slice oj js.length cj), (1, .int .i64 c), (5, .int .i64 (timeGo js (bitsL i c))), (6, .int .i64 i)] ∧ h' = h) (fun I hI m s h' => ?_) (n := js.length)
    ⟨0, Nat.zero_add _, by simp [timeGo, bitsL], rfl⟩
  rintro ⟨i, hi, rfl, rfl⟩
  by_cases hlt : i < js.length
  · have lj := load_JX Js (x := (i : Int)) (by omega)
    have tb := time_bd bd (xs := bitsL i c)
    have tl := @bits_len i c
    have bt := bd.t i
    have bv := bit_val (i := i) hc
    have tt := @time_bits i c js
    cases ct : c.testBit i
    · rw [ct, if_neg (by simp)] at bv tt
      rw [Int.add_zero] at tt
      simp -implicitDefEqProofs [-indexAddrP_some, hlt, shr_eq hc, bv, winc hlt (by omega)]
      exact ⟨m - 1, by omega, on hI ⟨i + 1, by omega, by rw [tt]; rfl, rfl⟩⟩
    · rw [ct, if_pos rfl] at bv tt
      have w1 : IntKind.i64.wrap (timeGo js (bitsL i c) + (jA js i).t) = timeGo js (bitsL (i + 1) c) := by rw [tt, wrap_ok] <;> omega
      rw [Int.toNat_natCast] at lj
      simp -implicitDefEqProofs [-indexAddrP_some, hlt, shr_eq hc, bv, lj, w1, winc hlt (by omega)]
      exact ⟨m - 1, by omega, on hI ⟨i + 1, by omega, rfl, rfl⟩⟩
  · have : i = js.length := by omega
    subst this
    simp -implicitDefEqProofs [hlt]
    rfl
/-! ### objectives that are sums -/
def sumB (o : Int) : Bool := inB o 1 8 && !(o == 1) && !(o == 4)
theorem sumB_of {o : Int} (h : sumB o = true) : (1 ≤ o ∧ o ≤ 8) ∧ ¬ o = 1 ∧ ¬ o = 4 := by
  simp only [sumB, Bool.and_eq_true, Bool.not_eq_true', beq_eq_false_iff_ne] at h
  exact ⟨inB_of h.1.1, h.1.2, h.2⟩
theorem costV_mono {o : Int} {j : Job} {e e' : Int} (hw : 0 ≤ j.w) (h : e ≤ e') : costV o j e ≤ costV o j e' := by
  unfold costV
  split
  · exact h
  split
  · exact Int.mul_le_mul_of_nonneg_left h hw
  split
  · omega
  split
  · exact Int.mul_le_mul_of_nonneg_left (by omega) hw
  split
  · split
    · exact Int.le_refl _
    · split <;> omega
  · split
    · omega
    · split <;> omega
theorem good_cb {o : Int} {js : List Job} (hg : goodL js = true) (ho : sumB o = true) : Cb o js := by
  obtain ⟨h1, h2, h3⟩ := sumB_of ho
  have z1 : ∀ e, 0 ≤ e → 0 ≤ costV o ⟨0, 0, 0, 0⟩ e ∧ costV o ⟨0, 0, 0, 0⟩ e ≤ e + 1 := by
    intro e he
    unfold costV
    split
    · omega
    split
    · simp; omega
    split
    · simp only; omega
    split
    · simp; omega
    split
    · omega
    split <;> simp <;> omega
  have hw : ∀ x, 0 ≤ (jA js x).w := by
    intro x
    rcases @jA_in js x with g | g
    · exact (job_of (List.all_eq_true.1 hg _ g)).2.1.1
    · rw [g]; exact Int.le_refl _
  refine ⟨fun x e he => ?_, fun x e he he2 => ?_, fun x e e' _ h => costV_mono (hw x) h⟩
  · rcases @jA_in js x with g | g
    · have hj := job_of (List.all_eq_true.1 hg _ g)
      unfold costV
      have m1 := Int.mul_nonneg hj.2.1.1 he
      have m2 := Int.mul_nonneg hj.2.1.1 (show 0 ≤ max (e - (jA js x).d) 0 by omega)
      split
      · exact he
      split
      · exact m1
      split
      · omega
      split
      · exact m2
      split
      · omega
      split <;> omega
    · rw [g]; exact (z1 e he).1
  · rcases @jA_in js x with g | g
    · exact (cost_bd (List.all_eq_true.1 hg _ g) he he2).2
    · rw [g]; have := (z1 e he).2; omega
end
end Go.Pm.PP
