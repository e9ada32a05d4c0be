/- The texts PvFb, PvFc, PvFd, PvFe, PvFh, PvCb, PvCc, PvCd of this work: Fronts by the reference. -/
import Derived.Test.YtcmbjbddjlamaaaP9
/- Fronts by the reference. -/
set_option linter.unusedVariables false
set_option linter.unusedSimpArgs false
set_option maxRecDepth 4000
set_option maxHeartbeats 8000000
namespace Go.Pm.PP
open Go.Pm Go.Proofs Go.Pm.PE
theorem Sees.pl {h : Hp} {v : Value} {sz : Nat} {els : List (List Value)} (s : Sees h v sz els) (g : plain v = true) : plainC v = true := by
  obtain ⟨_, oa, c, rfl, _⟩ := s
  exact g
theorem eqPt {p q : Pt} : eqAgg P t_A2_int (ptv p) (ptv q) = some (sameB p q) := eqA2
section
variable {h : Hp} {vj v u : Value} {js : List Job} {xs : List Int} {f g : Int}
theorem l11Put_run {vf : Value} {F : List Pt} {p : Pt} (S : Prs h vf F) (hF : FOk F) : RunsC P G n_spec_l11Put [vf, ptv p] h fun w h' => h <+: h' ∧ Prs h' w (putF F p) := by
  refine hideC fun K hK => enter_run e_spec_l11Put (by simp) ?_
  have Ss := S
  have hFl := hF.len
  obtain ⟨oa, ca, rfl⟩ := S.shapeT
  have H0 := own_nil ((Holds.start (h := h)).alloc [.int .i64 p.1, .int .i64 p.2]) Pt encQ 2
  simp -implicitDefEqProofs
  refine R_loopO (fun m s h' => ∃ i : Nat, i + m = F.length ∧ s = [(0, .slice oa F.length ca), (3, .pointer (some ⟨h.length, 0, some 2⟩)), (5, .slice none 0 0), (6, .int .i64 i)] ∧ coverB (F.take i) p = false ∧ Holds h h' [.box h.length [.int .i64 p.1, .int .i64 p.2], .own (.slice none 0 0) 2 (([] : List Pt).map encQ)]) (fun I hI m s h' => ?_) (n := F.length)
    ⟨0, Nat.zero_add _, by simp, rfl, H0⟩
  rintro ⟨i, hi, rfl, hc, H⟩
  have lp := H.bl (P := P) 0 2 rfl rfl t_A2_int 0
  have Sp := Ss.pre H.pre
  by_cases hlt : i < F.length
  · obtain ⟨q, hq, _⟩ := drop_at hlt
    have lq := load_Q Sp hq
    have rd := fun {hh : Hp} => l11Dominates_run (h := hh) (p := q) (q := p)
    have cs := cover_snoc (p := p) hq
    rw [hc, Bool.false_or] at cs
    cases c1 : sameB q p
    · cases c2 : domB q p
      · rw [c1, c2] at cs
        rw [c2] at rd
        simp -implicitDefEqProofs [-indexAddrP_some, hlt, lq, lp, eqPt, c1, CL_ret rd, CH_at rd, winc hlt (by omega)]
        exact ⟨m - 1, by omega, on hI ⟨i + 1, by omega, rfl, cs, H⟩⟩
      · rw [c2] at rd
        have cm := cover_mono hq (by rw [c2, Bool.or_true] : (sameB q p || domB q p) = true)
        rw [putF, if_pos cm] at hK
        simp -implicitDefEqProofs [-indexAddrP_some, hlt, lq, lp, eqPt, c1, CL_ret rd, CH_at rd]
        exact onK hK ⟨pre_gcU H.pre, Sees.gcU Sp fun g => g⟩
    · have cm := cover_mono hq (by rw [c1]; rfl : (sameB q p || domB q p) = true)
      rw [putF, if_pos cm] at hK
      simp -implicitDefEqProofs [-indexAddrP_some, hlt, lq, lp, eqPt, c1]
      exact onK hK ⟨pre_gcU H.pre, Sees.gcU Sp fun g => g⟩
  · rw [List.take_of_length_le (by omega)] at hc
    rw [putF, if_neg (by rw [hc]; simp)] at hK
    simp -implicitDefEqProofs [hlt]
    refine R_loopO (fun m2 s h2 => ∃ (k : Nat) (b : Bool) (u : Value) (out : List Pt), k + m2 = F.length ∧ s = [(0, .slice oa F.length ca), (3, .pointer (some ⟨h.length, 0, some 2⟩)), (5, u), (7, .bool b), (8, .int .i64 k)] ∧
      (b = true → (∃ q, q ∈ restF (F.take k) p ∧ p.1 < q.1) ∧ out = insP p (restF (F.take k) p)) ∧ (b = false → (∀ q, q ∈ restF (F.take k) p → ¬ p.1 < q.1) ∧ out = restF (F.take k) p) ∧
      Holds h h2 [.box h.length [.int .i64 p.1, .int .i64 p.2], .own u 2 (out.map encQ)]) (fun I2 hI2 m2 s h2 => ?_) (n := F.length)
      ⟨0, false, _, [], Nat.zero_add _, by simp, (fun g => by cases g), (fun _ => ⟨fun q hq => absurd hq List.not_mem_nil, rfl⟩), H⟩
    rintro ⟨k, b, u, out, hk, rfl, hb1, hb2, H2⟩
    have lp := H2.bl (P := P) 0 2 rfl rfl
    have Sp := Ss.pre H2.pre
    have hrl := @rest_len F p k
    have hol : out.length ≤ F.length + 1 := by
      cases b
      · rw [(hb2 rfl).2]; omega
      · rw [(hb1 rfl).2, insP_perm.length_eq, List.length_cons]; omega
    by_cases hlk : k < F.length
    · obtain ⟨q, hq, _⟩ := drop_at hlk
      have lq := load_Q Sp hq
      have rs := rest_snoc (p := p) hq
      have rd := fun {hh : Hp} => l11Dominates_run (h := hh) (p := p) (q := q)
      cases c1 : domB p q
      · rw [c1] at rd rs
        simp only [Bool.false_eq_true, if_false] at rs
        obtain ⟨v3, h3, a3, H3, _⟩ := push_Q0 H2 1 rfl q (by omega)
        have a3' : appendP P (h2 ++ [some ⟨[.int .i64 q.1, .int .i64 q.2], 2, false⟩]) t_S_A2_int u (.slice (some ⟨h2.length, 0, some 2⟩) 1 1) = some (v3, h3) := a3
        cases b
        · by_cases c2 : p.1 < q.1
          · obtain ⟨v4, h4, a4, H4, _⟩ := push_Q0 H2 1 rfl p (by omega)
            have H4' : Holds h h4 [.box h.length [.int .i64 p.1, .int .i64 p.2], .own v4 2 ((out ++ [p]).map encQ)] := H4
            have lq4 := load_Q (Ss.pre H4'.pre) hq
            obtain ⟨v5, h5, a5, H5, _⟩ := push_Q0 H4' 1 rfl q (by simp; omega)
            have lp4 := H4'.bl (P := P) 0 2 rfl rfl
            simp -implicitDefEqProofs [-indexAddrP_some, hlk, lq, lp, CL_ret rd, CH_at rd, ia20, c2, a4, lq4, a5, winc hlk (by omega)]
            refine ⟨m2 - 1, by omega, on hI2 ⟨k + 1, true, v5, out ++ [p] ++ [q], by omega, rfl, fun _ => ⟨⟨q, by rw [rs]; simp, c2⟩, ?_⟩, (fun g => by cases g), H5⟩⟩
            rw [rs, insP_none (hb2 rfl).1, (hb2 rfl).2, insP, if_pos c2]; simp
          · simp -implicitDefEqProofs [-indexAddrP_some, hlk, lq, lp, CL_ret rd, CH_at rd, ia20, c2, a3', winc hlk (by omega)]
            refine ⟨m2 - 1, by omega, on hI2 ⟨k + 1, false, v3, out ++ [q], by omega, rfl, (fun g => by cases g), fun _ => ⟨fun z hz => ?_, by rw [rs, (hb2 rfl).2]⟩, H3⟩⟩
            rw [rs] at hz
            rcases List.mem_append.1 hz with g | g
            · exact (hb2 rfl).1 z g
            · rw [List.mem_singleton.1 g]; exact c2
        · simp -implicitDefEqProofs [-indexAddrP_some, hlk, lq, lp, CL_ret rd, CH_at rd, a3', winc hlk (by omega)]
          refine ⟨m2 - 1, by omega, on hI2 ⟨k + 1, true, v3, out ++ [q], by omega, rfl, fun _ => ⟨?_, by rw [rs, insP_placed (hb1 rfl).1, (hb1 rfl).2]⟩, (fun g => by cases g), H3⟩⟩
          obtain ⟨z, hz, hl⟩ := (hb1 rfl).1
          exact ⟨z, by rw [rs]; exact List.mem_append_left _ hz, hl⟩
      · rw [c1] at rd rs
        simp only [if_true, List.append_nil] at rs
        simp -implicitDefEqProofs [-indexAddrP_some, hlk, lq, lp, CL_ret rd, CH_at rd, winc hlk (by omega)]
        exact ⟨m2 - 1, by omega, on hI2 ⟨k + 1, b, u, out, by omega, rfl, fun g => by rw [rs]; exact hb1 g, fun g => by rw [rs]; exact hb2 g, H2⟩⟩
    · rw [List.take_of_length_le (by omega)] at hb1 hb2
      cases b
      · obtain ⟨v4, h4, a4, H4, _⟩ := push_Q0 H2 1 rfl p (by omega)
        have e : out ++ [p] = insP p (restF F p) := by
          have := insP_none (p := p) (m := []) (hb2 rfl).1
          rw [List.append_nil] at this
          rw [this, (hb2 rfl).2]; rfl
        rw [e] at H4
        simp -implicitDefEqProofs [hlk, lp, a4]
        exact onK hK ⟨pre_gcU H4.pre, Sees.gcU (H4.sees 1 rfl) fun g => Sees.pl (H4.sees 1 rfl) g⟩
      · rw [(hb1 rfl).2] at H2
        simp -implicitDefEqProofs [hlk]
        exact onK hK ⟨pre_gcU H2.pre, Sees.gcU (H2.sees 1 rfl) fun g => Sees.pl (H2.sees 1 rfl) g⟩
def upF (f g : Int) (js : List Job) (F : List Pt) (xs : List Int) : List Pt := putF F (ptX f g js xs)
theorem l11Try_run {js : List Job} {f g : Int} (hg : goodL js = true) (hn : js.length ≤ 8) (hf : 1 ≤ f ∧ f ≤ 8) (hg8 : 1 ≤ g ∧ g ≤ 8) : ∀ {k : Nat} {h : Hp} {vj vb vf : Value} {begun : List Int} {F : List Pt}, Jobs h vj js → Ints h vb begun → Prs h vf F → FOk F → begun.length + k = js.length → inN js.length begun → begun.Nodup →
    RunsC P G n_spec_l11Try [vj, vb, .int .i64 f, .int .i64 g, vf] h fun w h' => h <+: h' ∧ FOk (dfs (upF f g js) js.length k begun F) ∧ Prs h' w (dfs (upF f g js) js.length k begun F)
  | 0, h, vj, vb, vf, begun, F, J, B, S, hF, hk, hin, hnd => by
    refine hideC fun K hK => enter_run e_spec_l11Try (by simp) ?_
    have Js := J
    have Bs := B
    obtain ⟨oj, cj, rfl⟩ := J.shapeT
    obtain ⟨ob, cb, rfl⟩ : ∃ a c, vb = .slice a js.length c := by obtain ⟨a, c, e⟩ := B.shapeT; exact ⟨a, c, by rw [e]; congr 1⟩
    have hx : Ord js.length begun := ⟨by omega, hin, hnd⟩
    have rp := l11Point_run (f := f) (g := g) Js Bs hg hn hf hg8 hx
    have bd := valX_bd (o := f) hg hn hx
    rw [dfs] at hK
    simp -implicitDefEqProofs [CL_ret rp]
    refine CL_post (l11Put_run (p := ptX f g js begun) S hF) fun w h1 ⟨hp1, S1⟩ => ?_
    simp -implicitDefEqProofs
    exact onK hK ⟨pre_gcU hp1, hF.put bd, Sees.gcU S1 fun g => Sees.pl S1 g⟩
  | k + 1, h, vj, vb, vf, begun, F, J, B, S, hF, hk, hin, hnd => by
    refine hideC fun K hK => enter_run e_spec_l11Try (by simp) ?_
    have Js := J
    have Bs := B
    obtain ⟨oj, cj, rfl⟩ := J.shapeT
    obtain ⟨ob, cb, rfl⟩ := B.shapeT
    have hne : ((begun.length : Int) == (js.length : Int)) = false := nb (by omega)
    have hne' : ¬ begun.length = js.length := by omega
    generalize hX : dfs (upF f g js) js.length (k + 1) begun F = X at hK
    rw [dfs] at hX
    simp -implicitDefEqProofs [hne, hne']
    refine R_loopO (fun m st h' => ∃ (i : Nat) (F' : List Pt) (vf' : Value), i + m = js.length ∧ st = [(0, .slice oj js.length cj), (1, .slice ob begun.length cb), (2, .int .i64 f), (3, .int .i64 g), (4, vf'), (11, .int .i64 i)] ∧
      X = (List.range' i m).foldl (fun b (j : Nat) => if begun.any (· == (j : Int)) = true then b else dfs (upF f g js) js.length k (begun ++ [(j : Int)]) b) F' ∧ FOk F' ∧ Prs h' vf' F' ∧ h <+: h') (fun I hI m st h' => ?_) (n := js.length)
      ⟨0, F, vf, Nat.zero_add _, by simp, hX.symm, hF, S, List.prefix_rfl⟩
    rintro ⟨i, F', vf', hi, rfl, hx, hF', S', hp⟩
    by_cases hlt : i < js.length
    · obtain ⟨m', rfl⟩ : ∃ m', m = m' + 1 := ⟨m - 1, by omega⟩
      rw [List.range'_succ, List.foldl_cons] at hx
      have rh := l1Has_run (x := (i : Int)) (Bs.pre hp) (by omega)
      have wi := winc hlt (show js.length ≤ 2 ^ 40 by omega)
      cases c1 : hasL (i : Int) begun
      · have hx' : X = (List.range' (i + 1) m').foldl (fun b (j : Nat) => if begun.any (· == (j : Int)) = true then b else dfs (upF f g js) js.length k (begun ++ [(j : Int)]) b) (dfs (upF f g js) js.length k (begun ++ [(i : Int)]) F') := by
          rw [hx, show begun.any (· == (i : Int)) = false from c1]; rfl
        have hni : (i : Int) ∉ begun := fun g => by rw [hasL_iff'.2 g] at c1; cases c1
        simp -implicitDefEqProofs [hlt, CL_ret rh, c1]
        refine CL_post (l1Own_run (Bs.pre hp) (by omega)) fun v5 h5 ⟨hp5, ho5⟩ => ?_
        have H5 : Holds h' h5 [.own v5 1 (begun.map encI)] := (Holds.start (h := h')).call hp5 ho5
        obtain ⟨v6, h6, ha6, H6, k6, _⟩ := push_I0 H5 0 rfl (i : Int) (by omega)
        have H6' : Holds h' h6 [.own v6 1 ((begun ++ [(i : Int)]).map encI)] := H6
        have ih := l11Try_run hg hn hf hg8 (k := k) (Js.pre (hp.trans H6'.pre)) (H6'.sees 0 rfl) (S'.pre H6'.pre) hF' (by simp; omega) (fun x hx => by
          rcases List.mem_append.1 hx with g | g
          · exact hin x g
          · rw [List.mem_singleton.1 g]; omega) (List.nodup_append.2 ⟨hnd, by simp, fun a ha c hc => by rw [List.mem_singleton.1 hc]; intro e; exact hni (e ▸ ha)⟩)
        simp -implicitDefEqProofs [ha6]
        refine CL_post ih fun w h7 ⟨hp7, hF7, S7⟩ => ?_
        simp -implicitDefEqProofs [wi]
        exact ⟨m', by omega, on hI ⟨i + 1, _, w, by omega, rfl, hx', hF7, S7, hp.trans (H6'.pre.trans hp7)⟩⟩
      · have hx' : X = (List.range' (i + 1) m').foldl (fun b (j : Nat) => if begun.any (· == (j : Int)) = true then b else dfs (upF f g js) js.length k (begun ++ [(j : Int)]) b) F' := by
          rw [hx, show begun.any (· == (i : Int)) = true from c1]; rfl
        simp -implicitDefEqProofs [hlt, CL_ret rh, c1, wi]
        exact ⟨m', by omega, on hI ⟨i + 1, F', _, by omega, rfl, hx', hF', S', hp⟩⟩
    · have hm : m = 0 := by omega
      subst hm
      rw [List.range'_zero, List.foldl_nil] at hx
      subst hx
      simp -implicitDefEqProofs [hlt]
      exact onK hK ⟨pre_gcU hp, hF', Sees.gcU S' fun g => Sees.pl S' g⟩
def frontR (f g : Int) (js : List Job) : List Pt := (ordsL js.length).foldl (upF f g js) []
theorem front_dfs {f g : Int} {js : List Job} : dfs (upF f g js) js.length js.length [] [] = frontR f g js := by
  rw [dfs_perms (by rw [rem_nil]; simp), up_rem]
  rfl
theorem l11Front_run (J : Jobs h vj js) (hg : goodL js = true) (hn : js.length ≤ 8) (hf : 1 ≤ f ∧ f ≤ 8) (hg8 : 1 ≤ g ∧ g ≤ 8) : RunsC P G n_spec_l11Front [vj, .int .i64 f, .int .i64 g] h fun w h' => h <+: h' ∧ FOk (frontR f g js) ∧ Prs h' w (frontR f g js) := by
  refine hideC fun K hK => enter_run e_spec_l11Front (by simp) ?_
  have Js := J
  obtain ⟨oj, cj, rfl⟩ := J.shapeT
  have nilI : Ints h (.slice none 0 0) [] := ⟨by simp, none, 0, rfl, .inl ⟨rfl, rfl, rfl⟩⟩
  have nilQ : Prs h (.slice none 0 0) [] := ⟨by simp, none, 0, rfl, .inl ⟨rfl, rfl, rfl⟩⟩
  have r := l11Try_run hg hn hf hg8 (k := js.length) Js nilI nilQ FOk.nil (by simp) (fun x hx => by cases hx) List.nodup_nil
  rw [front_dfs] at r
  simp -implicitDefEqProofs
  refine CL_post r fun w h1 ⟨hp1, hF1, S1⟩ => ?_
  simp -implicitDefEqProofs
  exact onK hK ⟨pre_gcU hp1, hF1, Sees.gcU S1 fun g => Sees.pl S1 g⟩
end
end Go.Pm.PP

/- Fronts by the program; what both export. -/
set_option linter.unusedVariables false
set_option linter.unusedSimpArgs false
set_option maxRecDepth 4000
set_option maxHeartbeats 16000000
namespace Go.Pm.PP
open Go.Pm Go.Proofs Go.Pm.PE
def bxF (p : Nat) (vf : Value) (F : List Pt) : List Asn := [.box p [vf], .own vf 2 (F.map encQ)]
theorem gcF {hb h h' : Hp} {p : Nat} {vf vf' u : Value} {F F' : List Pt} {L : List Asn} (HL : Holds hb h (bxF p vf F ++ L)) (H' : Holds hb h' (bxF p vf' F' ++ L)) : Holds hb (gc h h' u) (bxF p vf' F' ++ L) := by
  rcases gc_cases' h h' u with g | ⟨hp, g⟩
  · rw [g]; exact H'
  · have e1 := HL.box (cs := [vf]) (r := p) 0 rfl
    have e2 := H'.box (cs := [vf']) (r := p) 0 rfl
    obtain ⟨t, rfl⟩ := hp
    rw [List.getElem?_append_left (List.getElem?_eq_some_iff.1 e1).1, e1] at e2
    cases e2
    exact HL.gcR H' rfl
section
variable {h : Hp} {vj v u : Value} {js : List Job} {xs : List Int} {f g : Int}
/-- The program's look at an order. -/
theorem tellF_run {hb h : Hp} {p rj rf rg : Nat} {vj vf vg : Value} {js : List Job} {f g : Int} {xs : List Int} {F : List Pt} (J : Jobs hb vj js) (bj : hb[rj]? = some (some ⟨[vj], 0, false⟩)) (bf : hb[rf]? = some (some ⟨[.int .i64 f], 0, false⟩)) (bg : hb[rg]? = some (some ⟨[.int .i64 g], 0, false⟩))
    (hgd : goodL js = true) (hn : js.length ≤ 8) (hf : 1 ≤ f ∧ f ≤ 8) (hg8 : 1 ≤ g ∧ g ≤ 8) (hx : Ord js.length xs) (hF : FOk F) (H : Holds hb h (bxF p vf F ++ [.own vg 1 (xs.map encI)])) :
    RunsC P G n_impl_frontOf_1 [vg, .pointer (some ⟨rj, 0, some 1⟩), .pointer (some ⟨rf, 0, some 1⟩), .pointer (some ⟨rg, 0, some 1⟩), .pointer (some ⟨p, 0, some 1⟩)] h fun v h' =>
      ∃ vf', ∀ L, Holds hb h (bxF p vf F ++ L) → Holds hb h' (bxF p vf' (upF f g js F xs) ++ L) := by
  refine hideC fun K hK => enter_run e_impl_frontOf_1 (by simp) ?_
  have SF : Prs h vf F := H.sees 1 rfl
  obtain ⟨f1, f3, rfl⟩ : ∃ a c, vf = .slice a F.length c := SF.shapeT
  have Js := J
  obtain ⟨oj, cj, rfl⟩ := J.shapeT
  have Sg : Ints h vg xs := H.sees 2 rfl
  obtain ⟨g1, g3, rfl⟩ : ∃ a c, vg = .slice a xs.length c := Sg.shapeT
  have lj := load_pre H.pre bj (n := 1) rfl
  have lf := load_pre H.pre bf (n := 1) rfl
  have lg := load_pre H.pre bg (n := 1) rfl
  have rp := pointOf_run (f := f) (g := g) (Js.pre H.pre) Sg hgd hn hf hg8 hx
  have bd := valX_bd (o := f) hgd hn hx
  have hFl := hF.len
  obtain ⟨P0, hP0⟩ : ∃ P0, P0 = ptX f g js xs := ⟨_, rfl⟩
  have eU : upF f g js F xs = putF F P0 := by rw [hP0]; rfl
  rw [← hP0] at rp
  rw [eU] at hK
  have bd : -(2 ^ 30) ≤ P0.1 ∧ P0.1 ≤ 2 ^ 30 := by rw [hP0]; exact bd
  -- what this call makes is its own
  have N0 := (Holds.start (h := h)).alloc [.int .i64 P0.1, .int .i64 P0.2]
  have N1 := own_nil N0 Pt encQ 2
  have lb0 := (H.ext N0.pre).bl (P := P) 0 1 rfl rfl t_S_A2_int 0
  simp -implicitDefEqProofs [lj, lf, lg, CL_ret rp, lb0]
  refine R_loopO (fun m s h' => ∃ (i : Nat) (w : Value), i + m = F.length ∧ s = [(4, .pointer (some ⟨p, 0, some 1⟩)), (6, .pointer (some ⟨h.length, 0, some 2⟩)), (7, w), (16, .slice f1 F.length f3), (17, .int .i64 F.length), (18, .int .i64 i)] ∧ coverB (F.take i) P0 = false ∧
    Holds h h' [.box h.length [.int .i64 P0.1, .int .i64 P0.2], .own w 2 ((restF (F.take i) P0).map encQ)]) (fun I hI m s h' => ?_) (n := F.length)
    ⟨0, _, Nat.zero_add _, by simp, rfl, N1⟩
  rintro ⟨i, w, hi, rfl, hc, N⟩
  have lp := fun {l : Hp} => N.blx (P := P) 0 2 rfl rfl l t_A2_int 0
  have SFn := SF.pre N.pre
  have hrl := @rest_len F P0 i
  by_cases hlt : i < F.length
  · obtain ⟨q, hq, _⟩ := drop_at hlt
    have lq := load_Q SFn hq
    have r1 := fun {hh : Hp} => dominates_run (h := hh) (p := q) (q := P0)
    have r2 := fun {hh : Hp} => dominates_run (h := hh) (p := P0) (q := q)
    have cs := cover_snoc (p := P0) hq
    rw [hc, Bool.false_or] at cs
    have rs := rest_snoc (p := P0) hq
    have covered : (sameB q P0 || domB q P0) = true → ∀ u l, K u (gc h (h' ++ l) u) := fun hcv u l => by
      have cm := cover_mono hq hcv
      rw [putF, if_pos cm] at hK
      exact onK hK ⟨_, fun L HL => gcF HL (HL.ext (N.pre.trans (List.prefix_append ..)))⟩
    cases c1 : sameB q P0
    · cases c2 : domB q P0
      · rw [c1, c2] at cs
        rw [c2] at r1
        cases c3 : domB P0 q
        · rw [c3] at r2 rs
          simp only [Bool.false_eq_true, if_false] at rs
          obtain ⟨v3, h3, a3, N3, _⟩ := push_Q1 N 1 rfl q (a1 := some ⟨[.int .i64 q.1, .int .i64 q.2], 0, false⟩) (by omega)
          have N3 : Holds h h3 [.box h.length [.int .i64 P0.1, .int .i64 P0.2], .own v3 2 ((restF (F.take i) P0 ++ [q]).map encQ)] := N3
          simp -implicitDefEqProofs [-indexAddrP_some, hlt, lq, lp, eqPt, c1, CL_ret r1, CL_ret r2, a3, winc hlt (by omega)]
          exact ⟨m - 1, by omega, on hI ⟨i + 1, v3, by omega, rfl, cs, by rw [rs]; exact N3⟩⟩
        · rw [c3] at r2 rs
          simp only [if_true, List.append_nil] at rs
          simp -implicitDefEqProofs [-indexAddrP_some, hlt, lq, lp, eqPt, c1, CL_ret r1, CL_ret r2, winc hlt (by omega)]
          exact ⟨m - 1, by omega, on hI ⟨i + 1, w, by omega, rfl, cs, by rw [rs]; exact N.ext (List.prefix_append ..)⟩⟩
      · rw [c2] at r1
        simp -implicitDefEqProofs [-indexAddrP_some, hlt, lq, lp, eqPt, c1, CL_ret r1]
        exact covered (by rw [c2, Bool.or_true]) _ _
    · simp -implicitDefEqProofs [-indexAddrP_some, hlt, lq, lp, eqPt, c1]
      exact covered (by rw [c1]; rfl) _ _
  · rw [List.take_of_length_le (by omega)] at hc N hrl
    rw [putF, if_neg (by rw [hc]; simp)] at hK
    have hst : Srt (restF F P0) := rest_srt hF.1
    generalize hR : restF F P0 = R0 at *
    have SW : Prs h' w R0 := N.sees 1 rfl
    obtain ⟨w1, w3, rfl⟩ : ∃ a c, w = .slice a R0.length c := SW.shapeT
    have lpp := N.bl (P := P) 0 2 rfl rfl
    simp -implicitDefEqProofs [hlt]
    refine R_loopO (fun m2 s h2 => ∃ k : Nat, k = m2 ∧ s = [(4, .pointer (some ⟨p, 0, some 1⟩)), (6, .pointer (some ⟨h.length, 0, some 2⟩)), (7, .slice w1 R0.length w3), (10, .int .i64 k)] ∧ h2 = h' ∧ k ≤ R0.length ∧ ∀ i q, k ≤ i → R0[i]? = some q → P0.1 < q.1) (fun I2 hI2 m2 s h2 => ?_) (n := R0.length)
      ⟨R0.length, rfl, by simp, rfl, Nat.le_refl _, fun i q h1 h2 => by have := (List.getElem?_eq_some_iff.1 h2).1; omega⟩
    rintro ⟨k, rfl, rfl, rfl, hk, hgt⟩
    have fin : (∀ q, 0 < k → R0[k - 1]? = some q → ¬ P0.1 < q.1) → ∃ va vb vc h3 dv mv nn h4 h5 h6, appendP P (h2 ++ [some ⟨[.int .i64 P0.1, .int .i64 P0.2], 2, false⟩]) t_S_A2_int (.slice w1 R0.length w3) (.slice (some ⟨h2.length, 0, some 2⟩) 1 1) = some (.slice va vb vc, h3) ∧
        sliceP P h3 t_S_A2_int (.slice va vb vc) (some (.int .i64 ((k : Int) + 1))) none = some dv ∧ sliceP P h3 t_S_A2_int (.slice va vb vc) (some (.int .i64 k)) none = some mv ∧ copyP P h3 t_S_A2_int dv mv = some (.int .i64 nn, h4) ∧
        loadP P h4 t_A2_int (.pointer (some ⟨h.length, 0, some 2⟩)) = some (ptv P0) ∧
        indexAddrP P h4 t_S_A2_int (.slice va vb vc) (.int .i64 k) = some (.pointer (some (addP (base (.slice va vb vc)) (k * 2)))) ∧ storeP P h4 t_A2_int (ptv P0) (.pointer (some (addP (base (.slice va vb vc)) (k * 2)))) = some h5 ∧ storeP P h5 t_S_A2_int (.slice va vb vc) (.pointer (some ⟨p, 0, some 1⟩)) = some h6 ∧ ∀ u, K u (gc h h6 u) := fun hlo => by
      obtain ⟨v2, h3, ha, N3, _⟩ := push_Q0 N 1 rfl P0 (by omega)
      have N3 : Holds h h3 [.box h.length [.int .i64 P0.1, .int .i64 P0.2], .own v2 2 ((R0 ++ [P0]).map encQ)] := N3
      obtain ⟨dv, mv, nn, h4, s1, s2, s3, N4, _⟩ := N3.shift (P := P) 1 rfl (k := k) u_S_A2_int i_A2_int (ones_Q _) (by simp; omega)
      have e1 : (((R0 ++ [P0]).map encQ).take (k + 1) ++ (((R0 ++ [P0]).map encQ).drop k).take (((R0 ++ [P0]).map encQ).length - (k + 1))) = ((R0 ++ [P0]).take (k + 1) ++ ((R0 ++ [P0]).drop k).take ((R0 ++ [P0]).length - (k + 1))).map encQ := by
        generalize R0 ++ [P0] = ws
        rw [List.map_append, List.map_take, List.map_take, List.map_drop, List.length_map]
      rw [e1] at N4
      have hlen : ((R0 ++ [P0]).take (k + 1) ++ ((R0 ++ [P0]).drop k).take ((R0 ++ [P0]).length - (k + 1))).length = R0.length + 1 := by simp; omega
      obtain ⟨h5, s5, N5, _⟩ := put_Q N4 1 rfl (j := k) (by rw [hlen]; omega) P0
      rw [shift_setP hk, ← insP_back hst hk hgt hlo] at N5
      have N5 : Holds h h5 [.box h.length [.int .i64 P0.1, .int .i64 P0.2], .own v2 2 ((insP P0 R0).map encQ)] := N5
      have N4' : Holds h h4 [.box h.length [.int .i64 P0.1, .int .i64 P0.2], .own v2 2 (((R0 ++ [P0]).take (k + 1) ++ ((R0 ++ [P0]).drop k).take ((R0 ++ [P0]).length - (k + 1))).map encQ)] := N4
      obtain ⟨z, hz, _⟩ := drop_at (show k < ((R0 ++ [P0]).take (k + 1) ++ ((R0 ++ [P0]).drop k).take ((R0 ++ [P0]).length - (k + 1))).length by rw [hlen]; omega)
      have ix := (load_Q (N4'.sees 1 rfl) hz).1
      have lp4 := N4'.bl (P := P) 0 2 rfl rfl t_A2_int 0
      have sv2 : Prs h5 v2 (insP P0 R0) := N5.sees 1 rfl
      obtain ⟨va, vc, rfl⟩ : ∃ a c, v2 = .slice a (insP P0 R0).length c := sv2.shapeT
      obtain ⟨h6, s6, H6, _⟩ := (H.ext N5.pre).set (P := P) 0 (n := 1) (o := 0) (ty := t_S_A2_int) (w := .slice va (insP P0 R0).length vc) rfl rfl e_t_S_A2_int (by simp) (by simp) (by simp)
      refine ⟨_, _, _, h3, dv, mv, nn, h4, h5, h6, ha, s1, s2, s3, by rw [lp4]; simp, ix, s5, s6, fun u => onK hK ⟨.slice va (insP P0 R0).length vc, fun L HL => ?_⟩⟩
      have HJ := Holds.joinT (L := bxF p (.slice f1 F.length f3) F) (T := L) (A := [.own (.slice va (insP P0 R0).length vc) 2 ((insP P0 R0).map encQ)]) (M := []) HL (N5.one 1 rfl)
      obtain ⟨h6', s6', H6', _⟩ := HJ.set (P := P) 0 (n := 1) (o := 0) (ty := t_S_A2_int) (w := .slice va (insP P0 R0).length vc) rfl rfl e_t_S_A2_int (by simp) (by simp) (by simp)
      rw [s6] at s6'; cases s6'
      have H7 : Holds hb h6 (([.box p [.slice va (insP P0 R0).length vc]] ++ [.own (.slice f1 F.length f3) 2 (F.map encQ)]) ++ ([.own (.slice va (insP P0 R0).length vc) 2 ((insP P0 R0).map encQ)] ++ L)) := H6'
      have H8 : Holds hb h6 (bxF p (.slice va (insP P0 R0).length vc) (insP P0 R0) ++ L) := H7.cut
      exact gcF HL H8
    have wk : IntKind.i64.wrap ((k : Int) + 1) = (k : Int) + 1 := by rw [wrap_ok] <;> omega
    by_cases h0 : 0 < k
    · obtain ⟨q, hq, _⟩ := drop_at (show k - 1 < R0.length by omega)
      have w1' : IntKind.i64.wrap ((k : Int) - 1) = ((k - 1 : Nat) : Int) := by rw [wrap_ok] <;> omega
      have lq := load_Q SW hq
      have h0' : (0 : Int) < k := by omega
      by_cases c1 : P0.1 < q.1
      · simp -implicitDefEqProofs [-indexAddrP_some, h0, h0', w1', lq, ia20, lpp, c1]
        refine ⟨k - 1, by omega, on hI2 ⟨k - 1, rfl, rfl, rfl, by omega, fun t x ht hx => ?_⟩⟩
        rcases Nat.eq_or_lt_of_le ht with g | g
        · rw [← g, hq] at hx; cases hx; exact c1
        · exact hgt t x (by omega) hx
      · obtain ⟨va, vb, vc, h3, dv, mv, nn, h4, h5, h6, ha, s1, s2, s3, lp4, ix, s5, s6, fK⟩ := fin (fun x _ hx => by rw [hq] at hx; cases hx; exact c1)
        simp -implicitDefEqProofs [-indexAddrP_some, h0, h0', w1', lq, ia20, lpp, c1, ha, wk, s1, s2, s3, lp4, ix, s5, s6]
        exact fK _
    · obtain ⟨va, vb, vc, h3, dv, mv, nn, h4, h5, h6, ha, s1, s2, s3, lp4, ix, s5, s6, fK⟩ := fin (fun x h => absurd h h0)
      have h0' : ¬ (0 : Int) < k := by omega
      simp -implicitDefEqProofs [-indexAddrP_some, h0, h0', lpp, ha, wk, s1, s2, s3, lp4, ix, s5, s6]
      exact fK _
theorem frontOf_run (J : Jobs h vj js) (hg : goodL js = true) (hn : js.length ≤ 8) (hf : 1 ≤ f ∧ f ≤ 8) (hg8 : 1 ≤ g ∧ g ≤ 8) : RunsC P G n_impl_frontOf [vj, .int .i64 f, .int .i64 g] h fun w h' => h <+: h' ∧ FOk (frontR f g js) ∧ Prs h' w (frontR f g js) := by
  refine hideC fun K hK => enter_run e_impl_frontOf (by simp) ?_
  have Js := J
  obtain ⟨oj, cj, rfl⟩ := J.shapeT
  have H0 := ((Holds.start.alloc [.slice oj js.length cj] (h := h)).alloc [.int .i64 f]).alloc [.int .i64 g]
  simp only [List.append_assoc, List.cons_append, List.nil_append, List.length_append, List.length_cons, List.length_nil, Nat.zero_add] at H0
  generalize hHb : h ++ [some ⟨[.slice oj js.length cj], 0, false⟩, some ⟨[.int .i64 f], 0, false⟩, some ⟨[.int .i64 g], 0, false⟩] = hb at H0
  have hbl : hb.length = h.length + 1 + 1 + 1 := by rw [← hHb]; simp
  have E : Holds hb (hb ++ [some ⟨[.slice none 0 0], 0, false⟩]) (bxF hb.length (.slice none 0 0) [] ++ []) := own_nil ((Holds.start (h := hb)).alloc [.slice none 0 0]) Pt encQ 2
  have er := eachOrder_run (hb := hb) (g := n_impl_frontOf_1) (c := #[.pointer (some ⟨h.length, 0, some 1⟩), .pointer (some ⟨h.length + 1, 0, some 1⟩), .pointer (some ⟨h.length + 1 + 1, 0, some 1⟩), .pointer (some ⟨hb.length, 0, some 1⟩)]) hn
    (Q := fun i BX => ∃ vf, BX = bxF hb.length vf (((ordsL js.length).take i).foldl (upF f g js) []) ∧ FOk (((ordsL js.length).take i).foldl (upF f g js) []))
    (fun i BX i' BX' h h' L u ⟨vf, e, k1⟩ ⟨vf', e', k2⟩ HL H' => by
      subst e; subst e'
      exact gcF HL H')
    (fun i xs h BX vg ⟨vf, eBX, kf⟩ hxs HB => by
      subst eBX
      have ox := ords_ord (List.mem_of_getElem? hxs)
      refine RunsC.mono (tellF_run (Js.pre H0.pre) (H0.box 0 rfl) (H0.box 1 rfl) (H0.box 2 rfl) hg hn hf hg8 ox kf HB) fun v h' ⟨vf', F⟩ => ?_
      have es : ((ordsL js.length).take (i + 1)).foldl (upF f g js) [] = upF f g js (((ordsL js.length).take i).foldl (upF f g js) []) xs := by
        rw [take_succ' hxs, List.foldl_append, List.foldl_cons, List.foldl_nil]
      refine ⟨_, ⟨vf', rfl, by rw [es]; exact kf.put (valX_bd hg hn ox)⟩, fun L HL => ?_⟩
      rw [es]
      exact F L HL) ⟨_, rfl, FOk.nil⟩ E
  have hcount : hb ++ [some ⟨[.slice none 0 0], 0, false⟩] = h ++ [some ⟨[.slice oj js.length cj], 0, false⟩, some ⟨[.int .i64 f], 0, false⟩, some ⟨[.int .i64 g], 0, false⟩, some ⟨[.slice none 0 0], 0, false⟩] := by rw [← hHb]; simp
  rw [hcount, hbl] at er
  rw [hcount, hbl] at E
  simp -implicitDefEqProofs
  refine CL_post er fun v h4 ⟨BX', ⟨vf, eBX, kF⟩, F⟩ => ?_
  subst eBX
  have H4 := F [] E
  rw [List.take_length] at H4 kF
  have s4 : Prs h4 vf (frontR f g js) := H4.sees 1 rfl
  obtain ⟨a, c, rfl⟩ : ∃ a c, vf = .slice a (frontR f g js).length c := s4.shapeT
  have l0 := H4.bl (P := P) 0 1 rfl rfl
  simp only [Nat.add_assoc, Nat.reduceAdd] at l0
  simp -implicitDefEqProofs [l0]
  exact onK hK ⟨pre_gcU (H0.pre.trans H4.pre), kF, Sees.gcU s4 fun g => g⟩
end
end Go.Pm.PP

/- Fronts: what both export. -/
set_option linter.unusedVariables false
set_option linter.unusedSimpArgs false
set_option maxRecDepth 4000
set_option maxHeartbeats 16000000
namespace Go.Pm.PP
open Go.Pm Go.Proofs Go.Pm.PE
def frV (js : List Job) (f g : Int) : List Pt := if aTwo js f g = true then frontR f g js else []
def hasPt (F : List Pt) (p : Pt) : Bool := F.any fun q => sameB q p
theorem hasPt_iff {F : List Pt} {p : Pt} : hasPt F p = true ↔ p ∈ F := by
  unfold hasPt
  rw [List.any_eq_true]
  constructor
  · rintro ⟨q, hq, h⟩; rw [sameB_iff] at h; subst h; exact hq
  · intro h; exact ⟨p, h, sameB_iff.2 rfl⟩
section
variable {h : Hp} {vj v u : Value} {js : List Job} {xs : List Int} {f g : Int}
theorem implFrontOf_run (J : Jobs h vj js) (hl : js.length ≤ 2 ^ 40) : RunsC P G n_impl_FrontOf [vj, .int .i64 f, .int .i64 g] h fun w h' => h <+: h' ∧ ∃ d, w = .tuple #[d, .bool (aTwo js f g)] ∧ Prs h' d (frV js f g) ∧ FOk (frV js f g) := by
  refine hideC fun K hK => enter_run e_impl_FrontOf (by simp) ?_
  have r1 := areTwo_run (f := f) (g := g) J hl
  have Js := J
  obtain ⟨oj, cj, rfl⟩ := J.shapeT
  cases c1 : aTwo js f g
  · rw [frV, c1] at hK
    simp -implicitDefEqProofs [CL_ret r1, c1]
    exact onK hK ⟨List.prefix_rfl, _, rfl, ⟨by simp, none, 0, rfl, .inl ⟨rfl, rfl, rfl⟩⟩, FOk.nil⟩
  · obtain ⟨hn, hg, hf, hg8⟩ := aTwo_of c1
    rw [frV, c1, if_pos rfl] at hK
    simp -implicitDefEqProofs [CL_ret r1, c1]
    refine CL_post (frontOf_run (f := f) (g := g) Js hg hn hf hg8) fun w h1 ⟨hp1, hF, S1⟩ => ?_
    simp -implicitDefEqProofs
    exact onK hK ⟨pre_gcU hp1, _, rfl, Sees.gcU S1 fun g => plainT (r := [_]) g, hF⟩
theorem aTwo_eq {js : List Job} {f g : Int} : aTwo js f g = (jOk js && (inB f 1 8 && inB g 1 8)) := by unfold aTwo; rw [Bool.and_assoc]
theorem specFrontOf_run (J : Jobs h vj js) (hl : js.length ≤ 2 ^ 40) : RunsC P G n_spec_FrontOf [vj, .int .i64 f, .int .i64 g] h fun w h' => h <+: h' ∧ ∃ d, w = .tuple #[d, .bool (aTwo js f g)] ∧ Prs h' d (frV js f g) ∧ FOk (frV js f g) := by
  refine hideC fun K hK => enter_run e_spec_FrontOf (by simp) ?_
  have r1 := good_run J hl
  have Js := J
  obtain ⟨oj, cj, rfl⟩ := J.shapeT
  have bad : aTwo js f g = false → K (.tuple #[.slice none 0 0, .bool false]) h := fun e => by
    rw [frV, e] at hK
    exact onK hK ⟨List.prefix_rfl, _, rfl, ⟨by simp, none, 0, rfl, .inl ⟨rfl, rfl, rfl⟩⟩, FOk.nil⟩
  cases c1 : jOk js
  · simp -implicitDefEqProofs [CL_ret r1, c1]
    exact bad (by rw [aTwo_eq, c1]; rfl)
  cases c2 : (inB f 1 8 && inB g 1 8)
  · simp -implicitDefEqProofs [CL_ret r1, c1, CL_ret l11Two_run, c2]
    exact bad (by rw [aTwo_eq, c2, Bool.and_false])
  · have c3 : aTwo js f g = true := by rw [aTwo_eq, c1, c2]; rfl
    obtain ⟨hn, hg, hf, hg8⟩ := aTwo_of c3
    rw [frV, c3, if_pos rfl] at hK
    simp -implicitDefEqProofs [CL_ret r1, c1, CL_ret l11Two_run, c2]
    refine CL_post (l11Front_run (f := f) (g := g) Js hg hn hf hg8) fun w h1 ⟨hp1, hF, S1⟩ => ?_
    simp -implicitDefEqProofs
    exact onK hK ⟨pre_gcU hp1, _, rfl, Sees.gcU S1 fun g => plainT (r := [_]) g, hF⟩
def undB (js : List Job) (xs : List Int) (f g : Int) : Bool := aTwo js f g && l2OrderL js.length xs
theorem implIsUndominated_run (J : Jobs h vj js) (X : Ints h v xs) (hl : js.length ≤ 2 ^ 40) (hx : xs.length ≤ 2 ^ 40) : Ret P G n_impl_IsUndominated [vj, v, .int .i64 f, .int .i64 g] h (.tuple #[.bool (undB js xs f g && hasPt (frontR f g js) (ptX f g js xs)), .bool (undB js xs f g)]) h := by
  refine enter_run e_impl_IsUndominated (by simp) ?_
  have r1 := areTwo_run (f := f) (g := g) J hl
  have r2 := isOrder_run (n := js.length) X hx
  have Js := J
  have Xs := X
  obtain ⟨oj, cj, rfl⟩ := J.shapeT
  obtain ⟨oa, ca, rfl⟩ := X.shapeT
  unfold undB
  cases c1 : aTwo js f g
  · simp -implicitDefEqProofs [CL_ret r1, c1]
  obtain ⟨hn, hg, hf, hg8⟩ := aTwo_of c1
  have e : (((xs.length : Int) == (js.length : Nat)) && arGo js.length [] xs) = l2OrderL js.length xs := by
    rw [order_eq hn, l2OrderL, show inB js.length 0 8 = true by simp [inB]; omega, Bool.true_and]
  rw [e] at r2
  cases c2 : l2OrderL js.length xs
  · simp -implicitDefEqProofs [CL_ret r1, CL_ret r2, c1, c2]
  have rp := pointOf_run (f := f) (g := g) Js Xs hg hn hf hg8 (ord_of c2)
  generalize ptX f g js xs = p at *
  have H0 := (Holds.start (h := h)).alloc [.int .i64 p.1, .int .i64 p.2]
  simp -implicitDefEqProofs [CL_ret r1, CL_ret r2, c1, c2, CL_ret rp]
  refine CL_post (frontOf_run (f := f) (g := g) (Js.pre H0.pre) hg hn hf hg8) fun w h1 ⟨hp1, hF, S1⟩ => ?_
  have H1 := H0.ext hp1
  have hFl := hF.len
  generalize frontR f g js = F at *
  obtain ⟨fa, fc, rfl⟩ : ∃ a c, w = .slice a F.length c := S1.shapeT
  simp -implicitDefEqProofs
  refine R_loopO (fun m s h' => ∃ i : Nat, i + m = F.length ∧ s = [(10, .pointer (some ⟨h.length, 0, some 2⟩)), (33, .slice fa F.length fc), (34, .int .i64 F.length), (35, .int .i64 i)] ∧ hasPt F p = hasPt (F.drop i) p ∧ h1 <+: h') (fun I hI m s h' => ?_) (n := F.length)
    ⟨0, Nat.zero_add _, by simp, by simp, List.prefix_rfl⟩
  rintro ⟨i, hi, rfl, hx', hp⟩
  have lp := fun {l : Hp} => (H1.ext hp).blx (P := P) 0 2 rfl rfl l t_A2_int 0
  by_cases hlt : i < F.length
  · obtain ⟨q, hq, hd⟩ := drop_at hlt
    have lq := load_Q (S1.pre hp) hq
    have e : hasPt (q :: F.drop (i + 1)) p = (sameB q p || hasPt (F.drop (i + 1)) p) := rfl
    have sc : sameB p q = sameB q p := by
      rw [Bool.eq_iff_iff, sameB_iff, sameB_iff]; exact eq_comm
    rw [hd, e] at hx'
    cases c3 : sameB q p
    · rw [c3, Bool.false_or] at hx'
      rw [c3] at sc
      simp -implicitDefEqProofs [-indexAddrP_some, hlt, lq, lp, eqPt, sc, winc hlt (by omega)]
      exact ⟨m - 1, by omega, on hI ⟨i + 1, by omega, rfl, hx', hp.trans (List.prefix_append ..)⟩⟩
    · rw [c3, Bool.true_or] at hx'
      rw [c3] at sc
      simp -implicitDefEqProofs [-indexAddrP_some, hlt, lq, lp, eqPt, sc, hx']
      exact gcP (H1.pre.trans (hp.trans (List.prefix_append ..))) rfl
  · rw [List.drop_eq_nil_of_le (by omega)] at hx'
    have hx' : hasPt F p = false := hx'
    simp -implicitDefEqProofs [hlt, hx']
    exact gcP (H1.pre.trans hp) rfl
theorem l11Has_run {vf : Value} {F : List Pt} {p : Pt} (S : Prs h vf F) (hFl : F.length ≤ 2 ^ 40) : Ret P G n_spec_l11Has [vf, ptv p] h (.bool (hasPt F p)) h := by
  refine enter_run e_spec_l11Has (by simp) ?_
  have Ss := S
  obtain ⟨fa, fc, rfl⟩ := S.shapeT
  have H0 := (Holds.start (h := h)).alloc [.int .i64 p.1, .int .i64 p.2]
  have lp := H0.bl (P := P) 0 2 rfl rfl t_A2_int 0
  simp -implicitDefEqProofs
  refine R_loopO (fun m s h' => ∃ i : Nat, i + m = F.length ∧ s = [(0, .slice fa F.length fc), (3, .pointer (some ⟨h.length, 0, some 2⟩)), (5, .int .i64 i)] ∧ hasPt F p = hasPt (F.drop i) p ∧ h' = h ++ [some ⟨[.int .i64 p.1, .int .i64 p.2], 0, false⟩]) (fun I hI m s h' => ?_) (n := F.length)
    ⟨0, Nat.zero_add _, by simp, by simp, rfl⟩
  rintro ⟨i, hi, rfl, hx', rfl⟩
  by_cases hlt : i < F.length
  · obtain ⟨q, hq, hd⟩ := drop_at hlt
    have lq := load_Q (Ss.pre H0.pre) hq
    have e : hasPt (q :: F.drop (i + 1)) p = (sameB q p || hasPt (F.drop (i + 1)) p) := rfl
    rw [hd, e] at hx'
    cases c3 : sameB q p
    · rw [c3, Bool.false_or] at hx'
      simp -implicitDefEqProofs [-indexAddrP_some, hlt, lq, lp, eqPt, c3, winc hlt (by omega)]
      exact ⟨m - 1, by omega, on hI ⟨i + 1, by omega, rfl, hx', rfl⟩⟩
    · rw [c3, Bool.true_or] at hx'
      simp -implicitDefEqProofs [-indexAddrP_some, hlt, lq, lp, eqPt, c3, hx']
  · rw [List.drop_eq_nil_of_le (by omega)] at hx'
    have hx' : hasPt F p = false := hx'
    simp -implicitDefEqProofs [hlt, hx']
theorem specIsUndominated_run (J : Jobs h vj js) (X : Ints h v xs) (hl : js.length ≤ 2 ^ 40) (hx : xs.length ≤ 2 ^ 40) : Ret P G n_spec_IsUndominated [vj, v, .int .i64 f, .int .i64 g] h (.tuple #[.bool (undB js xs f g && hasPt (frontR f g js) (ptX f g js xs)), .bool (undB js xs f g)]) h := by
  refine enter_run e_spec_IsUndominated (by simp) ?_
  have r1 := l2Two_run J X hl hx
  have Js := J
  have Xs := X
  obtain ⟨oj, cj, rfl⟩ := J.shapeT
  obtain ⟨oa, ca, rfl⟩ := X.shapeT
  have e1 : undB js xs f g = ((jOk js && l2OrderL js.length xs) && (inB f 1 8 && inB g 1 8)) := by
    unfold undB aTwo
    cases jOk js <;> cases l2OrderL js.length xs <;> cases inB f 1 8 <;> cases inB g 1 8 <;> rfl
  rw [e1]
  cases c1 : (jOk js && l2OrderL js.length xs)
  · simp -implicitDefEqProofs [CL_ret r1, c1]
  cases c2 : (inB f 1 8 && inB g 1 8)
  · simp -implicitDefEqProofs [CL_ret r1, CL_ret l11Two_run, c1, c2]
  have c3 : aTwo js f g = true ∧ l2OrderL js.length xs = true := by
    rw [Bool.and_eq_true] at c1
    exact ⟨by rw [aTwo_eq, c1.1, c2]; rfl, c1.2⟩
  obtain ⟨hn, hg, hf, hg8⟩ := aTwo_of c3.1
  simp -implicitDefEqProofs [CL_ret r1, CL_ret l11Two_run, c1, c2]
  refine CL_post (l11Front_run (f := f) (g := g) Js hg hn hf hg8) fun w h1 ⟨hp1, hF, S1⟩ => ?_
  have rp := l11Point_run (f := f) (g := g) (Js.pre hp1) (Xs.pre hp1) hg hn hf hg8 (ord_of c3.2)
  have rh := l11Has_run (p := ptX f g js xs) S1 (by have := hF.len; omega)
  simp -implicitDefEqProofs [CL_ret rp, CL_ret rh]
  exact gcP hp1 rfl
/-! ### the first order with a point -/
def isP (f g : Int) (js : List Job) (p : Pt) (xs : List Int) : Bool := sameB (ptX f g js xs) p
theorem l11First_run {js : List Job} {f g : Int} {p : Pt} (hg : goodL js = true) (hn : js.length ≤ 8) (hf : 1 ≤ f ∧ f ≤ 8) (hg8 : 1 ≤ g ∧ g ≤ 8) : ∀ {k : Nat} {h : Hp} {vj vb : Value} {begun : List Int}, Jobs h vj js → Ints h vb begun → begun.length + k = js.length → inN js.length begun → begun.Nodup →
    RunsC P G n_spec_l11First [vj, vb, .int .i64 f, .int .i64 g, ptv p] h fun w h' => h <+: h' ∧ ∃ a n c, w = .tuple #[.slice a n c, .bool (ffs (isP f g js p) js.length k begun).isSome] ∧ ∀ o, ffs (isP f g js p) js.length k begun = some o → Ints h' (.slice a n c) o
  | 0, h, vj, vb, begun, J, B, hk, hin, hnd => by
    refine hideC fun K hK => enter_run e_spec_l11First (by simp) ?_
    have Js := J
    have Bs := B
    obtain ⟨oj, cj, rfl⟩ := J.shapeT
    obtain ⟨ob, cb, rfl⟩ : ∃ a c, vb = .slice a js.length c := by obtain ⟨a, c, e⟩ := B.shapeT; exact ⟨a, c, by rw [e]; congr 1⟩
    have hx : Ord js.length begun := ⟨by omega, hin, hnd⟩
    have H0 := (Holds.start (h := h)).alloc [.int .i64 p.1, .int .i64 p.2]
    have lp := H0.bl (P := P) 0 2 rfl rfl t_A2_int 0
    have rp := l11Point_run (f := f) (g := g) (Js.pre H0.pre) (Bs.pre H0.pre) hg hn hf hg8 hx
    have e0 : ffs (isP f g js p) js.length 0 begun = if sameB (ptX f g js begun) p = true then some begun else none := rfl
    rw [e0] at hK
    have e1 : (if sameB (ptX f g js begun) p = true then some begun else none : Option (List Int)).isSome = sameB (ptX f g js begun) p := by cases sameB (ptX f g js begun) p <;> rfl
    simp -implicitDefEqProofs [CL_ret rp, CH_at rp, lp, eqPt]
    refine onK hK ⟨pre_gcU H0.pre, ob, js.length, cb, by rw [e1], fun o ho => ?_⟩
    split at ho
    · cases ho
      exact Sees.gcU (Bs.pre H0.pre) fun g => plainT (r := [_]) g
    · cases ho
  | k + 1, h, vj, vb, begun, J, B, hk, hin, hnd => by
    refine hideC fun K hK => enter_run e_spec_l11First (by simp) ?_
    have Js := J
    have Bs := B
    obtain ⟨oj, cj, rfl⟩ := J.shapeT
    obtain ⟨ob, cb, rfl⟩ := B.shapeT
    have hne : ((begun.length : Int) == (js.length : Int)) = false := nb (by omega)
    have hne' : ¬ begun.length = js.length := by omega
    have H0 := (Holds.start (h := h)).alloc [.int .i64 p.1, .int .i64 p.2]
    generalize hX : ffs (isP f g js p) js.length (k + 1) begun = X at hK
    rw [ffs] at hX
    simp -implicitDefEqProofs [hne, hne']
    refine R_loopO (fun m st h' => ∃ (i : Nat) (v9 : Value), i + m = js.length ∧ st = [(0, .slice oj js.length cj), (1, .slice ob begun.length cb), (2, .int .i64 f), (3, .int .i64 g), (9, .pointer (some ⟨h.length, 0, some 2⟩)), (12, .int .i64 i)] ∧
      X = (List.range' i m).findSome? (fun (j : Nat) => if begun.any (· == (j : Int)) = true then none else ffs (isP f g js p) js.length k (begun ++ [(j : Int)])) ∧ Holds h h' [.box h.length [.int .i64 p.1, .int .i64 p.2]]) (fun I hI m st h' => ?_) (n := js.length)
      ⟨0, .bool true, Nat.zero_add _, by simp, hX.symm, H0⟩
    rintro ⟨i, _, hi, rfl, hx, H⟩
    by_cases hlt : i < js.length
    · obtain ⟨m', rfl⟩ : ∃ m', m = m' + 1 := ⟨m - 1, by omega⟩
      rw [List.range'_succ, List.findSome?_cons] at hx
      have rh := l1Has_run (x := (i : Int)) (Bs.pre H.pre) (by omega)
      have wi := winc hlt (show js.length ≤ 2 ^ 40 by omega)
      cases c1 : hasL (i : Int) begun
      · have ha0 : begun.any (· == (i : Int)) = false := c1
        rw [ha0] at hx
        simp only [Bool.false_eq_true, if_false] at hx
        have hni : (i : Int) ∉ begun := fun g => by rw [hasL_iff'.2 g] at c1; cases c1
        simp -implicitDefEqProofs [hlt, CL_ret rh, c1]
        refine CG_post (l1Own_run (Bs.pre H.pre) (by omega)).new fun v5 h5 ⟨⟨hp5, ho5⟩, hn5⟩ => ⟨hn5 hp5, ?_⟩
        have H5 : Holds h' h5 [.own v5 1 (begun.map encI)] := (Holds.start (h := h')).call hp5 ho5
        obtain ⟨v6, h6, ha6, H6, k6, _⟩ := push_I0 H5 0 rfl (i : Int) (by omega)
        have H6' : Holds h' h6 [.own v6 1 ((begun ++ [(i : Int)]).map encI)] := H6
        have n6 : NR h'.length (h5 ++ [some ⟨[.int .i64 (i : Int)], 1, false⟩]) := (hn5 hp5).nr.new [.int .i64 (i : Int)] 1
        have md := app_mod (b := h'.length) rfl n6 ha6 (hp5.trans (List.prefix_append ..)) H6'.pre
        have HH6 := H.ext H6'.pre
        have no6 := newOk_of H6'.pre (append_nr n6 ha6)
        have ih := l11First_run (p := p) hg hn hf hg8 (k := k) (Js.pre HH6.pre) (H6'.sees 0 rfl) (by simp; omega) (fun x hx => by
          rcases List.mem_append.1 hx with g | g
          · exact hin x g
          · rw [List.mem_singleton.1 g]; omega) (List.nodup_append.2 ⟨hnd, by simp, fun a ha c hc => by rw [List.mem_singleton.1 hc]; intro e; exact hni (e ▸ ha)⟩)
        obtain ⟨d1, d2, d3, rfl⟩ : ∃ a n c, v5 = .slice a n c := by obtain ⟨a, c, e⟩ := ho5.sees.shape; exact ⟨_, _, _, e⟩
        obtain ⟨e1, e2, e3, rfl⟩ : ∃ a n c, v6 = .slice a n c := by obtain ⟨a, c, e⟩ := (H6'.sees 0 rfl).shape; exact ⟨_, _, _, e⟩
        simp -implicitDefEqProofs [ha6, md, no6, HH6.bl 0 2 rfl rfl]
        refine CG_post ih.new fun w h7 ⟨⟨hp7, a7, n7, c7, ew, hs7⟩, hn7⟩ => ⟨hn7 hp7, ?_⟩
        subst ew
        generalize ffs (isP f g js p) js.length k (begun ++ [(i : Int)]) = R at hx hs7
        cases R with
        | none =>
          simp -implicitDefEqProofs [wi]
          exact ⟨m', by omega, on hI ⟨i + 1, .bool true, by omega, rfl, hx, HH6.ext hp7⟩⟩
        | some o =>
          have hx : X = some o := hx
          rw [hx] at hK
          simp -implicitDefEqProofs
          exact onK hK ⟨pre_gcU (HH6.pre.trans hp7), _, _, _, rfl, fun o' ho => by cases ho; exact Sees.gcU (hs7 o rfl) fun g => plainT (r := [_]) g⟩
      · have ha0 : begun.any (· == (i : Int)) = true := c1
        rw [ha0] at hx
        simp only [if_true] at hx
        simp -implicitDefEqProofs [hlt, CL_ret rh, c1, wi]
        exact ⟨m', by omega, on hI ⟨i + 1, .bool true, by omega, rfl, hx, H⟩⟩
    · have hm : m = 0 := by omega
      subst hm
      have hx : X = none := hx
      rw [hx] at hK
      simp -implicitDefEqProofs [hlt]
      exact onK hK ⟨pre_gcU H.pre, none, 0, 0, rfl, fun o ho => by cases ho⟩
end
end Go.Pm.PP

/- The first order with a point of a front, by both; the draw. -/
set_option linter.unusedVariables false
set_option linter.unusedSimpArgs false
set_option maxRecDepth 4000
set_option maxHeartbeats 16000000
namespace Go.Pm.PP
open Go.Pm Go.Proofs Go.Pm.PE
/-! ### a search for the first one -/
def upO (P : List Int → Bool) (r : Option (List Int)) (xs : List Int) : Option (List Int) := if r.isSome = true then r else if P xs = true then some xs else none
theorem upO_find {P : List Int → Bool} : ∀ {l : List (List Int)} {r : Option (List Int)}, l.foldl (upO P) r = if r.isSome = true then r else l.find? P
  | [], r => by cases r <;> rfl
  | x :: l, r => by
    rw [List.foldl_cons, upO_find]
    cases r with
    | some y => simp [upO]
    | none =>
      rw [List.find?_cons]
      cases h : P x <;> simp [upO, h]
def bxO (p q : Nat) (vo : Value) (r : Option (List Int)) : List Asn := [.box p [vo], .box q [.bool r.isSome], .own vo 1 ((r.getD []).map encI)]
theorem gcO' {hb h h' : Hp} {p q : Nat} {vo vo' u : Value} {r r' : Option (List Int)} {L : List Asn} (HL : Holds hb h (bxO p q vo r ++ L)) (H' : Holds hb h' (bxO p q vo' r' ++ L)) : Holds hb (gc h h' u) (bxO p q vo' r' ++ L) := by
  rcases gc_cases' h h' u with g | ⟨hp, g⟩
  · rw [g]; exact H'
  · have e1 := HL.box (cs := [vo]) (r := p) 0 rfl
    have e2 := H'.box (cs := [vo']) (r := p) 0 rfl
    obtain ⟨t, rfl⟩ := hp
    rw [List.getElem?_append_left (List.getElem?_eq_some_iff.1 e1).1, e1] at e2
    cases e2
    exact HL.gcR H' rfl
def firstO (f g : Int) (js : List Job) (p : Pt) : Option (List Int) := (ordsL js.length).find? (isP f g js p)
theorem first_ffs {f g : Int} {js : List Job} {p : Pt} : ffs (isP f g js p) js.length js.length [] = firstO f g js p := by
  rw [ffs_perms (by rw [rem_nil]; simp), up_rem]
  unfold firstO ordsL
  simp
section
variable {h : Hp} {vj v u : Value} {js : List Job} {xs : List Int} {f g : Int}
theorem tellO_run {hb h : Hp} {p q rj rf rg rF rk : Nat} {vj vF vo vg : Value} {js : List Job} {f g : Int} {F : List Pt} {k : Nat} {P0 : Pt} {xs : List Int} {r : Option (List Int)} (J : Jobs hb vj js) (SF : Prs hb vF F)
    (bj : hb[rj]? = some (some ⟨[vj], 0, false⟩)) (bf : hb[rf]? = some (some ⟨[.int .i64 f], 0, false⟩)) (bg : hb[rg]? = some (some ⟨[.int .i64 g], 0, false⟩)) (bF : hb[rF]? = some (some ⟨[vF], 0, false⟩)) (bk : hb[rk]? = some (some ⟨[.int .i64 k], 0, false⟩)) (hk : F[k]? = some P0)
    (hgd : goodL js = true) (hn : js.length ≤ 8) (hf : 1 ≤ f ∧ f ≤ 8) (hg8 : 1 ≤ g ∧ g ≤ 8) (hx : Ord js.length xs) (H : Holds hb h (bxO p q vo r ++ [.own vg 1 (xs.map encI)])) :
    RunsC P G n_impl_FrontOrder_1 [vg, .pointer (some ⟨q, 0, some 1⟩), .pointer (some ⟨rj, 0, some 1⟩), .pointer (some ⟨rf, 0, some 1⟩), .pointer (some ⟨rg, 0, some 1⟩), .pointer (some ⟨rF, 0, some 1⟩), .pointer (some ⟨rk, 0, some 1⟩), .pointer (some ⟨p, 0, some 1⟩)] h fun v h' =>
      ∃ vo', ∀ L, Holds hb h (bxO p q vo r ++ L) → Holds hb h' (bxO p q vo' (upO (isP f g js P0) r xs) ++ L) := by
  refine hideC fun K hK => enter_run e_impl_FrontOrder_1 (by simp) ?_
  have Js := J
  obtain ⟨oj, cj, rfl⟩ := J.shapeT
  have SFs := SF
  obtain ⟨fa, fc, rfl⟩ := SF.shapeT
  have Sg : Ints h vg xs := H.sees 3 rfl
  obtain ⟨g1, g3, rfl⟩ : ∃ a c, vg = .slice a xs.length c := Sg.shapeT
  have lj := load_pre H.pre bj (n := 1) rfl
  have lf := load_pre H.pre bf (n := 1) rfl
  have lg := load_pre H.pre bg (n := 1) rfl
  have lF := load_pre H.pre bF (n := 1) rfl
  have lk := load_pre H.pre bk (n := 1) rfl
  have lq := H.bl (P := P) 1 1 rfl rfl
  have lx := load_Q (SFs.pre H.pre) hk
  have rp := pointOf_run (f := f) (g := g) (Js.pre H.pre) Sg hgd hn hf hg8 hx
  cases r with
  | some o =>
    have eU : upO (isP f g js P0) (some o) xs = some o := rfl
    rw [eU] at hK
    simp -implicitDefEqProofs [lq]
    exact onK hK ⟨vo, fun L HL => by simpa using gcO' (u := .tuple #[]) HL HL⟩
  | none =>
    have eI : sameB (ptX f g js xs) P0 = isP f g js P0 xs := rfl
    cases c : isP f g js P0 xs
    · have eU : upO (isP f g js P0) none xs = none := by simp [upO, c]
      rw [eU] at hK
      simp -implicitDefEqProofs [-indexAddrP_some, lq, lj, lf, lg, lF, lk, CL_ret rp, CH_at rp, lx, eqPt, eI, c]
      exact onK hK ⟨vo, fun L HL => by simpa using gcO' (u := .tuple #[]) HL HL⟩
    · have eU : upO (isP f g js P0) none xs = some xs := by simp [upO, c]
      rw [eU] at hK
      simp -implicitDefEqProofs [-indexAddrP_some, lq, lj, lf, lg, lF, lk, CL_ret rp, CH_at rp, lx, eqPt, eI, c]
      refine CL_post (copyInts_run Sg (by rw [hx.len]; omega)) fun v1 h1 ⟨hp1, ho1⟩ => ?_
      obtain ⟨a, c', rfl⟩ := ho1.sees.shapeT
      obtain ⟨h2, s2, H2, _⟩ := (H.ext hp1).set (P := P) 0 (n := 1) (o := 0) (ty := t_S_int) (w := .slice a xs.length c') rfl rfl e_t_S_int (by simp) (by simp) (by simp)
      obtain ⟨h3, s3, H3, _⟩ := H2.set (P := P) 1 (n := 1) (o := 0) (ty := t_bool) (w := .bool true) rfl rfl e_t_bool (by simp) (by simp) (by simp)
      simp -implicitDefEqProofs [s2, s3]
      refine onK hK ⟨.slice a xs.length c', fun L HL => ?_⟩
      have HJ := Holds.joinT (L := bxO p q vo none) (T := L) (A := [.own (.slice a xs.length c') 1 (xs.map encI)]) (M := []) HL ((Holds.start (h := h)).call hp1 ho1)
      obtain ⟨h2', s2', H2', _⟩ := HJ.set (P := P) 0 (n := 1) (o := 0) (ty := t_S_int) (w := .slice a xs.length c') rfl rfl e_t_S_int (by simp) (by simp) (by simp)
      rw [s2] at s2'; cases s2'
      obtain ⟨h3', s3', H3', _⟩ := H2'.set (P := P) 1 (n := 1) (o := 0) (ty := t_bool) (w := .bool true) rfl rfl e_t_bool (by simp) (by simp) (by simp)
      rw [s3] at s3'; cases s3'
      have H5 : Holds hb h3 (([.box p [.slice a xs.length c'], .box q [.bool true]] ++ [.own vo 1 (([] : List Int).map encI)]) ++ ([.own (.slice a xs.length c') 1 (xs.map encI)] ++ L)) := H3'
      have H6 : Holds hb h3 (bxO p q (.slice a xs.length c') (some xs) ++ L) := H5.cut
      exact gcO' HL H6
theorem implFrontOrder_run {k : Nat} (J : Jobs h vj js) (hl : js.length ≤ 2 ^ 40) (hok : aTwo js f g = true) {P0 : Pt} (hk : (frontR f g js)[k]? = some P0) : RunsC P G n_impl_FrontOrder [vj, .int .i64 f, .int .i64 g, .int .i64 k] h fun w h' => h <+: h' ∧ ∃ d, w = .tuple #[d, .bool true] ∧ Ints h' d ((firstO f g js P0).getD []) := by
  refine hideC fun K hK => enter_run e_impl_FrontOrder (by simp) ?_
  have Js := J
  obtain ⟨oj, cj, rfl⟩ := J.shapeT
  obtain ⟨hn, hg, hf, hg8⟩ := aTwo_of hok
  have H0 := ((((Holds.start (h := h)).alloc [.slice oj js.length cj]).alloc [.int .i64 f]).alloc [.int .i64 g]).alloc [.int .i64 k]
  simp only [List.append_assoc, List.cons_append, List.nil_append, List.length_append, List.length_cons, List.length_nil, Nat.zero_add] at H0
  have r1 := areTwo_run (f := f) (g := g) (Js.pre H0.pre) hl
  rw [hok] at r1
  simp -implicitDefEqProofs [CL_ret r1]
  refine CL_post (frontOf_run (f := f) (g := g) (Js.pre H0.pre) hg hn hf hg8) fun w h1 ⟨hp1, hF, S1⟩ => ?_
  have H1 := H0.ext hp1
  have hFl := hF.len
  generalize frontR f g js = F at *
  obtain ⟨fa, fc, rfl⟩ : ∃ a c, w = .slice a F.length c := S1.shapeT
  have hkl := (List.getElem?_eq_some_iff.1 hk).1
  have wn : w64 ((F.length : Int) - 1) = (F.length : Int) - 1 := by unfold w64; rw [wrap_ok] <;> omega
  have ik : inB (k : Int) 0 (w64 ((F.length : Int) - 1)) = true := by rw [wn]; simp [inB]; omega
  have H2 := H1.alloc [.slice fa F.length fc]
  have lk := fun {l : Hp} => H1.blx (P := P) 3 1 rfl rfl l t_int 0
  have lj := fun {l : Hp} => H1.blx (P := P) 0 1 rfl rfl l t_S_impl_Job 0
  generalize hHb : h1 ++ [some ⟨[.slice fa F.length fc], 0, false⟩] = hb at H2
  have hbl : hb.length = h1.length + 1 := by rw [← hHb]; simp
  have E : Holds hb (hb ++ [some ⟨[.slice none 0 0], 0, false⟩, some ⟨[.bool false], 0, false⟩]) (bxO hb.length (hb.length + 1) (.slice none 0 0) none ++ []) := by
    have := own_nil (((Holds.start (h := hb)).alloc [.slice none 0 0]).alloc [.bool false]) Int encI 1
    simp only [List.append_assoc, List.cons_append, List.nil_append, List.length_append, List.length_cons, List.length_nil, Nat.zero_add] at this
    exact this
  have pF : h1 <+: hb := by rw [← hHb]; exact List.prefix_append ..
  have er := eachOrder_run (hb := hb) (g := n_impl_FrontOrder_1) (c := #[.pointer (some ⟨hb.length + 1, 0, some 1⟩), .pointer (some ⟨h.length, 0, some 1⟩), .pointer (some ⟨h.length + 1, 0, some 1⟩), .pointer (some ⟨h.length + 1 + 1, 0, some 1⟩), .pointer (some ⟨h1.length, 0, some 1⟩), .pointer (some ⟨h.length + 1 + 1 + 1, 0, some 1⟩), .pointer (some ⟨hb.length, 0, some 1⟩)]) hn
    (Q := fun i BX => ∃ vo, BX = bxO hb.length (hb.length + 1) vo (((ordsL js.length).take i).foldl (upO (isP f g js P0)) none))
    (fun i BX i' BX' h h' L u ⟨vf, e⟩ ⟨vf', e'⟩ HL H' => by
      subst e; subst e'
      exact gcO' HL H')
    (fun i xs h BX vg ⟨vf, eBX⟩ hxs HB => by
      subst eBX
      have ox := ords_ord (List.mem_of_getElem? hxs)
      refine RunsC.mono (tellO_run (Js.pre H2.pre) (S1.pre pF) (H2.box 0 rfl) (H2.box 1 rfl) (H2.box 2 rfl) (H2.box 4 rfl) (H2.box 3 rfl) hk hg hn hf hg8 ox HB) fun v h' ⟨vf', Fx⟩ => ?_
      have es : ((ordsL js.length).take (i + 1)).foldl (upO (isP f g js P0)) none = upO (isP f g js P0) (((ordsL js.length).take i).foldl (upO (isP f g js P0)) none) xs := by
        rw [take_succ' hxs, List.foldl_append, List.foldl_cons, List.foldl_nil]
      refine ⟨_, ⟨vf', rfl⟩, fun L HL => ?_⟩
      rw [es]
      exact Fx L HL) ⟨_, rfl⟩ E
  have hcount : hb ++ [some ⟨[.slice none 0 0], 0, false⟩, some ⟨[.bool false], 0, false⟩] = h1 ++ [some ⟨[.slice fa F.length fc], 0, false⟩, some ⟨[.slice none 0 0], 0, false⟩, some ⟨[.bool false], 0, false⟩] := by rw [← hHb]; simp
  rw [hcount, hbl] at er
  rw [hcount, hbl] at E
  simp -implicitDefEqProofs [lk, lj, CL_ret isNumber_run, ik]
  refine CL_post er fun v h4 ⟨BX', ⟨vf, eBX⟩, Fx⟩ => ?_
  subst eBX
  have H4 := Fx [] E
  rw [List.take_length, upO_find] at H4
  have s4 : Ints h4 vf ((firstO f g js P0).getD []) := H4.sees 2 rfl
  obtain ⟨a, c, rfl⟩ := s4.shapeT
  have l0 := H4.bl (P := P) 0 1 rfl rfl
  simp -implicitDefEqProofs [l0]
  exact onK hK ⟨pre_gcU (H2.pre.trans H4.pre), _, rfl, Sees.gcU s4 fun g => plainT (r := [_]) g⟩
theorem specFrontOrder_run {k : Nat} (J : Jobs h vj js) (hl : js.length ≤ 2 ^ 40) (hok : aTwo js f g = true) {P0 : Pt} (hk : (frontR f g js)[k]? = some P0) {o : List Int} (ho : firstO f g js P0 = some o) : RunsC P G n_spec_FrontOrder [vj, .int .i64 f, .int .i64 g, .int .i64 k] h fun w h' => h <+: h' ∧ ∃ d, w = .tuple #[d, .bool true] ∧ Ints h' d o := by
  refine hideC fun K hK => enter_run e_spec_FrontOrder (by simp) ?_
  have Js := J
  have r1 := good_run J hl
  obtain ⟨oj, cj, rfl⟩ := J.shapeT
  obtain ⟨hn, hg, hf, hg8⟩ := aTwo_of hok
  have c12 := hok
  rw [aTwo_eq, Bool.and_eq_true] at c12
  simp -implicitDefEqProofs [CL_ret r1, c12.1, CL_ret l11Two_run, c12.2]
  refine CL_post (l11Front_run (f := f) (g := g) Js hg hn hf hg8) fun w h1 ⟨hp1, hF, S1⟩ => ?_
  have hFl := hF.len
  generalize frontR f g js = F at *
  obtain ⟨fa, fc, rfl⟩ : ∃ a c, w = .slice a F.length c := S1.shapeT
  have hkl := (List.getElem?_eq_some_iff.1 hk).1
  have wn : IntKind.i64.wrap ((F.length : Int) - 1) = (F.length : Int) - 1 := by rw [wrap_ok] <;> omega
  have ik : inB (k : Int) 0 ((F.length : Int) - 1) = true := by simp [inB]; omega
  have lq := load_Q S1 hk
  have nilI : Ints h1 (.slice none 0 0) [] := ⟨by simp, none, 0, rfl, .inl ⟨rfl, rfl, rfl⟩⟩
  have r := l11First_run (p := P0) hg hn hf hg8 (k := js.length) (Js.pre hp1) nilI (by simp) (fun x hx => by cases hx) List.nodup_nil
  rw [first_ffs, ho] at r
  simp -implicitDefEqProofs [-indexAddrP_some, wn, CL_ret l1In_run, ik, lq]
  refine CL_post r fun w h2 ⟨hp2, a, n, c, ew, hs⟩ => ?_
  subst ew
  simp -implicitDefEqProofs
  exact onK hK ⟨pre_gcU (hp1.trans hp2), _, rfl, Sees.gcU (hs o rfl) fun g => plainT (r := [_]) g⟩
end
/-! ### in plain terms -/
theorem front_facts {f g : Int} {js : List Job} (hn : js.length ≤ 8) : Srt (frontR f g js) ∧ (∀ q, q ∈ frontR f g js → ∃ xs, Ord js.length xs ∧ ptX f g js xs = q) ∧ (∀ xs, Ord js.length xs → ∃ q, q ∈ frontR f g js ∧ q.1 ≤ valX f js xs ∧ q.2 ≤ valX g js xs) := by
  obtain ⟨h1, h2, h3⟩ := front_fold (pt := ptX f g js) (l := ordsL js.length) (F := []) (S := fun q => ∃ xs, Ord js.length xs ∧ ptX f g js xs = q) List.Pairwise.nil (fun q hq => by cases hq) fun xs hx => ⟨xs, ords_ord hx, rfl⟩
  exact ⟨h1, h2, fun xs ox => h3 (ptX f g js xs) (.inl ⟨xs, ord_mem ox, rfl⟩)⟩
theorem first_some {f g : Int} {js : List Job} {p : Pt} (h : ∃ xs, Ord js.length xs ∧ ptX f g js xs = p) : ∃ o, firstO f g js p = some o ∧ Ord js.length o ∧ ptX f g js o = p := by
  obtain ⟨xs, ox, e⟩ := h
  cases hf : firstO f g js p with
  | none =>
    have := List.find?_eq_none.1 hf xs (ord_mem ox)
    unfold isP at this
    rw [sameB_iff] at this
    exact absurd e this
  | some o =>
    have h1 := List.find?_some hf
    unfold isP at h1
    rw [sameB_iff] at h1
    exact ⟨o, rfl, ords_ord (List.mem_of_find?_eq_some hf), h1⟩
end Go.Pm.PP

/- Searches of least mixtures and under limits, by the reference. -/
set_option linter.unusedVariables false
set_option linter.unusedSimpArgs false
set_option maxRecDepth 4000
set_option maxHeartbeats 16000000
namespace Go.Pm.PP
open Go.Pm Go.Proofs Go.Pm.PE
/-- The first of the least ones of those that pass. -/
def updG (ok : List Int → Bool) (V : List Int → Int) (b : Sr) (xs : List Int) : Sr := if ok xs = true ∧ (b.c = 0 ∨ V xs < b.v) then ⟨xs, V xs, 1⟩ else b
def mixV (f g x y : Int) (js : List Job) (xs : List Int) : Int := x * valX f js xs + y * valX g js xs
def bestG (ok : List Int → Bool) (V : List Int → Int) (n : Nat) : Sr := (ordsL n).foldl (updG ok V) sr0
theorem bestG_dfs {ok : List Int → Bool} {V : List Int → Int} {n : Nat} : dfs (updG ok V) n n [] sr0 = bestG ok V n := by
  rw [dfs_perms (by rw [up_rem, upTo_len]), up_rem]; rfl
theorem mul99 {x p : Int} (hx : 0 ≤ x ∧ x ≤ 99) (hp : -(2 ^ 30) ≤ p ∧ p ≤ 2 ^ 30) : -(99 * 2 ^ 30) ≤ x * p ∧ x * p ≤ 99 * 2 ^ 30 := by
  have h1 := Int.mul_le_mul_of_nonneg_left hp.2 hx.1
  have h2 := Int.mul_le_mul_of_nonneg_left hp.1 hx.1
  constructor <;> omega
theorem upd_fold {ok : List Int → Bool} {V : List Int → Int} : ∀ {l : List (List Int)} {b : Sr} {S : List Int → Prop}, (∀ x, x ∈ l → S x) → (b = sr0 ∨ (b.c = 1 ∧ ok b.o = true ∧ V b.o = b.v ∧ S b.o)) →
    ((l.foldl (updG ok V) b = sr0 ∧ b = sr0 ∧ ∀ x, x ∈ l → ok x = false) ∨ ((l.foldl (updG ok V) b).c = 1 ∧ ok (l.foldl (updG ok V) b).o = true ∧ V (l.foldl (updG ok V) b).o = (l.foldl (updG ok V) b).v ∧ S (l.foldl (updG ok V) b).o ∧ (b.c = 1 → (l.foldl (updG ok V) b).v ≤ b.v) ∧ ∀ x, x ∈ l → ok x = true → (l.foldl (updG ok V) b).v ≤ V x))
  | [], b, S, _, hb => by
    rcases hb with rfl | ⟨h1, h2, h3, h4⟩
    · exact .inl ⟨rfl, rfl, fun x hx => by cases hx⟩
    · exact .inr ⟨h1, h2, h3, h4, fun _ => Int.le_refl _, fun x hx => by cases hx⟩
  | x :: l, b, S, hl, hb => by
    rw [List.foldl_cons]
    by_cases c : ok x = true ∧ (b.c = 0 ∨ V x < b.v)
    · have e : updG ok V b x = ⟨x, V x, 1⟩ := by unfold updG; rw [if_pos c]
      rw [e]
      rcases upd_fold (b := ⟨x, V x, 1⟩) (fun y hy => hl y (List.mem_cons_of_mem _ hy)) (.inr ⟨rfl, c.1, rfl, hl x (List.mem_cons_self ..)⟩) with h | ⟨h1, h2, h3, h4, h5, h6⟩
      · exact absurd h.2.1 (fun g => by have : (1 : Int) = 0 := congrArg Sr.c g; omega)
      · have h5 := h5 rfl
        refine .inr ⟨h1, h2, h3, h4, fun g => ?_, fun y hy hok => ?_⟩
        · rcases c.2 with g' | g'
          · omega
          · exact Int.le_trans h5 (Int.le_of_lt g')
        · rcases List.mem_cons.1 hy with rfl | hy
          · exact h5
          · exact h6 y hy hok
    · have e : updG ok V b x = b := by unfold updG; rw [if_neg c]
      rw [e]
      rcases upd_fold (b := b) (fun y hy => hl y (List.mem_cons_of_mem _ hy)) hb with ⟨h1, h2, h3⟩ | ⟨h1, h2, h3, h4, h5, h6⟩
      · refine .inl ⟨h1, h2, fun y hy => ?_⟩
        rcases List.mem_cons.1 hy with rfl | hy
        · subst h2
          cases ho : ok y
          · rfl
          · exact absurd ⟨ho, .inl rfl⟩ c
        · exact h3 y hy
      · refine .inr ⟨h1, h2, h3, h4, h5, fun y hy hok => ?_⟩
        rcases List.mem_cons.1 hy with rfl | hy
        · rcases hb with rfl | ⟨g1, _⟩
          · exact absurd ⟨hok, .inl rfl⟩ c
          · have := h5 g1
            have : ¬ V y < b.v := fun g => c ⟨hok, .inr g⟩
            omega
        · exact h6 y hy hok
theorem bestG_facts {ok : List Int → Bool} {V : List Int → Int} {n : Nat} : (bestG ok V n = sr0 ∧ ∀ xs, Ord n xs → ok xs = false) ∨ ((bestG ok V n).c = 1 ∧ ok (bestG ok V n).o = true ∧ V (bestG ok V n).o = (bestG ok V n).v ∧ Ord n (bestG ok V n).o ∧ ∀ xs, Ord n xs → ok xs = true → (bestG ok V n).v ≤ V xs) := by
  rcases upd_fold (ok := ok) (V := V) (l := ordsL n) (b := sr0) (S := Ord n) (fun x hx => ords_ord hx) (.inl rfl) with ⟨h1, _, h3⟩ | ⟨h1, h2, h3, h4, _, h6⟩
  · exact .inl ⟨h1, fun xs ox => h3 xs (ord_mem ox)⟩
  · exact .inr ⟨h1, h2, h3, h4, fun xs ox => h6 xs (ord_mem ox)⟩

theorem l11Mix_run {js : List Job} {f g x y : Int} (hg : goodL js = true) (hn : js.length ≤ 8) (hf : 1 ≤ f ∧ f ≤ 8) (hg8 : 1 ≤ g ∧ g ≤ 8) (hx0 : 0 ≤ x ∧ x ≤ 99) (hy0 : 0 ≤ y ∧ y ≤ 99) : ∀ {k : Nat} {h : Hp} {vj vb vo : Value} {begun : List Int} {b : Sr}, Jobs h vj js → Ints h vb begun → Ints h vo b.o → begun.length + k = js.length → inN js.length begun → begun.Nodup → b.o.length ≤ 8 →
    RunsC P G n_spec_l11Mix [vj, vb, .int .i64 f, .int .i64 g, .int .i64 x, .int .i64 y, sv3 vo b] h fun v h' => h <+: h' ∧ (dfs (updG (fun _ => true) (mixV f g x y js)) js.length k begun b).o.length ≤ 8 ∧ ∃ vo', v = sv3 vo' (dfs (updG (fun _ => true) (mixV f g x y js)) js.length k begun b) ∧ Ints h' vo' (dfs (updG (fun _ => true) (mixV f g x y js)) js.length k begun b).o
  | 0, h, vj, vb, vo, begun, b, J, B, O, hk, hin, hnd, hol => by
    refine hideC fun K hK => enter_run e_spec_l11Mix (by simp) ?_
    have Js := J
    have Bs := B
    have Os := O
    obtain ⟨oj, cj, rfl⟩ := J.shapeT
    obtain ⟨ob, cb, rfl⟩ : ∃ a c, vb = .slice a js.length c := by obtain ⟨a, c, e⟩ := B.shapeT; exact ⟨a, c, by rw [e]; congr 1⟩
    obtain ⟨od, cd, rfl⟩ := O.shapeT
    have hx : Ord js.length begun := ⟨by omega, hin, hnd⟩
    have hl : begun.length = js.length := hx.len
    have H0 := (Holds.start.alloc [.slice od b.o.length cd, .int .i64 b.v, .int .i64 b.c] (h := h)).alloc [.slice none 0 0, .int .i64 0, .int .i64 0]
    simp only [List.append_assoc, List.cons_append, List.nil_append, List.length_append, List.length_cons, List.length_nil, Nat.zero_add] at H0
    have rp := l11Point_run (f := f) (g := g) (Js.pre H0.pre) (Bs.pre H0.pre) hg hn hf hg8 hx
    have b1 := valX_bd (o := f) hg hn hx
    have b2 := valX_bd (o := g) hg hn hx
    have e1 : (ptX f g js begun).1 = valX f js begun := rfl
    have e2 : (ptX f g js begun).2 = valX g js begun := rfl
    rw [← e1] at b1
    rw [← e2] at b2
    rw [dfs] at hK
    generalize hP : ptX f g js begun = p at *
    have hV : mixV f g x y js begun = x * p.1 + y * p.2 := by rw [← hP]; rfl
    have m1 := mul99 hx0 b1
    have m2 := mul99 hy0 b2
    have w1 : IntKind.i64.wrap (x * p.1) = x * p.1 := by rw [wrap_ok] <;> omega
    have w2 : IntKind.i64.wrap (y * p.2) = y * p.2 := by rw [wrap_ok] <;> omega
    have w3 : IntKind.i64.wrap (x * p.1 + y * p.2) = x * p.1 + y * p.2 := by rw [wrap_ok] <;> omega
    have H1 := H0.alloc [.int .i64 p.1, .int .i64 p.2]
    simp only [List.append_assoc, List.cons_append, List.nil_append, List.length_append, List.length_cons, List.length_nil, Nat.zero_add, Nat.add_assoc, Nat.reduceAdd] at H1
    have lp := H1.bl (P := P) 2 2 rfl rfl
    have lb := H1.bl (P := P) 0 3 rfl rfl
    by_cases c1 : b.c = 0 ∨ x * p.1 + y * p.2 < b.v
    · have e : updG (fun _ => true) (mixV f g x y js) b begun = ⟨begun, x * p.1 + y * p.2, 1⟩ := by unfold updG; rw [hV, if_pos ⟨rfl, c1⟩]
      rw [e] at hK
      obtain ⟨h2, s2, H2, _⟩ := H1.set (P := P) 1 (n := 3) (o := 0) (ty := t_spec_l2Search) (w := sv3 (.slice ob js.length cb) ⟨begun, x * p.1 + y * p.2, 1⟩) rfl rfl e_t_spec_l2Search (by simp) (by simp) (by simp)
      have l2 := H2.bl (P := P) 1 3 rfl rfl
      have fin : K (sv3 (.slice ob js.length cb) ⟨begun, x * p.1 + y * p.2, 1⟩) (gc h h2 (sv3 (.slice ob js.length cb) ⟨begun, x * p.1 + y * p.2, 1⟩)) := onK hK ⟨pre_gcU H2.pre, by rw [hl]; exact hn, _, rfl, Sees.gcU (Bs.pre H2.pre) plain3⟩
      rcases Classical.em (b.c = 0) with c2 | c2
      · simp -implicitDefEqProofs [-storeP_app0, CL_ret rp, ia20, ia21, lp, lb, w1, w2, w3, show (b.c == 0) = true by simpa using c2, s2, l2]
        exact fin
      · have c3 : x * p.1 + y * p.2 < b.v := by rcases c1 with g | g; exact absurd g c2; exact g
        simp -implicitDefEqProofs [-storeP_app0, CL_ret rp, ia20, ia21, lp, lb, w1, w2, w3, nb c2, c3, s2, l2]
        exact fin
    · have e : updG (fun _ => true) (mixV f g x y js) b begun = b := by unfold updG; rw [hV, if_neg (fun q => c1 q.2)]
      rw [e] at hK
      have c2 : ¬ b.c = 0 := fun g => c1 (.inl g)
      have c3 : ¬ x * p.1 + y * p.2 < b.v := fun g => c1 (.inr g)
      obtain ⟨h2, s2, H2, k2⟩ := H1.set (P := P) 1 (n := 3) (o := 0) (ty := t_spec_l2Search) (w := sv3 (.slice od b.o.length cd) b) rfl rfl e_t_spec_l2Search (by simp) (by simp) (by simp)
      have l2 := H2.bl (P := P) 1 3 rfl rfl
      simp -implicitDefEqProofs [-storeP_app0, CL_ret rp, ia20, ia21, lp, lb, w1, w2, w3, nb c2, c3, s2, l2]
      exact onK hK ⟨pre_gcU H2.pre, hol, _, rfl, Sees.gcU (Os.pre H2.pre) plain3⟩
  | k + 1, h, vj, vb, vo, begun, b, J, B, O, hk, hin, hnd, hol => by
    refine hideC fun K hK => enter_run e_spec_l11Mix (by simp) ?_
    have Js := J
    have Bs := B
    have Os := O
    obtain ⟨oj, cj, rfl⟩ := J.shapeT
    obtain ⟨ob, cb, rfl⟩ := B.shapeT
    obtain ⟨od, cd, rfl⟩ := O.shapeT
    have hne : ((begun.length : Int) == (js.length : Int)) = false := nb (by omega)
    have H0 := (Holds.start.alloc [.slice od b.o.length cd, .int .i64 b.v, .int .i64 b.c] (h := h)).alloc [.slice none 0 0, .int .i64 0, .int .i64 0]
    simp only [List.append_assoc, List.cons_append, List.nil_append, List.length_append, List.length_cons, List.length_nil, Nat.zero_add] at H0
    generalize hX : dfs (updG (fun _ => true) (mixV f g x y js)) js.length (k + 1) begun b = X at hK
    rw [dfs] at hX
    have hne' : ¬ begun.length = js.length := by omega
    simp -implicitDefEqProofs [hne, hne']
    refine R_loopO (fun m st h' => ∃ (i : Nat) (b' : Sr) (vo' : Value), i + m = js.length ∧ st = [(0, .slice oj js.length cj), (1, .slice ob begun.length cb), (2, .int .i64 f), (3, .int .i64 g), (4, .int .i64 x), (5, .int .i64 y), (13, .pointer (some ⟨h.length, 0, some 3⟩)), (14, .pointer (some ⟨h.length + 1, 0, some 3⟩)), (17, .int .i64 i)] ∧
      X = (List.range' i m).foldl (fun b (j : Nat) => if begun.any (· == (j : Int)) = true then b else dfs (updG (fun _ => true) (mixV f g x y js)) js.length k (begun ++ [(j : Int)]) b) b' ∧ b'.o.length ≤ 8 ∧ Ints h' vo' b'.o ∧
      Holds h h' [.box h.length [vo', .int .i64 b'.v, .int .i64 b'.c], .box (h.length + 1) [.slice none 0 0, .int .i64 0, .int .i64 0]]) (fun I hI m st h' => ?_) (n := js.length)
      ⟨0, b, .slice od b.o.length cd, Nat.zero_add _, by simp, hX.symm, hol, Os.pre H0.pre, H0⟩
    rintro ⟨i, b', vo', hi, rfl, hx, hbl, O', H⟩
    have Ons := O'
    obtain ⟨oq, cn, rfl⟩ := O'.shapeT
    by_cases hlt : i < js.length
    · obtain ⟨m', rfl⟩ : ∃ m', m = m' + 1 := ⟨m - 1, by omega⟩
      rw [List.range'_succ, List.foldl_cons] at hx
      have rh := l1Has_run (x := (i : Int)) (Bs.pre H.pre) (by omega)
      have wi := winc hlt (show js.length ≤ 2 ^ 40 by omega)
      cases c1 : hasL (i : Int) begun
      · have hx' : X = (List.range' (i + 1) m').foldl (fun b (j : Nat) => if begun.any (· == (j : Int)) = true then b else dfs (updG (fun _ => true) (mixV f g x y js)) js.length k (begun ++ [(j : Int)]) b) (dfs (updG (fun _ => true) (mixV f g x y js)) js.length k (begun ++ [(i : Int)]) b') := by
          rw [hx, show begun.any (· == (i : Int)) = false from c1]; rfl
        have hni : (i : Int) ∉ begun := fun g => by rw [hasL_iff'.2 g] at c1; cases c1
        simp -implicitDefEqProofs [hlt, CL_ret rh, c1]
        refine CG_post (l1Own_run (Bs.pre H.pre) (by omega)).new fun v5 h5 ⟨⟨hp5, ho5⟩, hn5⟩ => ⟨hn5 hp5, ?_⟩
        have H5 : Holds h' h5 [.own v5 1 (begun.map encI)] := (Holds.start (h := h')).call hp5 ho5
        obtain ⟨v6, h6, ha6, H6, k6, _⟩ := push_I0 H5 0 rfl (i : Int) (by omega)
        have H6' : Holds h' h6 [.own v6 1 ((begun ++ [(i : Int)]).map encI)] := H6
        have n6 : NR h'.length (h5 ++ [some ⟨[.int .i64 (i : Int)], 1, false⟩]) := (hn5 hp5).nr.new [.int .i64 (i : Int)] 1
        have md := app_mod (b := h'.length) rfl n6 ha6 (hp5.trans (List.prefix_append ..)) H6'.pre
        have HH6 := H.ext H6'.pre
        have ih := l11Mix_run hg hn hf hg8 hx0 hy0 (k := k) (Js.pre HH6.pre) (H6'.sees 0 rfl) (Ons.pre H6'.pre) (by simp; omega) (fun x hx => by
          rcases List.mem_append.1 hx with g | g
          · exact hin x g
          · rw [List.mem_singleton.1 g]; omega) (List.nodup_append.2 ⟨hnd, by simp, fun a ha c hc => by rw [List.mem_singleton.1 hc]; intro e; exact hni (e ▸ ha)⟩) hbl
        obtain ⟨d1, d2, d3, rfl⟩ : ∃ a n c, v5 = .slice a n c := by obtain ⟨a, c, e⟩ := ho5.sees.shape; exact ⟨_, _, _, e⟩
        obtain ⟨e1, e2, e3, rfl⟩ : ∃ a n c, v6 = .slice a n c := by obtain ⟨a, c, e⟩ := (H6'.sees 0 rfl).shape; exact ⟨_, _, _, e⟩
        simp -implicitDefEqProofs [ha6, md, HH6.bl 0 3 rfl rfl]
        refine CL_post ih fun v h7 ⟨hp7, hb7, vo7, ev7, O7⟩ => ?_
        subst ev7
        generalize dfs (updG (fun _ => true) (mixV f g x y js)) js.length k (begun ++ [(i : Int)]) b' = b7 at hx' hb7 O7
        have O7s := O7
        obtain ⟨f1, f2, rfl⟩ := O7.shapeT
        have H7 := HH6.ext hp7
        obtain ⟨h8, s8, H8, k8⟩ := H7.set (P := P) 0 (n := 3) (o := 0) (ty := t_spec_l2Search) (w := sv3 (.slice f1 b7.o.length f2) b7) rfl rfl e_t_spec_l2Search (by simp) (by simp) (by simp)
        have bx := H7.box 0 rfl
        simp -implicitDefEqProofs [s8, wi]
        exact ⟨m', by omega, on hI ⟨i + 1, b7, _, by omega, rfl, hx', hb7, Sees.boxK O7s (by omega) bx k8, by simpa using H8⟩⟩
      · have hx' : X = (List.range' (i + 1) m').foldl (fun b (j : Nat) => if begun.any (· == (j : Int)) = true then b else dfs (updG (fun _ => true) (mixV f g x y js)) js.length k (begun ++ [(j : Int)]) b) b' := by
          rw [hx, show begun.any (· == (i : Int)) = true from c1]; rfl
        simp -implicitDefEqProofs [hlt, CL_ret rh, c1, wi]
        exact ⟨m', by omega, on hI ⟨i + 1, b', _, by omega, rfl, hx', hbl, Ons, H⟩⟩
    · have hm : m = 0 := by omega
      subst hm
      have hx' : X = b' := by simpa using hx
      subst hx'
      obtain ⟨h8, s8, H8, k8⟩ := H.set (P := P) 1 (n := 3) (o := 0) (ty := t_spec_l2Search) (w := sv3 (.slice oq X.o.length cn) X) rfl rfl e_t_spec_l2Search (by simp) (by simp) (by simp)
      simp -implicitDefEqProofs [hlt, H.bl 0 3 rfl rfl, s8, H8.bl 1 3 rfl rfl]
      exact onK hK ⟨pre_gcU H8.pre, hbl, _, rfl, Sees.gcU (Sees.boxK Ons (by omega) (H.box 1 rfl) k8) plain3⟩

theorem l11Under_run {js : List Job} {f g lim : Int} (hg : goodL js = true) (hn : js.length ≤ 8) (hf : 1 ≤ f ∧ f ≤ 8) (hg8 : 1 ≤ g ∧ g ≤ 8) : ∀ {k : Nat} {h : Hp} {vj vb vo : Value} {begun : List Int} {b : Sr}, Jobs h vj js → Ints h vb begun → Ints h vo b.o → begun.length + k = js.length → inN js.length begun → begun.Nodup → b.o.length ≤ 8 →
    RunsC P G n_spec_l11Under [vj, vb, .int .i64 f, .int .i64 g, .int .i64 lim, sv3 vo b] h fun v h' => h <+: h' ∧ (dfs (updG (fun xs => decide (valX g js xs ≤ lim)) (valX f js)) js.length k begun b).o.length ≤ 8 ∧ ∃ vo', v = sv3 vo' (dfs (updG (fun xs => decide (valX g js xs ≤ lim)) (valX f js)) js.length k begun b) ∧ Ints h' vo' (dfs (updG (fun xs => decide (valX g js xs ≤ lim)) (valX f js)) js.length k begun b).o
  | 0, h, vj, vb, vo, begun, b, J, B, O, hk, hin, hnd, hol => by
    refine hideC fun K hK => enter_run e_spec_l11Under (by simp) ?_
    have Js := J
    have Bs := B
    have Os := O
    obtain ⟨oj, cj, rfl⟩ := J.shapeT
    obtain ⟨ob, cb, rfl⟩ : ∃ a c, vb = .slice a js.length c := by obtain ⟨a, c, e⟩ := B.shapeT; exact ⟨a, c, by rw [e]; congr 1⟩
    obtain ⟨od, cd, rfl⟩ := O.shapeT
    have hx : Ord js.length begun := ⟨by omega, hin, hnd⟩
    have hl : begun.length = js.length := hx.len
    have H0 := (Holds.start.alloc [.slice od b.o.length cd, .int .i64 b.v, .int .i64 b.c] (h := h)).alloc [.slice none 0 0, .int .i64 0, .int .i64 0]
    simp only [List.append_assoc, List.cons_append, List.nil_append, List.length_append, List.length_cons, List.length_nil, Nat.zero_add] at H0
    have rp := l11Point_run (f := f) (g := g) (Js.pre H0.pre) (Bs.pre H0.pre) hg hn hf hg8 hx
    have b1 := valX_bd (o := f) hg hn hx
    have b2 := valX_bd (o := g) hg hn hx
    have e1 : (ptX f g js begun).1 = valX f js begun := rfl
    have e2 : (ptX f g js begun).2 = valX g js begun := rfl
    rw [← e1] at b1
    rw [← e2] at b2
    rw [dfs] at hK
    generalize hP : ptX f g js begun = p at *
    have hV : valX f js begun = p.1 := by rw [← hP]; rfl
    have hW : valX g js begun = p.2 := by rw [← hP]; rfl
    have H1 := H0.alloc [.int .i64 p.1, .int .i64 p.2]
    simp only [List.append_assoc, List.cons_append, List.nil_append, List.length_append, List.length_cons, List.length_nil, Nat.zero_add, Nat.add_assoc, Nat.reduceAdd] at H1
    have lp := H1.bl (P := P) 2 2 rfl rfl
    have lb := H1.bl (P := P) 0 3 rfl rfl
    have other : ¬ (p.2 ≤ lim ∧ (b.c = 0 ∨ p.1 < b.v)) → ∃ h2, storeP P (h ++ [some ⟨[.slice od b.o.length cd, .int .i64 b.v, .int .i64 b.c], 0, false⟩, some ⟨[.slice none 0 0, .int .i64 0, .int .i64 0], 0, false⟩, some ⟨[.int .i64 p.1, .int .i64 p.2], 0, false⟩]) t_spec_l2Search (sv3 (.slice od b.o.length cd) b) (.pointer (some ⟨h.length + 1, 0, some 3⟩)) = some h2 ∧
        loadP P h2 t_spec_l2Search (.pointer (some ⟨h.length + 1, 0, some 3⟩)) = some (sv3 (.slice od b.o.length cd) b) ∧ K (sv3 (.slice od b.o.length cd) b) (gc h h2 (sv3 (.slice od b.o.length cd) b)) := fun c1 => by
      have e : updG (fun xs => decide (valX g js xs ≤ lim)) (valX f js) b begun = b := by unfold updG; simp only [hV, hW, decide_eq_true_eq]; rw [if_neg c1]
      rw [e] at hK
      obtain ⟨h2, s2, H2, k2⟩ := H1.set (P := P) 1 (n := 3) (o := 0) (ty := t_spec_l2Search) (w := sv3 (.slice od b.o.length cd) b) rfl rfl e_t_spec_l2Search (by simp) (by simp) (by simp)
      have l2 := H2.bl (P := P) 1 3 rfl rfl
      exact ⟨h2, s2, by rw [l2]; simp, onK hK ⟨pre_gcU H2.pre, hol, _, rfl, Sees.gcU (Os.pre H2.pre) plain3⟩⟩
    have self : p.2 ≤ lim ∧ (b.c = 0 ∨ p.1 < b.v) → ∃ h2, storeP P (h ++ [some ⟨[.slice od b.o.length cd, .int .i64 b.v, .int .i64 b.c], 0, false⟩, some ⟨[.slice none 0 0, .int .i64 0, .int .i64 0], 0, false⟩, some ⟨[.int .i64 p.1, .int .i64 p.2], 0, false⟩]) t_spec_l2Search (sv3 (.slice ob js.length cb) ⟨begun, p.1, 1⟩) (.pointer (some ⟨h.length + 1, 0, some 3⟩)) = some h2 ∧
        loadP P h2 t_spec_l2Search (.pointer (some ⟨h.length + 1, 0, some 3⟩)) = some (sv3 (.slice ob js.length cb) ⟨begun, p.1, 1⟩) ∧ K (sv3 (.slice ob js.length cb) ⟨begun, p.1, 1⟩) (gc h h2 (sv3 (.slice ob js.length cb) ⟨begun, p.1, 1⟩)) := fun c1 => by
      have e : updG (fun xs => decide (valX g js xs ≤ lim)) (valX f js) b begun = ⟨begun, p.1, 1⟩ := by unfold updG; simp only [hV, hW, decide_eq_true_eq]; rw [if_pos c1]
      rw [e] at hK
      obtain ⟨h2, s2, H2, _⟩ := H1.set (P := P) 1 (n := 3) (o := 0) (ty := t_spec_l2Search) (w := sv3 (.slice ob js.length cb) ⟨begun, p.1, 1⟩) rfl rfl e_t_spec_l2Search (by simp) (by simp) (by simp)
      have l2 := H2.bl (P := P) 1 3 rfl rfl
      exact ⟨h2, s2, by rw [l2]; simp, onK hK ⟨pre_gcU H2.pre, by rw [hl]; exact hn, _, rfl, Sees.gcU (Bs.pre H2.pre) plain3⟩⟩
    by_cases c0 : p.2 ≤ lim
    · rcases Classical.em (b.c = 0) with c2 | c2
      · obtain ⟨h2, s2, l2, fin⟩ := self ⟨c0, .inl c2⟩
        simp -implicitDefEqProofs [-storeP_app0, CL_ret rp, ia20, ia21, lp, lb, c0, show (b.c == 0) = true by simpa using c2, s2, l2]
        exact fin
      · by_cases c3 : p.1 < b.v
        · obtain ⟨h2, s2, l2, fin⟩ := self ⟨c0, .inr c3⟩
          simp -implicitDefEqProofs [-storeP_app0, CL_ret rp, ia20, ia21, lp, lb, c0, nb c2, c3, s2, l2]
          exact fin
        · obtain ⟨h2, s2, l2, fin⟩ := other (fun q => by rcases q.2 with g | g; exact c2 g; exact c3 g)
          simp -implicitDefEqProofs [-storeP_app0, CL_ret rp, ia20, ia21, lp, lb, c0, nb c2, c3, s2, l2]
          exact fin
    · obtain ⟨h2, s2, l2, fin⟩ := other (fun q => c0 q.1)
      simp -implicitDefEqProofs [-storeP_app0, CL_ret rp, ia20, ia21, lp, lb, c0, s2, l2]
      exact fin
  | k + 1, h, vj, vb, vo, begun, b, J, B, O, hk, hin, hnd, hol => by
    refine hideC fun K hK => enter_run e_spec_l11Under (by simp) ?_
    have Js := J
    have Bs := B
    have Os := O
    obtain ⟨oj, cj, rfl⟩ := J.shapeT
    obtain ⟨ob, cb, rfl⟩ := B.shapeT
    obtain ⟨od, cd, rfl⟩ := O.shapeT
    have hne : ((begun.length : Int) == (js.length : Int)) = false := nb (by omega)
    have H0 := (Holds.start.alloc [.slice od b.o.length cd, .int .i64 b.v, .int .i64 b.c] (h := h)).alloc [.slice none 0 0, .int .i64 0, .int .i64 0]
    simp only [List.append_assoc, List.cons_append, List.nil_append, List.length_append, List.length_cons, List.length_nil, Nat.zero_add] at H0
    generalize hX : dfs (updG (fun xs => decide (valX g js xs ≤ lim)) (valX f js)) js.length (k + 1) begun b = X at hK
    rw [dfs] at hX
    have hne' : ¬ begun.length = js.length := by omega
    simp -implicitDefEqProofs [hne, hne']
    refine R_loopO (fun m st h' => ∃ (i : Nat) (b' : Sr) (vo' : Value), i + m = js.length ∧ st = [(0, .slice oj js.length cj), (1, .slice ob begun.length cb), (2, .int .i64 f), (3, .int .i64 g), (4, .int .i64 lim), (11, .pointer (some ⟨h.length, 0, some 3⟩)), (12, .pointer (some ⟨h.length + 1, 0, some 3⟩)), (14, .int .i64 i)] ∧
      X = (List.range' i m).foldl (fun b (j : Nat) => if begun.any (· == (j : Int)) = true then b else dfs (updG (fun xs => decide (valX g js xs ≤ lim)) (valX f js)) js.length k (begun ++ [(j : Int)]) b) b' ∧ b'.o.length ≤ 8 ∧ Ints h' vo' b'.o ∧
      Holds h h' [.box h.length [vo', .int .i64 b'.v, .int .i64 b'.c], .box (h.length + 1) [.slice none 0 0, .int .i64 0, .int .i64 0]]) (fun I hI m st h' => ?_) (n := js.length)
      ⟨0, b, .slice od b.o.length cd, Nat.zero_add _, by simp, hX.symm, hol, Os.pre H0.pre, H0⟩
    rintro ⟨i, b', vo', hi, rfl, hx, hbl, O', H⟩
    have Ons := O'
    obtain ⟨oq, cn, rfl⟩ := O'.shapeT
    by_cases hlt : i < js.length
    · obtain ⟨m', rfl⟩ : ∃ m', m = m' + 1 := ⟨m - 1, by omega⟩
      rw [List.range'_succ, List.foldl_cons] at hx
      have rh := l1Has_run (x := (i : Int)) (Bs.pre H.pre) (by omega)
      have wi := winc hlt (show js.length ≤ 2 ^ 40 by omega)
      cases c1 : hasL (i : Int) begun
      · have hx' : X = (List.range' (i + 1) m').foldl (fun b (j : Nat) => if begun.any (· == (j : Int)) = true then b else dfs (updG (fun xs => decide (valX g js xs ≤ lim)) (valX f js)) js.length k (begun ++ [(j : Int)]) b) (dfs (updG (fun xs => decide (valX g js xs ≤ lim)) (valX f js)) js.length k (begun ++ [(i : Int)]) b') := by
          rw [hx, show begun.any (· == (i : Int)) = false from c1]; rfl
        have hni : (i : Int) ∉ begun := fun g => by rw [hasL_iff'.2 g] at c1; cases c1
        simp -implicitDefEqProofs [hlt, CL_ret rh, c1]
        refine CG_post (l1Own_run (Bs.pre H.pre) (by omega)).new fun v5 h5 ⟨⟨hp5, ho5⟩, hn5⟩ => ⟨hn5 hp5, ?_⟩
        have H5 : Holds h' h5 [.own v5 1 (begun.map encI)] := (Holds.start (h := h')).call hp5 ho5
        obtain ⟨v6, h6, ha6, H6, k6, _⟩ := push_I0 H5 0 rfl (i : Int) (by omega)
        have H6' : Holds h' h6 [.own v6 1 ((begun ++ [(i : Int)]).map encI)] := H6
        have n6 : NR h'.length (h5 ++ [some ⟨[.int .i64 (i : Int)], 1, false⟩]) := (hn5 hp5).nr.new [.int .i64 (i : Int)] 1
        have md := app_mod (b := h'.length) rfl n6 ha6 (hp5.trans (List.prefix_append ..)) H6'.pre
        have HH6 := H.ext H6'.pre
        have ih := l11Under_run hg hn hf hg8 (lim := lim) (k := k) (Js.pre HH6.pre) (H6'.sees 0 rfl) (Ons.pre H6'.pre) (by simp; omega) (fun x hx => by
          rcases List.mem_append.1 hx with g | g
          · exact hin x g
          · rw [List.mem_singleton.1 g]; omega) (List.nodup_append.2 ⟨hnd, by simp, fun a ha c hc => by rw [List.mem_singleton.1 hc]; intro e; exact hni (e ▸ ha)⟩) hbl
        obtain ⟨d1, d2, d3, rfl⟩ : ∃ a n c, v5 = .slice a n c := by obtain ⟨a, c, e⟩ := ho5.sees.shape; exact ⟨_, _, _, e⟩
        obtain ⟨e1, e2, e3, rfl⟩ : ∃ a n c, v6 = .slice a n c := by obtain ⟨a, c, e⟩ := (H6'.sees 0 rfl).shape; exact ⟨_, _, _, e⟩
        simp -implicitDefEqProofs [ha6, md, HH6.bl 0 3 rfl rfl]
        refine CL_post ih fun v h7 ⟨hp7, hb7, vo7, ev7, O7⟩ => ?_
        subst ev7
        generalize dfs (updG (fun xs => decide (valX g js xs ≤ lim)) (valX f js)) js.length k (begun ++ [(i : Int)]) b' = b7 at hx' hb7 O7
        have O7s := O7
        obtain ⟨f1, f2, rfl⟩ := O7.shapeT
        have H7 := HH6.ext hp7
        obtain ⟨h8, s8, H8, k8⟩ := H7.set (P := P) 0 (n := 3) (o := 0) (ty := t_spec_l2Search) (w := sv3 (.slice f1 b7.o.length f2) b7) rfl rfl e_t_spec_l2Search (by simp) (by simp) (by simp)
        have bx := H7.box 0 rfl
        simp -implicitDefEqProofs [s8, wi]
        exact ⟨m', by omega, on hI ⟨i + 1, b7, _, by omega, rfl, hx', hb7, Sees.boxK O7s (by omega) bx k8, by simpa using H8⟩⟩
      · have hx' : X = (List.range' (i + 1) m').foldl (fun b (j : Nat) => if begun.any (· == (j : Int)) = true then b else dfs (updG (fun xs => decide (valX g js xs ≤ lim)) (valX f js)) js.length k (begun ++ [(j : Int)]) b) b' := by
          rw [hx, show begun.any (· == (i : Int)) = true from c1]; rfl
        simp -implicitDefEqProofs [hlt, CL_ret rh, c1, wi]
        exact ⟨m', by omega, on hI ⟨i + 1, b', _, by omega, rfl, hx', hbl, Ons, H⟩⟩
    · have hm : m = 0 := by omega
      subst hm
      have hx' : X = b' := by simpa using hx
      subst hx'
      obtain ⟨h8, s8, H8, k8⟩ := H.set (P := P) 1 (n := 3) (o := 0) (ty := t_spec_l2Search) (w := sv3 (.slice oq X.o.length cn) X) rfl rfl e_t_spec_l2Search (by simp) (by simp) (by simp)
      simp -implicitDefEqProofs [hlt, H.bl 0 3 rfl rfl, s8, H8.bl 1 3 rfl rfl]
      exact onK hK ⟨pre_gcU H8.pre, hbl, _, rfl, Sees.gcU (Sees.boxK Ons (by omega) (H.box 1 rfl) k8) plain3⟩

end Go.Pm.PP

/- Orders that keep to a table of pairs. -/
set_option linter.unusedVariables false
set_option linter.unusedSimpArgs false
set_option maxRecDepth 4000
set_option maxHeartbeats 16000000
namespace Go.Pm.PP
open Go.Pm Go.Proofs Go.Pm.PE
def extG (T : List (List Bool)) : List Int → List Int → Bool
  | _, [] => true
  | pre, i :: r => pre.all (fun j => !tG T i.toNat j.toNat) && extG T (pre ++ [i]) r
theorem extG_iff {T : List (List Bool)} : ∀ {xs pre : List Int}, extG T pre xs = true ↔ (∀ j, j ∈ pre → ∀ i, i ∈ xs → tG T i.toNat j.toNat = false) ∧ xs.Pairwise fun a b => tG T b.toNat a.toNat = false
  | [], pre => by simp [extG]
  | x :: r, pre => by
    rw [extG, Bool.and_eq_true, extG_iff, List.pairwise_cons, List.all_eq_true]
    constructor
    · rintro ⟨h1, h2, h3⟩
      refine ⟨fun j hj i hi => ?_, fun i hi => h2 x (by simp) i hi, h3⟩
      rcases List.mem_cons.1 hi with rfl | hi
      · simpa using h1 j hj
      · exact h2 j (List.mem_append_left _ hj) i hi
    · rintro ⟨h1, h2, h3⟩
      refine ⟨fun j hj => by simpa using h1 j hj x (List.mem_cons_self ..), fun j hj i hi => ?_, h3⟩
      rcases List.mem_append.1 hj with hj | hj
      · exact h1 j hj i (List.mem_cons_of_mem _ hi)
      · rw [List.mem_singleton.1 hj]; exact h2 i hi
def rdyB (T : List (List Bool)) (n : Nat) (begun : List Int) (j : Nat) : Bool := (List.range' 0 n).all (fun (i : Nat) => !(tG T i j && !hasL (i : Int) begun)) && !hasL (j : Int) begun
def dfsR (T : List (List Bool)) (upd : Sr → List Int → Sr) (n : Nat) : Nat → List Int → Sr → Sr
  | 0, begun, b => upd b begun
  | k + 1, begun, b => (List.range' 0 n).foldl (fun b (j : Nat) => if rdyB T n begun j = true then dfsR T upd n k (begun ++ [(j : Int)]) b else b) b
theorem fold_id {α β : Type} {f : β → α → β} : ∀ {l : List α} {b : β}, (∀ x, x ∈ l → ∀ b, f b x = b) → l.foldl f b = b
  | [], b, _ => rfl
  | x :: l, b, h => by rw [List.foldl_cons, h x (List.mem_cons_self ..)]; exact fold_id fun y hy => h y (List.mem_cons_of_mem _ hy)
theorem fold_eq {α β : Type} {f g : β → α → β} : ∀ {l : List α} {b : β}, (∀ x, x ∈ l → ∀ b, f b x = g b x) → l.foldl f b = l.foldl g b
  | [], b, _ => rfl
  | x :: l, b, h => by rw [List.foldl_cons, List.foldl_cons, h x (List.mem_cons_self ..)]; exact fold_eq fun y hy => h y (List.mem_cons_of_mem _ hy)
theorem snoc_ok {n : Nat} {begun : List Int} {j : Nat} (hin : inN n begun) (hnd : begun.Nodup) (hj : j < n) (h : (j : Int) ∉ begun) : inN n (begun ++ [(j : Int)]) ∧ (begun ++ [(j : Int)]).Nodup := by
  constructor
  · intro x hx
    rcases List.mem_append.1 hx with g | g
    · exact hin x g
    · rw [List.mem_singleton.1 g]; omega
  · exact List.nodup_append.2 ⟨hnd, by simp, fun a ha c hc => by rw [List.mem_singleton.1 hc]; intro e; exact h (e ▸ ha)⟩
theorem dfs_none {ok : List Int → Bool} {V : List Int → Int} {n : Nat} : ∀ {k : Nat} {begun : List Int} {b : Sr}, begun.length + k = n → inN n begun → begun.Nodup → (∀ xs, Ord n xs → begun <+: xs → ok xs = false) → dfs (updG ok V) n k begun b = b
  | 0, begun, b, hk, hin, hnd, h => by
    have := h begun ⟨by omega, hin, hnd⟩ List.prefix_rfl
    rw [dfs]
    unfold updG
    rw [this, if_neg (by simp)]
  | k + 1, begun, b, hk, hin, hnd, h => by
    rw [dfs]
    refine fold_id fun j hj b => ?_
    have hj : j < n := by simpa [List.mem_range'_1] using hj
    cases c : begun.any (· == (j : Int))
    · have hni : (j : Int) ∉ begun := fun g => by rw [show begun.any (· == (j : Int)) = true from hasL_iff'.2 g] at c; cases c
      obtain ⟨s1, s2⟩ := snoc_ok hin hnd hj hni
      rw [if_neg (by simp)]
      exact dfs_none (by simp; omega) s1 s2 fun xs ox hp => h xs ox ((List.prefix_append ..).trans hp)
    · rw [if_pos rfl]
theorem dfsR_eq {T : List (List Bool)} {V : List Int → Int} {n : Nat} (hT : ∀ i, i < n → tG T i i = false) : ∀ {k : Nat} {begun : List Int} {b : Sr}, begun.length + k = n → inN n begun → begun.Nodup → dfsR T (updG (extG T []) V) n k begun b = dfs (updG (extG T []) V) n k begun b
  | 0, begun, b, _, _, _ => rfl
  | k + 1, begun, b, hk, hin, hnd => by
    rw [dfs, dfsR]
    refine fold_eq fun j hj b => ?_
    have hj : j < n := by simpa [List.mem_range'_1] using hj
    cases c : begun.any (· == (j : Int))
    · have hni : (j : Int) ∉ begun := fun g => by rw [show begun.any (· == (j : Int)) = true from hasL_iff'.2 g] at c; cases c
      obtain ⟨s1, s2⟩ := snoc_ok hin hnd hj hni
      rw [if_neg (show ¬ (false = true) by simp)]
      cases r : rdyB T n begun j
      · rw [if_neg (by simp)]
        symm
        refine dfs_none (by simp; omega) s1 s2 fun xs ox hp => ?_
        have hc : hasL (j : Int) begun = false := c
        unfold rdyB at r
        rw [hc, Bool.not_false, Bool.and_true] at r
        obtain ⟨i, hi, hr⟩ : ∃ i, i < n ∧ (tG T i j = true ∧ hasL (i : Int) begun = false) := by
          by_cases hh : ∃ i, i < n ∧ (tG T i j = true ∧ hasL (i : Int) begun = false)
          · exact hh
          · have : (List.range' 0 n).all (fun (i : Nat) => !(tG T i j && !hasL (i : Int) begun)) = true := by
              rw [List.all_eq_true]
              intro i hi
              have hi : i < n := by simpa [List.mem_range'_1] using hi
              cases g1 : tG T i j
              · rfl
              · cases g2 : hasL (i : Int) begun
                · exact absurd ⟨i, hi, g1, g2⟩ hh
                · rfl
            rw [this] at r; cases r
        have hij : i ≠ j := fun e => by rw [e, hT j hj] at hr; cases hr.1
        have hib : (i : Int) ∉ begun := fun g => by rw [hasL_iff'.2 g] at hr; cases hr.2
        obtain ⟨t, rfl⟩ := hp
        have hit : (i : Int) ∈ t := by
          have := ox.all hi
          rcases List.mem_append.1 this with g | g
          · rcases List.mem_append.1 g with g | g
            · exact absurd g hib
            · rw [List.mem_singleton] at g; omega
          · exact g
        cases e : extG T [] (begun ++ [(j : Int)] ++ t)
        · rfl
        · have := (extG_iff.1 e).2
          have := (List.pairwise_append.1 this).2.2 (j : Int) (by simp) (i : Int) hit
          rw [Int.toNat_natCast, Int.toNat_natCast, hr.1] at this
          cases this
      · rw [if_pos rfl]
        exact dfsR_eq hT (by simp; omega) s1 s2
    · have hc : hasL (j : Int) begun = true := c
      have : rdyB T n begun j = false := by unfold rdyB; rw [hc]; simp
      rw [this, if_pos rfl, if_neg (by simp)]
section
variable {h : Hp} {vt v vb : Value} {us : List Value} {T : List (List Bool)} {xs begun : List Int} {n : Nat}
theorem extends_run (N : Nest h vt encB 1 T us) (k : TOk n T) (X : Ints h v xs) (hin : inN n xs) (hl : xs.length ≤ 2 ^ 40) : Ret P G n_impl_extends [vt, v] h (.bool (extG T [] xs)) h := by
  refine enter_run e_impl_extends (by simp) ?_
  have Xs := X
  obtain ⟨oa, ca, rfl⟩ := X.shapeT
  obtain ⟨ta, tc, rfl⟩ := N.shape
  simp -implicitDefEqProofs
  refine R_loopO (fun m s h' => ∃ i : Nat, i + m = xs.length ∧ s = [(0, .slice ta T.length tc), (1, .slice oa xs.length ca), (9, .slice oa xs.length ca), (10, .int .i64 xs.length), (11, .int .i64 i)] ∧ extG T [] xs = extG T (xs.take i) (xs.drop i) ∧ h' = h) (fun I hI m s h' => ?_) (n := xs.length)
    ⟨0, Nat.zero_add _, by simp, rfl, rfl⟩
  rintro ⟨i, hi, rfl, he, rfl⟩
  by_cases hlt : i < xs.length
  · obtain ⟨x, hx, hd⟩ := drop_at hlt
    obtain ⟨v3, s3, f3⟩ := Xs.front (P := P) u_S_int i_int (k := .i64) (j := (i : Int)) (by omega) (by simp; omega)
    rw [Int.toNat_natCast, ← List.map_take] at f3
    have fs := f3
    obtain ⟨fa, fc, rfl⟩ := f3.shapeT
    have tl : (xs.take i).length = i := by rw [List.length_take]; omega
    rw [hd, extG] at he
    obtain ⟨x0, x1⟩ := hin x (List.mem_of_getElem? hx)
    obtain ⟨a, rfl⟩ : ∃ a : Nat, x = a := ⟨x.toNat, by omega⟩
    rw [Int.toNat_natCast] at he
    rw [tl] at fs s3
    simp -implicitDefEqProofs [-indexAddrP_some, hlt, load_I Xs hx, s3]
    refine R_loopO (fun m2 s2 h2 => ∃ b : Nat, b + m2 = i ∧ s2 = [(0, .slice ta T.length tc), (1, .slice oa xs.length ca), (6, .int .i64 a), (9, .slice oa xs.length ca), (10, .int .i64 xs.length), (11, .int .i64 i), (18, .slice fa i fc), (19, .int .i64 i), (20, .int .i64 b)] ∧
        extG T [] xs = (((xs.take i).drop b).all (fun j => !tG T a j.toNat) && extG T (xs.take i ++ [(a : Int)]) (xs.drop (i + 1))) ∧ h2 = h') (fun I2 hI2 m2 s2 h2 => ?_) (n := i)
      ⟨0, Nat.zero_add _, by simp, by simpa using he, rfl⟩
    rintro ⟨b, hb, rfl, he2, rfl⟩
    by_cases hlt2 : b < i
    · obtain ⟨y, hy, hd2⟩ := drop_at (show b < (xs.take i).length by omega)
      have hyi : y ∈ xs := List.mem_of_mem_take (List.mem_of_getElem? hy)
      obtain ⟨y0, y1⟩ := hin y hyi
      obtain ⟨c, rfl⟩ : ∃ c : Nat, y = c := ⟨y.toNat, by omega⟩
      obtain ⟨ua, uc, hu, l1, l2, l3, l4⟩ := nest_cell N k (a := a) (b := c) (by omega) (by omega)
      rw [hd2, List.all_cons, Int.toNat_natCast] at he2
      cases g : tG T a c
      · rw [g, Bool.not_false, Bool.true_and] at he2
        rw [g] at l4
        simp -implicitDefEqProofs [-indexAddrP_some, hlt2, load_I fs hy, l1, l2, l3, l4, winc hlt2 (by omega)]
        exact ⟨m2 - 1, by omega, on hI2 ⟨b + 1, by omega, rfl, he2, rfl⟩⟩
      · rw [g, Bool.not_true, Bool.false_and, Bool.false_and] at he2
        rw [g] at l4
        simp -implicitDefEqProofs [-indexAddrP_some, hlt2, load_I fs hy, l1, l2, l3, l4, he2]
    · rw [List.drop_eq_nil_of_le (by omega), List.all_nil, Bool.true_and] at he2
      simp -implicitDefEqProofs [hlt2, winc hlt (by omega)]
      exact ⟨m - 1, by omega, on hI ⟨i + 1, by omega, rfl, by rw [he2, take_succ' hx], rfl⟩⟩
  · rw [List.drop_eq_nil_of_le (by omega)] at he
    have he : extG T [] xs = true := he
    simp -implicitDefEqProofs [hlt, he]
theorem l4Ready_run (N : Nest h vt encB 1 T us) (k : TOk n T) (B : Ints h vb begun) (hl : begun.length ≤ 2 ^ 40) {j : Nat} (hj : j < n) (hn : n ≤ 8) : Ret P G n_spec_l4Ready [vt, vb, .int .i64 j] h (.bool (rdyB T n begun j)) h := by
  refine enter_run e_spec_l4Ready (by simp) ?_
  have Bs := B
  obtain ⟨oa, ca, rfl⟩ := B.shapeT
  obtain ⟨ta, tc, rfl⟩ := N.shape
  have hTl := k.len
  have rj := l1Has_run (x := (j : Int)) Bs hl
  simp -implicitDefEqProofs
  refine R_loopO (fun m s h' => ∃ i : Nat, i + m = n ∧ s = [(0, .slice ta T.length tc), (1, .slice oa begun.length ca), (2, .int .i64 j), (7, .int .i64 i)] ∧ rdyB T n begun j = ((List.range' i m).all (fun (i : Nat) => !(tG T i j && !hasL (i : Int) begun)) && !hasL (j : Int) begun) ∧ h' = h) (fun I hI m s h' => ?_) (n := n)
    ⟨0, Nat.zero_add _, by simp, rfl, rfl⟩
  rintro ⟨i, hi, rfl, he, rfl⟩
  by_cases hlt : i < n
  · obtain ⟨m', rfl⟩ : ∃ m', m = m' + 1 := ⟨m - 1, by omega⟩
    rw [List.range'_succ, List.all_cons] at he
    have hltT : i < T.length := by omega
    obtain ⟨ua, uc, hu, l1, l2, l3, l4⟩ := nest_cell N k (a := i) (b := j) hlt hj
    have ri := l1Has_run (x := (i : Int)) Bs hl
    cases g : tG T i j
    · rw [g, Bool.false_and, Bool.not_false, Bool.true_and] at he
      rw [g] at l4
      simp -implicitDefEqProofs [-indexAddrP_some, hltT, l1, l2, l3, l4, winc hlt (by omega)]
      exact ⟨m', by omega, on hI ⟨i + 1, by omega, rfl, he, rfl⟩⟩
    · rw [g] at l4
      cases g2 : hasL (i : Int) begun
      · rw [g, g2] at he
        have he : rdyB T n begun j = false := by simpa using he
        rw [g2] at ri
        simp -implicitDefEqProofs [-indexAddrP_some, hltT, l1, l2, l3, l4, CL_ret ri, he]
      · rw [g, g2, Bool.not_true, Bool.and_false, Bool.not_false, Bool.true_and] at he
        rw [g2] at ri
        simp -implicitDefEqProofs [-indexAddrP_some, hltT, l1, l2, l3, l4, CL_ret ri, winc hlt (by omega)]
        exact ⟨m', by omega, on hI ⟨i + 1, by omega, rfl, he, rfl⟩⟩
  · have hltT : ¬ i < T.length := by omega
    have : m = 0 := by omega
    subst this
    have he : rdyB T n begun j = !hasL (j : Int) begun := by simpa using he
    simp -implicitDefEqProofs [hltT, CL_ret rj, he]
end
end Go.Pm.PP

/- Best orders that keep to one pair, by both. -/
set_option linter.unusedVariables false
set_option linter.unusedSimpArgs false
set_option maxRecDepth 4000
set_option maxHeartbeats 16000000
namespace Go.Pm.PP
open Go.Pm Go.Proofs Go.Pm.PE
/-- What stands is closed towards the front. -/
def dn (T : List (List Bool)) (n : Nat) (begun : List Int) : Prop := ∀ a, a ∈ begun → ∀ i : Nat, i < n → tG T i a.toNat = true → (i : Int) ∈ begun
theorem dfsR_ok {T : List (List Bool)} {V : List Int → Int} {n : Nat} : ∀ {k : Nat} {begun : List Int} {b : Sr}, extG T [] begun = true → dn T n begun → dfsR T (updG (fun _ => true) V) n k begun b = dfsR T (updG (extG T []) V) n k begun b
  | 0, begun, b, h, _ => by
    rw [dfsR, dfsR]
    unfold updG
    rw [h]
  | k + 1, begun, b, h, hd => by
    rw [dfsR, dfsR]
    refine fold_eq fun j hj b => ?_
    have hj : j < n := by simpa [List.mem_range'_1] using hj
    cases r : rdyB T n begun j
    · rw [if_neg (by simp), if_neg (by simp)]
    · rw [if_pos rfl, if_pos rfl]
      unfold rdyB at r
      rw [Bool.and_eq_true, List.all_eq_true] at r
      have hjb : (j : Int) ∉ begun := fun g => by have := r.2; rw [hasL_iff'.2 g] at this; cases this
      have hp : ∀ i, i < n → tG T i j = true → (i : Int) ∈ begun := fun i hi hT => by
        have := r.1 i (by simpa [List.mem_range'_1] using hi)
        rw [hT, Bool.true_and, Bool.not_not] at this
        exact hasL_iff'.1 this
      refine dfsR_ok ?_ ?_
      · refine extG_iff.2 ⟨fun j hj => (by cases hj), List.pairwise_append.2 ⟨(extG_iff.1 h).2, List.pairwise_singleton .., fun a ha c hc => ?_⟩⟩
        rw [List.mem_singleton.1 hc, Int.toNat_natCast]
        cases g : tG T j a.toNat
        · rfl
        · exact absurd (hd a ha j hj g) hjb
      · intro a ha i hi hT
        rcases List.mem_append.1 ha with ha | ha
        · exact List.mem_append_left _ (hd a ha i hi hT)
        · rw [List.mem_singleton.1 ha, Int.toNat_natCast] at hT
          exact List.mem_append_left _ (hp i hi hT)
theorem l4Try_run {js : List Job} {o : Int} {T : List (List Bool)} (kT : TOk js.length T) (hg : goodL js = true) (hn : js.length ≤ 8) (ho : 1 ≤ o ∧ o ≤ 8) : ∀ {k : Nat} {h : Hp} {vj vt vb vo : Value} {us : List Value} {begun : List Int} {b : Sr}, Jobs h vj js → Nest h vt encB 1 T us → Ints h vb begun → Ints h vo b.o → begun.length + k = js.length → inN js.length begun → begun.Nodup → b.o.length ≤ 8 →
    RunsC P G n_spec_l4Try [vj, vt, vb, .int .i64 o, sv3 vo b] h fun v h' => h <+: h' ∧ (dfsR T (updG (fun _ => true) (valX o js)) js.length k begun b).o.length ≤ 8 ∧ ∃ vo', v = sv3 vo' (dfsR T (updG (fun _ => true) (valX o js)) js.length k begun b) ∧ Ints h' vo' (dfsR T (updG (fun _ => true) (valX o js)) js.length k begun b).o
  | 0, h, vj, vt, vb, vo, us, begun, b, J, N, B, O, hk, hin, hnd, hol => by
    refine hideC fun K hK => enter_run e_spec_l4Try (by simp) ?_
    have Js := J
    have Bs := B
    have Os := O
    obtain ⟨oj, cj, rfl⟩ := J.shapeT
    obtain ⟨ta, tc, rfl⟩ := N.shape
    obtain ⟨ob, cb, rfl⟩ : ∃ a c, vb = .slice a js.length c := by obtain ⟨a, c, e⟩ := B.shapeT; exact ⟨a, c, by rw [e]; congr 1⟩
    obtain ⟨od, cd, rfl⟩ := O.shapeT
    have hx : Ord js.length begun := ⟨by omega, hin, hnd⟩
    have hl : begun.length = js.length := hx.len
    have H0 := (Holds.start.alloc [.slice od b.o.length cd, .int .i64 b.v, .int .i64 b.c] (h := h)).alloc [.slice none 0 0, .int .i64 0, .int .i64 0]
    simp only [List.append_assoc, List.cons_append, List.nil_append, List.length_append, List.length_cons, List.length_nil, Nat.zero_add] at H0
    have rv := l2Value_run (o := o) (Js.pre H0.pre) (Bs.pre H0.pre) hg hn ho hx
    rw [dfsR] at hK
    obtain ⟨V, hV⟩ : ∃ V, V = valX o js begun := ⟨_, rfl⟩
    rw [← hV] at rv
    by_cases c1 : b.c = 0 ∨ V < b.v
    · have e : updG (fun _ => true) (valX o js) b begun = ⟨begun, V, 1⟩ := by unfold updG; rw [← hV, if_pos ⟨rfl, c1⟩]
      rw [e] at hK
      have fin : RunsC P G n_spec_l1Own [.slice ob js.length cb] (h ++ [some ⟨[.slice od b.o.length cd, .int .i64 b.v, .int .i64 b.c], 0, false⟩, some ⟨[.slice none 0 0, .int .i64 0, .int .i64 0], 0, false⟩]) fun v1 h1 => ∃ a n c h2, v1 = .slice a n c ∧ storeP P h1 t_spec_l2Search (sv3 (.slice a n c) ⟨begun, V, 1⟩) (.pointer (some ⟨h.length + 1, 0, some 3⟩)) = some h2 ∧
          loadP P h2 t_spec_l2Search (.pointer (some ⟨h.length + 1, 0, some 3⟩)) = some (sv3 (.slice a n c) ⟨begun, V, 1⟩) ∧ K (sv3 (.slice a n c) ⟨begun, V, 1⟩) (gc h h2 (sv3 (.slice a n c) ⟨begun, V, 1⟩)) := by
        refine RunsC.mono (l1Own_run (Bs.pre H0.pre) (by omega)) fun v1 h1 ⟨hp1, ho1⟩ => ?_
        have H1 := H0.call hp1 ho1
        obtain ⟨a, c, rfl⟩ := ho1.sees.shape
        obtain ⟨h2, s2, H2, _⟩ := H1.set (P := P) 1 (n := 3) (o := 0) (ty := t_spec_l2Search) (w := sv3 (.slice a _ c) ⟨begun, V, 1⟩) rfl rfl e_t_spec_l2Search (by simp) (by simp) (by simp)
        exact ⟨a, _, c, h2, rfl, s2, by simpa using H2.bl (P := P) 1 3 rfl rfl t_spec_l2Search 0, onK hK ⟨pre_gcU H2.pre, by rw [hl]; exact hn, _, rfl, Sees.gcU (H2.sees 2 rfl) plain3⟩⟩
      rcases Classical.em (b.c = 0) with c2 | c2
      · simp -implicitDefEqProofs [CL_ret rv, show (b.c == 0) = true by simpa using c2]
        refine CL_post fin fun v1 h1 ⟨a, n1, c, h2, ev, s2, l2, f2⟩ => ?_
        subst ev
        simp -implicitDefEqProofs [s2, l2]
        exact f2
      · have c3 : V < b.v := by rcases c1 with g | g; exact absurd g c2; exact g
        simp -implicitDefEqProofs [CL_ret rv, nb c2, c3]
        refine CL_post fin fun v1 h1 ⟨a, n1, c, h2, ev, s2, l2, f2⟩ => ?_
        subst ev
        simp -implicitDefEqProofs [s2, l2]
        exact f2
    · have c2 : ¬ b.c = 0 := fun g => c1 (.inl g)
      have c3 : ¬ V < b.v := fun g => c1 (.inr g)
      have e : updG (fun _ => true) (valX o js) b begun = b := by unfold updG; rw [← hV, if_neg (fun q => c1 q.2)]
      rw [e] at hK
      obtain ⟨h2, s2, H2, k2⟩ := H0.set (P := P) 1 (n := 3) (o := 0) (ty := t_spec_l2Search) (w := sv3 (.slice od b.o.length cd) b) rfl rfl e_t_spec_l2Search (by simp) (by simp) (by simp)
      have l2 := H2.bl (P := P) 1 3 rfl rfl
      simp -implicitDefEqProofs [-storeP_app0, CL_ret rv, nb c2, c3, s2, l2]
      exact onK hK ⟨pre_gcU H2.pre, hol, _, rfl, Sees.gcU (Os.pre H2.pre) plain3⟩
  | k + 1, h, vj, vt, vb, vo, us, begun, b, J, N, B, O, hk, hin, hnd, hol => by
    refine hideC fun K hK => enter_run e_spec_l4Try (by simp) ?_
    have Js := J
    have Bs := B
    have Os := O
    obtain ⟨oj, cj, rfl⟩ := J.shapeT
    obtain ⟨ta, tc, rfl⟩ := N.shape
    obtain ⟨ob, cb, rfl⟩ := B.shapeT
    obtain ⟨od, cd, rfl⟩ := O.shapeT
    have hne : ((begun.length : Int) == (js.length : Int)) = false := nb (by omega)
    have H0 := (Holds.start.alloc [.slice od b.o.length cd, .int .i64 b.v, .int .i64 b.c] (h := h)).alloc [.slice none 0 0, .int .i64 0, .int .i64 0]
    simp only [List.append_assoc, List.cons_append, List.nil_append, List.length_append, List.length_cons, List.length_nil, Nat.zero_add] at H0
    generalize hX : dfsR T (updG (fun _ => true) (valX o js)) js.length (k + 1) begun b = X at hK
    rw [dfsR] at hX
    have hne' : ¬ begun.length = js.length := by omega
    simp -implicitDefEqProofs [hne, hne']
    refine R_loopO (fun m st h' => ∃ (i : Nat) (b' : Sr) (vo' : Value), i + m = js.length ∧ st = [(0, .slice oj js.length cj), (1, .slice ta T.length tc), (2, .slice ob begun.length cb), (3, .int .i64 o), (9, .pointer (some ⟨h.length, 0, some 3⟩)), (10, .pointer (some ⟨h.length + 1, 0, some 3⟩)), (12, .int .i64 i)] ∧
      X = (List.range' i m).foldl (fun b (j : Nat) => if rdyB T js.length begun j = true then dfsR T (updG (fun _ => true) (valX o js)) js.length k (begun ++ [(j : Int)]) b else b) b' ∧ b'.o.length ≤ 8 ∧ Ints h' vo' b'.o ∧
      Holds h h' [.box h.length [vo', .int .i64 b'.v, .int .i64 b'.c], .box (h.length + 1) [.slice none 0 0, .int .i64 0, .int .i64 0]]) (fun I hI m st h' => ?_) (n := js.length)
      ⟨0, b, .slice od b.o.length cd, Nat.zero_add _, by simp, hX.symm, hol, Os.pre H0.pre, H0⟩
    rintro ⟨i, b', vo', hi, rfl, hx, hbl, O', H⟩
    have Ons := O'
    obtain ⟨oq, cn, rfl⟩ := O'.shapeT
    by_cases hlt : i < js.length
    · obtain ⟨m', rfl⟩ : ∃ m', m = m' + 1 := ⟨m - 1, by omega⟩
      rw [List.range'_succ, List.foldl_cons] at hx
      have rh := l4Ready_run (N.pre H.pre) kT (Bs.pre H.pre) (by omega) (j := i) hlt hn
      have wi := winc hlt (show js.length ≤ 2 ^ 40 by omega)
      cases c1 : rdyB T js.length begun i
      · have hx' : X = (List.range' (i + 1) m').foldl (fun b (j : Nat) => if rdyB T js.length begun j = true then dfsR T (updG (fun _ => true) (valX o js)) js.length k (begun ++ [(j : Int)]) b else b) b' := by
          rw [hx, c1]; rfl
        simp -implicitDefEqProofs [hlt, CL_ret rh, c1, wi]
        exact ⟨m', by omega, on hI ⟨i + 1, b', _, by omega, rfl, hx', hbl, Ons, H⟩⟩
      · have hx' : X = (List.range' (i + 1) m').foldl (fun b (j : Nat) => if rdyB T js.length begun j = true then dfsR T (updG (fun _ => true) (valX o js)) js.length k (begun ++ [(j : Int)]) b else b) (dfsR T (updG (fun _ => true) (valX o js)) js.length k (begun ++ [(i : Int)]) b') := by
          rw [hx, c1]; rfl
        have hni : (i : Int) ∉ begun := fun g => by unfold rdyB at c1; rw [hasL_iff'.2 g] at c1; simp at c1
        simp -implicitDefEqProofs [hlt, CL_ret rh, c1]
        refine CG_post (l1Own_run (Bs.pre H.pre) (by omega)).new fun v5 h5 ⟨⟨hp5, ho5⟩, hn5⟩ => ⟨hn5 hp5, ?_⟩
        have H5 : Holds h' h5 [.own v5 1 (begun.map encI)] := (Holds.start (h := h')).call hp5 ho5
        obtain ⟨v6, h6, ha6, H6, k6, _⟩ := push_I0 H5 0 rfl (i : Int) (by omega)
        have H6' : Holds h' h6 [.own v6 1 ((begun ++ [(i : Int)]).map encI)] := H6
        have n6 : NR h'.length (h5 ++ [some ⟨[.int .i64 (i : Int)], 1, false⟩]) := (hn5 hp5).nr.new [.int .i64 (i : Int)] 1
        have md := app_mod (b := h'.length) rfl n6 ha6 (hp5.trans (List.prefix_append ..)) H6'.pre
        have HH6 := H.ext H6'.pre
        have ih := l4Try_run kT hg hn ho (k := k) (Js.pre HH6.pre) (N.pre HH6.pre) (H6'.sees 0 rfl) (Ons.pre H6'.pre) (by simp; omega) (fun x hx => by
          rcases List.mem_append.1 hx with g | g
          · exact hin x g
          · rw [List.mem_singleton.1 g]; omega) (List.nodup_append.2 ⟨hnd, by simp, fun a ha c hc => by rw [List.mem_singleton.1 hc]; intro e; exact hni (e ▸ ha)⟩) hbl
        obtain ⟨d1, d2, d3, rfl⟩ : ∃ a n c, v5 = .slice a n c := by obtain ⟨a, c, e⟩ := ho5.sees.shape; exact ⟨_, _, _, e⟩
        obtain ⟨e1, e2, e3, rfl⟩ : ∃ a n c, v6 = .slice a n c := by obtain ⟨a, c, e⟩ := (H6'.sees 0 rfl).shape; exact ⟨_, _, _, e⟩
        simp -implicitDefEqProofs [ha6, md, HH6.bl 0 3 rfl rfl]
        refine CL_post ih fun v h7 ⟨hp7, hb7, vo7, ev7, O7⟩ => ?_
        subst ev7
        generalize dfsR T (updG (fun _ => true) (valX o js)) js.length k (begun ++ [(i : Int)]) b' = b7 at hx' hb7 O7
        have O7s := O7
        obtain ⟨f1, f2, rfl⟩ := O7.shapeT
        have H7 := HH6.ext hp7
        obtain ⟨h8, s8, H8, k8⟩ := H7.set (P := P) 0 (n := 3) (o := 0) (ty := t_spec_l2Search) (w := sv3 (.slice f1 b7.o.length f2) b7) rfl rfl e_t_spec_l2Search (by simp) (by simp) (by simp)
        have bx := H7.box 0 rfl
        simp -implicitDefEqProofs [s8, wi]
        exact ⟨m', by omega, on hI ⟨i + 1, b7, _, by omega, rfl, hx', hb7, Sees.boxK O7s (by omega) bx k8, by simpa using H8⟩⟩
    · have hm : m = 0 := by omega
      subst hm
      have hx' : X = b' := by simpa using hx
      subst hx'
      obtain ⟨h8, s8, H8, k8⟩ := H.set (P := P) 1 (n := 3) (o := 0) (ty := t_spec_l2Search) (w := sv3 (.slice oq X.o.length cn) X) rfl rfl e_t_spec_l2Search (by simp) (by simp) (by simp)
      simp -implicitDefEqProofs [hlt, H.bl 0 3 rfl rfl, s8, H8.bl 1 3 rfl rfl]
      exact onK hK ⟨pre_gcU H8.pre, hbl, _, rfl, Sees.gcU (Sees.boxK Ons (by omega) (H.box 1 rfl) k8) plain3⟩
end Go.Pm.PP

/- Best orders that keep to one pair: what both export. -/
set_option linter.unusedVariables false
set_option linter.unusedSimpArgs false
set_option maxRecDepth 4000
set_option maxHeartbeats 16000000
namespace Go.Pm.PP
open Go.Pm Go.Proofs Go.Pm.PE
structure One (n : Nat) (x y : Int) : Prop where
  n8 : n ≤ 8
  x0 : 0 ≤ x ∧ x < n
  y0 : 0 ≤ y ∧ y < n
  ne : x ≠ y
theorem One.ed {n : Nat} {x y : Int} (k : One n x y) : edOk n [(x, y)] := fun e he => by
  rw [List.mem_singleton] at he; subst he; exact ⟨k.x0, k.y0⟩
theorem One.diag {n : Nat} {x y : Int} (k : One n x y) (a : Nat) : tG (clo n [(x, y)]) a a = false := by
  rw [clo_one k.x0 k.y0 k.ne, decide_eq_false_iff_not]
  have := k.ne
  omega
section
variable {h : Hp} {ve vj : Value} {n : Nat} {x y : Int} {js : List Job} {o : Int}
theorem IsPrecedence_one (k : One n x y) (E : Prs h ve [(x, y)]) : Ret P G n_impl_IsPrecedence [.int .i64 n, ve] h (.bool true) h := by
  refine enter_run e_impl_IsPrecedence (by simp) ?_
  have Es := E
  obtain ⟨ea, ec, rfl⟩ : ∃ a c, ve = .slice a 1 c := E.shapeT
  obtain ⟨n8, ⟨x0, x1⟩, ⟨y0, y1⟩, ne⟩ := k
  have k : One n x y := ⟨n8, ⟨x0, x1⟩, ⟨y0, y1⟩, ne⟩
  have inn : inB (n : Int) 0 8 = true := by simp [inB]; omega
  have wn : w64 ((n : Int) - 1) = (n : Int) - 1 := by unfold w64; rw [wrap_ok] <;> omega
  have ix : inB x 0 (w64 ((n : Int) - 1)) = true := by rw [wn]; simp [inB]; omega
  have iy : inB y 0 (w64 ((n : Int) - 1)) = true := by rw [wn]; simp [inB]; omega
  have l1 : ([(x, y)] : List (Int × Int)).length = 1 := rfl
  simp -implicitDefEqProofs [CL_ret within_run, inn]
  refine R_loopO (fun m s h' => ∃ i : Nat, i + m = 1 ∧ s = [(0, .int .i64 n), (1, .slice ea 1 ec), (17, .slice ea 1 ec), (18, .int .i64 1), (19, .int .i64 i)] ∧ h <+: h') (fun I hI m s h' => ?_) (n := 1)
    ⟨0, rfl, by simp, List.prefix_rfl⟩
  rintro ⟨i, hi, rfl, hp⟩
  rcases (show i = 0 ∨ i = 1 by omega) with rfl | rfl
  · have lq := load_Q (Es.pre hp) (i := 0) (x := (x, y)) rfl
    simp only [show ((0 : Nat) : Int) = 0 from rfl, Nat.zero_mul] at lq
    have lb := (Holds.start (h := h')).alloc [.int .i64 x, .int .i64 y]
    have lp := lb.bl (P := P) 0 2 rfl rfl
    simp -implicitDefEqProofs [-indexAddrP_some, lq, lp, ia20, ia21, CL_ret isNumber_run, ix, iy, nb ne]
    exact ⟨0, by omega, on hI ⟨1, by omega, by simp; rfl, hp.trans (List.prefix_append ..)⟩⟩
  simp -implicitDefEqProofs
  refine CL_post (closure_run n8 (Es.pre hp) (by simp) k.ed) fun v h2 ⟨hp2, us, N⟩ => ?_
  have cl := (clo_ok k.ed).len
  have Ns := N
  obtain ⟨ta, tc, e⟩ := N.shape
  rw [cl] at e
  subst e
  simp -implicitDefEqProofs
  refine R_loopO (fun m s h' => ∃ i : Nat, i + m = n ∧ s = [(7, .slice ta n tc), (83, .int .i64 n), (84, .int .i64 i)] ∧ h' = h2) (fun I2 hI2 m2 s2 h3 => ?_) (n := n)
    ⟨0, Nat.zero_add _, by simp, rfl⟩
  rintro ⟨i, hi, rfl, rfl⟩
  by_cases hlt : i < n
  · obtain ⟨ua, uc, hu, l1, l2, l3, l4⟩ := nest_cell Ns (clo_ok k.ed) (a := i) (b := i) hlt hlt
    rw [k.diag i] at l4
    simp -implicitDefEqProofs [-indexAddrP_some, hlt, l1, l2, l3, l4, winc hlt (by omega)]
    exact ⟨m2 - 1, by omega, on hI2 ⟨i + 1, by omega, rfl, rfl⟩⟩
  · simp -implicitDefEqProofs [hlt]
    exact gcP (hp.trans hp2) rfl
theorem l4Pairs_one (k : One n x y) (E : Prs h ve [(x, y)]) : Ret P G n_spec_l4Pairs [.int .i64 n, ve] h (.bool true) h := by
  refine enter_run e_spec_l4Pairs (by simp) ?_
  have Es := E
  obtain ⟨ea, ec, rfl⟩ : ∃ a c, ve = .slice a 1 c := E.shapeT
  obtain ⟨n8, ⟨x0, x1⟩, ⟨y0, y1⟩, ne⟩ := k
  have inn : inB (n : Int) 0 8 = true := by simp [inB]; omega
  have wn : IntKind.i64.wrap ((n : Int) - 1) = (n : Int) - 1 := by rw [wrap_ok] <;> omega
  have ix : inB x 0 ((n : Int) - 1) = true := by simp [inB]; omega
  have iy : inB y 0 ((n : Int) - 1) = true := by simp [inB]; omega
  simp -implicitDefEqProofs
  refine R_loopO (fun m s h' => ∃ i : Nat, i + m = 1 ∧ s = [(0, .int .i64 n), (1, .slice ea 1 ec), (5, .int .i64 i)] ∧ h' = h) (fun I hI m s h' => ?_) (n := 1)
    ⟨0, rfl, by simp, rfl⟩
  rintro ⟨i, hi, rfl, rfl⟩
  rcases (show i = 0 ∨ i = 1 by omega) with rfl | rfl
  · have lq := load_Q Es (i := 0) (x := (x, y)) rfl
    simp only [show ((0 : Nat) : Int) = 0 from rfl, Nat.zero_mul] at lq
    simp -implicitDefEqProofs [-indexAddrP_some, lq, ia20, ia21, wn, CL_ret l1In_run, CH_at l1In_run, ix, iy, nb ne]
    exact ⟨0, by omega, on hI ⟨1, by omega, by simp; rfl, rfl⟩⟩
  · simp -implicitDefEqProofs [CL_ret l1In_run, inn]
theorem l4Good_one (k : One n x y) (E : Prs h ve [(x, y)]) : Ret P G n_spec_l4Good [.int .i64 n, ve] h (.bool true) h := by
  refine enter_run e_spec_l4Good (by simp) ?_
  have Es := E
  have r1 := l4Pairs_one k Es
  obtain ⟨ea, ec, rfl⟩ : ∃ a c, ve = .slice a 1 c := E.shapeT
  simp -implicitDefEqProofs [CL_ret r1]
  refine CL_post (l4Table_run k.n8 Es (by simp) k.ed) fun v h2 ⟨hp2, us, N⟩ => ?_
  have cl := (clo_ok k.ed).len
  have Ns := N
  obtain ⟨ta, tc, e⟩ := N.shape
  rw [cl] at e
  subst e
  simp -implicitDefEqProofs
  refine R_loopO (fun m s h' => ∃ i : Nat, i + m = n ∧ s = [(0, .int .i64 n), (5, .slice ta n tc), (6, .int .i64 i)] ∧ h' = h2) (fun I2 hI2 m2 s2 h3 => ?_) (n := n)
    ⟨0, Nat.zero_add _, by simp, rfl⟩
  rintro ⟨i, hi, rfl, rfl⟩
  have n8 := k.n8
  by_cases hlt : i < n
  · have hlt' : (i : Int) < n := by omega
    obtain ⟨ua, uc, hu, l1, l2, l3, l4⟩ := nest_cell Ns (clo_ok k.ed) (a := i) (b := i) hlt hlt
    rw [k.diag i] at l4
    simp -implicitDefEqProofs [-indexAddrP_some, hlt, hlt', l1, l2, l3, l4, winc hlt (by omega)]
    exact ⟨m2 - 1, by omega, on hI2 ⟨i + 1, by omega, rfl, rfl⟩⟩
  · have hlt' : ¬ (i : Int) < n := by omega
    simp -implicitDefEqProofs [hlt, hlt']
    exact gcP hp2 rfl
theorem isPreceded_one (k : One js.length x y) (J : Jobs h vj js) (jok : jOk js = true) (E : Prs h ve [(x, y)]) : Ret P G n_impl_isPreceded [vj, ve] h (.bool true) h := by
  refine enter_run e_impl_isPreceded (by simp) ?_
  have n8 := k.n8
  have r1 := isJobs_run J (by omega)
  have r2 := IsPrecedence_one k E
  rw [jok] at r1
  obtain ⟨oj, cj, rfl⟩ := J.shapeT
  obtain ⟨ea, ec, rfl⟩ : ∃ a c, ve = .slice a 1 c := E.shapeT
  simp -implicitDefEqProofs [CL_ret r1, CL_ret r2]
theorem l4Two_one (k : One js.length x y) (J : Jobs h vj js) (jok : jOk js = true) (E : Prs h ve [(x, y)]) : Ret P G n_spec_l4Two [vj, ve] h (.bool true) h := by
  refine enter_run e_spec_l4Two (by simp) ?_
  have n8 := k.n8
  have r1 := good_run J (by omega)
  have r2 := l4Good_one k E
  rw [jok] at r1
  obtain ⟨oj, cj, rfl⟩ := J.shapeT
  obtain ⟨ea, ec, rfl⟩ : ∃ a c, ve = .slice a 1 c := E.shapeT
  simp -implicitDefEqProofs [CL_ret r1, CL_ret r2]
end
end Go.Pm.PP
