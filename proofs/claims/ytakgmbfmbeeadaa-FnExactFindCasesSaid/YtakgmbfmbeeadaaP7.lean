/- The texts PlX, PlY, PlZ, PlQ, PlR, PlS, PlC, PlD, PlE, PlT of this work: The best order of jobs: the reference's search. -/
import Derived.Test.YtakgmbfmbeeadaaP6
/- The best order of jobs: the reference's search. -/
set_option linter.unusedVariables false
set_option linter.unusedSimpArgs false
set_option maxRecDepth 4000
set_option maxHeartbeats 8000000
namespace Go.Pm.PP
open Go.Pm Go.Proofs Go.Pm.PE
/-- What a search has found. -/
structure Sr where
  o : List Int
  v : Int
  c : Int
def valX (o : Int) (js : List Job) (xs : List Int) : Int := valE o js (endsL js xs)
def updS (f : List Int → Int) (b : Sr) (xs : List Int) : Sr := if b.c = 0 ∨ f xs < b.v then ⟨xs, f xs, 1⟩ else if f xs = b.v then ⟨b.o, b.v, w64 (b.c + 1)⟩ else b
theorem Sees.gcU {h0 h : Hp} {v u : Value} {sz : Nat} {els : List (List Value)} (s : Sees h v sz els) (hu : plain u = true → plainC v = true) : Sees (gc h0 h u) v sz els := by
  rcases gc_cases h0 h u with g | ⟨hp, g⟩ <;> rw [g]
  · exact s
  · have hv := hu hp
    obtain ⟨h1, oa, c, rfl, h3⟩ := s
    rcases h3 with ⟨rfl, rfl, rfl⟩ | ⟨r, o, x, rfl, _⟩
    · exact ⟨by simp, none, 0, rfl, .inl ⟨rfl, rfl, rfl⟩⟩
    · cases hv
/-- An order of all jobs. -/
structure Ord (n : Nat) (xs : List Int) : Prop where
  len : xs.length = n
  inn : inN n xs
  nd : xs.Nodup
theorem Ord.all {n : Nat} {xs : List Int} (o : Ord n xs) {i : Nat} (hi : i < n) : (i : Int) ∈ xs :=
  pigeon xs (upTo n) o.nd (fun x hx => mem_upTo.2 (o.inn x hx)) (by rw [upTo_len, o.len]; omega) i (mem_upTo.2 (by omega))
section
variable {h : Hp} {v u : Value} {js : List Job} {xs : List Int} {o : Int}
theorem l2Value_run (hj : Jobs h v js) (hu : Ints h u xs) (hg : goodL js = true) (hn : js.length ≤ 8) (ho : 1 ≤ o ∧ o ≤ 8) (hx : Ord js.length xs) : Ret P G n_spec_l2Value [v, u, .int .i64 o] h (.int .i64 (valX o js xs)) h := by
  refine enter_run e_spec_l2Value (by simp) ?_
  have hjs := hj
  obtain ⟨oj, cj, rfl⟩ := hj.shapeT
  simp -implicitDefEqProofs
  refine CL_post (l2Ends_run hjs hu hg hn (by rw [hx.len]; exact hn) hx.inn hx.nd fun i hi => hx.all hi) fun v1 h1 ⟨hp1, ho1, hb1⟩ => ?_
  have r := l2Of_run (o := o) (hjs.pre hp1) ho1.sees hg hn endsL_len (fun e he => by have := hb1 e he; omega) ho
  simp -implicitDefEqProofs [CL_ret r]
  exact ⟨rfl, gcP hp1 rfl⟩
theorem valueOf_run (hj : Jobs h v js) (hu : Ints h u xs) (hg : goodL js = true) (hn : js.length ≤ 8) (ho : 1 ≤ o ∧ o ≤ 8) (hx : Ord js.length xs) : Ret P G n_impl_valueOf [v, u, .int .i64 o] h (.int .i64 (valX o js xs)) h := by
  refine enter_run e_impl_valueOf (by simp) ?_
  have hjs := hj
  obtain ⟨oj, cj, rfl⟩ := hj.shapeT
  simp -implicitDefEqProofs
  refine CL_post (endsOf_run hjs hu hg hn (by rw [hx.len]; exact hn) hx.inn) fun v1 h1 ⟨hp1, ho1, hb1⟩ => ?_
  have r := valueOfEnds_run (o := o) (hjs.pre hp1) ho1.sees hg hn endsL_len (fun e he => by have := hb1 e he; omega) ho
  simp -implicitDefEqProofs [CL_ret r]
  exact ⟨rfl, gcP hp1 rfl⟩
end
abbrev sv3 (v : Value) (b : Sr) : Value := .agg #[v, .int .i64 b.v, .int .i64 b.c]
theorem plain3 {v : Value} {b : Sr} (hp : plain (sv3 v b) = true) : plainC v = true := by simpa [plain, plainC] using hp
theorem l2Try_run {js : List Job} {o : Int} (hg : goodL js = true) (hn : js.length ≤ 8) (ho : 1 ≤ o ∧ o ≤ 8) : ∀ {k : Nat} {h : Hp} {vj vb vo : Value} {begun : List Int} {b : Sr}, Jobs h vj js → Ints h vb begun → Ints h vo b.o → begun.length + k = js.length → inN js.length begun → begun.Nodup → b.o.length ≤ 8 →
    RunsC P G n_spec_l2Try [vj, vb, .int .i64 o, sv3 vo b] h fun v h' => h <+: h' ∧ (dfs (updS (valX o js)) js.length k begun b).o.length ≤ 8 ∧ ∃ vo', v = sv3 vo' (dfs (updS (valX o js)) js.length k begun b) ∧ Ints h' vo' (dfs (updS (valX o js)) js.length k begun b).o
  | 0, h, vj, vb, vo, begun, b, J, B, O, hk, hin, hnd, hol => by
    refine hideC fun K hK => enter_run e_spec_l2Try (by simp) ?_
    have Js := J
    have Bs := B
    have Os := O
    obtain ⟨oj, cj, rfl⟩ := J.shapeT
    obtain ⟨ob, cb, rfl⟩ : ∃ a c, vb = .slice a js.length c := by obtain ⟨a, c, e⟩ := B.shapeT; exact ⟨a, c, by rw [e]; congr 1⟩
    obtain ⟨od, cd, rfl⟩ := O.shapeT
    have hx : Ord js.length begun := ⟨by omega, hin, hnd⟩
    have hl : begun.length = js.length := hx.len
    have H0 := (Holds.start.alloc [.slice od b.o.length cd, .int .i64 b.v, .int .i64 b.c] (h := h)).alloc [.slice none 0 0, .int .i64 0, .int .i64 0]
    simp only [List.append_assoc, List.cons_append, List.nil_append, List.length_append, List.length_cons, List.length_nil, Nat.zero_add] at H0
    have rv := l2Value_run (o := o) (Js.pre H0.pre) (Bs.pre H0.pre) hg hn ho hx
    rw [dfs] at hK
    obtain ⟨V, hV⟩ : ∃ V, V = valX o js begun := ⟨_, rfl⟩
    rw [← hV] at rv
    by_cases c1 : b.c = 0 ∨ V < b.v
    · have e : updS (valX o js) b begun = ⟨begun, V, 1⟩ := by unfold updS; rw [← hV, if_pos c1]
      rw [e] at hK
      have rest : ∃ m, m = 0 := ⟨0, rfl⟩
      have fin : RunsC P G n_spec_l1Own [.slice ob js.length cb] (h ++ [some ⟨[.slice od b.o.length cd, .int .i64 b.v, .int .i64 b.c], 0, false⟩, some ⟨[.slice none 0 0, .int .i64 0, .int .i64 0], 0, false⟩]) fun v1 h1 => ∃ a n c h2, v1 = .slice a n c ∧ storeP P h1 t_spec_l2Search (sv3 (.slice a n c) ⟨begun, V, 1⟩) (.pointer (some ⟨h.length + 1, 0, some 3⟩)) = some h2 ∧
          loadP P h2 t_spec_l2Search (.pointer (some ⟨h.length + 1, 0, some 3⟩)) = some (sv3 (.slice a n c) ⟨begun, V, 1⟩) ∧ K (sv3 (.slice a n c) ⟨begun, V, 1⟩) (gc h h2 (sv3 (.slice a n c) ⟨begun, V, 1⟩)) := by
        refine RunsC.mono (l1Own_run (Bs.pre H0.pre) (by omega)) fun v1 h1 ⟨hp1, ho1⟩ => ?_
        have H1 := H0.call hp1 ho1
        obtain ⟨a, c, rfl⟩ := ho1.sees.shape
        obtain ⟨h2, s2, H2, _⟩ := H1.set (P := P) 1 (n := 3) (o := 0) (ty := t_spec_l2Search) (w := sv3 (.slice a _ c) ⟨begun, V, 1⟩) rfl rfl e_t_spec_l2Search (by simp) (by simp) (by simp)
        exact ⟨a, _, c, h2, rfl, s2, by simpa using H2.bl (P := P) 1 3 rfl rfl t_spec_l2Search 0, onK hK ⟨pre_gcU H2.pre, by rw [hl]; exact hn, _, rfl, Sees.gcU (H2.sees 2 rfl) plain3⟩⟩
      rcases Classical.em (b.c = 0) with c2 | c2
      · simp -implicitDefEqProofs [CL_ret rv, show (b.c == 0) = true by simpa using c2]
        refine CL_post fin fun v1 h1 ⟨a, n1, c, h2, ev, s2, l2, f2⟩ => ?_
        subst ev
        simp -implicitDefEqProofs [s2, l2]
        exact f2
      · have c3 : V < b.v := by rcases c1 with g | g; exact absurd g c2; exact g
        simp -implicitDefEqProofs [CL_ret rv, nb c2, c3]
        refine CL_post fin fun v1 h1 ⟨a, n1, c, h2, ev, s2, l2, f2⟩ => ?_
        subst ev
        simp -implicitDefEqProofs [s2, l2]
        exact f2
    · have c2 : ¬ b.c = 0 := fun g => c1 (.inl g)
      have c3 : ¬ V < b.v := fun g => c1 (.inr g)
      by_cases c4 : V = b.v
      · have e : updS (valX o js) b begun = ⟨b.o, b.v, w64 (b.c + 1)⟩ := by unfold updS; rw [← hV, if_neg c1, if_pos c4]
        rw [e] at hK
        obtain ⟨h1, s1, H1, k1⟩ := H0.set (P := P) 0 (n := 3) (o := 2) (ty := t_int) (w := .int .i64 (IntKind.i64.wrap (b.c + 1))) rfl rfl e_t_int (by simp) (by simp) (by simp)
        obtain ⟨h2, s2, H2, k2⟩ := H1.set (P := P) 1 (n := 3) (o := 0) (ty := t_spec_l2Search) (w := sv3 (.slice od b.o.length cd) ⟨b.o, b.v, w64 (b.c + 1)⟩) rfl rfl e_t_spec_l2Search (by simp) (by simp) (by simp)
        have s2' : storeP P h1 t_spec_l2Search (.agg #[.slice od b.o.length cd, .int .i64 b.v, .int .i64 (IntKind.i64.wrap (b.c + 1))]) (.pointer (some ⟨h.length + 1, 0, some 3⟩)) = some h2 := s2
        have l1 := H1.bl (P := P) 0 3 rfl rfl
        have l2 := H2.bl (P := P) 1 3 rfl rfl
        have l0 := H0.bl (P := P) 0 3 rfl rfl
        have c4' : (V == b.v) = true := by simpa using c4
        simp -implicitDefEqProofs [-storeP_app0, CL_ret rv, nb c2, c3, c4', s1, l1, s2', l2]
        exact onK hK ⟨pre_gcU H2.pre, hol, _, rfl, Sees.gcU (Os.pre H2.pre) plain3⟩
      · have e : updS (valX o js) b begun = b := by unfold updS; rw [← hV, if_neg c1, if_neg c4]
        rw [e] at hK
        obtain ⟨h2, s2, H2, k2⟩ := H0.set (P := P) 1 (n := 3) (o := 0) (ty := t_spec_l2Search) (w := sv3 (.slice od b.o.length cd) b) rfl rfl e_t_spec_l2Search (by simp) (by simp) (by simp)
        have l2 := H2.bl (P := P) 1 3 rfl rfl
        simp -implicitDefEqProofs [-storeP_app0, CL_ret rv, nb c2, c3, nb c4, s2, l2]
        exact onK hK ⟨pre_gcU H2.pre, hol, _, rfl, Sees.gcU (Os.pre H2.pre) plain3⟩
  | k + 1, h, vj, vb, vo, begun, b, J, B, O, hk, hin, hnd, hol => by
    refine hideC fun K hK => enter_run e_spec_l2Try (by simp) ?_
    have Js := J
    have Bs := B
    have Os := O
    obtain ⟨oj, cj, rfl⟩ := J.shapeT
    obtain ⟨ob, cb, rfl⟩ := B.shapeT
    obtain ⟨od, cd, rfl⟩ := O.shapeT
    have hne : ((begun.length : Int) == (js.length : Int)) = false := nb (by omega)
    have H0 := (Holds.start.alloc [.slice od b.o.length cd, .int .i64 b.v, .int .i64 b.c] (h := h)).alloc [.slice none 0 0, .int .i64 0, .int .i64 0]
    simp only [List.append_assoc, List.cons_append, List.nil_append, List.length_append, List.length_cons, List.length_nil, Nat.zero_add] at H0
    generalize hX : dfs (updS (valX o js)) js.length (k + 1) begun b = X at hK
    rw [dfs] at hX
    have hne' : ¬ begun.length = js.length := by omega
    simp -implicitDefEqProofs [hne, hne']
    refine R_loopO (fun m st h' => ∃ (i : Nat) (b' : Sr) (vo' : Value), i + m = js.length ∧ st = [(0, .slice oj js.length cj), (1, .slice ob begun.length cb), (2, .int .i64 o), (7, .pointer (some ⟨h.length, 0, some 3⟩)), (8, .pointer (some ⟨h.length + 1, 0, some 3⟩)), (10, .int .i64 i)] ∧
      X = (List.range' i m).foldl (fun b (j : Nat) => if begun.any (· == (j : Int)) = true then b else dfs (updS (valX o js)) js.length k (begun ++ [(j : Int)]) b) b' ∧ b'.o.length ≤ 8 ∧ Ints h' vo' b'.o ∧
      Holds h h' [.box h.length [vo', .int .i64 b'.v, .int .i64 b'.c], .box (h.length + 1) [.slice none 0 0, .int .i64 0, .int .i64 0]]) (fun I hI m st h' => ?_) (n := js.length)
      ⟨0, b, .slice od b.o.length cd, Nat.zero_add _, by simp, hX.symm, hol, Os.pre H0.pre, H0⟩
    rintro ⟨i, b', vo', hi, rfl, hx, hbl, O', H⟩
    have Ons := O'
    obtain ⟨oq, cn, rfl⟩ := O'.shapeT
    by_cases hlt : i < js.length
    · obtain ⟨m', rfl⟩ : ∃ m', m = m' + 1 := ⟨m - 1, by omega⟩
      rw [List.range'_succ, List.foldl_cons] at hx
      have rh := l1Has_run (x := (i : Int)) (Bs.pre H.pre) (by omega)
      have wi := winc hlt (show js.length ≤ 2 ^ 40 by omega)
      cases c1 : hasL (i : Int) begun
      · have hx' : X = (List.range' (i + 1) m').foldl (fun b (j : Nat) => if begun.any (· == (j : Int)) = true then b else dfs (updS (valX o js)) js.length k (begun ++ [(j : Int)]) b) (dfs (updS (valX o js)) js.length k (begun ++ [(i : Int)]) b') := by
          rw [hx, show begun.any (· == (i : Int)) = false from c1]; rfl
        have hni : (i : Int) ∉ begun := fun g => by rw [hasL_iff'.2 g] at c1; cases c1
        simp -implicitDefEqProofs [hlt, CL_ret rh, c1]
        refine CG_post (l1Own_run (Bs.pre H.pre) (by omega)).new fun v5 h5 ⟨⟨hp5, ho5⟩, hn5⟩ => ⟨hn5 hp5, ?_⟩
        have H5 : Holds h' h5 [.own v5 1 (begun.map encI)] := (Holds.start (h := h')).call hp5 ho5
        obtain ⟨v6, h6, ha6, H6, k6, _⟩ := push_I0 H5 0 rfl (i : Int) (by omega)
        have H6' : Holds h' h6 [.own v6 1 ((begun ++ [(i : Int)]).map encI)] := H6
        have n6 : NR h'.length (h5 ++ [some ⟨[.int .i64 (i : Int)], 1, false⟩]) := (hn5 hp5).nr.new [.int .i64 (i : Int)] 1
        have md := app_mod (b := h'.length) rfl n6 ha6 (hp5.trans (List.prefix_append ..)) H6'.pre
        have HH6 := H.ext H6'.pre
        have ih := l2Try_run hg hn ho (k := k) (Js.pre HH6.pre) (H6'.sees 0 rfl) (Ons.pre H6'.pre) (by simp; omega) (fun x hx => by
          rcases List.mem_append.1 hx with g | g
          · exact hin x g
          · rw [List.mem_singleton.1 g]; omega) (List.nodup_append.2 ⟨hnd, by simp, fun a ha c hc => by rw [List.mem_singleton.1 hc]; intro e; exact hni (e ▸ ha)⟩) hbl
        obtain ⟨d1, d2, d3, rfl⟩ : ∃ a n c, v5 = .slice a n c := by obtain ⟨a, c, e⟩ := ho5.sees.shape; exact ⟨_, _, _, e⟩
        obtain ⟨e1, e2, e3, rfl⟩ : ∃ a n c, v6 = .slice a n c := by obtain ⟨a, c, e⟩ := (H6'.sees 0 rfl).shape; exact ⟨_, _, _, e⟩
        simp -implicitDefEqProofs [ha6, md, HH6.bl 0 3 rfl rfl]
        refine CL_post ih fun v h7 ⟨hp7, hb7, vo7, ev7, O7⟩ => ?_
        subst ev7
        generalize dfs (updS (valX o js)) js.length k (begun ++ [(i : Int)]) b' = b7 at hx' hb7 O7
        have O7s := O7
        obtain ⟨f1, f2, rfl⟩ := O7.shapeT
        have H7 := HH6.ext hp7
        obtain ⟨h8, s8, H8, k8⟩ := H7.set (P := P) 0 (n := 3) (o := 0) (ty := t_spec_l2Search) (w := sv3 (.slice f1 b7.o.length f2) b7) rfl rfl e_t_spec_l2Search (by simp) (by simp) (by simp)
        have bx := H7.box 0 rfl
        simp -implicitDefEqProofs [s8, wi]
        exact ⟨m', by omega, on hI ⟨i + 1, b7, _, by omega, rfl, hx', hb7, Sees.boxK O7s (by omega) bx k8, by simpa using H8⟩⟩
      · have hx' : X = (List.range' (i + 1) m').foldl (fun b (j : Nat) => if begun.any (· == (j : Int)) = true then b else dfs (updS (valX o js)) js.length k (begun ++ [(j : Int)]) b) b' := by
          rw [hx, show begun.any (· == (i : Int)) = true from c1]; rfl
        simp -implicitDefEqProofs [hlt, CL_ret rh, c1, wi]
        exact ⟨m', by omega, on hI ⟨i + 1, b', _, by omega, rfl, hx', hbl, Ons, H⟩⟩
    · have hm : m = 0 := by omega
      subst hm
      rw [List.range'_zero, List.foldl_nil] at hx
      subst hx
      obtain ⟨h8, s8, H8, k8⟩ := H.set (P := P) 1 (n := 3) (o := 0) (ty := t_spec_l2Search) (w := sv3 (.slice oq X.o.length cn) X) rfl rfl e_t_spec_l2Search (by simp) (by simp) (by simp)
      have bx := H.box 1 rfl
      simp -implicitDefEqProofs [hlt, H.bl 0 3 rfl rfl, s8, H8.bl 1 3 rfl rfl]
      exact onK hK ⟨pre_gcU H8.pre, hbl, _, rfl, Sees.gcU (Sees.boxK Ons (by omega) bx k8) plain3⟩
end Go.Pm.PP

/- The best order of jobs: both. -/
set_option linter.unusedVariables false
set_option linter.unusedSimpArgs false
set_option maxRecDepth 4000
set_option maxHeartbeats 8000000
namespace Go.Pm.PE
theorem perms_perm : ∀ {n : Nat} {l p : List Int}, l.length = n → p ∈ perms l n → p.Perm l
  | 0, l, p, h, hp => by
    rw [List.eq_nil_of_length_eq_zero h]
    simp [perms] at hp
    rw [hp]
  | n + 1, l, p, h, hp => by
    rw [perms, List.mem_flatMap] at hp
    obtain ⟨i, hi, hp⟩ := hp
    have hi : i < l.length := by simpa [List.mem_range'_1] using hi
    obtain ⟨q, hq, rfl⟩ := List.mem_map.1 hp
    have h1 := perms_perm (by rw [List.length_eraseIdx_of_lt hi]; omega) hq
    obtain ⟨x, hx, hd⟩ := drop_at hi
    rw [hx, Option.getD_some]
    refine (List.Perm.cons x h1).trans ?_
    have e : l = l.take i ++ x :: l.drop (i + 1) := by conv => lhs; rw [← List.take_append_drop i l, hd]
    rw [List.eraseIdx_eq_take_drop_succ]
    conv => rhs; rw [e]
    exact List.perm_middle.symm
end Go.Pm.PE
namespace Go.Pm.PP
open Go.Pm Go.Proofs Go.Pm.PE
def ordsL (n : Nat) : List (List Int) := perms (upTo n) n
theorem up_rem {n : Nat} : rem n [] = upTo n := by rw [rem_nil, upTo, List.range_eq_range']
theorem up_asc {n : Nat} : (upTo n).Pairwise (· < ·) := by
  refine List.Pairwise.map _ (fun a b h => ?_) List.pairwise_lt_range
  omega
theorem ords_ord {n : Nat} {xs : List Int} (h : xs ∈ ordsL n) : Ord n xs := by
  have p := perms_perm (upTo_len n) h
  exact ⟨by rw [p.length_eq, upTo_len], fun x hx => mem_upTo.1 (p.mem_iff.1 hx), p.nodup_iff.2 (upTo_nodup n)⟩
def sr0 : Sr := ⟨[], 0, 0⟩
def bestR (f : List Int → Int) (n : Nat) : Sr := (ordsL n).foldl (updS f) sr0
theorem best_dfs {f : List Int → Int} {n : Nat} : dfs (updS f) n n [] sr0 = bestR f n := by
  rw [dfs_perms (by rw [up_rem, upTo_len]), up_rem]; rfl
def bestV (o : Int) (js : List Job) : Int := (bestR (valX o js) js.length).v
theorem l2All_run {h : Hp} {vj : Value} {js : List Job} {o : Int} (J : Jobs h vj js) (hg : goodL js = true) (hn : js.length ≤ 8) (ho : 1 ≤ o ∧ o ≤ 8) : RunsC P G n_spec_l2All [vj, .int .i64 o] h fun v h' => h <+: h' ∧ ∃ vo n c a, v = sv3 (.slice vo n a) ⟨[], bestV o js, c⟩ := by
  refine hideC fun K hK => enter_run e_spec_l2All (by simp) ?_
  have Js := J
  obtain ⟨oj, cj, rfl⟩ := J.shapeT
  have H0 := Holds.start.alloc [.slice none 0 0, .int .i64 0, .int .i64 0] (h := h)
  have N0 : Ints (h ++ [some ⟨[.slice none 0 0, .int .i64 0, .int .i64 0], 0, false⟩]) (.slice none 0 0) ([] : List Int) := ⟨by simp, none, 0, rfl, .inl ⟨rfl, rfl, rfl⟩⟩
  have r := l2Try_run hg hn ho (k := js.length) (b := sr0) (Js.pre H0.pre) N0 N0 (by simp) (fun x hx => by cases hx) List.nodup_nil (by simp [sr0])
  simp -implicitDefEqProofs
  refine CL_post r fun v h1 ⟨hp1, hb1, vo, ev, O1⟩ => ?_
  subst ev
  rw [best_dfs] at O1 hb1
  obtain ⟨a, c, rfl⟩ := O1.shapeT
  have H1 := H0.ext hp1
  obtain ⟨h2, s2, H2, k2⟩ := H1.set (P := P) 0 (n := 3) (o := 0) (ty := t_spec_l2Search) (w := sv3 (.slice a (bestR (valX o js) js.length).o.length c) (bestR (valX o js) js.length)) rfl rfl e_t_spec_l2Search (by simp) (by simp) (by simp)
  rw [best_dfs]
  simp -implicitDefEqProofs [s2, H2.bl 0 3 rfl rfl]
  exact onK hK ⟨pre_gcU H2.pre, a, _, (bestR (valX o js) js.length).c, c, rfl⟩
theorem l2Best_run {h : Hp} {vj : Value} {js : List Job} {o : Int} (J : Jobs h vj js) (hg : goodL js = true) (hn : js.length ≤ 8) (ho : 1 ≤ o ∧ o ≤ 8) : RunsC P G n_spec_l2Best [vj, .int .i64 o] h fun v h' => h <+: h' ∧ ∃ vo, v = .tuple #[vo, .int .i64 (bestV o js)] := by
  refine hideC fun K hK => enter_run e_spec_l2Best (by simp) ?_
  have Js := J
  obtain ⟨oj, cj, rfl⟩ := J.shapeT
  simp -implicitDefEqProofs
  refine CL_post (l2All_run Js hg hn ho) fun v h1 ⟨hp1, vo, n, c, a, ev⟩ => ?_
  subst ev
  simp -implicitDefEqProofs
  exact onK hK ⟨pre_gcU (hp1.trans (List.prefix_append ..)), _, rfl⟩
/-! ### all orders by the program -/
theorem numbersTo_run {h : Hp} {n : Nat} (hn : n ≤ 2 ^ 30) : RunsC P G n_impl_numbersTo [.int .i64 n] h fun v h' => h <+: h' ∧ Own h.length h' v 1 ((upTo n).map encI) := by
  refine hideC fun K hK => enter_run e_impl_numbersTo (by simp) ?_
  have H0 := own_nil (Holds.start (h := h)) Int encI 1
  simp -implicitDefEqProofs
  refine R_loopO (fun m s h' => ∃ (i : Nat) (u : Value), i + m = n ∧ s = [(0, .int .i64 n), (3, u), (4, .int .i64 i)] ∧ Holds h h' [.own u 1 ((upTo i).map encI)]) (fun I hI m s h' => ?_) (n := n) ⟨0, _, Nat.zero_add _, by simp; rfl, by simpa [upTo] using H0⟩
  rintro ⟨i, u, hi, rfl, H⟩
  by_cases hlt : i < n
  · have hlt' : (i : Int) < n := by omega
    obtain ⟨v', h2, ha, H2, _⟩ := push_I0 H 0 rfl (i : Int) (by rw [upTo_len]; omega)
    simp -implicitDefEqProofs [hlt, hlt', ha, winc hlt (by omega)]
    refine ⟨m - 1, by omega, on hI ⟨i + 1, v', by omega, rfl, ?_⟩⟩
    have e : upTo (i + 1) = upTo i ++ [(i : Int)] := by simp [upTo, List.range_succ]
    rw [e]
    exact H2
  · have hlt' : ¬ (i : Int) < n := by omega
    have e : i = n := by omega
    subst e
    simp -implicitDefEqProofs [hlt']
    exact onK hK (H.ret 0 rfl)
theorem eachOrder_run {hb : Hp} {g : FuncId} {c : Array Value} {n : Nat} (hn : n ≤ 8) {Q : Nat → List Asn → Prop} {R : List (Option Nat)}
    (tell : ∀ i xs h BX vg, Q i BX → (ordsL n)[i]? = some xs → BX.map Asn.row = R → Holds hb h (BX ++ [.own vg 1 (xs.map encI)]) → RunsC P G g (vg :: c.toList) h fun v h' => ∃ BX', Q (i + 1) BX' ∧ BX'.map Asn.row = R ∧ ∀ L, Holds hb h (BX ++ L) → Holds hb h' (BX' ++ L))
    {h : Hp} {BX : List Asn} (hQ : Q 0 BX) (hR : BX.map Asn.row = R) (HB : Holds hb h (BX ++ [])) :
    RunsC P G n_impl_eachOrder [.int .i64 n, .func (.func g) #[] c] h fun v h' => ∃ BX', Q (ordsL n).length BX' ∧ BX'.map Asn.row = R ∧ ∀ L, Holds hb h (BX ++ L) → Holds hb h' (BX' ++ L) := by
  refine hideC fun K hK => enter_run e_impl_eachOrder (by simp) ?_
  obtain ⟨pm1, pm2, pm3⟩ := perms_main (upTo_len n) up_asc
  simp -implicitDefEqProofs
  refine CL_post (numbersTo_run (by omega)) fun v0 h0 ⟨hp0, ho0⟩ => ?_
  obtain ⟨o0, n0, c0, rfl⟩ : ∃ a n c, v0 = .slice a n c := by obtain ⟨a, c, e⟩ := ho0.sees.shape; exact ⟨_, _, _, e⟩
  have first : ∀ L, Holds hb h (BX ++ L) → Holds hb h0 (BX ++ ([.own (.slice o0 n0 c0) 1 ((upTo n).map encI)] ++ L)) := fun L HL => by
    have := Holds.joinT (L := BX) (T := L) (A := [.own (.slice o0 n0 c0) 1 ((upTo n).map encI)]) (M := []) HL ((Holds.start (h := h)).call hp0 ho0)
    simpa [List.append_assoc] using this
  simp -implicitDefEqProofs
  refine R_loopO (fun m st hk => ∃ (i : Nat) (xs : List Int) (BXk : List Asn), (ordsL n)[i]? = some xs ∧ i + m = (ordsL n).length ∧ st = [(1, .func (.func g) #[] c), (4, .slice o0 n0 c0)] ∧ Q i BXk ∧ BXk.map Asn.row = R ∧
    (∀ L, Holds hb h (BX ++ L) → Holds hb hk (BXk ++ ([.own (.slice o0 n0 c0) 1 (xs.map encI)] ++ L)))) (fun I hI m st hk => ?_) (n := (ordsL n).length)
    ⟨0, upTo n, BX, pm1, Nat.zero_add _, by simp, hQ, hR, first⟩
  rintro ⟨i, xs, BXk, hxs, him, rfl, hQk, hRk, I1⟩
  have ox := ords_ord (List.mem_of_getElem? hxs)
  have hil := (List.getElem?_eq_some_iff.1 hxs).1
  have HA : Holds hb hk (BXk ++ [.own (.slice o0 n0 c0) 1 (xs.map encI)]) := by simpa using I1 [] HB
  simp -implicitDefEqProofs
  refine CL_post (tell i xs hk BXk _ hQk hxs hRk HA) fun v h2 ⟨BX', hQ', hR', F2⟩ => ?_
  have H2 := F2 _ HA
  have H2o := H2.one BX'.length (A := .own (.slice o0 n0 c0) 1 (xs.map encI)) (by rw [List.getElem?_append_right (Nat.le_refl _), Nat.sub_self]; rfl)
  simp -implicitDefEqProofs
  refine CL_post (nextOrder_run H2o (by rw [ox.len]; omega) ox.nd) fun r h3 ⟨er, ow3, k3⟩ => ?_
  subst er
  have J1 : ∀ L, Holds hb h (BX ++ L) → Holds hb h3 (BX' ++ ([.own (.slice o0 n0 c0) 1 (((nextP xs).getD xs).map encI)] ++ L)) := fun L HL => by
    have h1 := F2 _ (I1 L HL)
    have h2 := h1.upd (i := BX'.length) (A := .own (.slice o0 n0 c0) 1 (xs.map encI)) (B := .own (.slice o0 n0 c0) 1 (((nextP xs).getD xs).map encI)) (by rw [List.getElem?_append_right (Nat.le_refl _), Nat.sub_self]; rfl) k3 ow3 fun r hr => .inl hr
    rw [List.set_append_right (h := Nat.le_refl _), Nat.sub_self] at h2
    exact h2
  cases hnx : nextP xs with
  | some xs' =>
    rw [hnx] at J1
    have hi1 : (ordsL n)[i + 1]? = some xs' := by rw [← hnx]; exact (pm2 i xs hxs).symm
    simp -implicitDefEqProofs
    exact ⟨m - 1, by omega, on hI ⟨i + 1, xs', BX', hi1, by omega, rfl, hQ', hR', J1⟩⟩
  | none =>
    rw [hnx] at J1
    have hi1 : (ordsL n)[i + 1]? = none := by rw [← hnx]; exact (pm2 i xs hxs).symm
    have hlen : (ordsL n).length = i + 1 := by have := List.getElem?_eq_none_iff.1 hi1; omega
    simp -implicitDefEqProofs
    rw [hlen] at hK
    refine onK hK ⟨BX', hQ', hR', fun L HL => ?_⟩
    have h1 := J1 L HL
    have h2 : Holds hb h3 (BX' ++ L) := by
      refine Holds.weak (T := [.own (.slice o0 n0 c0) 1 (xs.map encI)]) (h1.perm ?_)
      rw [List.append_assoc]
      exact List.Perm.append_left BX' List.perm_append_comm
    exact HL.gcR h2 (by rw [List.map_append, List.map_append, hR, hR'])
theorem load_pre {hb h' : Hp} {r n : Nat} {cs : List Value} (hp : hb <+: h') (hr : hb[r]? = some (some ⟨cs, 0, false⟩)) (hn : cs.length = n) (t : TypeId) : loadP P h' t (.pointer (some ⟨r, 0, some n⟩)) = rowLoad P t ⟨cs, 0, false⟩ 0 := by
  have h5 : h'[r]? = some (some ⟨cs, 0, false⟩) := by
    obtain ⟨l, rfl⟩ := hp
    rw [List.getElem?_append_left (List.getElem?_eq_some_iff.1 hr).1]; exact hr
  rw [loadP_eq]
  simp only [rowAt, h5, hn, if_true, Option.bind_some]
def bx3 (p q r : Nat) (vf : Value) (b : Sr) : List Asn := [.box p [vf], .box q [.int .i64 b.v], .box r [.int .i64 b.c]]
/-- The program's look at an order. -/
theorem tell1_run {hb h : Hp} {p q r rj ro : Nat} {vj vf vg : Value} {js : List Job} {o : Int} {xs : List Int} {b : Sr} (J : Jobs hb vj js) (bj : hb[rj]? = some (some ⟨[vj], 0, false⟩)) (bo : hb[ro]? = some (some ⟨[.int .i64 o], 0, false⟩))
    (hg : goodL js = true) (hn : js.length ≤ 8) (ho : 1 ≤ o ∧ o ≤ 8) (hx : Ord js.length xs) (hvf : ∃ a n c, vf = .slice a n c) (H : Holds hb h (bx3 p q r vf b ++ [.own vg 1 (xs.map encI)])) :
    RunsC P G n_impl_best_1 [vg, .pointer (some ⟨rj, 0, some 1⟩), .pointer (some ⟨ro, 0, some 1⟩), .pointer (some ⟨r, 0, some 1⟩), .pointer (some ⟨q, 0, some 1⟩), .pointer (some ⟨p, 0, some 1⟩)] h fun v h' =>
      ∃ vf', (∃ a n c, vf' = .slice a n c) ∧ ∀ L, Holds hb h (bx3 p q r vf b ++ L) → Holds hb h' (bx3 p q r vf' (updS (valX o js) b xs) ++ L) := by
  refine hideC fun K hK => enter_run e_impl_best_1 (by simp) ?_
  obtain ⟨f1, f2, f3, rfl⟩ := hvf
  have Js := J
  obtain ⟨oj, cj, rfl⟩ := J.shapeT
  have Sg : Ints h vg xs := H.sees 3 rfl
  have lj := load_pre H.pre bj (n := 1) rfl
  have lo := load_pre H.pre bo (n := 1) rfl
  have rv := valueOf_run (o := o) (Js.pre H.pre) Sg hg hn ho hx
  obtain ⟨V, hV⟩ : ∃ V, V = valX o js xs := ⟨_, rfl⟩
  rw [← hV] at rv
  have lq := H.bl (P := P) 1 1 rfl rfl
  have lr := H.bl (P := P) 2 1 rfl rfl
  by_cases c1 : b.c = 0 ∨ V < b.v
  · have e : updS (valX o js) b xs = ⟨xs, V, 1⟩ := by unfold updS; rw [← hV, if_pos c1]
    rw [e] at hK
    have fin : RunsC P G n_impl_copyInts [vg] h fun v1 h1 => ∃ a n c h2 h3 h4, v1 = .slice a n c ∧ storeP P h1 t_S_int (.slice a n c) (.pointer (some ⟨p, 0, some 1⟩)) = some h2 ∧ storeP P h2 t_int (.int .i64 V) (.pointer (some ⟨q, 0, some 1⟩)) = some h3 ∧
        storeP P h3 t_int (.int .i64 1) (.pointer (some ⟨r, 0, some 1⟩)) = some h4 ∧ ∀ u, K u (gc h h4 u) := by
      refine RunsC.mono (copyInts_run Sg (by rw [hx.len]; omega)) fun v1 h1 ⟨hp1, ho1⟩ => ?_
      obtain ⟨a, c, rfl⟩ := ho1.sees.shapeT
      obtain ⟨h2, s2, H2, _⟩ := (H.ext hp1).set (P := P) 0 (n := 1) (o := 0) (ty := t_S_int) (w := .slice a xs.length c) rfl rfl e_t_S_int (by simp) (by simp) (by simp)
      obtain ⟨h3, s3, H3, _⟩ := H2.set (P := P) 1 (n := 1) (o := 0) (ty := t_int) (w := .int .i64 V) rfl rfl e_t_int (by simp) (by simp) (by simp)
      obtain ⟨h4, s4, H4, _⟩ := H3.set (P := P) 2 (n := 1) (o := 0) (ty := t_int) (w := .int .i64 1) rfl rfl e_t_int (by simp) (by simp) (by simp)
      refine ⟨a, xs.length, c, h2, h3, h4, rfl, s2, s3, s4, fun u => onK hK ⟨_, ⟨a, xs.length, c, rfl⟩, fun L HL => ?_⟩⟩
      obtain ⟨h2', s2', H2', _⟩ := (HL.ext hp1).set (P := P) 0 (n := 1) (o := 0) (ty := t_S_int) (w := .slice a xs.length c) rfl rfl e_t_S_int (by simp) (by simp) (by simp)
      rw [s2] at s2'; cases s2'
      obtain ⟨h3', s3', H3', _⟩ := H2'.set (P := P) 1 (n := 1) (o := 0) (ty := t_int) (w := .int .i64 V) rfl rfl e_t_int (by simp) (by simp) (by simp)
      rw [s3] at s3'; cases s3'
      obtain ⟨h4', s4', H4', _⟩ := H3'.set (P := P) 2 (n := 1) (o := 0) (ty := t_int) (w := .int .i64 1) rfl rfl e_t_int (by simp) (by simp) (by simp)
      rw [s4] at s4'; cases s4'
      exact HL.gcR (L' := bx3 p q r (.slice a xs.length c) ⟨xs, V, 1⟩ ++ L) H4' rfl
    rcases Classical.em (b.c = 0) with c2 | c2
    · simp -implicitDefEqProofs [lj, lo, CL_ret rv, lr, lq, show (b.c == 0) = true by simpa using c2]
      refine CL_post fin fun v1 h1 ⟨a, n1, c, h2, h3, h4, ev, s2, s3, s4, f2⟩ => ?_
      subst ev
      simp -implicitDefEqProofs [s2, s3, s4]
      exact f2 _
    · have c3 : V < b.v := by rcases c1 with g | g; exact absurd g c2; exact g
      simp -implicitDefEqProofs [lj, lo, CL_ret rv, lr, lq, nb c2, c3]
      refine CL_post fin fun v1 h1 ⟨a, n1, c, h2, h3, h4, ev, s2, s3, s4, f2⟩ => ?_
      subst ev
      simp -implicitDefEqProofs [s2, s3, s4]
      exact f2 _
  · have c2 : ¬ b.c = 0 := fun g => c1 (.inl g)
    have c3 : ¬ V < b.v := fun g => c1 (.inr g)
    by_cases c4 : V = b.v
    · have e : updS (valX o js) b xs = ⟨b.o, b.v, w64 (b.c + 1)⟩ := by unfold updS; rw [← hV, if_neg c1, if_pos c4]
      rw [e] at hK
      obtain ⟨h4, s4, H4, _⟩ := H.set (P := P) 2 (n := 1) (o := 0) (ty := t_int) (w := .int .i64 (IntKind.i64.wrap (b.c + 1))) rfl rfl e_t_int (by simp) (by simp) (by simp)
      have c4' : (V == b.v) = true := by simpa using c4
      simp -implicitDefEqProofs [lj, lo, CL_ret rv, lr, lq, nb c2, c3, c4', s4]
      refine onK hK ⟨_, ⟨f1, f2, f3, rfl⟩, fun L HL => ?_⟩
      obtain ⟨h4', s4', H4', _⟩ := HL.set (P := P) 2 (n := 1) (o := 0) (ty := t_int) (w := .int .i64 (IntKind.i64.wrap (b.c + 1))) rfl rfl e_t_int (by simp) (by simp) (by simp)
      rw [s4] at s4'; cases s4'
      exact HL.gcR (L' := bx3 p q r (.slice f1 f2 f3) ⟨b.o, b.v, w64 (b.c + 1)⟩ ++ L) H4' rfl
    · have e : updS (valX o js) b xs = b := by unfold updS; rw [← hV, if_neg c1, if_neg c4]
      rw [e] at hK
      simp -implicitDefEqProofs [lj, lo, CL_ret rv, lr, lq, nb c2, c3, nb c4]
      exact onK hK ⟨_, ⟨f1, f2, f3, rfl⟩, fun L HL => HL⟩
theorem best_run {h : Hp} {vj : Value} {js : List Job} {o : Int} (J : Jobs h vj js) (hg : goodL js = true) (hn : js.length ≤ 8) (ho : 1 ≤ o ∧ o ≤ 8) : RunsC P G n_impl_best [vj, .int .i64 o] h fun v h' => h <+: h' ∧ ∃ vf c, v = .tuple #[vf, .int .i64 (bestV o js), .int .i64 c] := by
  refine hideC fun K hK => enter_run e_impl_best (by simp) ?_
  have Js := J
  obtain ⟨oj, cj, rfl⟩ := J.shapeT
  have H0 := (Holds.start.alloc [.slice oj js.length cj] (h := h)).alloc [.int .i64 o]
  simp only [List.append_assoc, List.cons_append, List.nil_append, List.length_append, List.length_cons, List.length_nil, Nat.zero_add] at H0
  generalize hHb : h ++ [some ⟨[.slice oj js.length cj], 0, false⟩, some ⟨[.int .i64 o], 0, false⟩] = hb at H0
  have hbl : hb.length = h.length + 1 + 1 := by rw [← hHb]; simp
  have E0 := ((Holds.start.alloc [.slice none 0 0] (h := hb)).alloc [.int .i64 0]).alloc [.int .i64 0]
  simp only [List.append_assoc, List.cons_append, List.nil_append, List.length_append, List.length_cons, List.length_nil, Nat.zero_add] at E0
  have E : Holds hb (hb ++ [some ⟨[.slice none 0 0], 0, false⟩, some ⟨[.int .i64 0], 0, false⟩, some ⟨[.int .i64 0], 0, false⟩]) (bx3 hb.length (hb.length + 1) (hb.length + 1 + 1) (.slice none 0 0) sr0 ++ []) := E0
  have er := eachOrder_run (hb := hb) (g := n_impl_best_1) (c := #[.pointer (some ⟨h.length, 0, some 1⟩), .pointer (some ⟨h.length + 1, 0, some 1⟩), .pointer (some ⟨hb.length + 1 + 1, 0, some 1⟩), .pointer (some ⟨hb.length + 1, 0, some 1⟩), .pointer (some ⟨hb.length, 0, some 1⟩)]) hn
    (Q := fun i BX => ∃ vf, (∃ a n c, vf = .slice a n c) ∧ BX = bx3 hb.length (hb.length + 1) (hb.length + 1 + 1) vf (((ordsL js.length).take i).foldl (updS (valX o js)) sr0)) (R := [some hb.length, some (hb.length + 1), some (hb.length + 1 + 1)])
    (fun i xs h BX vg ⟨vf, hvf, eBX⟩ hxs hR HB => by
      subst eBX
      refine RunsC.mono (tell1_run (Js.pre H0.pre) (H0.box 0 rfl) (H0.box 1 rfl) hg hn ho (ords_ord (List.mem_of_getElem? hxs)) hvf HB) fun v h' ⟨vf', hvf', F⟩ => ?_
      refine ⟨_, ⟨vf', hvf', rfl⟩, rfl, fun L HL => ?_⟩
      have := F L HL
      rw [take_succ' hxs, List.foldl_append, List.foldl_cons, List.foldl_nil]
      exact this) ⟨_, ⟨none, 0, 0, rfl⟩, rfl⟩ rfl E
  have hcount : hb ++ [some ⟨[.slice none 0 0], 0, false⟩, some ⟨[.int .i64 0], 0, false⟩, some ⟨[.int .i64 0], 0, false⟩] = h ++ [some ⟨[.slice oj js.length cj], 0, false⟩, some ⟨[.int .i64 o], 0, false⟩, some ⟨[.slice none 0 0], 0, false⟩, some ⟨[.int .i64 0], 0, false⟩, some ⟨[.int .i64 0], 0, false⟩] := by rw [← hHb]; simp
  rw [hcount, hbl] at er
  rw [hcount] at E
  simp -implicitDefEqProofs
  refine CL_post er fun v h4 ⟨BX', ⟨vf, ⟨a, n, c, evf⟩, eBX⟩, hR, F⟩ => ?_
  subst evf
  subst eBX
  have H4 := F [] (by rw [← hbl]; exact E)
  rw [List.take_length] at H4
  have l0 := H4.bl (P := P) 0 1 rfl rfl
  have l1 := H4.bl (P := P) 1 1 rfl rfl
  have l2 := H4.bl (P := P) 2 1 rfl rfl
  simp only [Nat.add_assoc, Nat.reduceAdd] at l0 l1 l2
  simp -implicitDefEqProofs [l0, l1, l2]
  exact onK hK ⟨pre_gcU (H0.pre.trans H4.pre), _, _, rfl⟩
end Go.Pm.PP

/- Scenarios: values and regrets, by both. -/
set_option linter.unusedVariables false
set_option linter.unusedSimpArgs false
set_option maxRecDepth 4000
set_option maxHeartbeats 8000000
namespace Go.Pm.PP
open Go.Pm Go.Proofs Go.Pm.PE
/-! ### bounds -/
theorem val_bd {o : Int} : ∀ {js : List Job} {es : List Int} {f : Bool} {a B : Int}, goodL js = true → (∀ e, e ∈ es → 0 ≤ e ∧ e ≤ 2 ^ 20) → -B ≤ a → a ≤ B → 0 ≤ B → -(B + js.length * 2 ^ 27) ≤ valGo o f a js es ∧ valGo o f a js es ≤ B + js.length * 2 ^ 27
  | [], es, f, a, B, _, _, h1, h2, _ => by simp [valGo]; omega
  | j :: js, [], f, a, B, _, _, h1, h2, hB => by simp only [valGo, List.length_cons]; omega
  | j :: js, e :: es, f, a, B, hg, he, h1, h2, hB => by
    rw [goodL_cons, Bool.and_eq_true] at hg
    have e1 := he e (List.mem_cons_self ..)
    have s := step_bd (o := o) (f := f) hg.1 e1.1 e1.2 ⟨h1, h2⟩ hB
    have := @val_bd o js es false (stepV o f a j e) (B + 2 ^ 27) hg.2 (fun x hx => he x (List.mem_cons_of_mem _ hx)) s.1 s.2 (by omega)
    rw [valGo, List.length_cons]
    omega
theorem endGo_bd {js : List Job} (hg : goodL js = true) : ∀ {xs : List Int} {now : Int} {E : List Int} {k : Nat}, inN js.length xs → 0 ≤ now → now ≤ 550 * k → (∀ e, e ∈ E → 0 ≤ e ∧ e ≤ 550 * (k + xs.length : Nat)) → ∀ e, e ∈ endGo js xs now E → 0 ≤ e ∧ e ≤ 550 * (k + xs.length : Nat)
  | [], now, E, k, _, _, _, hE, e, he => hE e he
  | x :: r, now, E, k, hin, h0, h1, hE, e, he => by
    obtain ⟨i, hi, hil, hy⟩ := jA_get rfl (hin x (List.mem_cons_self ..))
    have jb := job_of (job_at hg hy)
    rw [endGo] at he
    have := endGo_bd hg (xs := r) (now := max now (jA js x).r + (jA js x).t) (k := k + 1) (fun y hy => hin y (List.mem_cons_of_mem _ hy)) (by omega) (by omega) (fun e he => by
      rcases List.mem_or_eq_of_mem_set he with g | g
      · have := hE e g
        simp only [List.length_cons] at this
        omega
      · omega) e he
    simp only [List.length_cons]
    omega
theorem valX_bd {o : Int} {js : List Job} {xs : List Int} (hg : goodL js = true) (hn : js.length ≤ 8) (hx : Ord js.length xs) : -(2 ^ 30) ≤ valX o js xs ∧ valX o js xs ≤ 2 ^ 30 := by
  have := @val_bd o js (endsL js xs) true 0 0 hg (fun e he => by
    have := endGo_bd hg (k := 0) hx.inn (Int.le_refl 0) (by omega) (fun e he => by rw [List.eq_of_mem_replicate he]; omega) e he
    have := hx.len
    omega) (by omega) (by omega) (by omega)
  unfold valX valE
  omega
theorem fold_bd {f : List Int → Int} {B : Int} {upd : Sr → List Int → Sr} (hu : ∀ b xs, (upd b xs).v = f xs ∨ (upd b xs).v = b.v) : ∀ {l : List (List Int)} {b : Sr}, (∀ xs, xs ∈ l → -B ≤ f xs ∧ f xs ≤ B) → -B ≤ b.v → b.v ≤ B → -B ≤ (l.foldl upd b).v ∧ (l.foldl upd b).v ≤ B
  | [], b, _, h1, h2 => ⟨h1, h2⟩
  | x :: l, b, h, h1, h2 => by
    have hx := h x (List.mem_cons_self ..)
    refine fold_bd hu (l := l) (fun y hy => h y (List.mem_cons_of_mem _ hy)) ?_ ?_ <;> rcases hu b x with g | g <;> rw [g] <;> omega
theorem bestV_bd {o : Int} {js : List Job} (hg : goodL js = true) (hn : js.length ≤ 8) : -(2 ^ 30) ≤ bestV o js ∧ bestV o js ≤ 2 ^ 30 := by
  refine fold_bd (f := valX o js) (fun b xs => ?_) (fun xs hx => valX_bd hg hn (ords_ord hx)) (by simp [sr0]) (by simp [sr0])
  unfold updS
  split
  · exact .inl rfl
  · split
    · exact .inr rfl
    · exact .inr rfl
/-! ### scenarios -/
structure Sc (h : Hp) (v : Value) (xss : List (List Job)) (n : Nat) : Prop where
  N : ∃ vs, Nest h v encJ 4 xss vs
  g : ∀ js, js ∈ xss → goodL js = true ∧ js.length = n
  n8 : n ≤ 8
  l1 : 1 ≤ xss.length
  l4 : xss.length ≤ 4
theorem Sc.pre {h h' : Hp} {v : Value} {xss : List (List Job)} {n : Nat} (S : Sc h v xss n) (hp : h <+: h') : Sc h' v xss n := ⟨by obtain ⟨vs, N⟩ := S.N; exact ⟨vs, N.pre hp⟩, S.g, S.n8, S.l1, S.l4⟩
theorem Sc.at {h : Hp} {v : Value} {xss : List (List Job)} {n i : Nat} {js : List Job} (S : Sc h v xss n) (hx : xss[i]? = some js) :
    ∃ u, (indexAddrP P h t_S_S_impl_Job v (.int .i64 i) = some (.pointer (some (addP (base v) i))) ∧ loadP P h t_S_impl_Job (.pointer (some (addP (base v) i))) = some u) ∧ Jobs h u js := by
  obtain ⟨vs, N⟩ := S.N
  obtain ⟨u, hu, ho⟩ := N.at hx
  have := load_NJ N.out hu
  exact ⟨u, ⟨this.1, this.2⟩, ho⟩
theorem Sc.first {h : Hp} {v : Value} {xss : List (List Job)} {n : Nat} (S : Sc h v xss n) :
    ∃ a c, indexAddrP P h t_S_S_impl_Job v (.int .i64 0) = some (.pointer (some (addP (base v) 0))) ∧ loadP P h t_S_impl_Job (.pointer (some (addP (base v) 0))) = some (.slice a n c) := by
  obtain ⟨js, hj, _⟩ := drop_at (show 0 < xss.length from S.l1)
  obtain ⟨u, ⟨h1, h2⟩, ho⟩ := S.at hj
  obtain ⟨a, c, rfl⟩ := ho.shapeT
  rw [(S.g js (List.mem_of_getElem? hj)).2] at h2
  exact ⟨a, c, h1, h2⟩
theorem Sc.shape {h : Hp} {v : Value} {xss : List (List Job)} {n : Nat} (S : Sc h v xss n) : ∃ a c, v = .slice a xss.length c := by obtain ⟨vs, N⟩ := S.N; exact N.shape
def valsL (o : Int) (xss : List (List Job)) (xs : List Int) : List Int := xss.map fun js => valX o js xs
def bestsL (o : Int) (xss : List (List Job)) : List Int := xss.map (bestV o)
section
variable {h : Hp} {vl vo : Value} {xss : List (List Job)} {xs : List Int} {n : Nat} {o : Int}
theorem l11Values_run (S : Sc h vl xss n) (hu : Ints h vo xs) (hx : Ord n xs) (ho : 1 ≤ o ∧ o ≤ 8) : RunsC P G n_spec_l11Values [vl, vo, .int .i64 o] h fun v h' => h <+: h' ∧ Own h.length h' v 1 ((valsL o xss xs).map encI) := by
  refine hideC fun K hK => enter_run e_spec_l11Values (by simp) ?_
  have Ss := S
  have hus := hu
  obtain ⟨ol, cl, rfl⟩ := S.shape
  obtain ⟨oa, c, rfl⟩ := hu.shapeT
  have l4 := S.l4
  have H0 := own_nil (Holds.start (h := h)) Int encI 1
  simp -implicitDefEqProofs
  refine R_loopO (fun m s h' => ∃ (i : Nat) (u : Value), i + m = xss.length ∧ s = [(0, .slice ol xss.length cl), (1, .slice oa xs.length c), (2, .int .i64 o), (7, u), (8, .int .i64 i)] ∧ Holds h h' [.own u 1 ((valsL o (xss.take i) xs).map encI)]) (fun I hI m s h' => ?_) (n := xss.length) ⟨0, .slice none 0 0, Nat.zero_add _, by simp, by simpa [valsL] using H0⟩
  rintro ⟨i, u, hi, rfl, H⟩
  by_cases hlt : i < xss.length
  · obtain ⟨js, hj, _⟩ := drop_at hlt
    obtain ⟨uj, lj, Jj⟩ := (Ss.pre H.pre).at hj
    have gj := Ss.g js (List.mem_of_getElem? hj)
    have rv := l2Value_run (o := o) Jj (hus.pre H.pre) gj.1 (by rw [gj.2]; exact Ss.n8) ho (by rw [gj.2]; exact hx)
    obtain ⟨v', h2, ha, H2, _⟩ := push_I0 H 0 rfl (valX o js xs) (by simp [valsL]; omega)
    simp -implicitDefEqProofs [-indexAddrP_some, hlt, lj, CL_ret rv, ha, winc hlt (by omega)]
    refine ⟨m - 1, by omega, on hI ⟨i + 1, v', by omega, rfl, ?_⟩⟩
    have e : valsL o (xss.take (i + 1)) xs = valsL o (xss.take i) xs ++ [valX o js xs] := by unfold valsL; rw [take_succ' hj, List.map_append]; rfl
    rw [e]; exact H2
  · rw [List.take_of_length_le (by omega)] at H
    simp -implicitDefEqProofs [hlt]
    exact onK hK (H.ret 0 rfl)
theorem scenarioValues_run (S : Sc h vl xss n) (hu : Ints h vo xs) (hx : Ord n xs) (ho : 1 ≤ o ∧ o ≤ 8) : RunsC P G n_impl_scenarioValues [vl, vo, .int .i64 o] h fun v h' => h <+: h' ∧ Own h.length h' v 1 ((valsL o xss xs).map encI) := by
  refine hideC fun K hK => enter_run e_impl_scenarioValues (by simp) ?_
  have Ss := S
  have hus := hu
  obtain ⟨ol, cl, rfl⟩ := S.shape
  obtain ⟨oa, c, rfl⟩ := hu.shapeT
  have l4 := S.l4
  have H0 := own_nil (Holds.start (h := h)) Int encI 1
  simp -implicitDefEqProofs
  refine R_loopO (fun m s h' => ∃ (i : Nat) (u : Value), i + m = xss.length ∧ s = [(1, .slice oa xs.length c), (2, .int .i64 o), (7, u), (10, .slice ol xss.length cl), (11, .int .i64 xss.length), (12, .int .i64 i)] ∧ Holds h h' [.own u 1 ((valsL o (xss.take i) xs).map encI)]) (fun I hI m s h' => ?_) (n := xss.length) ⟨0, .slice none 0 0, Nat.zero_add _, by simp, by simpa [valsL] using H0⟩
  rintro ⟨i, u, hi, rfl, H⟩
  by_cases hlt : i < xss.length
  · obtain ⟨js, hj, _⟩ := drop_at hlt
    obtain ⟨uj, lj, Jj⟩ := (Ss.pre H.pre).at hj
    have gj := Ss.g js (List.mem_of_getElem? hj)
    have rv := valueOf_run (o := o) Jj (hus.pre H.pre) gj.1 (by rw [gj.2]; exact Ss.n8) ho (by rw [gj.2]; exact hx)
    obtain ⟨v', h2, ha, H2, _⟩ := push_I0 H 0 rfl (valX o js xs) (by simp [valsL]; omega)
    simp -implicitDefEqProofs [-indexAddrP_some, hlt, lj, CL_ret rv, ha, winc hlt (by omega)]
    refine ⟨m - 1, by omega, on hI ⟨i + 1, v', by omega, rfl, ?_⟩⟩
    have e : valsL o (xss.take (i + 1)) xs = valsL o (xss.take i) xs ++ [valX o js xs] := by unfold valsL; rw [take_succ' hj, List.map_append]; rfl
    rw [e]; exact H2
  · rw [List.take_of_length_le (by omega)] at H
    simp -implicitDefEqProofs [hlt]
    exact onK hK (H.ret 0 rfl)
theorem l11Bests_run (S : Sc h vl xss n) (ho : 1 ≤ o ∧ o ≤ 8) : RunsC P G n_spec_l11Bests [vl, .int .i64 o] h fun v h' => h <+: h' ∧ Own h.length h' v 1 ((bestsL o xss).map encI) := by
  refine hideC fun K hK => enter_run e_spec_l11Bests (by simp) ?_
  have Ss := S
  obtain ⟨ol, cl, rfl⟩ := S.shape
  have l4 := S.l4
  have H0 := own_nil (Holds.start (h := h)) Int encI 1
  simp -implicitDefEqProofs
  refine R_loopO (fun m s h' => ∃ (i : Nat) (u : Value), i + m = xss.length ∧ s = [(0, .slice ol xss.length cl), (1, .int .i64 o), (5, u), (6, .int .i64 i)] ∧ Holds h h' [.own u 1 ((bestsL o (xss.take i)).map encI)]) (fun I hI m s h' => ?_) (n := xss.length) ⟨0, .slice none 0 0, Nat.zero_add _, by simp, by simpa [bestsL] using H0⟩
  rintro ⟨i, u, hi, rfl, H⟩
  by_cases hlt : i < xss.length
  · obtain ⟨js, hj, _⟩ := drop_at hlt
    obtain ⟨uj, lj, Jj⟩ := (Ss.pre H.pre).at hj
    have gj := Ss.g js (List.mem_of_getElem? hj)
    simp -implicitDefEqProofs [-indexAddrP_some, hlt, lj]
    refine CL_post (l2Best_run (o := o) Jj gj.1 (by rw [gj.2]; exact Ss.n8) ho) fun v h1 ⟨hp1, vo, ev⟩ => ?_
    subst ev
    obtain ⟨v', h2, ha, H2, _⟩ := push_I0 (H.ext hp1) 0 rfl (bestV o js) (by simp [bestsL]; omega)
    simp -implicitDefEqProofs [ha, winc hlt (by omega)]
    refine ⟨m - 1, by omega, on hI ⟨i + 1, v', by omega, rfl, ?_⟩⟩
    have e : bestsL o (xss.take (i + 1)) = bestsL o (xss.take i) ++ [bestV o js] := by unfold bestsL; rw [take_succ' hj, List.map_append]; rfl
    rw [e]; exact H2
  · rw [List.take_of_length_le (by omega)] at H
    simp -implicitDefEqProofs [hlt]
    exact onK hK (H.ret 0 rfl)
theorem bestValues_run (S : Sc h vl xss n) (ho : 1 ≤ o ∧ o ≤ 8) : RunsC P G n_impl_bestValues [vl, .int .i64 o] h fun v h' => h <+: h' ∧ Own h.length h' v 1 ((bestsL o xss).map encI) := by
  refine hideC fun K hK => enter_run e_impl_bestValues (by simp) ?_
  have Ss := S
  obtain ⟨ol, cl, rfl⟩ := S.shape
  have l4 := S.l4
  have H0 := own_nil (Holds.start (h := h)) Int encI 1
  simp -implicitDefEqProofs
  refine R_loopO (fun m s h' => ∃ (i : Nat) (u : Value), i + m = xss.length ∧ s = [(1, .int .i64 o), (5, u), (11, .slice ol xss.length cl), (12, .int .i64 xss.length), (13, .int .i64 i)] ∧ Holds h h' [.own u 1 ((bestsL o (xss.take i)).map encI)]) (fun I hI m s h' => ?_) (n := xss.length) ⟨0, .slice none 0 0, Nat.zero_add _, by simp, by simpa [bestsL] using H0⟩
  rintro ⟨i, u, hi, rfl, H⟩
  by_cases hlt : i < xss.length
  · obtain ⟨js, hj, _⟩ := drop_at hlt
    obtain ⟨uj, lj, Jj⟩ := (Ss.pre H.pre).at hj
    have gj := Ss.g js (List.mem_of_getElem? hj)
    simp -implicitDefEqProofs [-indexAddrP_some, hlt, lj]
    refine CL_post (best_run (o := o) Jj gj.1 (by rw [gj.2]; exact Ss.n8) ho) fun v h1 ⟨hp1, vf, cc, ev⟩ => ?_
    subst ev
    obtain ⟨v', h2, ha, H2, _⟩ := push_I0 (H.ext hp1) 0 rfl (bestV o js) (by simp [bestsL]; omega)
    simp -implicitDefEqProofs [ha, winc hlt (by omega)]
    refine ⟨m - 1, by omega, on hI ⟨i + 1, v', by omega, rfl, ?_⟩⟩
    have e : bestsL o (xss.take (i + 1)) = bestsL o (xss.take i) ++ [bestV o js] := by unfold bestsL; rw [take_succ' hj, List.map_append]; rfl
    rw [e]; exact H2
  · rw [List.take_of_length_le (by omega)] at H
    simp -implicitDefEqProofs [hlt]
    exact onK hK (H.ret 0 rfl)
end
/-! ### the greatest difference -/
def dfE (vs ls : List Int) (i : Nat) : Int := gE vs i - gE ls i
def wstL (vs ls : List Int) : Int := (List.range' 0 vs.length).foldl (fun a i => max a (dfE vs ls i)) (dfE vs ls 0)
structure Ld (m : Nat) (vs ls : List Int) : Prop where
  v : vs.length = m
  l : ls.length = m
  m1 : 1 ≤ m
  m4 : m ≤ 4
  b : ∀ i, i < m → (-(2 ^ 30) ≤ gE vs i ∧ gE vs i ≤ 2 ^ 30) ∧ -(2 ^ 30) ≤ gE ls i ∧ gE ls i ≤ 2 ^ 30
section
variable {h : Hp} {vv vl : Value} {vs ls : List Int} {m : Nat}
theorem foldr1 {f : Int → Nat → Int} {a : Int} {i m : Nat} (hm : 0 < m) : (List.range' i m).foldl f a = (List.range' (i + 1) (m - 1)).foldl f (f a i) := by
  obtain ⟨k, rfl⟩ : ∃ k, m = k + 1 := ⟨m - 1, by omega⟩
  rw [List.range'_succ, List.foldl_cons, Nat.add_sub_cancel]
theorem l11Worst_run (hv : Ints h vv vs) (hl : Ints h vl ls) (D : Ld m vs ls) : RunsC P G n_spec_l11Worst [vv, vl] h fun v h' => h' = h ∧ ∃ a : Int, v = .tuple #[.int .i64 (wstL vs ls), .int .i64 a] := by
  refine hideC fun K hK => enter_run e_spec_l11Worst (by simp) ?_
  have hvs := hv
  have hls := hl
  have dv := D.v
  have dl := D.l
  have m1 := D.m1
  have m4 := D.m4
  obtain ⟨ov, cv, rfl⟩ : ∃ a c, vv = .slice a m c := by obtain ⟨a, c, e⟩ := hv.shapeT; exact ⟨a, c, by rw [e, dv]⟩
  obtain ⟨ol, cl, rfl⟩ : ∃ a c, vl = .slice a m c := by obtain ⟨a, c, e⟩ := hl.shapeT; exact ⟨a, c, by rw [e, dl]⟩
  have wd : ∀ i, i < m → IntKind.i64.wrap (gE vs i - gE ls i) = dfE vs ls i := fun i hi => by have := D.b i hi; unfold dfE; rw [wrap_ok] <;> omega
  have first : wstL vs ls = (List.range' 1 (m - 1)).foldl (fun a i => max a (dfE vs ls i)) (dfE vs ls 0) := by
    unfold wstL; rw [dv, foldr1 (by omega), Int.max_self]
  simp -implicitDefEqProofs
  refine R_loopO (fun k s h' => ∃ (i a : Nat), 1 ≤ i ∧ i + k = m ∧ a < m ∧ s = [(0, .slice ov m cv), (1, .slice ol m cl), (6, .int .i64 a), (7, .int .i64 i)] ∧ h' = h ∧ wstL vs ls = (List.range' i k).foldl (fun a i => max a (dfE vs ls i)) (dfE vs ls a)) (fun I hI k s h' => ?_) (n := m - 1) ⟨1, 0, by omega, by omega, by omega, by simp, rfl, first⟩
  rintro ⟨i, a, hi1, hi, ha, rfl, rfl, hx⟩
  have lva := load_I hvs (gE_get (l := vs) (i := a) (by omega))
  have lla := load_I hls (gE_get (l := ls) (i := a) (by omega))
  have wa := wd a ha
  by_cases hlt : i < m
  · have hlt' : (i : Int) < m := by omega
    rw [foldr1 (by omega)] at hx
    have lvi := load_I hvs (gE_get (l := vs) (i := i) (by omega))
    have lli := load_I hls (gE_get (l := ls) (i := i) (by omega))
    have wi := wd i hlt
    by_cases c : dfE vs ls a < dfE vs ls i
    · rw [show max (dfE vs ls a) (dfE vs ls i) = dfE vs ls i by omega] at hx
      simp -implicitDefEqProofs [-indexAddrP_some, hlt, hlt', lvi, lli, lva, lla, wi, wa, c, winc hlt (by omega)]
      exact ⟨k - 1, by omega, on hI ⟨i + 1, i, by omega, by omega, hlt, rfl, rfl, hx⟩⟩
    · rw [show max (dfE vs ls a) (dfE vs ls i) = dfE vs ls a by omega] at hx
      simp -implicitDefEqProofs [-indexAddrP_some, hlt, hlt', lvi, lli, lva, lla, wi, wa, c, winc hlt (by omega)]
      exact ⟨k - 1, by omega, on hI ⟨i + 1, a, by omega, by omega, ha, rfl, rfl, hx⟩⟩
  · have hlt' : ¬ (i : Int) < m := by omega
    have hk : k = 0 := by omega
    subst hk
    rw [List.range'_zero, List.foldl_nil] at hx
    rw [hx] at hK
    simp -implicitDefEqProofs [-indexAddrP_some, hlt, hlt', lva, lla, wa]
    exact onK hK ⟨rfl, _, rfl⟩
theorem greatest_run (hv : Ints h vv vs) (hl : Ints h vl ls) (D : Ld m vs ls) : RunsC P G n_impl_greatest [vv, vl] h fun v h' => h' = h ∧ ∃ a : Int, v = .tuple #[.int .i64 (wstL vs ls), .int .i64 a] := by
  refine hideC fun K hK => enter_run e_impl_greatest (by simp) ?_
  have hvs := hv
  have hls := hl
  have dv := D.v
  have dl := D.l
  have m1 := D.m1
  have m4 := D.m4
  obtain ⟨ov, cv, rfl⟩ : ∃ a c, vv = .slice a m c := by obtain ⟨a, c, e⟩ := hv.shapeT; exact ⟨a, c, by rw [e, dv]⟩
  obtain ⟨ol, cl, rfl⟩ : ∃ a c, vl = .slice a m c := by obtain ⟨a, c, e⟩ := hl.shapeT; exact ⟨a, c, by rw [e, dl]⟩
  have wd : ∀ i, i < m → IntKind.i64.wrap (gE vs i - gE ls i) = dfE vs ls i := fun i hi => by have := D.b i hi; unfold dfE; rw [wrap_ok] <;> omega
  have lv0 := load_I hvs (gE_get (l := vs) (i := 0) (by omega))
  have ll0 := load_I hls (gE_get (l := ls) (i := 0) (by omega))
  rw [show ((0 : Nat) : Int) = 0 from rfl] at lv0 ll0
  simp -implicitDefEqProofs [-indexAddrP_some, lv0, ll0, wd 0 (by omega)]
  refine R_loopO (fun k s h' => ∃ (i : Nat) (a b : Int), i + k = m ∧ s = [(1, .slice ol m cl), (6, .int .i64 a), (7, .int .i64 b), (17, .slice ov m cv), (18, .int .i64 m), (19, .int .i64 i)] ∧ h' = h ∧ wstL vs ls = (List.range' i k).foldl (fun a i => max a (dfE vs ls i)) a) (fun I hI k s h' => ?_) (n := m) ⟨0, _, 0, by omega, by simp; rfl, rfl, by unfold wstL; rw [dv]⟩
  rintro ⟨i, a, b, hi, rfl, rfl, hx⟩
  by_cases hlt : i < m
  · have hlt' : (i : Int) < m := by omega
    rw [foldr1 (by omega)] at hx
    have lvi := load_I hvs (gE_get (l := vs) (i := i) (by omega))
    have lli := load_I hls (gE_get (l := ls) (i := i) (by omega))
    have wi := wd i hlt
    by_cases c : a < dfE vs ls i
    · rw [show max a (dfE vs ls i) = dfE vs ls i by omega] at hx
      simp -implicitDefEqProofs [-indexAddrP_some, hlt, hlt', lvi, lli, wi, c, winc hlt (by omega)]
      exact ⟨k - 1, by omega, on hI ⟨i + 1, _, i, by omega, rfl, rfl, hx⟩⟩
    · rw [show max a (dfE vs ls i) = a by omega] at hx
      simp -implicitDefEqProofs [-indexAddrP_some, hlt, hlt', lvi, lli, wi, c, winc hlt (by omega)]
      exact ⟨k - 1, by omega, on hI ⟨i + 1, a, b, by omega, rfl, rfl, hx⟩⟩
  · have hlt' : ¬ (i : Int) < m := by omega
    have hk : k = 0 := by omega
    subst hk
    rw [List.range'_zero, List.foldl_nil] at hx
    rw [hx] at hK
    simp -implicitDefEqProofs [hlt, hlt']
    exact onK hK ⟨rfl, _, rfl⟩
end
end Go.Pm.PP

/- The least greatest regret: the reference's search. -/
set_option linter.unusedVariables false
set_option linter.unusedSimpArgs false
set_option maxRecDepth 4000
set_option maxHeartbeats 8000000
namespace Go.Pm.PP
open Go.Pm Go.Proofs Go.Pm.PE
def regV (o : Int) (xss : List (List Job)) (ls xs : List Int) : Int := wstL (valsL o xss xs) ls
def updG (f : List Int → Int) (b : Sr) (xs : List Int) : Sr := if b.c = 0 ∨ f xs < b.v then ⟨xs, f xs, 1⟩ else b
/-- Scenarios and a list of numbers that bound their regrets. -/
structure Lb (xss : List (List Job)) (ls : List Int) : Prop where
  l : ls.length = xss.length
  b : ∀ i, i < xss.length → -(2 ^ 30) ≤ gE ls i ∧ gE ls i ≤ 2 ^ 30
theorem gE_map {o : Int} {xss : List (List Job)} {f : List Job → Int} {i : Nat} {js : List Job} (h : xss[i]? = some js) : gE (xss.map f) i = f js := by
  unfold gE; rw [List.getElem?_map, h]; rfl
theorem Sc.ld {h : Hp} {v : Value} {xss : List (List Job)} {n : Nat} {o : Int} {xs ls : List Int} (S : Sc h v xss n) (hx : Ord n xs) (B : Lb xss ls) : Ld xss.length (valsL o xss xs) ls := by
  refine ⟨by simp [valsL], B.l, S.l1, S.l4, fun i hi => ⟨?_, B.b i hi⟩⟩
  obtain ⟨js, hj, _⟩ := drop_at hi
  have g := S.g js (List.mem_of_getElem? hj)
  rw [valsL, gE_map (o := o) hj]
  exact valX_bd g.1 (by rw [g.2]; exact S.n8) (by rw [g.2]; exact hx)
theorem Sc.bests {h : Hp} {v : Value} {xss : List (List Job)} {n : Nat} {o : Int} (S : Sc h v xss n) : Lb xss (bestsL o xss) := by
  refine ⟨by simp [bestsL], fun i hi => ?_⟩
  obtain ⟨js, hj, _⟩ := drop_at hi
  have g := S.g js (List.mem_of_getElem? hj)
  rw [bestsL, gE_map (o := o) hj]
  exact bestV_bd g.1 (by rw [g.2]; exact S.n8)
theorem l11Least_run {xss : List (List Job)} {n : Nat} {o : Int} {ls : List Int} (ho : 1 ≤ o ∧ o ≤ 8) (hn : n ≤ 8) (LB : Lb xss ls) : ∀ {k : Nat} {h : Hp} {vj vb vl vo : Value} {begun : List Int} {b : Sr}, Sc h vj xss n → Ints h vb begun → Ints h vl ls → Ints h vo b.o → begun.length + k = n → inN n begun → begun.Nodup → b.o.length ≤ 8 →
    RunsC P G n_spec_l11Least [vj, vb, .int .i64 o, vl, sv3 vo b] h fun v h' => h <+: h' ∧ (dfs (updG (regV o xss ls)) n k begun b).o.length ≤ 8 ∧ ∃ vo', v = sv3 vo' (dfs (updG (regV o xss ls)) n k begun b) ∧ Ints h' vo' (dfs (updG (regV o xss ls)) n k begun b).o
  | 0, h, vj, vb, vl, vo, begun, b, S, B, Lv, O, hk, hin, hnd, hol => by
    refine hideC fun K hK => enter_run e_spec_l11Least (by simp) ?_
    have Ss := S
    have Bs := B
    have Os := O
    have Ls := Lv
    obtain ⟨oj, cj, rfl⟩ := S.shape
    obtain ⟨ob, cb, rfl⟩ : ∃ a c, vb = .slice a n c := by obtain ⟨a, c, e⟩ := B.shapeT; exact ⟨a, c, by rw [e]; congr 1⟩
    obtain ⟨od, cd, rfl⟩ := O.shapeT
    obtain ⟨ol, cl, rfl⟩ := Lv.shapeT
    have hx : Ord n begun := ⟨by omega, hin, hnd⟩
    have H0 := (Holds.start.alloc [.slice od b.o.length cd, .int .i64 b.v, .int .i64 b.c] (h := h)).alloc [.slice none 0 0, .int .i64 0, .int .i64 0]
    simp only [List.append_assoc, List.cons_append, List.nil_append, List.length_append, List.length_cons, List.length_nil, Nat.zero_add] at H0
    obtain ⟨a0, c0, i0, l0⟩ := (Ss.pre H0.pre).first
    rw [dfs] at hK
    obtain ⟨V, hV⟩ : ∃ V, V = regV o xss ls begun := ⟨_, rfl⟩
    simp -implicitDefEqProofs [-indexAddrP_some, i0, l0]
    refine CL_post (l11Values_run (Ss.pre H0.pre) (Bs.pre H0.pre) hx ho) fun v1 h1 ⟨hp1, ho1⟩ => ?_
    have H1 := H0.call hp1 ho1
    simp -implicitDefEqProofs
    refine CL_post (l11Worst_run ho1.sees (Ls.pre H1.pre) ((Ss.pre H1.pre).ld hx LB)) fun v2 h2 ⟨e2, a2, ev2⟩ => ?_
    subst e2
    subst ev2
    rw [show wstL (valsL o xss begun) ls = V from hV.symm]
    have l1 := H1.bl (P := P) 0 3 rfl rfl
    by_cases c1 : b.c = 0 ∨ V < b.v
    · have e : updG (regV o xss ls) b begun = ⟨begun, V, 1⟩ := by unfold updG; rw [← hV, if_pos c1]
      rw [e] at hK
      obtain ⟨h3, s3, H3, k3⟩ := H1.set (P := P) 1 (n := 3) (o := 0) (ty := t_spec_l2Search) (w := sv3 (.slice ob n cb) ⟨begun, V, 1⟩) rfl rfl e_t_spec_l2Search (by simp) (by simp) (by simp)
      have s3' : storeP P h2 t_spec_l2Search (.agg #[.slice ob n cb, .int .i64 V, .int .i64 1]) (.pointer (some ⟨h.length + 1, 0, some 3⟩)) = some h3 := s3
      have l3 := H3.bl (P := P) 1 3 rfl rfl
      have fin : K (sv3 (.slice ob n cb) ⟨begun, V, 1⟩) (gc h h3 (sv3 (.slice ob n cb) ⟨begun, V, 1⟩)) := onK hK ⟨pre_gcU H3.pre, by simp only; rw [hx.len]; exact hn, _, rfl, Sees.gcU (Bs.pre H3.pre) plain3⟩
      rcases Classical.em (b.c = 0) with c2 | c2
      · simp -implicitDefEqProofs [-storeP_app0, l1, show (b.c == 0) = true by simpa using c2, s3', l3]
        exact fin
      · have c3 : V < b.v := by rcases c1 with g | g; exact absurd g c2; exact g
        simp -implicitDefEqProofs [-storeP_app0, l1, nb c2, c3, s3', l3]
        exact fin
    · have c2 : ¬ b.c = 0 := fun g => c1 (.inl g)
      have c3 : ¬ V < b.v := fun g => c1 (.inr g)
      have e : updG (regV o xss ls) b begun = b := by unfold updG; rw [← hV, if_neg c1]
      rw [e] at hK
      obtain ⟨h3, s3, H3, k3⟩ := H1.set (P := P) 1 (n := 3) (o := 0) (ty := t_spec_l2Search) (w := sv3 (.slice od b.o.length cd) b) rfl rfl e_t_spec_l2Search (by simp) (by simp) (by simp)
      have l3 := H3.bl (P := P) 1 3 rfl rfl
      simp -implicitDefEqProofs [-storeP_app0, l1, nb c2, c3, s3, l3]
      exact onK hK ⟨pre_gcU H3.pre, hol, _, rfl, Sees.gcU (Os.pre H3.pre) plain3⟩
  | k + 1, h, vj, vb, vl, vo, begun, b, S, B, Lv, O, hk, hin, hnd, hol => by
    refine hideC fun K hK => enter_run e_spec_l11Least (by simp) ?_
    have Ss := S
    have Bs := B
    have Os := O
    have Ls := Lv
    obtain ⟨oj, cj, rfl⟩ := S.shape
    obtain ⟨ob, cb, rfl⟩ := B.shapeT
    obtain ⟨od, cd, rfl⟩ := O.shapeT
    obtain ⟨ol, cl, rfl⟩ := Lv.shapeT
    have hne : ((begun.length : Int) == (n : Int)) = false := nb (by omega)
    have H0 := (Holds.start.alloc [.slice od b.o.length cd, .int .i64 b.v, .int .i64 b.c] (h := h)).alloc [.slice none 0 0, .int .i64 0, .int .i64 0]
    simp only [List.append_assoc, List.cons_append, List.nil_append, List.length_append, List.length_cons, List.length_nil, Nat.zero_add] at H0
    generalize hX : dfs (updG (regV o xss ls)) n (k + 1) begun b = X at hK
    rw [dfs] at hX
    have hne' : ¬ begun.length = n := by omega
    obtain ⟨a0, c0, i0, l0⟩ := (Ss.pre H0.pre).first
    simp -implicitDefEqProofs [-indexAddrP_some, i0, l0, hne, hne']
    refine R_loopO (fun m st h' => ∃ (i : Nat) (b' : Sr) (vo' : Value), i + m = n ∧ st = [(0, .slice oj xss.length cj), (1, .slice ob begun.length cb), (2, .int .i64 o), (3, .slice ol ls.length cl), (9, .pointer (some ⟨h.length, 0, some 3⟩)), (10, .pointer (some ⟨h.length + 1, 0, some 3⟩)), (13, .int .i64 i)] ∧
      X = (List.range' i m).foldl (fun b (j : Nat) => if begun.any (· == (j : Int)) = true then b else dfs (updG (regV o xss ls)) n k (begun ++ [(j : Int)]) b) b' ∧ b'.o.length ≤ 8 ∧ Ints h' vo' b'.o ∧
      Holds h h' [.box h.length [vo', .int .i64 b'.v, .int .i64 b'.c], .box (h.length + 1) [.slice none 0 0, .int .i64 0, .int .i64 0]]) (fun I hI m st h' => ?_) (n := n)
      ⟨0, b, .slice od b.o.length cd, Nat.zero_add _, by simp, hX.symm, hol, Os.pre H0.pre, H0⟩
    rintro ⟨i, b', vo', hi, rfl, hx, hbl, O', H⟩
    have Ons := O'
    obtain ⟨oq, cn, rfl⟩ := O'.shapeT
    obtain ⟨a1, c1', i1, l1⟩ := (Ss.pre H.pre).first
    by_cases hlt : i < n
    · obtain ⟨m', rfl⟩ : ∃ m', m = m' + 1 := ⟨m - 1, by omega⟩
      rw [List.range'_succ, List.foldl_cons] at hx
      have rh := l1Has_run (x := (i : Int)) (Bs.pre H.pre) (by omega)
      have wi := winc hlt (show n ≤ 2 ^ 40 by omega)
      have hlt' : (i : Int) < n := by omega
      cases c1 : hasL (i : Int) begun
      · have hx' : X = (List.range' (i + 1) m').foldl (fun b (j : Nat) => if begun.any (· == (j : Int)) = true then b else dfs (updG (regV o xss ls)) n k (begun ++ [(j : Int)]) b) (dfs (updG (regV o xss ls)) n k (begun ++ [(i : Int)]) b') := by
          rw [hx, show begun.any (· == (i : Int)) = false from c1]; rfl
        have hni : (i : Int) ∉ begun := fun g => by rw [hasL_iff'.2 g] at c1; cases c1
        simp -implicitDefEqProofs [-indexAddrP_some, i1, l1, hlt, hlt', CL_ret rh, c1]
        refine CG_post (l1Own_run (Bs.pre H.pre) (by omega)).new fun v5 h5 ⟨⟨hp5, ho5⟩, hn5⟩ => ⟨hn5 hp5, ?_⟩
        have H5 : Holds h' h5 [.own v5 1 (begun.map encI)] := (Holds.start (h := h')).call hp5 ho5
        obtain ⟨v6, h6, ha6, H6, k6, _⟩ := push_I0 H5 0 rfl (i : Int) (by omega)
        have H6' : Holds h' h6 [.own v6 1 ((begun ++ [(i : Int)]).map encI)] := H6
        have n6 : NR h'.length (h5 ++ [some ⟨[.int .i64 (i : Int)], 1, false⟩]) := (hn5 hp5).nr.new [.int .i64 (i : Int)] 1
        have md := app_mod (b := h'.length) rfl n6 ha6 (hp5.trans (List.prefix_append ..)) H6'.pre
        have HH6 := H.ext H6'.pre
        have ih := l11Least_run ho hn LB (k := k) (Ss.pre HH6.pre) (H6'.sees 0 rfl) (Ls.pre HH6.pre) (Ons.pre H6'.pre) (by simp; omega) (fun x hx => by
          rcases List.mem_append.1 hx with g | g
          · exact hin x g
          · rw [List.mem_singleton.1 g]; omega) (List.nodup_append.2 ⟨hnd, by simp, fun a ha c hc => by rw [List.mem_singleton.1 hc]; intro e; exact hni (e ▸ ha)⟩) hbl
        obtain ⟨d1, d2, d3, rfl⟩ : ∃ a n c, v5 = .slice a n c := by obtain ⟨a, c, e⟩ := ho5.sees.shape; exact ⟨_, _, _, e⟩
        obtain ⟨e1, e2, e3, rfl⟩ : ∃ a n c, v6 = .slice a n c := by obtain ⟨a, c, e⟩ := (H6'.sees 0 rfl).shape; exact ⟨_, _, _, e⟩
        simp -implicitDefEqProofs [ha6, md, HH6.bl 0 3 rfl rfl]
        refine CL_post ih fun v h7 ⟨hp7, hb7, vo7, ev7, O7⟩ => ?_
        subst ev7
        generalize dfs (updG (regV o xss ls)) n k (begun ++ [(i : Int)]) b' = b7 at hx' hb7 O7
        have O7s := O7
        obtain ⟨f1, f2, rfl⟩ := O7.shapeT
        have H7 := HH6.ext hp7
        obtain ⟨h8, s8, H8, k8⟩ := H7.set (P := P) 0 (n := 3) (o := 0) (ty := t_spec_l2Search) (w := sv3 (.slice f1 b7.o.length f2) b7) rfl rfl e_t_spec_l2Search (by simp) (by simp) (by simp)
        have bx := H7.box 0 rfl
        simp -implicitDefEqProofs [s8, wi]
        exact ⟨m', by omega, on hI ⟨i + 1, b7, _, by omega, rfl, hx', hb7, Sees.boxK O7s (by omega) bx k8, by simpa using H8⟩⟩
      · have hx' : X = (List.range' (i + 1) m').foldl (fun b (j : Nat) => if begun.any (· == (j : Int)) = true then b else dfs (updG (regV o xss ls)) n k (begun ++ [(j : Int)]) b) b' := by
          rw [hx, show begun.any (· == (i : Int)) = true from c1]; rfl
        simp -implicitDefEqProofs [-indexAddrP_some, i1, l1, hlt, hlt', CL_ret rh, c1, wi]
        exact ⟨m', by omega, on hI ⟨i + 1, b', _, by omega, rfl, hx', hbl, Ons, H⟩⟩
    · have hm : m = 0 := by omega
      have hlt' : ¬ (i : Int) < n := by omega
      subst hm
      rw [List.range'_zero, List.foldl_nil] at hx
      subst hx
      obtain ⟨h8, s8, H8, k8⟩ := H.set (P := P) 1 (n := 3) (o := 0) (ty := t_spec_l2Search) (w := sv3 (.slice oq X.o.length cn) X) rfl rfl e_t_spec_l2Search (by simp) (by simp) (by simp)
      have bx := H.box 1 rfl
      simp -implicitDefEqProofs [-indexAddrP_some, i1, l1, hlt, hlt', H.bl 0 3 rfl rfl, s8, H8.bl 1 3 rfl rfl]
      exact onK hK ⟨pre_gcU H8.pre, hbl, _, rfl, Sees.gcU (Sees.boxK Ons (by omega) bx k8) plain3⟩
end Go.Pm.PP

/- The least greatest regret: the program's search. -/
set_option linter.unusedVariables false
set_option linter.unusedSimpArgs false
set_option maxRecDepth 4000
set_option maxHeartbeats 8000000
namespace Go.Pm.PP
open Go.Pm Go.Proofs Go.Pm.PE
def fnd (b : Sr) : Bool := !(b.c == 0)
def bxG (p q r : Nat) (vf : Value) (b : Sr) : List Asn := [.box p [vf], .box q [.int .i64 b.v], .box r [.bool (fnd b)]]
theorem tellG_run {hb h : Hp} {p q r rj ro rl : Nat} {vj vl vf vg : Value} {xss : List (List Job)} {n : Nat} {o : Int} {ls xs : List Int} {b : Sr} (S : Sc hb vj xss n) (Lv : Ints hb vl ls) (LB : Lb xss ls) (bj : hb[rj]? = some (some ⟨[vj], 0, false⟩)) (bo : hb[ro]? = some (some ⟨[.int .i64 o], 0, false⟩)) (bl : hb[rl]? = some (some ⟨[vl], 0, false⟩))
    (ho : 1 ≤ o ∧ o ≤ 8) (hx : Ord n xs) (hvf : ∃ a n c, vf = .slice a n c) (H : Holds hb h (bxG p q r vf b ++ [.own vg 1 (xs.map encI)])) :
    RunsC P G n_impl_leastGreatest_1 [vg, .pointer (some ⟨rj, 0, some 1⟩), .pointer (some ⟨ro, 0, some 1⟩), .pointer (some ⟨rl, 0, some 1⟩), .pointer (some ⟨r, 0, some 1⟩), .pointer (some ⟨q, 0, some 1⟩), .pointer (some ⟨p, 0, some 1⟩)] h fun v h' =>
      ∃ vf', (∃ a n c, vf' = .slice a n c) ∧ ∀ L, Holds hb h (bxG p q r vf b ++ L) → Holds hb h' (bxG p q r vf' (updG (regV o xss ls) b xs) ++ L) := by
  refine hideC fun K hK => enter_run e_impl_leastGreatest_1 (by simp) ?_
  obtain ⟨f1, f2, f3, rfl⟩ := hvf
  have Ss := S
  have Ls := Lv
  have n8 := S.n8
  obtain ⟨oj, cj, rfl⟩ := S.shape
  obtain ⟨ol, cl, rfl⟩ := Lv.shapeT
  have Sg : Ints h vg xs := H.sees 3 rfl
  have lj := load_pre H.pre bj (n := 1) rfl
  have lo := load_pre H.pre bo (n := 1) rfl
  obtain ⟨V, hV⟩ : ∃ V, V = regV o xss ls xs := ⟨_, rfl⟩
  simp -implicitDefEqProofs [lj, lo]
  refine CH_post (scenarioValues_run (Ss.pre H.pre) Sg hx ho).new fun v1 h1 ⟨⟨hp1, ho1⟩, hn1⟩ => ⟨hn1 hp1, ?_⟩
  have lb := load_pre (H.pre.trans hp1) bl (n := 1) rfl
  simp -implicitDefEqProofs [lb]
  refine CH_post (greatest_run ho1.sees (Ls.pre (H.pre.trans hp1)) (Ss.ld hx LB)).new fun v2 h2 ⟨⟨e2, a2, ev2⟩, hn2⟩ => ⟨hn2 (e2 ▸ List.prefix_rfl), ?_⟩
  subst e2
  subst ev2
  rw [show wstL (valsL o xss xs) ls = V from hV.symm]
  have H1 := H.ext hp1
  have Sg1 : Ints h2 vg xs := H1.sees 3 rfl
  have lq := H1.bl (P := P) 1 1 rfl rfl
  have lr := H1.bl (P := P) 2 1 rfl rfl
  by_cases c1 : b.c = 0 ∨ V < b.v
  · have e : updG (regV o xss ls) b xs = ⟨xs, V, 1⟩ := by unfold updG; rw [← hV, if_pos c1]
    rw [e] at hK
    have fin : RunsC P G n_impl_copyInts [vg] h2 fun v1 h1 => ∃ a n c h3 h4 h5, v1 = .slice a n c ∧ storeP P h1 t_S_int (.slice a n c) (.pointer (some ⟨p, 0, some 1⟩)) = some h3 ∧ storeP P h3 t_int (.int .i64 V) (.pointer (some ⟨q, 0, some 1⟩)) = some h4 ∧
        storeP P h4 t_bool (.bool true) (.pointer (some ⟨r, 0, some 1⟩)) = some h5 ∧ ∀ u, K u (gc h h5 u) := by
      refine RunsC.mono (copyInts_run Sg1 (by rw [hx.len]; omega)) fun v1 h1 ⟨hp1', ho1'⟩ => ?_
      obtain ⟨a, c, rfl⟩ := ho1'.sees.shapeT
      obtain ⟨h3, s2, H2, _⟩ := (H1.ext hp1').set (P := P) 0 (n := 1) (o := 0) (ty := t_S_int) (w := .slice a xs.length c) rfl rfl e_t_S_int (by simp) (by simp) (by simp)
      obtain ⟨h4, s3, H3, _⟩ := H2.set (P := P) 1 (n := 1) (o := 0) (ty := t_int) (w := .int .i64 V) rfl rfl e_t_int (by simp) (by simp) (by simp)
      obtain ⟨h5, s4, H4, _⟩ := H3.set (P := P) 2 (n := 1) (o := 0) (ty := t_bool) (w := .bool true) rfl rfl e_t_bool (by simp) (by simp) (by simp)
      refine ⟨a, xs.length, c, h3, h4, h5, rfl, s2, s3, s4, fun u => onK hK ⟨_, ⟨a, xs.length, c, rfl⟩, fun L HL => ?_⟩⟩
      obtain ⟨h3', s2', H2', _⟩ := ((HL.ext hp1).ext hp1').set (P := P) 0 (n := 1) (o := 0) (ty := t_S_int) (w := .slice a xs.length c) rfl rfl e_t_S_int (by simp) (by simp) (by simp)
      rw [s2] at s2'; cases s2'
      obtain ⟨h4', s3', H3', _⟩ := H2'.set (P := P) 1 (n := 1) (o := 0) (ty := t_int) (w := .int .i64 V) rfl rfl e_t_int (by simp) (by simp) (by simp)
      rw [s3] at s3'; cases s3'
      obtain ⟨h5', s4', H4', _⟩ := H3'.set (P := P) 2 (n := 1) (o := 0) (ty := t_bool) (w := .bool true) rfl rfl e_t_bool (by simp) (by simp) (by simp)
      rw [s4] at s4'; cases s4'
      exact HL.gcR (L' := bxG p q r (.slice a xs.length c) ⟨xs, V, 1⟩ ++ L) H4' rfl
    rcases Classical.em (b.c = 0) with c2 | c2
    · simp -implicitDefEqProofs [lr, lq, fnd, show (b.c == 0) = true by simpa using c2]
      refine CL_post fin fun v1 h1 ⟨a, n1, c, h2, h3, h4, ev, s2, s3, s4, f2⟩ => ?_
      subst ev
      simp -implicitDefEqProofs [s2, s3, s4]
      exact f2 _
    · have c3 : V < b.v := by rcases c1 with g | g; exact absurd g c2; exact g
      simp -implicitDefEqProofs [lr, lq, fnd, nb c2, c3]
      refine CL_post fin fun v1 h1 ⟨a, n1, c, h2, h3, h4, ev, s2, s3, s4, f2⟩ => ?_
      subst ev
      simp -implicitDefEqProofs [s2, s3, s4]
      exact f2 _
  · have c2 : ¬ b.c = 0 := fun g => c1 (.inl g)
    have c3 : ¬ V < b.v := fun g => c1 (.inr g)
    have e : updG (regV o xss ls) b xs = b := by unfold updG; rw [← hV, if_neg c1]
    rw [e] at hK
    simp -implicitDefEqProofs [lr, lq, fnd, nb c2, c3]
    exact onK hK ⟨_, ⟨f1, f2, f3, rfl⟩, fun L HL => HL.gcR (L' := bxG p q r (.slice f1 f2 f3) b ++ L) (HL.ext hp1) rfl⟩
def leastR (f : List Int → Int) (n : Nat) : Sr := (ordsL n).foldl (updG f) sr0
theorem least_dfs {f : List Int → Int} {n : Nat} : dfs (updG f) n n [] sr0 = leastR f n := by
  rw [dfs_perms (by rw [up_rem, upTo_len]), up_rem]; rfl
theorem leastGreatest_run {h : Hp} {vj vl : Value} {xss : List (List Job)} {n : Nat} {o : Int} {ls : List Int} (S : Sc h vj xss n) (Lv : Ints h vl ls) (LB : Lb xss ls) (ho : 1 ≤ o ∧ o ≤ 8) :
    RunsC P G n_impl_leastGreatest [vj, vl, .int .i64 o] h fun v h' => h <+: h' ∧ ∃ vf, v = .tuple #[vf, .int .i64 (leastR (regV o xss ls) n).v] := by
  refine hideC fun K hK => enter_run e_impl_leastGreatest (by simp) ?_
  have Ss := S
  have Ls := Lv
  have n8 := S.n8
  obtain ⟨oj, cj, rfl⟩ := S.shape
  obtain ⟨ol, cl, rfl⟩ := Lv.shapeT
  have H0 := ((Holds.start.alloc [.slice oj xss.length cj] (h := h)).alloc [.slice ol ls.length cl]).alloc [.int .i64 o]
  simp only [List.append_assoc, List.cons_append, List.nil_append, List.length_append, List.length_cons, List.length_nil, Nat.zero_add] at H0
  generalize hHb : h ++ [some ⟨[.slice oj xss.length cj], 0, false⟩, some ⟨[.slice ol ls.length cl], 0, false⟩, some ⟨[.int .i64 o], 0, false⟩] = hb at H0
  have hbl : hb.length = h.length + 1 + 1 + 1 := by rw [← hHb]; simp
  have E0 := ((Holds.start.alloc [.slice none 0 0] (h := hb)).alloc [.int .i64 0]).alloc [.bool false]
  simp only [List.append_assoc, List.cons_append, List.nil_append, List.length_append, List.length_cons, List.length_nil, Nat.zero_add] at E0
  have E : Holds hb (hb ++ [some ⟨[.slice none 0 0], 0, false⟩, some ⟨[.int .i64 0], 0, false⟩, some ⟨[.bool false], 0, false⟩]) (bxG hb.length (hb.length + 1) (hb.length + 1 + 1) (.slice none 0 0) sr0 ++ []) := E0
  have er := eachOrder_run (hb := hb) (g := n_impl_leastGreatest_1) (c := #[.pointer (some ⟨h.length, 0, some 1⟩), .pointer (some ⟨h.length + 1 + 1, 0, some 1⟩), .pointer (some ⟨h.length + 1, 0, some 1⟩), .pointer (some ⟨hb.length + 1 + 1, 0, some 1⟩), .pointer (some ⟨hb.length + 1, 0, some 1⟩), .pointer (some ⟨hb.length, 0, some 1⟩)]) n8
    (Q := fun i BX => ∃ vf, (∃ a n c, vf = .slice a n c) ∧ BX = bxG hb.length (hb.length + 1) (hb.length + 1 + 1) vf (((ordsL n).take i).foldl (updG (regV o xss ls)) sr0)) (R := [some hb.length, some (hb.length + 1), some (hb.length + 1 + 1)])
    (fun i xs h BX vg ⟨vf, hvf, eBX⟩ hxs hR HB => by
      subst eBX
      refine RunsC.mono (tellG_run (Ss.pre H0.pre) (Ls.pre H0.pre) LB (H0.box 0 rfl) (H0.box 2 rfl) (H0.box 1 rfl) ho (ords_ord (List.mem_of_getElem? hxs)) hvf HB) fun v h' ⟨vf', hvf', F⟩ => ?_
      refine ⟨_, ⟨vf', hvf', rfl⟩, rfl, fun L HL => ?_⟩
      have := F L HL
      rw [take_succ' hxs, List.foldl_append, List.foldl_cons, List.foldl_nil]
      exact this) ⟨_, ⟨none, 0, 0, rfl⟩, rfl⟩ rfl E
  have hcount : hb ++ [some ⟨[.slice none 0 0], 0, false⟩, some ⟨[.int .i64 0], 0, false⟩, some ⟨[.bool false], 0, false⟩] = h ++ [some ⟨[.slice oj xss.length cj], 0, false⟩, some ⟨[.slice ol ls.length cl], 0, false⟩, some ⟨[.int .i64 o], 0, false⟩, some ⟨[.slice none 0 0], 0, false⟩, some ⟨[.int .i64 0], 0, false⟩, some ⟨[.bool false], 0, false⟩] := by rw [← hHb]; simp
  rw [hcount, hbl] at er
  rw [hcount] at E
  have hpE : h <+: h ++ [some ⟨[.slice oj xss.length cj], 0, false⟩, some ⟨[.slice ol ls.length cl], 0, false⟩, some ⟨[.int .i64 o], 0, false⟩, some ⟨[.slice none 0 0], 0, false⟩, some ⟨[.int .i64 0], 0, false⟩, some ⟨[.bool false], 0, false⟩] := List.prefix_append ..
  obtain ⟨a0, c0, i0, l0⟩ := (Ss.pre hpE).first
  simp -implicitDefEqProofs [-indexAddrP_some, i0, l0]
  refine CL_post er fun v h4 ⟨BX', ⟨vf, ⟨a, n, c, evf⟩, eBX⟩, hR, F⟩ => ?_
  subst evf
  subst eBX
  have H4 := F [] (by rw [← hbl]; exact E)
  rw [List.take_length] at H4
  have l0 := H4.bl (P := P) 0 1 rfl rfl
  have l1 := H4.bl (P := P) 1 1 rfl rfl
  simp only [Nat.add_assoc, Nat.reduceAdd] at l0 l1
  simp -implicitDefEqProofs [l0, l1]
  exact onK hK ⟨pre_gcU (H0.pre.trans H4.pre), _, rfl⟩
end Go.Pm.PP

/- The greatest regret and its bound: what is asked, and both. -/
set_option linter.unusedVariables false
set_option linter.unusedSimpArgs false
set_option maxRecDepth 4000
set_option maxHeartbeats 8000000
namespace Go.Pm.PP
open Go.Pm Go.Proofs Go.Pm.PE
def okJ (n : Nat) (js : List Job) : Bool := (decide (js.length ≤ 8) && goodL js) && ((js.length : Int) == n)
def len0 (xss : List (List Job)) : Nat := ((xss[0]?).getD []).length
def allJ (n : Nat) (xss : List (List Job)) : Bool := xss.all (okJ n)
theorem allJ_cons {n : Nat} {js : List Job} {xss : List (List Job)} : allJ n (js :: xss) = (okJ n js && allJ n xss) := rfl
theorem allJ_nil {n : Nat} : allJ n [] = true := rfl
def scOk (xss : List (List Job)) : Bool := allJ (len0 xss) xss && inB xss.length 1 4
theorem nest_at {h : Hp} {v : Value} {xss : List (List Job)} {vs : List Value} {i : Nat} {js : List Job} (N : Nest h v encJ 4 xss vs) (hx : xss[i]? = some js) :
    ∃ u, (indexAddrP P h t_S_S_impl_Job v (.int .i64 i) = some (.pointer (some (addP (base v) i))) ∧ loadP P h t_S_impl_Job (.pointer (some (addP (base v) i))) = some u) ∧ Jobs h u js := by
  obtain ⟨u, hu, ho⟩ := N.at hx
  have := load_NJ N.out hu
  exact ⟨u, ⟨this.1, this.2⟩, ho⟩
theorem nest_first {h : Hp} {v : Value} {xss : List (List Job)} {vs : List Value} (N : Nest h v encJ 4 xss vs) (hl : 0 < xss.length) :
    ∃ a c, indexAddrP P h t_S_S_impl_Job v (.int .i64 0) = some (.pointer (some (addP (base v) 0))) ∧ loadP P h t_S_impl_Job (.pointer (some (addP (base v) 0))) = some (.slice a (len0 xss) c) := by
  obtain ⟨js, hj, _⟩ := drop_at hl
  obtain ⟨u, ⟨h1, h2⟩, ho⟩ := nest_at N hj
  obtain ⟨a, c, rfl⟩ := ho.shapeT
  have : len0 xss = js.length := by unfold len0; rw [hj]; rfl
  rw [← this] at h2
  exact ⟨a, c, h1, h2⟩
section
variable {h : Hp} {v vo : Value} {xss : List (List Job)} {vs : List Value} {xs : List Int} {o : Int}
theorem l11Lists_run (N : Nest h v encJ 4 xss vs) (hn : xss.length ≤ 2 ^ 40) (hi : ∀ x ∈ xss, x.length ≤ 2 ^ 40) : Ret P G n_spec_l11Lists [v] h (.bool (scOk xss)) h := by
  refine enter_run e_spec_l11Lists (by simp) ?_
  have Ns := N
  obtain ⟨oa, c, rfl⟩ := N.shape
  simp -implicitDefEqProofs
  refine R_loopO (fun m s h' => ∃ i : Nat, i + m = xss.length ∧ s = [(0, .slice oa xss.length c), (3, .int .i64 i)] ∧ h' = h ∧ scOk xss = (allJ (len0 xss) (xss.drop i) && inB xss.length 1 4)) (fun I hI m s h' => ?_) ⟨0, Nat.zero_add _, by simp, rfl, rfl⟩
  rintro ⟨i, him, rfl, rfl, hx⟩
  by_cases hlt : i < xss.length
  · obtain ⟨js, hj, hd⟩ := drop_at hlt
    rw [hd, allJ_cons] at hx
    obtain ⟨u, lj, Jj⟩ := nest_at Ns hj
    obtain ⟨a0, c0, i0, l0⟩ := nest_first Ns (by omega)
    have hl := hi js (List.mem_of_getElem? hj)
    have rg := l2Good_run Jj hl
    obtain ⟨a1, c1, rfl⟩ : ∃ a c, u = .slice a js.length c := Jj.shapeT
    cases c1 : (decide (js.length ≤ 8) && goodL js)
    · simp -implicitDefEqProofs [-indexAddrP_some, hlt, lj, CL_ret rg, CH_at rg, c1]
      rw [okJ, c1] at hx
      simp [hx]
    · rw [okJ, c1, Bool.true_and] at hx
      cases c2 : ((js.length : Int) == (len0 xss : Nat))
      · rw [c2, Bool.false_and, Bool.false_and] at hx
        have c2' : ((js.length : Int) != (len0 xss : Nat)) = true := by rw [bne, c2]; rfl
        simp -implicitDefEqProofs [-indexAddrP_some, -bne_iff_ne, hlt, lj, CL_ret rg, CH_at rg, c1, i0, l0, c2', hx]
      · rw [c2, Bool.true_and] at hx
        have c2' : ((js.length : Int) != (len0 xss : Nat)) = false := by rw [bne, c2]; rfl
        simp -implicitDefEqProofs [-indexAddrP_some, hlt, lj, CL_ret rg, CH_at rg, c1, i0, l0, c2', winc hlt hn]
        exact ⟨m - 1, by omega, on hI ⟨i + 1, by omega, rfl, rfl, hx⟩⟩
  · rw [List.drop_eq_nil_of_le (by omega), allJ_nil, Bool.true_and] at hx
    simp -implicitDefEqProofs [hlt, CL_ret l1In_run, hx]
theorem AreScenarios_run (N : Nest h v encJ 4 xss vs) (hn : xss.length ≤ 2 ^ 40) (hi : ∀ x ∈ xss, x.length ≤ 2 ^ 40) : Ret P G n_impl_AreScenarios [v] h (.bool (scOk xss)) h := by
  refine enter_run e_impl_AreScenarios (by simp) ?_
  have Ns := N
  obtain ⟨oa, c, rfl⟩ := N.shape
  cases c0 : inB xss.length 1 4
  · simp -implicitDefEqProofs [CL_ret within_run, c0, scOk]
  have hsc : scOk xss = allJ (len0 xss) xss := by rw [scOk, c0, Bool.and_true]
  simp -implicitDefEqProofs [CL_ret within_run, c0]
  refine R_loopO (fun m s h' => ∃ i : Nat, i + m = xss.length ∧ s = [(0, .slice oa xss.length c), (9, .slice oa xss.length c), (10, .int .i64 xss.length), (11, .int .i64 i)] ∧ h' = h ∧ scOk xss = allJ (len0 xss) (xss.drop i)) (fun I hI m s h' => ?_) ⟨0, Nat.zero_add _, by simp, rfl, hsc⟩
  rintro ⟨i, him, rfl, rfl, hx⟩
  by_cases hlt : i < xss.length
  · obtain ⟨js, hj, hd⟩ := drop_at hlt
    rw [hd, allJ_cons] at hx
    obtain ⟨u, lj, Jj⟩ := nest_at Ns hj
    obtain ⟨a0, c0, i0, l0⟩ := nest_first Ns (by omega)
    have hl := hi js (List.mem_of_getElem? hj)
    have rg := IsJobs_run Jj hl
    obtain ⟨a1, c1, rfl⟩ : ∃ a c, u = .slice a js.length c := Jj.shapeT
    cases c1 : (decide (js.length ≤ 8) && goodL js)
    · simp -implicitDefEqProofs [-indexAddrP_some, hlt, lj, CL_ret rg, CH_at rg, c1]
      rw [okJ, c1] at hx
      simp [hx]
    · rw [okJ, c1, Bool.true_and] at hx
      cases c2 : ((js.length : Int) == (len0 xss : Nat))
      · rw [c2, Bool.false_and] at hx
        have c2' : ((js.length : Int) != (len0 xss : Nat)) = true := by rw [bne, c2]; rfl
        simp -implicitDefEqProofs [-indexAddrP_some, -bne_iff_ne, hlt, lj, CL_ret rg, CH_at rg, c1, i0, l0, c2', hx]
      · rw [c2, Bool.true_and] at hx
        have c2' : ((js.length : Int) != (len0 xss : Nat)) = false := by rw [bne, c2]; rfl
        simp -implicitDefEqProofs [-indexAddrP_some, hlt, lj, CL_ret rg, CH_at rg, c1, i0, l0, c2', winc hlt hn]
        exact ⟨m - 1, by omega, on hI ⟨i + 1, by omega, rfl, rfl, hx⟩⟩
  · rw [List.drop_eq_nil_of_le (by omega), allJ_nil] at hx
    simp -implicitDefEqProofs [hlt, hx]
theorem l2Objective_run {x : Int} : Ret P G n_spec_l2Objective [.int .i64 x] h (.bool (inB x 1 8)) h := by
  refine enter_run e_spec_l2Objective (by simp) ?_
  simp -implicitDefEqProofs [CL_ret l1In_run]
theorem isObjective_run {x : Int} : Ret P G n_impl_isObjective [.int .i64 x] h (.bool (inB x 1 8)) h := by
  refine enter_run e_impl_isObjective (by simp) ?_
  simp -implicitDefEqProofs [CL_ret within_run]
theorem scOk_len (hs : scOk xss = true) : 1 ≤ xss.length ∧ xss.length ≤ 4 ∧ len0 xss ≤ 8 := by
  rw [scOk, Bool.and_eq_true] at hs
  obtain ⟨h1, h2⟩ := hs
  simp only [inB, Bool.and_eq_true, decide_eq_true_eq] at h2
  obtain ⟨js, hj, _⟩ := drop_at (show 0 < xss.length by omega)
  have := List.all_eq_true.1 h1 js (List.mem_of_getElem? hj)
  have hl : len0 xss = js.length := by unfold len0; rw [hj]; rfl
  rw [okJ, Bool.and_eq_true, Bool.and_eq_true, decide_eq_true_eq] at this
  omega
theorem scOk_sc (N : Nest h v encJ 4 xss vs) (hs : scOk xss = true) : Sc h v xss (len0 xss) := by
  obtain ⟨l1, l4, n8⟩ := scOk_len hs
  rw [scOk, Bool.and_eq_true] at hs
  refine ⟨⟨vs, N⟩, fun js hj => ?_, n8, l1, l4⟩
  have := List.all_eq_true.1 hs.1 js hj
  rw [okJ, Bool.and_eq_true, Bool.and_eq_true, decide_eq_true_eq, beq_iff_eq] at this
  exact ⟨this.1.2, by omega⟩
def fitB (xss : List (List Job)) (xs : List Int) (o : Int) : Bool := (scOk xss && l2OrderL (len0 xss) xs) && inB o 1 8
theorem fitB_ord (hf : l2OrderL (len0 xss) xs = true) : Ord (len0 xss) xs := by
  rw [l2OrderL, Bool.and_eq_true, Bool.and_eq_true] at hf
  obtain ⟨⟨h1, h2⟩, h3⟩ := hf
  have hl : len0 xss ≤ 8 := by simp only [inB, Bool.and_eq_true, decide_eq_true_eq] at h1; omega
  have := order_eq (n := len0 xss) (xs := xs) hl
  rw [h2, h3, Bool.true_and, Bool.true_and] at this
  have wn : w64 ((len0 xss : Int) - 1) = (len0 xss : Int) - 1 := by unfold w64; rw [wrap_ok] <;> omega
  obtain ⟨g1, g2, _⟩ := (arGo_iff wn).1 this
  exact ⟨by have := beq_iff_eq.1 h2; omega, g1, g2⟩
theorem l11Fits_run (N : Nest h v encJ 4 xss vs) (hu : Ints h vo xs) (hn : xss.length ≤ 2 ^ 40) (hi : ∀ x ∈ xss, x.length ≤ 2 ^ 40) (hx : xs.length ≤ 2 ^ 40) : Ret P G n_spec_l11Fits [v, vo, .int .i64 o] h (.bool (fitB xss xs o)) h := by
  refine enter_run e_spec_l11Fits (by simp) ?_
  have Ns := N
  have hus := hu
  obtain ⟨oa, c, rfl⟩ := N.shape
  obtain ⟨ob, cb, rfl⟩ := hu.shapeT
  have r1 := l11Lists_run Ns hn hi
  cases c1 : scOk xss
  · simp -implicitDefEqProofs [CL_ret r1, c1, fitB]
  · obtain ⟨a0, c0, i0, l0⟩ := nest_first Ns (by have := scOk_len c1; omega)
    have r2 := l2Order_run (n := len0 xss) hus hx
    cases c2 : l2OrderL (len0 xss) xs
    · simp -implicitDefEqProofs [-indexAddrP_some, CL_ret r1, c1, i0, l0, CL_ret r2, c2, fitB]
    · simp -implicitDefEqProofs [-indexAddrP_some, CL_ret r1, c1, i0, l0, CL_ret r2, c2, fitB, CL_ret l2Objective_run]
theorem areRobust_run (N : Nest h v encJ 4 xss vs) (hn : xss.length ≤ 2 ^ 40) (hi : ∀ x ∈ xss, x.length ≤ 2 ^ 40) : Ret P G n_impl_areRobust [v, .int .i64 o] h (.bool (scOk xss && inB o 1 8)) h := by
  refine enter_run e_impl_areRobust (by simp) ?_
  have r1 := AreScenarios_run N hn hi
  obtain ⟨oa, c, rfl⟩ := N.shape
  cases c1 : scOk xss
  · simp -implicitDefEqProofs [CL_ret r1, c1]
  · simp -implicitDefEqProofs [CL_ret r1, c1, CL_ret isObjective_run]
def rgV (xss : List (List Job)) (xs : List Int) (o : Int) : Int := w64 (wstL (valsL o xss xs) (bestsL o xss) - (leastR (regV o xss (bestsL o xss)) (len0 xss)).v)
def rgX (xss : List (List Job)) (xs : List Int) (o : Int) : Int := if fitB xss xs o = true then rgV xss xs o else 0
theorem spec_RegretBound_run (N : Nest h v encJ 4 xss vs) (hu : Ints h vo xs) (hn : xss.length ≤ 2 ^ 40) (hi : ∀ x ∈ xss, x.length ≤ 2 ^ 40) (hx : xs.length ≤ 2 ^ 40) :
    RunsC P G n_spec_RegretBound [v, vo, .int .i64 o] h fun v h' => h <+: h' ∧ v = .tuple #[.int .i64 (rgX xss xs o), .bool (fitB xss xs o)] := by
  refine hideC fun K hK => enter_run e_spec_RegretBound (by simp) ?_
  have Ns := N
  have hus := hu
  have r1 := l11Fits_run (o := o) Ns hus hn hi hx
  obtain ⟨oa, c, rfl⟩ := N.shape
  obtain ⟨ob, cb, rfl⟩ := hu.shapeT
  cases c1 : fitB xss xs o
  · rw [rgX, c1] at hK
    simp -implicitDefEqProofs [CL_ret r1, c1]
    exact onK hK ⟨List.prefix_rfl, rfl⟩
  · rw [rgX, c1, if_pos rfl] at hK
    have c1' := c1
    rw [fitB, Bool.and_eq_true, Bool.and_eq_true] at c1
    obtain ⟨⟨s1, s2⟩, s3⟩ := c1
    have S := scOk_sc Ns s1
    have ox := fitB_ord s2
    have ho : 1 ≤ o ∧ o ≤ 8 := by simpa [inB] using s3
    have LB := S.bests (o := o)
    simp -implicitDefEqProofs [CL_ret r1, c1']
    refine CL_post (l11Bests_run S ho) fun v1 h1 ⟨hp1, ho1⟩ => ?_
    have H1 := (Holds.start (h := h)).call hp1 ho1
    obtain ⟨b1, b2, b3, rfl⟩ : ∃ a n c, v1 = .slice a n c := by obtain ⟨a, c, e⟩ := ho1.sees.shape; exact ⟨_, _, _, e⟩
    simp -implicitDefEqProofs
    refine CL_post (l11Values_run (S.pre H1.pre) (hus.pre H1.pre) ox ho) fun v2 h2 ⟨hp2, ho2⟩ => ?_
    have H2 := H1.ext hp2
    simp -implicitDefEqProofs
    refine CL_post (l11Worst_run ho2.sees (H2.sees 0 rfl) ((S.pre H2.pre).ld ox LB)) fun v3 h3 ⟨e3, a3, ev3⟩ => ?_
    subst e3
    subst ev3
    have N0 : Ints h3 (.slice none 0 0) ([] : List Int) := ⟨by simp, none, 0, rfl, .inl ⟨rfl, rfl, rfl⟩⟩
    simp -implicitDefEqProofs
    refine CL_post (l11Least_run ho S.n8 LB (k := len0 xss) (b := sr0) (S.pre H2.pre) N0 (H2.sees 0 rfl) N0 (by simp) (fun x hx => by cases hx) List.nodup_nil (by simp [sr0])) fun v h4 ⟨hp4, hb4, vo4, ev, O4⟩ => ?_
    subst ev
    rw [least_dfs]
    simp -implicitDefEqProofs
    exact onK hK ⟨pre_gcU (H2.pre.trans hp4), rfl⟩
theorem RegretBound_run (N : Nest h v encJ 4 xss vs) (hu : Ints h vo xs) (hn : xss.length ≤ 2 ^ 40) (hi : ∀ x ∈ xss, x.length ≤ 2 ^ 40) (hx : xs.length ≤ 2 ^ 40) :
    RunsC P G n_impl_RegretBound [v, vo, .int .i64 o] h fun v h' => h <+: h' ∧ v = .tuple #[.int .i64 (rgX xss xs o), .bool (fitB xss xs o)] := by
  refine hideC fun K hK => enter_run e_impl_RegretBound (by simp) ?_
  have Ns := N
  have hus := hu
  have r1 := areRobust_run (o := o) Ns hn hi
  have r2 := isOrder_run (n := len0 xss) hus hx
  obtain ⟨oa, c, rfl⟩ := N.shape
  obtain ⟨ob, cb, rfl⟩ := hu.shapeT
  cases c1 : (scOk xss && inB o 1 8)
  · have e : fitB xss xs o = false := by
      rw [fitB, Bool.and_assoc, Bool.and_comm (l2OrderL _ _), ← Bool.and_assoc, c1, Bool.false_and]
    rw [rgX, e] at hK
    simp -implicitDefEqProofs [CL_ret r1, CH_at r1, c1]
    exact onK hK ⟨List.prefix_rfl, rfl⟩
  · have c1' := Bool.and_eq_true_iff.1 c1
    obtain ⟨s1, s3⟩ := c1'
    have e : fitB xss xs o = l2OrderL (len0 xss) xs := by rw [fitB, s1, s3, Bool.true_and, Bool.and_true]
    obtain ⟨l1, l4, n8⟩ := scOk_len s1
    have e2 : l2OrderL (len0 xss) xs = (((xs.length : Int) == (len0 xss : Nat)) && arGo (len0 xss) [] xs) := by
      rw [order_eq n8, l2OrderL, show inB (len0 xss) 0 8 = true by simp [inB]; omega, Bool.true_and]
    obtain ⟨a0, c0, i0, l0⟩ := nest_first Ns (by omega)
    cases c2 : l2OrderL (len0 xss) xs
    · rw [rgX, e, c2] at hK
      rw [← e2, c2] at r2
      simp -implicitDefEqProofs [-indexAddrP_some, CL_ret r1, CH_at r1, s1, s3, i0, l0, CL_ret r2, CH_at r2]
      exact onK hK ⟨List.prefix_rfl, rfl⟩
    · rw [rgX, e, c2, if_pos rfl] at hK
      rw [← e2, c2] at r2
      have S := scOk_sc Ns s1
      have ox := fitB_ord c2
      have ho : 1 ≤ o ∧ o ≤ 8 := by simpa [inB] using s3
      have LB := S.bests (o := o)
      simp -implicitDefEqProofs [-indexAddrP_some, CL_ret r1, CH_at r1, s1, s3, i0, l0, CL_ret r2, CH_at r2]
      refine CL_post (bestValues_run S ho) fun v1 h1 ⟨hp1, ho1⟩ => ?_
      have H1 := (Holds.start (h := h)).call hp1 ho1
      obtain ⟨b1, b2, b3, rfl⟩ : ∃ a n c, v1 = .slice a n c := by obtain ⟨a, c, e⟩ := ho1.sees.shape; exact ⟨_, _, _, e⟩
      simp -implicitDefEqProofs
      refine CL_post (scenarioValues_run (S.pre H1.pre) (hus.pre H1.pre) ox ho) fun v2 h2 ⟨hp2, ho2⟩ => ?_
      have H2 := H1.ext hp2
      simp -implicitDefEqProofs
      refine CL_post (greatest_run ho2.sees (H2.sees 0 rfl) ((S.pre H2.pre).ld ox LB)) fun v3 h3 ⟨e3, a3, ev3⟩ => ?_
      subst e3
      subst ev3
      simp -implicitDefEqProofs
      refine CL_post (leastGreatest_run (S.pre H2.pre) (H2.sees 0 rfl) LB ho) fun v h4 ⟨hp4, vf, ev⟩ => ?_
      subst ev
      simp -implicitDefEqProofs
      exact onK hK ⟨pre_gcU (H2.pre.trans hp4), rfl⟩
end
end Go.Pm.PP

/- The laws' own functions on lists: printed by a program of this work (lawgen.py). -/
set_option linter.unusedVariables false
set_option linter.unusedSimpArgs false
set_option maxRecDepth 4000
set_option maxHeartbeats 2000000
namespace Go.Pm.PP
open Go.Pm Go.Proofs
theorem toIntS_run {h : Hp} {v : Value} {xs : List (Int)} (hv : Sees h v 1 (xs.map encI)) (hn : xs.length ≤ 2 ^ 40) :
    RunsC P G n_laws_toIntS [v] h fun v' h' => Holds h h' [.own v' 1 (xs.map encI)] := by
  refine hideC fun K hK => enter_run e_laws_toIntS (by simp) ?_
  have hvs := hv
  obtain ⟨oa, c, rfl⟩ := hv.shapeT
  obtain ⟨vz, h1, mk, H1, hp1, oz, rfl⟩ := make_I (Holds.start (h := h)) (n := xs.length) hn
  simp -implicitDefEqProofs [mk]
  refine R_loopO (fun m s h' => ∃ i : Nat, i + m = xs.length ∧ s = [(0, .slice oa xs.length c), (3, .slice oz xs.length xs.length), (4, .int .i64 i)] ∧
    Holds h h' [.own (.slice oz xs.length xs.length) 1 ((xs.take i ++ List.replicate (xs.length - i) (0 : Int)).map encI)]) (fun I hI m s h' => ?_) ⟨0, Nat.zero_add _, by simp, by simpa using H1⟩
  rintro ⟨i, hi, rfl, H⟩
  have hEl : (xs.take i ++ List.replicate (xs.length - i) (0 : Int)).length = xs.length := by simp; omega
  by_cases hlt : i < xs.length
  · obtain ⟨y, hy, hd⟩ := drop_at hlt
    obtain ⟨h2, hs2, H2, k2⟩ := put_I H 0 rfl (j := i) (by rw [hEl]; exact hlt) y
    rw [set_next hy] at H2
    obtain ⟨z, hz, _⟩ := drop_at (show i < (xs.take i ++ List.replicate (xs.length - i) (0 : Int)).length by rw [hEl]; exact hlt)
    have ix := (load_I (H.sees 0 rfl) hz).1
    simp -implicitDefEqProofs [-indexAddrP_some, hlt, load_I (hvs.pre H.pre) hy, ix, hs2, winc hlt hn]
    exact ⟨m - 1, by omega, on hI ⟨i + 1, by omega, rfl, H2⟩⟩
  · have hi2 : i = xs.length := by omega
    subst hi2
    rw [List.take_of_length_le (Nat.le_refl _), Nat.sub_self, List.replicate_zero, List.append_nil] at H
    simp -implicitDefEqProofs [hlt]
    exact onK hK (H.gcO fun hp i A hA => by
      match i, hA with
      | 0, hA => cases hA; exact ⟨_, _, _, rfl, hp⟩
      | i + 1, hA => cases hA)
theorem eqIntS_run {h : Hp} {v u : Value} {xs : List (Int)} (hv : Sees h v 1 (xs.map encI)) (hu : Sees h u 1 (xs.map encI)) (hn : xs.length ≤ 2 ^ 40) :
    Ret P G n_laws_eqIntS [v, u] h (.bool true) h := by
  refine enter_run e_laws_eqIntS (by simp) ?_
  have hvs := hv
  have hus := hu
  obtain ⟨oa, c, rfl⟩ := hv.shapeT
  obtain ⟨ob, d, rfl⟩ := hu.shapeT
  simp -implicitDefEqProofs
  refine R_loopO (fun m s h' => ∃ i : Nat, i + m = xs.length ∧ s = [(0, .slice oa xs.length c), (1, .slice ob xs.length d), (5, .int .i64 i)] ∧ h' = h) (fun I hI m s h' => ?_) ⟨0, Nat.zero_add _, by simp, rfl⟩
  rintro ⟨i, hi, rfl, rfl⟩
  by_cases hlt : i < xs.length
  · obtain ⟨y, hy, hd⟩ := drop_at hlt
    simp -implicitDefEqProofs [-indexAddrP_some, hlt, load_I hvs hy, load_I hus hy, winc hlt hn]
    exact ⟨m - 1, by omega, on hI ⟨i + 1, by omega, rfl, rfl⟩⟩
  · simp -implicitDefEqProofs [hlt]
def mkI (k : Int) : Int := k
theorem markIntS_run {h0 h : Hp} {L : List Asn} {v : Value} {xs : List (Int)} {k : Int} (H0 : Holds h0 h L) (i : Nat) (hi0 : L[i]? = some (.own v 1 (xs.map encI))) (hn : xs.length ≤ 2 ^ 40) (h1 : 0 ≤ k) (h2 : k ≤ 2 ^ 50) :
    RunsC P G n_laws_markIntS [v, .int .i64 k] h fun r h' => r = .int .i64 (k + (xs.length : Int)) ∧ Holds h0 h' (L.set i (.own v 1 ((marksT mkI 1 k xs.length).map encI))) := by
  refine hideC fun K hK => enter_run e_laws_markIntS (by simp) ?_
  have hil := (List.getElem?_eq_some_iff.1 hi0).1
  have hget := (List.getElem?_eq_some_iff.1 hi0).2
  obtain ⟨oa, c, ev⟩ := (H0.sees i hi0).shapeT
  subst ev
  simp -implicitDefEqProofs
  refine R_loopO (fun m s h' => ∃ (j : Nat), j + m = xs.length ∧ s = [(0, .slice oa xs.length c), (1, .int .i64 (k + (j : Int))), (5, .int .i64 j)] ∧ Holds h0 h' (L.set i (.own (.slice oa xs.length c) 1 ((marksT mkI 1 k j ++ xs.drop j).map encI)))) (fun I hI m s h' => ?_) ⟨0, Nat.zero_add _, by simp, by
      rw [show (marksT mkI 1 k 0 ++ xs.drop 0) = xs by simp [marksT], ← hget, List.set_getElem_self]; exact H0⟩
  rintro ⟨j, hi, rfl, H⟩
  have hEl : (marksT mkI 1 k j ++ xs.drop j).length = xs.length := by rw [List.length_append, marksT_len, List.length_drop]; omega
  by_cases hlt : j < xs.length
  · obtain ⟨y, hy, hd⟩ := drop_at hlt
    obtain ⟨z, hz, _⟩ := drop_at (show j < (marksT mkI 1 k j ++ xs.drop j).length by rw [hEl]; exact hlt)
    obtain ⟨h2, hs2, H2, k2⟩ := put_I H i (List.getElem?_set_self hil) (j := j) (by rw [hEl]; exact hlt) (k + j)
    rw [List.set_set] at H2
    have ix := (load_I (H.sees i (List.getElem?_set_self hil)) hz).1
    have w1 : IntKind.i64.wrap (k + j + 1) = k + j + 1 := by rw [wrap_ok] <;> omega
    simp -implicitDefEqProofs [-indexAddrP_some, hlt, ix, hs2, w1, winc hlt hn]
    refine ⟨m - 1, by omega, on hI ⟨j + 1, by omega, ?_, ?_⟩⟩
    · rw [show k + j + 1 = k + ((j + 1 : Nat) : Int) by omega]; rfl
    · rw [marks_next (mk := mkI) (n := 1) hy (show mkI (k + (1 : Nat) * (j : Int)) = k + j by simp [mkI])] at H2; exact H2
  · have hj : j = xs.length := by omega
    subst hj
    rw [List.drop_eq_nil_of_le (Nat.le_refl _), List.append_nil] at H
    simp -implicitDefEqProofs [hlt]
    exact onK hK ⟨rfl, H0.gcR H (set_row hi0 rfl)⟩
theorem heldIntS_run {h : Hp} {v : Value} {n : Nat} {k : Int} (hv : Sees h v 1 ((marksT mkI 1 k n).map encI)) (hn : n ≤ 2 ^ 40) (h1 : 0 ≤ k) (h2 : k ≤ 2 ^ 50) :
    Ret P G n_laws_heldIntS [v, .int .i64 k] h (.int .i64 (k + (n : Int))) h := by
  refine enter_run e_laws_heldIntS (by simp) ?_
  have hvs := hv
  obtain ⟨oa, c, ev⟩ := hv.shapeT
  rw [marksT_len] at ev
  subst ev
  simp -implicitDefEqProofs
  refine R_loopO (fun m s h' => ∃ (j : Nat), j + m = n ∧ s = [(0, .slice oa n c), (1, .int .i64 (k + (j : Int))), (5, .int .i64 j)] ∧ h' = h) (fun I hI m s h' => ?_) ⟨0, Nat.zero_add _, by simp, rfl⟩
  rintro ⟨j, hi, rfl, rfl⟩
  by_cases hlt : j < n
  · have w1 : IntKind.i64.wrap (k + j + 1) = k + j + 1 := by rw [wrap_ok] <;> omega
    simp -implicitDefEqProofs [-indexAddrP_some, hlt, load_I hvs (x := k + (j : Int)) (i := j) (by have := marksT_get (mk := mkI) (n := 1) (k := k) hlt; simpa [mkI] using this), w1, winc hlt hn]
    exact ⟨m - 1, by omega, on hI ⟨j + 1, by omega, by rw [show k + (j : Int) + 1 = k + ((j + 1 : Nat) : Int) by omega]; rfl, rfl⟩⟩
  · have hj : j = n := by omega
    subst hj
    simp -implicitDefEqProofs [hlt]
theorem eqIntSS_run {h : Hp} {v u : Value} {xss : List (List (Int))} {vs us : List Value} (hv : Nest h v encI 1 xss vs) (hu : Nest h u encI 1 xss us) (hn : xss.length ≤ 2 ^ 40) (hi : ∀ x ∈ xss, x.length ≤ 2 ^ 40) :
    Ret P G n_laws_eqIntSS [v, u] h (.bool true) h := by
  refine enter_run e_laws_eqIntSS (by simp) ?_
  have hvs := hv
  have hus := hu
  obtain ⟨oa, c, rfl⟩ := hv.shape
  obtain ⟨ob, d, rfl⟩ := hu.shape
  simp -implicitDefEqProofs
  refine R_loopO (fun m s h' => ∃ i : Nat, i + m = xss.length ∧ s = [(0, .slice oa xss.length c), (1, .slice ob xss.length d), (5, .int .i64 i)] ∧ h' = h) (fun I hI m s h' => ?_) ⟨0, Nat.zero_add _, by simp, rfl⟩
  rintro ⟨i, hi', rfl, rfl⟩
  by_cases hlt : i < xss.length
  · obtain ⟨y, hy, hd⟩ := drop_at hlt
    obtain ⟨a, ha, ho⟩ := hvs.at hy
    obtain ⟨b, hb, hp⟩ := hus.at hy
    have e := eqIntS_run ho hp (hi y (List.mem_of_getElem? hy))
    simp -implicitDefEqProofs [-indexAddrP_some, hlt, hvs.load (P := P) u_S_S_int i_S_int a_S_int ha, hus.load (P := P) u_S_S_int i_S_int a_S_int hb, CL_ret e, CH_at e, winc hlt hn]
    exact ⟨m - 1, by omega, on hI ⟨i + 1, by omega, rfl, rfl⟩⟩
  · simp -implicitDefEqProofs [hlt]
theorem markIntSS_run {h0 h : Hp} {L1 L2 : List Asn} {v : Value} {us : List Value} {xss : List (List (Int))} {k : Int} {o : Nat} (H0 : Holds h0 h (L1 ++ (inL encI 1 us xss ++ L2))) (ho : L1[o]? = some (.own v 1 (us.map encV))) (hl : us.length = xss.length) (hn : xss.length ≤ 2 ^ 40) (ht : tot xss ≤ 2 ^ 40) (h1 : 0 ≤ k) (h2 : k ≤ 2 ^ 40) :
    RunsC P G n_laws_markIntSS [v, .int .i64 k] h fun r h' => r = .int .i64 (k + (tot xss : Int)) ∧ Holds h0 h' (L1 ++ (inL encI 1 us (marksN mkI 1 k xss) ++ L2)) := by
  refine hideC fun K hK => enter_run e_laws_markIntSS (by simp) ?_
  have N0 := H0.nest ho hl
  obtain ⟨oa, c, ev⟩ := N0.shape
  subst ev
  simp -implicitDefEqProofs
  refine R_loopO (fun m s h' => ∃ (i : Nat), i + m = xss.length ∧ s = [(0, .slice oa xss.length c), (1, .int .i64 (k + (tot (xss.take i) : Int))), (5, .int .i64 i)] ∧ Holds h0 h' (L1 ++ (inL encI 1 us ((marksN mkI 1 k xss).take i ++ xss.drop i) ++ L2))) (fun I hI m s h' => ?_) ⟨0, Nat.zero_add _, by simp [tot], by simpa using H0⟩
  rintro ⟨i, hi', rfl, H⟩
  have hll : us.length = ((marksN mkI 1 k xss).take i ++ xss.drop i).length := by rw [List.length_append, List.length_take, marksN_len, List.length_drop]; omega
  by_cases hlt : i < xss.length
  · obtain ⟨y, hy, hd⟩ := drop_at hlt
    obtain ⟨u, hu, _⟩ := drop_at (show i < us.length by omega)
    have hy2 : ((marksN mkI 1 k xss).take i ++ xss.drop i)[i]? = some y := by
      have hlk : ((marksN mkI 1 k xss).take i).length = i := by rw [List.length_take, marksN_len]; omega
      rw [List.getElem?_append_right (by omega), hlk, Nat.sub_self, hd]; rfl
    have N1 := H.nest ho hll
    have ix := N1.load (P := P) u_S_S_int i_S_int a_S_int hu
    have hp : (L1 ++ (inL encI 1 us ((marksN mkI 1 k xss).take i ++ xss.drop i) ++ L2))[L1.length + i]? = some (.own u 1 (y.map encI)) := by
      rw [List.getElem?_append_right (by omega), Nat.add_sub_cancel_left, List.getElem?_append_left (by rw [inL_len hll]; omega)]
      exact inL_get hu hy2
    have tt := tot_take_succ hy
    have tl := tot_take_le (xss := xss) (i := i + 1)
    have r := markIntS_run (k := k + (tot (xss.take i) : Int)) H (L1.length + i) hp (Nat.le_trans (tot_mem (List.mem_of_getElem? hy)) ht) (by omega) (by omega)
    simp -implicitDefEqProofs [-indexAddrP_some, hlt, ix]
    refine CL_post r fun rv h2 ⟨er, H2⟩ => ?_
    subst er
    simp -implicitDefEqProofs [winc hlt hn]
    refine ⟨m - 1, by omega, on hI ⟨i + 1, by omega, ?_, ?_⟩⟩
    · rw [tt, Int.natCast_add]
      simp only [Int.mul_add, Int.add_assoc]
      rfl
    · have hse := List.set_append_right (s := L1) (t := inL encI 1 us ((marksN mkI 1 k xss).take i ++ xss.drop i) ++ L2) (i := L1.length + i) (x := .own u 1 ((marksT mkI 1 (k + (tot (xss.take i) : Int)) y.length).map encI)) (by omega)
      have hil : i < (inL encI 1 us ((marksN mkI 1 k xss).take i ++ xss.drop i)).length := by rw [inL_len hll]; omega
      rw [hse, Nat.add_sub_cancel_left, List.set_append_left _ _ hil, inL_set hu hll] at H2
      have hm : ((marksN mkI 1 k xss).take i ++ xss.drop i).set i (marksT mkI 1 (k + (tot (xss.take i) : Int)) y.length) = (marksN mkI 1 k xss).take (i + 1) ++ xss.drop (i + 1) := by
        have hlk : ((marksN mkI 1 k xss).take i).length = i := by rw [List.length_take, marksN_len]; omega
        have hs2 := List.set_append_right (s := (marksN mkI 1 k xss).take i) (t := xss.drop i) (i := i) (x := marksT mkI 1 (k + (tot (xss.take i) : Int)) y.length) (by omega)
        have hg := marksN_get (mk := mkI) (n := 1) (k := k) hy
        rw [hs2, hlk, Nat.sub_self, hd, List.set_cons_zero, take_succ' hg, List.append_assoc]
        simp
      rw [hm] at H2
      exact H2
  · rw [List.drop_eq_nil_of_le (by omega), List.append_nil, List.take_of_length_le (by rw [marksN_len]; omega)] at H
    rw [List.take_of_length_le (by omega)]
    simp -implicitDefEqProofs [hlt]
    refine onK hK ⟨rfl, H0.gcR H ?_⟩
    rw [List.map_append, List.map_append, List.map_append, List.map_append, inL_row (ys := xss) (by rw [marksN_len]; exact hl) hl]
end Go.Pm.PP

/- The laws' own functions on structs of numbers: printed by a program of this work (lawrec.py). -/
set_option linter.unusedVariables false
set_option linter.unusedSimpArgs false
set_option maxRecDepth 4000
set_option maxHeartbeats 4000000
namespace Go.Pm.PP
open Go.Pm Go.Proofs 
theorem szJobS_run {h : Hp} {v : Value} {xs : List Job} {left : Int} (hv : Sees h v 4 (xs.map encJ)) (hn : xs.length < 2 ^ 63) (h0 : 0 ≤ left) (h1 : left ≤ 2 ^ 20) :
    Ret P G n_laws_szJobS [v, .int .i64 left] h (.int .i64 (szL left xs.length)) h := by
  refine enter_run e_laws_szJobS (by simp) ?_
  obtain ⟨oj, cj, rfl⟩ := hv.shapeT
  have w : IntKind.i64.wrap (left - xs.length) = left - xs.length := by rw [wrap_ok] <;> omega
  cases h2 : decide (left - (xs.length : Int) < 0) <;> simp -implicitDefEqProofs [w, h2, szL] <;> simp at h2 <;> omega
theorem toJob_run {h : Hp} {x : Job} : Ret P G n_laws_toJob [jv x] h (jv x) h := by
  refine enter_run e_laws_toJob (by simp) ?_
  simp -implicitDefEqProofs
  refine gc_app _ _ _ (by simp)
theorem toJobS_run {h : Hp} {v : Value} {xs : List Job} (hv : Sees h v 4 (xs.map encJ)) (hn : xs.length ≤ 2 ^ 40) :
    RunsC P G n_laws_toJobS [v] h fun v' h' => Holds h h' [.own v' 4 (xs.map encJ)] := by
  refine hideC fun K hK => enter_run e_laws_toJobS (by simp) ?_
  have hvs := hv
  obtain ⟨oa, c, rfl⟩ := hv.shapeT
  obtain ⟨vz, h1, mk, H1, hp1, oz, rfl⟩ := make_J (Holds.start (h := h)) (n := xs.length) hn
  simp -implicitDefEqProofs [mk]
  refine R_loopO (fun m s h' => ∃ i : Nat, i + m = xs.length ∧ s = [(0, .slice oa xs.length c), (3, .slice oz xs.length xs.length), (4, .int .i64 i)] ∧
    Holds h h' [.own (.slice oz xs.length xs.length) 4 ((xs.take i ++ List.replicate (xs.length - i) (⟨0, 0, 0, 0⟩ : Job)).map encJ)]) (fun I hI m s h' => ?_) ⟨0, Nat.zero_add _, by simp, by simpa using H1⟩
  rintro ⟨i, hi, rfl, H⟩
  have hEl : (xs.take i ++ List.replicate (xs.length - i) (⟨0, 0, 0, 0⟩ : Job)).length = xs.length := by simp; omega
  by_cases hlt : i < xs.length
  · obtain ⟨y, hy, hd⟩ := drop_at hlt
    obtain ⟨h2, hs2, H2, k2⟩ := put_J H 0 rfl (j := i) (by rw [hEl]; exact hlt) y
    rw [set_next hy] at H2
    obtain ⟨z, hz, _⟩ := drop_at (show i < (xs.take i ++ List.replicate (xs.length - i) (⟨0, 0, 0, 0⟩ : Job)).length by rw [hEl]; exact hlt)
    have ix := (load_J (H.sees 0 rfl) hz).1
    simp -implicitDefEqProofs [-indexAddrP_some, hlt, load_lJ (hvs.pre H.pre) hy, CL_ret toJob_run, ix, hs2, winc hlt hn]
    exact ⟨m - 1, by omega, on hI ⟨i + 1, by omega, rfl, H2⟩⟩
  · have hi2 : i = xs.length := by omega
    subst hi2
    rw [List.take_of_length_le (Nat.le_refl _), Nat.sub_self, List.replicate_zero, List.append_nil] at H
    simp -implicitDefEqProofs [hlt]
    exact onK hK (H.gcO fun hp i A hA => by
      match i, hA with
      | 0, hA => cases hA; exact ⟨_, _, _, rfl, hp⟩
      | i + 1, hA => cases hA)
theorem eqJob_run {h : Hp} {x : Job} : Ret P G n_laws_eqJob [jv x, jv x] h (.bool true) h := by
  refine enter_run e_laws_eqJob (by simp) ?_
  simp -implicitDefEqProofs
theorem eqJobS_run {h : Hp} {v u : Value} {xs : List Job} (hv : Sees h v 4 (xs.map encJ)) (hu : Sees h u 4 (xs.map encJ)) (hn : xs.length ≤ 2 ^ 40) :
    Ret P G n_laws_eqJobS [v, u] h (.bool true) h := by
  refine enter_run e_laws_eqJobS (by simp) ?_
  have hvs := hv
  have hus := hu
  obtain ⟨oa, c, rfl⟩ := hv.shapeT
  obtain ⟨ob, d, rfl⟩ := hu.shapeT
  simp -implicitDefEqProofs
  refine R_loopO (fun m s h' => ∃ i : Nat, i + m = xs.length ∧ s = [(0, .slice oa xs.length c), (1, .slice ob xs.length d), (5, .int .i64 i)] ∧ h' = h) (fun I hI m s h' => ?_) ⟨0, Nat.zero_add _, by simp, rfl⟩
  rintro ⟨i, hi, rfl, rfl⟩
  by_cases hlt : i < xs.length
  · obtain ⟨y, hy, hd⟩ := drop_at hlt
    simp -implicitDefEqProofs [-indexAddrP_some, hlt, load_J hvs hy, load_J hus hy, CL_ret eqJob_run, CH_ret eqJob_run, winc hlt hn]
    exact ⟨m - 1, by omega, on hI ⟨i + 1, by omega, rfl, rfl⟩⟩
  · simp -implicitDefEqProofs [hlt]
def mkJ (k : Int) : Job := ⟨k, k + 1, k + 1 + 1, k + 1 + 1 + 1⟩
theorem markJobS_run {h0 h : Hp} {L : List Asn} {v : Value} {xs : List Job} {k : Int} (H0 : Holds h0 h L) (i : Nat) (hi0 : L[i]? = some (.own v 4 (xs.map encJ))) (hn : xs.length ≤ 2 ^ 40) (h1 : 0 ≤ k) (h2 : k ≤ 2 ^ 50) :
    RunsC P G n_laws_markJobS [v, .int .i64 k] h fun r h' => r = .int .i64 (k + 4 * (xs.length : Int)) ∧ Holds h0 h' (L.set i (.own v 4 ((marksT mkJ 4 k xs.length).map encJ))) := by
  refine hideC fun K hK => enter_run e_laws_markJobS (by simp) ?_
  have hil := (List.getElem?_eq_some_iff.1 hi0).1
  have hget := (List.getElem?_eq_some_iff.1 hi0).2
  obtain ⟨oa, c, ev⟩ := (H0.sees i hi0).shapeT
  subst ev
  simp -implicitDefEqProofs
  refine R_loopO (fun m s h' => ∃ (j : Nat), j + m = xs.length ∧ s = [(0, .slice oa xs.length c), (1, .int .i64 (k + 4 * (j : Int))), (5, .int .i64 j)] ∧ Holds h0 h' (L.set i (.own (.slice oa xs.length c) 4 ((marksT mkJ 4 k j ++ xs.drop j).map encJ)))) (fun I hI m s h' => ?_) ⟨0, Nat.zero_add _, by simp, by
      rw [show (marksT mkJ 4 k 0 ++ xs.drop 0) = xs by simp [marksT], ← hget, List.set_getElem_self]; exact H0⟩
  rintro ⟨j, hi, rfl, H⟩
  have hEl : (marksT mkJ 4 k j ++ xs.drop j).length = xs.length := by rw [List.length_append, marksT_len, List.length_drop]; omega
  by_cases hlt : j < xs.length
  · obtain ⟨y, hy, hd⟩ := drop_at hlt
    obtain ⟨z, z0, _⟩ := drop_at (show j < (marksT mkJ 4 k j ++ xs.drop j).length by rw [hEl]; exact hlt)
    obtain ⟨g1, s1, A1, _⟩ := fput_J0 H i (List.getElem?_set_self hil) z0 (k + 4 * (j : Int))
    rw [List.set_set] at A1
    have B1 : Holds h0 g1 (L.set i (.own (.slice oa xs.length c) 4 (((marksT mkJ 4 k j ++ xs.drop j).set j (⟨k + 4 * (j : Int), z.w, z.r, z.d⟩ : Job)).map encJ))) := A1
    have z1 : ((marksT mkJ 4 k j ++ xs.drop j).set j (⟨k + 4 * (j : Int), z.w, z.r, z.d⟩ : Job))[j]? = some (⟨k + 4 * (j : Int), z.w, z.r, z.d⟩ : Job) := List.getElem?_set_self (by rw [hEl]; exact hlt)
    have i0 := (load_J (H.sees i (List.getElem?_set_self hil)) z0).1
    have w1 : IntKind.i64.wrap (k + 4 * (j : Int) + 1) = k + 4 * (j : Int) + 1 := by rw [wrap_ok] <;> omega
    obtain ⟨g2, s2, A2, _⟩ := fput_J1 B1 i (List.getElem?_set_self hil) z1 (k + 4 * (j : Int) + 1)
    rw [List.set_set, List.set_set] at A2
    have B2 : Holds h0 g2 (L.set i (.own (.slice oa xs.length c) 4 (((marksT mkJ 4 k j ++ xs.drop j).set j (⟨k + 4 * (j : Int), k + 4 * (j : Int) + 1, z.r, z.d⟩ : Job)).map encJ))) := A2
    have z2 : ((marksT mkJ 4 k j ++ xs.drop j).set j (⟨k + 4 * (j : Int), k + 4 * (j : Int) + 1, z.r, z.d⟩ : Job))[j]? = some (⟨k + 4 * (j : Int), k + 4 * (j : Int) + 1, z.r, z.d⟩ : Job) := List.getElem?_set_self (by rw [hEl]; exact hlt)
    have i1 := (load_J (B1.sees i (List.getElem?_set_self hil)) z1).1
    have w2 : IntKind.i64.wrap (k + 4 * (j : Int) + 1 + 1) = k + 4 * (j : Int) + 1 + 1 := by rw [wrap_ok] <;> omega
    obtain ⟨g3, s3, A3, _⟩ := fput_J2 B2 i (List.getElem?_set_self hil) z2 (k + 4 * (j : Int) + 1 + 1)
    rw [List.set_set, List.set_set] at A3
    have B3 : Holds h0 g3 (L.set i (.own (.slice oa xs.length c) 4 (((marksT mkJ 4 k j ++ xs.drop j).set j (⟨k + 4 * (j : Int), k + 4 * (j : Int) + 1, k + 4 * (j : Int) + 1 + 1, z.d⟩ : Job)).map encJ))) := A3
    have z3 : ((marksT mkJ 4 k j ++ xs.drop j).set j (⟨k + 4 * (j : Int), k + 4 * (j : Int) + 1, k + 4 * (j : Int) + 1 + 1, z.d⟩ : Job))[j]? = some (⟨k + 4 * (j : Int), k + 4 * (j : Int) + 1, k + 4 * (j : Int) + 1 + 1, z.d⟩ : Job) := List.getElem?_set_self (by rw [hEl]; exact hlt)
    have i2 := (load_J (B2.sees i (List.getElem?_set_self hil)) z2).1
    have w3 : IntKind.i64.wrap (k + 4 * (j : Int) + 1 + 1 + 1) = k + 4 * (j : Int) + 1 + 1 + 1 := by rw [wrap_ok] <;> omega
    obtain ⟨g4, s4, A4, _⟩ := fput_J3 B3 i (List.getElem?_set_self hil) z3 (k + 4 * (j : Int) + 1 + 1 + 1)
    rw [List.set_set, List.set_set] at A4
    have B4 : Holds h0 g4 (L.set i (.own (.slice oa xs.length c) 4 (((marksT mkJ 4 k j ++ xs.drop j).set j (⟨k + 4 * (j : Int), k + 4 * (j : Int) + 1, k + 4 * (j : Int) + 1 + 1, k + 4 * (j : Int) + 1 + 1 + 1⟩ : Job)).map encJ))) := A4
    have i3 := (load_J (B3.sees i (List.getElem?_set_self hil)) z3).1
    have w4 : IntKind.i64.wrap (k + 4 * (j : Int) + 1 + 1 + 1 + 1) = k + 4 * (j : Int) + 1 + 1 + 1 + 1 := by rw [wrap_ok] <;> omega
    simp -implicitDefEqProofs [-indexAddrP_some, hlt, i0, s1, w1, i1, s2, w2, i2, s3, w3, i3, s4, w4, winc hlt hn]
    refine ⟨m - 1, by omega, on hI ⟨j + 1, by omega, ?_, ?_⟩⟩
    · rw [show k + 4 * (j : Int) + 1 + 1 + 1 + 1 = k + 4 * ((j + 1 : Nat) : Int) by omega]; rfl
    · rw [marks_next (mk := mkJ) (n := 4) hy (show mkJ (k + (4 : Nat) * (j : Int)) = (⟨k + 4 * (j : Int), k + 4 * (j : Int) + 1, k + 4 * (j : Int) + 1 + 1, k + 4 * (j : Int) + 1 + 1 + 1⟩ : Job) by simp [mkJ])] at B4; exact B4
  · have hj : j = xs.length := by omega
    subst hj
    rw [List.drop_eq_nil_of_le (Nat.le_refl _), List.append_nil] at H
    simp -implicitDefEqProofs [hlt]
    exact onK hK ⟨rfl, H0.gcR H (set_row hi0 rfl)⟩
end Go.Pm.PP

/- The laws' own functions on lists: printed by a program of this work (lawgen.py). -/
set_option linter.unusedVariables false
set_option linter.unusedSimpArgs false
set_option maxRecDepth 4000
set_option maxHeartbeats 2000000
namespace Go.Pm.PP
open Go.Pm Go.Proofs
theorem szJobSS_run {h : Hp} {v : Value} {xss : List (List (Job))} {vs : List Value} {left : Int} (N : Nest h v encJ 4 xss vs) (hn : xss.length < 2 ^ 63) (hi : ∀ x ∈ xss, x.length < 2 ^ 63) (h0 : 0 ≤ left) (h1 : left ≤ 2 ^ 20) :
    Ret P G n_laws_szJobSS [v, .int .i64 left] h (.int .i64 (szN left xss)) h := by
  refine enter_run e_laws_szJobSS (by simp) ?_
  have Ns := N
  obtain ⟨oj, cj, rfl⟩ := N.shape
  have w : IntKind.i64.wrap (left - xss.length) = left - xss.length := by rw [wrap_ok] <;> omega
  by_cases h2 : left - (xss.length : Int) < 0
  · simp -implicitDefEqProofs [w, h2, szN]
  · have hsz : szN left xss = szGo (left - xss.length) xss := by rw [szN, if_neg h2]
    rw [hsz]
    simp -implicitDefEqProofs [w, h2]
    refine R_loopO (fun m s h' => ∃ (i : Nat) (l : Int), i + m = xss.length ∧ s = [(0, .slice oj xss.length cj), (1, .int .i64 l), (5, .int .i64 i)] ∧ h' = h ∧ 0 ≤ l ∧ l ≤ 2 ^ 20 ∧ szGo (left - xss.length) xss = szGo l (xss.drop i)) (fun I hI m s h' => ?_) ⟨0, left - xss.length, Nat.zero_add _, by simp, rfl, by omega, by omega, by simp⟩
    rintro ⟨i, l, hi', rfl, rfl, l0, l1, hx⟩
    by_cases hlt : i < xss.length
    · obtain ⟨y, hy, hd⟩ := drop_at hlt
      rw [hd, szGo] at hx
      obtain ⟨u, hu, ho⟩ := Ns.at hy
      obtain ⟨g1, g2⟩ := Ns.load (P := P) u_S_S_laws_Job i_S_laws_Job a_S_laws_Job hu
      have r := szJobS_run (left := l) ho (hi y (List.mem_of_getElem? hy)) l0 l1
      have wi := winc hlt (show xss.length ≤ 2 ^ 40 by omega)
      by_cases h3 : l - (y.length : Int) < 0
      · rw [if_pos h3] at hx
        simp -implicitDefEqProofs [-indexAddrP_some, hlt, g1, g2, CL_ret r, szL, h3, hx]
      · rw [if_neg h3] at hx
        simp -implicitDefEqProofs [-indexAddrP_some, hlt, g1, g2, CL_ret r, szL, h3, wi]
        exact ⟨m - 1, by omega, on hI ⟨i + 1, l - y.length, by omega, rfl, rfl, by omega, by omega, hx⟩⟩
    · rw [List.drop_eq_nil_of_le (by omega), szGo] at hx
      simp -implicitDefEqProofs [hlt, hx]
theorem toJobSS_run {h : Hp} {v : Value} {xss : List (List (Job))} {vs : List Value} (N : Nest h v encJ 4 xss vs) (hn : xss.length ≤ 2 ^ 40) (hi : ∀ x ∈ xss, x.length ≤ 2 ^ 40) :
    RunsC P G n_laws_toJobSS [v] h fun v' h' => ∃ us : List Value, us.length = xss.length ∧ Holds h h' (.own v' 1 (us.map encV) :: inL encJ 4 us xss) := by
  refine hideC fun K hK => enter_run e_laws_toJobSS (by simp) ?_
  have Ns := N
  obtain ⟨oa, c, rfl⟩ := N.shape
  obtain ⟨vz, h1, mk, H1, hp1, oz, rfl⟩ := makeN_NJ (Holds.start (h := h)) (n := xss.length) hn
  simp -implicitDefEqProofs [mk]
  refine R_loopO (fun m s h' => ∃ (i : Nat) (us : List Value), i + m = xss.length ∧ s = [(0, .slice oa xss.length c), (3, .slice oz xss.length xss.length), (4, .int .i64 i)] ∧ us.length = i ∧
    Holds h h' (.own (.slice oz xss.length xss.length) 1 ((us ++ List.replicate (xss.length - i) (Value.slice none 0 0)).map encV) :: inL encJ 4 us (xss.take i))) (fun I hI m s h' => ?_) ⟨0, [], Nat.zero_add _, by simp, rfl, by simpa [inL] using H1⟩
  rintro ⟨i, us, hi', rfl, hus, H⟩
  have hEl : (us ++ List.replicate (xss.length - i) (Value.slice none 0 0)).length = xss.length := by simp; omega
  by_cases hlt : i < xss.length
  · obtain ⟨y, hy, hd⟩ := drop_at hlt
    have Np := Ns.pre H.pre
    obtain ⟨u, hu, ho⟩ := Np.at hy
    obtain ⟨g1, g2⟩ := Np.load (P := P) u_S_S_laws_Job i_S_laws_Job a_S_laws_Job hu
    simp -implicitDefEqProofs [-indexAddrP_some, hlt, g1, g2]
    refine CL_post (toJobS_run ho (hi y (List.mem_of_getElem? hy))) fun u2 h2 C => ?_
    have H2 := H.join C
    obtain ⟨a2, n2, c2, rfl⟩ : ∃ a n c, u2 = .slice a n c := by obtain ⟨a, c, e⟩ := (C.sees 0 rfl).shape; exact ⟨_, _, _, e⟩
    obtain ⟨z, hz, _⟩ := drop_at (show i < (us ++ List.replicate (xss.length - i) (Value.slice none 0 0)).length by rw [hEl]; exact hlt)
    have ix := (load_NJ (H2.sees 0 rfl) hz).1
    obtain ⟨h3, hs3, H3, k3⟩ := put_NJ H2 0 rfl (j := i) (by rw [hEl]; exact hlt) (.slice a2 n2 c2) rfl
    have hset : (us ++ List.replicate (xss.length - i) (Value.slice none 0 0)).set i (.slice a2 n2 c2) = (us ++ [.slice a2 n2 c2]) ++ List.replicate (xss.length - (i + 1)) (.slice none 0 0) := by
      have hse := List.set_append_right (s := us) (t := List.replicate (xss.length - i) (Value.slice none 0 0)) (i := i) (x := .slice a2 n2 c2) (by omega)
      rw [hse, hus, Nat.sub_self, show xss.length - i = (xss.length - (i + 1)) + 1 by omega, List.replicate_succ, List.set_cons_zero]
      simp
    have hin : inL encJ 4 (us ++ [.slice a2 n2 c2]) (xss.take (i + 1)) = inL encJ 4 us (xss.take i) ++ [.own (.slice a2 n2 c2) 4 (y.map encJ)] := by
      rw [take_succ' hy]; exact inL_snoc (by simp; omega)
    simp -implicitDefEqProofs [-indexAddrP_some, ix, hs3, winc hlt hn]
    refine ⟨m - 1, by omega, on hI ⟨i + 1, us ++ [.slice a2 n2 c2], by omega, rfl, by simp; omega, ?_⟩⟩
    rw [hin, ← hset]
    exact H3
  · have hi2 : i = xss.length := by omega
    subst hi2
    rw [List.take_of_length_le (Nat.le_refl _), Nat.sub_self, List.replicate_zero, List.append_nil] at H
    simp -implicitDefEqProofs [hlt]
    refine onK hK ⟨us, hus, ?_⟩
    refine H.gcO fun hp i A hA => ?_
    have hv0 : us = [] := by
      have ho := H.own 0 rfl
      rcases ho.2 with ⟨_, h2⟩ | ⟨_, _, _, _, _, h2, _⟩
      · simpa using h2
      · rw [h2] at hp; cases hp
    subst hv0
    have hx0 : xss = [] := List.eq_nil_of_length_eq_zero (by simpa using hus.symm)
    subst hx0
    match i, hA with
    | 0, hA => cases hA; exact ⟨_, _, _, rfl, hp⟩
    | i + 1, hA => cases hA
theorem eqJobSS_run {h : Hp} {v u : Value} {xss : List (List (Job))} {vs us : List Value} (hv : Nest h v encJ 4 xss vs) (hu : Nest h u encJ 4 xss us) (hn : xss.length ≤ 2 ^ 40) (hi : ∀ x ∈ xss, x.length ≤ 2 ^ 40) :
    Ret P G n_laws_eqJobSS [v, u] h (.bool true) h := by
  refine enter_run e_laws_eqJobSS (by simp) ?_
  have hvs := hv
  have hus := hu
  obtain ⟨oa, c, rfl⟩ := hv.shape
  obtain ⟨ob, d, rfl⟩ := hu.shape
  simp -implicitDefEqProofs
  refine R_loopO (fun m s h' => ∃ i : Nat, i + m = xss.length ∧ s = [(0, .slice oa xss.length c), (1, .slice ob xss.length d), (5, .int .i64 i)] ∧ h' = h) (fun I hI m s h' => ?_) ⟨0, Nat.zero_add _, by simp, rfl⟩
  rintro ⟨i, hi', rfl, rfl⟩
  by_cases hlt : i < xss.length
  · obtain ⟨y, hy, hd⟩ := drop_at hlt
    obtain ⟨a, ha, ho⟩ := hvs.at hy
    obtain ⟨b, hb, hp⟩ := hus.at hy
    have e := eqJobS_run ho hp (hi y (List.mem_of_getElem? hy))
    simp -implicitDefEqProofs [-indexAddrP_some, hlt, hvs.load (P := P) u_S_S_impl_Job i_S_impl_Job a_S_impl_Job ha, hus.load (P := P) u_S_S_impl_Job i_S_impl_Job a_S_impl_Job hb, CL_ret e, CH_at e, winc hlt hn]
    exact ⟨m - 1, by omega, on hI ⟨i + 1, by omega, rfl, rfl⟩⟩
  · simp -implicitDefEqProofs [hlt]
end Go.Pm.PP

/- FnExactRegretBound in the small machine. -/
set_option linter.unusedVariables false
set_option linter.unusedSimpArgs false
set_option maxRecDepth 4000
set_option maxHeartbeats 4000000
namespace Go.Pm.PP
open Go.Pm Go.Proofs
theorem law_RegretBound {h : Hp} {vj vo : Value} {xss : List (List Job)} {vs : List Value} {xs : List Int} {o : Int} (NJ : Nest h vj encJ 4 xss vs) (ho : Ints h vo xs) (l1 : xss.length < 2 ^ 63) (l2 : ∀ x ∈ xss, x.length < 2 ^ 63) :
    Ret P G n_laws_FnExactRegretBound [vj, vo, .int .i64 o] h (.bool true) h := by
  refine enter_run e_laws_FnExactRegretBound (by simp) ?_
  have NJs := NJ
  have hos := ho
  obtain ⟨oa, ca, rfl⟩ := NJ.shape
  obtain ⟨oo, co, rfl⟩ := ho.shapeT
  by_cases c0 : 1048576 < xs.length
  · have c0' : (1048576 : Int) < xs.length := by omega
    simp -implicitDefEqProofs [c0, c0']
  have c0' : ¬ (1048576 : Int) < xs.length := by omega
  have z1 := szJobSS_run (left := 1048576) NJs l1 l2 (by omega) (by omega)
  by_cases c1 : szN 1048576 xss < 0
  · simp -implicitDefEqProofs [c0, c0', CL_ret z1, c1]
  have e1 := szN_ok c1
  have b1 : xss.length ≤ 2 ^ 40 := by omega
  have b2 : ∀ x ∈ xss, x.length ≤ 2 ^ 40 := fun x hx => by have := tot_mem hx; omega
  have b3 : xs.length ≤ 2 ^ 40 := by omega
  have toS : ∀ {h' : Hp}, h <+: h' → RunsC P G n_laws_toJobSS [.slice oa xss.length ca] h' fun v h2 => ∃ us : List Value, us.length = xss.length ∧ Holds h' h2 (.own v 1 (us.map encV) :: inL encJ 4 us xss) := fun hp => toJobSS_run (NJs.pre hp) b1 b2
  obtain ⟨X, hX⟩ : ∃ X, X = rgX xss xs o := ⟨_, rfl⟩
  obtain ⟨B, hB⟩ : ∃ B, B = fitB xss xs o := ⟨_, rfl⟩
  -- the reference
  simp -implicitDefEqProofs [c0, c0', CL_ret z1, c1]
  refine CL_post (toS List.prefix_rfl) fun v1 h1 ⟨u1, hu1, C1⟩ => ?_
  simp -implicitDefEqProofs
  refine CL_post (toIntS_run (hos.pre C1.pre) b3) fun v2 h2 C2 => ?_
  simp -implicitDefEqProofs
  refine CL_post (spec_RegretBound_run (o := o) (Holds.nest (L1 := [_]) (L2 := []) (o := 0) (C1.ext C2.pre).open rfl hu1) (C2.sees 0 rfl) b1 b2 b3) fun v h3 ⟨p3, ev⟩ => ?_
  subst ev
  rw [← hX, ← hB]
  have H1 := (Holds.start (h := h)).ext (C1.pre.trans (C2.pre.trans p3))
  -- the copies
  simp -implicitDefEqProofs
  refine CL_post (toS H1.pre) fun v4 h4 ⟨u4, hu4, C4⟩ => ?_
  obtain ⟨x1, x2, x3, rfl⟩ : ∃ a n c, v4 = .slice a n c := by obtain ⟨a, c, e⟩ := (C4.sees 0 rfl).shape; exact ⟨_, _, _, e⟩
  simp -implicitDefEqProofs
  refine CL_post (toIntS_run (hos.pre (H1.pre.trans C4.pre)) b3) fun v5 h5 C5 => ?_
  obtain ⟨y1, y2, y3, rfl⟩ : ∃ a n c, v5 = .slice a n c := by obtain ⟨a, c, e⟩ := (C5.sees 0 rfl).shape; exact ⟨_, _, _, e⟩
  have N5 := Holds.nest (L1 := [_]) (L2 := []) (o := 0) (C4.ext C5.pre).open rfl hu4
  -- the program
  simp -implicitDefEqProofs
  refine CL_post (RegretBound_run (o := o) N5 (C5.sees 0 rfl) b1 b2 b3) fun v h6 ⟨p6, ev⟩ => ?_
  subst ev
  rw [← hX, ← hB]
  have hp6 : h <+: h6 := H1.pre.trans (C4.pre.trans (C5.pre.trans p6))
  simp -implicitDefEqProofs
  -- the copies are as they were
  refine CL_post (toS hp6) fun v7 h7 ⟨u7, hu7, C7⟩ => ?_
  have q2 := eqJobSS_run (N5.pre (p6.trans C7.pre)) (Holds.nest (L1 := [_]) (L2 := []) (o := 0) C7.open rfl hu7) b1 b2
  simp -implicitDefEqProofs [CL_ret q2]
  refine CL_post (toIntS_run (hos.pre (hp6.trans C7.pre)) b3) fun v8 h8 C8 => ?_
  have q3 := eqIntS_run ((C5.sees 0 rfl).pre (p6.trans (C7.pre.trans C8.pre))) (C8.sees 0 rfl) b3
  simp -implicitDefEqProofs [CL_ret q3]
  exact gcP (hp6.trans (C7.pre.trans C8.pre)) rfl
end Go.Pm.PP
