/- The texts PwY, Pw1, Pw2, Pw3, Pw4, Pw5, Pw6, Pw7, Pw8, Pw9, Ps1, Ps2, Ps3, Ps4, Ps5, Ps6, Ps7, Ps8, Ps9, PsA, PsB, PsC, PwXa, PwXb, PwXd of this work: The best order of jobs: both. -/
import Derived.Test.YtjjjalkfpajckaaP6
/- The best order of jobs: both. -/
set_option linter.unusedVariables false
set_option linter.unusedSimpArgs false
set_option maxRecDepth 4000
set_option maxHeartbeats 8000000
namespace Go.Pm.PE
theorem perms_perm : ∀ {n : Nat} {l p : List Int}, l.length = n → p ∈ perms l n → p.Perm l
  | 0, l, p, h, hp => by
    rw [List.eq_nil_of_length_eq_zero h]
    simp [perms] at hp
    rw [hp]
  | n + 1, l, p, h, hp => by
    rw [perms, List.mem_flatMap] at hp
    obtain ⟨i, hi, hp⟩ := hp
    have hi : i < l.length := by simpa [List.mem_range'_1] using hi
    obtain ⟨q, hq, rfl⟩ := List.mem_map.1 hp
    have h1 := perms_perm (by rw [List.length_eraseIdx_of_lt hi]; omega) hq
    obtain ⟨x, hx, hd⟩ := drop_at hi
    rw [hx, Option.getD_some]
    refine (List.Perm.cons x h1).trans ?_
    have e : l = l.take i ++ x :: l.drop (i + 1) := by conv => lhs; rw [← List.take_append_drop i l, hd]
    rw [List.eraseIdx_eq_take_drop_succ]
    conv => rhs; rw [e]
    exact List.perm_middle.symm
end Go.Pm.PE
namespace Go.Pm
/-- What stands in between is let go. -/
theorem Holds.cut {h0 h : Hp} {A B C : List Asn} (H : Holds h0 h ((A ++ B) ++ C)) : Holds h0 h (A ++ C) := by
  refine Holds.weak (T := B) (H.perm ?_)
  rw [List.append_assoc, List.append_assoc]
  exact List.Perm.append_left A List.perm_append_comm
end Go.Pm
namespace Go.Pm.PP
open Go.Pm Go.Proofs Go.Pm.PE
def ordsL (n : Nat) : List (List Int) := perms (upTo n) n
theorem up_rem {n : Nat} : rem n [] = upTo n := by rw [rem_nil, upTo, List.range_eq_range']
theorem up_asc {n : Nat} : (upTo n).Pairwise (· < ·) := by
  refine List.Pairwise.map _ (fun a b h => ?_) List.pairwise_lt_range
  omega
theorem ords_ord {n : Nat} {xs : List Int} (h : xs ∈ ordsL n) : Ord n xs := by
  have p := perms_perm (upTo_len n) h
  exact ⟨by rw [p.length_eq, upTo_len], fun x hx => mem_upTo.1 (p.mem_iff.1 hx), p.nodup_iff.2 (upTo_nodup n)⟩
def sr0 : Sr := ⟨[], 0, 0⟩
def bestR (f : List Int → Int) (n : Nat) : Sr := (ordsL n).foldl (updS f) sr0
theorem best_dfs {f : List Int → Int} {n : Nat} : dfs (updS f) n n [] sr0 = bestR f n := by
  rw [dfs_perms (by rw [up_rem, upTo_len]), up_rem]; rfl
def bestV (o : Int) (js : List Job) : Int := (bestR (valX o js) js.length).v
theorem l2All_run {h : Hp} {vj : Value} {js : List Job} {o : Int} (J : Jobs h vj js) (hg : goodL js = true) (hn : js.length ≤ 8) (ho : 1 ≤ o ∧ o ≤ 8) : RunsC P G n_spec_l2All [vj, .int .i64 o] h fun v h' => h <+: h' ∧ ∃ a c, v = sv3 (.slice a (bestR (valX o js) js.length).o.length c) (bestR (valX o js) js.length) ∧ Ints h' (.slice a (bestR (valX o js) js.length).o.length c) (bestR (valX o js) js.length).o := by
  refine hideC fun K hK => enter_run e_spec_l2All (by simp) ?_
  have Js := J
  obtain ⟨oj, cj, rfl⟩ := J.shapeT
  have H0 := Holds.start.alloc [.slice none 0 0, .int .i64 0, .int .i64 0] (h := h)
  have N0 : Ints (h ++ [some ⟨[.slice none 0 0, .int .i64 0, .int .i64 0], 0, false⟩]) (.slice none 0 0) ([] : List Int) := ⟨by simp, none, 0, rfl, .inl ⟨rfl, rfl, rfl⟩⟩
  have r := l2Try_run hg hn ho (k := js.length) (b := sr0) (Js.pre H0.pre) N0 N0 (by simp) (fun x hx => by cases hx) List.nodup_nil (by simp [sr0])
  simp -implicitDefEqProofs
  refine CL_post r fun v h1 ⟨hp1, hb1, vo, ev, O1⟩ => ?_
  subst ev
  rw [best_dfs] at O1 hb1
  have O1s := O1
  obtain ⟨a, c, rfl⟩ := O1.shapeT
  have H1 := H0.ext hp1
  obtain ⟨h2, s2, H2, k2⟩ := H1.set (P := P) 0 (n := 3) (o := 0) (ty := t_spec_l2Search) (w := sv3 (.slice a (bestR (valX o js) js.length).o.length c) (bestR (valX o js) js.length)) rfl rfl e_t_spec_l2Search (by simp) (by simp) (by simp)
  have bx := H1.box 0 rfl
  rw [best_dfs]
  simp -implicitDefEqProofs [s2, H2.bl 0 3 rfl rfl]
  exact onK hK ⟨pre_gcU H2.pre, a, c, rfl, Sees.gcU (Sees.boxK O1s (by omega) bx k2) plain3⟩
theorem plainT {vo : Value} {r : List Value} (h : plain (.tuple (vo :: r).toArray) = true) : plainC vo = true := by
  have : ((vo :: r).toArray : Array Value).toList.all plainC = true := h
  simp only [List.all_cons, Bool.and_eq_true] at this
  exact this.1
theorem l2Best_run {h : Hp} {vj : Value} {js : List Job} {o : Int} (J : Jobs h vj js) (hg : goodL js = true) (hn : js.length ≤ 8) (ho : 1 ≤ o ∧ o ≤ 8) : RunsC P G n_spec_l2Best [vj, .int .i64 o] h fun v h' => h <+: h' ∧ ∃ vo, v = .tuple #[vo, .int .i64 (bestV o js)] ∧ Ints h' vo (bestR (valX o js) js.length).o := by
  refine hideC fun K hK => enter_run e_spec_l2Best (by simp) ?_
  have Js := J
  obtain ⟨oj, cj, rfl⟩ := J.shapeT
  simp -implicitDefEqProofs
  refine CL_post (l2All_run Js hg hn ho) fun v h1 ⟨hp1, a, c, ev, O1⟩ => ?_
  subst ev
  simp -implicitDefEqProofs
  exact onK hK ⟨pre_gcU (hp1.trans (List.prefix_append ..)), _, rfl, Sees.gcU (O1.pre (List.prefix_append ..)) fun g => plainT (r := [.int .i64 (bestV o js)]) g⟩
/-! ### all orders by the program -/
theorem numbersTo_run {h : Hp} {n : Nat} (hn : n ≤ 2 ^ 30) : RunsC P G n_impl_numbersTo [.int .i64 n] h fun v h' => h <+: h' ∧ Own h.length h' v 1 ((upTo n).map encI) := by
  refine hideC fun K hK => enter_run e_impl_numbersTo (by simp) ?_
  have H0 := own_nil (Holds.start (h := h)) Int encI 1
  simp -implicitDefEqProofs
  refine R_loopO (fun m s h' => ∃ (i : Nat) (u : Value), i + m = n ∧ s = [(0, .int .i64 n), (3, u), (4, .int .i64 i)] ∧ Holds h h' [.own u 1 ((upTo i).map encI)]) (fun I hI m s h' => ?_) (n := n) ⟨0, _, Nat.zero_add _, by simp; rfl, by simpa [upTo] using H0⟩
  rintro ⟨i, u, hi, rfl, H⟩
  by_cases hlt : i < n
  · have hlt' : (i : Int) < n := by omega
    obtain ⟨v', h2, ha, H2, _⟩ := push_I0 H 0 rfl (i : Int) (by rw [upTo_len]; omega)
    simp -implicitDefEqProofs [hlt, hlt', ha, winc hlt (by omega)]
    refine ⟨m - 1, by omega, on hI ⟨i + 1, v', by omega, rfl, ?_⟩⟩
    have e : upTo (i + 1) = upTo i ++ [(i : Int)] := by simp [upTo, List.range_succ]
    rw [e]
    exact H2
  · have hlt' : ¬ (i : Int) < n := by omega
    have e : i = n := by omega
    subst e
    simp -implicitDefEqProofs [hlt']
    exact onK hK (H.ret 0 rfl)
theorem eachOrder_run {hb : Hp} {g : FuncId} {c : Array Value} {n : Nat} (hn : n ≤ 8) {Q : Nat → List Asn → Prop} (gq : ∀ i BX i' BX' h h' L u, Q i BX → Q i' BX' → Holds hb h (BX ++ L) → Holds hb h' (BX' ++ L) → Holds hb (gc h h' u) (BX' ++ L))
    (tell : ∀ i xs h BX vg, Q i BX → (ordsL n)[i]? = some xs → Holds hb h (BX ++ [.own vg 1 (xs.map encI)]) → RunsC P G g (vg :: c.toList) h fun v h' => ∃ BX', Q (i + 1) BX' ∧ ∀ L, Holds hb h (BX ++ L) → Holds hb h' (BX' ++ L))
    {h : Hp} {BX : List Asn} (hQ : Q 0 BX) (HB : Holds hb h (BX ++ [])) :
    RunsC P G n_impl_eachOrder [.int .i64 n, .func (.func g) #[] c] h fun v h' => ∃ BX', Q (ordsL n).length BX' ∧ ∀ L, Holds hb h (BX ++ L) → Holds hb h' (BX' ++ L) := by
  refine hideC fun K hK => enter_run e_impl_eachOrder (by simp) ?_
  obtain ⟨pm1, pm2, pm3⟩ := perms_main (upTo_len n) up_asc
  simp -implicitDefEqProofs
  refine CL_post (numbersTo_run (by omega)) fun v0 h0 ⟨hp0, ho0⟩ => ?_
  obtain ⟨o0, n0, c0, rfl⟩ : ∃ a n c, v0 = .slice a n c := by obtain ⟨a, c, e⟩ := ho0.sees.shape; exact ⟨_, _, _, e⟩
  have first : ∀ L, Holds hb h (BX ++ L) → Holds hb h0 (BX ++ ([.own (.slice o0 n0 c0) 1 ((upTo n).map encI)] ++ L)) := fun L HL => by
    have := Holds.joinT (L := BX) (T := L) (A := [.own (.slice o0 n0 c0) 1 ((upTo n).map encI)]) (M := []) HL ((Holds.start (h := h)).call hp0 ho0)
    simpa [List.append_assoc] using this
  simp -implicitDefEqProofs
  refine R_loopO (fun m st hk => ∃ (i : Nat) (xs : List Int) (BXk : List Asn), (ordsL n)[i]? = some xs ∧ i + m = (ordsL n).length ∧ st = [(1, .func (.func g) #[] c), (4, .slice o0 n0 c0)] ∧ Q i BXk ∧
    (∀ L, Holds hb h (BX ++ L) → Holds hb hk (BXk ++ ([.own (.slice o0 n0 c0) 1 (xs.map encI)] ++ L)))) (fun I hI m st hk => ?_) (n := (ordsL n).length)
    ⟨0, upTo n, BX, pm1, Nat.zero_add _, by simp, hQ, first⟩
  rintro ⟨i, xs, BXk, hxs, him, rfl, hQk, I1⟩
  have ox := ords_ord (List.mem_of_getElem? hxs)
  have hil := (List.getElem?_eq_some_iff.1 hxs).1
  have HA : Holds hb hk (BXk ++ [.own (.slice o0 n0 c0) 1 (xs.map encI)]) := by simpa using I1 [] HB
  simp -implicitDefEqProofs
  refine CL_post (tell i xs hk BXk _ hQk hxs HA) fun v h2 ⟨BX', hQ', F2⟩ => ?_
  have H2 := F2 _ HA
  have H2o := H2.one BX'.length (A := .own (.slice o0 n0 c0) 1 (xs.map encI)) (by rw [List.getElem?_append_right (Nat.le_refl _), Nat.sub_self]; rfl)
  simp -implicitDefEqProofs
  refine CL_post (nextOrder_run H2o (by rw [ox.len]; omega) ox.nd) fun r h3 ⟨er, ow3, k3⟩ => ?_
  subst er
  have J1 : ∀ L, Holds hb h (BX ++ L) → Holds hb h3 (BX' ++ ([.own (.slice o0 n0 c0) 1 (((nextP xs).getD xs).map encI)] ++ L)) := fun L HL => by
    have h1 := F2 _ (I1 L HL)
    have h2 := h1.upd (i := BX'.length) (A := .own (.slice o0 n0 c0) 1 (xs.map encI)) (B := .own (.slice o0 n0 c0) 1 (((nextP xs).getD xs).map encI)) (by rw [List.getElem?_append_right (Nat.le_refl _), Nat.sub_self]; rfl) k3 ow3 fun r hr => .inl hr
    rw [List.set_append_right (h := Nat.le_refl _), Nat.sub_self] at h2
    exact h2
  cases hnx : nextP xs with
  | some xs' =>
    rw [hnx] at J1
    have hi1 : (ordsL n)[i + 1]? = some xs' := by rw [← hnx]; exact (pm2 i xs hxs).symm
    simp -implicitDefEqProofs
    exact ⟨m - 1, by omega, on hI ⟨i + 1, xs', BX', hi1, by omega, rfl, hQ', J1⟩⟩
  | none =>
    rw [hnx] at J1
    have hi1 : (ordsL n)[i + 1]? = none := by rw [← hnx]; exact (pm2 i xs hxs).symm
    have hlen : (ordsL n).length = i + 1 := by have := List.getElem?_eq_none_iff.1 hi1; omega
    simp -implicitDefEqProofs
    rw [hlen] at hK
    refine onK hK ⟨BX', hQ', fun L HL => ?_⟩
    have h1 := J1 L HL
    have h2 : Holds hb h3 (BX' ++ L) := by
      refine Holds.weak (T := [.own (.slice o0 n0 c0) 1 (xs.map encI)]) (h1.perm ?_)
      rw [List.append_assoc]
      exact List.Perm.append_left BX' List.perm_append_comm
    exact gq _ _ _ _ _ _ _ _ hQ hQ' HL h2
theorem load_pre {hb h' : Hp} {r n : Nat} {cs : List Value} (hp : hb <+: h') (hr : hb[r]? = some (some ⟨cs, 0, false⟩)) (hn : cs.length = n) (t : TypeId) : loadP P h' t (.pointer (some ⟨r, 0, some n⟩)) = rowLoad P t ⟨cs, 0, false⟩ 0 := by
  have h5 : h'[r]? = some (some ⟨cs, 0, false⟩) := by
    obtain ⟨l, rfl⟩ := hp
    rw [List.getElem?_append_left (List.getElem?_eq_some_iff.1 hr).1]; exact hr
  rw [loadP_eq]
  simp only [rowAt, h5, hn, if_true, Option.bind_some]
def bx4 (p q r : Nat) (vf : Value) (b : Sr) : List Asn := [.box p [vf], .box q [.int .i64 b.v], .box r [.int .i64 b.c], .own vf 1 (b.o.map encI)]
theorem gc4 {hb h h' : Hp} {p q r : Nat} {vf vf' u : Value} {b b' : Sr} {L : List Asn} (HL : Holds hb h (bx4 p q r vf b ++ L)) (H' : Holds hb h' (bx4 p q r vf' b' ++ L)) : Holds hb (gc h h' u) (bx4 p q r vf' b' ++ L) := by
  rcases gc_cases' h h' u with g | ⟨hp, g⟩
  · rw [g]; exact H'
  · have e1 := HL.box (cs := [vf]) (r := p) 0 rfl
    have e2 := H'.box (cs := [vf']) (r := p) 0 rfl
    obtain ⟨t, rfl⟩ := hp
    rw [List.getElem?_append_left (List.getElem?_eq_some_iff.1 e1).1, e1] at e2
    cases e2
    exact HL.gcR H' rfl
/-- The program's look at an order. -/
theorem tell1_run {hb h : Hp} {p q r rj ro : Nat} {vj vf vg : Value} {js : List Job} {o : Int} {xs : List Int} {b : Sr} (J : Jobs hb vj js) (bj : hb[rj]? = some (some ⟨[vj], 0, false⟩)) (bo : hb[ro]? = some (some ⟨[.int .i64 o], 0, false⟩))
    (hg : goodL js = true) (hn : js.length ≤ 8) (ho : 1 ≤ o ∧ o ≤ 8) (hx : Ord js.length xs) (H : Holds hb h (bx4 p q r vf b ++ [.own vg 1 (xs.map encI)])) :
    RunsC P G n_impl_best_1 [vg, .pointer (some ⟨rj, 0, some 1⟩), .pointer (some ⟨ro, 0, some 1⟩), .pointer (some ⟨r, 0, some 1⟩), .pointer (some ⟨q, 0, some 1⟩), .pointer (some ⟨p, 0, some 1⟩)] h fun v h' =>
      ∃ vf', ∀ L, Holds hb h (bx4 p q r vf b ++ L) → Holds hb h' (bx4 p q r vf' (updS (valX o js) b xs) ++ L) := by
  refine hideC fun K hK => enter_run e_impl_best_1 (by simp) ?_
  obtain ⟨f1, f2, f3, rfl⟩ : ∃ a n c, vf = .slice a n c := by obtain ⟨a, c, e⟩ := (H.sees 3 (v := vf) (sz := 1) (els := b.o.map encI) rfl).shape; exact ⟨_, _, _, e⟩
  have Js := J
  obtain ⟨oj, cj, rfl⟩ := J.shapeT
  have Sg : Ints h vg xs := H.sees 4 rfl
  have lj := load_pre H.pre bj (n := 1) rfl
  have lo := load_pre H.pre bo (n := 1) rfl
  have rv := valueOf_run (o := o) (Js.pre H.pre) Sg hg hn ho hx
  obtain ⟨V, hV⟩ : ∃ V, V = valX o js xs := ⟨_, rfl⟩
  rw [← hV] at rv
  have lq := H.bl (P := P) 1 1 rfl rfl
  have lr := H.bl (P := P) 2 1 rfl rfl
  by_cases c1 : b.c = 0 ∨ V < b.v
  · have e : updS (valX o js) b xs = ⟨xs, V, 1⟩ := by unfold updS; rw [← hV, if_pos c1]
    rw [e] at hK
    have fin : RunsC P G n_impl_copyInts [vg] h fun v1 h1 => ∃ a n c h2 h3 h4, v1 = .slice a n c ∧ storeP P h1 t_S_int (.slice a n c) (.pointer (some ⟨p, 0, some 1⟩)) = some h2 ∧ storeP P h2 t_int (.int .i64 V) (.pointer (some ⟨q, 0, some 1⟩)) = some h3 ∧
        storeP P h3 t_int (.int .i64 1) (.pointer (some ⟨r, 0, some 1⟩)) = some h4 ∧ ∀ u, K u (gc h h4 u) := by
      refine RunsC.mono (copyInts_run Sg (by rw [hx.len]; omega)) fun v1 h1 ⟨hp1, ho1⟩ => ?_
      obtain ⟨a, c, rfl⟩ := ho1.sees.shapeT
      obtain ⟨h2, s2, H2, _⟩ := (H.ext hp1).set (P := P) 0 (n := 1) (o := 0) (ty := t_S_int) (w := .slice a xs.length c) rfl rfl e_t_S_int (by simp) (by simp) (by simp)
      obtain ⟨h3, s3, H3, _⟩ := H2.set (P := P) 1 (n := 1) (o := 0) (ty := t_int) (w := .int .i64 V) rfl rfl e_t_int (by simp) (by simp) (by simp)
      obtain ⟨h4, s4, H4, _⟩ := H3.set (P := P) 2 (n := 1) (o := 0) (ty := t_int) (w := .int .i64 1) rfl rfl e_t_int (by simp) (by simp) (by simp)
      refine ⟨a, xs.length, c, h2, h3, h4, rfl, s2, s3, s4, fun u => onK hK ⟨.slice a xs.length c, fun L HL => ?_⟩⟩
      have HJ := Holds.joinT (A := [.own (.slice a xs.length c) 1 (xs.map encI)]) (M := []) HL ((Holds.start (h := h)).call hp1 ho1)
      obtain ⟨h2', s2', H2', _⟩ := HJ.set (P := P) 0 (n := 1) (o := 0) (ty := t_S_int) (w := .slice a xs.length c) rfl rfl e_t_S_int (by simp) (by simp) (by simp)
      rw [s2] at s2'; cases s2'
      obtain ⟨h3', s3', H3', _⟩ := H2'.set (P := P) 1 (n := 1) (o := 0) (ty := t_int) (w := .int .i64 V) rfl rfl e_t_int (by simp) (by simp) (by simp)
      rw [s3] at s3'; cases s3'
      obtain ⟨h4', s4', H4', _⟩ := H3'.set (P := P) 2 (n := 1) (o := 0) (ty := t_int) (w := .int .i64 1) rfl rfl e_t_int (by simp) (by simp) (by simp)
      rw [s4] at s4'; cases s4'
      have H5 : Holds hb h4 (([.box p [.slice a xs.length c], .box q [.int .i64 V], .box r [.int .i64 1]] ++ [.own (.slice f1 f2 f3) 1 (b.o.map encI)]) ++ ([.own (.slice a xs.length c) 1 (xs.map encI)] ++ L)) := H4'
      have H6 : Holds hb h4 (bx4 p q r (.slice a xs.length c) ⟨xs, V, 1⟩ ++ L) := H5.cut
      exact gc4 HL H6
    rcases Classical.em (b.c = 0) with c2 | c2
    · simp -implicitDefEqProofs [lj, lo, CL_ret rv, lr, lq, show (b.c == 0) = true by simpa using c2]
      refine CL_post fin fun v1 h1 ⟨a, n1, c, h2, h3, h4, ev, s2, s3, s4, f2⟩ => ?_
      subst ev
      simp -implicitDefEqProofs [s2, s3, s4]
      exact f2 _
    · have c3 : V < b.v := by rcases c1 with g | g; exact absurd g c2; exact g
      simp -implicitDefEqProofs [lj, lo, CL_ret rv, lr, lq, nb c2, c3]
      refine CL_post fin fun v1 h1 ⟨a, n1, c, h2, h3, h4, ev, s2, s3, s4, f2⟩ => ?_
      subst ev
      simp -implicitDefEqProofs [s2, s3, s4]
      exact f2 _
  · have c2 : ¬ b.c = 0 := fun g => c1 (.inl g)
    have c3 : ¬ V < b.v := fun g => c1 (.inr g)
    by_cases c4 : V = b.v
    · have e : updS (valX o js) b xs = ⟨b.o, b.v, w64 (b.c + 1)⟩ := by unfold updS; rw [← hV, if_neg c1, if_pos c4]
      rw [e] at hK
      obtain ⟨h4, s4, H4, _⟩ := H.set (P := P) 2 (n := 1) (o := 0) (ty := t_int) (w := .int .i64 (IntKind.i64.wrap (b.c + 1))) rfl rfl e_t_int (by simp) (by simp) (by simp)
      have c4' : (V == b.v) = true := by simpa using c4
      simp -implicitDefEqProofs [lj, lo, CL_ret rv, lr, lq, nb c2, c3, c4', s4]
      refine onK hK ⟨.slice f1 f2 f3, fun L HL => ?_⟩
      obtain ⟨h4', s4', H4', _⟩ := HL.set (P := P) 2 (n := 1) (o := 0) (ty := t_int) (w := .int .i64 (IntKind.i64.wrap (b.c + 1))) rfl rfl e_t_int (by simp) (by simp) (by simp)
      rw [s4] at s4'; cases s4'
      exact gc4 (b' := ⟨b.o, b.v, w64 (b.c + 1)⟩) HL H4'
    · have e : updS (valX o js) b xs = b := by unfold updS; rw [← hV, if_neg c1, if_neg c4]
      rw [e] at hK
      simp -implicitDefEqProofs [lj, lo, CL_ret rv, lr, lq, nb c2, c3, nb c4]
      exact onK hK ⟨.slice f1 f2 f3, fun L HL => HL⟩
theorem best_run {h : Hp} {vj : Value} {js : List Job} {o : Int} (J : Jobs h vj js) (hg : goodL js = true) (hn : js.length ≤ 8) (ho : 1 ≤ o ∧ o ≤ 8) : RunsC P G n_impl_best [vj, .int .i64 o] h fun v h' => h <+: h' ∧ ∃ vf, v = .tuple #[vf, .int .i64 (bestV o js), .int .i64 (bestR (valX o js) js.length).c] ∧ Ints h' vf (bestR (valX o js) js.length).o := by
  refine hideC fun K hK => enter_run e_impl_best (by simp) ?_
  have Js := J
  obtain ⟨oj, cj, rfl⟩ := J.shapeT
  have H0 := (Holds.start.alloc [.slice oj js.length cj] (h := h)).alloc [.int .i64 o]
  simp only [List.append_assoc, List.cons_append, List.nil_append, List.length_append, List.length_cons, List.length_nil, Nat.zero_add] at H0
  generalize hHb : h ++ [some ⟨[.slice oj js.length cj], 0, false⟩, some ⟨[.int .i64 o], 0, false⟩] = hb at H0
  have hbl : hb.length = h.length + 1 + 1 := by rw [← hHb]; simp
  have E0 := own_nil (((Holds.start.alloc [.slice none 0 0] (h := hb)).alloc [.int .i64 0]).alloc [.int .i64 0]) Int encI 1
  simp only [List.append_assoc, List.cons_append, List.nil_append, List.length_append, List.length_cons, List.length_nil, Nat.zero_add] at E0
  have E : Holds hb (hb ++ [some ⟨[.slice none 0 0], 0, false⟩, some ⟨[.int .i64 0], 0, false⟩, some ⟨[.int .i64 0], 0, false⟩]) (bx4 hb.length (hb.length + 1) (hb.length + 1 + 1) (.slice none 0 0) sr0 ++ []) := E0
  have er := eachOrder_run (hb := hb) (g := n_impl_best_1) (c := #[.pointer (some ⟨h.length, 0, some 1⟩), .pointer (some ⟨h.length + 1, 0, some 1⟩), .pointer (some ⟨hb.length + 1 + 1, 0, some 1⟩), .pointer (some ⟨hb.length + 1, 0, some 1⟩), .pointer (some ⟨hb.length, 0, some 1⟩)]) hn
    (Q := fun i BX => ∃ vf, BX = bx4 hb.length (hb.length + 1) (hb.length + 1 + 1) vf (((ordsL js.length).take i).foldl (updS (valX o js)) sr0))
    (fun i BX i' BX' h h' L u ⟨vf, e⟩ ⟨vf', e'⟩ HL H' => by subst e; subst e'; exact gc4 HL H')
    (fun i xs h BX vg ⟨vf, eBX⟩ hxs HB => by
      subst eBX
      refine RunsC.mono (tell1_run (Js.pre H0.pre) (H0.box 0 rfl) (H0.box 1 rfl) hg hn ho (ords_ord (List.mem_of_getElem? hxs)) HB) fun v h' ⟨vf', F⟩ => ?_
      refine ⟨_, ⟨vf', rfl⟩, fun L HL => ?_⟩
      have := F L HL
      rw [take_succ' hxs, List.foldl_append, List.foldl_cons, List.foldl_nil]
      exact this) ⟨_, rfl⟩ E
  have hcount : hb ++ [some ⟨[.slice none 0 0], 0, false⟩, some ⟨[.int .i64 0], 0, false⟩, some ⟨[.int .i64 0], 0, false⟩] = h ++ [some ⟨[.slice oj js.length cj], 0, false⟩, some ⟨[.int .i64 o], 0, false⟩, some ⟨[.slice none 0 0], 0, false⟩, some ⟨[.int .i64 0], 0, false⟩, some ⟨[.int .i64 0], 0, false⟩] := by rw [← hHb]; simp
  rw [hcount, hbl] at er
  rw [hcount] at E
  simp -implicitDefEqProofs
  refine CL_post er fun v h4 ⟨BX', ⟨vf, eBX⟩, F⟩ => ?_
  subst eBX
  have H4 := F [] (by rw [← hbl]; exact E)
  rw [List.take_length] at H4
  have s4 : Ints h4 vf (bestR (valX o js) js.length).o := H4.sees 3 rfl
  obtain ⟨a, c, rfl⟩ := s4.shapeT
  have l0 := H4.bl (P := P) 0 1 rfl rfl
  have l1 := H4.bl (P := P) 1 1 rfl rfl
  have l2 := H4.bl (P := P) 2 1 rfl rfl
  simp only [Nat.add_assoc, Nat.reduceAdd] at l0 l1 l2
  simp -implicitDefEqProofs [l0, l1, l2]
  exact onK hK ⟨pre_gcU (H0.pre.trans H4.pre), _, rfl, Sees.gcU s4 fun g => plainT (r := [_, _]) g⟩
end Go.Pm.PP

/- Best orders and exchanges of neighbours, in plain terms. -/
set_option linter.unusedVariables false
set_option linter.unusedSimpArgs false
namespace Go.Pm.PE
theorem perms_all : ∀ {n : Nat} {l xs : List Int}, l.length = n → xs.Perm l → xs ∈ perms l n
  | 0, l, xs, h, hp => by
    have hl : l = [] := List.eq_nil_of_length_eq_zero h
    subst hl
    rw [List.perm_nil.1 hp]; simp [perms]
  | n + 1, l, [], h, hp => by
    have := hp.length_eq
    rw [h] at this; simp at this
  | n + 1, l, x :: r, h, hp => by
    have hx : x ∈ l := hp.mem_iff.1 (List.mem_cons_self ..)
    obtain ⟨i, hi⟩ := List.getElem?_of_mem hx
    have hil := (List.getElem?_eq_some_iff.1 hi).1
    have e : l.Perm (x :: l.eraseIdx i) := by
      have e2 : l = l.take i ++ x :: l.drop (i + 1) := by
        obtain ⟨y, hy, hd⟩ := drop_at hil
        rw [hi] at hy; cases hy
        conv => lhs; rw [← List.take_append_drop i l, hd]
      rw [List.eraseIdx_eq_take_drop_succ]
      conv => lhs; rw [e2]
      exact List.perm_middle
    have hr : r.Perm (l.eraseIdx i) := (List.perm_cons x).1 (hp.trans e)
    rw [perms, List.mem_flatMap]
    refine ⟨i, by simp [List.mem_range'_1, hil], List.mem_map.2 ⟨r, perms_all (by rw [List.length_eraseIdx_of_lt hil]; omega) hr, ?_⟩⟩
    rw [hi, Option.getD_some]
theorem perms_le {n : Nat} : ∀ {m : Nat} {l : List Int}, l.length = m → m ≤ n → (perms l m).length ≤ n ^ m
  | 0, l, _, _ => by simp [perms]
  | m + 1, l, h, hm => by
    rw [perms]
    have go : ∀ (is : List Nat), (∀ i, i ∈ is → i < l.length) → (is.flatMap fun i => (perms (l.eraseIdx i) m).map ((l[i]?.getD 0) :: ·)).length ≤ is.length * n ^ m := fun is => by
      induction is with
      | nil => intro _; simp
      | cons i is ih =>
        intro hi
        have h1 := ih fun j hj => hi j (List.mem_cons_of_mem _ hj)
        have h2 := perms_le (n := n) (m := m) (l := l.eraseIdx i) (by rw [List.length_eraseIdx_of_lt (hi i (List.mem_cons_self ..))]; omega) (by omega)
        rw [List.flatMap_cons, List.length_append, List.length_map, List.length_cons, Nat.add_mul]
        omega
    refine Nat.le_trans (go _ fun i hi => by simpa [List.mem_range'_1] using hi) ?_
    rw [List.length_range', h, Nat.pow_succ, Nat.mul_comm]
    exact Nat.mul_le_mul_left _ hm
end Go.Pm.PE
namespace Go.Pm.PP
open Go.Pm Go.Pm.PE
theorem ord_mem {n : Nat} {xs : List Int} (h : Ord n xs) : xs ∈ ordsL n := by
  refine perms_all (upTo_len n) ((List.perm_ext_iff_of_nodup h.nd (upTo_nodup n)).2 fun x => ?_)
  rw [mem_upTo]
  refine ⟨fun hx => h.inn x hx, fun hx => ?_⟩
  have := h.all (i := x.toNat) (by omega)
  rwa [show ((x.toNat : Nat) : Int) = x by omega] at this
theorem ords_le {n : Nat} (hn : n ≤ 8) : (ordsL n).length ≤ 8 ^ 8 := by
  refine Nat.le_trans (perms_le (n := 8) (upTo_len n) hn) (Nat.pow_le_pow_right (by omega) hn)
theorem best_fold {f : List Int → Int} {B : Nat} (hB : B ≤ 2 ^ 40) : ∀ {l : List (List Int)} {b : Sr} {k : Nat} {S : List Int → Prop}, (∀ xs, xs ∈ l → S xs) → k + l.length ≤ B → ((k = 0 ∧ b.c = 0) ∨ (1 ≤ b.c ∧ b.c ≤ k ∧ f b.o = b.v ∧ S b.o)) →
    (l = [] ∧ l.foldl (updS f) b = b) ∨ (1 ≤ (l.foldl (updS f) b).c ∧ f (l.foldl (updS f) b).o = (l.foldl (updS f) b).v ∧ S (l.foldl (updS f) b).o ∧ (k = 0 ∨ (l.foldl (updS f) b).v ≤ b.v) ∧ ∀ xs, xs ∈ l → (l.foldl (updS f) b).v ≤ f xs)
  | [], b, k, S, _, _, _ => .inl ⟨rfl, rfl⟩
  | x :: l, b, k, S, hS, hk, hb => by
    right
    rw [List.foldl_cons]
    simp only [List.length_cons] at hk
    have hx := hS x (List.mem_cons_self ..)
    have key : (1 ≤ (updS f b x).c ∧ (updS f b x).c ≤ (k + 1 : Nat) ∧ f (updS f b x).o = (updS f b x).v ∧ S (updS f b x).o) ∧ (updS f b x).v ≤ f x ∧ (k = 0 ∨ (updS f b x).v ≤ b.v) := by
      unfold updS
      split
      · rename_i g
        refine ⟨⟨by simp, by simp; omega, rfl, hx⟩, by simp, ?_⟩
        rcases hb with ⟨h0, _⟩ | ⟨h1, h2, h3, h4⟩
        · exact .inl h0
        · refine .inr ?_
          rcases g with g | g
          · omega
          · simp only; omega
      · rename_i g
        rcases hb with ⟨h0, h1⟩ | ⟨h1, h2, h3, h4⟩
        · exact absurd (.inl h1) g
        · split
          · rename_i g2
            have w : w64 (b.c + 1) = b.c + 1 := by unfold w64; rw [wrap_ok] <;> omega
            refine ⟨⟨?_, ?_, h3, h4⟩, ?_, .inr (Int.le_refl _)⟩
            · simp only [w]; omega
            · simp only [w]; omega
            · simp only; omega
          · refine ⟨⟨h1, by omega, h3, h4⟩, ?_, .inr (Int.le_refl _)⟩
            have : ¬ f x < b.v := fun h => g (.inr h)
            omega
    obtain ⟨k1, k2, k3⟩ := key
    rcases best_fold hB (l := l) (b := updS f b x) (k := k + 1) (S := S) (fun y hy => hS y (List.mem_cons_of_mem _ hy)) (by omega) (.inr k1) with ⟨e, h⟩ | ⟨h1, h2, h3, h4, h5⟩
    · subst e
      rw [List.foldl_nil]
      refine ⟨k1.1, k1.2.2.1, k1.2.2.2, k3, fun xs hxs => ?_⟩
      rcases List.mem_cons.1 hxs with rfl | g
      · exact k2
      · cases g
    · refine ⟨h1, h2, h3, ?_, fun xs hxs => ?_⟩
      · rcases k3 with g | g
        · exact .inl g
        · right; rcases h4 with h4 | h4 <;> omega
      · rcases List.mem_cons.1 hxs with rfl | g
        · rcases h4 with h4 | h4 <;> omega
        · exact h5 xs g
theorem best_facts {f : List Int → Int} {n : Nat} (hn : n ≤ 8) : 1 ≤ (bestR f n).c ∧ f (bestR f n).o = (bestR f n).v ∧ Ord n (bestR f n).o ∧ ∀ xs, Ord n xs → (bestR f n).v ≤ f xs := by
  have h0 : upTo n ∈ ordsL n := perms_all (upTo_len n) (List.Perm.refl _)
  have l8 := ords_le hn
  have e8 : (8 : Nat) ^ 8 = 16777216 := by decide
  rcases best_fold (f := f) (B := 2 ^ 40) (Nat.le_refl _) (l := ordsL n) (b := sr0) (k := 0) (S := Ord n) (fun xs hx => ords_ord hx) (by omega) (.inl ⟨rfl, rfl⟩) with ⟨e, _⟩ | ⟨h1, h2, h3, _, h5⟩
  · rw [e] at h0; cases h0
  · exact ⟨h1, h2, h3, fun xs hx => h5 xs (ord_mem hx)⟩
/-! ### exchanges of neighbours -/
end Go.Pm.PP

/- Typed rules for slices: printed by a program of this work (wrap.py). -/
set_option linter.unusedVariables false
set_option linter.unusedSimpArgs false
set_option maxRecDepth 4000
namespace Go.Pm.PP
def encU (x : Int) : List Value := [.int .u8 x]
open Go.Pm Go.Proofs
theorem load_U {h : Hp} {v : Value} {xs : List (Int)} {i : Nat} {x : Int} (hv : Sees h v 1 (xs.map encU)) (hx : xs[i]? = some x) :
    indexAddrP P h t_S_u8 v (.int .i64 i) = some (.pointer (some (addP (base v) (i)))) ∧ loadP P h t_u8 (.pointer (some (addP (base v) (i)))) = some (.int .u8 x) := by
  have hi := (List.getElem?_eq_some_iff.1 hx).1
  have h1 := hv.indexT (P := P) u_S_u8 i_u8 (k := .i64) (j := i) (by omega) (by omega)
  rw [Int.toNat_natCast] at h1
  have h2 := hv.cellT (P := P) (ty := t_u8) a_u8 i_u8 hx (k := 0) (by omega)
  exact ⟨by simpa using h1, by simpa [encU] using h2⟩
theorem len_U (xs : List (Int)) : ∀ e ∈ xs.map encU, e.length = 1 := by
  intro e he
  obtain ⟨x, _, rfl⟩ := List.mem_map.1 he
  rfl
theorem ones_U (xs : List (Int)) : (xs.map encU).flatten.all one = true := by
  induction xs with
  | nil => rfl
  | cons x xs ih => rw [List.map_cons, List.flatten_cons, List.all_append, ih]; rfl
theorem push_U0 {h0 h : Hp} {L : List Asn} (H : Holds h0 h L) (i : Nat) {v : Value} {xs : List (Int)} (hi : L[i]? = some (.own v 1 (xs.map encU))) (x : Int) (hn : xs.length ≤ 2 ^ 40) :
    ∃ v' h', appendP P (h ++ [some ⟨[.int .u8 x], 1, false⟩]) t_S_u8 v (.slice (some ⟨h.length, 0, some 1⟩) 1 1) = some (v', h') ∧ Holds h0 h' (L.set i (.own v' 1 ((xs ++ [x]).map encU))) ∧ Keeps (rowV v) h h' ∧ (rowV v = none → newOk (h ++ [some ⟨[.int .u8 x], 1, false⟩]) h') := by
  obtain ⟨v', h', g1, g2, g3, g4⟩ := (H.ext (List.prefix_append h [])).push (P := P) i (y := encU x) (n := 1) hi u_S_u8 e_t_u8 z_t_u8 s_t_u8 (by omega) (by rw [b_t_u8]; omega) rfl rfl (by simp [encU]) (by rw [b_t_u8]; simp; omega)
  rw [show xs.map encU ++ [encU x] = (xs ++ [x]).map encU by simp] at g2
  exact ⟨v', h', by simpa [encU] using g1, g2, Keeps.app.trans g3, by simpa [encU] using g4⟩
theorem app_U {h0 h : Hp} {L : List Asn} (H : Holds h0 h L) (i : Nat) {v u : Value} {xs ys : List (Int)} (hi : L[i]? = some (.own v 1 (xs.map encU))) (s : Sees h u 1 (ys.map encU)) (hn : xs.length + ys.length ≤ 2 ^ 40) :
    ∃ v' h', appendP P h t_S_u8 v u = some (v', h') ∧ Holds h0 h' (L.set i (.own v' 1 ((xs ++ ys).map encU))) ∧ Keeps (rowV v) h h' := by
  obtain ⟨v', h', g1, g2, g3⟩ := H.app (P := P) i hi u_S_u8 e_t_u8 z_t_u8 s_t_u8 (by omega) (by rw [b_t_u8]; omega) s (ones_U ys) (by rw [b_t_u8]; simp; omega)
  rw [← List.map_append] at g2
  exact ⟨v', h', g1, g2, g3⟩
end Go.Pm.PP

/- Draws: bytes, numbers, one of some. -/
set_option linter.unusedVariables false
set_option linter.unusedSimpArgs false
set_option maxRecDepth 4000
set_option maxHeartbeats 8000000
namespace Go.Pm.PP
open Go.Pm Go.Proofs Go.Pm.PE
/-- A cursor over bytes. -/
abbrev cu (r : Nat) (vc : Value) (at' sd : Int) : Asn := .box r [vc, .int .i64 at', .int .u64 sd]
/-- A code that is read. -/
def By (h0 : Hp) (vc : Value) : Prop := ∃ bs : List Int, Sees h0 vc 1 (bs.map encU) ∧ (∀ b, b ∈ bs → 0 ≤ b ∧ b ≤ 255) ∧ bs.length ≤ 2 ^ 20
def Cur (h0 h : Hp) (r : Nat) (vc : Value) (n : Nat) (L : List Asn) : Prop := ∃ a s : Int, 0 ≤ a ∧ a ≤ n ∧ Holds h0 h (cu r vc a s :: L)
section
variable {h0 h h' : Hp} {r n m : Nat} {vc u w : Value} {L T : List Asn}
theorem Cur.mono (C : Cur h0 h r vc n L) (hm : n ≤ m) : Cur h0 h r vc m L := by
  obtain ⟨a, s, h1, h2, H⟩ := C
  exact ⟨a, s, h1, by omega, H⟩
theorem Cur.weak (C : Cur h0 h r vc n (L ++ T)) : Cur h0 h r vc n L := by
  obtain ⟨a, s, h1, h2, H⟩ := C
  exact ⟨a, s, h1, h2, Holds.weak (T := T) H⟩
theorem Cur.pre (C : Cur h0 h r vc n L) : h0 <+: h := by
  obtain ⟨a, s, h1, h2, H⟩ := C
  exact H.pre
/-- At a function's end. -/
theorem Cur.gc (C : Cur h0 h r vc n L) (C' : Cur h0 h' r vc m L) : Cur h0 (gc h h' u) r vc m L := by
  obtain ⟨a, s, _, _, H⟩ := C
  obtain ⟨a', s', h1, h2, H'⟩ := C'
  exact ⟨a', s', h1, h2, H.gcR H' rfl⟩
theorem Cur.gcO {sz : Nat} {els : List (List Value)} (C : Cur h0 h r vc n L) (C' : Cur h0 h' r vc m (L ++ [.own w sz els])) (hu : plain u = true → plainC w = true) : Cur h0 (Pm.gc h h' u) r vc m (L ++ [.own w sz els]) := by
  obtain ⟨a, s, _, _, H⟩ := C
  obtain ⟨a', s', h1, h2, H'⟩ := C'
  refine ⟨a', s', h1, h2, ?_⟩
  rcases gc_cases h h' u with g | ⟨hp, g⟩
  · rw [g]; exact H'
  · have G := H.gcR (u := u) (L' := cu r vc a' s' :: L) (Holds.weak (L := cu r vc a' s' :: L) (T := [.own w sz els]) H') rfl
    rw [g] at G ⊢
    have hw := hu hp
    have ho := H'.own (L.length + 1) (v := w) (sz := sz) (els := els) (by
      rw [List.getElem?_cons_succ, List.getElem?_append_right (Nat.le_refl _), Nat.sub_self]; rfl)
    have hn : els = [] := by
      rcases ho.2 with ⟨_, h2⟩ | ⟨_, _, _, _, _, h2, _⟩
      · exact h2
      · rw [h2] at hw; cases hw
    subst hn
    have hw2 : w = nilV := by
      obtain ⟨a, c, e⟩ := ho.sees.shape
      rw [e] at hw ⊢
      simp only [List.length_nil] at hw ⊢
      match a, c, hw with
      | none, 0, _ => rfl
    subst hw2
    exact G.call List.prefix_rfl Own.nil
end
theorem wrap_u64 {n : Int} (h1 : 0 ≤ n) (h2 : n ≤ 255) : IntKind.u64.wrap n = n := by
  unfold IntKind.wrap
  simp [IntKind.signed, IntKind.bits]
  omega
theorem and_bd (p : Nat) : 0 ≤ IntKind.i64.wrap (IntKind.u64.wrap ↑(p &&& (255 % 2 ^ IntKind.u64.bits : Int).toNat)) ∧ IntKind.i64.wrap (IntKind.u64.wrap ↑(p &&& (255 % 2 ^ IntKind.u64.bits : Int).toNat)) ≤ 255 := by
  have e : (255 % 2 ^ IntKind.u64.bits : Int).toNat = 255 := by decide
  rw [e]
  have : p &&& 255 ≤ 255 := Nat.and_le_right
  rw [wrap_u64 (by omega) (by omega), wrap_ok (by omega) (by omega)]
  omega
theorem emod_le' {a k : Int} (h : 0 ≤ a) (hk : 0 ≤ k) : a % k ≤ a := by
  obtain ⟨n, rfl⟩ := Int.eq_ofNat_of_zero_le h
  obtain ⟨m, rfl⟩ := Int.eq_ofNat_of_zero_le hk
  have := Nat.mod_le n m
  rw [← Int.natCast_emod]
  exact Int.ofNat_le.2 this
theorem cv1 {b : Int} : convP P t_u8 t_int (.int .u8 b) = some (.int .i64 (IntKind.i64.wrap b)) := by unfold convP; rw [u_u8, u_int]
theorem cv2 {b : Int} : convP P t_int t_u64 (.int .i64 b) = some (.int .u64 (IntKind.u64.wrap b)) := by unfold convP; rw [u_int, u_u64]
theorem cv3 {b : Int} : convP P t_u64 t_int (.int .u64 b) = some (.int .i64 (IntKind.i64.wrap b)) := by unfold convP; rw [u_u64, u_int]
theorem shr40 (a : Int) : ∃ z : Int, shiftI .shr .u64 a 40 = some (.int .u64 z) := ⟨_, rfl⟩
section
variable {h0 h : Hp} {r n : Nat} {vc : Value} {L : List Asn}
theorem next_run (B : By h0 vc) (C : Cur h0 h r vc n L) (hn : n ≤ 2 ^ 50) : RunsC P G n_spec_l1Cur_next [.pointer (some ⟨r, 0, some 3⟩)] h fun v h' => ∃ x : Int, v = .int .i64 x ∧ 0 ≤ x ∧ x ≤ 255 ∧ Cur h0 h' r vc (n + 1) L := by
  refine hideC fun K hK => enter_run e_spec_l1Cur_next (by simp) ?_
  have Cs := C
  obtain ⟨bs, Sb, hb, hl⟩ := B
  obtain ⟨a, s, a0, a1, H⟩ := C
  obtain ⟨ob, cb, rfl⟩ := Sb.shapeT
  have Sb' := Sb.pre H.pre
  have l1 := H.bl (P := P) 0 3 rfl rfl
  obtain ⟨h1, s1, H1, _⟩ := H.set (P := P) 0 (n := 3) (o := 1) (ty := t_int) (w := .int .i64 (a + 1)) rfl rfl e_t_int (by simp) (by simp) (by simp)
  have l2 := H1.bl (P := P) 0 3 rfl rfl
  have wa : IntKind.i64.wrap (a + 1) = a + 1 := by rw [wrap_ok] <;> omega
  by_cases c1 : a < bs.length
  · obtain ⟨b, hbb, _⟩ := drop_at (show a.toNat < bs.length by omega)
    have lb := load_U Sb' hbb
    rw [show ((a.toNat : Nat) : Int) = a by omega] at lb
    have hb' := hb b (List.mem_of_getElem? hbb)
    have wb : IntKind.i64.wrap b = b := by rw [wrap_ok] <;> omega
    have c2 : a + 1 ≤ bs.length := by omega
    obtain ⟨h2, s2, H2, _⟩ := H1.set (P := P) 0 (n := 3) (o := 2) (ty := t_u64) (w := .int .u64 (IntKind.u64.wrap (IntKind.u64.wrap (IntKind.u64.wrap (s * 6364136223846793005) + IntKind.u64.wrap b) + 462197))) rfl rfl e_t_u64 (by simp) (by simp) (by simp)
    have l3 := H2.bl (P := P) 0 3 rfl rfl
    simp -implicitDefEqProofs [-indexAddrP_some, l1, c1, lb, wb, wa, s1, l2, s2, l3, c2, cv1, cv2, cv3]
    exact onK hK ⟨b, rfl, hb'.1, hb'.2, Cs.gc ⟨a + 1, _, by omega, by omega, H2⟩⟩
  · have c2 : ¬ a + 1 ≤ bs.length := by omega
    obtain ⟨h2, s2, H2, _⟩ := H1.set (P := P) 0 (n := 3) (o := 2) (ty := t_u64) (w := .int .u64 (IntKind.u64.wrap (IntKind.u64.wrap (IntKind.u64.wrap (s * 6364136223846793005) + IntKind.u64.wrap 0) + 462197))) rfl rfl e_t_u64 (by simp) (by simp) (by simp)
    have l3 := H2.bl (P := P) 0 3 rfl rfl
    obtain ⟨z, hz⟩ := shr40 (IntKind.u64.wrap (IntKind.u64.wrap (IntKind.u64.wrap (s * 6364136223846793005) + IntKind.u64.wrap 0) + 462197))
    simp -implicitDefEqProofs [-indexAddrP_some, l1, c1, wa, s1, l2, s2, l3, c2, cv1, cv2, cv3, hz]
    exact onK hK ⟨_, rfl, (and_bd _).1, (and_bd _).2, Cs.gc ⟨a + 1, _, by omega, by omega, H2⟩⟩
theorem pick_run (B : By h0 vc) (C : Cur h0 h r vc n L) (hn : n ≤ 2 ^ 40) {k : Int} (hk : k ≤ 2 ^ 40) : RunsC P G n_spec_l1Cur_pick [.pointer (some ⟨r, 0, some 3⟩), .int .i64 k] h fun v h' => ∃ x : Int, v = .int .i64 x ∧ 0 ≤ x ∧ x ≤ 2 ^ 20 ∧ (1 ≤ k → x < k) ∧ Cur h0 h' r vc (n + 2) L := by
  refine hideC fun K hK => enter_run e_spec_l1Cur_pick (by simp) ?_
  by_cases c0 : k ≤ 1
  · simp -implicitDefEqProofs [c0]
    exact onK hK ⟨0, rfl, by omega, by omega, fun h => by omega, C.mono (by omega)⟩
  · simp -implicitDefEqProofs [c0]
    refine CL_post (next_run B C (by omega)) fun v h1 ⟨x, ev, x0, x1, C1⟩ => ?_
    subst ev
    have k0 : ¬ k = 0 := by omega
    by_cases c1 : 200 < k
    · have w1 : IntKind.i64.wrap (x * 256) = x * 256 := by rw [wrap_ok] <;> omega
      simp -implicitDefEqProofs [c1, w1]
      refine CL_post (next_run B C1 (by omega)) fun v h2 ⟨y, ev, y0, y1, C2⟩ => ?_
      subst ev
      have w2 : IntKind.i64.wrap (x * 256 + y) = x * 256 + y := by rw [wrap_ok] <;> omega
      have e : (x * 256 + y).tmod k = (x * 256 + y) % k := Int.tmod_eq_emod_of_nonneg (by omega)
      have m1 := Int.emod_nonneg (x * 256 + y) k0
      have m2 := Int.emod_lt_of_pos (x * 256 + y) (show 0 < k by omega)
      have m3 : (x * 256 + y) % k ≤ x * 256 + y := emod_le' (by omega) (by omega)
      simp -implicitDefEqProofs [w2, k0, e]
      exact onK hK ⟨_, rfl, m1, by omega, fun _ => m2, C.gc C2⟩
    · have e : x.tmod k = x % k := Int.tmod_eq_emod_of_nonneg x0
      have m1 := Int.emod_nonneg x k0
      have m2 := Int.emod_lt_of_pos x (show 0 < k by omega)
      have m3 : x % k ≤ x := emod_le' x0 (by omega)
      simp -implicitDefEqProofs [c1, k0, e]
      exact onK hK ⟨_, rfl, m1, by omega, fun _ => m2, C.gc (C1.mono (by omega))⟩
theorem one_run (B : By h0 vc) (C : Cur h0 h r vc n L) (hn : n ≤ 2 ^ 40) {k : Int} (hk : k ≤ 2 ^ 40) : RunsC P G n_spec_l1Cur_one [.pointer (some ⟨r, 0, some 3⟩), .int .i64 k] h fun v h' => ∃ b : Bool, v = .bool b ∧ Cur h0 h' r vc (n + 2) L := by
  refine hideC fun K hK => enter_run e_spec_l1Cur_one (by simp) ?_
  simp -implicitDefEqProofs
  refine CL_post (pick_run B C hn hk) fun v h1 ⟨x, ev, _, _, _, C1⟩ => ?_
  subst ev
  simp -implicitDefEqProofs
  exact onK hK ⟨_, rfl, C.gc C1⟩
theorem among_run (B : By h0 vc) {xs : List Int} {vl : Value} {i : Nat} (C : Cur h0 h r vc n L) (hn : n ≤ 2 ^ 40) (hi : L[i]? = some (.own vl 1 (xs.map encI))) (h1 : 1 ≤ xs.length) (h2 : xs.length ≤ 2 ^ 40) :
    RunsC P G n_spec_l1Cur_among [.pointer (some ⟨r, 0, some 3⟩), vl] h fun v h' => ∃ x : Int, v = .int .i64 x ∧ x ∈ xs ∧ Cur h0 h' r vc (n + 2) L := by
  refine hideC fun K hK => enter_run e_spec_l1Cur_among (by simp) ?_
  have S0 : Ints h vl xs := by obtain ⟨a, s, _, _, H⟩ := C; exact H.sees (i + 1) (by rw [List.getElem?_cons_succ]; exact hi)
  obtain ⟨oa, ca, rfl⟩ := S0.shapeT
  simp -implicitDefEqProofs
  refine CL_post (pick_run B C hn (k := xs.length) (by omega)) fun v h3 ⟨x, ev, x0, _, xk, C1⟩ => ?_
  subst ev
  have hx := xk (by omega)
  have S1 : Ints h3 (.slice oa xs.length ca) xs := by obtain ⟨a, s, _, _, H⟩ := C1; exact H.sees (i + 1) (by rw [List.getElem?_cons_succ]; exact hi)
  obtain ⟨y, hy, _⟩ := drop_at (show x.toNat < xs.length by omega)
  have ly := load_I S1 hy
  rw [show ((x.toNat : Nat) : Int) = x by omega] at ly
  simp -implicitDefEqProofs [-indexAddrP_some, ly]
  exact onK hK ⟨y, rfl, List.mem_of_getElem? hy, C.gc C1⟩
/-- A list that is told. -/
theorem Cur.lit (C : Cur h0 h r vc n L) (xs : List Int) : Cur h0 (h ++ [some ⟨xs.map fun x => .int .i64 x, 1, false⟩]) r vc n (L ++ [.own (.slice (some ⟨h.length, 0, some xs.length⟩) xs.length xs.length) 1 (xs.map encI)]) := by
  obtain ⟨a, s, h1, h2, H⟩ := C
  refine ⟨a, s, h1, h2, ?_⟩
  have e : (xs.map encI).flatten = xs.map fun x => Value.int .i64 x := by
    induction xs with
    | nil => rfl
    | cons x xs ih => rw [List.map_cons, List.flatten_cons, ih]; rfl
  have := H.lit (sz := 1) (n := xs.length) (els := xs.map encI) (len_I xs) (by simp)
  rw [e, List.length_map] at this
  exact this
theorem snoc_get {A : Asn} : (L ++ [A])[L.length]? = some A := by rw [List.getElem?_append_right (Nat.le_refl _), Nat.sub_self]; rfl
end
end Go.Pm.PP

/- Draws: jobs and orders. -/
set_option linter.unusedVariables false
set_option linter.unusedSimpArgs false
set_option maxRecDepth 4000
set_option maxHeartbeats 8000000
namespace Go.Pm.PP
open Go.Pm Go.Proofs Go.Pm.PE
section
variable {h0 h : Hp} {r n : Nat} {vc : Value} {L : List Asn}
theorem Cur.alloc (C : Cur h0 h r vc n L) (cs : List Value) : Cur h0 (h ++ [some ⟨cs, 0, false⟩]) r vc n (L ++ [.box h.length cs]) := by
  obtain ⟨a, s, h1, h2, H⟩ := C
  exact ⟨a, s, h1, h2, H.alloc cs⟩
abbrev zJ : List Value := [.int .i64 0, .int .i64 0, .int .i64 0, .int .i64 0]
theorem job_run (B : By h0 vc) (C : Cur h0 h r vc n L) (hn : n ≤ 2 ^ 30) {b : Bool} : RunsC P G n_spec_l1Cur_job [.pointer (some ⟨r, 0, some 3⟩), .bool b] h fun v h' => ∃ j : Job, v = jv j ∧ Cur h0 h' r vc (n + 8) L := by
  refine hideC fun K hK => enter_run e_spec_l1Cur_job (by simp) ?_
  have C0 := C.alloc zJ
  have C1 : Cur h0 (h ++ [some ⟨zJ, 0, false⟩, some ⟨([1, 2, 3, 4, 5, 7, 9] : List Int).map fun x => .int .i64 x, 1, false⟩]) r vc n ((L ++ [.box h.length zJ]) ++ [.own (.slice (some ⟨h.length + 1, 0, some 7⟩) 7 7) 1 (([1, 2, 3, 4, 5, 7, 9] : List Int).map encI)]) := by
    have := C0.lit [1, 2, 3, 4, 5, 7, 9]
    rw [List.append_assoc h, List.length_append] at this
    exact this
  simp -implicitDefEqProofs
  refine CL_post (among_run B C1 (by omega) snoc_get (xs := [1, 2, 3, 4, 5, 7, 9]) (by simp) (by simp)) fun v h1 ⟨x, ev, _, C2⟩ => ?_
  subst ev
  have C3 := C2.weak.lit [0, 1, 1, 2, 3, 5, 8]
  simp -implicitDefEqProofs
  refine CL_post (among_run B C3 (by omega) snoc_get (xs := [0, 1, 1, 2, 3, 5, 8]) (by simp) (by simp)) fun v h2 ⟨y, ev, _, C4⟩ => ?_
  subst ev
  simp -implicitDefEqProofs
  refine CL_post (pick_run B C4.weak (by omega) (k := 24) (by omega)) fun v h3 ⟨z, ev, _, _, _, C5⟩ => ?_
  subst ev
  have C6 := C5.alloc [.int .i64 x, .int .i64 y, .int .i64 0, .int .i64 z]
  have g4 : ∀ {A : Asn} {x : List Value} {T : List Asn}, (A :: ((L ++ [.box h.length x]) ++ T))[L.length + 1]? = some (.box h.length x) := by
    intro A x T
    rw [List.getElem?_cons_succ, List.append_assoc, List.getElem?_append_right (Nat.le_refl _), Nat.sub_self]; rfl
  cases b
  · obtain ⟨a, s, g1, g2, H⟩ := C6
    obtain ⟨h4, s4, H4, _⟩ := H.set (P := P) (L.length + 1) (n := 4) (o := 0) (ty := t_impl_Job) (w := jv ⟨x, y, 0, z⟩) (r := h.length) (cs := zJ) g4 rfl e_t_impl_Job (by simp) (by simp) (by simp)
    have e4 : (cu r vc a s :: ((L ++ [.box h.length zJ]) ++ [.box h3.length [.int .i64 x, .int .i64 y, .int .i64 0, .int .i64 z]])).set (L.length + 1) (.box h.length (splice zJ 0 (jv ⟨x, y, 0, z⟩).cells.toList)) = cu r vc a s :: ((L ++ [.box h.length [.int .i64 x, .int .i64 y, .int .i64 0, .int .i64 z]]) ++ [.box h3.length [.int .i64 x, .int .i64 y, .int .i64 0, .int .i64 z]]) := by
      rw [List.set_cons_succ, List.append_assoc, List.set_append_right (h := Nat.le_refl _), Nat.sub_self, List.append_assoc]; rfl
    rw [e4] at H4
    have s4' : storeP P (h3 ++ [some ⟨[.int .i64 x, .int .i64 y, .int .i64 0, .int .i64 z], 0, false⟩]) 77 (.agg #[.int .i64 x, .int .i64 y, .int .i64 0, .int .i64 z]) (.pointer (some ⟨h.length, 0, some 4⟩)) = some h4 := s4
    have l4 := H4.bl (P := P) (L.length + 1) 4 g4 rfl
    simp -implicitDefEqProofs
    simp -implicitDefEqProofs [-storeP_app0, s4', l4]
    exact onK hK ⟨⟨x, y, 0, z⟩, rfl, C.gc (Cur.weak (T := [.box h.length [.int .i64 x, .int .i64 y, .int .i64 0, .int .i64 z]] ++ [.box h3.length [.int .i64 x, .int .i64 y, .int .i64 0, .int .i64 z]]) ⟨a, s, g1, by omega, by rw [← List.append_assoc]; exact H4⟩)⟩
  · simp -implicitDefEqProofs
    refine CL_post (pick_run B C6 (by omega) (k := 12) (by omega)) fun v h4 ⟨q, ev, _, _, _, C7⟩ => ?_
    subst ev
    obtain ⟨a, s, g1, g2, H⟩ := C7
    have g5 : ∀ {A : Asn} {x : List Value} {B : Asn}, (A :: ((L ++ [B]) ++ [.box h3.length x]))[L.length + 1 + 1]? = some (.box h3.length x) := by
      intro A x B
      rw [List.getElem?_cons_succ, List.append_assoc, List.getElem?_append_right (by omega), Nat.add_sub_cancel_left]; rfl
    obtain ⟨h5, s5, H5, _⟩ := H.set (P := P) (L.length + 1 + 1) (n := 4) (o := 2) (ty := t_int) (w := .int .i64 q) g5 rfl e_t_int (by simp) (by simp) (by simp)
    have e5 : (cu r vc a s :: ((L ++ [.box h.length zJ]) ++ [.box h3.length [.int .i64 x, .int .i64 y, .int .i64 0, .int .i64 z]])).set (L.length + 1 + 1) (.box h3.length (splice [.int .i64 x, .int .i64 y, .int .i64 0, .int .i64 z] 2 (Value.int .i64 q).cells.toList)) = cu r vc a s :: ((L ++ [.box h.length zJ]) ++ [.box h3.length [.int .i64 x, .int .i64 y, .int .i64 q, .int .i64 z]]) := by
      rw [List.set_cons_succ, List.append_assoc, List.set_append_right (h := by omega), Nat.add_sub_cancel_left, List.append_assoc]; rfl
    rw [e5] at H5
    have l5 := H5.bl (P := P) (L.length + 1 + 1) 4 g5 rfl
    obtain ⟨h6, s6, H6, _⟩ := H5.set (P := P) (L.length + 1) (n := 4) (o := 0) (ty := t_impl_Job) (w := jv ⟨x, y, q, z⟩) (r := h.length) (cs := zJ) g4 rfl e_t_impl_Job (by simp) (by simp) (by simp)
    have e6 : (cu r vc a s :: ((L ++ [.box h.length zJ]) ++ [.box h3.length [.int .i64 x, .int .i64 y, .int .i64 q, .int .i64 z]])).set (L.length + 1) (.box h.length (splice zJ 0 (jv ⟨x, y, q, z⟩).cells.toList)) = cu r vc a s :: ((L ++ [.box h.length [.int .i64 x, .int .i64 y, .int .i64 q, .int .i64 z]]) ++ [.box h3.length [.int .i64 x, .int .i64 y, .int .i64 q, .int .i64 z]]) := by
      rw [List.set_cons_succ, List.append_assoc, List.set_append_right (h := Nat.le_refl _), Nat.sub_self, List.append_assoc]; rfl
    rw [e6] at H6
    have s6' : storeP P h5 77 (.agg #[.int .i64 x, .int .i64 y, .int .i64 q, .int .i64 z]) (.pointer (some ⟨h.length, 0, some 4⟩)) = some h6 := s6
    have l6 := H6.bl (P := P) (L.length + 1) 4 g4 rfl
    simp -implicitDefEqProofs [-storeP_app0, s5, l5, s6', l6]
    exact onK hK ⟨⟨x, y, q, z⟩, rfl, C.gc (Cur.weak (T := [.box h.length [.int .i64 x, .int .i64 y, .int .i64 q, .int .i64 z]] ++ [.box h3.length [.int .i64 x, .int .i64 y, .int .i64 q, .int .i64 z]]) ⟨a, s, g1, by omega, by rw [← List.append_assoc]; exact H6⟩)⟩
end
end Go.Pm.PP

/- Draws: spoilt jobs, lists of jobs. -/
set_option linter.unusedVariables false
set_option linter.unusedSimpArgs false
set_option maxRecDepth 4000
set_option maxHeartbeats 8000000
namespace Go.Pm.PP
open Go.Pm Go.Proofs Go.Pm.PE
section
variable {h0 h : Hp} {r n : Nat} {vc : Value} {L : List Asn}
theorem spoiltJob_run (B : By h0 vc) (C : Cur h0 h r vc n L) (hn : n ≤ 2 ^ 30) {j : Job} : RunsC P G n_spec_l1Cur_spoiltJob [.pointer (some ⟨r, 0, some 3⟩), jv j] h fun v h' => ∃ j' : Job, v = jv j' ∧ Cur h0 h' r vc (n + 4) L := by
  refine hideC fun K hK => enter_run e_spec_l1Cur_spoiltJob (by simp) ?_
  have C1 : Cur h0 (h ++ [some ⟨[.int .i64 j.t, .int .i64 j.w, .int .i64 j.r, .int .i64 j.d], 0, false⟩, some ⟨zJ, 0, false⟩]) r vc n ((L ++ [.box h.length (encJ j)]) ++ [.box (h.length + 1) zJ]) := by
    have := (C.alloc (encJ j)).alloc zJ
    rw [List.append_assoc h, List.length_append] at this
    exact this
  have g3 : ∀ {A : Asn} {x : List Value} {T : List Asn}, (A :: ((L ++ [.box h.length x]) ++ T))[L.length + 1]? = some (.box h.length x) := by
    intro A x T
    rw [List.getElem?_cons_succ, List.append_assoc, List.getElem?_append_right (Nat.le_refl _), Nat.sub_self]; rfl
  have g4 : ∀ {A : Asn} {x : List Value} {B : Asn}, (A :: ((L ++ [B]) ++ [.box (h.length + 1) x]))[L.length + 1 + 1]? = some (.box (h.length + 1) x) := by
    intro A x B
    rw [List.getElem?_cons_succ, List.append_assoc, List.getElem?_append_right (by omega), Nat.add_sub_cancel_left]; rfl
  have fin : ∀ (fo : Nat) (q : Int) (j' : Job) (h5 : Hp), fo + 1 ≤ 4 → splice (encJ j) fo [.int .i64 q] = encJ j' → Cur h0 h5 r vc (n + 4) ((L ++ [.box h.length (encJ j)]) ++ [.box (h.length + 1) zJ]) →
      ∃ h6 h7, storeP P h5 t_int (.int .i64 q) (.pointer (some ⟨h.length, fo, some 4⟩)) = some h6 ∧ loadP P h6 77 (.pointer (some ⟨h.length, 0, some 4⟩)) = some (.agg #[.int .i64 j'.t, .int .i64 j'.w, .int .i64 j'.r, .int .i64 j'.d]) ∧
        storeP P h6 77 (.agg #[.int .i64 j'.t, .int .i64 j'.w, .int .i64 j'.r, .int .i64 j'.d]) (.pointer (some ⟨h.length + 1, 0, some 4⟩)) = some h7 ∧ loadP P h7 77 (.pointer (some ⟨h.length + 1, 0, some 4⟩)) = some (.agg #[.int .i64 j'.t, .int .i64 j'.w, .int .i64 j'.r, .int .i64 j'.d]) ∧ ∀ u, K (jv j') (gc h h7 u) := by
    intro fo q j' h5 hfo he ⟨a, s, a0, a1, H⟩
    obtain ⟨h6, s6, H6, _⟩ := H.set (P := P) (L.length + 1) (n := 4) (o := fo) (ty := t_int) (w := .int .i64 q) g3 rfl e_t_int (by simp) (by simpa [encJ] using hfo) (by simp)
    rw [show (Value.int .i64 q).cells.toList = [.int .i64 q] from rfl, he] at H6
    have e6 : (cu r vc a s :: ((L ++ [.box h.length (encJ j)]) ++ [.box (h.length + 1) zJ])).set (L.length + 1) (.box h.length (encJ j')) = cu r vc a s :: ((L ++ [.box h.length (encJ j')]) ++ [.box (h.length + 1) zJ]) := by
      rw [List.set_cons_succ, List.append_assoc, List.set_append_right (h := Nat.le_refl _), Nat.sub_self, List.append_assoc]; rfl
    rw [e6] at H6
    have l6 := H6.bl (P := P) (L.length + 1) 4 g3 rfl t_impl_Job 0
    obtain ⟨h7, s7, H7, _⟩ := H6.set (P := P) (L.length + 1 + 1) (n := 4) (o := 0) (ty := t_impl_Job) (w := jv j') g4 rfl e_t_impl_Job (by simp) (by simp) (by simp)
    have e7 : (cu r vc a s :: ((L ++ [.box h.length (encJ j')]) ++ [.box (h.length + 1) zJ])).set (L.length + 1 + 1) (.box (h.length + 1) (splice zJ 0 (jv j').cells.toList)) = cu r vc a s :: ((L ++ [.box h.length (encJ j')]) ++ [.box (h.length + 1) (encJ j')]) := by
      rw [List.set_cons_succ, List.append_assoc, List.set_append_right (h := by omega), Nat.add_sub_cancel_left, List.append_assoc]; rfl
    rw [e7] at H7
    have l7 := H7.bl (P := P) (L.length + 1 + 1) 4 g4 rfl t_impl_Job 0
    refine ⟨h6, h7, s6, by rw [l6]; simp [encJ], s7, by rw [l7]; simp [encJ], fun u => onK hK ⟨j', rfl, C.gc (Cur.weak (T := [.box h.length (encJ j')] ++ [.box (h.length + 1) (encJ j')]) ⟨a, s, a0, by omega, by rw [← List.append_assoc]; exact H7⟩)⟩⟩
  simp -implicitDefEqProofs
  refine CL_post (pick_run B C1 (by omega) (k := 4) (by omega)) fun v h2 ⟨x, ev, x0, _, _, C2⟩ => ?_
  subst ev
  by_cases c0 : x = 0
  · subst c0
    simp -implicitDefEqProofs
    refine CL_post (among_run B (C2.lit [0, 50, 51, -1, 4611686018427387904]) (by omega) snoc_get (by simp) (by simp)) fun v h3 ⟨q, ev, _, C3⟩ => ?_
    subst ev
    obtain ⟨h6, h7, s6, l6, s7, l7, f⟩ := fin 0 q ⟨q, j.w, j.r, j.d⟩ h3 (by omega) rfl C3.weak
    simp -implicitDefEqProofs [s6, l6, s7, l7]
    exact f _
  · by_cases c1 : x = 1
    · subst c1
      simp -implicitDefEqProofs
      refine CL_post (among_run B (C2.lit [-1, 50, 51]) (by omega) snoc_get (by simp) (by simp)) fun v h3 ⟨q, ev, _, C3⟩ => ?_
      subst ev
      obtain ⟨h6, h7, s6, l6, s7, l7, f⟩ := fin 1 q ⟨j.t, q, j.r, j.d⟩ h3 (by omega) rfl C3.weak
      simp -implicitDefEqProofs [s6, l6, s7, l7]
      exact f _
    · by_cases c2 : x = 2
      · subst c2
        simp -implicitDefEqProofs
        refine CL_post (among_run B (C2.lit [-1, 500, 501]) (by omega) snoc_get (by simp) (by simp)) fun v h3 ⟨q, ev, _, C3⟩ => ?_
        subst ev
        obtain ⟨h6, h7, s6, l6, s7, l7, f⟩ := fin 2 q ⟨j.t, j.w, q, j.d⟩ h3 (by omega) rfl C3.weak
        simp -implicitDefEqProofs [s6, l6, s7, l7]
        exact f _
      · simp -implicitDefEqProofs [nb c0, nb c1, nb c2]
        refine CL_post (among_run B (C2.lit [-1, 500, 501, -9223372036854775808]) (by omega) snoc_get (by simp) (by simp)) fun v h3 ⟨q, ev, _, C3⟩ => ?_
        subst ev
        obtain ⟨h6, h7, s6, l6, s7, l7, f⟩ := fin 3 q ⟨j.t, j.w, j.r, q⟩ h3 (by omega) rfl C3.weak
        simp -implicitDefEqProofs [s6, l6, s7, l7]
        exact f _
end
end Go.Pm.PP

/- Draws: lists of jobs. -/
set_option linter.unusedVariables false
set_option linter.unusedSimpArgs false
set_option maxRecDepth 4000
set_option maxHeartbeats 16000000
namespace Go.Pm.PP
open Go.Pm Go.Proofs Go.Pm.PE
section
variable {h0 h : Hp} {r n : Nat} {vc : Value} {L : List Asn}
/-- Something is put at the end of a list of one's own that is drawn. -/
theorem Cur.pushJ {u : Value} {js : List Job} (C : Cur h0 h r vc n (L ++ [.own u 4 (js.map encJ)])) (j : Job) (hl : js.length ≤ 2 ^ 40) : ∃ u' h', appendP P (h ++ [some ⟨[.int .i64 j.t, .int .i64 j.w, .int .i64 j.r, .int .i64 j.d], 4, false⟩]) t_S_impl_Job u (.slice (some ⟨h.length, 0, some 4⟩) 1 1) = some (u', h') ∧ Cur h0 h' r vc n (L ++ [.own u' 4 ((js ++ [j]).map encJ)]) := by
  obtain ⟨a, s, h1, h2, H⟩ := C
  obtain ⟨u', h', g1, g2, _⟩ := push_J0 H (L.length + 1) (by rw [List.getElem?_cons_succ]; exact snoc_get) j hl
  refine ⟨u', h', g1, a, s, h1, h2, ?_⟩
  rw [List.set_cons_succ, List.set_append_right (h := Nat.le_refl _), Nat.sub_self] at g2
  exact g2
theorem Cur.seesJ {u : Value} {js : List Job} (C : Cur h0 h r vc n (L ++ [.own u 4 (js.map encJ)])) : Jobs h u js := by
  obtain ⟨a, s, h1, h2, H⟩ := C
  exact H.sees (L.length + 1) (by rw [List.getElem?_cons_succ]; exact snoc_get)
theorem Cur.putJ {u : Value} {js : List Job} (C : Cur h0 h r vc n (L ++ [.own u 4 (js.map encJ)])) {k : Nat} (hk : k < js.length) (j : Job) : ∃ h', storeP P h t_impl_Job (jv j) (.pointer (some (addP (base u) (k * 4)))) = some h' ∧ Cur h0 h' r vc n (L ++ [.own u 4 ((js.set k j).map encJ)]) := by
  obtain ⟨a, s, h1, h2, H⟩ := C
  obtain ⟨h', g1, g2, _⟩ := put_J H (L.length + 1) (by rw [List.getElem?_cons_succ]; exact snoc_get) hk j
  refine ⟨h', g1, a, s, h1, h2, ?_⟩
  rw [List.set_cons_succ, List.set_append_right (h := Nat.le_refl _), Nat.sub_self] at g2
  exact g2
theorem Cur.nil (C : Cur h0 h r vc n L) (α : Type) (enc : α → List Value) (sz : Nat) : Cur h0 h r vc n (L ++ [.own (.slice none 0 0) sz (([] : List α).map enc)]) := by
  obtain ⟨a, s, h1, h2, H⟩ := C
  exact ⟨a, s, h1, h2, H.call List.prefix_rfl (by simpa using Own.nil)⟩
theorem someJobs_run (B : By h0 vc) (C : Cur h0 h r vc n L) (hn : n ≤ 2 ^ 20) {b : Bool} {most : Nat} (hm : most ≤ 8) : RunsC P G n_spec_l1Cur_someJobs [.pointer (some ⟨r, 0, some 3⟩), .bool b, .int .i64 most] h fun v h' => ∃ js : List Job, js.length ≤ 9 ∧ Cur h0 h' r vc (n + 200) (L ++ [.own v 4 (js.map encJ)]) := by
  refine hideC fun K hK => enter_run e_spec_l1Cur_someJobs (by simp) ?_
  simp -implicitDefEqProofs
  refine CL_post (among_run B (C.lit [3, 4, 5, 2, 6, 1, 0]) (by omega) snoc_get (by simp) (by simp)) fun v h1 ⟨x, ev, hx, C1'⟩ => ?_
  subst ev
  have hx2 : 0 ≤ x ∧ x ≤ 6 := by
    simp only [List.mem_cons, List.not_mem_nil, or_false] at hx
    omega
  have C1 := C1'.weak
  obtain ⟨X, hX, hX2⟩ : ∃ X : Int, X = x ∧ 0 ≤ X ∧ X ≤ 9 := ⟨x, rfl, by omega, by omega⟩
  by_cases c : (6 : Int) < most
  case' neg =>
    rw [← hX]
    clear hX
    have C2 : Cur h0 h1 r vc (n + 6) L := C1.mono (by omega)
    obtain ⟨h2, hh2⟩ : ∃ h2, h2 = h1 := ⟨_, rfl⟩
    have c' : ¬ 6 < most := by omega
    simp -implicitDefEqProofs [c, c']
    rw [← hh2] at C2 ⊢
  case' pos =>
    clear hX hX2
    have c' : 6 < most := by omega
    simp -implicitDefEqProofs [c, c']
    refine CL_post (one_run B C1 (by omega) (k := 6) (by omega)) fun v h2 ⟨b2, ev, C1''⟩ => ?_
    subst ev
    clear X
    cases b2
    case' false =>
      obtain ⟨X, hX, hX2⟩ : ∃ X : Int, X = x ∧ 0 ≤ X ∧ X ≤ 9 := ⟨x, rfl, by omega, by omega⟩
      rw [← hX]
      clear hX
      have C2 : Cur h0 h2 r vc (n + 6) L := C1''.mono (by omega)
      simp -implicitDefEqProofs
    case' true =>
      simp -implicitDefEqProofs
      refine CL_post (pick_run B C1'' (by omega) (k := 2) (by omega)) fun v h2 ⟨y, ev, y0, _, y1, C2'⟩ => ?_
      subst ev
      have y2 := y1 (by omega)
      have w7 : IntKind.i64.wrap (7 + y) = 7 + y := by rw [wrap_ok] <;> omega
      obtain ⟨X, hX, hX2⟩ : ∃ X : Int, X = 7 + y ∧ 0 ≤ X ∧ X ≤ 9 := ⟨7 + y, rfl, by omega, by omega⟩
      have C2 : Cur h0 h2 r vc (n + 6) L := C2'.mono (by omega)
      simp -implicitDefEqProofs [w7]
      rw [← hX]
  all_goals
    refine R_loopO (fun m st h' => ∃ (js : List Job) (u : Value), st = [(0, .pointer (some ⟨r, 0, some 3⟩)), (1, .bool b), (2, .int .i64 most), (7, u), (8, .int .i64 m)] ∧ js.length + m ≤ 9 ∧ Cur h0 h' r vc (n + 6 + 8 * js.length) (L ++ [.own u 4 (js.map encJ)])) (fun I hI m st h' => ?_) (n := X.toNat) ⟨[], .slice none 0 0, by simp; omega, by simp; omega, C2.nil Job encJ 4⟩
    rintro ⟨js, u, rfl, hj, C3⟩
    obtain ⟨ua, uc, rfl⟩ : ∃ a c, u = .slice a js.length c := C3.seesJ.shapeT
    by_cases c1 : 0 < m
    case' pos =>
      by_cases c2 : js.length < most
      case pos =>
        have w1 : IntKind.i64.wrap ((m : Int) - 1) = ((m - 1 : Nat) : Int) := by rw [wrap_ok] <;> omega
        have c1' : (0 : Int) < m := by omega
        have c2' : (js.length : Int) < most := by omega
        simp -implicitDefEqProofs [c1, c1', c2, c2']
        refine CL_post (job_run B C3 (by omega) (b := b)) fun v h4 ⟨j, ev, C4⟩ => ?_
        subst ev
        obtain ⟨u', h5, ha, C5⟩ := C4.pushJ j (by omega)
        simp -implicitDefEqProofs [ha, w1]
        exact ⟨m - 1, by omega, on hI ⟨js ++ [j], u', rfl, by simp; omega, by
          have e : n + 6 + 8 * (js ++ [j]).length = n + 6 + 8 * js.length + 8 := by simp; omega
          rw [e]; exact C5⟩⟩
      case' neg =>
        have c1' : (0 : Int) < m := by omega
        have c2' : ¬ (js.length : Int) < most := by omega
        simp -implicitDefEqProofs [c1, c1', c2, c2']
    case' neg =>
      have c1' : ¬ (0 : Int) < m := by omega
      simp -implicitDefEqProofs [c1, c1']
    all_goals
      by_cases c3 : 0 < js.length
      case' neg =>
        have c3' : ¬ (0 : Int) < js.length := by omega
        have C5 : Cur h0 h' r vc (n + 86) (L ++ [.own (.slice ua js.length uc) 4 (js.map encJ)]) := C3.mono (by omega)
        have hl5 : js.length ≤ 9 := by omega
        simp -implicitDefEqProofs [c3, c3']
      case' pos =>
        have c3' : (0 : Int) < js.length := by omega
        simp -implicitDefEqProofs [c3, c3']
        refine CL_post (one_run B C3 (by omega) (k := 20) (by omega)) fun v h4 ⟨b3, ev, C4⟩ => ?_
        subst ev
        cases b3
        case' false =>
          have C5 : Cur h0 h4 r vc (n + 86) (L ++ [.own (.slice ua js.length uc) 4 (js.map encJ)]) := C4.mono (by omega)
          have hl5 : js.length ≤ 9 := by omega
          simp -implicitDefEqProofs
        case' true =>
          simp -implicitDefEqProofs
          refine CL_post (pick_run B C4 (by omega) (k := js.length) (by omega)) fun v h5 ⟨q, ev, q0, _, q1, C5'⟩ => ?_
          subst ev
          obtain ⟨k, rfl⟩ : ∃ k : Nat, q = k := ⟨q.toNat, by omega⟩
          have hk : k < js.length := by have := q1 (by omega); omega
          obtain ⟨y, hy, _⟩ := drop_at hk
          have ly := load_J C5'.seesJ hy
          simp -implicitDefEqProofs [-indexAddrP_some, ly]
          refine CL_post (spoiltJob_run B C5' (by omega) (j := y)) fun v h6 ⟨j', ev, C6'⟩ => ?_
          subst ev
          have ix := (load_J C6'.seesJ hy).1
          obtain ⟨h7, s7, C7⟩ := C6'.putJ hk j'
          have C5 : Cur h0 h7 r vc (n + 86) (L ++ [.own (.slice ua js.length uc) 4 ((js.set k j').map encJ)]) := C7.mono (by omega)
          have hl5 : (js.set k j').length ≤ 9 := by rw [List.length_set]; omega
          simp -implicitDefEqProofs [-indexAddrP_some, ix, s7]
      all_goals
        refine CL_post (one_run B C5 (by omega) (k := 60) (by omega)) fun v h8 ⟨b4, ev, C8⟩ => ?_
        subst ev
        cases b4
        case false =>
          simp -implicitDefEqProofs
          exact onK hK ⟨_, hl5, C.gcO (C8.mono (by omega)) (fun h => h)⟩
        case true =>
          simp -implicitDefEqProofs
          refine R_loopO (fun m st h' => ∃ (js : List Job) (u : Value), st = [(0, .pointer (some ⟨r, 0, some 3⟩)), (1, .bool b), (7, u)] ∧ js.length + m = 9 ∧ Cur h0 h' r vc (n + 88 + 8 * js.length) (L ++ [.own u 4 (js.map encJ)])) (fun I2 hI2 m2 st h' => ?_) (n := 9 - js.length) ⟨_, _, by simp, ?_, C8.mono (by omega)⟩
          · rintro ⟨js2, u2, rfl, hj2, C9⟩
            obtain ⟨ub, ud, rfl⟩ : ∃ a c, u2 = .slice a js2.length c := C9.seesJ.shapeT
            by_cases c9 : js2.length < 9
            · have c9' : (js2.length : Int) < 9 := by omega
              simp -implicitDefEqProofs [c9, c9']
              refine CL_post (job_run B C9 (by omega) (b := b)) fun v h10 ⟨j, ev, C10⟩ => ?_
              subst ev
              obtain ⟨u', h11, ha, C11⟩ := C10.pushJ j (by omega)
              simp -implicitDefEqProofs [ha]
              exact ⟨m2 - 1, by omega, on hI2 ⟨js2 ++ [j], u', rfl, by simp; omega, by
                have e : n + 88 + 8 * (js2 ++ [j]).length = n + 88 + 8 * js2.length + 8 := by simp; omega
                rw [e]; exact C11⟩⟩
            · have c9' : ¬ (js2.length : Int) < 9 := by omega
              simp -implicitDefEqProofs [c9, c9']
              exact onK hK ⟨js2, by omega, C.gcO (C9.mono (by omega)) (fun h => h)⟩
          · first | omega | (rw [List.length_set]; omega)
end
end Go.Pm.PP

/- Draws: orders; the draw of jobs, an order and an objective. -/
set_option linter.unusedVariables false
set_option linter.unusedSimpArgs false
set_option maxRecDepth 4000
set_option maxHeartbeats 16000000
namespace Go.Pm.PP
open Go.Pm Go.Proofs Go.Pm.PE
theorem newOk_of {h h' : Hp} (hp : h <+: h') (n : NR h.length h') : newOk h h' := by
  refine ⟨hp, ?_⟩
  rw [List.all_eq_true]
  intro x hx
  cases x with
  | none => rfl
  | some x =>
    obtain ⟨k, hk⟩ := List.getElem?_of_mem hx
    rw [List.getElem?_drop] at hk
    simp [n.2 _ x (by omega) hk]
section
variable {h0 h : Hp} {r n : Nat} {vc : Value} {L : List Asn}
theorem Cur.seesI {u : Value} {xs : List Int} (C : Cur h0 h r vc n (L ++ [.own u 1 (xs.map encI)])) : Ints h u xs := by
  obtain ⟨a, s, h1, h2, H⟩ := C
  exact H.sees (L.length + 1) (by rw [List.getElem?_cons_succ]; exact snoc_get)
theorem Cur.join {h1 : Hp} {A : Asn} (C : Cur h0 h r vc n L) (D : Holds h h1 [A]) : Cur h0 h1 r vc n (L ++ [A]) := by
  obtain ⟨a, s, g1, g2, H⟩ := C
  exact ⟨a, s, g1, g2, H.join D⟩
theorem Cur.swapW {A B : Asn} (C : Cur h0 h r vc n ((L ++ [A]) ++ [B])) : Cur h0 h r vc n (L ++ [B]) := by
  obtain ⟨a, s, g1, g2, H⟩ := C
  refine ⟨a, s, g1, g2, ?_⟩
  have : Holds h0 h (((cu r vc a s :: L) ++ [A]) ++ [B]) := H
  exact this.cut
theorem order_run (B : By h0 vc) (C : Cur h0 h r vc n L) (hn : n ≤ 2 ^ 19) {N : Nat} (hN : N ≤ 2 ^ 10) : RunsC P G n_spec_l1Cur_order [.pointer (some ⟨r, 0, some 3⟩), .int .i64 N] h fun v h' => ∃ xs : List Int, xs.length ≤ N + 1 ∧ Cur h0 h' r vc (n + 2 * N + 4) (L ++ [.own v 1 (xs.map encI)]) := by
  refine hideC fun K hK => enter_run e_spec_l1Cur_order (by simp) ?_
  simp -implicitDefEqProofs
  refine R_loopO (fun m st h' => ∃ (i : Nat) (xs : List Int) (u : Value), i + m = N ∧ st = [(0, .pointer (some ⟨r, 0, some 3⟩)), (1, .int .i64 N), (5, u), (6, .int .i64 i)] ∧ xs.length = i ∧ Cur h0 h' r vc (n + 2 * i) (L ++ [.own u 1 (xs.map encI)])) (fun I hI m st h' => ?_) (n := N) ⟨0, [], .slice none 0 0, by omega, by simp, rfl, C.nil Int encI 1⟩
  rintro ⟨i, xs, u, hi, rfl, hl, C1⟩
  obtain ⟨ua, uc, rfl⟩ : ∃ a c, u = .slice a xs.length c := C1.seesI.shapeT
  by_cases hlt : i < N
  · have hlt' : (i : Int) < N := by omega
    have w1 : IntKind.i64.wrap ((xs.length : Int) + 1) = (xs.length : Int) + 1 := by rw [wrap_ok] <;> omega
    have wi : IntKind.i64.wrap ((i : Int) + 1) = (i : Int) + 1 := by rw [wrap_ok] <;> omega
    simp -implicitDefEqProofs [hlt, hlt', w1]
    refine CL_post (pick_run B C1 (by omega) (k := (xs.length : Int) + 1) (by omega)) fun v h2 ⟨q, ev, q0, _, q1, C2⟩ => ?_
    subst ev
    have q2 := q1 (by omega)
    obtain ⟨k, rfl⟩ : ∃ k : Nat, q = k := ⟨q.toNat, by omega⟩
    have S2 := C2.seesI
    obtain ⟨v3, s3, f3⟩ := S2.front (P := P) u_S_int i_int (k := .i64) (j := (k : Int)) (by omega) (by simp; omega)
    rw [Int.toNat_natCast, ← List.map_take] at f3
    have H0 := own_nil (Holds.start (h := h2)) Int encI 1
    obtain ⟨v4, h4, ha4, H4', _⟩ := app_I H0 0 rfl f3 (by simp; omega)
    have H4 : Holds h2 h4 [.own v4 1 ((xs.take k).map encI)] := H4'
    have n4 : NR h2.length h4 := append_nr nr_self ha4
    have no4 := newOk_of H4.pre n4
    obtain ⟨v5, h5, ha5, H5', k5, _⟩ := push_I0 H4 0 rfl (i : Int) (by simp; omega)
    have H5 : Holds h2 h5 [.own v5 1 ((xs.take k ++ [(i : Int)]).map encI)] := H5'
    have n5 : NR h2.length (h4 ++ [some ⟨[.int .i64 (i : Int)], 1, false⟩]) := n4.new [.int .i64 (i : Int)] 1
    have md := app_mod (b := h2.length) rfl n5 ha5 (H4.pre.trans (List.prefix_append ..)) H5.pre
    obtain ⟨v6, s6, f6, _⟩ := (S2.pre H5.pre).back (P := P) u_S_int i_int (k := .i64) (j := (k : Int)) (by omega) (by simp; omega)
    rw [Int.toNat_natCast, ← List.map_drop] at f6
    obtain ⟨v7, h7, ha7, H7', _⟩ := app_I H5 0 rfl f6 (by simp; omega)
    have H7 : Holds h2 h7 [.own v7 1 ((xs.take k ++ [(i : Int)] ++ xs.drop k).map encI)] := H7'
    have C7 := (C2.join H7).swapW
    obtain ⟨a3, b3, c3, rfl⟩ : ∃ a n c, v3 = .slice a n c := by obtain ⟨a, c, e⟩ := f3.shape; exact ⟨_, _, _, e⟩
    obtain ⟨a4, b4, c4, rfl⟩ : ∃ a n c, v4 = .slice a n c := by obtain ⟨a, c, e⟩ := (H4.sees 0 rfl).shape; exact ⟨_, _, _, e⟩
    obtain ⟨a5, b5, c5, rfl⟩ : ∃ a n c, v5 = .slice a n c := by obtain ⟨a, c, e⟩ := (H5.sees 0 rfl).shape; exact ⟨_, _, _, e⟩
    obtain ⟨a6, b6, c6, rfl⟩ : ∃ a n c, v6 = .slice a n c := by obtain ⟨a, c, e⟩ := f6.shape; exact ⟨_, _, _, e⟩
    simp -implicitDefEqProofs [s3, ha4, no4, ha5, md, s6, ha7, wi]
    exact ⟨m - 1, by omega, on hI ⟨i + 1, _, v7, by omega, rfl, by simp; omega, C7.mono (by omega)⟩⟩
  · have hlt' : ¬ (i : Int) < N := by omega
    simp -implicitDefEqProofs [hlt, hlt']
    refine CL_post (one_run B C1 (by omega) (k := 30) (by omega)) fun v h2 ⟨b, ev, C2⟩ => ?_
    subst ev
    cases b
    · simp -implicitDefEqProofs
      exact onK hK ⟨xs, by omega, C.gcO (C2.mono (by omega)) (fun h => h)⟩
    · have C3 := C2.lit [0, (N : Int), -1]
      simp -implicitDefEqProofs
      refine CL_post (among_run B C3 (by omega) snoc_get (xs := [0, (N : Int), -1]) (by simp) (by simp)) fun v h3 ⟨x, ev, _, C4⟩ => ?_
      subst ev
      obtain ⟨a, s, g1, g2, H⟩ := C4.weak
      obtain ⟨u', h5, g3, g4, _⟩ := push_I0 H (L.length + 1) (by rw [List.getElem?_cons_succ]; exact snoc_get) x (by omega)
      rw [List.set_cons_succ, List.set_append_right (h := Nat.le_refl _), Nat.sub_self] at g4
      have C5 : Cur h0 h5 r vc (n + 2 * N + 4) (L ++ [.own u' 1 ((xs ++ [x]).map encI)]) := ⟨a, s, g1, by omega, g4⟩
      obtain ⟨ub, ud, rfl⟩ : ∃ a c, u' = .slice a (xs.length + 1) c := by
        obtain ⟨a, c, e⟩ := C5.seesI.shapeT
        exact ⟨a, c, by rw [e]; simp⟩
      simp -implicitDefEqProofs [g3]
      exact onK hK ⟨xs ++ [x], by simp; omega, C.gcO C5 (fun h => h)⟩
end
end Go.Pm.PP

/- Values, best orders and exchanges, as the programs export them. -/
set_option linter.unusedVariables false
set_option linter.unusedSimpArgs false
set_option maxRecDepth 4000
set_option maxHeartbeats 8000000
namespace Go.Pm.PP
open Go.Pm Go.Proofs Go.Pm.PE
/-! ### bounds -/
theorem val_bd {o : Int} : ∀ {js : List Job} {es : List Int} {f : Bool} {a B : Int}, goodL js = true → (∀ e, e ∈ es → 0 ≤ e ∧ e ≤ 2 ^ 20) → -B ≤ a → a ≤ B → 0 ≤ B → -(B + js.length * 2 ^ 27) ≤ valGo o f a js es ∧ valGo o f a js es ≤ B + js.length * 2 ^ 27
  | [], es, f, a, B, _, _, h1, h2, _ => by simp [valGo]; omega
  | j :: js, [], f, a, B, _, _, h1, h2, hB => by simp only [valGo, List.length_cons]; omega
  | j :: js, e :: es, f, a, B, hg, he, h1, h2, hB => by
    rw [goodL_cons, Bool.and_eq_true] at hg
    have e1 := he e (List.mem_cons_self ..)
    have s := step_bd (o := o) (f := f) hg.1 e1.1 e1.2 ⟨h1, h2⟩ hB
    have := @val_bd o js es false (stepV o f a j e) (B + 2 ^ 27) hg.2 (fun x hx => he x (List.mem_cons_of_mem _ hx)) s.1 s.2 (by omega)
    rw [valGo, List.length_cons]
    omega
theorem endGo_bd {js : List Job} (hg : goodL js = true) : ∀ {xs : List Int} {now : Int} {E : List Int} {k : Nat}, inN js.length xs → 0 ≤ now → now ≤ 550 * k → (∀ e, e ∈ E → 0 ≤ e ∧ e ≤ 550 * (k + xs.length : Nat)) → ∀ e, e ∈ endGo js xs now E → 0 ≤ e ∧ e ≤ 550 * (k + xs.length : Nat)
  | [], now, E, k, _, _, _, hE, e, he => hE e he
  | x :: r, now, E, k, hin, h0, h1, hE, e, he => by
    obtain ⟨i, hi, hil, hy⟩ := jA_get rfl (hin x (List.mem_cons_self ..))
    have jb := job_of (job_at hg hy)
    rw [endGo] at he
    have := endGo_bd hg (xs := r) (now := max now (jA js x).r + (jA js x).t) (k := k + 1) (fun y hy => hin y (List.mem_cons_of_mem _ hy)) (by omega) (by omega) (fun e he => by
      rcases List.mem_or_eq_of_mem_set he with g | g
      · have := hE e g
        simp only [List.length_cons] at this
        omega
      · omega) e he
    simp only [List.length_cons]
    omega
def jOk (js : List Job) : Bool := decide (js.length ≤ 8) && goodL js
def okV (js : List Job) (xs : List Int) (o : Int) : Bool := (jOk js && l2OrderL js.length xs) && inB o 1 8
def okB (js : List Job) (o : Int) : Bool := jOk js && inB o 1 8
theorem jOk_of {js : List Job} (h : jOk js = true) : js.length ≤ 8 ∧ goodL js = true := by
  rw [jOk, Bool.and_eq_true, decide_eq_true_eq] at h; exact h
theorem inB_of {o : Int} (h : inB o 1 8 = true) : 1 ≤ o ∧ o ≤ 8 := by simpa [inB] using h
theorem ord_of {n : Nat} {xs : List Int} (hf : l2OrderL n xs = true) : Ord n xs := by
  rw [l2OrderL, Bool.and_eq_true, Bool.and_eq_true] at hf
  obtain ⟨⟨h1, h2⟩, h3⟩ := hf
  have hl : n ≤ 8 := by simp only [inB, Bool.and_eq_true, decide_eq_true_eq] at h1; omega
  have := order_eq (n := n) (xs := xs) hl
  rw [h2, h3, Bool.true_and, Bool.true_and] at this
  have wn : w64 ((n : Int) - 1) = (n : Int) - 1 := by unfold w64; rw [wrap_ok] <;> omega
  obtain ⟨g1, g2, _⟩ := (arGo_iff wn).1 this
  exact ⟨by have := beq_iff_eq.1 h2; omega, g1, g2⟩
theorem ord_ok {n : Nat} {xs : List Int} (hn : n ≤ 8) (o : Ord n xs) : l2OrderL n xs = true := by
  have := order_eq (n := n) (xs := xs) hn
  have wn : w64 ((n : Int) - 1) = (n : Int) - 1 := by unfold w64; rw [wrap_ok] <;> omega
  have h1 : arGo n [] xs = true := (arGo_iff wn).2 ⟨o.inn, o.nd, by simp⟩
  have h2 : ((xs.length : Int) == n) = true := by rw [beq_iff_eq, o.len]
  rw [h1, h2, Bool.true_and, Bool.true_and] at this
  rw [l2OrderL, h2, ← this]
  simp [inB]; omega
theorem okV_of {js : List Job} {xs : List Int} {o : Int} (h : okV js xs o = true) : js.length ≤ 8 ∧ goodL js = true ∧ Ord js.length xs ∧ (1 ≤ o ∧ o ≤ 8) := by
  rw [okV, Bool.and_eq_true, Bool.and_eq_true] at h
  obtain ⟨⟨h1, h2⟩, h3⟩ := h
  exact ⟨(jOk_of h1).1, (jOk_of h1).2, ord_of h2, inB_of h3⟩
theorem okB_of {js : List Job} {o : Int} (h : okB js o = true) : js.length ≤ 8 ∧ goodL js = true ∧ (1 ≤ o ∧ o ≤ 8) := by
  rw [okB, Bool.and_eq_true] at h
  exact ⟨(jOk_of h.1).1, (jOk_of h.1).2, inB_of h.2⟩
theorem isObjective_run {h : Hp} {x : Int} : Ret P G n_impl_isObjective [.int .i64 x] h (.bool (inB x 1 8)) h := by
  refine enter_run e_impl_isObjective (by simp) ?_
  simp -implicitDefEqProofs [CL_ret within_run]
section
variable {h : Hp} {v u : Value} {js : List Job} {xs : List Int} {o : Int}
theorem isJobs_run (hj : Jobs h v js) (hl : js.length ≤ 2 ^ 40) : Ret P G n_impl_IsJobs [v] h (.bool (jOk js)) h := IsJobs_run hj hl
theorem isScheduled_run (hj : Jobs h v js) (hu : Ints h u xs) (hl : js.length ≤ 2 ^ 40) (hx : xs.length ≤ 2 ^ 40) : Ret P G n_impl_isScheduled [v, u] h (.bool (jOk js && l2OrderL js.length xs)) h := by
  refine enter_run e_impl_isScheduled (by simp) ?_
  have r1 := isJobs_run hj hl
  have r2 := isOrder_run (n := js.length) hu hx
  obtain ⟨oj, cj, rfl⟩ := hj.shapeT
  cases c1 : jOk js
  · simp -implicitDefEqProofs [CL_ret r1, c1]
  · have hn := (jOk_of c1).1
    have e : (((xs.length : Int) == (js.length : Nat)) && arGo js.length [] xs) = l2OrderL js.length xs := by
      rw [order_eq hn, l2OrderL, show inB js.length 0 8 = true by simp [inB]; omega, Bool.true_and]
    rw [e] at r2
    simp -implicitDefEqProofs [CL_ret r1, c1, CL_ret r2]
theorem isValued_run (hj : Jobs h v js) (hu : Ints h u xs) (hl : js.length ≤ 2 ^ 40) (hx : xs.length ≤ 2 ^ 40) : Ret P G n_impl_isValued [v, u, .int .i64 o] h (.bool (okV js xs o)) h := by
  refine enter_run e_impl_isValued (by simp) ?_
  have r1 := isScheduled_run hj hu hl hx
  obtain ⟨oj, cj, rfl⟩ := hj.shapeT
  obtain ⟨oa, ca, rfl⟩ := hu.shapeT
  cases c1 : (jOk js && l2OrderL js.length xs)
  · rw [c1] at r1
    simp -implicitDefEqProofs [CL_ret r1, okV, c1]
  · rw [c1] at r1
    simp -implicitDefEqProofs [CL_ret r1, okV, c1, CL_ret isObjective_run]
def vOf (js : List Job) (xs : List Int) (o : Int) : Int := if okV js xs o = true then valX o js xs else 0
theorem implValueOf_run (hj : Jobs h v js) (hu : Ints h u xs) (hl : js.length ≤ 2 ^ 40) (hx : xs.length ≤ 2 ^ 40) : Ret P G n_impl_ValueOf [v, u, .int .i64 o] h (.tuple #[.int .i64 (vOf js xs o), .bool (okV js xs o)]) h := by
  refine enter_run e_impl_ValueOf (by simp) ?_
  have r1 := isValued_run (o := o) hj hu hl hx
  have hjs := hj
  have hus := hu
  obtain ⟨oj, cj, rfl⟩ := hj.shapeT
  obtain ⟨oa, ca, rfl⟩ := hu.shapeT
  cases c1 : okV js xs o
  · simp -implicitDefEqProofs [CL_ret r1, c1, vOf]
  · obtain ⟨hn, hg, ox, ho⟩ := okV_of c1
    have rv := valueOf_run (o := o) hjs hus hg hn ho ox
    simp -implicitDefEqProofs [CL_ret r1, c1, CL_ret rv, vOf]
def bR (js : List Job) (o : Int) : Sr := if okB js o = true then bestR (valX o js) js.length else sr0
theorem bR_v {js : List Job} {o : Int} (h : okB js o = true) : (bR js o).v = bestV o js := by rw [bR, if_pos h]; rfl
end
end Go.Pm.PP

/- Best values, counts, and exchanges of neighbours, as the programs export them. -/
set_option linter.unusedVariables false
set_option linter.unusedSimpArgs false
set_option maxRecDepth 4000
set_option maxHeartbeats 8000000
namespace Go.Pm.PP
open Go.Pm Go.Proofs Go.Pm.PE
section
variable {h : Hp} {v u : Value} {js : List Job} {xs ys : List Int} {o : Int}
theorem implBestValue_run (hj : Jobs h v js) (hl : js.length ≤ 2 ^ 40) : Ret P G n_impl_BestValue [v, .int .i64 o] h (.tuple #[.int .i64 (bR js o).v, .bool (okB js o)]) h := by
  refine enter_run e_impl_BestValue (by simp) ?_
  have r1 := isJobs_run hj hl
  have hjs := hj
  obtain ⟨oj, cj, rfl⟩ := hj.shapeT
  cases c1 : jOk js
  · simp -implicitDefEqProofs [CL_ret r1, CH_at r1, c1, bR, okB, sr0]
  · cases c2 : inB o 1 8
    · simp -implicitDefEqProofs [CL_ret r1, CH_at r1, c1, CL_ret isObjective_run, CH_at isObjective_run, c2, bR, okB, sr0]
    · have c3 : okB js o = true := by rw [okB, c1, c2]; rfl
      obtain ⟨hn, hg, ho⟩ := okB_of c3
      simp -implicitDefEqProofs [CL_ret r1, CH_at r1, c1, CL_ret isObjective_run, CH_at isObjective_run, c2]
      refine CL_post (best_run hjs hg hn ho) fun w h1 ⟨hp1, vf, ev, s1⟩ => ?_
      subst ev
      simp -implicitDefEqProofs
      exact ⟨⟨(bR_v c3).symm, c3⟩, gcP hp1 rfl⟩
/-! ### exchanges -/
end
end Go.Pm.PP

/- Exchanges of neighbours in plain terms; the value of an order, told along the order. -/
set_option linter.unusedVariables false
set_option linter.unusedSimpArgs false
namespace Go.Pm.PE
/-! ### exchanges -/
/-! ### sums -/
theorem sum_perm {l l' : List Int} (h : l.Perm l') : l.sum = l'.sum := by
  induction h with
  | nil => rfl
  | cons x _ ih => rw [List.sum_cons, List.sum_cons, ih]
  | swap x y l => simp only [List.sum_cons]; omega
  | trans _ _ h1 h2 => rw [h1, h2]
end Go.Pm.PE
namespace Go.Pm.PP
open Go.Pm Go.Pm.PE
/-! ### along an order -/
def endAt (j : Job) (now : Int) : Int := max now j.r + j.t
def nowGo (js : List Job) : Int → List Int → Int
  | now, [] => now
  | now, x :: r => nowGo js (endAt (jA js x) now) r
theorem valGo_sum {o : Int} (h1 : ¬ o = 1) (h4 : ¬ o = 4) : ∀ {js : List Job} {es : List Int} {f : Bool} {a : Int}, js.length = es.length → valGo o f a js es = a + ((List.range' 0 js.length).map fun i => costV o ((js[i]?).getD ⟨0, 0, 0, 0⟩) (gE es i)).sum
  | [], [], f, a, _ => by simp [valGo]
  | [], e :: es, f, a, h => by simp at h
  | j :: js, [], f, a, h => by simp at h
  | j :: js, e :: es, f, a, h => by
    rw [valGo, valGo_sum h1 h4 (by simpa using h), List.length_cons, List.range'_succ, List.map_cons, List.sum_cons]
    have e1 : List.range' (0 + 1) js.length = (List.range' 0 js.length).map (1 + ·) := by rw [List.map_add_range' (a := 1)]
    have e2 : stepV o f a j e = a + costV o j e := by unfold stepV; rw [if_neg h1, if_neg h4]
    rw [e1, List.map_map, e2, Int.add_assoc]
    congr 1
    congr 1
    congr 1
    apply List.map_congr_left
    intro i _
    simp [gE, Nat.add_comm 1 i]
/-- An order of n jobs. -/
def Prm (n : Nat) (xs : List Int) : Prop := xs.Perm ((List.range' 0 n).map fun i : Nat => (i : Int))
theorem Prm.inn {n : Nat} {xs : List Int} (h : Prm n xs) : inN n xs := fun x hx => by
  have := h.mem_iff.1 hx
  obtain ⟨i, hi, rfl⟩ := List.mem_map.1 this
  simp [List.mem_range'_1] at hi
  omega
theorem Prm.nd {n : Nat} {xs : List Int} (h : Prm n xs) : xs.Nodup := h.nodup_iff.2 (List.Pairwise.map _ (fun a b h e => h (by omega)) List.nodup_range')
theorem Prm.len {n : Nat} {xs : List Int} (h : Prm n xs) : xs.length = n := by rw [h.length_eq]; simp
/-! ### the greatest lateness -/
end Go.Pm.PP

/- Exchanges of neighbours for jobs without releases: sums, weighted sums, lateness; losses by inversions. -/
set_option linter.unusedVariables false
set_option linter.unusedSimpArgs false
namespace Go.Pm.PP
open Go.Pm Go.Pm.PE
/-- Jobs without releases. -/
structure Pl (js : List Job) : Prop where
  r : ∀ x, (jA js x).r = 0
  t : ∀ x, 0 ≤ (jA js x).t
theorem Pl.endAt {js : List Job} (p : Pl js) {x now : Int} (h : 0 ≤ now) : endAt (jA js x) now = now + (jA js x).t := by
  unfold PP.endAt; rw [p.r]; omega
theorem Pl.now {js : List Job} (p : Pl js) : ∀ {A : List Int} {now : Int}, 0 ≤ now → 0 ≤ nowGo js now A
  | [], _, h => h
  | x :: A, now, h => by
    rw [nowGo, p.endAt h]
    exact p.now (by have := p.t x; omega)
/-! ### inversions -/
end Go.Pm.PP

/- Sorting in plain terms: the program's from behind, the reference's from the front. -/
set_option linter.unusedVariables false
set_option linter.unusedSimpArgs false
namespace Go.Pm.PE
variable {ah : Int → Int → Bool}
/-- A relation by which x goes ahead. -/
structure Weak (ah : Int → Int → Bool) : Prop where
  asy : ∀ {a b}, ah a b = true → ah b a = false
  tr : ∀ {a b c}, ah a b = false → ah b c = false → ah a c = false
/-! ### from the front -/
end Go.Pm.PE

/- Sets as binary digits, in plain terms. -/
set_option linter.unusedVariables false
set_option linter.unusedSimpArgs false
namespace Go.Pm.PE
end Go.Pm.PE

/- The table of the least values of sets, in plain terms. -/
set_option linter.unusedVariables false
set_option linter.unusedSimpArgs false
namespace Go.Pm.PP
open Go.Pm Go.Pm.PE
/-- Costs are bounded, and no less for later ends. -/
structure Cb (o : Int) (js : List Job) : Prop where
  lo : ∀ x e, 0 ≤ e → 0 ≤ costV o (jA js x) e
  hi : ∀ x e, 0 ≤ e → e ≤ 2 ^ 20 → costV o (jA js x) e ≤ 2 ^ 27
  mo : ∀ x e e', 0 ≤ e → e ≤ e' → costV o (jA js x) e ≤ costV o (jA js x) e'
end Go.Pm.PP

/- Ruled orders, due orders, inversions, in plain terms. -/
set_option linter.unusedVariables false
set_option linter.unusedSimpArgs false
namespace Go.Pm.PP
open Go.Pm Go.Pm.PE
/-! ### the list of inversions -/
/-! ### due order -/
/-! ### timely -/
end Go.Pm.PP

/- The last end of an order; sets of digits of any length. -/
set_option linter.unusedVariables false
set_option linter.unusedSimpArgs false
namespace Go.Pm.PE
end Go.Pm.PE
namespace Go.Pm.PP
open Go.Pm Go.Pm.PE
end Go.Pm.PP

/- Ruled orders are best, in plain terms: the last end too. -/
set_option linter.unusedVariables false
set_option linter.unusedSimpArgs false
namespace Go.Pm.PP
open Go.Pm Go.Pm.PE
end Go.Pm.PP

/- Fronts of points, in plain terms. -/
set_option linter.unusedVariables false
set_option linter.unusedSimpArgs false
namespace Go.Pm.PE
abbrev Pt := Int × Int
def domB (p q : Pt) : Bool := !(p.1 == q.1 && p.2 == q.2) && decide (p.1 ≤ q.1) && decide (p.2 ≤ q.2)
def sameB (p q : Pt) : Bool := p.1 == q.1 && p.2 == q.2
theorem sameB_iff {p q : Pt} : sameB p q = true ↔ p = q := by
  unfold sameB; rw [Bool.and_eq_true, beq_iff_eq, beq_iff_eq]
  constructor
  · rintro ⟨h1, h2⟩; exact Prod.ext h1 h2
  · rintro rfl; exact ⟨rfl, rfl⟩
theorem domB_iff {p q : Pt} : domB p q = true ↔ p ≠ q ∧ p.1 ≤ q.1 ∧ p.2 ≤ q.2 := by
  have := @sameB_iff p q
  unfold sameB at this
  unfold domB
  rw [Bool.and_eq_true, Bool.and_eq_true, Bool.not_eq_true', decide_eq_true_eq, decide_eq_true_eq, ← Bool.not_eq_true, this, and_assoc]
def insP (p : Pt) : List Pt → List Pt
  | [] => [p]
  | q :: l => if p.1 < q.1 then p :: q :: l else q :: insP p l
theorem insP_perm {p : Pt} : ∀ {l : List Pt}, (insP p l).Perm (p :: l)
  | [] => List.Perm.refl _
  | q :: l => by
    rw [insP]; split
    · exact List.Perm.refl _
    · exact (List.Perm.cons q insP_perm).trans (List.Perm.swap ..)
/-- A point or one that dominates it is there. -/
def coverB (F : List Pt) (p : Pt) : Bool := F.any fun q => sameB q p || domB q p
def restF (F : List Pt) (p : Pt) : List Pt := F.filter fun q => !domB p q
def putF (F : List Pt) (p : Pt) : List Pt := if coverB F p = true then F else insP p (restF F p)
def Srt (F : List Pt) : Prop := F.Pairwise fun a b => a.1 < b.1 ∧ b.2 < a.2
theorem rest_srt {F : List Pt} {p : Pt} (h : Srt F) : Srt (restF F p) := h.sublist List.filter_sublist
theorem rest_mem {F : List Pt} {p q : Pt} : q ∈ restF F p ↔ q ∈ F ∧ domB p q = false := by
  unfold restF; rw [List.mem_filter]; simp
theorem cover_iff {F : List Pt} {p : Pt} : coverB F p = true ↔ ∃ q, q ∈ F ∧ q.1 ≤ p.1 ∧ q.2 ≤ p.2 := by
  unfold coverB
  rw [List.any_eq_true]
  constructor
  · rintro ⟨q, hq, h⟩
    rw [Bool.or_eq_true, sameB_iff, domB_iff] at h
    refine ⟨q, hq, ?_⟩
    rcases h with rfl | h
    · exact ⟨Int.le_refl _, Int.le_refl _⟩
    · exact h.2
  · rintro ⟨q, hq, h1, h2⟩
    refine ⟨q, hq, ?_⟩
    rw [Bool.or_eq_true, sameB_iff, domB_iff]
    by_cases e : q = p
    · exact .inl e
    · exact .inr ⟨e, h1, h2⟩
/-- What is left and the new point part in both numbers. -/
theorem rest_part {F : List Pt} {p q : Pt} (hc : coverB F p = false) (hq : q ∈ restF F p) : (q.1 < p.1 ∧ p.2 < q.2) ∨ (p.1 < q.1 ∧ q.2 < p.2) := by
  obtain ⟨h1, h2⟩ := rest_mem.1 hq
  have h3 : ¬ (q.1 ≤ p.1 ∧ q.2 ≤ p.2) := fun g => by
    have := cover_iff.2 ⟨q, h1, g⟩
    rw [this] at hc; cases hc
  have h4 : ¬ (p ≠ q ∧ p.1 ≤ q.1 ∧ p.2 ≤ q.2) := fun g => by
    rw [domB_iff.2 g] at h2; cases h2
  have h5 : ¬ (p.1 ≤ q.1 ∧ p.2 ≤ q.2) := fun g => h4 ⟨fun e => h3 (by rw [e]; exact ⟨Int.le_refl _, Int.le_refl _⟩), g⟩
  omega
theorem insP_srt {p : Pt} : ∀ {l : List Pt}, Srt l → (∀ q, q ∈ l → (q.1 < p.1 ∧ p.2 < q.2) ∨ (p.1 < q.1 ∧ q.2 < p.2)) → Srt (insP p l)
  | [], _, _ => by rw [insP]; exact List.pairwise_singleton ..
  | q :: l, h, hp => by
    have h := List.pairwise_cons.1 h
    have hq := hp q (List.mem_cons_self ..)
    rw [insP]; split
    · rename_i g
      refine List.pairwise_cons.2 ⟨fun z hz => ?_, List.pairwise_cons.2 h⟩
      rcases List.mem_cons.1 hz with rfl | hz
      · omega
      · have := h.1 z hz; omega
    · rename_i g
      refine List.pairwise_cons.2 ⟨fun z hz => ?_, insP_srt h.2 fun z hz => hp z (List.mem_cons_of_mem _ hz)⟩
      rcases List.mem_cons.1 (insP_perm.mem_iff.1 hz) with rfl | hz
      · omega
      · exact h.1 z hz
theorem putF_srt {F : List Pt} {p : Pt} (h : Srt F) : Srt (putF F p) := by
  unfold putF; split
  · exact h
  · rename_i hc
    exact insP_srt (rest_srt h) fun q hq => rest_part (by simpa using hc) hq
theorem putF_mem {F : List Pt} {p q : Pt} (h : q ∈ putF F p) : q = p ∨ q ∈ F := by
  unfold putF at h; split at h
  · exact .inr h
  · rcases List.mem_cons.1 (insP_perm.mem_iff.1 h) with g | g
    · exact .inl g
    · exact .inr (rest_mem.1 g).1
/-! ### the first one that fits -/
end Go.Pm.PE
namespace Go.Pm.PP
open Go.Pm Go.Pm.PE
end Go.Pm.PP
namespace Go.Pm.PE
/-- A front with bounded first numbers is not long. -/
def FOk (F : List Pt) : Prop := Srt F ∧ ∀ q, q ∈ F → -(2 ^ 30) ≤ q.1 ∧ q.1 ≤ 2 ^ 30
theorem srt_len : ∀ {F : List Pt} {a : Int}, Srt F → (∀ q, q ∈ F → a ≤ q.1 ∧ q.1 ≤ 2 ^ 30) → a ≤ 2 ^ 30 + 1 → (F.length : Int) ≤ 2 ^ 30 + 1 - a
  | [], a, _, _, ha => by simp; omega
  | q :: F, a, h, hb, ha => by
    have h := List.pairwise_cons.1 h
    have hq := hb q (List.mem_cons_self ..)
    have := srt_len (F := F) (a := q.1 + 1) h.2 (fun z hz => by have := h.1 z hz; have := hb z (List.mem_cons_of_mem _ hz); omega) (by omega)
    rw [List.length_cons]; omega
theorem FOk.len {F : List Pt} (h : FOk F) : F.length ≤ 2 ^ 32 := by
  have := srt_len h.1 h.2 (by omega); omega
theorem FOk.put {F : List Pt} (h : FOk F) {p : Pt} (hp : -(2 ^ 30) ≤ p.1 ∧ p.1 ≤ 2 ^ 30) : FOk (putF F p) := ⟨putF_srt h.1, fun q hq => by
  rcases putF_mem hq with rfl | g
  · exact hp
  · exact h.2 q g⟩
theorem FOk.nil : FOk [] := ⟨List.Pairwise.nil, fun q hq => by cases hq⟩
end Go.Pm.PE

/- Tables of truth values and their closures, in plain terms. -/
set_option linter.unusedVariables false
set_option linter.unusedSimpArgs false
namespace Go.Pm.PE
def tG (T : List (List Bool)) (a b : Nat) : Bool := (((T[a]?).getD [])[b]?).getD false
def tS (T : List (List Bool)) (a b : Nat) (x : Bool) : List (List Bool) := T.set a (((T[a]?).getD []).set b x)
structure TOk (n : Nat) (T : List (List Bool)) : Prop where
  len : T.length = n
  row : ∀ r, r ∈ T → r.length = n
theorem TOk.at {n : Nat} {T : List (List Bool)} (k : TOk n T) {a : Nat} (ha : a < n) : ∃ r, T[a]? = some r ∧ r.length = n := by
  obtain ⟨r, hr, _⟩ := drop_at (show a < T.length by rw [k.len]; exact ha)
  exact ⟨r, hr, k.row r (List.mem_of_getElem? hr)⟩
theorem TOk.cell {n : Nat} {T : List (List Bool)} (k : TOk n T) {a b : Nat} (ha : a < n) (hb : b < n) : ∃ r, T[a]? = some r ∧ r.length = n ∧ r[b]? = some (tG T a b) := by
  obtain ⟨r, hr, hl⟩ := k.at ha
  obtain ⟨x, hx, _⟩ := drop_at (show b < r.length by omega)
  exact ⟨r, hr, hl, by simp [tG, hr, hx]⟩
theorem TOk.set {n : Nat} {T : List (List Bool)} (k : TOk n T) {a b : Nat} {x : Bool} (ha : a < n) : TOk n (tS T a b x) := by
  obtain ⟨r, hr, hl⟩ := k.at ha
  refine ⟨by unfold tS; rw [List.length_set, k.len], fun q hq => ?_⟩
  unfold tS at hq
  rw [hr, Option.getD_some] at hq
  rcases List.mem_or_eq_of_mem_set hq with g | g
  · exact k.row q g
  · rw [g, List.length_set, hl]
/-! ### closures -/
def falT (n : Nat) : List (List Bool) := List.replicate n (List.replicate n false)
def edT (T : List (List Bool)) (es : List (Int × Int)) : List (List Bool) := es.foldl (fun T e => tS T e.1.toNat e.2.toNat true) T
def cst (k i : Nat) (T : List (List Bool)) (j : Nat) : List (List Bool) := tS T i j (tG T i j || (tG T i k && tG T k j))
def cJ (k i : Nat) (T : List (List Bool)) (l : List Nat) : List (List Bool) := l.foldl (cst k i) T
def cI (n k : Nat) (T : List (List Bool)) (l : List Nat) : List (List Bool) := l.foldl (fun T i => cJ k i T (List.range' 0 n)) T
def cK (n : Nat) (T : List (List Bool)) (l : List Nat) : List (List Bool) := l.foldl (fun T k => cI n k T (List.range' 0 n)) T
def clo (n : Nat) (es : List (Int × Int)) : List (List Bool) := cK n (edT (falT n) es) (List.range' 0 n)
end Go.Pm.PE

/- Orders by a vector of ends, in plain terms. -/
set_option linter.unusedVariables false
set_option linter.unusedSimpArgs false
namespace Go.Pm.PE
open Go.Pm.PP
end Go.Pm.PE

/- The order that is found from its end under a limit of lateness, in plain terms: it is there if any order keeps to the limit, and then it has the least sum of ends of all these. -/
set_option linter.unusedVariables false
set_option linter.unusedSimpArgs false
namespace Go.Pm.PE
open Go.Pm.PP
section
variable (t d : Int → Int) (lim : Int)
def okG : Int → List Int → Bool
  | _, [] => true
  | now, x :: r => decide (now + t x ≤ d x + lim) && okG (now + t x) r
def tsm (l : List Int) : Int := (l.map t).sum
end
section
variable {t d : Int → Int} {lim : Int}
theorem tsm_app {A C : List Int} : tsm t (A ++ C) = tsm t A + tsm t C := by simp [tsm]
theorem tsm_cons {x : Int} {C : List Int} : tsm t (x :: C) = t x + tsm t C := by simp [tsm]
theorem tsm_perm {l l' : List Int} (h : l.Perm l') : tsm t l = tsm t l' := sum_perm (h.map _)
theorem okG_app : ∀ {A C : List Int} {now : Int}, okG t d lim now (A ++ C) = (okG t d lim now A && okG t d lim (now + tsm t A) C)
  | [], C, now => by simp [okG, tsm]
  | x :: A, C, now => by
    simp only [List.cons_append, okG, tsm_cons]
    rw [okG_app, show now + t x + tsm t A = now + (t x + tsm t A) by omega, Bool.and_assoc]
theorem okG_mono : ∀ {C : List Int} {a b : Int}, a ≤ b → okG t d lim b C = true → okG t d lim a C = true
  | [], _, _, _, _ => rfl
  | x :: C, a, b, h, e => by
    simp only [okG, Bool.and_eq_true, decide_eq_true_eq] at e ⊢
    exact ⟨by omega, okG_mono (by omega) e.2⟩
theorem snoc_of {α : Type} {xs : List α} (h : xs ≠ []) : ∃ r x, xs = r ++ [x] := ⟨xs.dropLast, xs.getLast h, (List.dropLast_concat_getLast h).symm⟩
end
end Go.Pm.PE

/- The choice by time and bounds of prefixes, in plain terms. -/
set_option linter.unusedVariables false
set_option linter.unusedSimpArgs false
namespace Go.Pm.PP
open Go.Pm Go.Pm.PE
structure Sp where
  j : Int
  a : Int
  b : Int
def encS (s : Sp) : List Value := [.int .i64 s.j, .int .i64 s.a, .int .i64 s.b]
/-! ### sums -/
def sumL : List Int → Int
  | [] => 0
  | x :: r => x + sumL r
theorem sumL_append : ∀ {l r : List Int}, sumL (l ++ r) = sumL l + sumL r
  | [], r => by simp [sumL]
  | x :: l, r => by rw [List.cons_append, sumL, sumL, sumL_append]; omega
theorem sumL_set : ∀ {l : List Int} {i : Nat} {y : Int}, i < l.length → sumL (l.set i y) = sumL l - gE l i + y
  | x :: l, 0, y, _ => by simp [sumL, gE]; omega
  | x :: l, i + 1, y, h => by
    have := @sumL_set l i y (by simpa using h)
    rw [List.set_cons_succ, sumL, sumL, this]
    simp [gE]; omega
theorem sumL_nn : ∀ {l : List Int}, (∀ x, x ∈ l → 0 ≤ x ∧ x ≤ 50) → 0 ≤ sumL l ∧ sumL l ≤ 50 * l.length
  | [], _ => by simp [sumL]
  | x :: l, h => by
    have h1 := h x (List.mem_cons_self ..)
    have h2 := sumL_nn fun y hy => h y (List.mem_cons_of_mem _ hy)
    rw [sumL, List.length_cons]; omega
theorem sumL_pos : ∀ {l : List Int}, (∀ x, x ∈ l → 0 ≤ x ∧ x ≤ 50) → 0 < sumL l → ∃ i, i < l.length ∧ 0 < gE l i
  | [], _, h => by simp [sumL] at h
  | x :: l, h, hs => by
    have h1 := h x (List.mem_cons_self ..)
    by_cases c : 0 < x
    · exact ⟨0, by simp, by simpa [gE] using c⟩
    · rw [sumL] at hs
      obtain ⟨i, h3, h4⟩ := sumL_pos (fun y hy => h y (List.mem_cons_of_mem _ hy)) (by omega)
      exact ⟨i + 1, by simpa using h3, by simpa [gE] using h4⟩
theorem gE_mem {l : List Int} {i : Nat} (h : i < l.length) : gE l i ∈ l := List.mem_of_getElem? (gE_get h)
/-! ### rests -/
def inP (B : List Int) (i : Nat) : Bool := B.any (· == (i : Int))
def restL (js : List Job) (B : List Int) : List Int := (List.range js.length).map fun i => if inP B i = true then 0 else (jA js i).t
theorem restL_len {js : List Job} {B : List Int} : (restL js B).length = js.length := by simp [restL]
theorem restL_at {js : List Job} {B : List Int} {i : Nat} (hi : i < js.length) : (restL js B)[i]? = some (if inP B i = true then 0 else (jA js i).t) := by
  unfold restL; rw [List.getElem?_map, List.getElem?_range hi]; rfl
theorem restL_nil {js : List Job} : restL js [] = js.map (·.t) := by
  apply List.ext_getElem?
  intro i
  by_cases hi : i < js.length
  · rw [restL_at hi, List.getElem?_map, List.getElem?_eq_getElem hi]
    simp [inP, jA, hi]
  · rw [List.getElem?_eq_none (by rw [restL_len]; omega), List.getElem?_eq_none (by simp; omega)]
theorem restL_snoc {js : List Job} {B : List Int} {k : Nat} (hk : k < js.length) : (restL js B).set k 0 = restL js (B ++ [(k : Int)]) := by
  apply List.ext_getElem?
  intro i
  by_cases hi : i < js.length
  · rw [List.getElem?_set, restL_at hi, restL_at hi, restL_len]
    by_cases e : k = i
    · subst e
      simp [inP, hk]
    · have e' : ¬ (k : Int) = (i : Int) := by omega
      simp [inP, e, e']
  · rw [List.getElem?_eq_none (by rw [List.length_set, restL_len]; omega), List.getElem?_eq_none (by rw [restL_len]; omega)]
theorem restL_bd {js : List Job} {B : List Int} (hg : goodL js = true) : ∀ x, x ∈ restL js B → 0 ≤ x ∧ x ≤ 50 := by
  intro x hx
  obtain ⟨i, hi, rfl⟩ := List.mem_map.1 hx
  have hi := List.mem_range.1 hi
  split
  · omega
  · obtain ⟨y, hy, _⟩ := drop_at hi
    have e : jA js i = y := by unfold jA; rw [Int.toNat_natCast, hy]; rfl
    rw [e]
    have := job_of (job_at hg hy)
    omega
theorem jA_bd {js : List Job} (hg : goodL js = true) {i : Nat} (hi : i < js.length) : (1 ≤ (jA js i).t ∧ (jA js i).t ≤ 50) ∧ (0 ≤ (jA js i).r ∧ (jA js i).r ≤ 500) ∧ 0 ≤ (jA js i).d ∧ (jA js i).d ≤ 500 := by
  obtain ⟨y, hy, _⟩ := drop_at hi
  have e : jA js i = y := by unfold jA; rw [Int.toNat_natCast, hy]; rfl
  rw [e]
  have := job_of (job_at hg hy)
  omega
/-! ### the choice -/
def betB (o : Int) (js : List Job) (rs : List Int) (i b : Nat) : Bool := if o = 2 then decide (gE rs i < gE rs b) else decide ((jA js i).d < (jA js b).d)
def pickF (o : Int) (js : List Job) (rs : List Int) (now : Int) (b : Int) (i : Nat) : Int := if gE rs i = 0 ∨ now < (jA js i).r then b else if b < 0 ∨ betB o js rs i b.toNat = true then i else b
def pickL (o : Int) (js : List Job) (rs : List Int) (now : Int) : Int := (List.range' 0 js.length).foldl (pickF o js rs now) (-1)
def pkOk (js : List Job) (rs : List Int) (b : Int) : Prop := 0 ≤ b ∧ b < js.length ∧ gE rs b.toNat ≠ 0
theorem pick_fact {o : Int} {js : List Job} {rs : List Int} {now : Int} : ∀ {m i : Nat} {b : Int}, i + m = js.length → (b = -1 ∨ pkOk js rs b) →
    ((List.range' i m).foldl (pickF o js rs now) b = -1 ∧ b = -1 ∧ ∀ k, i ≤ k → k < js.length → gE rs k = 0 ∨ now < (jA js k).r) ∨ pkOk js rs ((List.range' i m).foldl (pickF o js rs now) b)
  | 0, i, b, him, hb => by
    rw [List.range'_zero, List.foldl_nil]
    rcases hb with rfl | hb
    · exact .inl ⟨rfl, rfl, fun k h1 h2 => by omega⟩
    · exact .inr hb
  | m + 1, i, b, him, hb => by
    rw [List.range'_succ, List.foldl_cons]
    by_cases c1 : gE rs i = 0 ∨ now < (jA js i).r
    · have e : pickF o js rs now b i = b := by unfold pickF; rw [if_pos c1]
      rw [e]
      rcases pick_fact (o := o) (now := now) (m := m) (i := i + 1) (by omega) hb with ⟨h1, h2, h3⟩ | h
      · refine .inl ⟨h1, h2, fun k hk1 hk2 => ?_⟩
        by_cases e : k = i
        · subst e; exact c1
        · exact h3 k (by omega) hk2
      · exact .inr h
    · by_cases c2 : b < 0 ∨ betB o js rs i b.toNat = true
      · have e : pickF o js rs now b i = i := by unfold pickF; rw [if_neg c1, if_pos c2]
        rw [e]
        have ok : pkOk js rs (i : Int) := ⟨by omega, by omega, fun g => c1 (.inl g)⟩
        rcases pick_fact (o := o) (now := now) (m := m) (i := i + 1) (by omega) (.inr ok) with ⟨h1, h2, h3⟩ | h
        · omega
        · exact .inr h
      · have e : pickF o js rs now b i = b := by unfold pickF; rw [if_neg c1, if_neg c2]
        have hb' : pkOk js rs b := by rcases hb with rfl | hb; exact absurd (.inl (by omega)) c2; exact hb
        rw [e]
        rcases pick_fact (o := o) (now := now) (m := m) (i := i + 1) (by omega) (.inr hb') with ⟨h1, h2, h3⟩ | h
        · subst h2; exact absurd hb'.1 (by omega)
        · exact .inr h
theorem pick_cases {o : Int} {js : List Job} {rs : List Int} {now : Int} : (pickL o js rs now = -1 ∧ ∀ k, k < js.length → gE rs k = 0 ∨ now < (jA js k).r) ∨ ∃ b : Nat, pickL o js rs now = b ∧ b < js.length ∧ gE rs b ≠ 0 := by
  rcases pick_fact (o := o) (js := js) (rs := rs) (now := now) (m := js.length) (i := 0) (b := -1) (by omega) (.inl rfl) with ⟨h1, _, h3⟩ | ⟨h1, h2, h3⟩
  · exact .inl ⟨h1, fun k hk => h3 k (Nat.zero_le _) hk⟩
  · refine .inr ⟨(pickL o js rs now).toNat, ?_, ?_, h3⟩
    · unfold pickL; omega
    · unfold pickL; omega
def picks (o : Int) (js : List Job) : Nat → Int → List Int → List (Int × Int)
  | 0, _, _ => []
  | m + 1, now, rs => if sumL rs ≤ 0 then [] else if pickL o js rs now < 0 then picks o js m (now + 1) rs
      else (pickL o js rs now, now) :: picks o js m (now + 1) (rs.set (pickL o js rs now).toNat (gE rs (pickL o js rs now).toNat - 1))
def apS (E : List Int) (ps : List (Int × Int)) : List Int := ps.foldl (fun E p => E.set p.1.toNat (p.2 + 1)) E
theorem apS_len : ∀ {ps : List (Int × Int)} {E : List Int}, (apS E ps).length = E.length
  | [], E => rfl
  | p :: ps, E => by
    have := @apS_len ps (E.set p.1.toNat (p.2 + 1))
    unfold apS at this ⊢
    rw [List.foldl_cons, this, List.length_set]
theorem apS_mem {lo hi : Int} : ∀ {ps : List (Int × Int)} {E : List Int}, (∀ e, e ∈ E → lo ≤ e ∧ e ≤ hi) → (∀ p, p ∈ ps → lo ≤ p.2 + 1 ∧ p.2 + 1 ≤ hi) → ∀ e, e ∈ apS E ps → lo ≤ e ∧ e ≤ hi
  | [], E, hE, _, e, he => hE e he
  | p :: ps, E, hE, hp, e, he => by
    refine @apS_mem lo hi ps (E.set p.1.toNat (p.2 + 1)) (fun e he => ?_) (fun q hq => hp q (List.mem_cons_of_mem _ hq)) e he
    rcases List.mem_or_eq_of_mem_set he with g | g
    · exact hE e g
    · rw [g]; exact hp p (List.mem_cons_self ..)
theorem picks_mem {o : Int} {js : List Job} : ∀ {m : Nat} {now : Int} {rs : List Int}, ∀ p, p ∈ picks o js m now rs → now ≤ p.2 ∧ p.2 < now + m
  | 0, now, rs, p, hp => by simp [picks] at hp
  | m + 1, now, rs, p, hp => by
    rw [picks] at hp
    split at hp
    · cases hp
    · split at hp
      · have := picks_mem p hp; omega
      · rcases List.mem_cons.1 hp with rfl | hp
        · dsimp only; omega
        · have := picks_mem p hp; omega
/-- What the choice at a time asks. -/
structure Ch (js : List Job) (rs : List Int) (now : Int) (m : Nat) : Prop where
  l : rs.length = js.length
  b : ∀ x, x ∈ rs → 0 ≤ x ∧ x ≤ 50
  m : sumL rs + (501 - now).toNat ≤ m
theorem Ch.skip {o : Int} {js : List Job} {rs : List Int} {now : Int} {m : Nat} (hg : goodL js = true) (C : Ch js rs now m) (hs : 0 < sumL rs) (hp : pickL o js rs now < 0) : now < 500 ∧ Ch js rs (now + 1) (m - 1) ∧ 0 < m := by
  have h5 : now < 500 := by
    rcases pick_cases (o := o) (js := js) (rs := rs) (now := now) with ⟨_, h2⟩ | ⟨b, h1, _⟩
    · obtain ⟨i, h3, h4⟩ := sumL_pos C.b hs
      have h5 := C.l
      have h6 := jA_bd hg (show i < js.length by omega)
      rcases h2 i (by omega) with h7 | h7 <;> omega
    · omega
  have := C.m
  exact ⟨h5, ⟨C.l, C.b, by omega⟩, by omega⟩
theorem Ch.take {js : List Job} {rs : List Int} {now : Int} {m b : Nat} (C : Ch js rs now m) (hs : 0 < sumL rs) (hb : b < js.length) (h0 : gE rs b ≠ 0) : Ch js (rs.set b (gE rs b - 1)) (now + 1) (m - 1) ∧ 0 < m ∧ sumL (rs.set b (gE rs b - 1)) = sumL rs - 1 := by
  have h1 := C.b _ (gE_mem (show b < rs.length by rw [C.l]; exact hb))
  have h2 := sumL_set (l := rs) (i := b) (y := gE rs b - 1) (by rw [C.l]; exact hb)
  have := C.m
  refine ⟨⟨by rw [List.length_set]; exact C.l, fun x hx => ?_, by omega⟩, by omega, by omega⟩
  rcases List.mem_or_eq_of_mem_set hx with g | g
  · exact C.b x g
  · omega
/-! ### bounds of prefixes -/
def nwGo (js : List Job) : List Int → Int → Int
  | [], now => now
  | x :: r, now => nwGo js r (max now (jA js x).r + (jA js x).t)
def FU : Nat := 1000
def bdE (o : Int) (js : List Job) (B : List Int) : List Int := apS (endsL js B) (picks o js FU (nwGo js B 0) (restL js B))
def bdV (o : Int) (js : List Job) (B : List Int) : Int := valE o js (bdE o js B)
theorem jA_b {js : List Job} (hg : goodL js = true) {x : Int} (hx : 0 ≤ x ∧ x < js.length) : (1 ≤ (jA js x).t ∧ (jA js x).t ≤ 50) ∧ 0 ≤ (jA js x).r ∧ (jA js x).r ≤ 500 := by
  have := jA_bd hg (show x.toNat < js.length by omega)
  rw [show ((x.toNat : Nat) : Int) = x by omega] at this
  exact ⟨this.1, this.2.1⟩
theorem nwGo_bd {js : List Job} (hg : goodL js = true) : ∀ {B : List Int} {now : Int} {k : Nat}, inN js.length B → 0 ≤ now → now ≤ 550 * k → 0 ≤ nwGo js B now ∧ nwGo js B now ≤ 550 * (k + B.length : Nat)
  | [], now, k, _, h1, h2 => by simp [nwGo]; omega
  | x :: r, now, k, hin, h1, h2 => by
    have hx := jA_b hg (hin x (List.mem_cons_self ..))
    have := @nwGo_bd js hg r (max now (jA js x).r + (jA js x).t) (k + 1) (fun y hy => hin y (List.mem_cons_of_mem _ hy)) (by omega) (by omega)
    rw [nwGo, List.length_cons]
    omega
theorem bdE_bd {o : Int} {js : List Job} {B : List Int} (hg : goodL js = true) (hB : B.length ≤ 8) (hin : inN js.length B) : ∀ e, e ∈ bdE o js B → 0 ≤ e ∧ e ≤ 2 ^ 20 := by
  have nb := @nwGo_bd js hg B 0 0 hin (by omega) (by omega)
  refine apS_mem (fun e he => ?_) (fun p hp => ?_)
  · have := endGo_bd hg (k := 0) hin (Int.le_refl 0) (by omega) (fun e he => by rw [List.eq_of_mem_replicate he]; omega) e he
    omega
  · have := picks_mem p hp
    unfold FU at this
    omega
theorem bd_ch {js : List Job} {B : List Int} (hg : goodL js = true) (hn : js.length ≤ 8) (hin : inN js.length B) : Ch js (restL js B) (nwGo js B 0) FU := by
  have nb := @nwGo_bd js hg B 0 0 hin (by omega) (by omega)
  have s := sumL_nn (restL_bd (B := B) hg)
  rw [restL_len] at s
  exact ⟨restL_len, restL_bd hg, by unfold FU; omega⟩
end Go.Pm.PP

/- The spans of the choice by time, and its greatest lateness, in plain terms: it is the greatest bound of a set. -/
set_option linter.unusedVariables false
set_option linter.unusedSimpArgs false
namespace Go.Pm.PP
open Go.Pm Go.Pm.PE
/-! ### spans -/
def mgS (S : List Sp) (p : Int × Int) : List Sp := match S.getLast? with
  | some l => if l.j = p.1 ∧ l.b = p.2 then S.set (S.length - 1) { l with b := p.2 + 1 } else S ++ [⟨p.1, p.2, p.2 + 1⟩]
  | none => S ++ [⟨p.1, p.2, p.2 + 1⟩]
theorem mgS_nil {p : Int × Int} : mgS [] p = [⟨p.1, p.2, p.2 + 1⟩] := rfl
theorem mgS_eq {S : List Sp} {l : Sp} {p : Int × Int} (h1 : l.j = p.1) (h2 : l.b = p.2) : mgS (S ++ [l]) p = S ++ [{ l with b := p.2 + 1 }] := by
  unfold mgS
  rw [List.getLast?_concat]
  simp only [h1, h2, and_self, if_true, List.length_append, List.length_singleton, Nat.add_sub_cancel]
  rw [List.set_append_right (h := Nat.le_refl _), Nat.sub_self]; rfl
theorem mgS_ne {S : List Sp} {l : Sp} {p : Int × Int} (h : ¬ (l.j = p.1 ∧ l.b = p.2)) : mgS (S ++ [l]) p = (S ++ [l]) ++ [⟨p.1, p.2, p.2 + 1⟩] := by
  unfold mgS
  rw [List.getLast?_concat]
  simp only
  rw [if_neg h]
def foldS (E : List Int) (S : List Sp) : List Int := S.foldl (fun E s => E.set s.j.toNat s.b) E
theorem foldS_snoc {E : List Int} {S : List Sp} {s : Sp} : foldS E (S ++ [s]) = (foldS E S).set s.j.toNat s.b := by unfold foldS; rw [List.foldl_append]; rfl
theorem apS_cons {E : List Int} {p : Int × Int} {ps : List (Int × Int)} : apS E (p :: ps) = apS (E.set p.1.toNat (p.2 + 1)) ps := rfl
theorem foldS_mg {E : List Int} {S : List Sp} {p : Int × Int} : foldS E (mgS S p) = (foldS E S).set p.1.toNat (p.2 + 1) := by
  rcases List.eq_nil_or_concat S with rfl | ⟨S1, l, rfl⟩
  · rfl
  · rw [List.concat_eq_append]
    by_cases c : l.j = p.1 ∧ l.b = p.2
    · rw [mgS_eq c.1 c.2, foldS_snoc, foldS_snoc, ← c.1, List.set_set]
    · rw [mgS_ne c, foldS_snoc]
theorem foldS_mgs {E : List Int} : ∀ {ps : List (Int × Int)} {S : List Sp}, foldS E (ps.foldl mgS S) = apS (foldS E S) ps
  | [], S => rfl
  | p :: ps, S => by rw [List.foldl_cons, foldS_mgs, foldS_mg, apS_cons]
def spanL (o : Int) (js : List Job) (now : Int) (rs : List Int) : List Sp := (picks o js FU now rs).foldl mgS []
theorem foldS_span {o : Int} {js : List Job} {now : Int} {rs E : List Int} : foldS E (spanL o js now rs) = apS E (picks o js FU now rs) := foldS_mgs
theorem mgS_len {S : List Sp} {p : Int × Int} : (mgS S p).length ≤ S.length + 1 := by
  rcases List.eq_nil_or_concat S with rfl | ⟨S1, l, rfl⟩
  · simp [mgS_nil]
  · rw [List.concat_eq_append]
    by_cases c : l.j = p.1 ∧ l.b = p.2
    · rw [mgS_eq c.1 c.2]; simp
    · rw [mgS_ne c]; simp
theorem mgs_len : ∀ {ps : List (Int × Int)} {S : List Sp}, (ps.foldl mgS S).length ≤ S.length + ps.length
  | [], S => by simp
  | p :: ps, S => by
    have h1 := @mgs_len ps (mgS S p)
    have h2 := @mgS_len S p
    rw [List.foldl_cons, List.length_cons]; omega
theorem picks_len {o : Int} {js : List Job} : ∀ {m : Nat} {now : Int} {rs : List Int}, (picks o js m now rs).length ≤ m
  | 0, now, rs => by simp [picks]
  | m + 1, now, rs => by
    rw [picks]
    split
    · simp
    · split
      · have := @picks_len o js m (now + 1) rs; omega
      · rw [List.length_cons]
        have := @picks_len o js m (now + 1) (rs.set (pickL o js rs now).toNat (gE rs (pickL o js rs now).toNat - 1)); omega
theorem spanL_len {o : Int} {js : List Job} {now : Int} {rs : List Int} : (spanL o js now rs).length ≤ 1000 := by
  have h1 := @mgs_len (picks o js FU now rs) []
  have h2 := @picks_len o js FU now rs
  unfold spanL
  rw [List.length_nil] at h1
  unfold FU at *
  omega
/-! ### split schedules -/
theorem pick_free {o : Int} {js : List Job} {rs : List Int} {now : Int} : ∀ {m i : Nat} {b : Int}, i + m = js.length → (b = -1 ∨ (jA js b).r ≤ now) → ((List.range' i m).foldl (pickF o js rs now) b = -1 ∨ (jA js ((List.range' i m).foldl (pickF o js rs now) b)).r ≤ now)
  | 0, i, b, h, hb => hb
  | m + 1, i, b, h, hb => by
    rw [List.range'_succ, List.foldl_cons]
    refine pick_free (m := m) (i := i + 1) (by omega) ?_
    unfold pickF
    split
    · exact hb
    · rename_i c
      split
      · right; omega
      · exact hb
theorem pick_r {o : Int} {js : List Job} {rs : List Int} {now : Int} {b : Nat} (h : pickL o js rs now = b) : (jA js b).r ≤ now := by
  have := pick_free (o := o) (js := js) (rs := rs) (now := now) (m := js.length) (i := 0) (b := -1) (by omega) (.inl rfl)
  have e : (List.range' 0 js.length).foldl (pickF o js rs now) (-1) = b := h
  rw [e] at this
  rcases this with g | g
  · omega
  · exact g
end Go.Pm.PP

/- Typed rules for slices: printed by a program of this work (wrap.py). -/
set_option linter.unusedVariables false
set_option linter.unusedSimpArgs false
set_option maxRecDepth 4000
namespace Go.Pm.PP
open Go.Pm Go.Proofs
theorem load_S {h : Hp} {v : Value} {xs : List (Sp)} {i : Nat} {x : Sp} (hv : Sees h v 3 (xs.map encS)) (hx : xs[i]? = some x) :
    indexAddrP P h t_S_impl_Span v (.int .i64 i) = some (.pointer (some (addP (base v) (i * 3)))) ∧ loadP P h t_impl_Span (.pointer (some (addP (base v) (i * 3)))) = some (.agg #[.int .i64 x.j, .int .i64 x.a, .int .i64 x.b]) ∧
    loadP P h t_int (.pointer (some (addP (addP (base v) (i * 3)) 0))) = some (.int .i64 x.j) ∧
    loadP P h t_int (.pointer (some (addP (addP (base v) (i * 3)) 1))) = some (.int .i64 x.a) ∧
    loadP P h t_int (.pointer (some (addP (addP (base v) (i * 3)) 2))) = some (.int .i64 x.b) := by
  have hi := (List.getElem?_eq_some_iff.1 hx).1
  have h1 := hv.indexT (P := P) u_S_impl_Span i_impl_Span (k := .i64) (j := i) (by omega) (by omega)
  rw [Int.toNat_natCast] at h1
  have fld : ∀ k, k < 3 → loadP P h t_int (.pointer (some (addP (addP (base v) (i * 3)) k))) = (encS x)[k]? := by
    intro k hk
    have := hv.cellT (P := P) a_int i_int hx hk
    rw [← this]
    simp only [addP, Nat.add_assoc]
  exact ⟨h1, hv.aggT a_impl_Span i_impl_Span hx, fld 0 (by omega), fld 1 (by omega), fld 2 (by omega)⟩
theorem push_S0 {h0 h : Hp} {L : List Asn} (H : Holds h0 h L) (i : Nat) {v : Value} {xs : List (Sp)} (hi : L[i]? = some (.own v 3 (xs.map encS))) (x : Sp) (hn : xs.length ≤ 2 ^ 40) :
    ∃ v' h', appendP P (h ++ [some ⟨[.int .i64 x.j, .int .i64 x.a, .int .i64 x.b], 3, false⟩]) t_S_impl_Span v (.slice (some ⟨h.length, 0, some 3⟩) 1 1) = some (v', h') ∧ Holds h0 h' (L.set i (.own v' 3 ((xs ++ [x]).map encS))) ∧ Keeps (rowV v) h h' ∧ (rowV v = none → newOk (h ++ [some ⟨[.int .i64 x.j, .int .i64 x.a, .int .i64 x.b], 3, false⟩]) h') := by
  obtain ⟨v', h', g1, g2, g3, g4⟩ := (H.ext (List.prefix_append h [])).push (P := P) i (y := encS x) (n := 3) hi u_S_impl_Span e_t_impl_Span z_t_impl_Span s_t_impl_Span (by omega) (by rw [b_t_impl_Span]; omega) rfl rfl (by simp [encS]) (by rw [b_t_impl_Span]; simp; omega)
  rw [show xs.map encS ++ [encS x] = (xs ++ [x]).map encS by simp] at g2
  exact ⟨v', h', by simpa [encS] using g1, g2, Keeps.app.trans g3, by simpa [encS] using g4⟩
theorem fput_S2 {h0 h : Hp} {L : List Asn} (H : Holds h0 h L) (i : Nat) {v : Value} {xs : List (Sp)} (hi : L[i]? = some (.own v 3 (xs.map encS))) {j : Nat} {y : Sp} (hy : xs[j]? = some y) (z : Int) :
    ∃ h', storeP P h t_int (.int .i64 z) (.pointer (some (addP (addP (base v) (j * 3)) 2))) = some h' ∧ Holds h0 h' (L.set i (.own v 3 ((xs.set j ({ y with b := z })).map encS))) ∧ Keeps (rowV v) h h' := by
  have := H.store (P := P) i hi (t := t_int) (w := .int .i64 z) (j := j) (e := encS y) (l := [.int .i64 y.j, .int .i64 y.a]) (m := [.int .i64 y.b]) (c := []) e_t_int (by simp [hy]) rfl (by simp) (by simp) (by simp)
  simpa [List.map_set, encS, addP, Nat.add_assoc] using this
end Go.Pm.PP
