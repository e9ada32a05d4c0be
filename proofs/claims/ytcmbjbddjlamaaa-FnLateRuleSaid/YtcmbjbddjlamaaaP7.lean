/- The texts PvY, Pv1, Pv2, Pv3, Pv4, Pv5, Pv6, Pv7, Pv8, Pv9, PvSb, PvSc, PvSd, PvSe, PvQa, PvTa, PvTb, PvTc, Ps8, PvTd, PvTe, PvRa of this work: The best order of jobs: both. -/
import Derived.Test.YtcmbjbddjlamaaaP6
/- The best order of jobs: both. -/
set_option linter.unusedVariables false
set_option linter.unusedSimpArgs false
set_option maxRecDepth 4000
set_option maxHeartbeats 8000000
namespace Go.Pm.PE
theorem perms_perm : ∀ {n : Nat} {l p : List Int}, l.length = n → p ∈ perms l n → p.Perm l
  | 0, l, p, h, hp => by
    rw [List.eq_nil_of_length_eq_zero h]
    simp [perms] at hp
    rw [hp]
  | n + 1, l, p, h, hp => by
    rw [perms, List.mem_flatMap] at hp
    obtain ⟨i, hi, hp⟩ := hp
    have hi : i < l.length := by simpa [List.mem_range'_1] using hi
    obtain ⟨q, hq, rfl⟩ := List.mem_map.1 hp
    have h1 := perms_perm (by rw [List.length_eraseIdx_of_lt hi]; omega) hq
    obtain ⟨x, hx, hd⟩ := drop_at hi
    rw [hx, Option.getD_some]
    refine (List.Perm.cons x h1).trans ?_
    have e : l = l.take i ++ x :: l.drop (i + 1) := by conv => lhs; rw [← List.take_append_drop i l, hd]
    rw [List.eraseIdx_eq_take_drop_succ]
    conv => rhs; rw [e]
    exact List.perm_middle.symm
end Go.Pm.PE
namespace Go.Pm
/-- What stands in between is let go. -/
theorem Holds.cut {h0 h : Hp} {A B C : List Asn} (H : Holds h0 h ((A ++ B) ++ C)) : Holds h0 h (A ++ C) := by
  refine Holds.weak (T := B) (H.perm ?_)
  rw [List.append_assoc, List.append_assoc]
  exact List.Perm.append_left A List.perm_append_comm
end Go.Pm
namespace Go.Pm.PP
open Go.Pm Go.Proofs Go.Pm.PE
def ordsL (n : Nat) : List (List Int) := perms (upTo n) n
theorem up_asc {n : Nat} : (upTo n).Pairwise (· < ·) := by
  refine List.Pairwise.map _ (fun a b h => ?_) List.pairwise_lt_range
  omega
theorem ords_ord {n : Nat} {xs : List Int} (h : xs ∈ ordsL n) : Ord n xs := by
  have p := perms_perm (upTo_len n) h
  exact ⟨by rw [p.length_eq, upTo_len], fun x hx => mem_upTo.1 (p.mem_iff.1 hx), p.nodup_iff.2 (upTo_nodup n)⟩
def sr0 : Sr := ⟨[], 0, 0⟩
def bestR (f : List Int → Int) (n : Nat) : Sr := (ordsL n).foldl (updS f) sr0
def bestV (o : Int) (js : List Job) : Int := (bestR (valX o js) js.length).v
theorem plainT {vo : Value} {r : List Value} (h : plain (.tuple (vo :: r).toArray) = true) : plainC vo = true := by
  have : ((vo :: r).toArray : Array Value).toList.all plainC = true := h
  simp only [List.all_cons, Bool.and_eq_true] at this
  exact this.1
/-! ### all orders by the program -/
theorem numbersTo_run {h : Hp} {n : Nat} (hn : n ≤ 2 ^ 30) : RunsC P G n_impl_numbersTo [.int .i64 n] h fun v h' => h <+: h' ∧ Own h.length h' v 1 ((upTo n).map encI) := by
  refine hideC fun K hK => enter_run e_impl_numbersTo (by simp) ?_
  have H0 := own_nil (Holds.start (h := h)) Int encI 1
  simp -implicitDefEqProofs
  refine R_loopO (fun m s h' => ∃ (i : Nat) (u : Value), i + m = n ∧ s = [(0, .int .i64 n), (3, u), (4, .int .i64 i)] ∧ Holds h h' [.own u 1 ((upTo i).map encI)]) (fun I hI m s h' => ?_) (n := n) ⟨0, _, Nat.zero_add _, by simp; rfl, by simpa [upTo] using H0⟩
  rintro ⟨i, u, hi, rfl, H⟩
  by_cases hlt : i < n
  · have hlt' : (i : Int) < n := by omega
    obtain ⟨v', h2, ha, H2, _⟩ := push_I0 H 0 rfl (i : Int) (by rw [upTo_len]; omega)
    simp -implicitDefEqProofs [hlt, hlt', ha, winc hlt (by omega)]
    refine ⟨m - 1, by omega, on hI ⟨i + 1, v', by omega, rfl, ?_⟩⟩
    have e : upTo (i + 1) = upTo i ++ [(i : Int)] := by simp [upTo, List.range_succ]
    rw [e]
    exact H2
  · have hlt' : ¬ (i : Int) < n := by omega
    have e : i = n := by omega
    subst e
    simp -implicitDefEqProofs [hlt']
    exact onK hK (H.ret 0 rfl)
theorem eachOrder_run {hb : Hp} {g : FuncId} {c : Array Value} {n : Nat} (hn : n ≤ 8) {Q : Nat → List Asn → Prop} (gq : ∀ i BX i' BX' h h' L u, Q i BX → Q i' BX' → Holds hb h (BX ++ L) → Holds hb h' (BX' ++ L) → Holds hb (gc h h' u) (BX' ++ L))
    (tell : ∀ i xs h BX vg, Q i BX → (ordsL n)[i]? = some xs → Holds hb h (BX ++ [.own vg 1 (xs.map encI)]) → RunsC P G g (vg :: c.toList) h fun v h' => ∃ BX', Q (i + 1) BX' ∧ ∀ L, Holds hb h (BX ++ L) → Holds hb h' (BX' ++ L))
    {h : Hp} {BX : List Asn} (hQ : Q 0 BX) (HB : Holds hb h (BX ++ [])) :
    RunsC P G n_impl_eachOrder [.int .i64 n, .func (.func g) #[] c] h fun v h' => ∃ BX', Q (ordsL n).length BX' ∧ ∀ L, Holds hb h (BX ++ L) → Holds hb h' (BX' ++ L) := by
  refine hideC fun K hK => enter_run e_impl_eachOrder (by simp) ?_
  obtain ⟨pm1, pm2, pm3⟩ := perms_main (upTo_len n) up_asc
  simp -implicitDefEqProofs
  refine CL_post (numbersTo_run (by omega)) fun v0 h0 ⟨hp0, ho0⟩ => ?_
  obtain ⟨o0, n0, c0, rfl⟩ : ∃ a n c, v0 = .slice a n c := by obtain ⟨a, c, e⟩ := ho0.sees.shape; exact ⟨_, _, _, e⟩
  have first : ∀ L, Holds hb h (BX ++ L) → Holds hb h0 (BX ++ ([.own (.slice o0 n0 c0) 1 ((upTo n).map encI)] ++ L)) := fun L HL => by
    have := Holds.joinT (L := BX) (T := L) (A := [.own (.slice o0 n0 c0) 1 ((upTo n).map encI)]) (M := []) HL ((Holds.start (h := h)).call hp0 ho0)
    simpa [List.append_assoc] using this
  simp -implicitDefEqProofs
  refine R_loopO (fun m st hk => ∃ (i : Nat) (xs : List Int) (BXk : List Asn), (ordsL n)[i]? = some xs ∧ i + m = (ordsL n).length ∧ st = [(1, .func (.func g) #[] c), (4, .slice o0 n0 c0)] ∧ Q i BXk ∧
    (∀ L, Holds hb h (BX ++ L) → Holds hb hk (BXk ++ ([.own (.slice o0 n0 c0) 1 (xs.map encI)] ++ L)))) (fun I hI m st hk => ?_) (n := (ordsL n).length)
    ⟨0, upTo n, BX, pm1, Nat.zero_add _, by simp, hQ, first⟩
  rintro ⟨i, xs, BXk, hxs, him, rfl, hQk, I1⟩
  have ox := ords_ord (List.mem_of_getElem? hxs)
  have hil := (List.getElem?_eq_some_iff.1 hxs).1
  have HA : Holds hb hk (BXk ++ [.own (.slice o0 n0 c0) 1 (xs.map encI)]) := by simpa using I1 [] HB
  simp -implicitDefEqProofs
  refine CL_post (tell i xs hk BXk _ hQk hxs HA) fun v h2 ⟨BX', hQ', F2⟩ => ?_
  have H2 := F2 _ HA
  have H2o := H2.one BX'.length (A := .own (.slice o0 n0 c0) 1 (xs.map encI)) (by rw [List.getElem?_append_right (Nat.le_refl _), Nat.sub_self]; rfl)
  simp -implicitDefEqProofs
  refine CL_post (nextOrder_run H2o (by rw [ox.len]; omega) ox.nd) fun r h3 ⟨er, ow3, k3⟩ => ?_
  subst er
  have J1 : ∀ L, Holds hb h (BX ++ L) → Holds hb h3 (BX' ++ ([.own (.slice o0 n0 c0) 1 (((nextP xs).getD xs).map encI)] ++ L)) := fun L HL => by
    have h1 := F2 _ (I1 L HL)
    have h2 := h1.upd (i := BX'.length) (A := .own (.slice o0 n0 c0) 1 (xs.map encI)) (B := .own (.slice o0 n0 c0) 1 (((nextP xs).getD xs).map encI)) (by rw [List.getElem?_append_right (Nat.le_refl _), Nat.sub_self]; rfl) k3 ow3 fun r hr => .inl hr
    rw [List.set_append_right (h := Nat.le_refl _), Nat.sub_self] at h2
    exact h2
  cases hnx : nextP xs with
  | some xs' =>
    rw [hnx] at J1
    have hi1 : (ordsL n)[i + 1]? = some xs' := by rw [← hnx]; exact (pm2 i xs hxs).symm
    simp -implicitDefEqProofs
    exact ⟨m - 1, by omega, on hI ⟨i + 1, xs', BX', hi1, by omega, rfl, hQ', J1⟩⟩
  | none =>
    rw [hnx] at J1
    have hi1 : (ordsL n)[i + 1]? = none := by rw [← hnx]; exact (pm2 i xs hxs).symm
    have hlen : (ordsL n).length = i + 1 := by have := List.getElem?_eq_none_iff.1 hi1; omega
    simp -implicitDefEqProofs
    rw [hlen] at hK
    refine onK hK ⟨BX', hQ', fun L HL => ?_⟩
    have h1 := J1 L HL
    have h2 : Holds hb h3 (BX' ++ L) := by
      refine Holds.weak (T := [.own (.slice o0 n0 c0) 1 (xs.map encI)]) (h1.perm ?_)
      rw [List.append_assoc]
      exact List.Perm.append_left BX' List.perm_append_comm
    exact gq _ _ _ _ _ _ _ _ hQ hQ' HL h2
theorem load_pre {hb h' : Hp} {r n : Nat} {cs : List Value} (hp : hb <+: h') (hr : hb[r]? = some (some ⟨cs, 0, false⟩)) (hn : cs.length = n) (t : TypeId) : loadP P h' t (.pointer (some ⟨r, 0, some n⟩)) = rowLoad P t ⟨cs, 0, false⟩ 0 := by
  have h5 : h'[r]? = some (some ⟨cs, 0, false⟩) := by
    obtain ⟨l, rfl⟩ := hp
    rw [List.getElem?_append_left (List.getElem?_eq_some_iff.1 hr).1]; exact hr
  rw [loadP_eq]
  simp only [rowAt, h5, hn, if_true, Option.bind_some]
def bx4 (p q r : Nat) (vf : Value) (b : Sr) : List Asn := [.box p [vf], .box q [.int .i64 b.v], .box r [.int .i64 b.c], .own vf 1 (b.o.map encI)]
theorem gc4 {hb h h' : Hp} {p q r : Nat} {vf vf' u : Value} {b b' : Sr} {L : List Asn} (HL : Holds hb h (bx4 p q r vf b ++ L)) (H' : Holds hb h' (bx4 p q r vf' b' ++ L)) : Holds hb (gc h h' u) (bx4 p q r vf' b' ++ L) := by
  rcases gc_cases' h h' u with g | ⟨hp, g⟩
  · rw [g]; exact H'
  · have e1 := HL.box (cs := [vf]) (r := p) 0 rfl
    have e2 := H'.box (cs := [vf']) (r := p) 0 rfl
    obtain ⟨t, rfl⟩ := hp
    rw [List.getElem?_append_left (List.getElem?_eq_some_iff.1 e1).1, e1] at e2
    cases e2
    exact HL.gcR H' rfl
/-- The program's look at an order. -/
theorem tell1_run {hb h : Hp} {p q r rj ro : Nat} {vj vf vg : Value} {js : List Job} {o : Int} {xs : List Int} {b : Sr} (J : Jobs hb vj js) (bj : hb[rj]? = some (some ⟨[vj], 0, false⟩)) (bo : hb[ro]? = some (some ⟨[.int .i64 o], 0, false⟩))
    (hg : goodL js = true) (hn : js.length ≤ 8) (ho : 1 ≤ o ∧ o ≤ 8) (hx : Ord js.length xs) (H : Holds hb h (bx4 p q r vf b ++ [.own vg 1 (xs.map encI)])) :
    RunsC P G n_impl_best_1 [vg, .pointer (some ⟨rj, 0, some 1⟩), .pointer (some ⟨ro, 0, some 1⟩), .pointer (some ⟨r, 0, some 1⟩), .pointer (some ⟨q, 0, some 1⟩), .pointer (some ⟨p, 0, some 1⟩)] h fun v h' =>
      ∃ vf', ∀ L, Holds hb h (bx4 p q r vf b ++ L) → Holds hb h' (bx4 p q r vf' (updS (valX o js) b xs) ++ L) := by
  refine hideC fun K hK => enter_run e_impl_best_1 (by simp) ?_
  obtain ⟨f1, f2, f3, rfl⟩ : ∃ a n c, vf = .slice a n c := by obtain ⟨a, c, e⟩ := (H.sees 3 (v := vf) (sz := 1) (els := b.o.map encI) rfl).shape; exact ⟨_, _, _, e⟩
  have Js := J
  obtain ⟨oj, cj, rfl⟩ := J.shapeT
  have Sg : Ints h vg xs := H.sees 4 rfl
  have lj := load_pre H.pre bj (n := 1) rfl
  have lo := load_pre H.pre bo (n := 1) rfl
  have rv := valueOf_run (o := o) (Js.pre H.pre) Sg hg hn ho hx
  obtain ⟨V, hV⟩ : ∃ V, V = valX o js xs := ⟨_, rfl⟩
  rw [← hV] at rv
  have lq := H.bl (P := P) 1 1 rfl rfl
  have lr := H.bl (P := P) 2 1 rfl rfl
  by_cases c1 : b.c = 0 ∨ V < b.v
  · have e : updS (valX o js) b xs = ⟨xs, V, 1⟩ := by unfold updS; rw [← hV, if_pos c1]
    rw [e] at hK
    have fin : RunsC P G n_impl_copyInts [vg] h fun v1 h1 => ∃ a n c h2 h3 h4, v1 = .slice a n c ∧ storeP P h1 t_S_int (.slice a n c) (.pointer (some ⟨p, 0, some 1⟩)) = some h2 ∧ storeP P h2 t_int (.int .i64 V) (.pointer (some ⟨q, 0, some 1⟩)) = some h3 ∧
        storeP P h3 t_int (.int .i64 1) (.pointer (some ⟨r, 0, some 1⟩)) = some h4 ∧ ∀ u, K u (gc h h4 u) := by
      refine RunsC.mono (copyInts_run Sg (by rw [hx.len]; omega)) fun v1 h1 ⟨hp1, ho1⟩ => ?_
      obtain ⟨a, c, rfl⟩ := ho1.sees.shapeT
      obtain ⟨h2, s2, H2, _⟩ := (H.ext hp1).set (P := P) 0 (n := 1) (o := 0) (ty := t_S_int) (w := .slice a xs.length c) rfl rfl e_t_S_int (by simp) (by simp) (by simp)
      obtain ⟨h3, s3, H3, _⟩ := H2.set (P := P) 1 (n := 1) (o := 0) (ty := t_int) (w := .int .i64 V) rfl rfl e_t_int (by simp) (by simp) (by simp)
      obtain ⟨h4, s4, H4, _⟩ := H3.set (P := P) 2 (n := 1) (o := 0) (ty := t_int) (w := .int .i64 1) rfl rfl e_t_int (by simp) (by simp) (by simp)
      refine ⟨a, xs.length, c, h2, h3, h4, rfl, s2, s3, s4, fun u => onK hK ⟨.slice a xs.length c, fun L HL => ?_⟩⟩
      have HJ := Holds.joinT (A := [.own (.slice a xs.length c) 1 (xs.map encI)]) (M := []) HL ((Holds.start (h := h)).call hp1 ho1)
      obtain ⟨h2', s2', H2', _⟩ := HJ.set (P := P) 0 (n := 1) (o := 0) (ty := t_S_int) (w := .slice a xs.length c) rfl rfl e_t_S_int (by simp) (by simp) (by simp)
      rw [s2] at s2'; cases s2'
      obtain ⟨h3', s3', H3', _⟩ := H2'.set (P := P) 1 (n := 1) (o := 0) (ty := t_int) (w := .int .i64 V) rfl rfl e_t_int (by simp) (by simp) (by simp)
      rw [s3] at s3'; cases s3'
      obtain ⟨h4', s4', H4', _⟩ := H3'.set (P := P) 2 (n := 1) (o := 0) (ty := t_int) (w := .int .i64 1) rfl rfl e_t_int (by simp) (by simp) (by simp)
      rw [s4] at s4'; cases s4'
      have H5 : Holds hb h4 (([.box p [.slice a xs.length c], .box q [.int .i64 V], .box r [.int .i64 1]] ++ [.own (.slice f1 f2 f3) 1 (b.o.map encI)]) ++ ([.own (.slice a xs.length c) 1 (xs.map encI)] ++ L)) := H4'
      have H6 : Holds hb h4 (bx4 p q r (.slice a xs.length c) ⟨xs, V, 1⟩ ++ L) := H5.cut
      exact gc4 HL H6
    rcases Classical.em (b.c = 0) with c2 | c2
    · simp -implicitDefEqProofs [lj, lo, CL_ret rv, lr, lq, show (b.c == 0) = true by simpa using c2]
      refine CL_post fin fun v1 h1 ⟨a, n1, c, h2, h3, h4, ev, s2, s3, s4, f2⟩ => ?_
      subst ev
      simp -implicitDefEqProofs [s2, s3, s4]
      exact f2 _
    · have c3 : V < b.v := by rcases c1 with g | g; exact absurd g c2; exact g
      simp -implicitDefEqProofs [lj, lo, CL_ret rv, lr, lq, nb c2, c3]
      refine CL_post fin fun v1 h1 ⟨a, n1, c, h2, h3, h4, ev, s2, s3, s4, f2⟩ => ?_
      subst ev
      simp -implicitDefEqProofs [s2, s3, s4]
      exact f2 _
  · have c2 : ¬ b.c = 0 := fun g => c1 (.inl g)
    have c3 : ¬ V < b.v := fun g => c1 (.inr g)
    by_cases c4 : V = b.v
    · have e : updS (valX o js) b xs = ⟨b.o, b.v, w64 (b.c + 1)⟩ := by unfold updS; rw [← hV, if_neg c1, if_pos c4]
      rw [e] at hK
      obtain ⟨h4, s4, H4, _⟩ := H.set (P := P) 2 (n := 1) (o := 0) (ty := t_int) (w := .int .i64 (IntKind.i64.wrap (b.c + 1))) rfl rfl e_t_int (by simp) (by simp) (by simp)
      have c4' : (V == b.v) = true := by simpa using c4
      simp -implicitDefEqProofs [lj, lo, CL_ret rv, lr, lq, nb c2, c3, c4', s4]
      refine onK hK ⟨.slice f1 f2 f3, fun L HL => ?_⟩
      obtain ⟨h4', s4', H4', _⟩ := HL.set (P := P) 2 (n := 1) (o := 0) (ty := t_int) (w := .int .i64 (IntKind.i64.wrap (b.c + 1))) rfl rfl e_t_int (by simp) (by simp) (by simp)
      rw [s4] at s4'; cases s4'
      exact gc4 (b' := ⟨b.o, b.v, w64 (b.c + 1)⟩) HL H4'
    · have e : updS (valX o js) b xs = b := by unfold updS; rw [← hV, if_neg c1, if_neg c4]
      rw [e] at hK
      simp -implicitDefEqProofs [lj, lo, CL_ret rv, lr, lq, nb c2, c3, nb c4]
      exact onK hK ⟨.slice f1 f2 f3, fun L HL => HL⟩
theorem best_run {h : Hp} {vj : Value} {js : List Job} {o : Int} (J : Jobs h vj js) (hg : goodL js = true) (hn : js.length ≤ 8) (ho : 1 ≤ o ∧ o ≤ 8) : RunsC P G n_impl_best [vj, .int .i64 o] h fun v h' => h <+: h' ∧ ∃ vf, v = .tuple #[vf, .int .i64 (bestV o js), .int .i64 (bestR (valX o js) js.length).c] ∧ Ints h' vf (bestR (valX o js) js.length).o := by
  refine hideC fun K hK => enter_run e_impl_best (by simp) ?_
  have Js := J
  obtain ⟨oj, cj, rfl⟩ := J.shapeT
  have H0 := (Holds.start.alloc [.slice oj js.length cj] (h := h)).alloc [.int .i64 o]
  simp only [List.append_assoc, List.cons_append, List.nil_append, List.length_append, List.length_cons, List.length_nil, Nat.zero_add] at H0
  generalize hHb : h ++ [some ⟨[.slice oj js.length cj], 0, false⟩, some ⟨[.int .i64 o], 0, false⟩] = hb at H0
  have hbl : hb.length = h.length + 1 + 1 := by rw [← hHb]; simp
  have E0 := own_nil (((Holds.start.alloc [.slice none 0 0] (h := hb)).alloc [.int .i64 0]).alloc [.int .i64 0]) Int encI 1
  simp only [List.append_assoc, List.cons_append, List.nil_append, List.length_append, List.length_cons, List.length_nil, Nat.zero_add] at E0
  have E : Holds hb (hb ++ [some ⟨[.slice none 0 0], 0, false⟩, some ⟨[.int .i64 0], 0, false⟩, some ⟨[.int .i64 0], 0, false⟩]) (bx4 hb.length (hb.length + 1) (hb.length + 1 + 1) (.slice none 0 0) sr0 ++ []) := E0
  have er := eachOrder_run (hb := hb) (g := n_impl_best_1) (c := #[.pointer (some ⟨h.length, 0, some 1⟩), .pointer (some ⟨h.length + 1, 0, some 1⟩), .pointer (some ⟨hb.length + 1 + 1, 0, some 1⟩), .pointer (some ⟨hb.length + 1, 0, some 1⟩), .pointer (some ⟨hb.length, 0, some 1⟩)]) hn
    (Q := fun i BX => ∃ vf, BX = bx4 hb.length (hb.length + 1) (hb.length + 1 + 1) vf (((ordsL js.length).take i).foldl (updS (valX o js)) sr0))
    (fun i BX i' BX' h h' L u ⟨vf, e⟩ ⟨vf', e'⟩ HL H' => by subst e; subst e'; exact gc4 HL H')
    (fun i xs h BX vg ⟨vf, eBX⟩ hxs HB => by
      subst eBX
      refine RunsC.mono (tell1_run (Js.pre H0.pre) (H0.box 0 rfl) (H0.box 1 rfl) hg hn ho (ords_ord (List.mem_of_getElem? hxs)) HB) fun v h' ⟨vf', F⟩ => ?_
      refine ⟨_, ⟨vf', rfl⟩, fun L HL => ?_⟩
      have := F L HL
      rw [take_succ' hxs, List.foldl_append, List.foldl_cons, List.foldl_nil]
      exact this) ⟨_, rfl⟩ E
  have hcount : hb ++ [some ⟨[.slice none 0 0], 0, false⟩, some ⟨[.int .i64 0], 0, false⟩, some ⟨[.int .i64 0], 0, false⟩] = h ++ [some ⟨[.slice oj js.length cj], 0, false⟩, some ⟨[.int .i64 o], 0, false⟩, some ⟨[.slice none 0 0], 0, false⟩, some ⟨[.int .i64 0], 0, false⟩, some ⟨[.int .i64 0], 0, false⟩] := by rw [← hHb]; simp
  rw [hcount, hbl] at er
  rw [hcount] at E
  simp -implicitDefEqProofs
  refine CL_post er fun v h4 ⟨BX', ⟨vf, eBX⟩, F⟩ => ?_
  subst eBX
  have H4 := F [] (by rw [← hbl]; exact E)
  rw [List.take_length] at H4
  have s4 : Ints h4 vf (bestR (valX o js) js.length).o := H4.sees 3 rfl
  obtain ⟨a, c, rfl⟩ := s4.shapeT
  have l0 := H4.bl (P := P) 0 1 rfl rfl
  have l1 := H4.bl (P := P) 1 1 rfl rfl
  have l2 := H4.bl (P := P) 2 1 rfl rfl
  simp only [Nat.add_assoc, Nat.reduceAdd] at l0 l1 l2
  simp -implicitDefEqProofs [l0, l1, l2]
  exact onK hK ⟨pre_gcU (H0.pre.trans H4.pre), _, rfl, Sees.gcU s4 fun g => plainT (r := [_, _]) g⟩
end Go.Pm.PP

/- Best orders and exchanges of neighbours, in plain terms. -/
set_option linter.unusedVariables false
set_option linter.unusedSimpArgs false
namespace Go.Pm.PE
theorem perms_all : ∀ {n : Nat} {l xs : List Int}, l.length = n → xs.Perm l → xs ∈ perms l n
  | 0, l, xs, h, hp => by
    have hl : l = [] := List.eq_nil_of_length_eq_zero h
    subst hl
    rw [List.perm_nil.1 hp]; simp [perms]
  | n + 1, l, [], h, hp => by
    have := hp.length_eq
    rw [h] at this; simp at this
  | n + 1, l, x :: r, h, hp => by
    have hx : x ∈ l := hp.mem_iff.1 (List.mem_cons_self ..)
    obtain ⟨i, hi⟩ := List.getElem?_of_mem hx
    have hil := (List.getElem?_eq_some_iff.1 hi).1
    have e : l.Perm (x :: l.eraseIdx i) := by
      have e2 : l = l.take i ++ x :: l.drop (i + 1) := by
        obtain ⟨y, hy, hd⟩ := drop_at hil
        rw [hi] at hy; cases hy
        conv => lhs; rw [← List.take_append_drop i l, hd]
      rw [List.eraseIdx_eq_take_drop_succ]
      conv => lhs; rw [e2]
      exact List.perm_middle
    have hr : r.Perm (l.eraseIdx i) := (List.perm_cons x).1 (hp.trans e)
    rw [perms, List.mem_flatMap]
    refine ⟨i, by simp [List.mem_range'_1, hil], List.mem_map.2 ⟨r, perms_all (by rw [List.length_eraseIdx_of_lt hil]; omega) hr, ?_⟩⟩
    rw [hi, Option.getD_some]
theorem perms_le {n : Nat} : ∀ {m : Nat} {l : List Int}, l.length = m → m ≤ n → (perms l m).length ≤ n ^ m
  | 0, l, _, _ => by simp [perms]
  | m + 1, l, h, hm => by
    rw [perms]
    have go : ∀ (is : List Nat), (∀ i, i ∈ is → i < l.length) → (is.flatMap fun i => (perms (l.eraseIdx i) m).map ((l[i]?.getD 0) :: ·)).length ≤ is.length * n ^ m := fun is => by
      induction is with
      | nil => intro _; simp
      | cons i is ih =>
        intro hi
        have h1 := ih fun j hj => hi j (List.mem_cons_of_mem _ hj)
        have h2 := perms_le (n := n) (m := m) (l := l.eraseIdx i) (by rw [List.length_eraseIdx_of_lt (hi i (List.mem_cons_self ..))]; omega) (by omega)
        rw [List.flatMap_cons, List.length_append, List.length_map, List.length_cons, Nat.add_mul]
        omega
    refine Nat.le_trans (go _ fun i hi => by simpa [List.mem_range'_1] using hi) ?_
    rw [List.length_range', h, Nat.pow_succ, Nat.mul_comm]
    exact Nat.mul_le_mul_left _ hm
end Go.Pm.PE
namespace Go.Pm.PP
open Go.Pm Go.Pm.PE
theorem ord_mem {n : Nat} {xs : List Int} (h : Ord n xs) : xs ∈ ordsL n := by
  refine perms_all (upTo_len n) ((List.perm_ext_iff_of_nodup h.nd (upTo_nodup n)).2 fun x => ?_)
  rw [mem_upTo]
  refine ⟨fun hx => h.inn x hx, fun hx => ?_⟩
  have := h.all (i := x.toNat) (by omega)
  rwa [show ((x.toNat : Nat) : Int) = x by omega] at this
theorem ords_le {n : Nat} (hn : n ≤ 8) : (ordsL n).length ≤ 8 ^ 8 := by
  refine Nat.le_trans (perms_le (n := 8) (upTo_len n) hn) (Nat.pow_le_pow_right (by omega) hn)
theorem best_fold {f : List Int → Int} {B : Nat} (hB : B ≤ 2 ^ 40) : ∀ {l : List (List Int)} {b : Sr} {k : Nat} {S : List Int → Prop}, (∀ xs, xs ∈ l → S xs) → k + l.length ≤ B → ((k = 0 ∧ b.c = 0) ∨ (1 ≤ b.c ∧ b.c ≤ k ∧ f b.o = b.v ∧ S b.o)) →
    (l = [] ∧ l.foldl (updS f) b = b) ∨ (1 ≤ (l.foldl (updS f) b).c ∧ f (l.foldl (updS f) b).o = (l.foldl (updS f) b).v ∧ S (l.foldl (updS f) b).o ∧ (k = 0 ∨ (l.foldl (updS f) b).v ≤ b.v) ∧ ∀ xs, xs ∈ l → (l.foldl (updS f) b).v ≤ f xs)
  | [], b, k, S, _, _, _ => .inl ⟨rfl, rfl⟩
  | x :: l, b, k, S, hS, hk, hb => by
    right
    rw [List.foldl_cons]
    simp only [List.length_cons] at hk
    have hx := hS x (List.mem_cons_self ..)
    have key : (1 ≤ (updS f b x).c ∧ (updS f b x).c ≤ (k + 1 : Nat) ∧ f (updS f b x).o = (updS f b x).v ∧ S (updS f b x).o) ∧ (updS f b x).v ≤ f x ∧ (k = 0 ∨ (updS f b x).v ≤ b.v) := by
      unfold updS
      split
      · rename_i g
        refine ⟨⟨by simp, by simp; omega, rfl, hx⟩, by simp, ?_⟩
        rcases hb with ⟨h0, _⟩ | ⟨h1, h2, h3, h4⟩
        · exact .inl h0
        · refine .inr ?_
          rcases g with g | g
          · omega
          · simp only; omega
      · rename_i g
        rcases hb with ⟨h0, h1⟩ | ⟨h1, h2, h3, h4⟩
        · exact absurd (.inl h1) g
        · split
          · rename_i g2
            have w : w64 (b.c + 1) = b.c + 1 := by unfold w64; rw [wrap_ok] <;> omega
            refine ⟨⟨?_, ?_, h3, h4⟩, ?_, .inr (Int.le_refl _)⟩
            · simp only [w]; omega
            · simp only [w]; omega
            · simp only; omega
          · refine ⟨⟨h1, by omega, h3, h4⟩, ?_, .inr (Int.le_refl _)⟩
            have : ¬ f x < b.v := fun h => g (.inr h)
            omega
    obtain ⟨k1, k2, k3⟩ := key
    rcases best_fold hB (l := l) (b := updS f b x) (k := k + 1) (S := S) (fun y hy => hS y (List.mem_cons_of_mem _ hy)) (by omega) (.inr k1) with ⟨e, h⟩ | ⟨h1, h2, h3, h4, h5⟩
    · subst e
      rw [List.foldl_nil]
      refine ⟨k1.1, k1.2.2.1, k1.2.2.2, k3, fun xs hxs => ?_⟩
      rcases List.mem_cons.1 hxs with rfl | g
      · exact k2
      · cases g
    · refine ⟨h1, h2, h3, ?_, fun xs hxs => ?_⟩
      · rcases k3 with g | g
        · exact .inl g
        · right; rcases h4 with h4 | h4 <;> omega
      · rcases List.mem_cons.1 hxs with rfl | g
        · rcases h4 with h4 | h4 <;> omega
        · exact h5 xs g
theorem best_facts {f : List Int → Int} {n : Nat} (hn : n ≤ 8) : 1 ≤ (bestR f n).c ∧ f (bestR f n).o = (bestR f n).v ∧ Ord n (bestR f n).o ∧ ∀ xs, Ord n xs → (bestR f n).v ≤ f xs := by
  have h0 : upTo n ∈ ordsL n := perms_all (upTo_len n) (List.Perm.refl _)
  have l8 := ords_le hn
  have e8 : (8 : Nat) ^ 8 = 16777216 := by decide
  rcases best_fold (f := f) (B := 2 ^ 40) (Nat.le_refl _) (l := ordsL n) (b := sr0) (k := 0) (S := Ord n) (fun xs hx => ords_ord hx) (by omega) (.inl ⟨rfl, rfl⟩) with ⟨e, _⟩ | ⟨h1, h2, h3, _, h5⟩
  · rw [e] at h0; cases h0
  · exact ⟨h1, h2, h3, fun xs hx => h5 xs (ord_mem hx)⟩
/-! ### exchanges of neighbours -/
def swp (xs : List Int) (i : Nat) : List Int := (xs.set i (gE xs (i + 1))).set (i + 1) (gE xs i)
def gn (f : List Int → Int) (xs : List Int) (i : Nat) : Int := f xs - f (swp xs i)
end Go.Pm.PP

/- Typed rules for slices: printed by a program of this work (wrap.py). -/
set_option linter.unusedVariables false
set_option linter.unusedSimpArgs false
set_option maxRecDepth 4000
namespace Go.Pm.PP
def encU (x : Int) : List Value := [.int .u8 x]
open Go.Pm Go.Proofs
theorem load_U {h : Hp} {v : Value} {xs : List (Int)} {i : Nat} {x : Int} (hv : Sees h v 1 (xs.map encU)) (hx : xs[i]? = some x) :
    indexAddrP P h t_S_u8 v (.int .i64 i) = some (.pointer (some (addP (base v) (i)))) ∧ loadP P h t_u8 (.pointer (some (addP (base v) (i)))) = some (.int .u8 x) := by
  have hi := (List.getElem?_eq_some_iff.1 hx).1
  have h1 := hv.indexT (P := P) u_S_u8 i_u8 (k := .i64) (j := i) (by omega) (by omega)
  rw [Int.toNat_natCast] at h1
  have h2 := hv.cellT (P := P) (ty := t_u8) a_u8 i_u8 hx (k := 0) (by omega)
  exact ⟨by simpa using h1, by simpa [encU] using h2⟩
theorem len_U (xs : List (Int)) : ∀ e ∈ xs.map encU, e.length = 1 := by
  intro e he
  obtain ⟨x, _, rfl⟩ := List.mem_map.1 he
  rfl
theorem ones_U (xs : List (Int)) : (xs.map encU).flatten.all one = true := by
  induction xs with
  | nil => rfl
  | cons x xs ih => rw [List.map_cons, List.flatten_cons, List.all_append, ih]; rfl
theorem push_U0 {h0 h : Hp} {L : List Asn} (H : Holds h0 h L) (i : Nat) {v : Value} {xs : List (Int)} (hi : L[i]? = some (.own v 1 (xs.map encU))) (x : Int) (hn : xs.length ≤ 2 ^ 40) :
    ∃ v' h', appendP P (h ++ [some ⟨[.int .u8 x], 1, false⟩]) t_S_u8 v (.slice (some ⟨h.length, 0, some 1⟩) 1 1) = some (v', h') ∧ Holds h0 h' (L.set i (.own v' 1 ((xs ++ [x]).map encU))) ∧ Keeps (rowV v) h h' ∧ (rowV v = none → newOk (h ++ [some ⟨[.int .u8 x], 1, false⟩]) h') := by
  obtain ⟨v', h', g1, g2, g3, g4⟩ := (H.ext (List.prefix_append h [])).push (P := P) i (y := encU x) (n := 1) hi u_S_u8 e_t_u8 z_t_u8 s_t_u8 (by omega) (by rw [b_t_u8]; omega) rfl rfl (by simp [encU]) (by rw [b_t_u8]; simp; omega)
  rw [show xs.map encU ++ [encU x] = (xs ++ [x]).map encU by simp] at g2
  exact ⟨v', h', by simpa [encU] using g1, g2, Keeps.app.trans g3, by simpa [encU] using g4⟩
theorem app_U {h0 h : Hp} {L : List Asn} (H : Holds h0 h L) (i : Nat) {v u : Value} {xs ys : List (Int)} (hi : L[i]? = some (.own v 1 (xs.map encU))) (s : Sees h u 1 (ys.map encU)) (hn : xs.length + ys.length ≤ 2 ^ 40) :
    ∃ v' h', appendP P h t_S_u8 v u = some (v', h') ∧ Holds h0 h' (L.set i (.own v' 1 ((xs ++ ys).map encU))) ∧ Keeps (rowV v) h h' := by
  obtain ⟨v', h', g1, g2, g3⟩ := H.app (P := P) i hi u_S_u8 e_t_u8 z_t_u8 s_t_u8 (by omega) (by rw [b_t_u8]; omega) s (ones_U ys) (by rw [b_t_u8]; simp; omega)
  rw [← List.map_append] at g2
  exact ⟨v', h', g1, g2, g3⟩
end Go.Pm.PP

/- Draws: bytes, numbers, one of some. -/
set_option linter.unusedVariables false
set_option linter.unusedSimpArgs false
set_option maxRecDepth 4000
set_option maxHeartbeats 8000000
namespace Go.Pm.PP
open Go.Pm Go.Proofs Go.Pm.PE
/-- A cursor over bytes. -/
abbrev cu (r : Nat) (vc : Value) (at' sd : Int) : Asn := .box r [vc, .int .i64 at', .int .u64 sd]
/-- A code that is read. -/
def By (h0 : Hp) (vc : Value) : Prop := ∃ bs : List Int, Sees h0 vc 1 (bs.map encU) ∧ (∀ b, b ∈ bs → 0 ≤ b ∧ b ≤ 255) ∧ bs.length ≤ 2 ^ 20
def Cur (h0 h : Hp) (r : Nat) (vc : Value) (n : Nat) (L : List Asn) : Prop := ∃ a s : Int, 0 ≤ a ∧ a ≤ n ∧ Holds h0 h (cu r vc a s :: L)
section
variable {h0 h h' : Hp} {r n m : Nat} {vc u w : Value} {L T : List Asn}
theorem Cur.mono (C : Cur h0 h r vc n L) (hm : n ≤ m) : Cur h0 h r vc m L := by
  obtain ⟨a, s, h1, h2, H⟩ := C
  exact ⟨a, s, h1, by omega, H⟩
theorem Cur.weak (C : Cur h0 h r vc n (L ++ T)) : Cur h0 h r vc n L := by
  obtain ⟨a, s, h1, h2, H⟩ := C
  exact ⟨a, s, h1, h2, Holds.weak (T := T) H⟩
theorem Cur.pre (C : Cur h0 h r vc n L) : h0 <+: h := by
  obtain ⟨a, s, h1, h2, H⟩ := C
  exact H.pre
/-- At a function's end. -/
theorem Cur.gc (C : Cur h0 h r vc n L) (C' : Cur h0 h' r vc m L) : Cur h0 (gc h h' u) r vc m L := by
  obtain ⟨a, s, _, _, H⟩ := C
  obtain ⟨a', s', h1, h2, H'⟩ := C'
  exact ⟨a', s', h1, h2, H.gcR H' rfl⟩
theorem Cur.gcO {sz : Nat} {els : List (List Value)} (C : Cur h0 h r vc n L) (C' : Cur h0 h' r vc m (L ++ [.own w sz els])) (hu : plain u = true → plainC w = true) : Cur h0 (Pm.gc h h' u) r vc m (L ++ [.own w sz els]) := by
  obtain ⟨a, s, _, _, H⟩ := C
  obtain ⟨a', s', h1, h2, H'⟩ := C'
  refine ⟨a', s', h1, h2, ?_⟩
  rcases gc_cases h h' u with g | ⟨hp, g⟩
  · rw [g]; exact H'
  · have G := H.gcR (u := u) (L' := cu r vc a' s' :: L) (Holds.weak (L := cu r vc a' s' :: L) (T := [.own w sz els]) H') rfl
    rw [g] at G ⊢
    have hw := hu hp
    have ho := H'.own (L.length + 1) (v := w) (sz := sz) (els := els) (by
      rw [List.getElem?_cons_succ, List.getElem?_append_right (Nat.le_refl _), Nat.sub_self]; rfl)
    have hn : els = [] := by
      rcases ho.2 with ⟨_, h2⟩ | ⟨_, _, _, _, _, h2, _⟩
      · exact h2
      · rw [h2] at hw; cases hw
    subst hn
    have hw2 : w = nilV := by
      obtain ⟨a, c, e⟩ := ho.sees.shape
      rw [e] at hw ⊢
      simp only [List.length_nil] at hw ⊢
      match a, c, hw with
      | none, 0, _ => rfl
    subst hw2
    exact G.call List.prefix_rfl Own.nil
end
theorem wrap_u64 {n : Int} (h1 : 0 ≤ n) (h2 : n ≤ 255) : IntKind.u64.wrap n = n := by
  unfold IntKind.wrap
  simp [IntKind.signed, IntKind.bits]
  omega
theorem and_bd (p : Nat) : 0 ≤ IntKind.i64.wrap (IntKind.u64.wrap ↑(p &&& (255 % 2 ^ IntKind.u64.bits : Int).toNat)) ∧ IntKind.i64.wrap (IntKind.u64.wrap ↑(p &&& (255 % 2 ^ IntKind.u64.bits : Int).toNat)) ≤ 255 := by
  have e : (255 % 2 ^ IntKind.u64.bits : Int).toNat = 255 := by decide
  rw [e]
  have : p &&& 255 ≤ 255 := Nat.and_le_right
  rw [wrap_u64 (by omega) (by omega), wrap_ok (by omega) (by omega)]
  omega
theorem emod_le' {a k : Int} (h : 0 ≤ a) (hk : 0 ≤ k) : a % k ≤ a := by
  obtain ⟨n, rfl⟩ := Int.eq_ofNat_of_zero_le h
  obtain ⟨m, rfl⟩ := Int.eq_ofNat_of_zero_le hk
  have := Nat.mod_le n m
  rw [← Int.natCast_emod]
  exact Int.ofNat_le.2 this
theorem cv1 {b : Int} : convP P t_u8 t_int (.int .u8 b) = some (.int .i64 (IntKind.i64.wrap b)) := by unfold convP; rw [u_u8, u_int]
theorem cv2 {b : Int} : convP P t_int t_u64 (.int .i64 b) = some (.int .u64 (IntKind.u64.wrap b)) := by unfold convP; rw [u_int, u_u64]
theorem cv3 {b : Int} : convP P t_u64 t_int (.int .u64 b) = some (.int .i64 (IntKind.i64.wrap b)) := by unfold convP; rw [u_u64, u_int]
theorem shr40 (a : Int) : ∃ z : Int, shiftI .shr .u64 a 40 = some (.int .u64 z) := ⟨_, rfl⟩
section
variable {h0 h : Hp} {r n : Nat} {vc : Value} {L : List Asn}
theorem next_run (B : By h0 vc) (C : Cur h0 h r vc n L) (hn : n ≤ 2 ^ 50) : RunsC P G n_spec_l1Cur_next [.pointer (some ⟨r, 0, some 3⟩)] h fun v h' => ∃ x : Int, v = .int .i64 x ∧ 0 ≤ x ∧ x ≤ 255 ∧ Cur h0 h' r vc (n + 1) L := by
  refine hideC fun K hK => enter_run e_spec_l1Cur_next (by simp) ?_
  have Cs := C
  obtain ⟨bs, Sb, hb, hl⟩ := B
  obtain ⟨a, s, a0, a1, H⟩ := C
  obtain ⟨ob, cb, rfl⟩ := Sb.shapeT
  have Sb' := Sb.pre H.pre
  have l1 := H.bl (P := P) 0 3 rfl rfl
  obtain ⟨h1, s1, H1, _⟩ := H.set (P := P) 0 (n := 3) (o := 1) (ty := t_int) (w := .int .i64 (a + 1)) rfl rfl e_t_int (by simp) (by simp) (by simp)
  have l2 := H1.bl (P := P) 0 3 rfl rfl
  have wa : IntKind.i64.wrap (a + 1) = a + 1 := by rw [wrap_ok] <;> omega
  by_cases c1 : a < bs.length
  · obtain ⟨b, hbb, _⟩ := drop_at (show a.toNat < bs.length by omega)
    have lb := load_U Sb' hbb
    rw [show ((a.toNat : Nat) : Int) = a by omega] at lb
    have hb' := hb b (List.mem_of_getElem? hbb)
    have wb : IntKind.i64.wrap b = b := by rw [wrap_ok] <;> omega
    have c2 : a + 1 ≤ bs.length := by omega
    obtain ⟨h2, s2, H2, _⟩ := H1.set (P := P) 0 (n := 3) (o := 2) (ty := t_u64) (w := .int .u64 (IntKind.u64.wrap (IntKind.u64.wrap (IntKind.u64.wrap (s * 6364136223846793005) + IntKind.u64.wrap b) + 462197))) rfl rfl e_t_u64 (by simp) (by simp) (by simp)
    have l3 := H2.bl (P := P) 0 3 rfl rfl
    simp -implicitDefEqProofs [-indexAddrP_some, l1, c1, lb, wb, wa, s1, l2, s2, l3, c2, cv1, cv2, cv3]
    exact onK hK ⟨b, rfl, hb'.1, hb'.2, Cs.gc ⟨a + 1, _, by omega, by omega, H2⟩⟩
  · have c2 : ¬ a + 1 ≤ bs.length := by omega
    obtain ⟨h2, s2, H2, _⟩ := H1.set (P := P) 0 (n := 3) (o := 2) (ty := t_u64) (w := .int .u64 (IntKind.u64.wrap (IntKind.u64.wrap (IntKind.u64.wrap (s * 6364136223846793005) + IntKind.u64.wrap 0) + 462197))) rfl rfl e_t_u64 (by simp) (by simp) (by simp)
    have l3 := H2.bl (P := P) 0 3 rfl rfl
    obtain ⟨z, hz⟩ := shr40 (IntKind.u64.wrap (IntKind.u64.wrap (IntKind.u64.wrap (s * 6364136223846793005) + IntKind.u64.wrap 0) + 462197))
    simp -implicitDefEqProofs [-indexAddrP_some, l1, c1, wa, s1, l2, s2, l3, c2, cv1, cv2, cv3, hz]
    exact onK hK ⟨_, rfl, (and_bd _).1, (and_bd _).2, Cs.gc ⟨a + 1, _, by omega, by omega, H2⟩⟩
theorem pick_run (B : By h0 vc) (C : Cur h0 h r vc n L) (hn : n ≤ 2 ^ 40) {k : Int} (hk : k ≤ 2 ^ 40) : RunsC P G n_spec_l1Cur_pick [.pointer (some ⟨r, 0, some 3⟩), .int .i64 k] h fun v h' => ∃ x : Int, v = .int .i64 x ∧ 0 ≤ x ∧ x ≤ 2 ^ 20 ∧ (1 ≤ k → x < k) ∧ Cur h0 h' r vc (n + 2) L := by
  refine hideC fun K hK => enter_run e_spec_l1Cur_pick (by simp) ?_
  by_cases c0 : k ≤ 1
  · simp -implicitDefEqProofs [c0]
    exact onK hK ⟨0, rfl, by omega, by omega, fun h => by omega, C.mono (by omega)⟩
  · simp -implicitDefEqProofs [c0]
    refine CL_post (next_run B C (by omega)) fun v h1 ⟨x, ev, x0, x1, C1⟩ => ?_
    subst ev
    have k0 : ¬ k = 0 := by omega
    by_cases c1 : 200 < k
    · have w1 : IntKind.i64.wrap (x * 256) = x * 256 := by rw [wrap_ok] <;> omega
      simp -implicitDefEqProofs [c1, w1]
      refine CL_post (next_run B C1 (by omega)) fun v h2 ⟨y, ev, y0, y1, C2⟩ => ?_
      subst ev
      have w2 : IntKind.i64.wrap (x * 256 + y) = x * 256 + y := by rw [wrap_ok] <;> omega
      have e : (x * 256 + y).tmod k = (x * 256 + y) % k := Int.tmod_eq_emod_of_nonneg (by omega)
      have m1 := Int.emod_nonneg (x * 256 + y) k0
      have m2 := Int.emod_lt_of_pos (x * 256 + y) (show 0 < k by omega)
      have m3 : (x * 256 + y) % k ≤ x * 256 + y := emod_le' (by omega) (by omega)
      simp -implicitDefEqProofs [w2, k0, e]
      exact onK hK ⟨_, rfl, m1, by omega, fun _ => m2, C.gc C2⟩
    · have e : x.tmod k = x % k := Int.tmod_eq_emod_of_nonneg x0
      have m1 := Int.emod_nonneg x k0
      have m2 := Int.emod_lt_of_pos x (show 0 < k by omega)
      have m3 : x % k ≤ x := emod_le' x0 (by omega)
      simp -implicitDefEqProofs [c1, k0, e]
      exact onK hK ⟨_, rfl, m1, by omega, fun _ => m2, C.gc (C1.mono (by omega))⟩
theorem one_run (B : By h0 vc) (C : Cur h0 h r vc n L) (hn : n ≤ 2 ^ 40) {k : Int} (hk : k ≤ 2 ^ 40) : RunsC P G n_spec_l1Cur_one [.pointer (some ⟨r, 0, some 3⟩), .int .i64 k] h fun v h' => ∃ b : Bool, v = .bool b ∧ Cur h0 h' r vc (n + 2) L := by
  refine hideC fun K hK => enter_run e_spec_l1Cur_one (by simp) ?_
  simp -implicitDefEqProofs
  refine CL_post (pick_run B C hn hk) fun v h1 ⟨x, ev, _, _, _, C1⟩ => ?_
  subst ev
  simp -implicitDefEqProofs
  exact onK hK ⟨_, rfl, C.gc C1⟩
theorem among_run (B : By h0 vc) {xs : List Int} {vl : Value} {i : Nat} (C : Cur h0 h r vc n L) (hn : n ≤ 2 ^ 40) (hi : L[i]? = some (.own vl 1 (xs.map encI))) (h1 : 1 ≤ xs.length) (h2 : xs.length ≤ 2 ^ 40) :
    RunsC P G n_spec_l1Cur_among [.pointer (some ⟨r, 0, some 3⟩), vl] h fun v h' => ∃ x : Int, v = .int .i64 x ∧ x ∈ xs ∧ Cur h0 h' r vc (n + 2) L := by
  refine hideC fun K hK => enter_run e_spec_l1Cur_among (by simp) ?_
  have S0 : Ints h vl xs := by obtain ⟨a, s, _, _, H⟩ := C; exact H.sees (i + 1) (by rw [List.getElem?_cons_succ]; exact hi)
  obtain ⟨oa, ca, rfl⟩ := S0.shapeT
  simp -implicitDefEqProofs
  refine CL_post (pick_run B C hn (k := xs.length) (by omega)) fun v h3 ⟨x, ev, x0, _, xk, C1⟩ => ?_
  subst ev
  have hx := xk (by omega)
  have S1 : Ints h3 (.slice oa xs.length ca) xs := by obtain ⟨a, s, _, _, H⟩ := C1; exact H.sees (i + 1) (by rw [List.getElem?_cons_succ]; exact hi)
  obtain ⟨y, hy, _⟩ := drop_at (show x.toNat < xs.length by omega)
  have ly := load_I S1 hy
  rw [show ((x.toNat : Nat) : Int) = x by omega] at ly
  simp -implicitDefEqProofs [-indexAddrP_some, ly]
  exact onK hK ⟨y, rfl, List.mem_of_getElem? hy, C.gc C1⟩
/-- A list that is told. -/
theorem Cur.lit (C : Cur h0 h r vc n L) (xs : List Int) : Cur h0 (h ++ [some ⟨xs.map fun x => .int .i64 x, 1, false⟩]) r vc n (L ++ [.own (.slice (some ⟨h.length, 0, some xs.length⟩) xs.length xs.length) 1 (xs.map encI)]) := by
  obtain ⟨a, s, h1, h2, H⟩ := C
  refine ⟨a, s, h1, h2, ?_⟩
  have e : (xs.map encI).flatten = xs.map fun x => Value.int .i64 x := by
    induction xs with
    | nil => rfl
    | cons x xs ih => rw [List.map_cons, List.flatten_cons, ih]; rfl
  have := H.lit (sz := 1) (n := xs.length) (els := xs.map encI) (len_I xs) (by simp)
  rw [e, List.length_map] at this
  exact this
theorem snoc_get {A : Asn} : (L ++ [A])[L.length]? = some A := by rw [List.getElem?_append_right (Nat.le_refl _), Nat.sub_self]; rfl
end
end Go.Pm.PP

/- Draws: jobs and orders. -/
set_option linter.unusedVariables false
set_option linter.unusedSimpArgs false
set_option maxRecDepth 4000
set_option maxHeartbeats 8000000
namespace Go.Pm.PP
open Go.Pm Go.Proofs Go.Pm.PE
section
variable {h0 h : Hp} {r n : Nat} {vc : Value} {L : List Asn}
theorem Cur.alloc (C : Cur h0 h r vc n L) (cs : List Value) : Cur h0 (h ++ [some ⟨cs, 0, false⟩]) r vc n (L ++ [.box h.length cs]) := by
  obtain ⟨a, s, h1, h2, H⟩ := C
  exact ⟨a, s, h1, h2, H.alloc cs⟩
abbrev zJ : List Value := [.int .i64 0, .int .i64 0, .int .i64 0, .int .i64 0]
theorem job_run (B : By h0 vc) (C : Cur h0 h r vc n L) (hn : n ≤ 2 ^ 30) {b : Bool} : RunsC P G n_spec_l1Cur_job [.pointer (some ⟨r, 0, some 3⟩), .bool b] h fun v h' => ∃ j : Job, v = jv j ∧ Cur h0 h' r vc (n + 8) L := by
  refine hideC fun K hK => enter_run e_spec_l1Cur_job (by simp) ?_
  have C0 := C.alloc zJ
  have C1 : Cur h0 (h ++ [some ⟨zJ, 0, false⟩, some ⟨([1, 2, 3, 4, 5, 7, 9] : List Int).map fun x => .int .i64 x, 1, false⟩]) r vc n ((L ++ [.box h.length zJ]) ++ [.own (.slice (some ⟨h.length + 1, 0, some 7⟩) 7 7) 1 (([1, 2, 3, 4, 5, 7, 9] : List Int).map encI)]) := by
    have := C0.lit [1, 2, 3, 4, 5, 7, 9]
    rw [List.append_assoc h, List.length_append] at this
    exact this
  simp -implicitDefEqProofs
  refine CL_post (among_run B C1 (by omega) snoc_get (xs := [1, 2, 3, 4, 5, 7, 9]) (by simp) (by simp)) fun v h1 ⟨x, ev, _, C2⟩ => ?_
  subst ev
  have C3 := C2.weak.lit [0, 1, 1, 2, 3, 5, 8]
  simp -implicitDefEqProofs
  refine CL_post (among_run B C3 (by omega) snoc_get (xs := [0, 1, 1, 2, 3, 5, 8]) (by simp) (by simp)) fun v h2 ⟨y, ev, _, C4⟩ => ?_
  subst ev
  simp -implicitDefEqProofs
  refine CL_post (pick_run B C4.weak (by omega) (k := 24) (by omega)) fun v h3 ⟨z, ev, _, _, _, C5⟩ => ?_
  subst ev
  have C6 := C5.alloc [.int .i64 x, .int .i64 y, .int .i64 0, .int .i64 z]
  have g4 : ∀ {A : Asn} {x : List Value} {T : List Asn}, (A :: ((L ++ [.box h.length x]) ++ T))[L.length + 1]? = some (.box h.length x) := by
    intro A x T
    rw [List.getElem?_cons_succ, List.append_assoc, List.getElem?_append_right (Nat.le_refl _), Nat.sub_self]; rfl
  cases b
  · obtain ⟨a, s, g1, g2, H⟩ := C6
    obtain ⟨h4, s4, H4, _⟩ := H.set (P := P) (L.length + 1) (n := 4) (o := 0) (ty := t_impl_Job) (w := jv ⟨x, y, 0, z⟩) (r := h.length) (cs := zJ) g4 rfl e_t_impl_Job (by simp) (by simp) (by simp)
    have e4 : (cu r vc a s :: ((L ++ [.box h.length zJ]) ++ [.box h3.length [.int .i64 x, .int .i64 y, .int .i64 0, .int .i64 z]])).set (L.length + 1) (.box h.length (splice zJ 0 (jv ⟨x, y, 0, z⟩).cells.toList)) = cu r vc a s :: ((L ++ [.box h.length [.int .i64 x, .int .i64 y, .int .i64 0, .int .i64 z]]) ++ [.box h3.length [.int .i64 x, .int .i64 y, .int .i64 0, .int .i64 z]]) := by
      rw [List.set_cons_succ, List.append_assoc, List.set_append_right (h := Nat.le_refl _), Nat.sub_self, List.append_assoc]; rfl
    rw [e4] at H4
    have s4' : storeP P (h3 ++ [some ⟨[.int .i64 x, .int .i64 y, .int .i64 0, .int .i64 z], 0, false⟩]) 85 (.agg #[.int .i64 x, .int .i64 y, .int .i64 0, .int .i64 z]) (.pointer (some ⟨h.length, 0, some 4⟩)) = some h4 := s4
    have l4 := H4.bl (P := P) (L.length + 1) 4 g4 rfl
    simp -implicitDefEqProofs
    simp -implicitDefEqProofs [-storeP_app0, s4', l4]
    exact onK hK ⟨⟨x, y, 0, z⟩, rfl, C.gc (Cur.weak (T := [.box h.length [.int .i64 x, .int .i64 y, .int .i64 0, .int .i64 z]] ++ [.box h3.length [.int .i64 x, .int .i64 y, .int .i64 0, .int .i64 z]]) ⟨a, s, g1, by omega, by rw [← List.append_assoc]; exact H4⟩)⟩
  · simp -implicitDefEqProofs
    refine CL_post (pick_run B C6 (by omega) (k := 12) (by omega)) fun v h4 ⟨q, ev, _, _, _, C7⟩ => ?_
    subst ev
    obtain ⟨a, s, g1, g2, H⟩ := C7
    have g5 : ∀ {A : Asn} {x : List Value} {B : Asn}, (A :: ((L ++ [B]) ++ [.box h3.length x]))[L.length + 1 + 1]? = some (.box h3.length x) := by
      intro A x B
      rw [List.getElem?_cons_succ, List.append_assoc, List.getElem?_append_right (by omega), Nat.add_sub_cancel_left]; rfl
    obtain ⟨h5, s5, H5, _⟩ := H.set (P := P) (L.length + 1 + 1) (n := 4) (o := 2) (ty := t_int) (w := .int .i64 q) g5 rfl e_t_int (by simp) (by simp) (by simp)
    have e5 : (cu r vc a s :: ((L ++ [.box h.length zJ]) ++ [.box h3.length [.int .i64 x, .int .i64 y, .int .i64 0, .int .i64 z]])).set (L.length + 1 + 1) (.box h3.length (splice [.int .i64 x, .int .i64 y, .int .i64 0, .int .i64 z] 2 (Value.int .i64 q).cells.toList)) = cu r vc a s :: ((L ++ [.box h.length zJ]) ++ [.box h3.length [.int .i64 x, .int .i64 y, .int .i64 q, .int .i64 z]]) := by
      rw [List.set_cons_succ, List.append_assoc, List.set_append_right (h := by omega), Nat.add_sub_cancel_left, List.append_assoc]; rfl
    rw [e5] at H5
    have l5 := H5.bl (P := P) (L.length + 1 + 1) 4 g5 rfl
    obtain ⟨h6, s6, H6, _⟩ := H5.set (P := P) (L.length + 1) (n := 4) (o := 0) (ty := t_impl_Job) (w := jv ⟨x, y, q, z⟩) (r := h.length) (cs := zJ) g4 rfl e_t_impl_Job (by simp) (by simp) (by simp)
    have e6 : (cu r vc a s :: ((L ++ [.box h.length zJ]) ++ [.box h3.length [.int .i64 x, .int .i64 y, .int .i64 q, .int .i64 z]])).set (L.length + 1) (.box h.length (splice zJ 0 (jv ⟨x, y, q, z⟩).cells.toList)) = cu r vc a s :: ((L ++ [.box h.length [.int .i64 x, .int .i64 y, .int .i64 q, .int .i64 z]]) ++ [.box h3.length [.int .i64 x, .int .i64 y, .int .i64 q, .int .i64 z]]) := by
      rw [List.set_cons_succ, List.append_assoc, List.set_append_right (h := Nat.le_refl _), Nat.sub_self, List.append_assoc]; rfl
    rw [e6] at H6
    have s6' : storeP P h5 85 (.agg #[.int .i64 x, .int .i64 y, .int .i64 q, .int .i64 z]) (.pointer (some ⟨h.length, 0, some 4⟩)) = some h6 := s6
    have l6 := H6.bl (P := P) (L.length + 1) 4 g4 rfl
    simp -implicitDefEqProofs [-storeP_app0, s5, l5, s6', l6]
    exact onK hK ⟨⟨x, y, q, z⟩, rfl, C.gc (Cur.weak (T := [.box h.length [.int .i64 x, .int .i64 y, .int .i64 q, .int .i64 z]] ++ [.box h3.length [.int .i64 x, .int .i64 y, .int .i64 q, .int .i64 z]]) ⟨a, s, g1, by omega, by rw [← List.append_assoc]; exact H6⟩)⟩
end
end Go.Pm.PP

/- Draws: spoilt jobs, lists of jobs. -/
set_option linter.unusedVariables false
set_option linter.unusedSimpArgs false
set_option maxRecDepth 4000
set_option maxHeartbeats 8000000
namespace Go.Pm.PP
open Go.Pm Go.Proofs Go.Pm.PE
section
variable {h0 h : Hp} {r n : Nat} {vc : Value} {L : List Asn}
theorem spoiltJob_run (B : By h0 vc) (C : Cur h0 h r vc n L) (hn : n ≤ 2 ^ 30) {j : Job} : RunsC P G n_spec_l1Cur_spoiltJob [.pointer (some ⟨r, 0, some 3⟩), jv j] h fun v h' => ∃ j' : Job, v = jv j' ∧ Cur h0 h' r vc (n + 4) L := by
  refine hideC fun K hK => enter_run e_spec_l1Cur_spoiltJob (by simp) ?_
  have C1 : Cur h0 (h ++ [some ⟨[.int .i64 j.t, .int .i64 j.w, .int .i64 j.r, .int .i64 j.d], 0, false⟩, some ⟨zJ, 0, false⟩]) r vc n ((L ++ [.box h.length (encJ j)]) ++ [.box (h.length + 1) zJ]) := by
    have := (C.alloc (encJ j)).alloc zJ
    rw [List.append_assoc h, List.length_append] at this
    exact this
  have g3 : ∀ {A : Asn} {x : List Value} {T : List Asn}, (A :: ((L ++ [.box h.length x]) ++ T))[L.length + 1]? = some (.box h.length x) := by
    intro A x T
    rw [List.getElem?_cons_succ, List.append_assoc, List.getElem?_append_right (Nat.le_refl _), Nat.sub_self]; rfl
  have g4 : ∀ {A : Asn} {x : List Value} {B : Asn}, (A :: ((L ++ [B]) ++ [.box (h.length + 1) x]))[L.length + 1 + 1]? = some (.box (h.length + 1) x) := by
    intro A x B
    rw [List.getElem?_cons_succ, List.append_assoc, List.getElem?_append_right (by omega), Nat.add_sub_cancel_left]; rfl
  have fin : ∀ (fo : Nat) (q : Int) (j' : Job) (h5 : Hp), fo + 1 ≤ 4 → splice (encJ j) fo [.int .i64 q] = encJ j' → Cur h0 h5 r vc (n + 4) ((L ++ [.box h.length (encJ j)]) ++ [.box (h.length + 1) zJ]) →
      ∃ h6 h7, storeP P h5 t_int (.int .i64 q) (.pointer (some ⟨h.length, fo, some 4⟩)) = some h6 ∧ loadP P h6 85 (.pointer (some ⟨h.length, 0, some 4⟩)) = some (.agg #[.int .i64 j'.t, .int .i64 j'.w, .int .i64 j'.r, .int .i64 j'.d]) ∧
        storeP P h6 85 (.agg #[.int .i64 j'.t, .int .i64 j'.w, .int .i64 j'.r, .int .i64 j'.d]) (.pointer (some ⟨h.length + 1, 0, some 4⟩)) = some h7 ∧ loadP P h7 85 (.pointer (some ⟨h.length + 1, 0, some 4⟩)) = some (.agg #[.int .i64 j'.t, .int .i64 j'.w, .int .i64 j'.r, .int .i64 j'.d]) ∧ ∀ u, K (jv j') (gc h h7 u) := by
    intro fo q j' h5 hfo he ⟨a, s, a0, a1, H⟩
    obtain ⟨h6, s6, H6, _⟩ := H.set (P := P) (L.length + 1) (n := 4) (o := fo) (ty := t_int) (w := .int .i64 q) g3 rfl e_t_int (by simp) (by simpa [encJ] using hfo) (by simp)
    rw [show (Value.int .i64 q).cells.toList = [.int .i64 q] from rfl, he] at H6
    have e6 : (cu r vc a s :: ((L ++ [.box h.length (encJ j)]) ++ [.box (h.length + 1) zJ])).set (L.length + 1) (.box h.length (encJ j')) = cu r vc a s :: ((L ++ [.box h.length (encJ j')]) ++ [.box (h.length + 1) zJ]) := by
      rw [List.set_cons_succ, List.append_assoc, List.set_append_right (h := Nat.le_refl _), Nat.sub_self, List.append_assoc]; rfl
    rw [e6] at H6
    have l6 := H6.bl (P := P) (L.length + 1) 4 g3 rfl t_impl_Job 0
    obtain ⟨h7, s7, H7, _⟩ := H6.set (P := P) (L.length + 1 + 1) (n := 4) (o := 0) (ty := t_impl_Job) (w := jv j') g4 rfl e_t_impl_Job (by simp) (by simp) (by simp)
    have e7 : (cu r vc a s :: ((L ++ [.box h.length (encJ j')]) ++ [.box (h.length + 1) zJ])).set (L.length + 1 + 1) (.box (h.length + 1) (splice zJ 0 (jv j').cells.toList)) = cu r vc a s :: ((L ++ [.box h.length (encJ j')]) ++ [.box (h.length + 1) (encJ j')]) := by
      rw [List.set_cons_succ, List.append_assoc, List.set_append_right (h := by omega), Nat.add_sub_cancel_left, List.append_assoc]; rfl
    rw [e7] at H7
    have l7 := H7.bl (P := P) (L.length + 1 + 1) 4 g4 rfl t_impl_Job 0
    refine ⟨h6, h7, s6, by rw [l6]; simp [encJ], s7, by rw [l7]; simp [encJ], fun u => onK hK ⟨j', rfl, C.gc (Cur.weak (T := [.box h.length (encJ j')] ++ [.box (h.length + 1) (encJ j')]) ⟨a, s, a0, by omega, by rw [← List.append_assoc]; exact H7⟩)⟩⟩
  simp -implicitDefEqProofs
  refine CL_post (pick_run B C1 (by omega) (k := 4) (by omega)) fun v h2 ⟨x, ev, x0, _, _, C2⟩ => ?_
  subst ev
  by_cases c0 : x = 0
  · subst c0
    simp -implicitDefEqProofs
    refine CL_post (among_run B (C2.lit [0, 50, 51, -1, 4611686018427387904]) (by omega) snoc_get (by simp) (by simp)) fun v h3 ⟨q, ev, _, C3⟩ => ?_
    subst ev
    obtain ⟨h6, h7, s6, l6, s7, l7, f⟩ := fin 0 q ⟨q, j.w, j.r, j.d⟩ h3 (by omega) rfl C3.weak
    simp -implicitDefEqProofs [s6, l6, s7, l7]
    exact f _
  · by_cases c1 : x = 1
    · subst c1
      simp -implicitDefEqProofs
      refine CL_post (among_run B (C2.lit [-1, 50, 51]) (by omega) snoc_get (by simp) (by simp)) fun v h3 ⟨q, ev, _, C3⟩ => ?_
      subst ev
      obtain ⟨h6, h7, s6, l6, s7, l7, f⟩ := fin 1 q ⟨j.t, q, j.r, j.d⟩ h3 (by omega) rfl C3.weak
      simp -implicitDefEqProofs [s6, l6, s7, l7]
      exact f _
    · by_cases c2 : x = 2
      · subst c2
        simp -implicitDefEqProofs
        refine CL_post (among_run B (C2.lit [-1, 500, 501]) (by omega) snoc_get (by simp) (by simp)) fun v h3 ⟨q, ev, _, C3⟩ => ?_
        subst ev
        obtain ⟨h6, h7, s6, l6, s7, l7, f⟩ := fin 2 q ⟨j.t, j.w, q, j.d⟩ h3 (by omega) rfl C3.weak
        simp -implicitDefEqProofs [s6, l6, s7, l7]
        exact f _
      · simp -implicitDefEqProofs [nb c0, nb c1, nb c2]
        refine CL_post (among_run B (C2.lit [-1, 500, 501, -9223372036854775808]) (by omega) snoc_get (by simp) (by simp)) fun v h3 ⟨q, ev, _, C3⟩ => ?_
        subst ev
        obtain ⟨h6, h7, s6, l6, s7, l7, f⟩ := fin 3 q ⟨j.t, j.w, j.r, q⟩ h3 (by omega) rfl C3.weak
        simp -implicitDefEqProofs [s6, l6, s7, l7]
        exact f _
end
end Go.Pm.PP

/- Draws: lists of jobs. -/
set_option linter.unusedVariables false
set_option linter.unusedSimpArgs false
set_option maxRecDepth 4000
set_option maxHeartbeats 16000000
namespace Go.Pm.PP
open Go.Pm Go.Proofs Go.Pm.PE
section
variable {h0 h : Hp} {r n : Nat} {vc : Value} {L : List Asn}
/-- Something is put at the end of a list of one's own that is drawn. -/
theorem Cur.pushJ {u : Value} {js : List Job} (C : Cur h0 h r vc n (L ++ [.own u 4 (js.map encJ)])) (j : Job) (hl : js.length ≤ 2 ^ 40) : ∃ u' h', appendP P (h ++ [some ⟨[.int .i64 j.t, .int .i64 j.w, .int .i64 j.r, .int .i64 j.d], 4, false⟩]) t_S_impl_Job u (.slice (some ⟨h.length, 0, some 4⟩) 1 1) = some (u', h') ∧ Cur h0 h' r vc n (L ++ [.own u' 4 ((js ++ [j]).map encJ)]) := by
  obtain ⟨a, s, h1, h2, H⟩ := C
  obtain ⟨u', h', g1, g2, _⟩ := push_J0 H (L.length + 1) (by rw [List.getElem?_cons_succ]; exact snoc_get) j hl
  refine ⟨u', h', g1, a, s, h1, h2, ?_⟩
  rw [List.set_cons_succ, List.set_append_right (h := Nat.le_refl _), Nat.sub_self] at g2
  exact g2
theorem Cur.seesJ {u : Value} {js : List Job} (C : Cur h0 h r vc n (L ++ [.own u 4 (js.map encJ)])) : Jobs h u js := by
  obtain ⟨a, s, h1, h2, H⟩ := C
  exact H.sees (L.length + 1) (by rw [List.getElem?_cons_succ]; exact snoc_get)
theorem Cur.putJ {u : Value} {js : List Job} (C : Cur h0 h r vc n (L ++ [.own u 4 (js.map encJ)])) {k : Nat} (hk : k < js.length) (j : Job) : ∃ h', storeP P h t_impl_Job (jv j) (.pointer (some (addP (base u) (k * 4)))) = some h' ∧ Cur h0 h' r vc n (L ++ [.own u 4 ((js.set k j).map encJ)]) := by
  obtain ⟨a, s, h1, h2, H⟩ := C
  obtain ⟨h', g1, g2, _⟩ := put_J H (L.length + 1) (by rw [List.getElem?_cons_succ]; exact snoc_get) hk j
  refine ⟨h', g1, a, s, h1, h2, ?_⟩
  rw [List.set_cons_succ, List.set_append_right (h := Nat.le_refl _), Nat.sub_self] at g2
  exact g2
theorem Cur.nil (C : Cur h0 h r vc n L) (α : Type) (enc : α → List Value) (sz : Nat) : Cur h0 h r vc n (L ++ [.own (.slice none 0 0) sz (([] : List α).map enc)]) := by
  obtain ⟨a, s, h1, h2, H⟩ := C
  exact ⟨a, s, h1, h2, H.call List.prefix_rfl (by simpa using Own.nil)⟩
theorem someJobs_run (B : By h0 vc) (C : Cur h0 h r vc n L) (hn : n ≤ 2 ^ 20) {b : Bool} {most : Nat} (hm : most ≤ 8) : RunsC P G n_spec_l1Cur_someJobs [.pointer (some ⟨r, 0, some 3⟩), .bool b, .int .i64 most] h fun v h' => ∃ js : List Job, js.length ≤ 9 ∧ Cur h0 h' r vc (n + 200) (L ++ [.own v 4 (js.map encJ)]) := by
  refine hideC fun K hK => enter_run e_spec_l1Cur_someJobs (by simp) ?_
  simp -implicitDefEqProofs
  refine CL_post (among_run B (C.lit [3, 4, 5, 2, 6, 1, 0]) (by omega) snoc_get (by simp) (by simp)) fun v h1 ⟨x, ev, hx, C1'⟩ => ?_
  subst ev
  have hx2 : 0 ≤ x ∧ x ≤ 6 := by
    simp only [List.mem_cons, List.not_mem_nil, or_false] at hx
    omega
  have C1 := C1'.weak
  obtain ⟨X, hX, hX2⟩ : ∃ X : Int, X = x ∧ 0 ≤ X ∧ X ≤ 9 := ⟨x, rfl, by omega, by omega⟩
  by_cases c : (6 : Int) < most
  case' neg =>
    rw [← hX]
    clear hX
    have C2 : Cur h0 h1 r vc (n + 6) L := C1.mono (by omega)
    obtain ⟨h2, hh2⟩ : ∃ h2, h2 = h1 := ⟨_, rfl⟩
    have c' : ¬ 6 < most := by omega
    simp -implicitDefEqProofs [c, c']
    rw [← hh2] at C2 ⊢
  case' pos =>
    clear hX hX2
    have c' : 6 < most := by omega
    simp -implicitDefEqProofs [c, c']
    refine CL_post (one_run B C1 (by omega) (k := 6) (by omega)) fun v h2 ⟨b2, ev, C1''⟩ => ?_
    subst ev
    clear X
    cases b2
    case' false =>
      obtain ⟨X, hX, hX2⟩ : ∃ X : Int, X = x ∧ 0 ≤ X ∧ X ≤ 9 := ⟨x, rfl, by omega, by omega⟩
      rw [← hX]
      clear hX
      have C2 : Cur h0 h2 r vc (n + 6) L := C1''.mono (by omega)
      simp -implicitDefEqProofs
    case' true =>
      simp -implicitDefEqProofs
      refine CL_post (pick_run B C1'' (by omega) (k := 2) (by omega)) fun v h2 ⟨y, ev, y0, _, y1, C2'⟩ => ?_
      subst ev
      have y2 := y1 (by omega)
      have w7 : IntKind.i64.wrap (7 + y) = 7 + y := by rw [wrap_ok] <;> omega
      obtain ⟨X, hX, hX2⟩ : ∃ X : Int, X = 7 + y ∧ 0 ≤ X ∧ X ≤ 9 := ⟨7 + y, rfl, by omega, by omega⟩
      have C2 : Cur h0 h2 r vc (n + 6) L := C2'.mono (by omega)
      simp -implicitDefEqProofs [w7]
      rw [← hX]
  all_goals
    refine R_loopO (fun m st h' => ∃ (js : List Job) (u : Value), st = [(0, .pointer (some ⟨r, 0, some 3⟩)), (1, .bool b), (2, .int .i64 most), (7, u), (8, .int .i64 m)] ∧ js.length + m ≤ 9 ∧ Cur h0 h' r vc (n + 6 + 8 * js.length) (L ++ [.own u 4 (js.map encJ)])) (fun I hI m st h' => ?_) (n := X.toNat) ⟨[], .slice none 0 0, by simp; omega, by simp; omega, C2.nil Job encJ 4⟩
    rintro ⟨js, u, rfl, hj, C3⟩
    obtain ⟨ua, uc, rfl⟩ : ∃ a c, u = .slice a js.length c := C3.seesJ.shapeT
    by_cases c1 : 0 < m
    case' pos =>
      by_cases c2 : js.length < most
      case pos =>
        have w1 : IntKind.i64.wrap ((m : Int) - 1) = ((m - 1 : Nat) : Int) := by rw [wrap_ok] <;> omega
        have c1' : (0 : Int) < m := by omega
        have c2' : (js.length : Int) < most := by omega
        simp -implicitDefEqProofs [c1, c1', c2, c2']
        refine CL_post (job_run B C3 (by omega) (b := b)) fun v h4 ⟨j, ev, C4⟩ => ?_
        subst ev
        obtain ⟨u', h5, ha, C5⟩ := C4.pushJ j (by omega)
        simp -implicitDefEqProofs [ha, w1]
        exact ⟨m - 1, by omega, on hI ⟨js ++ [j], u', rfl, by simp; omega, by
          have e : n + 6 + 8 * (js ++ [j]).length = n + 6 + 8 * js.length + 8 := by simp; omega
          rw [e]; exact C5⟩⟩
      case' neg =>
        have c1' : (0 : Int) < m := by omega
        have c2' : ¬ (js.length : Int) < most := by omega
        simp -implicitDefEqProofs [c1, c1', c2, c2']
    case' neg =>
      have c1' : ¬ (0 : Int) < m := by omega
      simp -implicitDefEqProofs [c1, c1']
    all_goals
      by_cases c3 : 0 < js.length
      case' neg =>
        have c3' : ¬ (0 : Int) < js.length := by omega
        have C5 : Cur h0 h' r vc (n + 86) (L ++ [.own (.slice ua js.length uc) 4 (js.map encJ)]) := C3.mono (by omega)
        have hl5 : js.length ≤ 9 := by omega
        simp -implicitDefEqProofs [c3, c3']
      case' pos =>
        have c3' : (0 : Int) < js.length := by omega
        simp -implicitDefEqProofs [c3, c3']
        refine CL_post (one_run B C3 (by omega) (k := 20) (by omega)) fun v h4 ⟨b3, ev, C4⟩ => ?_
        subst ev
        cases b3
        case' false =>
          have C5 : Cur h0 h4 r vc (n + 86) (L ++ [.own (.slice ua js.length uc) 4 (js.map encJ)]) := C4.mono (by omega)
          have hl5 : js.length ≤ 9 := by omega
          simp -implicitDefEqProofs
        case' true =>
          simp -implicitDefEqProofs
          refine CL_post (pick_run B C4 (by omega) (k := js.length) (by omega)) fun v h5 ⟨q, ev, q0, _, q1, C5'⟩ => ?_
          subst ev
          obtain ⟨k, rfl⟩ : ∃ k : Nat, q = k := ⟨q.toNat, by omega⟩
          have hk : k < js.length := by have := q1 (by omega); omega
          obtain ⟨y, hy, _⟩ := drop_at hk
          have ly := load_J C5'.seesJ hy
          simp -implicitDefEqProofs [-indexAddrP_some, ly]
          refine CL_post (spoiltJob_run B C5' (by omega) (j := y)) fun v h6 ⟨j', ev, C6'⟩ => ?_
          subst ev
          have ix := (load_J C6'.seesJ hy).1
          obtain ⟨h7, s7, C7⟩ := C6'.putJ hk j'
          have C5 : Cur h0 h7 r vc (n + 86) (L ++ [.own (.slice ua js.length uc) 4 ((js.set k j').map encJ)]) := C7.mono (by omega)
          have hl5 : (js.set k j').length ≤ 9 := by rw [List.length_set]; omega
          simp -implicitDefEqProofs [-indexAddrP_some, ix, s7]
      all_goals
        refine CL_post (one_run B C5 (by omega) (k := 60) (by omega)) fun v h8 ⟨b4, ev, C8⟩ => ?_
        subst ev
        cases b4
        case false =>
          simp -implicitDefEqProofs
          exact onK hK ⟨_, hl5, C.gcO (C8.mono (by omega)) (fun h => h)⟩
        case true =>
          simp -implicitDefEqProofs
          refine R_loopO (fun m st h' => ∃ (js : List Job) (u : Value), st = [(0, .pointer (some ⟨r, 0, some 3⟩)), (1, .bool b), (7, u)] ∧ js.length + m = 9 ∧ Cur h0 h' r vc (n + 88 + 8 * js.length) (L ++ [.own u 4 (js.map encJ)])) (fun I2 hI2 m2 st h' => ?_) (n := 9 - js.length) ⟨_, _, by simp, ?_, C8.mono (by omega)⟩
          · rintro ⟨js2, u2, rfl, hj2, C9⟩
            obtain ⟨ub, ud, rfl⟩ : ∃ a c, u2 = .slice a js2.length c := C9.seesJ.shapeT
            by_cases c9 : js2.length < 9
            · have c9' : (js2.length : Int) < 9 := by omega
              simp -implicitDefEqProofs [c9, c9']
              refine CL_post (job_run B C9 (by omega) (b := b)) fun v h10 ⟨j, ev, C10⟩ => ?_
              subst ev
              obtain ⟨u', h11, ha, C11⟩ := C10.pushJ j (by omega)
              simp -implicitDefEqProofs [ha]
              exact ⟨m2 - 1, by omega, on hI2 ⟨js2 ++ [j], u', rfl, by simp; omega, by
                have e : n + 88 + 8 * (js2 ++ [j]).length = n + 88 + 8 * js2.length + 8 := by simp; omega
                rw [e]; exact C11⟩⟩
            · have c9' : ¬ (js2.length : Int) < 9 := by omega
              simp -implicitDefEqProofs [c9, c9']
              exact onK hK ⟨js2, by omega, C.gcO (C9.mono (by omega)) (fun h => h)⟩
          · first | omega | (rw [List.length_set]; omega)
end
end Go.Pm.PP

/- Draws: orders; the draw of jobs, an order and an objective. -/
set_option linter.unusedVariables false
set_option linter.unusedSimpArgs false
set_option maxRecDepth 4000
set_option maxHeartbeats 16000000
namespace Go.Pm.PP
open Go.Pm Go.Proofs Go.Pm.PE
theorem newOk_of {h h' : Hp} (hp : h <+: h') (n : NR h.length h') : newOk h h' := by
  refine ⟨hp, ?_⟩
  rw [List.all_eq_true]
  intro x hx
  cases x with
  | none => rfl
  | some x =>
    obtain ⟨k, hk⟩ := List.getElem?_of_mem hx
    rw [List.getElem?_drop] at hk
    simp [n.2 _ x (by omega) hk]
section
variable {h0 h : Hp} {r n : Nat} {vc : Value} {L : List Asn}
theorem jobs_run (B : By h0 vc) (C : Cur h0 h r vc n L) (hn : n ≤ 2 ^ 19) : RunsC P G n_spec_l1Cur_jobs [.pointer (some ⟨r, 0, some 3⟩)] h fun v h' => ∃ js : List Job, js.length ≤ 9 ∧ Cur h0 h' r vc (n + 202) (L ++ [.own v 4 (js.map encJ)]) := by
  refine hideC fun K hK => enter_run e_spec_l1Cur_jobs (by simp) ?_
  simp -implicitDefEqProofs
  refine CL_post (one_run B C (by omega) (k := 2) (by omega)) fun v h1 ⟨b, ev, C1⟩ => ?_
  subst ev
  simp -implicitDefEqProofs
  refine CL_post (someJobs_run B C1 (by omega) (b := b) (most := 6) (by omega)) fun v h2 ⟨js, hl, C2⟩ => ?_
  obtain ⟨ua, uc, rfl⟩ : ∃ a c, v = .slice a js.length c := C2.seesJ.shapeT
  simp -implicitDefEqProofs
  exact onK hK ⟨js, hl, C.gcO (C2.mono (by omega)) (fun h => h)⟩
theorem Cur.seesI {u : Value} {xs : List Int} (C : Cur h0 h r vc n (L ++ [.own u 1 (xs.map encI)])) : Ints h u xs := by
  obtain ⟨a, s, h1, h2, H⟩ := C
  exact H.sees (L.length + 1) (by rw [List.getElem?_cons_succ]; exact snoc_get)
theorem Cur.join {h1 : Hp} {A : Asn} (C : Cur h0 h r vc n L) (D : Holds h h1 [A]) : Cur h0 h1 r vc n (L ++ [A]) := by
  obtain ⟨a, s, g1, g2, H⟩ := C
  exact ⟨a, s, g1, g2, H.join D⟩
end
end Go.Pm.PP

/- Values, best orders and exchanges, as the programs export them. -/
set_option linter.unusedVariables false
set_option linter.unusedSimpArgs false
set_option maxRecDepth 4000
set_option maxHeartbeats 8000000
namespace Go.Pm.PP
open Go.Pm Go.Proofs Go.Pm.PE
/-! ### bounds -/
theorem endGo_bd {js : List Job} (hg : goodL js = true) : ∀ {xs : List Int} {now : Int} {E : List Int} {k : Nat}, inN js.length xs → 0 ≤ now → now ≤ 550 * k → (∀ e, e ∈ E → 0 ≤ e ∧ e ≤ 550 * (k + xs.length : Nat)) → ∀ e, e ∈ endGo js xs now E → 0 ≤ e ∧ e ≤ 550 * (k + xs.length : Nat)
  | [], now, E, k, _, _, _, hE, e, he => hE e he
  | x :: r, now, E, k, hin, h0, h1, hE, e, he => by
    obtain ⟨i, hi, hil, hy⟩ := jA_get rfl (hin x (List.mem_cons_self ..))
    have jb := job_of (job_at hg hy)
    rw [endGo] at he
    have := endGo_bd hg (xs := r) (now := max now (jA js x).r + (jA js x).t) (k := k + 1) (fun y hy => hin y (List.mem_cons_of_mem _ hy)) (by omega) (by omega) (fun e he => by
      rcases List.mem_or_eq_of_mem_set he with g | g
      · have := hE e g
        simp only [List.length_cons] at this
        omega
      · omega) e he
    simp only [List.length_cons]
    omega
def jOk (js : List Job) : Bool := decide (js.length ≤ 8) && goodL js
def okB (js : List Job) (o : Int) : Bool := jOk js && inB o 1 8
theorem jOk_of {js : List Job} (h : jOk js = true) : js.length ≤ 8 ∧ goodL js = true := by
  rw [jOk, Bool.and_eq_true, decide_eq_true_eq] at h; exact h
theorem inB_of {o : Int} (h : inB o 1 8 = true) : 1 ≤ o ∧ o ≤ 8 := by simpa [inB] using h
theorem ord_ok {n : Nat} {xs : List Int} (hn : n ≤ 8) (o : Ord n xs) : l2OrderL n xs = true := by
  have := order_eq (n := n) (xs := xs) hn
  have wn : w64 ((n : Int) - 1) = (n : Int) - 1 := by unfold w64; rw [wrap_ok] <;> omega
  have h1 : arGo n [] xs = true := (arGo_iff wn).2 ⟨o.inn, o.nd, by simp⟩
  have h2 : ((xs.length : Int) == n) = true := by rw [beq_iff_eq, o.len]
  rw [h1, h2, Bool.true_and, Bool.true_and] at this
  rw [l2OrderL, h2, ← this]
  simp [inB]; omega
theorem okB_of {js : List Job} {o : Int} (h : okB js o = true) : js.length ≤ 8 ∧ goodL js = true ∧ (1 ≤ o ∧ o ≤ 8) := by
  rw [okB, Bool.and_eq_true] at h
  exact ⟨(jOk_of h.1).1, (jOk_of h.1).2, inB_of h.2⟩
theorem isObjective_run {h : Hp} {x : Int} : Ret P G n_impl_isObjective [.int .i64 x] h (.bool (inB x 1 8)) h := by
  refine enter_run e_impl_isObjective (by simp) ?_
  simp -implicitDefEqProofs [CL_ret within_run]
section
variable {h : Hp} {v u : Value} {js : List Job} {xs : List Int} {o : Int}
theorem good_run (hj : Jobs h v js) (hl : js.length ≤ 2 ^ 40) : Ret P G n_spec_l2Good [v] h (.bool (jOk js)) h := l2Good_run hj hl
theorem isJobs_run (hj : Jobs h v js) (hl : js.length ≤ 2 ^ 40) : Ret P G n_impl_IsJobs [v] h (.bool (jOk js)) h := IsJobs_run hj hl
theorem isScheduled_run (hj : Jobs h v js) (hu : Ints h u xs) (hl : js.length ≤ 2 ^ 40) (hx : xs.length ≤ 2 ^ 40) : Ret P G n_impl_isScheduled [v, u] h (.bool (jOk js && l2OrderL js.length xs)) h := by
  refine enter_run e_impl_isScheduled (by simp) ?_
  have r1 := isJobs_run hj hl
  have r2 := isOrder_run (n := js.length) hu hx
  obtain ⟨oj, cj, rfl⟩ := hj.shapeT
  cases c1 : jOk js
  · simp -implicitDefEqProofs [CL_ret r1, c1]
  · have hn := (jOk_of c1).1
    have e : (((xs.length : Int) == (js.length : Nat)) && arGo js.length [] xs) = l2OrderL js.length xs := by
      rw [order_eq hn, l2OrderL, show inB js.length 0 8 = true by simp [inB]; omega, Bool.true_and]
    rw [e] at r2
    simp -implicitDefEqProofs [CL_ret r1, c1, CL_ret r2]
def bR (js : List Job) (o : Int) : Sr := if okB js o = true then bestR (valX o js) js.length else sr0
theorem bR_v {js : List Job} {o : Int} (h : okB js o = true) : (bR js o).v = bestV o js := by rw [bR, if_pos h]; rfl
end
end Go.Pm.PP

/- Best values, counts, and exchanges of neighbours, as the programs export them. -/
set_option linter.unusedVariables false
set_option linter.unusedSimpArgs false
set_option maxRecDepth 4000
set_option maxHeartbeats 8000000
namespace Go.Pm.PP
open Go.Pm Go.Proofs Go.Pm.PE
section
variable {h : Hp} {v u : Value} {js : List Job} {xs ys : List Int} {o : Int}
theorem implBestValue_run (hj : Jobs h v js) (hl : js.length ≤ 2 ^ 40) : Ret P G n_impl_BestValue [v, .int .i64 o] h (.tuple #[.int .i64 (bR js o).v, .bool (okB js o)]) h := by
  refine enter_run e_impl_BestValue (by simp) ?_
  have r1 := isJobs_run hj hl
  have hjs := hj
  obtain ⟨oj, cj, rfl⟩ := hj.shapeT
  cases c1 : jOk js
  · simp -implicitDefEqProofs [CL_ret r1, CH_at r1, c1, bR, okB, sr0]
  · cases c2 : inB o 1 8
    · simp -implicitDefEqProofs [CL_ret r1, CH_at r1, c1, CL_ret isObjective_run, CH_at isObjective_run, c2, bR, okB, sr0]
    · have c3 : okB js o = true := by rw [okB, c1, c2]; rfl
      obtain ⟨hn, hg, ho⟩ := okB_of c3
      simp -implicitDefEqProofs [CL_ret r1, CH_at r1, c1, CL_ret isObjective_run, CH_at isObjective_run, c2]
      refine CL_post (best_run hjs hg hn ho) fun w h1 ⟨hp1, vf, ev, s1⟩ => ?_
      subst ev
      simp -implicitDefEqProofs
      exact ⟨⟨(bR_v c3).symm, c3⟩, gcP hp1 rfl⟩
/-! ### exchanges -/
end
end Go.Pm.PP

/- Plain jobs, sets of digits, due orders, by both. -/
set_option linter.unusedVariables false
set_option linter.unusedSimpArgs false
set_option maxRecDepth 4000
set_option maxHeartbeats 8000000
namespace Go.Pm.PP
open Go.Pm Go.Proofs Go.Pm.PE
/-! ### no releases -/
def plainL (js : List Job) : Bool := js.all fun j => j.r == 0
def plOk (js : List Job) : Bool := jOk js && plainL js
theorem plOk_of {js : List Job} (h : plOk js = true) : js.length ≤ 8 ∧ goodL js = true ∧ plainL js = true := by
  rw [plOk, Bool.and_eq_true] at h
  exact ⟨(jOk_of h.1).1, (jOk_of h.1).2, h.2⟩
theorem jA_in {js : List Job} {x : Int} : jA js x ∈ js ∨ jA js x = ⟨0, 0, 0, 0⟩ := by
  unfold jA
  cases h : js[x.toNat]? with
  | none => right; rfl
  | some j => left; exact List.mem_of_getElem? h
theorem plOk_pl {js : List Job} (h : plOk js = true) : Pl js := by
  obtain ⟨_, hg, hp⟩ := plOk_of h
  constructor
  · intro x
    rcases @jA_in js x with g | g
    · simpa using List.all_eq_true.1 hp _ g
    · rw [g]
  · intro x
    rcases @jA_in js x with g | g
    · have := job_of (List.all_eq_true.1 hg _ g); omega
    · rw [g]; exact Int.le_refl _
theorem good_tm {js : List Job} (hg : goodL js = true) : Tm js := fun x h1 h2 => by
  obtain ⟨i, hi, hil, hy⟩ := jA_get (js := js) (x := x) rfl ⟨h1, h2⟩
  exact (job_of (job_at hg hy)).1.1
theorem load_JX {h : Hp} {v : Value} {js : List Job} {x : Int} (hv : Jobs h v js) (hx : 0 ≤ x ∧ x < js.length) :
    indexAddrP P h t_S_impl_Job v (.int .i64 x) = some (.pointer (some (addP (base v) (x.toNat * 4)))) ∧ loadP P h t_impl_Job (.pointer (some (addP (base v) (x.toNat * 4)))) = some (jv (jA js x)) ∧
    loadP P h t_int (.pointer (some (addP (addP (base v) (x.toNat * 4)) 0))) = some (.int .i64 (jA js x).t) ∧
    loadP P h t_int (.pointer (some (addP (addP (base v) (x.toNat * 4)) 1))) = some (.int .i64 (jA js x).w) ∧
    loadP P h t_int (.pointer (some (addP (addP (base v) (x.toNat * 4)) 2))) = some (.int .i64 (jA js x).r) ∧
    loadP P h t_int (.pointer (some (addP (addP (base v) (x.toNat * 4)) 3))) = some (.int .i64 (jA js x).d) := by
  obtain ⟨k, hk, hkl, hy⟩ := jA_get (js := js) rfl hx
  have := load_J hv hy
  rw [← hk] at this
  rw [show x.toNat = k by omega]
  exact this
section
variable {h : Hp} {v : Value} {js : List Job}
theorem isPlain_run (hj : Jobs h v js) (hn : js.length ≤ 2 ^ 40) : Ret P G n_impl_isPlain [v] h (.bool (plainL js)) h := by
  refine enter_run e_impl_isPlain (by simp) ?_
  have hjs := hj
  obtain ⟨oa, c, rfl⟩ := hj.shapeT
  simp -implicitDefEqProofs
  refine R_loopO (fun m s h' => ∃ i : Nat, i + m = js.length ∧ s = [(5, .slice oa js.length c), (6, .int .i64 js.length), (7, .int .i64 i)] ∧ h <+: h' ∧ plainL js = plainL (js.drop i)) (fun I hI m s h' => ?_) ⟨0, Nat.zero_add _, by simp⟩
  rintro ⟨i, hi, rfl, hp, hx⟩
  by_cases hlt : i < js.length
  · obtain ⟨y, hy, hd⟩ := drop_at hlt
    have e : plainL (y :: js.drop (i + 1)) = ((y.r == 0) && plainL (js.drop (i + 1))) := rfl
    rw [hd, e] at hx
    have lr := load_J (hjs.pre hp) hy
    by_cases c1 : y.r = 0
    · rw [show (y.r == 0) = true by simpa using c1, Bool.true_and] at hx
      simp -implicitDefEqProofs [-indexAddrP_some, hlt, lr, c1, winc hlt hn]
      exact ⟨m - 1, by omega, on hI ⟨i + 1, by omega, rfl, hp.trans (List.prefix_append ..), hx⟩⟩
    · rw [nb c1, Bool.false_and] at hx
      simp -implicitDefEqProofs [-indexAddrP_some, hlt, lr, nt c1, hx]
      exact gcP (hp.trans (List.prefix_append ..)) rfl
  · rw [List.drop_eq_nil_of_le (by omega)] at hx
    have hx : plainL js = true := hx
    simp -implicitDefEqProofs [hlt, hx]
    exact gcP hp rfl
theorem IsPlain_run (hj : Jobs h v js) (hn : js.length ≤ 2 ^ 40) : Ret P G n_impl_IsPlain [v] h (.bool (plOk js)) h := by
  refine enter_run e_impl_IsPlain (by simp) ?_
  have r1 := isJobs_run hj hn
  have r2 := isPlain_run hj hn
  obtain ⟨oa, c, rfl⟩ := hj.shapeT
  cases c1 : jOk js
  · simp -implicitDefEqProofs [CL_ret r1, c1, plOk]
  · simp -implicitDefEqProofs [CL_ret r1, c1, plOk, CL_ret r2]
end
/-! ### comparisons -/
section
variable {h : Hp} {vj : Value} {js : List Job} {r : Nat} {a b : Int}
theorem onTime_1_run (J : Jobs h vj js) (hb : h[r]? = some (some ⟨[vj], 0, false⟩)) (ha : 0 ≤ a ∧ a < js.length) (hb' : 0 ≤ b ∧ b < js.length) :
    Ret P G n_impl_onTime_1 [.int .i64 a, .int .i64 b, .pointer (some ⟨r, 0, some 1⟩)] h (.bool (dAh js a b)) h := by
  refine enter_run e_impl_onTime_1 (by simp) ?_
  have Js := J
  obtain ⟨oj, cj, rfl⟩ := J.shapeT
  have lb := load_pre (n := 1) List.prefix_rfl hb rfl
  simp -implicitDefEqProofs [-indexAddrP_some, lb, load_JX Js ha, load_JX Js hb', dAh]
end
/-! ### digits -/
theorem shr_eq {c i : Nat} (hc : c < 2 ^ 60) : shiftI .shr .i64 c i = some (.int .i64 ((c / 2 ^ i : Nat) : Int)) := by
  have h0 : ¬ (i : Int) < 0 := by omega
  simp only [shiftI, if_neg h0, Int.toNat_natCast]
  congr 2
  have e1 : ((2 : Int) ^ min i IntKind.i64.bits) = ((2 ^ min i IntKind.i64.bits : Nat) : Int) := by simp
  rw [e1, Int.fdiv_eq_ediv_of_nonneg _ (Int.natCast_nonneg _), ← Int.natCast_ediv]
  congr 1
  have hb : IntKind.i64.bits = 64 := rfl
  rw [hb]
  by_cases g : i ≤ 64
  · rw [Nat.min_eq_left g]
  · rw [Nat.min_eq_right (by omega), Nat.div_eq_of_lt (by omega), Nat.div_eq_of_lt]
    have : (2 : Nat) ^ 64 ≤ 2 ^ i := Nat.pow_le_pow_right (by omega) (by omega)
    omega
/-- A digit, as the machine has it. -/
theorem bit_val {c i : Nat} (hc : c < 2 ^ 60) : IntKind.i64.wrap ↑(((c : Int) / 2 ^ i % 2 ^ IntKind.i64.bits).toNat &&& (1 % 2 ^ IntKind.i64.bits : Int).toNat) = if c.testBit i = true then 1 else 0 := by
  have hb : IntKind.i64.bits = 64 := rfl
  have e1 : (1 % 2 ^ IntKind.i64.bits : Int).toNat = 1 := by rw [hb]; decide
  have e2 : ((c : Int) / 2 ^ i % 2 ^ IntKind.i64.bits).toNat = c / 2 ^ i := by
    have e3 : ((c : Int) / 2 ^ i) = ((c / 2 ^ i : Nat) : Int) := by simp
    have e4 : c / 2 ^ i ≤ c := Nat.div_le_self ..
    have e5 : ((c / 2 ^ i : Nat) : Int) < 2 ^ 64 := by have : ((c / 2 ^ i : Nat) : Int) ≤ (c : Int) := Int.ofNat_le.2 e4; omega
    rw [e3, hb, Int.emod_eq_of_lt (Int.natCast_nonneg _) e5, Int.toNat_natCast]
  rw [e1, e2, Nat.and_one_is_mod, ← Nat.shiftRight_eq_div_pow]
  have e5 : c.testBit i = decide (c >>> i % 2 = 1) := by rw [Nat.testBit_eq_decide_div_mod_eq, Nat.shiftRight_eq_div_pow]
  rw [e5]
  have : c >>> i % 2 < 2 := Nat.mod_lt _ (by omega)
  by_cases g : c >>> i % 2 = 1
  · rw [g, wrap_ok (by omega) (by omega)]; simp
  · have : c >>> i % 2 = 0 := by omega
    rw [this, wrap_ok (by omega) (by omega)]; simp
end Go.Pm.PP

/- Due orders and timely sets, by both. -/
set_option linter.unusedVariables false
set_option linter.unusedSimpArgs false
set_option maxRecDepth 4000
set_option maxHeartbeats 8000000
namespace Go.Pm.PP
open Go.Pm Go.Proofs Go.Pm.PE
/-- Times and dates are not too great. -/
structure Bd (js : List Job) : Prop where
  t : ∀ x, 0 ≤ (jA js x).t ∧ (jA js x).t ≤ 2 ^ 20
  d : ∀ x, -(2 ^ 20) ≤ (jA js x).d ∧ (jA js x).d ≤ 2 ^ 20
theorem good_bd {js : List Job} (hg : goodL js = true) : Bd js := by
  constructor
  all_goals
    intro x
    rcases @jA_in js x with g | g
    · have := job_of (List.all_eq_true.1 hg _ g); omega
    · rw [g]; simp
section
variable {h : Hp} {vj v : Value} {js : List Job} {xs : List Int}
theorem onTime_run (J : Jobs h vj js) (X : Ints h v xs) (hin : inN js.length xs) (hn : xs.length ≤ 2 ^ 10) (bd : Bd js) : Ret P G n_impl_onTime [vj, v] h (.bool (timGo js 0 (sortB (dAh js) xs))) h := by
  refine enter_run e_impl_onTime (by simp) ?_
  have Js := J
  obtain ⟨oj, cj, rfl⟩ := J.shapeT
  have H0 := (Holds.start (h := h)).alloc [.slice oj js.length cj]
  have Xs := X
  obtain ⟨ox, cx, rfl⟩ := X.shapeT
  simp -implicitDefEqProofs
  have ps := sortB_perm (ah := dAh js) (l := xs)
  refine CL_post (sortedBy_run (ah := dAh js) (Xs.pre (List.prefix_append ..)) (by omega) fun h2 hp2 a b ha hb => ?_) fun v2 h2 ⟨hp2, ho2⟩ => ?_
  · exact onTime_1_run (Js.pre ((List.prefix_append ..).trans hp2)) ((H0.ext hp2).box 0 rfl) (hin a ha) (hin b hb)
  have hp := (List.prefix_append h [some (⟨[.slice oj js.length cj], 0, false⟩ : Row)]).trans hp2
  have S2 : Ints h2 v2 (sortB (dAh js) xs) := ho2.sees
  have hins : inN js.length (sortB (dAh js) xs) := fun x hx => hin x (ps.mem_iff.1 hx)
  have hl : (sortB (dAh js) xs).length = xs.length := sortB_len
  generalize sortB (dAh js) xs = ys at *
  have S2s := S2
  obtain ⟨oy, cy, rfl⟩ := S2.shapeT
  have lb := (H0.ext hp2).bl (P := P) 0 1 rfl rfl
  simp -implicitDefEqProofs
  refine R_loopO (fun m s h' => ∃ (i : Nat) (now : Int), i + m = ys.length ∧ s = [(2, .pointer (some ⟨h.length, 0, some 1⟩)), (5, .int .i64 now), (10, .slice oy ys.length cy), (11, .int .i64 ys.length), (12, .int .i64 i)] ∧ h' = h2 ∧ 0 ≤ now ∧ now ≤ i * 2 ^ 20 ∧ timGo js 0 ys = timGo js now (ys.drop i)) (fun I hI m s h' => ?_) (n := ys.length)
    ⟨0, 0, Nat.zero_add _, by simp, rfl, by omega, by omega, by simp⟩
  rintro ⟨i, now, hi, rfl, rfl, n0, n1, hx⟩
  by_cases hlt : i < ys.length
  · obtain ⟨y, hy, hd⟩ := drop_at hlt
    rw [hd, timGo] at hx
    have ly := load_I S2s hy
    have bt := bd.t y
    have lj := load_JX (Js.pre hp) (hins y (List.mem_of_getElem? hy))
    have w1 : IntKind.i64.wrap (now + (jA js y).t) = now + (jA js y).t := by rw [wrap_ok] <;> omega
    by_cases c1 : now + (jA js y).t ≤ (jA js y).d
    · have c2 : ¬ (jA js y).d < now + (jA js y).t := by omega
      rw [decide_eq_true c1, Bool.true_and] at hx
      simp -implicitDefEqProofs [-indexAddrP_some, hlt, ly, lb, lj, w1, c1, c2, winc hlt (by omega)]
      exact ⟨m - 1, by omega, on hI ⟨i + 1, _, by omega, rfl, rfl, by omega, by omega, hx⟩⟩
    · have c2 : (jA js y).d < now + (jA js y).t := by omega
      rw [decide_eq_false c1, Bool.false_and] at hx
      simp -implicitDefEqProofs [-indexAddrP_some, hlt, ly, lb, lj, w1, c1, c2, hx]
      exact gcP hp rfl
  · rw [List.drop_eq_nil_of_le (by omega), timGo] at hx
    simp -implicitDefEqProofs [hlt, hx]
    exact gcP hp rfl
end
end Go.Pm.PP

/- The greatest lateness and delays, by both; the draw. -/
set_option linter.unusedVariables false
set_option linter.unusedSimpArgs false
set_option maxRecDepth 4000
set_option maxHeartbeats 8000000
namespace Go.Pm.PP
open Go.Pm Go.Proofs Go.Pm.PE
theorem upTo_in {n : Nat} : inN n (upTo n) := fun x hx => mem_upTo.1 hx
theorem ord_perm {n : Nat} {xs : List Int} (o : Ord n xs) : xs.Perm (upTo n) := (List.perm_ext_iff_of_nodup o.nd (upTo_nodup n)).2 fun x => by
  rw [mem_upTo]
  refine ⟨fun hx => o.inn x hx, fun hx => ?_⟩
  have := o.all (i := x.toNat) (by omega)
  rwa [show ((x.toNat : Nat) : Int) = x by omega] at this
theorem ord_prm {n : Nat} {xs : List Int} (o : Ord n xs) : Prm n xs := by
  have := ord_perm o
  rwa [upTo, List.range_eq_range'] at this
section
variable {h : Hp} {vj v : Value} {js : List Job} {xs : List Int}
theorem shl_eq {i : Nat} (hi : i ≤ 60) : shiftI .shl .i64 1 i = some (.int .i64 ((2 ^ i : Nat) : Int)) := by
  have h0 : ¬ (i : Int) < 0 := by omega
  have hb : IntKind.i64.bits = 64 := rfl
  simp only [shiftI, if_neg h0, Int.toNat_natCast]
  rw [hb, Nat.min_eq_left (by omega), Int.one_mul]
  have e1 : ((2 : Int) ^ i) = ((2 ^ i : Nat) : Int) := by simp
  have e2 : 2 ^ i ≤ 2 ^ 60 := Nat.pow_le_pow_right (by omega) hi
  rw [e1]
  generalize 2 ^ i = d at e2 ⊢
  rw [wrap_ok (by omega) (by omega)]
/-! ### with a delay -/
end
/-! ### in plain terms -/
/-- Timely after a delay along an order of jobs. -/
def timD (js : List Job) (dl : Int) : Int → List Int → Bool
  | _, [] => true
  | now, x :: r => decide (now + (jA js x).t ≤ (jA js x).d + dl) && timD js dl (now + (jA js x).t) r
theorem timD_lat {js : List Job} (p : Pl js) {dl : Int} : ∀ {xs : List Int} {now m : Int}, 0 ≤ now → m ≤ dl → (timD js dl now xs = true ↔ latGo js now m xs ≤ dl)
  | [], now, m, _, hm => by simp [timD, latGo, hm]
  | x :: r, now, m, h, hm => by
    have := p.t x
    rw [timD, latGo, p.endAt h, Bool.and_eq_true, decide_eq_true_eq]
    have mono : ∀ {xs : List Int} {now m : Int}, m ≤ latGo js now m xs := by
      intro xs
      induction xs with
      | nil => intro now m; exact Int.le_refl _
      | cons x xs ih =>
        intro now m
        rw [latGo]
        exact Int.le_trans (by omega) ih
    constructor
    · rintro ⟨h1, h2⟩
      exact (timD_lat p (by omega) (by omega)).1 h2
    · intro hl
      have h1 := @mono r (now + (jA js x).t) (max m (now + (jA js x).t - (jA js x).d))
      have h2 : now + (jA js x).t ≤ (jA js x).d + dl := by omega
      exact ⟨h2, (timD_lat p (by omega) (by omega)).2 hl⟩
/-- The value of an order for the greatest lateness. -/
theorem valX_lat {js : List Job} (hok : plOk js = true) {xs : List Int} (o : Ord js.length xs) (hne : 0 < js.length) : valX 4 js xs = latGo js 0 (-(2 ^ 20)) xs := by
  obtain ⟨hn, hg, _⟩ := plOk_of hok
  refine val_lat (ord_prm o) ⟨(0 : Nat), o.all hne, ?_⟩
  have e0 : gE (endsL js xs) ((0 : Nat) : Int).toNat ∈ endsL js xs := by
    have : (0 : Nat) < (endsL js xs).length := by rw [endsL_len]; exact hne
    have := gE_get this
    exact List.mem_of_getElem? this
  have := endGo_bd hg (k := 0) o.inn (Int.le_refl 0) (by omega) (fun e he => by rw [List.eq_of_mem_replicate he]; omega) _ e0
  have := (good_bd hg).d ((0 : Nat) : Int)
  omega
end Go.Pm.PP

/- FnLateness in the small machine. -/
set_option linter.unusedVariables false
set_option linter.unusedSimpArgs false
set_option maxRecDepth 4000
set_option maxHeartbeats 8000000
namespace Go.Pm.PP
open Go.Pm Go.Proofs Go.Pm.PE
section
variable {h0 h : Hp} {r n : Nat} {vc : Value} {L : List Asn}
end
end Go.Pm.PP

/- Typed rules for slices: printed by a program of this work (wrap.py). -/
set_option linter.unusedVariables false
set_option linter.unusedSimpArgs false
set_option maxRecDepth 4000
namespace Go.Pm.PP
open Go.Pm Go.Proofs
def encQ (x : Int × Int) : List Value := [.int .i64 x.1, .int .i64 x.2]
theorem load_Q {h : Hp} {v : Value} {xs : List (Int × Int)} {i : Nat} {x : Int × Int} (hv : Sees h v 2 (xs.map encQ)) (hx : xs[i]? = some x) :
    indexAddrP P h t_S_A2_int v (.int .i64 i) = some (.pointer (some (addP (base v) (i * 2)))) ∧ loadP P h t_A2_int (.pointer (some (addP (base v) (i * 2)))) = some (.agg #[.int .i64 x.1, .int .i64 x.2]) ∧
    loadP P h t_int (.pointer (some (addP (addP (base v) (i * 2)) 0))) = some (.int .i64 x.1) ∧
    loadP P h t_int (.pointer (some (addP (addP (base v) (i * 2)) 1))) = some (.int .i64 x.2) := by
  have hi := (List.getElem?_eq_some_iff.1 hx).1
  have h1 := hv.indexT (P := P) u_S_A2_int i_A2_int (k := .i64) (j := i) (by omega) (by omega)
  rw [Int.toNat_natCast] at h1
  have fld : ∀ k, k < 2 → loadP P h t_int (.pointer (some (addP (addP (base v) (i * 2)) k))) = (encQ x)[k]? := by
    intro k hk
    have := hv.cellT (P := P) a_int i_int hx hk
    rw [← this]
    simp only [addP, Nat.add_assoc]
  exact ⟨h1, hv.aggT a_A2_int i_A2_int hx, fld 0 (by omega), fld 1 (by omega)⟩
theorem push_Q0 {h0 h : Hp} {L : List Asn} (H : Holds h0 h L) (i : Nat) {v : Value} {xs : List (Int × Int)} (hi : L[i]? = some (.own v 2 (xs.map encQ))) (x : Int × Int) (hn : xs.length ≤ 2 ^ 40) :
    ∃ v' h', appendP P (h ++ [some ⟨[.int .i64 x.1, .int .i64 x.2], 2, false⟩]) t_S_A2_int v (.slice (some ⟨h.length, 0, some 2⟩) 1 1) = some (v', h') ∧ Holds h0 h' (L.set i (.own v' 2 ((xs ++ [x]).map encQ))) ∧ Keeps (rowV v) h h' ∧ (rowV v = none → newOk (h ++ [some ⟨[.int .i64 x.1, .int .i64 x.2], 2, false⟩]) h') := by
  obtain ⟨v', h', g1, g2, g3, g4⟩ := (H.ext (List.prefix_append h [])).push (P := P) i (y := encQ x) (n := 2) hi u_S_A2_int e_t_A2_int z_t_A2_int s_t_A2_int (by omega) (by rw [b_t_A2_int]; omega) rfl rfl (by simp [encQ]) (by rw [b_t_A2_int]; simp; omega)
  rw [show xs.map encQ ++ [encQ x] = (xs ++ [x]).map encQ by simp] at g2
  exact ⟨v', h', by simpa [encQ] using g1, g2, Keeps.app.trans g3, by simpa [encQ] using g4⟩
end Go.Pm.PP

/- Rule differences, ruled orders and inversions, by both. -/
set_option linter.unusedVariables false
set_option linter.unusedSimpArgs false
set_option maxRecDepth 4000
set_option maxHeartbeats 8000000
namespace Go.Pm.PP
open Go.Pm Go.Proofs Go.Pm.PE
theorem gap_bd {o : Int} {a b : Job} (ha : jobOk a = true) (hb : jobOk b = true) : -(2 ^ 12) ≤ gapJ o a b ∧ gapJ o a b ≤ 2 ^ 12 ∧ 0 ≤ a.t * b.w ∧ a.t * b.w ≤ 2500 ∧ 0 ≤ b.t * a.w ∧ b.t * a.w ≤ 2500 := by
  have h1 := job_of ha
  have h2 := job_of hb
  have m1 : 0 ≤ a.t * b.w := Int.mul_nonneg (by omega) (by omega)
  have m2 : 0 ≤ b.t * a.w := Int.mul_nonneg (by omega) (by omega)
  have m3 : a.t * b.w ≤ 50 * 50 := Int.mul_le_mul (by omega) (by omega) (by omega) (by omega)
  have m4 : b.t * a.w ≤ 50 * 50 := Int.mul_le_mul (by omega) (by omega) (by omega) (by omega)
  unfold gapJ
  refine ⟨?_, ?_, m1, by omega, m2, by omega⟩ <;> (split; omega; split; omega; split <;> omega)
theorem difference_run {h : Hp} {a b : Job} {o : Int} (ha : jobOk a = true) (hb : jobOk b = true) : Ret P G n_impl_difference [jv a, jv b, .int .i64 o] h (.int .i64 (gapJ o a b)) h := by
  refine enter_run e_impl_difference (by simp) ?_
  have h1 := job_of ha
  have h2 := job_of hb
  have hb' := gap_bd (o := o) ha hb
  have H := ((Holds.start (h := h)).alloc [.int .i64 a.t, .int .i64 a.w, .int .i64 a.r, .int .i64 a.d]).alloc [.int .i64 b.t, .int .i64 b.w, .int .i64 b.r, .int .i64 b.d]
  simp only [List.append_assoc, List.cons_append, List.nil_append, List.length_append, List.length_cons, List.length_nil, Nat.zero_add] at H
  have l1 := H.bl (P := P) 0 4 rfl rfl
  have l2 := H.bl (P := P) 1 4 rfl rfl
  have w1 : IntKind.i64.wrap (a.r - b.r) = a.r - b.r := by rw [wrap_ok] <;> omega
  have w2 : IntKind.i64.wrap (a.t - b.t) = a.t - b.t := by rw [wrap_ok] <;> omega
  have w3 : IntKind.i64.wrap (a.d - b.d) = a.d - b.d := by rw [wrap_ok] <;> omega
  have w4 : IntKind.i64.wrap (a.t * b.w) = a.t * b.w := by rw [wrap_ok] <;> omega
  have w5 : IntKind.i64.wrap (b.t * a.w) = b.t * a.w := by rw [wrap_ok] <;> omega
  have w6 : IntKind.i64.wrap (a.t * b.w - b.t * a.w) = a.t * b.w - b.t * a.w := by rw [wrap_ok] <;> omega
  have pp := List.prefix_append h [some (⟨[.int .i64 a.t, .int .i64 a.w, .int .i64 a.r, .int .i64 a.d], 0, false⟩ : Row), some ⟨[.int .i64 b.t, .int .i64 b.w, .int .i64 b.r, .int .i64 b.d], 0, false⟩]
  unfold gapJ
  by_cases c1 : o = 1
  · subst c1
    simp -implicitDefEqProofs [w1]
  · by_cases c2 : o = 2
    · subst c2
      simp -implicitDefEqProofs [w2]
    · by_cases c3 : o = 3
      · subst c3
        simp -implicitDefEqProofs [w4, w5, w6]
      · simp -implicitDefEqProofs [nb c1, nb c2, nb c3, c1, c2, c3, w3]
section
variable {h : Hp} {vj v : Value} {js : List Job} {xs : List Int} {o : Int}
theorem jobOk_jA (hg : goodL js = true) {x : Int} (hx : 0 ≤ x ∧ x < js.length) : jobOk (jA js x) = true := by
  obtain ⟨q, hq, hql, hqy⟩ := jA_get (js := js) rfl hx
  exact job_at hg hqy
theorem l3Gap_run {x y : Int} (J : Jobs h vj js) (hg : goodL js = true) (hx : 0 ≤ x ∧ x < js.length) (hy : 0 ≤ y ∧ y < js.length) : Ret P G n_spec_l3Gap [vj, .int .i64 o, .int .i64 x, .int .i64 y] h (.int .i64 (gapX o js x y)) h := by
  refine enter_run e_spec_l3Gap (by simp) ?_
  have Js := J
  obtain ⟨oj, cj, rfl⟩ := J.shapeT
  have ha := jobOk_jA hg hx
  have hb := jobOk_jA hg hy
  have lx := load_JX Js hx
  have ly := load_JX Js hy
  have e : gapX o js x y = gapJ o (jA js x) (jA js y) := rfl
  rw [e]
  generalize jA js x = a at *
  generalize jA js y = b at *
  have h1 := job_of ha
  have h2 := job_of hb
  have hb' := gap_bd (o := o) ha hb
  have w1 : IntKind.i64.wrap (a.r - b.r) = a.r - b.r := by rw [wrap_ok] <;> omega
  have w2 : IntKind.i64.wrap (a.t - b.t) = a.t - b.t := by rw [wrap_ok] <;> omega
  have w3 : IntKind.i64.wrap (a.d - b.d) = a.d - b.d := by rw [wrap_ok] <;> omega
  have w4 : IntKind.i64.wrap (a.t * b.w) = a.t * b.w := by rw [wrap_ok] <;> omega
  have w5 : IntKind.i64.wrap (b.t * a.w) = b.t * a.w := by rw [wrap_ok] <;> omega
  have w6 : IntKind.i64.wrap (a.t * b.w - b.t * a.w) = a.t * b.w - b.t * a.w := by rw [wrap_ok] <;> omega
  unfold gapJ
  by_cases c1 : o = 1
  · subst c1
    simp -implicitDefEqProofs [-indexAddrP_some, lx, ly, w1]
  · by_cases c2 : o = 2
    · subst c2
      simp -implicitDefEqProofs [-indexAddrP_some, lx, ly, w2]
    · by_cases c3 : o = 3
      · subst c3
        simp -implicitDefEqProofs [-indexAddrP_some, lx, ly, w4, w5, w6]
      · simp -implicitDefEqProofs [-indexAddrP_some, lx, ly, nb c1, nb c2, nb c3, c1, c2, c3, w3]
theorem l3Plain_run (hj : Jobs h v js) (hn : js.length ≤ 2 ^ 40) : Ret P G n_spec_l3Plain [v] h (.bool (plainL js)) h := by
  refine enter_run e_spec_l3Plain (by simp) ?_
  have hjs := hj
  obtain ⟨oa, c, rfl⟩ := hj.shapeT
  simp -implicitDefEqProofs
  refine R_loopO (fun m s h' => ∃ i : Nat, i + m = js.length ∧ s = [(0, .slice oa js.length c), (3, .int .i64 i)] ∧ h' = h ∧ plainL js = plainL (js.drop i)) (fun I hI m s h' => ?_) ⟨0, Nat.zero_add _, by simp⟩
  rintro ⟨i, hi, rfl, rfl, hx⟩
  by_cases hlt : i < js.length
  · obtain ⟨y, hy, hd⟩ := drop_at hlt
    have e : plainL (y :: js.drop (i + 1)) = ((y.r == 0) && plainL (js.drop (i + 1))) := rfl
    rw [hd, e] at hx
    have lr := load_J hjs hy
    by_cases c1 : y.r = 0
    · rw [show (y.r == 0) = true by simpa using c1, Bool.true_and] at hx
      simp -implicitDefEqProofs [-indexAddrP_some, hlt, lr, c1, winc hlt hn]
      exact ⟨m - 1, by omega, on hI ⟨i + 1, by omega, rfl, rfl, hx⟩⟩
    · rw [nb c1, Bool.false_and] at hx
      simp -implicitDefEqProofs [-indexAddrP_some, hlt, lr, nt c1, hx]
  · rw [List.drop_eq_nil_of_le (by omega)] at hx
    have hx : plainL js = true := hx
    simp -implicitDefEqProofs [hlt, hx]
end
end Go.Pm.PP

/- Inversions, losses, ruled orders, exchanges, by both. -/
set_option linter.unusedVariables false
set_option linter.unusedSimpArgs false
set_option maxRecDepth 4000
set_option maxHeartbeats 8000000
namespace Go.Pm.PP
open Go.Pm Go.Proofs Go.Pm.PE
abbrev Prs (h : Hp) (v : Value) (xs : List (Int × Int)) : Prop := Sees h v 2 (xs.map encQ)
theorem sliceP_pre {h h' : Hp} {v : Value} {sz : Nat} {els : List (List Value)} (s : Sees h v sz els) (hp : h <+: h') {ty e : TypeId} (hu : P.underlying ty = some (.slice e)) {lo hi : Option Value} : sliceP P h' ty v lo hi = sliceP P h ty v lo hi := by
  obtain ⟨_, oa, c, rfl, h3⟩ := s
  rcases h3 with ⟨rfl, rfl, rfl⟩ | ⟨r, o, x, rfl, h5, _⟩
  · simp only [sliceP, hu, List.length_nil]
  · have h5' : h'[r]? = some (some x) := by
      obtain ⟨l, rfl⟩ := hp
      rw [List.getElem?_append_left (List.getElem?_eq_some_iff.1 h5).1]; exact h5
    have h5 : h[r]? = some (some x) := h5
    simp only [sliceP, hu, rowAt, h5, h5']
/-- What lies behind a place, cut later, is seen as before. -/
theorem back_pre {h h' : Hp} {v : Value} {xs : List Int} (s : Ints h v xs) (hp : h <+: h') {j : Nat} (hj : j ≤ xs.length) : ∃ v', sliceP P h' t_S_int v (some (.int .i64 (j : Int))) none = some v' ∧ Ints h v' (xs.drop j) := by
  obtain ⟨v6, s6, f6, _⟩ := s.back (P := P) u_S_int i_int (k := .i64) (j := (j : Int)) (by omega) (by simp; omega)
  rw [Int.toNat_natCast, ← List.map_drop] at f6
  exact ⟨v6, by rw [sliceP_pre s hp u_S_int]; exact s6, f6⟩
section
variable {h : Hp} {vj v : Value} {js : List Job} {xs : List Int} {o : Int}
/-! ### losses -/
end
end Go.Pm.PP

/- Whether an order is ruled, exchanges, codes that are cut, pairs that are the same. -/
set_option linter.unusedVariables false
set_option linter.unusedSimpArgs false
set_option maxRecDepth 4000
set_option maxHeartbeats 8000000
namespace Go.Pm.PP
open Go.Pm Go.Proofs Go.Pm.PE
section
variable {h : Hp} {vj v u : Value} {js : List Job} {xs : List Int} {o : Int}
theorem vBig_run {bs : List Int} (hb : Sees h v 1 (bs.map encU)) : Ret P G n_laws_vBig [v] h (.bool (decide ((65536 : Int) < bs.length))) h := by
  refine enter_run e_laws_vBig (by simp) ?_
  obtain ⟨oa, c, rfl⟩ := hb.shapeT
  simp -implicitDefEqProofs
theorem vCut_run {n : Nat} {bs : List Int} (hb : Sees h v 1 (bs.map encU)) (hr : ∀ b, b ∈ bs → 0 ≤ b ∧ b ≤ 255) (hl : bs.length ≤ 65536) (hn : n ≤ 200) : RunsC P G n_laws_vCut [v, .int .i64 n] h fun w h' => h <+: h' ∧ By h' w := by
  refine hideC fun K hK => enter_run e_laws_vCut (by simp) ?_
  have Bs := hb
  obtain ⟨oa, c, rfl⟩ := hb.shapeT
  have cvU : ∀ {x : Int}, convP P t_int t_u8 (.int .i64 x) = some (.int .u8 (IntKind.u8.wrap x)) := by intro x; unfold convP; rw [u_int, u_u8]
  have wr : ∀ k : Nat, k ≤ 200 → IntKind.u8.wrap (k : Int) = (k : Int) := fun k hk => by
    unfold IntKind.wrap; simp [IntKind.signed, IntKind.bits]; omega
  have H0 := own_nil (Holds.start (h := h)) Int encU 1
  have fin : ∀ k : Nat, k ≤ n → k ≤ bs.length → ∃ v3 v4 h4 v5 h5, sliceP P h t_S_u8 (.slice oa bs.length c) (some (.int .i64 (k : Int))) none = some v3 ∧ appendP P h t_S_u8 (.slice none 0 0) v3 = some (v4, h4) ∧ appendP P (h4 ++ [some ⟨[.int .u8 (k : Int)], 1, false⟩]) t_S_u8 v4 (.slice (some ⟨h4.length, 0, some 1⟩) 1 1) = some (v5, h5) ∧ K v5 (gc h h5 v5) := fun k hk hkl => by
    obtain ⟨v3, s3, f3, _⟩ := Bs.back (P := P) u_S_u8 i_u8 (k := .i64) (j := (k : Int)) (by omega) (by simp; omega)
    rw [Int.toNat_natCast, ← List.map_drop] at f3
    obtain ⟨v4, h4, a4, H4, _⟩ := app_U H0 0 rfl f3 (by simp; omega)
    have H4 : Holds h h4 [.own v4 1 ((bs.drop k).map encU)] := H4
    obtain ⟨v5, h5, a5, H5, _⟩ := push_U0 H4 0 rfl (k : Int) (by simp; omega)
    refine ⟨v3, v4, h4, v5, h5, s3, a4, a5, onK hK ⟨(H5.ret 0 rfl).1, ⟨bs.drop k ++ [(k : Int)], (H5.ret 0 rfl).2.sees, fun b hb => ?_, by simp; omega⟩⟩⟩
    rcases List.mem_append.1 hb with g | g
    · exact hr b (List.mem_of_mem_drop g)
    · rw [List.mem_singleton.1 g]; omega
  by_cases c1 : bs.length < n
  · have c1' : (bs.length : Int) < n := by omega
    obtain ⟨v3, v4, h4, v5, h5, s3, a4, a5, f⟩ := fin bs.length (by omega) (Nat.le_refl _)
    simp -implicitDefEqProofs [c1, c1', s3, a4, cvU, wr bs.length (by omega), a5]
    exact f
  · have c1' : ¬ (bs.length : Int) < n := by omega
    obtain ⟨v3, v4, h4, v5, h5, s3, a4, a5, f⟩ := fin n (Nat.le_refl _) (by omega)
    simp -implicitDefEqProofs [c1, c1', s3, a4, cvU, wr n hn, a5]
    exact f
theorem eqA2 {a b c d : Int} : eqAgg P t_A2_int (.agg #[.int .i64 a, .int .i64 b]) (.agg #[.int .i64 c, .int .i64 d]) = some (a == c && b == d) := by
  unfold eqAgg
  rw [if_neg (by rw [show P.eqGuardType P.depth t_A2_int = false by kernel_rfl]; simp)]
  have hc : P.cellsOf t_int = 1 := by kernel_rfl
  simp [eqV, u_A2_int, eqE, partP, List.range, List.range.loop, u_int, hc]
theorem vPairs_run {ps : List (Int × Int)} (hv : Prs h v ps) (hu : Prs h u ps) (hx : ps.length ≤ 2 ^ 40) : Ret P G n_laws_vPairs [v, u] h (.bool true) h := by
  refine enter_run e_laws_vPairs (by simp) ?_
  have hvs := hv
  have hus := hu
  obtain ⟨oa, c, rfl⟩ := hv.shapeT
  obtain ⟨ob, c', rfl⟩ := hu.shapeT
  simp -implicitDefEqProofs
  refine R_loopO (fun m s h' => ∃ i : Nat, i + m = ps.length ∧ s = [(0, .slice oa ps.length c), (1, .slice ob ps.length c'), (5, .int .i64 i)] ∧ h' = h) (fun I hI m s h' => ?_) (n := ps.length) ⟨0, Nat.zero_add _, by simp, rfl⟩
  rintro ⟨i, hi, rfl, rfl⟩
  by_cases hlt : i < ps.length
  · obtain ⟨p, hp, _⟩ := drop_at hlt
    simp -implicitDefEqProofs [-indexAddrP_some, hlt, load_Q hvs hp, load_Q hus hp, eqA2, winc hlt hx]
    exact ⟨m - 1, by omega, on hI ⟨i + 1, by omega, rfl, rfl⟩⟩
  · simp -implicitDefEqProofs [hlt]
end
end Go.Pm.PP

/- Ruled orders are best, in plain terms: the last end too. -/
set_option linter.unusedVariables false
set_option linter.unusedSimpArgs false
namespace Go.Pm.PP
open Go.Pm Go.Pm.PE
/-- The reference's ruled order. -/
def ruF (o : Int) (js : List Job) (xs : List Int) : List Int := xs.foldl (fun l x => insF (fun y => decide (gapX o js y x ≤ 0)) x l) []
theorem ruF_perm {o : Int} {js : List Job} : ∀ {xs acc : List Int}, (xs.foldl (fun l x => insF (fun y => decide (gapX o js y x ≤ 0)) x l) acc).Perm (acc ++ xs)
  | [], acc => by simp
  | x :: xs, acc => by
    rw [List.foldl_cons]
    refine ruF_perm.trans ?_
    exact ((insF_perm.append_right xs).trans (by rw [List.cons_append])).trans List.perm_middle.symm
theorem ruF_sorted {o : Int} {js : List Job} (t : Tm js) : ∀ {xs acc : List Int}, acc.Pairwise (Lex (aheadR o js)) → inN js.length acc → inN js.length xs → xs.Pairwise (· < ·) → (∀ a, a ∈ acc → ∀ b, b ∈ xs → a < b) → (xs.foldl (fun l x => insF (fun y => decide (gapX o js y x ≤ 0)) x l) acc).Pairwise (Lex (aheadR o js))
  | [], acc, h, _, _, _, _ => h
  | x :: xs, acc, h, ha, hx, hs, hl => by
    have hs := List.pairwise_cons.1 hs
    have xr := hx x (List.mem_cons_self ..)
    have gs : ∀ y, gapX o js x y = - gapX o js y x := fun y => gap_swap
    rw [List.foldl_cons]
    refine ruF_sorted t (insF_sorted h (fun y hy g => ?_) (fun y hy g => ?_) fun y z hy hz hr g => ?_) (fun y hy => ?_) (fun y hy => hx y (List.mem_cons_of_mem _ hy)) hs.2 fun a hA b hb => ?_
    · have g : gapX o js y x ≤ 0 := by simpa using g
      have := gs y
      right
      refine ⟨?_, hl y hy x (List.mem_cons_self ..)⟩
      rw [ahead_eq t xr (ha y hy), decide_eq_false_iff_not]; omega
    · have g : ¬ gapX o js y x ≤ 0 := by simpa using g
      have := gs y
      left
      rw [ahead_eq t xr (ha y hy), decide_eq_true_eq]; omega
    · have g : ¬ gapX o js y x ≤ 0 := by simpa using g
      cases c : decide (gapX o js z x ≤ 0) with
      | false => rfl
      | true =>
        have c : gapX o js z x ≤ 0 := by simpa using c
        have h1 : aheadR o js z y = false := hr.na ahead_weak
        have g1 := gs z
        have h2 : aheadR o js x z = false := by rw [ahead_eq t xr (ha z hz), decide_eq_false_iff_not]; omega
        have h3 := (ahead_weak (o := o) (js := js)).tr h2 h1
        rw [ahead_eq t xr (ha y hy), decide_eq_false_iff_not] at h3
        have := gs y
        omega
    · rcases List.mem_cons.1 (insF_perm.mem_iff.1 hy) with rfl | g
      · exact xr
      · exact ha y g
    · rcases List.mem_cons.1 (insF_perm.mem_iff.1 hA) with rfl | g
      · exact hs.1 b hb
      · exact hl a g b (List.mem_cons_of_mem _ hb)
/-- Both ruled orders are the same. -/
theorem ruled_eq {o : Int} {js : List Job} (t : Tm js) {xs : List Int} (hs : xs.Pairwise (· < ·)) (hin : inN js.length xs) : ruF o js xs = sortB (aheadR o js) xs := by
  have p : (ruF o js xs).Perm xs := by have := @ruF_perm o js xs []; simpa [ruF] using this
  exact sorted_eq (R := Lex (aheadR o js)) (fun a b => Lex.asymm ahead_weak) (ruF_sorted t List.Pairwise.nil (fun y hy => by cases hy) hin hs fun a ha => by cases ha) (sortB_sorted ahead_weak hs) (p.trans sortB_perm.symm)
end Go.Pm.PP

/- Draws: plain jobs, ruled orders, inversions. -/
set_option linter.unusedVariables false
set_option linter.unusedSimpArgs false
set_option maxRecDepth 4000
set_option maxHeartbeats 8000000
namespace Go.Pm.PP
open Go.Pm Go.Proofs Go.Pm.PE
/-- Put into the middle, the front by a call. -/
theorem ins_own {h0 h : Hp} {L : List Asn} (H : Holds h0 h L) (i : Nat) {u : Value} {xs : List Int} (hi : L[i]? = some (.own u 1 (xs.map encI))) {k : Nat} (hk : k ≤ xs.length) (x : Int) (hn : xs.length ≤ 2 ^ 20) :
    ∃ (a3 : Option Addr) (b3 c3 : Nat), sliceP P h t_S_int u none (some (.int .i64 k)) = some (.slice a3 b3 c3) ∧ Ints h (.slice a3 b3 c3) (xs.take k) ∧ ∀ {v4 : Value} {h4 : Hp}, h <+: h4 → Own h.length h4 v4 1 ((xs.take k).map encI) → NR h.length h4 →
      ∃ (a4 : Option Addr) (b4 c4 : Nat) (a5 : Option Addr) (b5 c5 : Nat) (h5 : Hp) (a6 : Option Addr) (b6 c6 : Nat) (v7 : Value) (h7 : Hp), v4 = .slice a4 b4 c4 ∧
      appendP P (h4 ++ [some ⟨[.int .i64 x], 1, false⟩]) t_S_int (.slice a4 b4 c4) (.slice (some ⟨h4.length, 0, some 1⟩) 1 1) = some (.slice a5 b5 c5, h5) ∧ modOk h.length (h4 ++ [some ⟨[.int .i64 x], 1, false⟩]) h5 ∧ newOk h h5 ∧
      sliceP P h5 t_S_int u (some (.int .i64 k)) none = some (.slice a6 b6 c6) ∧ appendP P h5 t_S_int (.slice a5 b5 c5) (.slice a6 b6 c6) = some (v7, h7) ∧ Holds h0 h7 (L.set i (.own v7 1 ((xs.take k ++ x :: xs.drop k).map encI))) ∧ h <+: h7 := by
  have S2 := H.sees i hi
  obtain ⟨v3, s3, f3⟩ := S2.front (P := P) u_S_int i_int (k := .i64) (j := (k : Int)) (by omega) (by simp; omega)
  rw [Int.toNat_natCast, ← List.map_take] at f3
  obtain ⟨a3, b3, c3, rfl⟩ : ∃ a n c, v3 = .slice a n c := by obtain ⟨a, c, e⟩ := f3.shape; exact ⟨_, _, _, e⟩
  refine ⟨a3, b3, c3, s3, f3, fun {v4 h4} hp4 ho4 n4 => ?_⟩
  have H4 : Holds h h4 [.own v4 1 ((xs.take k).map encI)] := (Holds.start (h := h)).call hp4 ho4
  obtain ⟨v5, h5, ha5, H5', k5, _⟩ := push_I0 H4 0 rfl x (by simp; omega)
  have H5 : Holds h h5 [.own v5 1 ((xs.take k ++ [x]).map encI)] := H5'
  have n5 : NR h.length (h4 ++ [some ⟨[.int .i64 x], 1, false⟩]) := n4.new [.int .i64 x] 1
  have md := app_mod (b := h.length) rfl n5 ha5 (H4.pre.trans (List.prefix_append ..)) H5.pre
  have n6 := append_nr n5 ha5
  obtain ⟨v6, s6, f6, _⟩ := (S2.pre H5.pre).back (P := P) u_S_int i_int (k := .i64) (j := (k : Int)) (by omega) (by simp; omega)
  rw [Int.toNat_natCast, ← List.map_drop] at f6
  obtain ⟨v7, h7, ha7, H7', _⟩ := app_I H5 0 rfl f6 (by simp; omega)
  have H7 : Holds h h7 [.own v7 1 ((xs.take k ++ x :: xs.drop k).map encI)] := by
    have : Holds h h7 [.own v7 1 ((xs.take k ++ [x] ++ xs.drop k).map encI)] := H7'
    rw [List.append_assoc] at this
    exact this
  obtain ⟨a4, b4, c4, rfl⟩ : ∃ a n c, v4 = .slice a n c := by obtain ⟨a, c, e⟩ := (H4.sees 0 rfl).shape; exact ⟨_, _, _, e⟩
  obtain ⟨a5, b5, c5, rfl⟩ : ∃ a n c, v5 = .slice a n c := by obtain ⟨a, c, e⟩ := (H5.sees 0 rfl).shape; exact ⟨_, _, _, e⟩
  obtain ⟨a6, b6, c6, rfl⟩ : ∃ a n c, v6 = .slice a n c := by obtain ⟨a, c, e⟩ := f6.shape; exact ⟨_, _, _, e⟩
  have HJ := H.join H7
  have hil := (List.getElem?_eq_some_iff.1 hi).1
  refine ⟨a4, b4, c4, a5, b5, c5, h5, a6, b6, c6, v7, h7, rfl, ha5, md, newOk_of H5.pre n6, s6, ha7, ?_, H7.pre⟩
  refine HJ.sub (fun j => if j = i then L.length else j) (fun j A e => ?_) fun j1 j2 A B e1 e2 g => ?_
  · rw [List.getElem?_set] at e
    split at e
    · rename_i e2
      subst e2
      cases e
      rw [if_pos rfl, List.getElem?_append_right (Nat.le_refl _), Nat.sub_self]; rfl
    · rename_i e2
      rw [if_neg fun g => e2 g.symm, List.getElem?_append_left (List.getElem?_eq_some_iff.1 e).1]
      exact e
  · have l1 := (List.getElem?_eq_some_iff.1 e1).1
    have l2 := (List.getElem?_eq_some_iff.1 e2).1
    rw [List.length_set] at l1 l2
    split at g <;> split at g <;> omega
section
variable {h : Hp} {vj v : Value} {js : List Job} {o : Int}
theorem l3Order_run (J : Jobs h vj js) (hg : goodL js = true) (hn : js.length ≤ 8) : RunsC P G n_spec_l3Order [vj, .int .i64 o] h fun w h' => h <+: h' ∧ Own h.length h' w 1 ((ruF o js (upTo js.length)).map encI) := by
  refine hideC fun K hK => enter_run e_spec_l3Order (by simp) ?_
  have Js := J
  obtain ⟨oj, cj, rfl⟩ := J.shapeT
  have H0 := own_nil (Holds.start (h := h)) Int encI 1
  simp -implicitDefEqProofs
  refine R_loopO (fun m s h' => ∃ (i : Nat) (u : Value), i + m = js.length ∧ s = [(0, .slice oj js.length cj), (1, .int .i64 o), (5, u), (6, .int .i64 i)] ∧ Holds h h' [.own u 1 ((ruF o js (upTo i)).map encI)]) (fun I hI m s h' => ?_) (n := js.length) ⟨0, _, Nat.zero_add _, by simp, H0⟩
  rintro ⟨i, u, hi, rfl, H⟩
  by_cases hlt : i < js.length
  · have eu : upTo (i + 1) = upTo i ++ [(i : Int)] := by simp [upTo, List.range_succ]
    have ef : ruF o js (upTo (i + 1)) = insF (fun y => decide (gapX o js y i ≤ 0)) (i : Int) (ruF o js (upTo i)) := by
      unfold ruF; rw [eu, List.foldl_append]; rfl
    have pu : (ruF o js (upTo i)).Perm (upTo i) := by have := @ruF_perm o js (upTo i) []; simpa [ruF] using this
    have hin : ∀ z, z ∈ ruF o js (upTo i) → 0 ≤ z ∧ z < js.length := fun z hz => by have := mem_upTo.1 (pu.mem_iff.1 hz); omega
    have hul : (ruF o js (upTo i)).length = i := by rw [pu.length_eq, upTo_len]
    generalize ruF o js (upTo i) = us at *
    have S := H.sees 0 rfl
    obtain ⟨ou, cu, rfl⟩ : ∃ a c, u = .slice a us.length c := by obtain ⟨a, c, e⟩ := S.shapeT; exact ⟨a, c, e⟩
    simp -implicitDefEqProofs [hlt]
    refine R_loopO (fun m2 s h2 => ∃ (k : Nat), k + m2 = us.length ∧ s = [(0, .slice oj js.length cj), (1, .int .i64 o), (5, .slice ou us.length cu), (6, .int .i64 i), (7, .int .i64 k)] ∧ h2 = h' ∧ ∀ j z, j < k → us[j]? = some z → decide (gapX o js z i ≤ 0) = true) (fun I2 hI2 m2 s h2 => ?_) (n := us.length)
      ⟨0, Nat.zero_add _, by simp, rfl, fun i z h => by omega⟩
    rintro ⟨k, hk, rfl, rfl, hall⟩
    have fin : (∀ z, us[k]? = some z → decide (gapX o js z i ≤ 0) = false) → us.take k ++ (i : Int) :: us.drop k = insF (fun y => decide (gapX o js y i ≤ 0)) (i : Int) us := fun g => (insF_take (by omega) hall g).symm
    obtain ⟨a3, b3, c3, s3, f3, rest⟩ := ins_own H 0 rfl (k := k) (by omega) (i : Int) (by omega)
    have next : us.take k ++ (i : Int) :: us.drop k = insF (fun y => decide (gapX o js y i ≤ 0)) (i : Int) us → RunsC P G n_spec_l1Own [.slice a3 b3 c3] h2 fun v h' => newOk h2 h' ∧ ∃ (a4 : Option Addr) (b4 c4 : Nat) (a5 : Option Addr) (b5 c5 : Nat) (h5 : Hp) (a6 : Option Addr) (b6 c6 : Nat) (v7 : Value) (h7 : Hp), v = .slice a4 b4 c4 ∧
      appendP P (h' ++ [some ⟨[.int .i64 (i : Int)], 1, false⟩]) t_S_int (.slice a4 b4 c4) (.slice (some ⟨h'.length, 0, some 1⟩) 1 1) = some (.slice a5 b5 c5, h5) ∧ modOk h2.length (h' ++ [some ⟨[.int .i64 (i : Int)], 1, false⟩]) h5 ∧ newOk h2 h5 ∧
      sliceP P h5 t_S_int (.slice ou us.length cu) (some (.int .i64 k)) none = some (.slice a6 b6 c6) ∧ appendP P h5 t_S_int (.slice a5 b5 c5) (.slice a6 b6 c6) = some (v7, h7) ∧ I (m - 1) [(0, .slice oj js.length cj), (1, .int .i64 o), (5, v7), (6, .int .i64 ((i + 1 : Nat) : Int))] h7 := fun he => by
      refine RunsC.mono (l1Own_run f3 (by rw [List.length_take]; omega)).new fun v4 h4 ⟨⟨hp4, ho4⟩, hn4⟩ => ⟨hn4 hp4, ?_⟩
      obtain ⟨a4, b4, c4, a5, b5, c5, h5, a6, b6, c6, v7, h7, e4, g5, g6, g7, g8, g9, H7, hp7⟩ := rest hp4 ho4 (hn4 hp4).nr
      refine ⟨a4, b4, c4, a5, b5, c5, h5, a6, b6, c6, v7, h7, e4, g5, g6, g7, g8, g9, on hI ⟨i + 1, v7, by omega, rfl, ?_⟩⟩
      rw [ef, ← he]
      exact H7
    by_cases hlk : k < us.length
    · obtain ⟨z, hz, _⟩ := drop_at hlk
      have lz := load_I S hz
      have rs := l3Gap_run (o := o) (x := z) (y := (i : Int)) (Js.pre H.pre) hg (hin z (List.mem_of_getElem? hz)) (by omega)
      have hlk' : (k : Int) < us.length := by omega
      by_cases c1 : gapX o js z i ≤ 0
      · simp -implicitDefEqProofs [-indexAddrP_some, hlk, hlk', lz, CL_ret rs, CH_at rs, c1, winc hlk (by omega)]
        exact ⟨m2 - 1, by omega, on hI2 ⟨k + 1, by omega, rfl, rfl, fun j z' h1 h2 => by
          rcases Nat.lt_or_ge j k with g | g
          · exact hall j z' g h2
          · have : j = k := by omega
            subst this
            rw [hz] at h2; cases h2; exact decide_eq_true c1⟩⟩
      · simp -implicitDefEqProofs [-indexAddrP_some, hlk, hlk', lz, CL_ret rs, CH_at rs, c1, s3]
        refine CG_post (next (fin fun z' g => by rw [hz] at g; cases g; exact decide_eq_false c1)) fun v h4 ⟨no4, a4, b4, c4, a5, b5, c5, h5, a6, b6, c6, v7, h7, ev, g5, g6, g7, g8, g9, hI7⟩ => ⟨no4, ?_⟩
        subst ev
        simp -implicitDefEqProofs [g5, g6, g7, g8, g9, winc hlt (by omega)]
        exact ⟨m - 1, by omega, hI7⟩
    · have hlk' : ¬ (k : Int) < us.length := by omega
      simp -implicitDefEqProofs [-indexAddrP_some, hlk, hlk', s3]
      refine CG_post (next (fin fun z' g => by rw [List.getElem?_eq_none (by omega)] at g; cases g)) fun v h4 ⟨no4, a4, b4, c4, a5, b5, c5, h5, a6, b6, c6, v7, h7, ev, g5, g6, g7, g8, g9, hI7⟩ => ⟨no4, ?_⟩
      subst ev
      simp -implicitDefEqProofs [g5, g6, g7, g8, g9, winc hlt (by omega)]
      exact ⟨m - 1, by omega, hI7⟩
  · have : i = js.length := by omega
    subst this
    simp -implicitDefEqProofs [hlt]
    exact onK hK (H.ret 0 rfl)
end
/-! ### draws -/
section
variable {h0 h : Hp} {r n : Nat} {vc : Value} {L : List Asn}
theorem Cur.fputJ {u : Value} {js : List Job} (C : Cur h0 h r vc n (L ++ [.own u 4 (js.map encJ)])) {k : Nat} {y : Job} (hy : js[k]? = some y) (z : Int) :
    (∃ h', storeP P h t_int (.int .i64 z) (.pointer (some (addP (addP (base u) (k * 4)) 0))) = some h' ∧ Cur h0 h' r vc n (L ++ [.own u 4 ((js.set k ⟨z, y.w, y.r, y.d⟩).map encJ)])) ∧
    (∃ h', storeP P h t_int (.int .i64 z) (.pointer (some (addP (addP (base u) (k * 4)) 1))) = some h' ∧ Cur h0 h' r vc n (L ++ [.own u 4 ((js.set k ⟨y.t, z, y.r, y.d⟩).map encJ)])) ∧
    (∃ h', storeP P h t_int (.int .i64 z) (.pointer (some (addP (addP (base u) (k * 4)) 2))) = some h' ∧ Cur h0 h' r vc n (L ++ [.own u 4 ((js.set k ⟨y.t, y.w, z, y.d⟩).map encJ)])) ∧
    (∃ h', storeP P h t_int (.int .i64 z) (.pointer (some (addP (addP (base u) (k * 4)) 3))) = some h' ∧ Cur h0 h' r vc n (L ++ [.own u 4 ((js.set k ⟨y.t, y.w, y.r, z⟩).map encJ)])) := by
  obtain ⟨a, s, h1, h2, H⟩ := C
  have hi : (cu r vc a s :: (L ++ [.own u 4 (js.map encJ)]))[L.length + 1]? = some (.own u 4 (js.map encJ)) := by rw [List.getElem?_cons_succ]; exact snoc_get
  have es : ∀ A : Asn, (cu r vc a s :: (L ++ [.own u 4 (js.map encJ)])).set (L.length + 1) A = cu r vc a s :: (L ++ [A]) := fun A => by
    rw [List.set_cons_succ, List.set_append_right (h := Nat.le_refl _), Nat.sub_self]; rfl
  refine ⟨?_, ?_, ?_, ?_⟩
  · obtain ⟨h', g1, g2, _⟩ := fput_J0 H _ hi hy z
    rw [es] at g2
    exact ⟨h', g1, a, s, h1, h2, g2⟩
  · obtain ⟨h', g1, g2, _⟩ := fput_J1 H _ hi hy z
    rw [es] at g2
    exact ⟨h', g1, a, s, h1, h2, g2⟩
  · obtain ⟨h', g1, g2, _⟩ := fput_J2 H _ hi hy z
    rw [es] at g2
    exact ⟨h', g1, a, s, h1, h2, g2⟩
  · obtain ⟨h', g1, g2, _⟩ := fput_J3 H _ hi hy z
    rw [es] at g2
    exact ⟨h', g1, a, s, h1, h2, g2⟩
theorem plain3_run (B : By h0 vc) (C : Cur h0 h r vc n L) (hn : n ≤ 2 ^ 18) : RunsC P G n_spec_l1Cur_plain3 [.pointer (some ⟨r, 0, some 3⟩)] h fun v h' => ∃ js : List Job, js.length ≤ 9 ∧ Cur h0 h' r vc (n + 300) (L ++ [.own v 4 (js.map encJ)]) := by
  refine hideC fun K hK => enter_run e_spec_l1Cur_plain3 (by simp) ?_
  simp -implicitDefEqProofs
  refine CL_post (jobs_run B C (by omega)) fun v h1 ⟨js, hl, C1⟩ => ?_
  obtain ⟨ua, uc, rfl⟩ : ∃ a c, v = .slice a js.length c := C1.seesJ.shapeT
  simp -implicitDefEqProofs
  refine CL_post (one_run B C1 (by omega) (k := 24) (by omega)) fun v h2 ⟨b, ev, C2⟩ => ?_
  subst ev
  cases b
  case true =>
    simp -implicitDefEqProofs
    exact onK hK ⟨js, hl, C.gcO (C2.mono (by omega)) (fun h => h)⟩
  simp -implicitDefEqProofs
  obtain ⟨N, hN⟩ : ∃ N, N = js.length := ⟨_, rfl⟩
  rw [← hN] at C2 ⊢
  refine R_loopO (fun m st h' => ∃ (i : Nat) (ks : List Job), i + m = N ∧ st = [(0, .pointer (some ⟨r, 0, some 3⟩)), (3, .slice ua N uc), (4, .int .i64 i)] ∧ ks.length = N ∧ Cur h0 h' r vc (n + 204 + 2 * i) (L ++ [.own (.slice ua N uc) 4 (ks.map encJ)])) (fun I hI m st h' => ?_) (n := N)
    ⟨0, js, by omega, by simp, hN.symm, C2.mono (by omega)⟩
  rintro ⟨i, ks, hi, rfl, hks, C3⟩
  by_cases hlt : i < N
  · have hlt' : (i : Int) < N := by omega
    obtain ⟨y, hy, _⟩ := drop_at (show i < ks.length by omega)
    have ly := load_J C3.seesJ hy
    obtain ⟨h4, s4, C4⟩ := (C3.fputJ hy 0).2.2.1
    by_cases c1 : 0 < i
    · have c1' : (0 : Int) < i := by omega
      simp -implicitDefEqProofs [-indexAddrP_some, hlt, hlt', ly, s4, c1, c1']
      refine CL_post (one_run B C4 (by omega) (k := 3) (by omega)) fun v h5 ⟨b, ev, C5⟩ => ?_
      subst ev
      cases b
      · simp -implicitDefEqProofs [winc hlt (by omega)]
        exact ⟨m - 1, by omega, on hI ⟨i + 1, _, by omega, rfl, by rw [List.length_set]; exact hks, C5.mono (by omega)⟩⟩
      · have w1 : IntKind.i64.wrap ((i : Int) - 1) = ((i - 1 : Nat) : Int) := by rw [wrap_ok] <;> omega
        generalize hks2 : ks.set i ⟨y.t, y.w, 0, y.d⟩ = ks2 at C5
        have hl2 : ks2.length = N := by rw [← hks2, List.length_set]; exact hks
        obtain ⟨p, hp, _⟩ := drop_at (show i - 1 < ks2.length by omega)
        obtain ⟨q, hq, _⟩ := drop_at (show i < ks2.length by omega)
        have lp := load_J C5.seesJ hp
        have lq := load_J C5.seesJ hq
        obtain ⟨h6, s6, C6⟩ := (C5.fputJ hq p.t).1
        generalize hks3 : ks2.set i ⟨p.t, q.w, q.r, q.d⟩ = ks3 at C6
        have hl3 : ks3.length = N := by rw [← hks3, List.length_set]; exact hl2
        obtain ⟨p', hp', _⟩ := drop_at (show i - 1 < ks3.length by omega)
        obtain ⟨q', hq', _⟩ := drop_at (show i < ks3.length by omega)
        have lp' := load_J C6.seesJ hp'
        have lq' := load_J C6.seesJ hq'
        obtain ⟨h7, s7, C7⟩ := (C6.fputJ hq' p'.w).2.1
        simp -implicitDefEqProofs [-indexAddrP_some, w1, lp, lq, s6, lp', lq', s7, winc hlt (by omega)]
        exact ⟨m - 1, by omega, on hI ⟨i + 1, _, by omega, rfl, by rw [List.length_set]; exact hl3, C7.mono (by omega)⟩⟩
    · have c1' : ¬ (0 : Int) < i := by omega
      simp -implicitDefEqProofs [-indexAddrP_some, hlt, hlt', ly, s4, c1, c1', winc hlt (by omega)]
      exact ⟨m - 1, by omega, on hI ⟨i + 1, _, by omega, rfl, by rw [List.length_set]; exact hks, C4.mono (by omega)⟩⟩
  · have hlt' : ¬ (i : Int) < N := by omega
    simp -implicitDefEqProofs [hlt, hlt']
    exact onK hK ⟨ks, by omega, C.gcO (C3.mono (by omega)) (fun h => h)⟩
end
theorem plain2T {a b : Value} {r : List Value} (h : plain (.tuple (a :: b :: r).toArray) = true) : plainC b = true := by
  have : ((a :: b :: r).toArray : Array Value).toList.all plainC = true := h
  simp only [List.all_cons, Bool.and_eq_true] at this
  exact this.2.1
theorem gc_JX {h h1 : Hp} {u w : Value} {r : List Value} {js : List Job} {xs : List Int} (hp : h <+: h1) (J : Jobs h1 u js) (X : Ints h1 w xs) : h <+: gc h h1 (.tuple (u :: w :: r).toArray) ∧ Jobs (gc h h1 (.tuple (u :: w :: r).toArray)) u js ∧ Ints (gc h h1 (.tuple (u :: w :: r).toArray)) w xs :=
  ⟨pre_gcU hp, Sees.gcU J fun g => plainT (r := w :: r) g, Sees.gcU X fun g => plain2T (r := r) g⟩
end Go.Pm.PP

/- FnPairLoss in the small machine. -/
set_option linter.unusedVariables false
set_option linter.unusedSimpArgs false
set_option maxRecDepth 4000
set_option maxHeartbeats 16000000
namespace Go.Pm.PP
open Go.Pm Go.Proofs Go.Pm.PE
/-- A ruled order of all jobs. -/
def rulL (o : Int) (js : List Job) : List Int := sortB (aheadR o js) (upTo js.length)
theorem rulL_perm {o : Int} {js : List Job} : (rulL o js).Perm (upTo js.length) := sortB_perm
theorem rulL_ord {o : Int} {js : List Job} : Ord js.length (rulL o js) := by
  have p := @rulL_perm o js
  exact ⟨by rw [p.length_eq, upTo_len], fun x hx => mem_upTo.1 (p.mem_iff.1 hx), p.nodup_iff.2 (upTo_nodup _)⟩
theorem rulL_sorted {o : Int} {js : List Job} (hg : goodL js = true) : (rulL o js).Pairwise fun a b => gapX o js a b ≤ 0 := by
  have t := good_tm hg
  refine List.Pairwise.imp_of_mem (fun {a b} ha hb h => ?_) (sortB_weak (ah := aheadR o js) (l := upTo js.length) ahead_weak)
  have ia := rulL_ord.inn a ha
  have ib := rulL_ord.inn b hb
  rw [ahead_eq t ib ia, decide_eq_false_iff_not] at h
  have := @gap_swap o js a b
  omega
end Go.Pm.PP

/- Ruled orders, by both. -/
set_option linter.unusedVariables false
set_option linter.unusedSimpArgs false
set_option maxRecDepth 4000
set_option maxHeartbeats 8000000
namespace Go.Pm.PP
open Go.Pm Go.Proofs Go.Pm.PE
section
variable {h : Hp} {vj v u : Value} {js : List Job} {xs ys : List Int} {o : Int}
theorem vInts_run (hv : Ints h v xs) (hu : Ints h u xs) (hx : xs.length ≤ 2 ^ 40) : Ret P G n_laws_vInts [v, u] h (.bool true) h := by
  refine enter_run e_laws_vInts (by simp) ?_
  have hvs := hv
  have hus := hu
  obtain ⟨oa, c, rfl⟩ := hv.shapeT
  obtain ⟨ob, c', rfl⟩ := hu.shapeT
  simp -implicitDefEqProofs
  refine R_loopO (fun m s h' => ∃ i : Nat, i + m = xs.length ∧ s = [(0, .slice oa xs.length c), (1, .slice ob xs.length c'), (5, .int .i64 i)] ∧ h' = h) (fun I hI m s h' => ?_) (n := xs.length) ⟨0, Nat.zero_add _, by simp, rfl⟩
  rintro ⟨i, hi, rfl, rfl⟩
  by_cases hlt : i < xs.length
  · obtain ⟨x, hx', _⟩ := drop_at hlt
    simp -implicitDefEqProofs [-indexAddrP_some, hlt, load_I hvs hx', load_I hus hx', winc hlt hx]
    exact ⟨m - 1, by omega, on hI ⟨i + 1, by omega, rfl, rfl⟩⟩
  · simp -implicitDefEqProofs [hlt]
theorem specIsPlain_run (hj : Jobs h vj js) (hn : js.length ≤ 2 ^ 40) : Ret P G n_spec_IsPlain [vj] h (.bool (plOk js)) h := by
  refine enter_run e_spec_IsPlain (by simp) ?_
  have r1 := good_run hj hn
  have r2 := l3Plain_run hj hn
  obtain ⟨oa, c, rfl⟩ := hj.shapeT
  cases c1 : jOk js
  · simp -implicitDefEqProofs [CL_ret r1, c1, plOk]
  · simp -implicitDefEqProofs [CL_ret r1, c1, plOk, CL_ret r2]
theorem ruledOrder_1_run {a b : Int} {r q : Nat} (J : Jobs h vj js) (hg : goodL js = true) (hb : h[r]? = some (some ⟨[vj], 0, false⟩)) (hq : h[q]? = some (some ⟨[.int .i64 o], 0, false⟩)) (ha : 0 ≤ a ∧ a < js.length) (hb' : 0 ≤ b ∧ b < js.length) :
    Ret P G n_impl_ruledOrder_1 [.int .i64 a, .int .i64 b, .pointer (some ⟨r, 0, some 1⟩), .pointer (some ⟨q, 0, some 1⟩)] h (.bool (aheadR o js a b)) h := by
  refine enter_run e_impl_ruledOrder_1 (by simp) ?_
  have Js := J
  obtain ⟨oj, cj, rfl⟩ := J.shapeT
  have lb := load_pre (n := 1) List.prefix_rfl hb rfl
  have lq := load_pre (n := 1) List.prefix_rfl hq rfl
  have rd := fun {hh : Hp} => difference_run (h := hh) (o := o) (jobOk_jA hg ha) (jobOk_jA hg hb')
  rw [ahead_eq (good_tm hg) ha hb']
  have e : gapJ o (jA js a) (jA js b) = gapX o js a b := rfl
  rw [e] at rd
  simp -implicitDefEqProofs [-indexAddrP_some, lb, lq, load_JX Js ha, load_JX Js hb', CL_ret rd, CH_at rd]
theorem ruledOrder_run (J : Jobs h vj js) (hg : goodL js = true) (hn : js.length ≤ 8) : RunsC P G n_impl_ruledOrder [vj, .int .i64 o] h fun w h' => h <+: h' ∧ Own h.length h' w 1 ((rulL o js).map encI) := by
  refine hideC fun K hK => enter_run e_impl_ruledOrder (by simp) ?_
  have Js := J
  obtain ⟨oj, cj, rfl⟩ := J.shapeT
  have H0 := ((Holds.start (h := h)).alloc [.slice oj js.length cj]).alloc [.int .i64 o]
  simp only [List.append_assoc, List.cons_append, List.nil_append, List.length_append, List.length_cons, List.length_nil, Nat.zero_add] at H0
  simp -implicitDefEqProofs
  refine CL_post (numbersTo_run (by omega)) fun v1 h1 ⟨hp1, ho1⟩ => ?_
  have H1 := H0.ext hp1
  simp -implicitDefEqProofs
  refine CL_post (sortedBy_run (ah := aheadR o js) ho1.sees (by rw [upTo_len]; omega) fun h2 hp2 a b ha hb => ?_) fun v2 h2 ⟨hp2, ho2⟩ => ?_
  · have H2 := H1.ext hp2
    exact ruledOrder_1_run (Js.pre H2.pre) hg (H2.box 0 rfl) (H2.box 1 rfl) (upTo_in a ha) (upTo_in b hb)
  · simp -implicitDefEqProofs
    have H := (Holds.start (h := h)).call (H1.pre.trans hp2) (ho2.low H1.pre.length_le)
    exact onK hK (H.ret 0 rfl)
/-! ### rule differences -/
end
/-! ### ruled orders are best -/
end Go.Pm.PP
