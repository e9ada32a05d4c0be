/- The texts PvCe, PvSf, PvSg, PvSh, PvSi, PvCf, PvL, PvM, PvK of this work: Best orders that keep to one pair, by both. -/
import Derived.ProofKit
import Derived.OpenShut
import Derived.Carry
import Derived.Test.YtcmbjbddjlamaaaP10
import Derived.Test.YtcmbjbddjlamaaaP8
import Derived.Test.YtcmbjbddjlamaaaM4
/- Best orders that keep to one pair, by both. -/
set_option linter.unusedVariables false
set_option linter.unusedSimpArgs false
set_option maxRecDepth 4000
set_option maxHeartbeats 16000000
namespace Go.Pm.PP
open Go.Pm Go.Proofs Go.Pm.PE
def bxE (p q r : Nat) (vo : Value) (b : Sr) : List Asn := [.box p [vo], .box q [.int .i64 b.v], .box r [.bool !(b.c == 0)], .own vo 1 (b.o.map encI)]
theorem gcE {hb h h' : Hp} {p q r : Nat} {vo vo' u : Value} {b b' : Sr} {L : List Asn} (HL : Holds hb h (bxE p q r vo b ++ L)) (H' : Holds hb h' (bxE p q r vo' b' ++ L)) : Holds hb (gc h h' u) (bxE p q r vo' b' ++ L) := by
  rcases gc_cases' h h' u with g | ⟨hp, g⟩
  · rw [g]; exact H'
  · have e1 := HL.box (cs := [vo]) (r := p) 0 rfl
    have e2 := H'.box (cs := [vo']) (r := p) 0 rfl
    obtain ⟨t, rfl⟩ := hp
    rw [List.getElem?_append_left (List.getElem?_eq_some_iff.1 e1).1, e1] at e2
    cases e2
    exact HL.gcR H' rfl
theorem tellE_run {hb h : Hp} {p q r rt rj ro : Nat} {vt vj vg vo : Value} {us : List Value} {T : List (List Bool)} {js : List Job} {o : Int} {xs : List Int} {b : Sr} (J : Jobs hb vj js) (N : Nest hb vt encB 1 T us) (kT : TOk js.length T)
    (bt : hb[rt]? = some (some ⟨[vt], 0, false⟩)) (bj : hb[rj]? = some (some ⟨[vj], 0, false⟩)) (bo : hb[ro]? = some (some ⟨[.int .i64 o], 0, false⟩))
    (hgd : goodL js = true) (hn : js.length ≤ 8) (ho : 1 ≤ o ∧ o ≤ 8) (hx : Ord js.length xs) (H : Holds hb h (bxE p q r vo b ++ [.own vg 1 (xs.map encI)])) :
    RunsC P G n_impl_BestExtension_1 [vg, .pointer (some ⟨rt, 0, some 1⟩), .pointer (some ⟨rj, 0, some 1⟩), .pointer (some ⟨ro, 0, some 1⟩), .pointer (some ⟨r, 0, some 1⟩), .pointer (some ⟨q, 0, some 1⟩), .pointer (some ⟨p, 0, some 1⟩)] h fun v h' =>
      ∃ vo', ∀ L, Holds hb h (bxE p q r vo b ++ L) → Holds hb h' (bxE p q r vo' (updG (extG T []) (valX o js) b xs) ++ L) := by
  refine hideC fun K hK => enter_run e_impl_BestExtension_1 (by simp) ?_
  have Js := J
  have Ns := N
  obtain ⟨oj, cj, rfl⟩ := J.shapeT
  obtain ⟨ta, tc, rfl⟩ := N.shape
  have Sg : Ints h vg xs := H.sees 4 rfl
  obtain ⟨g1, g3, rfl⟩ : ∃ a c, vg = .slice a xs.length c := Sg.shapeT
  have lt := load_pre H.pre bt (n := 1) rfl
  have lj := load_pre H.pre bj (n := 1) rfl
  have lo := load_pre H.pre bo (n := 1) rfl
  have lv := H.bl (P := P) 1 1 rfl rfl
  have lc := H.bl (P := P) 2 1 rfl rfl
  have re := extends_run (Ns.pre H.pre) kT Sg hx.inn (by rw [hx.len]; omega)
  have rv := valueOf_run (o := o) (Js.pre H.pre) Sg hgd hn ho hx
  obtain ⟨V, hV⟩ : ∃ V, V = valX o js xs := ⟨_, rfl⟩
  rw [← hV] at rv
  have other : ¬ (extG T [] xs = true ∧ (b.c = 0 ∨ V < b.v)) → ∀ u, K u (gc h h u) := fun c1 u => by
    have e : updG (extG T []) (valX o js) b xs = b := by unfold updG; rw [← hV, if_neg c1]
    rw [e] at hK
    exact onK hK ⟨vo, fun L HL => gcE HL HL⟩
  cases c0 : extG T [] xs
  · rw [c0] at re
    simp -implicitDefEqProofs [lt, CL_ret re]
    simpa using other (fun q => by rw [c0] at q; cases q.1) (.tuple #[])
  rw [c0] at re
  by_cases c1 : b.c = 0 ∨ V < b.v
  · have e : updG (extG T []) (valX o js) b xs = ⟨xs, V, 1⟩ := by unfold updG; rw [← hV, if_pos ⟨c0, c1⟩]
    rw [e] at hK
    have fin : RunsC P G n_impl_copyInts [.slice g1 xs.length g3] h fun v1 h1 => ∃ a n c h2 h3 h4, v1 = .slice a n c ∧ storeP P h1 t_S_int (.slice a n c) (.pointer (some ⟨p, 0, some 1⟩)) = some h2 ∧ storeP P h2 t_int (.int .i64 V) (.pointer (some ⟨q, 0, some 1⟩)) = some h3 ∧
        storeP P h3 t_bool (.bool true) (.pointer (some ⟨r, 0, some 1⟩)) = some h4 ∧ ∀ u, K u (gc h h4 u) := by
      refine RunsC.mono (copyInts_run Sg (by rw [hx.len]; omega)) fun v1 h1 ⟨hp1, ho1⟩ => ?_
      obtain ⟨a, c, rfl⟩ := ho1.sees.shapeT
      obtain ⟨h2, s2, H2, _⟩ := (H.ext hp1).set (P := P) 0 (n := 1) (o := 0) (ty := t_S_int) (w := .slice a xs.length c) rfl rfl e_t_S_int (by simp) (by simp) (by simp)
      obtain ⟨h3, s3, H3, _⟩ := H2.set (P := P) 1 (n := 1) (o := 0) (ty := t_int) (w := .int .i64 V) rfl rfl e_t_int (by simp) (by simp) (by simp)
      obtain ⟨h4, s4, H4, _⟩ := H3.set (P := P) 2 (n := 1) (o := 0) (ty := t_bool) (w := .bool true) rfl rfl e_t_bool (by simp) (by simp) (by simp)
      refine ⟨a, xs.length, c, h2, h3, h4, rfl, s2, s3, s4, fun u => onK hK ⟨.slice a xs.length c, fun L HL => ?_⟩⟩
      have HJ := Holds.joinT (L := bxE p q r vo b) (T := L) (A := [.own (.slice a xs.length c) 1 (xs.map encI)]) (M := []) HL ((Holds.start (h := h)).call hp1 ho1)
      obtain ⟨h2', s2', H2', _⟩ := HJ.set (P := P) 0 (n := 1) (o := 0) (ty := t_S_int) (w := .slice a xs.length c) rfl rfl e_t_S_int (by simp) (by simp) (by simp)
      rw [s2] at s2'; cases s2'
      obtain ⟨h3', s3', H3', _⟩ := H2'.set (P := P) 1 (n := 1) (o := 0) (ty := t_int) (w := .int .i64 V) rfl rfl e_t_int (by simp) (by simp) (by simp)
      rw [s3] at s3'; cases s3'
      obtain ⟨h4', s4', H4', _⟩ := H3'.set (P := P) 2 (n := 1) (o := 0) (ty := t_bool) (w := .bool true) rfl rfl e_t_bool (by simp) (by simp) (by simp)
      rw [s4] at s4'; cases s4'
      have H5 : Holds hb h4 (([.box p [.slice a xs.length c], .box q [.int .i64 V], .box r [.bool true]] ++ [.own vo 1 (b.o.map encI)]) ++ ([.own (.slice a xs.length c) 1 (xs.map encI)] ++ L)) := H4'
      have H6 : Holds hb h4 (bxE p q r (.slice a xs.length c) ⟨xs, V, 1⟩ ++ L) := H5.cut
      exact gcE HL H6
    rcases Classical.em (b.c = 0) with c2 | c2
    · simp -implicitDefEqProofs [lt, CL_ret re, lj, lo, CL_ret rv, lc, lv, show (b.c == 0) = true by simpa using c2]
      refine CL_post fin fun v1 h1 ⟨a, n1, c, h2, h3, h4, ev, s2, s3, s4, f2⟩ => ?_
      subst ev
      simp -implicitDefEqProofs [s2, s3, s4]
      exact f2 _
    · have c3 : V < b.v := by rcases c1 with g | g; exact absurd g c2; exact g
      simp -implicitDefEqProofs [lt, CL_ret re, lj, lo, CL_ret rv, lc, lv, nb c2, c3]
      refine CL_post fin fun v1 h1 ⟨a, n1, c, h2, h3, h4, ev, s2, s3, s4, f2⟩ => ?_
      subst ev
      simp -implicitDefEqProofs [s2, s3, s4]
      exact f2 _
  · have c2 : ¬ b.c = 0 := fun g => c1 (.inl g)
    have c3 : ¬ V < b.v := fun g => c1 (.inr g)
    simp -implicitDefEqProofs [lt, CL_ret re, lj, lo, CL_ret rv, lc, lv, nb c2, c3]
    simpa using other (fun q => c1 q.2) (.tuple #[])
def extB (js : List Job) (o x y : Int) : Sr := bestG (extG (clo js.length [(x, y)]) []) (valX o js) js.length
section
variable {h : Hp} {ve vj : Value} {x y : Int} {js : List Job} {o : Int}
theorem implBestExtension_run (k : One js.length x y) (J : Jobs h vj js) (jok : jOk js = true) (E : Prs h ve [(x, y)]) (ho : 1 ≤ o ∧ o ≤ 8) : RunsC P G n_impl_BestExtension [vj, ve, .int .i64 o] h fun w h' => h <+: h' ∧ ∃ d, w = .tuple #[d, .bool true] ∧ Ints h' d (extB js o x y).o := by
  refine hideC fun K hK => enter_run e_impl_BestExtension (by simp) ?_
  have Js := J
  have Es := E
  obtain ⟨oj, cj, rfl⟩ := J.shapeT
  obtain ⟨ea, ec, rfl⟩ : ∃ a c, ve = .slice a 1 c := E.shapeT
  obtain ⟨hn, hg⟩ := jOk_of jok
  have H0 := ((Holds.start (h := h)).alloc [.slice oj js.length cj]).alloc [.int .i64 o]
  simp only [List.append_assoc, List.cons_append, List.nil_append, List.length_append, List.length_cons, List.length_nil, Nat.zero_add] at H0
  have r1 := isPreceded_one k (Js.pre H0.pre) jok (Es.pre H0.pre)
  have io : inB o 1 8 = true := by simp [inB]; omega
  have rc := closure_run hn (Es.pre H0.pre) (by simp) k.ed
  simp -implicitDefEqProofs [CL_ret r1, CL_ret isObjective_run, io]
  refine CL_post rc fun v h1 ⟨hp1, us, N⟩ => ?_
  have kT := clo_ok k.ed
  have Ns := N
  obtain ⟨ta, tc, e⟩ := N.shape
  rw [kT.len] at e
  subst e
  have H1 := (H0.ext hp1).alloc [.slice ta js.length tc]
  have lj := fun {l : Hp} => (H0.ext hp1).blx (P := P) 0 1 rfl rfl l t_S_impl_Job 0
  generalize hHb : h1 ++ [some ⟨[.slice ta js.length tc], 0, false⟩] = hb at H1
  have hbl : hb.length = h1.length + 1 := by rw [← hHb]; simp
  have pF : h1 <+: hb := by rw [← hHb]; exact List.prefix_append ..
  have E : Holds hb (hb ++ [some ⟨[.slice none 0 0], 0, false⟩, some ⟨[.int .i64 0], 0, false⟩, some ⟨[.bool false], 0, false⟩]) (bxE hb.length (hb.length + 1) (hb.length + 1 + 1) (.slice none 0 0) sr0 ++ []) := by
    have := own_nil ((((Holds.start (h := hb)).alloc [.slice none 0 0]).alloc [.int .i64 0]).alloc [.bool false]) Int encI 1
    simp only [List.append_assoc, List.cons_append, List.nil_append, List.length_append, List.length_cons, List.length_nil, Nat.zero_add] at this
    exact this
  have er := eachOrder_run (hb := hb) (g := n_impl_BestExtension_1) (c := #[.pointer (some ⟨h1.length, 0, some 1⟩), .pointer (some ⟨h.length, 0, some 1⟩), .pointer (some ⟨h.length + 1, 0, some 1⟩), .pointer (some ⟨hb.length + 1 + 1, 0, some 1⟩), .pointer (some ⟨hb.length + 1, 0, some 1⟩), .pointer (some ⟨hb.length, 0, some 1⟩)]) hn
    (Q := fun i BX => ∃ vo, BX = bxE hb.length (hb.length + 1) (hb.length + 1 + 1) vo (((ordsL js.length).take i).foldl (updG (extG (clo js.length [(x, y)]) []) (valX o js)) sr0))
    (fun i BX i' BX' h h' L u ⟨vf, e⟩ ⟨vf', e'⟩ HL H' => by
      subst e; subst e'
      exact gcE HL H')
    (fun i xs h BX vg ⟨vf, eBX⟩ hxs HB => by
      subst eBX
      have ox := ords_ord (List.mem_of_getElem? hxs)
      refine RunsC.mono (tellE_run (Js.pre H1.pre) (Ns.pre pF) kT (H1.box 2 rfl) (H1.box 0 rfl) (H1.box 1 rfl) hg hn ho ox HB) fun v h' ⟨vf', Fx⟩ => ?_
      refine ⟨_, ⟨vf', rfl⟩, fun L HL => ?_⟩
      rw [take_succ' hxs, List.foldl_append, List.foldl_cons, List.foldl_nil]
      exact Fx L HL) ⟨_, rfl⟩ E
  have hcount : hb ++ [some ⟨[.slice none 0 0], 0, false⟩, some ⟨[.int .i64 0], 0, false⟩, some ⟨[.bool false], 0, false⟩] = h1 ++ [some ⟨[.slice ta js.length tc], 0, false⟩, some ⟨[.slice none 0 0], 0, false⟩, some ⟨[.int .i64 0], 0, false⟩, some ⟨[.bool false], 0, false⟩] := by rw [← hHb]; simp
  rw [hcount, hbl] at er
  rw [hcount, hbl] at E
  simp -implicitDefEqProofs [lj]
  refine CL_post er fun v h4 ⟨BX', ⟨vf, eBX⟩, Fx⟩ => ?_
  subst eBX
  have H4 := Fx [] E
  rw [List.take_length] at H4
  have s4 : Ints h4 vf (extB js o x y).o := H4.sees 3 rfl
  obtain ⟨a, c, rfl⟩ := s4.shapeT
  have l0 := H4.bl (P := P) 0 1 rfl rfl
  simp -implicitDefEqProofs [l0]
  exact onK hK ⟨pre_gcU (H1.pre.trans H4.pre), _, rfl, Sees.gcU s4 fun g => plainT (r := [_]) g⟩
theorem specBestExtension_run (k : One js.length x y) (J : Jobs h vj js) (jok : jOk js = true) (E : Prs h ve [(x, y)]) (ho : 1 ≤ o ∧ o ≤ 8) : RunsC P G n_spec_BestExtension [vj, ve, .int .i64 o] h fun w h' => h <+: h' ∧ ∃ d, w = .tuple #[d, .bool true] ∧ Ints h' d (extB js o x y).o := by
  have kT := clo_ok k.ed
  have best : ∀ {h : Hp} {vj ve : Value}, Jobs h vj js → Prs h ve [(x, y)] → RunsC P G n_spec_l4Best [vj, ve, .int .i64 o] h fun w h' => h <+: h' ∧ ∃ d u, w = .tuple #[d, .int .i64 u] ∧ Ints h' d (extB js o x y).o := fun {h vj ve} J E => by
    refine hideC fun K hK => enter_run e_spec_l4Best (by simp) ?_
    have Js := J
    have Es := E
    obtain ⟨oj, cj, rfl⟩ := J.shapeT
    obtain ⟨ea, ec, rfl⟩ : ∃ a c, ve = .slice a 1 c := E.shapeT
    obtain ⟨hn, hg⟩ := jOk_of jok
    simp -implicitDefEqProofs
    refine CL_post (l4Table_run hn Es (by simp) k.ed) fun v h1 ⟨hp1, us, N⟩ => ?_
    have Ns := N
    obtain ⟨ta, tc, e⟩ := N.shape
    subst e
    have N0 : Ints h1 (.slice none 0 0) ([] : List Int) := ⟨by simp, none, 0, rfl, .inl ⟨rfl, rfl, rfl⟩⟩
    have r := l4Try_run (o := o) kT hg hn ho (k := js.length) (b := sr0) (Js.pre hp1) Ns N0 N0 (by simp) (fun x hx => by cases hx) List.nodup_nil (by simp [sr0])
    have eb : dfsR (clo js.length [(x, y)]) (updG (fun _ => true) (valX o js)) js.length js.length [] sr0 = extB js o x y := by
      rw [dfsR_ok rfl (fun a ha => by cases ha), dfsR_eq (fun i _ => k.diag i) (by simp) (fun x hx => by cases hx) List.nodup_nil, bestG_dfs]; rfl
    rw [eb] at r
    simp -implicitDefEqProofs
    refine CL_post r fun v h2 ⟨hp2, _, vo, ev, O1⟩ => ?_
    subst ev
    have Os := O1
    obtain ⟨a, c, rfl⟩ := O1.shapeT
    have H2 := (Holds.start (h := h2)).alloc [.slice a (extB js o x y).o.length c, .int .i64 (extB js o x y).v, .int .i64 (extB js o x y).c]
    have lb := H2.bl (P := P) 0 3 rfl rfl
    simp -implicitDefEqProofs [lb]
    exact onK hK ⟨pre_gcU (hp1.trans (hp2.trans H2.pre)), _, _, rfl, Sees.gcU (Os.pre H2.pre) fun g => plainT (r := [_]) g⟩
  refine hideC fun K hK => enter_run e_spec_BestExtension (by simp) ?_
  have Js := J
  have Es := E
  obtain ⟨oj, cj, rfl⟩ := J.shapeT
  obtain ⟨ea, ec, rfl⟩ : ∃ a c, ve = .slice a 1 c := E.shapeT
  have r1 := l4Two_one k Js jok Es
  have io : inB o 1 8 = true := by simp [inB]; omega
  simp -implicitDefEqProofs [CL_ret r1, CL_ret l2Objective_run, io]
  refine CL_post (best Js Es) fun v h1 ⟨hp1, d, u, ev, D⟩ => ?_
  subst ev
  obtain ⟨da, dc, rfl⟩ : ∃ a c, d = .slice a (extB js o x y).o.length c := D.shapeT
  simp -implicitDefEqProofs
  exact onK hK ⟨pre_gcU hp1, _, rfl, Sees.gcU D fun g => plainT (r := [_]) g⟩
end
end Go.Pm.PP

/- Tables of the least values of sets, by both. -/
set_option linter.unusedVariables false
set_option linter.unusedSimpArgs false
set_option maxRecDepth 4000
set_option maxHeartbeats 8000000
namespace Go.Pm.PP
open Go.Pm Go.Proofs Go.Pm.PE
/-! ### digits in the machine -/
theorem pow_le60 {i : Nat} (h : i ≤ 60) : 0 < 2 ^ i ∧ 2 ^ i ≤ 2 ^ 60 := ⟨Nat.two_pow_pos i, Nat.pow_le_pow_right (by omega) h⟩
/-- A digit is taken away, as the machine has it. -/
theorem clr_val {k i b z : Nat} (hk : k < 2 ^ 60) (hb : b = 2 ^ i) (ht : k.testBit i = true) (hz : z = k - 2 ^ i) : IntKind.i64.wrap ↑(((k : Int) % 2 ^ IntKind.i64.bits).toNat &&& 2 ^ IntKind.i64.bits - 1 - ((b : Int) % 2 ^ IntKind.i64.bits).toNat) = (z : Int) := by
  have hbits : IntKind.i64.bits = 64 := rfl
  have hle := bit_le ht
  have e1 : ∀ n : Nat, n < 2 ^ 60 → ((n : Int) % 2 ^ IntKind.i64.bits).toNat = n := fun n hn => by
    have h5 : (n : Int) < 2 ^ 64 := by omega
    rw [hbits, Int.emod_eq_of_lt (Int.natCast_nonneg _) h5, Int.toNat_natCast]
  rw [e1 k hk, e1 b (by omega), hbits]
  have e2 : k &&& 2 ^ 64 - 1 - b = z := by
    refine Nat.eq_of_testBit_eq fun j => ?_
    rw [hz, bit_sub ht, Nat.testBit_and, show 2 ^ 64 - 1 - b = 2 ^ 64 - (b + 1) by omega, Nat.testBit_two_pow_sub_succ (by omega), hb, Nat.testBit_two_pow]
    cases hj : k.testBit j with
    | false => rfl
    | true =>
      have := bit_lt hk hj
      rw [Bool.true_and, Bool.true_and, show decide (j < 64) = true by simp; omega, Bool.true_and]
      congr 1
      simp only [decide_eq_decide]
      exact eq_comm
  rw [e2, wrap_ok (by omega) (by omega)]
theorem listOf_run {h : Hp} {n c : Nat} (hn : n ≤ 50) (hc : c < 2 ^ n) : RunsC P G n_impl_listOf [.int .i64 c] h fun v h' => h <+: h' ∧ Own h.length h' v 1 ((bitsL n c).map encI) := by
  refine hideC fun K hK => enter_run e_impl_listOf (by simp) ?_
  have H0 := own_nil (Holds.start (h := h)) Int encI 1
  have hc60 : c < 2 ^ 60 := by have : 2 ^ n ≤ 2 ^ 50 := Nat.pow_le_pow_right (by omega) hn; omega
  simp -implicitDefEqProofs
  refine R_loopO (fun m s h' => ∃ (i : Nat) (u : Value), i + m = n ∧ s = [(0, .int .i64 c), (3, u), (4, .int .i64 i)] ∧ Holds h h' [.own u 1 ((bitsL i c).map encI)]) (fun I hI m s h' => ?_) (n := n) ⟨0, _, Nat.zero_add _, by simp; rfl, by simpa [bitsL] using H0⟩
  rintro ⟨i, u, hi, rfl, H⟩
  by_cases hlt : 0 < c / 2 ^ i
  · have hin : i < n := by
      have h1 : 2 ^ i ≤ c := (Nat.div_pos_iff.1 hlt).2
      exact (Nat.pow_lt_pow_iff_right (by omega : 1 < 2)).1 (Nat.lt_of_le_of_lt h1 hc)
    have hlt' : (0 : Int) < (c : Int) / 2 ^ i := by
      have : ((c : Int) / 2 ^ i) = ((c / 2 ^ i : Nat) : Int) := by simp
      omega
    have bl := @bits_len i c
    have bs := @bits_snoc i c
    have bv := bit_val (i := i) hc60
    cases ct : c.testBit i
    · rw [ct, if_neg (by simp)] at bs bv
      rw [List.append_nil] at bs
      simp -implicitDefEqProofs [hlt', shr_eq hc60, bv, winc hin (by omega)]
      exact ⟨m - 1, by omega, on hI ⟨i + 1, _, by omega, rfl, by rw [bs]; exact H⟩⟩
    · rw [ct, if_pos rfl] at bs bv
      obtain ⟨v', h2, ha, H2, _⟩ := push_I0 H 0 rfl (i : Int) (by omega)
      simp -implicitDefEqProofs [hlt', shr_eq hc60, bv, ha, winc hin (by omega)]
      exact ⟨m - 1, by omega, on hI ⟨i + 1, _, by omega, rfl, by rw [bs]; exact H2⟩⟩
  · have h1 : c < 2 ^ i := by
      rcases Nat.lt_or_ge c (2 ^ i) with g | g
      · exact g
      · exact absurd (Nat.div_pos g (Nat.two_pow_pos i)) hlt
    rw [bits_any h1 hc] at H
    have hlt' : ¬ (0 : Int) < (c : Int) / 2 ^ i := by
      have : ((c : Int) / 2 ^ i) = ((c / 2 ^ i : Nat) : Int) := by simp
      omega
    simp -implicitDefEqProofs [hlt', shr_eq hc60]
    exact onK hK (H.ret 0 rfl)
section
variable {h : Hp} {vj v : Value} {js : List Job} {xs : List Int}
/-- A sum of times, bit by bit. -/
def timeGo (js : List Job) (xs : List Int) : Int := (xs.map fun x => (jA js x).t).sum
theorem time_take {js : List Job} {xs : List Int} {i : Nat} {y : Int} (hy : xs[i]? = some y) : timeGo js (xs.take (i + 1)) = timeGo js (xs.take i) + (jA js y).t := by
  unfold timeGo; rw [take_succ' hy, List.map_append, List.sum_append]; simp
theorem time_bd {js : List Job} (bd : Bd js) : ∀ {xs : List Int}, 0 ≤ timeGo js xs ∧ timeGo js xs ≤ xs.length * 2 ^ 20
  | [] => by simp [timeGo]
  | x :: xs => by
    have ih := time_bd bd (xs := xs)
    have := bd.t x
    have e : timeGo js (x :: xs) = (jA js x).t + timeGo js xs := rfl
    rw [e, List.length_cons]; omega
theorem timeOf_run {c : Nat} (J : Jobs h vj js) (hn : js.length ≤ 8) (hg : goodL js = true) (hc : c < 2 ^ js.length) : Ret P G n_impl_timeOf [vj, .int .i64 c] h (.int .i64 (timeC js c)) h := by
  refine enter_run e_impl_timeOf (by simp) ?_
  have Js := J
  obtain ⟨oj, cj, rfl⟩ := J.shapeT
  have bd := good_bd hg
  simp -implicitDefEqProofs
  refine CL_post (listOf_run (n := js.length) (by omega) hc) fun v1 h1 ⟨hp1, ho1⟩ => ?_
  have S1 : Ints h1 v1 (bitsL js.length c) := ho1.sees
  have e : timeC js c = timeGo js (bitsL js.length c) := rfl
  have hin : inN js.length (bitsL js.length c) := fun x hx => by have := mem_bits.1 hx; omega
  have hl := @bits_len js.length c
  rw [e]
  generalize bitsL js.length c = ys at *
  have S1s := S1
  obtain ⟨oy, cy, rfl⟩ := S1.shapeT
  simp -implicitDefEqProofs
  refine R_loopO (fun m s h' => ∃ (i : Nat), i + m = ys.length ∧ s = [(0, .slice oj js.length cj), (5, .int .i64 (timeGo js (ys.take i))), (9, .slice oy ys.length cy), (10, .int .i64 ys.length), (11, .int .i64 i)] ∧ h' = h1) (fun I hI m s h' => ?_) (n := ys.length)
    ⟨0, Nat.zero_add _, by simp [timeGo], rfl⟩
  rintro ⟨i, hi, rfl, rfl⟩
  by_cases hlt : i < ys.length
  · obtain ⟨y, hy, _⟩ := drop_at hlt
    have ly := load_I S1s hy
    have lj := load_JX (Js.pre hp1) (hin y (List.mem_of_getElem? hy))
    have tb := time_bd bd (xs := ys.take i)
    have bt := bd.t y
    have tl : (ys.take i).length ≤ 8 := by rw [List.length_take]; omega
    have w1 : IntKind.i64.wrap (timeGo js (ys.take i) + (jA js y).t) = timeGo js (ys.take (i + 1)) := by rw [time_take hy, wrap_ok] <;> omega
    simp -implicitDefEqProofs [-indexAddrP_some, hlt, ly, lj, w1, winc hlt (by omega)]
    exact ⟨m - 1, by omega, on hI ⟨i + 1, by omega, rfl, rfl⟩⟩
  · rw [List.take_of_length_le (by omega)]
    simp -implicitDefEqProofs [hlt]
    exact gcP hp1 rfl
theorem good_time {js : List Job} (hg : goodL js = true) (hn : js.length ≤ 8) {c : Nat} : 0 ≤ timeC js c ∧ timeC js c ≤ 2 ^ 23 := by
  have := time_bd (good_bd hg) (xs := bitsL js.length c)
  have := @bits_len js.length c
  have e : timeC js c = timeGo js (bitsL js.length c) := rfl
  rw [e]; omega
theorem time_bits {i c : Nat} {js : List Job} : timeGo js (bitsL (i + 1) c) = timeGo js (bitsL i c) + if c.testBit i = true then (jA js i).t else 0 := by
  rw [bits_snoc]
  unfold timeGo
  rw [List.map_append, List.sum_append]
  split <;> simp
theorem l6Times_run {c : Nat} (J : Jobs h vj js) (hn : js.length ≤ 8) (hg : goodL js = true) (hc : c < 2 ^ 60) : Ret P G n_spec_l6Times [vj, .int .i64 c] h (.int .i64 (timeC js c)) h := by
  refine enter_run e_spec_l6Times (by simp) ?_
  have Js := J
  obtain ⟨oj, cj, rfl⟩ := J.shapeT
  have bd := good_bd hg
  simp -implicitDefEqProofs
  refine R_loopO (fun m s h' => ∃ (i : Nat), i + m = js.length ∧ s = [(0, .slice oj js.length cj), (1, .int .i64 c), (5, .int .i64 (timeGo js (bitsL i c))), (6, .int .i64 i)] ∧ h' = h) (fun I hI m s h' => ?_) (n := js.length)
    ⟨0, Nat.zero_add _, by simp [timeGo, bitsL], rfl⟩
  rintro ⟨i, hi, rfl, rfl⟩
  by_cases hlt : i < js.length
  · have lj := load_JX Js (x := (i : Int)) (by omega)
    have tb := time_bd bd (xs := bitsL i c)
    have tl := @bits_len i c
    have bt := bd.t i
    have bv := bit_val (i := i) hc
    have tt := @time_bits i c js
    cases ct : c.testBit i
    · rw [ct, if_neg (by simp)] at bv tt
      rw [Int.add_zero] at tt
      simp -implicitDefEqProofs [-indexAddrP_some, hlt, shr_eq hc, bv, winc hlt (by omega)]
      exact ⟨m - 1, by omega, on hI ⟨i + 1, by omega, by rw [tt]; rfl, rfl⟩⟩
    · rw [ct, if_pos rfl] at bv tt
      have w1 : IntKind.i64.wrap (timeGo js (bitsL i c) + (jA js i).t) = timeGo js (bitsL (i + 1) c) := by rw [tt, wrap_ok] <;> omega
      rw [Int.toNat_natCast] at lj
      simp -implicitDefEqProofs [-indexAddrP_some, hlt, shr_eq hc, bv, lj, w1, winc hlt (by omega)]
      exact ⟨m - 1, by omega, on hI ⟨i + 1, by omega, rfl, rfl⟩⟩
  · have : i = js.length := by omega
    subst this
    simp -implicitDefEqProofs [hlt]
    rfl
/-! ### objectives that are sums -/
def sumB (o : Int) : Bool := inB o 1 8 && !(o == 1) && !(o == 4)
theorem sumB_of {o : Int} (h : sumB o = true) : (1 ≤ o ∧ o ≤ 8) ∧ ¬ o = 1 ∧ ¬ o = 4 := by
  simp only [sumB, Bool.and_eq_true, Bool.not_eq_true', beq_eq_false_iff_ne] at h
  exact ⟨inB_of h.1.1, h.1.2, h.2⟩
theorem costV_mono {o : Int} {j : Job} {e e' : Int} (hw : 0 ≤ j.w) (h : e ≤ e') : costV o j e ≤ costV o j e' := by
  unfold costV
  split
  · exact h
  split
  · exact Int.mul_le_mul_of_nonneg_left h hw
  split
  · omega
  split
  · exact Int.mul_le_mul_of_nonneg_left (by omega) hw
  split
  · split
    · exact Int.le_refl _
    · split <;> omega
  · split
    · omega
    · split <;> omega
theorem good_cb {o : Int} {js : List Job} (hg : goodL js = true) (ho : sumB o = true) : Cb o js := by
  obtain ⟨h1, h2, h3⟩ := sumB_of ho
  have z1 : ∀ e, 0 ≤ e → 0 ≤ costV o ⟨0, 0, 0, 0⟩ e ∧ costV o ⟨0, 0, 0, 0⟩ e ≤ e + 1 := by
    intro e he
    unfold costV
    split
    · omega
    split
    · simp; omega
    split
    · simp only; omega
    split
    · simp; omega
    split
    · omega
    split <;> simp <;> omega
  have hw : ∀ x, 0 ≤ (jA js x).w := by
    intro x
    rcases @jA_in js x with g | g
    · exact (job_of (List.all_eq_true.1 hg _ g)).2.1.1
    · rw [g]; exact Int.le_refl _
  refine ⟨fun x e he => ?_, fun x e he he2 => ?_, fun x e e' _ h => costV_mono (hw x) h⟩
  · rcases @jA_in js x with g | g
    · have hj := job_of (List.all_eq_true.1 hg _ g)
      unfold costV
      have m1 := Int.mul_nonneg hj.2.1.1 he
      have m2 := Int.mul_nonneg hj.2.1.1 (show 0 ≤ max (e - (jA js x).d) 0 by omega)
      split
      · exact he
      split
      · exact m1
      split
      · omega
      split
      · exact m2
      split
      · omega
      split <;> omega
    · rw [g]; exact (z1 e he).1
  · rcases @jA_in js x with g | g
    · exact (cost_bd (List.all_eq_true.1 hg _ g) he he2).2
    · rw [g]; have := (z1 e he).2; omega
end
end Go.Pm.PP

/- Tables of the least values of sets, by both: the tables. -/
set_option linter.unusedVariables false
set_option linter.unusedSimpArgs false
set_option maxRecDepth 4000
set_option maxHeartbeats 8000000
namespace Go.Pm.PP
open Go.Pm Go.Proofs Go.Pm.PE
theorem sum_bd {o : Int} {js : List Job} (p : Pl js) (cb : Cb o js) (bd : ∀ x, (jA js x).t ≤ 50) : ∀ {xs : List Int} {now : Int}, 0 ≤ now → now + xs.length * 50 ≤ 2 ^ 20 → sumGo o js now xs ≤ xs.length * 2 ^ 27
  | [], now, _, _ => by simp [sumGo]
  | x :: xs, now, h, hb => by
    have t0 := p.t x
    have t1 := bd x
    rw [List.length_cons] at hb ⊢
    have ih := sum_bd p cb bd (xs := xs) (now := now + (jA js x).t) (by omega) (by omega)
    have := cb.hi x (now + (jA js x).t) (by omega) (by omega)
    rw [sumGo, p.endAt h]; omega
theorem good_t50 {js : List Job} (hg : goodL js = true) (x : Int) : (jA js x).t ≤ 50 := by
  rcases @jA_in js x with g | g
  · exact (job_of (List.all_eq_true.1 hg _ g)).1.2
  · rw [g]; simp
theorem tab_bd {o s : Int} {js : List Job} (hok : plOk js = true) (ho : sumB o = true) (hs : 0 ≤ s ∧ s ≤ 2 ^ 19) {m c : Nat} (h : c ≤ m) (hc : c < 2 ^ js.length) : 0 ≤ gE (tabV o js s m) c ∧ gE (tabV o js s m) c ≤ 2 ^ 30 := by
  obtain ⟨hn, hg, _⟩ := plOk_of hok
  have p := plOk_pl hok
  have cb := good_cb hg ho
  obtain ⟨⟨xs, hx, e⟩, _⟩ := tab_spec p cb hs.1 h hc
  have hl : xs.length ≤ 8 := by rw [hx.length_eq]; have := @bits_len js.length c; omega
  have h1 := sum_nonneg p cb (xs := xs) hs.1
  have h2 := sum_bd p cb (good_t50 hg) (xs := xs) hs.1 (by omega)
  rw [e]; omega
theorem last_bd {o s : Int} {js : List Job} (hok : plOk js = true) (ho : sumB o = true) (hs : 0 ≤ s ∧ s ≤ 2 ^ 19) {m c i : Nat} (h : c ≤ m + 1) (hc : c < 2 ^ js.length) (hi : c.testBit i = true) : 0 ≤ lastC o js s (tabV o js s m) c i ∧ lastC o js s (tabV o js s m) c i ≤ 2 ^ 31 := by
  obtain ⟨hn, hg, _⟩ := plOk_of hok
  have hle := bit_le hi
  have hpos := Nat.two_pow_pos i
  have g1 : c - 2 ^ i ≤ m := by omega
  have g2 : c - 2 ^ i < 2 ^ js.length := by omega
  have tb := tab_bd hok ho hs g1 g2
  have cb := good_cb hg ho
  have tt := good_time hg hn (c := c)
  have tl : timeC js c ≤ 8 * 50 := by
    have key : ∀ l : List Int, timeGo js l ≤ l.length * 50 := by
      intro l
      induction l with
      | nil => simp [timeGo]
      | cons x l ih =>
        have := good_t50 hg x
        have e : timeGo js (x :: l) = (jA js x).t + timeGo js l := rfl
        rw [e, List.length_cons]; omega
    have := key (bitsL js.length c)
    have := @bits_len js.length c
    have e : timeC js c = timeGo js (bitsL js.length c) := rfl
    rw [e]; omega
  have c1 := cb.lo i (s + timeC js c) (by omega)
  have c2 := cb.hi i (s + timeC js c) (by omega) (by omega)
  unfold lastC
  omega
/-- The best one, along the list of a set. -/
def stepL (o : Int) (js : List Job) (s : Int) (T : List Int) (c : Nat) (b : Int) (x : Int) : Int := if b < 0 ∨ lastC o js s T c x.toNat < b then lastC o js s T c x.toNat else b
theorem best_bits {o s : Int} {js : List Job} {T : List Int} {c : Nat} : bestC o js s T c = (bitsL js.length c).foldl (stepL o js s T c) (-1) := by
  unfold bestC bitsL
  rw [List.foldl_map, List.foldl_filter]
  exact fold_congr fun i _ b => by simp only [stepC, stepL, Int.toNat_natCast]
section
variable {h : Hp} {vj v : Value} {js : List Job} {xs : List Int} {o : Int}
theorem setValues_run {s : Int} (J : Jobs h vj js) (hok : plOk js = true) (ho : sumB o = true) (hs : 0 ≤ s ∧ s ≤ 2 ^ 19) : RunsC P G n_impl_setValues [vj, .int .i64 o, .int .i64 s] h fun w h' => h <+: h' ∧ Own h.length h' w 1 ((tabV o js s (2 ^ js.length - 1)).map encI) := by
  refine hideC fun K hK => enter_run e_impl_setValues (by simp) ?_
  have Js := J
  obtain ⟨oj, cj, rfl⟩ := J.shapeT
  obtain ⟨hn, hg, _⟩ := plOk_of hok
  obtain ⟨ho8, ho1, ho4⟩ := sumB_of ho
  obtain ⟨d, hd⟩ : ∃ d, d = 2 ^ js.length := ⟨_, rfl⟩
  have d1 : 1 ≤ d ∧ d ≤ 256 := by
    have := Nat.two_pow_pos js.length
    have : 2 ^ js.length ≤ 2 ^ 8 := Nat.pow_le_pow_right (by omega) hn
    omega
  have sh := shl_eq (i := js.length) (by omega)
  rw [← hd] at sh hK
  obtain ⟨v1, h1, mk, H1, hp1, oa, rfl⟩ := make_I (Holds.start (h := h)) (n := d) (by omega)
  have H1 : Holds h h1 [.own (.slice oa d d) 1 ((List.replicate d (0 : Int)).map encI)] := H1
  simp -implicitDefEqProofs [sh, mk]
  refine R_loopO (fun m st h' => ∃ (c k : Nat), k = c + 1 ∧ k + m = d ∧ st = [(0, .slice oj js.length cj), (1, .int .i64 o), (2, .int .i64 s), (7, .slice oa d d), (8, .int .i64 k)] ∧ Holds h h' [.own (.slice oa d d) 1 ((tabV o js s c ++ List.replicate m 0).map encI)]) (fun I hI m st h' => ?_) (n := d - 1)
    ⟨0, 1, rfl, by omega, by simp, by
      have e : tabV o js s 0 ++ List.replicate (d - 1) 0 = List.replicate d 0 := by
        obtain ⟨k, rfl⟩ : ∃ k, d = k + 1 := ⟨d - 1, by omega⟩
        rw [List.replicate_succ]; rfl
      rw [e]; exact H1⟩
  rintro ⟨c, k, hkc, hkm, rfl, H⟩
  by_cases hlt : k < d
  · obtain ⟨m', rfl⟩ : ∃ m', m = m' + 1 := ⟨m - 1, by omega⟩
    have hlt' : (k : Int) < d := by omega
    have hcd : k < 2 ^ js.length := by omega
    have rt := timeOf_run (c := k) (Js.pre H.pre) hn hg hcd
    have tt := good_time hg hn (c := k)
    have w1 : IntKind.i64.wrap (s + timeC js k) = s + timeC js k := by rw [wrap_ok] <;> omega
    have tl := @tabV_len o s js c
    obtain ⟨h2, s2, H2, k2⟩ := put_I H 0 rfl (j := k) (by simp; omega) (-1)
    have e2 : ∀ z, (tabV o js s c ++ List.replicate (m' + 1) 0).set k z = tabV o js s c ++ z :: List.replicate m' 0 := fun z => by
      rw [List.set_append_right (h := by omega), show k - (tabV o js s c).length = 0 by omega, List.replicate_succ]; rfl
    rw [e2] at H2
    have hg2 : (tabV o js s c ++ List.replicate (m' + 1) 0)[k]? = some 0 := by rw [List.getElem?_append_right (by omega), show k - (tabV o js s c).length = 0 by omega]; rfl
    have ix := (load_I (H.sees 0 rfl) hg2).1
    simp -implicitDefEqProofs [-indexAddrP_some, hlt, hlt', CL_ret rt, w1, ix, s2]
    refine CL_post (listOf_run (n := js.length) (by omega) hcd) fun v3 h3 ⟨hp3, ho3⟩ => ?_
    have H3 := H2.call hp3 ho3
    have S3 : Ints h3 v3 (bitsL js.length k) := ho3.sees
    have bb := best_bits (o := o) (s := s) (js := js) (T := tabV o js s c) (c := k)
    have hbit : ∀ x, x ∈ bitsL js.length k → 0 ≤ x ∧ x < js.length ∧ k.testBit x.toNat = true := fun x hx => mem_bits.1 hx
    have hbl := @bits_len js.length k
    generalize bitsL js.length k = ys at *
    obtain ⟨oy, cy, rfl⟩ : ∃ a c, v3 = .slice a ys.length c := S3.shapeT
    simp -implicitDefEqProofs
    refine R_loopO (fun m2 st h4 => ∃ (i : Nat), i + m2 = ys.length ∧ st = [(0, .slice oj js.length cj), (1, .int .i64 o), (2, .int .i64 s), (7, .slice oa d d), (8, .int .i64 k), (9, .int .i64 (s + timeC js k)), (32, .slice oy ys.length cy), (33, .int .i64 ys.length), (34, .int .i64 i)] ∧
      Holds h h4 [.own (.slice oa d d) 1 ((tabV o js s c ++ ((ys.take i).foldl (stepL o js s (tabV o js s c) k) (-1)) :: List.replicate m' 0).map encI), .own (.slice oy ys.length cy) 1 (ys.map encI)]) (fun I2 hI2 m2 st h4 => ?_) (n := ys.length)
      ⟨0, Nat.zero_add _, by simp, H3⟩
    rintro ⟨i, him, rfl, H4⟩
    have S4 : Ints h4 (.slice oy ys.length cy) ys := H4.sees 1 rfl
    by_cases hli : i < ys.length
    · obtain ⟨y, hy, _⟩ := drop_at hli
      have hyb := hbit y (List.mem_of_getElem? hy)
      have ly := load_I S4 hy
      have lj := load_JX (Js.pre H4.pre) ⟨hyb.1, hyb.2.1⟩
      have hle := bit_le hyb.2.2
      have hpos := Nat.two_pow_pos y.toNat
      have g1 : k - 2 ^ y.toNat ≤ c := by omega
      have g2 : k - 2 ^ y.toNat < 2 ^ js.length := by omega
      have tb := tab_bd hok ho hs g1 g2
      obtain ⟨z, hz⟩ : ∃ z : Nat, z = k - 2 ^ y.toNat := ⟨_, rfl⟩
      have lz := load_I (H4.sees 0 rfl) (i := z) (x := gE (tabV o js s c) z) (by rw [List.getElem?_append_left (by omega)]; exact gE_get (by omega))
      obtain ⟨b, hb⟩ : ∃ b : Nat, b = 2 ^ y.toNat := ⟨_, rfl⟩
      have shy := shl_eq (i := y.toNat) (by omega)
      rw [show ((y.toNat : Nat) : Int) = y by omega, ← hb] at shy
      have cv := clr_val (k := k) (by omega) hb hyb.2.2 hz
      have jo : jobOk (jA js y) = true := by
        obtain ⟨q, hq, hql, hqy⟩ := jA_get (js := js) rfl ⟨hyb.1, hyb.2.1⟩
        exact job_at hg hqy
      have tl50 : timeC js k ≤ 2 ^ 19 := by
        have key : ∀ l : List Int, timeGo js l ≤ l.length * 50 := by
          intro l
          induction l with
          | nil => simp [timeGo]
          | cons x l ih =>
            have := good_t50 hg x
            have e : timeGo js (x :: l) = (jA js x).t + timeGo js l := rfl
            rw [e, List.length_cons]; omega
        have := key (bitsL js.length k)
        have := @bits_len js.length k
        have e : timeC js k = timeGo js (bitsL js.length k) := rfl
        rw [e]; omega
      rw [← hz] at tb
      have ra := fun {hh : Hp} => add_run (h := hh) (j := jA js y) (a := gE (tabV o js s c) z) (e := s + timeC js k) (o := o) (f := false) jo (by omega) (by omega) ho8 (by omega)
      have es : stepV o false (gE (tabV o js s c) z) (jA js y) (s + timeC js k) = lastC o js s (tabV o js s c) k y.toNat := by
        unfold stepV lastC
        rw [if_neg ho1, if_neg ho4, hz, show ((y.toNat : Nat) : Int) = y by omega]
      rw [es] at ra
      have lb := last_bd hok ho hs (m := c) (c := k) (i := y.toNat) (by omega) hcd hyb.2.2
      obtain ⟨V, hV⟩ : ∃ V, V = lastC o js s (tabV o js s c) k y.toNat := ⟨_, rfl⟩
      obtain ⟨b0, hb0⟩ : ∃ b0, b0 = (ys.take i).foldl (stepL o js s (tabV o js s c) k) (-1) := ⟨_, rfl⟩
      have eb : (ys.take (i + 1)).foldl (stepL o js s (tabV o js s c) k) (-1) = if b0 < 0 ∨ V < b0 then V else b0 := by
        rw [take_succ' hy, List.foldl_append, ← hb0, hV]; rfl
      rw [← hb0] at H4
      rw [← hV] at ra lb
      have hg4 : (tabV o js s c ++ b0 :: List.replicate m' 0)[k]? = some b0 := by rw [List.getElem?_append_right (by omega), show k - (tabV o js s c).length = 0 by omega]; rfl
      have lk := load_I (H4.sees 0 rfl) hg4
      by_cases c1 : b0 < 0 ∨ V < b0
      · rw [if_pos c1] at eb
        obtain ⟨h5, s5, H5, k5⟩ := put_I H4 0 rfl (j := k) (by simp; omega) V
        have e5 : (tabV o js s c ++ b0 :: List.replicate m' 0).set k V = tabV o js s c ++ V :: List.replicate m' 0 := by
          rw [List.set_append_right (h := by omega), show k - (tabV o js s c).length = 0 by omega]; rfl
        rw [e5] at H5
        rcases Classical.em (b0 < 0) with c2 | c2
        · simp -implicitDefEqProofs [-indexAddrP_some, hli, ly, shy, cv, lz, lj, CL_ret ra, CH_at ra, lk, c2, s5, winc hli (by omega)]
          exact ⟨m2 - 1, by omega, on hI2 ⟨i + 1, by omega, rfl, by rw [eb]; exact H5⟩⟩
        · have c3 : V < b0 := by rcases c1 with g | g; exact absurd g c2; exact g
          simp -implicitDefEqProofs [-indexAddrP_some, hli, ly, shy, cv, lz, lj, CL_ret ra, CH_at ra, lk, c2, c3, s5, winc hli (by omega)]
          exact ⟨m2 - 1, by omega, on hI2 ⟨i + 1, by omega, rfl, by rw [eb]; exact H5⟩⟩
      · rw [if_neg c1] at eb
        have c2 : ¬ b0 < 0 := fun g => c1 (.inl g)
        have c3 : ¬ V < b0 := fun g => c1 (.inr g)
        simp -implicitDefEqProofs [-indexAddrP_some, hli, ly, shy, cv, lz, lj, CL_ret ra, CH_at ra, lk, c2, c3, winc hli (by omega)]
        exact ⟨m2 - 1, by omega, on hI2 ⟨i + 1, by omega, rfl, by rw [eb]; exact H4⟩⟩
    · rw [List.take_of_length_le (by omega), ← bb] at H4
      simp -implicitDefEqProofs [hli, winc hlt (by omega)]
      refine ⟨m', by omega, on hI ⟨c + 1, k + 1, by omega, by omega, by simp, ?_⟩⟩
      have e6 : tabV o js s (c + 1) ++ List.replicate m' 0 = tabV o js s c ++ bestC o js s (tabV o js s c) k :: List.replicate m' 0 := by
        rw [tabV, ← hkc, List.append_assoc]; rfl
      rw [e6]
      exact H4.one 0 rfl
  · have hm : m = 0 := by omega
    subst hm
    rw [List.replicate_zero, List.append_nil, show c = d - 1 by omega] at H
    simp -implicitDefEqProofs [hlt]
    exact onK hK (H.ret 0 rfl)
/-! ### by the reference -/
theorem l6Last_run {s0 c i : Nat} {vt : Value} {T : List Int} (J : Jobs h vj js) (X : Ints h vt T) (hn : js.length ≤ 8) (hg : goodL js = true) (ho : sumB o = true) (hc : c < 2 ^ js.length) (hi : c.testBit i = true) (hT : c - 2 ^ i < T.length) (ht : 0 ≤ gE T (c - 2 ^ i) ∧ gE T (c - 2 ^ i) ≤ 2 ^ 31) :
    Ret P G n_spec_l6Last [vj, .int .i64 o, vt, .int .i64 c, .int .i64 i] h (.int .i64 (lastC o js 0 T c i)) h := by
  refine enter_run e_spec_l6Last (by simp) ?_
  have Js := J
  have Xs := X
  obtain ⟨oj, cj, rfl⟩ := J.shapeT
  obtain ⟨ot, ct, rfl⟩ := X.shapeT
  have hil := bit_lt hc hi
  have hle := bit_le hi
  have hpos := Nat.two_pow_pos i
  have h8 : 2 ^ js.length ≤ 2 ^ 8 := Nat.pow_le_pow_right (by omega) hn
  obtain ⟨ho8, ho1, ho4⟩ := sumB_of ho
  have rt := fun {hh : Hp} (hp : h <+: hh) => l6Times_run (c := c) (Js.pre hp) hn hg (by omega)
  have tt := good_time hg hn (c := c)
  have cb := good_cb hg ho
  have tl50 : timeC js c ≤ 2 ^ 19 := by
    have key : ∀ l : List Int, timeGo js l ≤ l.length * 50 := by
      intro l
      induction l with
      | nil => simp [timeGo]
      | cons x l ih =>
        have := good_t50 hg x
        have e : timeGo js (x :: l) = (jA js x).t + timeGo js l := rfl
        rw [e, List.length_cons]; omega
    have := key (bitsL js.length c)
    have := @bits_len js.length c
    have e : timeC js c = timeGo js (bitsL js.length c) := rfl
    rw [e]; omega
  have jo : jobOk (jA js i) = true := by
    obtain ⟨q, hq, hql, hqy⟩ := jA_get (js := js) (x := (i : Int)) rfl (by omega)
    exact job_at hg hqy
  have rc := fun {hh : Hp} => l2Cost_run (h := hh) (j := jA js i) (e := timeC js c) (o := o) jo (by omega) (by omega) ho8 ho1 ho4
  have c1 := cb.lo i (timeC js c) (by omega)
  have c2 := cb.hi i (timeC js c) (by omega) (by omega)
  obtain ⟨z, hz⟩ : ∃ z : Nat, z = c - 2 ^ i := ⟨_, rfl⟩
  obtain ⟨b, hb⟩ : ∃ b : Nat, b = 2 ^ i := ⟨_, rfl⟩
  have shy := shl_eq (i := i) (by omega)
  rw [← hb] at shy
  rw [← hz] at hT ht
  have wz : IntKind.i64.wrap ((c : Int) - (b : Int)) = (z : Int) := by rw [wrap_ok] <;> omega
  have lz := load_I Xs (gE_get hT)
  have lj := load_JX Js (x := (i : Int)) (by omega)
  rw [Int.toNat_natCast] at lj
  have w2 : IntKind.i64.wrap (gE T z + costV o (jA js i) (timeC js c)) = gE T z + costV o (jA js i) (timeC js c) := by rw [wrap_ok] <;> omega
  have e : lastC o js 0 T c i = gE T z + costV o (jA js i) (timeC js c) := by unfold lastC; rw [Int.zero_add, hz]
  rw [e]
  simp -implicitDefEqProofs [-indexAddrP_some, shy, wz, lz, lj, CL_ret (rt List.prefix_rfl), CH_at (rt List.prefix_rfl), CL_ret rc, CH_at rc, w2]
theorem l6Values_run (J : Jobs h vj js) (hok : plOk js = true) (ho : sumB o = true) : RunsC P G n_spec_l6Values [vj, .int .i64 o] h fun w h' => h <+: h' ∧ Own h.length h' w 1 ((tabV o js 0 (2 ^ js.length - 1)).map encI) := by
  refine hideC fun K hK => enter_run e_spec_l6Values (by simp) ?_
  have Js := J
  obtain ⟨oj, cj, rfl⟩ := J.shapeT
  obtain ⟨hn, hg, _⟩ := plOk_of hok
  obtain ⟨d, hd⟩ : ∃ d, d = 2 ^ js.length := ⟨_, rfl⟩
  have d1 : 1 ≤ d ∧ d ≤ 256 := by
    have := Nat.two_pow_pos js.length
    have : 2 ^ js.length ≤ 2 ^ 8 := Nat.pow_le_pow_right (by omega) hn
    omega
  have sh := shl_eq (i := js.length) (by omega)
  rw [← hd] at sh hK
  have H0 : Holds h (h ++ [some ⟨[.int .i64 0], 1, false⟩]) [.own (.slice (some ⟨h.length, 0, some 1⟩) 1 1) 1 ((tabV o js 0 0).map encI)] := by
    have := (Holds.start (h := h)).lit (sz := 1) (n := 1) (els := ([0] : List Int).map encI) (len_I [0]) (by simp)
    have e0 : tabV o js 0 0 = [0] := rfl
    rw [e0]
    simpa [encI] using this
  simp -implicitDefEqProofs
  refine R_loopO (fun m st h' => ∃ (c k : Nat) (u : Value), k = c + 1 ∧ k + m = d ∧ st = [(0, .slice oj js.length cj), (1, .int .i64 o), (5, u), (6, .int .i64 k)] ∧ Holds h h' [.own u 1 ((tabV o js 0 c).map encI)]) (fun I hI m st h' => ?_) (n := d - 1)
    ⟨0, 1, _, rfl, by omega, by simp, H0⟩
  rintro ⟨c, k, u, hkc, hkm, rfl, H⟩
  have tl := @tabV_len o 0 js c
  have S : Ints h' u (tabV o js 0 c) := H.sees 0 rfl
  by_cases hlt : k < d
  · have hlt' : (k : Int) < d := by omega
    have hcd : k < 2 ^ js.length := by omega
    simp -implicitDefEqProofs [sh, hlt, hlt']
    refine R_loopO (fun m2 st h4 => ∃ (i : Nat), i + m2 = js.length ∧ st = [(0, .slice oj js.length cj), (1, .int .i64 o), (5, u), (6, .int .i64 k), (7, .int .i64 ((List.range' 0 i).foldl (stepC o js 0 (tabV o js 0 c) k) (-1))), (8, .int .i64 i)] ∧ h4 = h') (fun I2 hI2 m2 st h4 => ?_) (n := js.length)
      ⟨0, Nat.zero_add _, by simp, rfl⟩
    rintro ⟨i, him, rfl, rfl⟩
    obtain ⟨b0, hb0⟩ : ∃ b0, b0 = (List.range' 0 i).foldl (stepC o js 0 (tabV o js 0 c) k) (-1) := ⟨_, rfl⟩
    have eb : (List.range' 0 (i + 1)).foldl (stepC o js 0 (tabV o js 0 c) k) (-1) = stepC o js 0 (tabV o js 0 c) k b0 i := by
      rw [List.range'_concat, List.foldl_append, ← hb0]; simp
    rw [← hb0]
    by_cases hli : i < js.length
    · have bv := bit_val (c := k) (i := i) (by omega)
      cases ct : k.testBit i
      · have es : stepC o js 0 (tabV o js 0 c) k b0 i = b0 := by unfold stepC; rw [ct, if_neg (by simp)]
        rw [ct, if_neg (by simp)] at bv
        rw [es] at eb
        simp -implicitDefEqProofs [hli, shr_eq (c := k) (i := i) (by omega), bv, winc hli (by omega)]
        exact ⟨m2 - 1, by omega, on hI2 ⟨i + 1, by omega, by rw [eb]; rfl, rfl⟩⟩
      · rw [ct, if_pos rfl] at bv
        have hle := bit_le ct
        have hpos := Nat.two_pow_pos i
        have g1 : k - 2 ^ i ≤ c := by omega
        have g2 : k - 2 ^ i < 2 ^ js.length := by omega
        have tb := tab_bd hok ho (s := 0) (by omega) g1 g2
        have rl := l6Last_run (s0 := 0) (Js.pre H.pre) S hn hg ho hcd ct (by omega) (by omega)
        have es : stepC o js 0 (tabV o js 0 c) k b0 i = if b0 < 0 ∨ lastC o js 0 (tabV o js 0 c) k i < b0 then lastC o js 0 (tabV o js 0 c) k i else b0 := by unfold stepC; rw [ct, if_pos rfl]
        rw [es] at eb
        generalize lastC o js 0 (tabV o js 0 c) k i = V at *
        obtain ⟨uo, un, uc, rfl⟩ : ∃ a n c, u = .slice a n c := by obtain ⟨a, c, e⟩ := S.shape; exact ⟨_, _, _, e⟩
        by_cases c1 : b0 < 0
        · rw [if_pos (.inl c1)] at eb
          simp -implicitDefEqProofs [hli, shr_eq (c := k) (i := i) (by omega), bv, CL_ret rl, c1, winc hli (by omega)]
          exact ⟨m2 - 1, by omega, on hI2 ⟨i + 1, by omega, by rw [eb]; rfl, rfl⟩⟩
        · by_cases c2 : V < b0
          · rw [if_pos (.inr c2)] at eb
            simp -implicitDefEqProofs [hli, shr_eq (c := k) (i := i) (by omega), bv, CL_ret rl, c1, c2, winc hli (by omega)]
            exact ⟨m2 - 1, by omega, on hI2 ⟨i + 1, by omega, by rw [eb]; rfl, rfl⟩⟩
          · rw [if_neg (by rintro (g | g); exact c1 g; exact c2 g)] at eb
            simp -implicitDefEqProofs [hli, shr_eq (c := k) (i := i) (by omega), bv, CL_ret rl, c1, c2, winc hli (by omega)]
            exact ⟨m2 - 1, by omega, on hI2 ⟨i + 1, by omega, by rw [eb]; rfl, rfl⟩⟩
    · have : i = js.length := by omega
      have eB : b0 = bestC o js 0 (tabV o js 0 c) k := by rw [hb0, this]; rfl
      obtain ⟨v2, h2, ha, H2, _⟩ := push_I0 H 0 rfl b0 (by omega)
      simp -implicitDefEqProofs [hli, ha, winc hlt (by omega)]
      refine ⟨m - 1, by omega, on hI ⟨c + 1, k + 1, v2, by omega, by omega, by simp, ?_⟩⟩
      have e6 : tabV o js 0 (c + 1) = tabV o js 0 c ++ [b0] := by rw [tabV, ← hkc, eB]
      rw [e6]
      exact H2
  · have hm : m = 0 := by omega
    subst hm
    rw [show c = d - 1 by omega] at H
    have hlt' : ¬ (k : Int) < d := by omega
    simp -implicitDefEqProofs [sh, hlt, hlt']
    exact onK hK (H.ret 0 rfl)
end
end Go.Pm.PP

/- The order that is found from its end, by both; total times. -/
set_option linter.unusedVariables false
set_option linter.unusedSimpArgs false
set_option maxRecDepth 4000
set_option maxHeartbeats 8000000
namespace Go.Pm.PP
open Go.Pm Go.Proofs Go.Pm.PE
def setOk (js : List Job) (o : Int) : Bool := plOk js && sumB o
def fullC (js : List Job) : Nat := 2 ^ js.length - 1
def tabF (o : Int) (js : List Job) : List Int := tabV o js 0 (fullC js)
def backF (o : Int) (js : List Job) : List Int := backC o js 0 (tabF o js) (fullC js) (fullC js)
theorem back_more {o s : Int} {js : List Job} {T : List Int} : ∀ {n m c : Nat}, c ≤ n → c ≤ m → backC o js s T n c = backC o js s T m c
  | 0, m, c, h1, _ => by
    have : c = 0 := by omega
    subst this
    cases m with
    | zero => rfl
    | succ m => rw [backC, backC, if_pos rfl]
  | n + 1, 0, c, _, h2 => by
    have : c = 0 := by omega
    subst this
    have e1 : backC o js s T (n + 1) 0 = [] := by rw [backC, if_pos rfl]
    rw [e1]; rfl
  | n + 1, m + 1, c, h1, h2 => by
    rw [backC, backC]
    split
    · rfl
    · split
      · rfl
      · rename_i hc i hi
        have hp := List.find?_some hi
        unfold pickC at hp
        rw [Bool.and_eq_true] at hp
        have := bit_le hp.1
        have := Nat.two_pow_pos i
        rw [back_more (n := n) (m := m) (by omega) (by omega)]
theorem fullC_lt {js : List Job} : fullC js < 2 ^ js.length := by have := Nat.two_pow_pos js.length; unfold fullC; omega
section
variable {h : Hp} {vj v : Value} {js : List Job} {xs : List Int} {o : Int}
/-- The first one of a set that fits. -/
theorem find_bits {q : Nat → Bool} {n c i0 : Nat} (h : (List.range' 0 n).find? (fun i => c.testBit i && q i) = some i0) : ∃ A B : List Int, bitsL n c = A ++ (i0 : Int) :: B ∧ (∀ x, x ∈ A → q x.toNat = false) ∧ q i0 = true := by
  have hp := List.find?_some h
  have hfe := List.find?_eq_some_iff_getElem.1 h
  obtain ⟨_, k, hk, hki, hall⟩ := hfe
  have hki' : k = i0 := by simpa using hki
  subst hki'
  have hkn : k < n := by simpa using hk
  rw [Bool.and_eq_true] at hp
  have hm : (k : Int) ∈ bitsL n c := mem_bits.2 ⟨by omega, by omega, by simpa using hp.1⟩
  obtain ⟨A, B, e⟩ := List.append_of_mem hm
  refine ⟨A, B, e, fun x hx => ?_, hp.2⟩
  have hasc : (bitsL n c).Pairwise (· < ·) := bits_asc
  rw [e, List.pairwise_append] at hasc
  have hlt := hasc.2.2 x hx (k : Int) (List.mem_cons_self ..)
  have hxb := mem_bits.1 (show x ∈ bitsL n c by rw [e]; exact List.mem_append_left _ hx)
  have := hall x.toNat (by omega)
  have e2 : (List.range' 0 n)[x.toNat]'(by simp; omega) = x.toNat := by simp
  rw [e2, hxb.2.2, Bool.true_and] at this
  simpa using this
/-! ### total times -/
def totT (js : List Job) : Int := (js.map (·.t)).sum
theorem tot_bd {js : List Job} (hg : goodL js = true) : 0 ≤ totT js ∧ totT js ≤ js.length * 50 := by
  induction js with
  | nil => simp [totT]
  | cons j js ih =>
    rw [goodL_cons, Bool.and_eq_true] at hg
    have := job_of hg.1
    have ih := ih hg.2
    have e : totT (j :: js) = j.t + totT js := rfl
    rw [e, List.length_cons]; omega
theorem tot_take {js : List Job} {i : Nat} {y : Job} (hy : js[i]? = some y) : totT (js.take (i + 1)) = totT (js.take i) + y.t := by
  unfold totT; rw [take_succ' hy, List.map_append, List.sum_append]; simp
theorem good_take {js : List Job} (hg : goodL js = true) {i : Nat} : goodL (js.take i) = true := by
  rw [goodL, List.all_eq_true] at hg ⊢
  exact fun x hx => hg x (List.mem_of_mem_take hx)
theorem l2Times_run (J : Jobs h vj js) (hn : js.length ≤ 8) (hg : goodL js = true) : Ret P G n_spec_l2Times [vj] h (.int .i64 (totT js)) h := by
  refine enter_run e_spec_l2Times (by simp) ?_
  have Js := J
  obtain ⟨oj, cj, rfl⟩ := J.shapeT
  simp -implicitDefEqProofs
  refine R_loopO (fun m s h' => ∃ (i : Nat), i + m = js.length ∧ s = [(0, .slice oj js.length cj), (3, .int .i64 (totT (js.take i))), (4, .int .i64 i)] ∧ h' = h) (fun I hI m s h' => ?_) (n := js.length)
    ⟨0, Nat.zero_add _, by simp [totT], rfl⟩
  rintro ⟨i, hi, rfl, rfl⟩
  by_cases hlt : i < js.length
  · obtain ⟨y, hy, _⟩ := drop_at hlt
    have lj := load_J Js hy
    have tb := tot_bd (good_take hg (i := i))
    have jb := job_of (job_at hg hy)
    have tl : (js.take i).length ≤ 8 := by rw [List.length_take]; omega
    have w1 : IntKind.i64.wrap (totT (js.take i) + y.t) = totT (js.take (i + 1)) := by rw [tot_take hy, wrap_ok] <;> omega
    simp -implicitDefEqProofs [-indexAddrP_some, hlt, lj, w1, winc hlt (by omega)]
    exact ⟨m - 1, by omega, on hI ⟨i + 1, by omega, rfl, rfl⟩⟩
  · rw [List.take_of_length_le (by omega)]
    simp -implicitDefEqProofs [hlt]
theorem totalOf_run (J : Jobs h vj js) (hn : js.length ≤ 8) (hg : goodL js = true) : Ret P G n_impl_totalOf [vj] h (.int .i64 (totT js)) h := by
  refine enter_run e_impl_totalOf (by simp) ?_
  have Js := J
  obtain ⟨oj, cj, rfl⟩ := J.shapeT
  simp -implicitDefEqProofs
  refine R_loopO (fun m s h' => ∃ (i : Nat), i + m = js.length ∧ s = [(3, .int .i64 (totT (js.take i))), (6, .slice oj js.length cj), (7, .int .i64 js.length), (8, .int .i64 i)] ∧ h <+: h') (fun I hI m s h' => ?_) (n := js.length)
    ⟨0, Nat.zero_add _, by simp [totT], List.prefix_rfl⟩
  rintro ⟨i, hi, rfl, hp⟩
  by_cases hlt : i < js.length
  · obtain ⟨y, hy, _⟩ := drop_at hlt
    have lj := load_J (Js.pre hp) hy
    have tb := tot_bd (good_take hg (i := i))
    have jb := job_of (job_at hg hy)
    have tl : (js.take i).length ≤ 8 := by rw [List.length_take]; omega
    have w1 : IntKind.i64.wrap (totT (js.take i) + y.t) = totT (js.take (i + 1)) := by rw [tot_take hy, wrap_ok] <;> omega
    simp -implicitDefEqProofs [-indexAddrP_some, hlt, lj, w1, winc hlt (by omega)]
    exact ⟨m - 1, by omega, on hI ⟨i + 1, by omega, rfl, hp.trans (List.prefix_append ..)⟩⟩
  · rw [List.take_of_length_le (by omega)]
    simp -implicitDefEqProofs [hlt]
    exact gcP hp rfl
def ttV (js : List Job) : Int := if plOk js = true then totT js else 0
theorem implTotalTime_run (J : Jobs h vj js) (hl : js.length ≤ 2 ^ 40) : Ret P G n_impl_TotalTime [vj] h (.tuple #[.int .i64 (ttV js), .bool (plOk js)]) h := by
  refine enter_run e_impl_TotalTime (by simp) ?_
  have r1 := IsPlain_run J hl
  have Js := J
  obtain ⟨oj, cj, rfl⟩ := J.shapeT
  cases c1 : plOk js
  · simp -implicitDefEqProofs [CL_ret r1, c1, ttV]
  · have r2 := totalOf_run Js (plOk_of c1).1 (plOk_of c1).2.1
    simp -implicitDefEqProofs [CL_ret r1, c1, ttV, CL_ret r2]
end
end Go.Pm.PP

/- FnSetValues in the small machine. -/
set_option linter.unusedVariables false
set_option linter.unusedSimpArgs false
set_option maxRecDepth 4000
set_option maxHeartbeats 16000000
namespace Go.Pm.PP
open Go.Pm Go.Proofs Go.Pm.PE
section
variable {h0 h : Hp} {r n : Nat} {vc : Value} {L : List Asn}
end
/-! ### in plain terms -/
theorem ord_of_perm {n : Nat} {xs : List Int} (h : xs.Perm (upTo n)) : Ord n xs := ⟨by rw [h.length_eq, upTo_len], fun x hx => mem_upTo.1 (h.mem_iff.1 hx), h.nodup_iff.2 (upTo_nodup _)⟩
theorem back_best {js : List Job} {o : Int} (hok : setOk js o = true) : Ord js.length (backF o js) ∧ valX o js (backF o js) = gE (tabF o js) (fullC js) ∧ bestV o js = gE (tabF o js) (fullC js) := by
  rw [setOk, Bool.and_eq_true] at hok
  obtain ⟨hn, hg, _⟩ := plOk_of hok.1
  obtain ⟨ho8, ho1, ho4⟩ := sumB_of hok.2
  have p := plOk_pl hok.1
  have cb := good_cb hg hok.2
  obtain ⟨b1, b2, _⟩ := back_spec p cb (Int.le_refl 0) fullC_lt (n := fullC js) (Nat.le_refl (fullC js)) (Nat.le_refl _)
  have hbf : bitsL js.length (fullC js) = upTo js.length := bits_up
  rw [hbf] at b1
  have o1 : Ord js.length (backF o js) := ord_of_perm b1
  have v1 : valX o js (backF o js) = gE (tabF o js) (fullC js) := by
    unfold valX
    rw [val_sum ho1 ho4 (ord_prm o1)]
    exact b2
  refine ⟨o1, v1, ?_⟩
  obtain ⟨h1, h2, h3, h4⟩ := best_facts (f := valX o js) (n := js.length) hn
  have e : bestV o js = (bestR (valX o js) js.length).v := rfl
  have g1 := h4 _ o1
  have g2 := (tab_spec (o := o) (s := 0) p cb (Int.le_refl 0) (Nat.le_refl (fullC js)) fullC_lt).2 (bestR (valX o js) js.length).o (by rw [hbf]; exact ord_perm h3)
  have g3 : valX o js (bestR (valX o js) js.length).o = sumGo o js 0 (bestR (valX o js) js.length).o := val_sum ho1 ho4 (ord_prm h3)
  have g2 : gE (tabF o js) (fullC js) ≤ sumGo o js 0 (bestR (valX o js) js.length).o := g2
  rw [e]; omega
theorem tot_sum {js : List Job} : totT js = ((upTo js.length).map fun x => (jA js x).t).sum := by
  unfold totT upTo
  rw [List.map_map]
  have : js = (List.range js.length).map fun i => (js[i]?).getD ⟨0, 0, 0, 0⟩ := by
    apply List.ext_getElem?
    intro i
    rw [List.getElem?_map]
    rcases Nat.lt_or_ge i js.length with g | g
    · rw [List.getElem?_range g]; simp [List.getElem?_eq_getElem g]
    · rw [List.getElem?_eq_none g, List.getElem?_eq_none (by simpa using g)]; rfl
  conv => lhs; rw [this]
  rw [List.map_map]
  rfl
theorem end_tot {js : List Job} (hok : plOk js = true) {xs : List Int} (o : Ord js.length xs) : valX 1 js xs = totT js := by
  have p := plOk_pl hok
  unfold valX
  rw [val_end p.t (ord_prm o), nowGo_plain p (Int.le_refl 0), tot_sum, Int.zero_add, perm_time (ord_perm o)]
end Go.Pm.PP

/- Where a job comes before another one. -/
set_option linter.unusedVariables false
set_option linter.unusedSimpArgs false
set_option maxRecDepth 4000
set_option maxHeartbeats 16000000
namespace Go.Pm.PP
open Go.Pm Go.Proofs Go.Pm.PE
/-! ### in plain terms -/
theorem two_split {l : List Int} {a b : Int} (h : [a, b].Sublist l) : ∃ A B C, l = A ++ a :: (B ++ b :: C) := by
  obtain ⟨r1, r2, e, h1, h2⟩ := List.cons_sublist_iff.1 h
  obtain ⟨A, B1, e1⟩ := List.append_of_mem h1
  obtain ⟨B2, C, e2⟩ := List.append_of_mem (List.singleton_sublist.1 h2)
  exact ⟨A, B1 ++ B2, C, by rw [e, e1, e2]; simp⟩
theorem two_not {l : List Int} {a b : Int} (hn : l.Nodup) (h1 : [a, b].Sublist l) (h2 : [b, a].Sublist l) : False := by
  obtain ⟨A, B, C, rfl⟩ := two_split h1
  obtain ⟨A', B', C', e⟩ := two_split h2
  have hne : a ≠ b := fun g => by
    subst g
    have := (List.nodup_append.1 hn).2.1
    have := (List.nodup_cons.1 this).1
    exact this (by simp)
  -- a stands first in the one, b in the other
  have i1 : (A ++ a :: (B ++ b :: C)).idxOf a < (A ++ a :: (B ++ b :: C)).idxOf b := by
    have n1 := List.nodup_append.1 hn
    have ha : a ∉ A := fun g => n1.2.2 a g a (List.mem_cons_self ..) rfl
    have hb : b ∉ A := fun g => n1.2.2 b g b (by simp) rfl
    rw [List.idxOf_append, List.idxOf_append, if_neg ha, if_neg hb, List.idxOf_cons_self, List.idxOf_cons, show (a == b) = false by simpa using hne]
    simp
  have i2 : (A ++ a :: (B ++ b :: C)).idxOf b < (A ++ a :: (B ++ b :: C)).idxOf a := by
    rw [e] at hn ⊢
    have n1 := List.nodup_append.1 hn
    have ha : b ∉ A' := fun g => n1.2.2 b g b (List.mem_cons_self ..) rfl
    have hb : a ∉ A' := fun g => n1.2.2 a g a (by simp) rfl
    rw [List.idxOf_append, List.idxOf_append, if_neg ha, if_neg hb, List.idxOf_cons_self, List.idxOf_cons, show (b == a) = false by simpa using fun g : b = a => hne g.symm]
    simp
  omega
theorem ext_one {n : Nat} {x y : Int} (k : One n x y) {xs : List Int} (ox : Ord n xs) : extG (clo n [(x, y)]) [] xs = true ↔ ¬ [y, x].Sublist xs := by
  rw [extG_iff]
  constructor
  · rintro ⟨_, h⟩ hs
    have := (List.pairwise_iff_forall_sublist.1 h) hs
    rw [clo_one k.x0 k.y0 k.ne, decide_eq_false_iff_not] at this
    have := k.x0; have := k.y0
    omega
  · intro h
    refine ⟨fun j hj => (by cases hj), List.pairwise_iff_forall_sublist.2 fun {a b} hs => ?_⟩
    rw [clo_one k.x0 k.y0 k.ne, decide_eq_false_iff_not]
    rintro ⟨h1, h2⟩
    have ia := ox.inn a (hs.subset (by simp))
    have ib := ox.inn b (hs.subset (by simp))
    have ea : a = y := by omega
    have eb : b = x := by omega
    subst ea; subst eb
    exact h hs
def cbV (js : List Job) (x y : Int) : Bool := decide ((jA js x).t ≤ (jA js y).t) && decide ((jA js x).d ≤ max (jA js y).d (jA js y).t)
def cbOk (js : List Job) (x y : Int) : Bool := plOk js && inB x 0 (w64 ((js.length : Int) - 1)) && inB y 0 (w64 ((js.length : Int) - 1)) && !(x == y)
theorem cbOk_of {js : List Job} {x y : Int} (h : cbOk js x y = true) : plOk js = true ∧ One js.length x y := by
  simp only [cbOk, Bool.and_eq_true, Bool.not_eq_true', beq_eq_false_iff_ne] at h
  obtain ⟨⟨⟨h1, h2⟩, h3⟩, h4⟩ := h
  have hn := (plOk_of h1).1
  have wn : w64 ((js.length : Int) - 1) = (js.length : Int) - 1 := by unfold w64; rw [wrap_ok] <;> omega
  rw [wn] at h2 h3
  simp only [inB, Bool.and_eq_true, decide_eq_true_eq] at h2 h3
  exact ⟨h1, hn, by omega, by omega, h4⟩
/-- An exchange of two jobs that stand apart. -/
theorem tard_swap {js : List Job} (p : Pl js) (cb : Cb 5 js) {x y : Int} (h : cbV js x y = true) {A B C : List Int} : sumGo 5 js 0 (A ++ x :: (B ++ y :: C)) ≤ sumGo 5 js 0 (A ++ y :: (B ++ x :: C)) := by
  rw [cbV, Bool.and_eq_true, decide_eq_true_eq, decide_eq_true_eq] at h
  obtain ⟨h1, h2⟩ := h
  have hn := p.now (A := A) (Int.le_refl 0)
  generalize hN : nowGo js 0 A = n at hn
  have tx := p.t x
  have ty := p.t y
  rw [sumGo_app, sumGo_app, hN, sumGo, sumGo, sumGo_app, sumGo_app, p.endAt hn, p.endAt (x := y) hn, nowGo_plain p (by omega : 0 ≤ n + (jA js x).t), nowGo_plain p (by omega : 0 ≤ n + (jA js y).t), sumGo, sumGo]
  have hb : 0 ≤ (B.map fun x => (jA js x).t).sum := by
    have := p.now (A := B) (Int.le_refl 0)
    rw [nowGo_plain p (Int.le_refl 0)] at this
    omega
  have hm := sum_mono p cb (xs := B) (a := n + (jA js x).t) (b := n + (jA js y).t) (by omega) (by omega)
  generalize (B.map fun x => (jA js x).t).sum = s at *
  rw [p.endAt (x := y) (by omega : 0 ≤ n + (jA js x).t + s), p.endAt (x := x) (by omega : 0 ≤ n + (jA js y).t + s)]
  rw [show n + (jA js x).t + s + (jA js y).t = n + (jA js y).t + s + (jA js x).t by omega]
  generalize sumGo 5 js (n + (jA js y).t + s + (jA js x).t) C = c
  generalize sumGo 5 js (n + (jA js x).t) B = u at *
  generalize sumGo 5 js (n + (jA js y).t) B = v at *
  generalize sumGo 5 js 0 A = w
  have e : ∀ j t, costV 5 j t = max (t - j.d) 0 := fun j t => by simp [costV]
  rw [e, e, e, e]
  omega
theorem tard_best {js : List Job} {x y : Int} (h : cbOk js x y = true) (hv : cbV js x y = true) : (extB js 5 x y).c = 1 ∧ Ord js.length (extB js 5 x y).o ∧ valX 5 js (extB js 5 x y).o = bestV 5 js := by
  obtain ⟨hp, k⟩ := cbOk_of h
  obtain ⟨hn, hg, _⟩ := plOk_of hp
  have p := plOk_pl hp
  have cb : Cb 5 js := good_cb hg rfl
  obtain ⟨_, be, bo, ble⟩ := best_facts (f := valX 5 js) (n := js.length) hn
  obtain ⟨xs, ox, hext, hle⟩ : ∃ xs, Ord js.length xs ∧ extG (clo js.length [(x, y)]) [] xs = true ∧ valX 5 js xs ≤ bestV 5 js := by
    generalize (bestR (valX 5 js) js.length).o = o at be bo
    have eb : bestV 5 js = (bestR (valX 5 js) js.length).v := rfl
    by_cases hs : [y, x].Sublist o
    · obtain ⟨A, B, C, rfl⟩ := two_split hs
      have pm : (A ++ x :: (B ++ y :: C)).Perm (A ++ y :: (B ++ x :: C)) := by
        refine List.Perm.append_left A ?_
        have h1 : (x :: (B ++ y :: C)).Perm (x :: y :: (B ++ C)) := List.Perm.cons x List.perm_middle
        have h2 : (y :: (B ++ x :: C)).Perm (y :: x :: (B ++ C)) := List.Perm.cons y List.perm_middle
        exact h1.trans ((List.Perm.swap y x _).trans h2.symm)
      have ox : Ord js.length (A ++ x :: (B ++ y :: C)) := ord_of_perm (pm.trans (ord_perm bo))
      refine ⟨_, ox, (ext_one k ox).2 fun g => two_not ox.nd ?_ g, ?_⟩
      · refine List.Sublist.trans ?_ (List.sublist_append_right A _)
        refine List.Sublist.cons_cons x ?_
        exact List.singleton_sublist.2 (by simp)
      · rw [eb, ← be]
        unfold valX
        rw [val_sum (by omega) (by omega) (ord_prm ox), val_sum (by omega) (by omega) (ord_prm bo)]
        exact tard_swap p cb hv
    · exact ⟨o, bo, (ext_one k bo).2 hs, by omega⟩
  rcases @bestG_facts (extG (clo js.length [(x, y)]) []) (valX 5 js) js.length with ⟨_, h2⟩ | ⟨h1, h2, h3, h4, h5⟩
  · rw [h2 xs ox] at hext; cases hext
  · refine ⟨h1, h4, ?_⟩
    have l1 := h5 xs ox hext
    have l2 := ble _ h4
    have eb : bestV 5 js = (bestR (valX 5 js) js.length).v := rfl
    have e3 : valX 5 js (extB js 5 x y).o = (extB js 5 x y).v := h3
    have e4 : (extB js 5 x y).v = (bestG (extG (clo js.length [(x, y)]) []) (valX 5 js) js.length).v := rfl
    have e5 : valX 5 js (extB js 5 x y).o = valX 5 js (bestG (extG (clo js.length [(x, y)]) []) (valX 5 js) js.length).o := rfl
    omega
section
variable {h : Hp} {vj : Value} {x y : Int} {js : List Job}
theorem implComesBefore_run (J : Jobs h vj js) (hl : js.length ≤ 2 ^ 40) : Ret P G n_impl_ComesBefore [vj, .int .i64 x, .int .i64 y] h (.tuple #[.bool (cbOk js x y && cbV js x y), .bool (cbOk js x y)]) h := by
  refine enter_run e_impl_ComesBefore (by simp) ?_
  have r1 := IsPlain_run J hl
  have Js := J
  obtain ⟨oj, cj, rfl⟩ := J.shapeT
  cases c1 : plOk js
  · simp -implicitDefEqProofs [CL_ret r1, c1, cbOk]
  cases c2 : inB x 0 (w64 ((js.length : Int) - 1))
  · simp -implicitDefEqProofs [CL_ret r1, c1, cbOk, CL_ret isNumber_run, c2]
  cases c3 : inB y 0 (w64 ((js.length : Int) - 1))
  · simp -implicitDefEqProofs [CL_ret r1, c1, cbOk, CL_ret isNumber_run, c2, c3]
  cases c4 : x == y
  case true => simp -implicitDefEqProofs [CL_ret r1, c1, cbOk, CL_ret isNumber_run, c2, c3, c4]
  have hok : cbOk js x y = true := by rw [cbOk, c1, c2, c3, c4]; rfl
  obtain ⟨_, k⟩ := cbOk_of hok
  have jx := load_JX Js k.x0
  have jy := load_JX Js k.y0
  have H2 := ((Holds.start (h := h)).alloc [.int .i64 (jA js x).t, .int .i64 (jA js x).w, .int .i64 (jA js x).r, .int .i64 (jA js x).d]).alloc [.int .i64 (jA js y).t, .int .i64 (jA js y).w, .int .i64 (jA js y).r, .int .i64 (jA js y).d]
  simp only [List.append_assoc, List.cons_append, List.nil_append, List.length_append, List.length_cons, List.length_nil, Nat.zero_add] at H2
  have lx := H2.bl (P := P) 0 4 rfl rfl
  have ly := H2.bl (P := P) 1 4 rfl rfl
  have mx : foldI (fun x y => if x < y then y else x) (jA js y).d [.int .i64 (jA js y).t] = some (max (jA js y).d (jA js y).t) := by simp [foldI, mx_if]
  rw [hok, cbV]
  by_cases d1 : (jA js x).t ≤ (jA js y).t
  · by_cases d2 : (jA js x).d ≤ max (jA js y).d (jA js y).t
    · simp -implicitDefEqProofs [-indexAddrP_some, CL_ret r1, c1, CL_ret isNumber_run, c2, c3, c4, jx, jy, lx, ly, mx, d1, d2]
    · simp -implicitDefEqProofs [-indexAddrP_some, CL_ret r1, c1, CL_ret isNumber_run, c2, c3, c4, jx, jy, lx, ly, mx, d1, d2]
  · simp -implicitDefEqProofs [-indexAddrP_some, CL_ret r1, c1, CL_ret isNumber_run, c2, c3, c4, jx, jy, lx, ly, d1]
theorem specComesBefore_run (J : Jobs h vj js) (hl : js.length ≤ 2 ^ 40) : Ret P G n_spec_ComesBefore [vj, .int .i64 x, .int .i64 y] h (.tuple #[.bool (cbOk js x y && cbV js x y), .bool (cbOk js x y)]) h := by
  refine enter_run e_spec_ComesBefore (by simp) ?_
  have r1 := l6Good_run J hl
  have Js := J
  obtain ⟨oj, cj, rfl⟩ := J.shapeT
  cases c1 : plOk js
  · simp -implicitDefEqProofs [CL_ret r1, c1, cbOk]
  cases c2 : inB x 0 (w64 ((js.length : Int) - 1))
  · have c2' : inB x 0 (IntKind.i64.wrap ((js.length : Int) - 1)) = false := c2
    simp -implicitDefEqProofs [CL_ret r1, c1, cbOk, CL_ret l1In_run, c2, c2']
  have c2' : inB x 0 (IntKind.i64.wrap ((js.length : Int) - 1)) = true := c2
  cases c3 : inB y 0 (w64 ((js.length : Int) - 1))
  · have c3' : inB y 0 (IntKind.i64.wrap ((js.length : Int) - 1)) = false := c3
    simp -implicitDefEqProofs [CL_ret r1, c1, cbOk, CL_ret l1In_run, c2, c2', c3, c3']
  have c3' : inB y 0 (IntKind.i64.wrap ((js.length : Int) - 1)) = true := c3
  cases c4 : x == y
  case true => simp -implicitDefEqProofs [CL_ret r1, c1, cbOk, CL_ret l1In_run, c2, c2', c3, c3', c4]
  have hok : cbOk js x y = true := by rw [cbOk, c1, c2, c3, c4]; rfl
  obtain ⟨_, k⟩ := cbOk_of hok
  have jx := load_JX Js k.x0
  have jy := load_JX Js k.y0
  rw [hok, cbV]
  by_cases d1 : (jA js x).t ≤ (jA js y).t
  · by_cases d2 : (jA js x).d ≤ max (jA js y).d (jA js y).t
    · simp -implicitDefEqProofs [-indexAddrP_some, CL_ret r1, c1, CL_ret l1In_run, c2', c3', c4, jx, jy, d1, d2, CH_at l1Most_run, CL_ret l1Most_run]
    · simp -implicitDefEqProofs [-indexAddrP_some, CL_ret r1, c1, CL_ret l1In_run, c2', c3', c4, jx, jy, d1, d2, CH_at l1Most_run, CL_ret l1Most_run]
  · simp -implicitDefEqProofs [-indexAddrP_some, CL_ret r1, c1, CL_ret l1In_run, c2', c3', c4, jx, jy, d1]
end
theorem DrawComesBefore_run {h : Hp} {vc : Value} (B : By h vc) : RunsC P G n_spec_DrawComesBefore [vc] h fun v h' => h <+: h' ∧ ∃ (js : List Job) (x y : Int) (u : Value), v = .tuple #[u, .int .i64 x, .int .i64 y] ∧ js.length ≤ 9 ∧ Jobs h' u js := by
  refine hideC fun K hK => enter_run e_spec_DrawComesBefore (by simp) ?_
  have C0 : Cur h (h ++ [some ⟨[vc, .int .i64 0, .int .u64 0], 0, false⟩]) h.length vc 0 [] := ⟨0, 0, by omega, by omega, (Holds.start (h := h)).alloc _⟩
  obtain ⟨bs, Sb, hb, hbl⟩ := B
  have Bs : By h vc := ⟨bs, Sb, hb, hbl⟩
  obtain ⟨ob, cb, rfl⟩ := Sb.shapeT
  simp -implicitDefEqProofs
  refine CL_post (plainJobs_run Bs C0 (by omega) (most := 6) (by omega)) fun u h1 ⟨js, hl, C1⟩ => ?_
  obtain ⟨ua, uc, rfl⟩ : ∃ a c, u = .slice a js.length c := C1.seesJ.shapeT
  have w1 : IntKind.i64.wrap ((js.length : Int) + 2) = (js.length : Int) + 2 := by rw [wrap_ok] <;> omega
  simp -implicitDefEqProofs [w1]
  refine CL_post (pick_run Bs C1 (by omega) (k := (js.length : Int) + 2) (by omega)) fun v h2 ⟨a, ev, _, _, _, C2⟩ => ?_
  subst ev
  simp -implicitDefEqProofs
  refine CL_post (pick_run Bs C2 (by omega) (k := 2) (by omega)) fun v h3 ⟨b, ev, _, _, _, C3⟩ => ?_
  subst ev
  simp -implicitDefEqProofs [w1]
  refine CL_post (pick_run Bs C3 (by omega) (k := (js.length : Int) + 2) (by omega)) fun v h4 ⟨c, ev, _, _, _, C4⟩ => ?_
  subst ev
  simp -implicitDefEqProofs
  refine CL_post (pick_run Bs C4 (by omega) (k := 2) (by omega)) fun v h5 ⟨d, ev, _, _, _, C5⟩ => ?_
  subst ev
  simp -implicitDefEqProofs
  refine onK hK ⟨pre_gcU C5.pre, js, _, _, _, rfl, hl, Sees.gcU C5.seesJ fun g => plainT (r := [_, _]) g⟩
theorem law_ComesBefore {h : Hp} {vc : Value} {bs : List Int} (Sb : Sees h vc 1 (bs.map encU)) (hb : ∀ b, b ∈ bs → 0 ≤ b ∧ b ≤ 255) : Ret P G n_laws_FnComesBefore [vc] h (.bool true) h := by
  refine enter_run e_laws_FnComesBefore (by simp) ?_
  have r0 := rBig_run Sb
  by_cases c0 : (65536 : Int) < bs.length
  · simp -implicitDefEqProofs [CL_ret r0, c0]
  have B : By h vc := ⟨bs, Sb, hb, by omega⟩
  obtain ⟨ob, cb, rfl⟩ := Sb.shapeT
  simp -implicitDefEqProofs [CL_ret r0, c0]
  refine CL_post (DrawComesBefore_run B) fun v h1 ⟨hp1, js, x, y, u, ev, hjl, J⟩ => ?_
  subst ev
  have l1 : js.length ≤ 2 ^ 40 := by omega
  have Js := J
  obtain ⟨ja, jc, rfl⟩ := J.shapeT
  have r1 := implComesBefore_run (x := x) (y := y) Js l1
  have r2 := specComesBefore_run (x := x) (y := y) Js l1
  cases cv : (cbOk js x y && cbV js x y)
  · rw [cv] at r1 r2
    simp -implicitDefEqProofs [CL_ret r1, CL_ret r2]
    exact gcP hp1 rfl
  rw [cv] at r1 r2
  obtain ⟨hok, hv⟩ := (Bool.and_eq_true _ _).mp cv
  obtain ⟨hp, k⟩ := cbOk_of hok
  obtain ⟨hn, hg, _⟩ := plOk_of hp
  have jok : jOk js = true := by have := hp; rw [plOk, Bool.and_eq_true] at this; exact this.1
  obtain ⟨_, ox, eV⟩ := tard_best hok hv
  have Q1 : Prs (h1 ++ [some ⟨[.int .i64 x, .int .i64 y], 2, false⟩]) (.slice (some ⟨h1.length, 0, some 2⟩) 1 1) [(x, y)] := by
    have := (Holds.start (h := h1)).lit (els := [[.int .i64 x, .int .i64 y]]) (sz := 2) (n := 2) (by simp) rfl
    exact this.sees 0 rfl
  have i5 : (1 : Int) ≤ 5 ∧ (5 : Int) ≤ 8 := by omega
  have p1 : h1 <+: h1 ++ [some ⟨[.int .i64 x, .int .i64 y], 2, false⟩] := List.prefix_append ..
  simp -implicitDefEqProofs [CL_ret r1, CL_ret r2]
  refine CL_post (implBestExtension_run (o := 5) k (Js.pre p1) jok Q1 i5) fun v h2 ⟨hp2, d1, ev, D1⟩ => ?_
  subst ev
  have p12 := p1.trans hp2
  have Q2 : Prs (h2 ++ [some ⟨[.int .i64 x, .int .i64 y], 2, false⟩]) (.slice (some ⟨h2.length, 0, some 2⟩) 1 1) [(x, y)] := by
    have := (Holds.start (h := h2)).lit (els := [[.int .i64 x, .int .i64 y]]) (sz := 2) (n := 2) (by simp) rfl
    exact this.sees 0 rfl
  have p2 : h2 <+: h2 ++ [some ⟨[.int .i64 x, .int .i64 y], 2, false⟩] := List.prefix_append ..
  obtain ⟨da, dc, rfl⟩ : ∃ a c, d1 = .slice a (extB js 5 x y).o.length c := D1.shapeT
  simp -implicitDefEqProofs
  refine CL_post (specBestExtension_run (o := 5) k (Js.pre (p12.trans p2)) jok Q2 i5) fun v h3 ⟨hp3, d2, ev, D2⟩ => ?_
  subst ev
  obtain ⟨ea, ec, rfl⟩ : ∃ a c, d2 = .slice a (extB js 5 x y).o.length c := D2.shapeT
  have p3 := p12.trans (p2.trans hp3)
  have D1' := D1.pre (p2.trans hp3)
  have ol : (extB js 5 x y).o.length ≤ 2 ^ 40 := by rw [ox.len]; exact l1
  have q1 := rInts_run D1' D2 ol
  have okv : okV js (extB js 5 x y).o 5 = true := by rw [okV, jok, ord_ok hn ox]; rfl
  have rv := implValueOf_run (o := 5) (Js.pre p3) D1' l1 ol
  have rb := rBest_run (o := 5) (Js.pre p3) l1
  have okb : okB js 5 = true := by rw [okB, jok]; rfl
  rw [bR_v okb] at rb
  rw [vOf, if_pos okv, okv, eV] at rv
  simp -implicitDefEqProofs [CL_ret q1, CL_ret rv, CL_ret rb]
  exact gcP (hp1.trans p3) rfl
end Go.Pm.PP

/- Best orders: exchanging downwards. -/
set_option linter.unusedVariables false
set_option linter.unusedSimpArgs false
set_option maxRecDepth 4000
set_option maxHeartbeats 8000000
namespace Go.Pm.PP
open Go.Pm Go.Proofs Go.Pm.PE
/-- As many exchanges as there can be. -/
def FD : Nat := 2147483649
def dnR (js : List Job) (xs : List Int) (o : Int) : List Int × Nat := if okV js xs o = true then down (valX o js) FD xs else ([], 0)
section
variable {h : Hp} {v u : Value} {js : List Job} {xs : List Int} {o : Int}
theorem down_none {f : List Int → Int} {m : Nat} {xs : List Int} (e : nxt f xs = none) : down f m xs = (xs, 0) := by
  cases m with
  | zero => rfl
  | succ m => rw [down, e]
theorem down_some {f : List Int → Int} {m i : Nat} {xs : List Int} (e : nxt f xs = some i) : down f (m + 1) xs = ((down f m (swp xs i)).1, (down f m (swp xs i)).2 + 1) := by
  rw [down, e]
end
end Go.Pm.PP

/- FnBestOrders in the small machine. -/
set_option linter.unusedVariables false
set_option linter.unusedSimpArgs false
set_option maxRecDepth 4000
set_option maxHeartbeats 8000000
namespace Go.Pm.PP
open Go.Pm Go.Proofs Go.Pm.PE
end Go.Pm.PP

/- A code of bytes as an argument, opened as a row. -/
set_option linter.unusedVariables false
set_option linter.unusedSimpArgs false
set_option maxRecDepth 4000
namespace Go.Pm
open Go.ChangeShapes Go.WideShapes
section
variable {P : Program} {H : Type} {enc : TypeId × Value → H} {w : World} {base : Nat} {held : Bool}
theorem flat_encU (xs : List Int) : (xs.map PP.encU).flatten = xs.map fun x => .int .u8 x := by
  induction xs with
  | nil => rfl
  | cons x xs ih => rw [List.map_cons, List.flatten_cons, ih]; rfl
/-- A slice of bytes. -/
theorem shows_bytes {t e : TypeId} {fuel : Nat} {v : Value} {x : DataW H × List MemPlace} (ht : P.underlying t = some (.slice e)) (he : P.underlying e = some (.int .u8)) (hc : P.cellsOf e = 1)
    (hd : DataW.trod enc P w base (fun _ => true) held fuel t [v] = some x) : ∃ xs : List Int, xs.length ≤ maxLen ∧ (∀ b, b ∈ xs → (Lit.int .u8 b).wf = true) ∧ ∀ (ρ : Mp) (h : Hp), Shows ρ h w 1 (xs.map PP.encU) v := by
  rcases open_ints ht he hc hd with ⟨h1, _⟩ | ⟨a, len, cap, zs, h1, _, hl, hm, hz, _, hcell, hwf⟩
  · cases h1
    exact ⟨[], by simp, by simp, fun ρ h => .inl ⟨rfl, rfl⟩⟩
  · cases h1
    simp only [if_true] at hz
    have hlen : (zs.take len).length = len := by rw [List.length_take]; omega
    refine ⟨zs.take len, by omega, fun b hb => hwf b (List.mem_of_mem_take hb), fun ρ h => .inr ⟨a, cap, by rw [List.length_map, hlen], by rw [List.length_map, hlen]; exact hl, ?_, fun k c hk => ?_⟩⟩
    · rcases Nat.eq_zero_or_pos cap with h0 | h0
      · exact .inl h0
      · right
        have := hcell 0 (by omega)
        unfold World.cell? at this
        simp only [Addr.add, if_true] at this
        cases hs : a.spot with
        | none => rfl
        | some s =>
          rw [hs] at this
          split at this <;> simp at this
    · rw [flat_encU, List.getElem?_map] at hk
      obtain ⟨z, hz2, rfl⟩ := Option.map_eq_some_iff.1 hk
      have hk1 := (List.getElem?_eq_some_iff.1 hz2).1
      rw [List.getElem?_take, if_pos (by omega)] at hz2
      refine ⟨_, hcell k (by omega), ?_⟩
      rw [List.getD_eq_getElem?_getD, hz2]
      exact .int _ _
end
end Go.Pm
namespace Go.Pm.PP
open Go.Pm Go.Proofs
theorem follows : P.follows .mixedOrders = true := by kernel_rfl
theorem cells_u8 : P.cellsOf t_u8 = 1 := by kernel_rfl
theorem byte_of {b : Int} (h : (Lit.int .u8 b).wf = true) : 0 ≤ b ∧ b ≤ 255 := by
  simp [Lit.wf, IntKind.min, IntKind.max, IntKind.signed, IntKind.bits] at h
  omega
section
variable {H : Type} {enc : TypeId × Value → H} {W : World} {ρ : Mp} {h : Hp} {v : Value} {n0 : Nat} {x0 : DataW H × List MemPlace}
theorem open_bytes (R : Rel ρ h W) (ha : AllRo h) (d0 : DataW.trod enc P W 0 (fun _ => true) true n0 t_S_u8 [v] = some x0) :
    ∃ (h2 : Hp) (ρ2 : Mp) (p : Value) (xs : List Int), h <+: h2 ∧ Rel ρ2 h2 W ∧ AllRo h2 ∧ Step ρ h ρ2 h2 ∧ VR ρ2 h2 p v ∧ Sees h2 p 1 (xs.map encU) ∧ ∀ b, b ∈ xs → 0 ≤ b ∧ b ≤ 255 := by
  obtain ⟨xs, l0, hw, s0⟩ := shows_bytes (P := P) (v := v) u_S_u8 u_u8 cells_u8 d0
  obtain ⟨h2, ρ2, p, q, R2, a2, t, r, N⟩ := add_slice (w := W) (len_U xs) R ha (s0 ρ h)
  exact ⟨h2, ρ2, p, xs, q, R2, a2, t, r, N, fun b hb => byte_of (hw b hb)⟩
end
end Go.Pm.PP
