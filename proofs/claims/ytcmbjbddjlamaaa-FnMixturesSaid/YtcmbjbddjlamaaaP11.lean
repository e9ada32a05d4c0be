/- The texts PvSg, PvSh, PvSi, PvFf, PvFg, PvFm, PvFn, PvFo, PvFjx, PvFq, PvL, PvM, PvK, PsA, PsB of this work: Tables of the least values of sets, by both: the tables. -/
import Derived.ProofKit
import Derived.OpenShut
import Derived.Carry
import Derived.Test.YtcmbjbddjlamaaaP10
import Derived.Test.YtcmbjbddjlamaaaP8
import Derived.Test.YtcmbjbddjlamaaaM4
import Derived.Test.YtcmbjbddjlamaaaP9
/- Tables of the least values of sets, by both: the tables. -/
set_option linter.unusedVariables false
set_option linter.unusedSimpArgs false
set_option maxRecDepth 4000
set_option maxHeartbeats 8000000
namespace Go.Pm.PP
open Go.Pm Go.Proofs Go.Pm.PE
theorem sum_bd {o : Int} {js : List Job} (p : Pl js) (cb : Cb o js) (bd : ∀ x, (jA js x).t ≤ 50) : ∀ {xs : List Int} {now : Int}, 0 ≤ now → now + xs.length * 50 ≤ 2 ^ 20 → sumGo o js now xs ≤ xs.length * 2 ^ 27
  | [], now, _, _ => by simp [sumGo]
  | x :: xs, now, h, hb => by
    have t0 := p.t x
    have t1 := bd x
    rw [List.length_cons] at hb ⊢
    have ih := sum_bd p cb bd (xs := xs) (now := now + (jA js x).t) (by omega) (by omega)
    have := cb.hi x (now + (jA js x).t) (by omega) (by omega)
    rw [sumGo, p.endAt h]; omega
theorem good_t50 {js : List Job} (hg : goodL js = true) (x : Int) : (jA js x).t ≤ 50 := by
  rcases @jA_in js x with g | g
  · exact (job_of (List.all_eq_true.1 hg _ g)).1.2
  · rw [g]; simp
theorem tab_bd {o s : Int} {js : List Job} (hok : plOk js = true) (ho : sumB o = true) (hs : 0 ≤ s ∧ s ≤ 2 ^ 19) {m c : Nat} (h : c ≤ m) (hc : c < 2 ^ js.length) : 0 ≤ gE (tabV o js s m) c ∧ gE (tabV o js s m) c ≤ 2 ^ 30 := by
  obtain ⟨hn, hg, _⟩ := plOk_of hok
  have p := plOk_pl hok
  have cb := good_cb hg ho
  obtain ⟨⟨xs, hx, e⟩, _⟩ := tab_spec p cb hs.1 h hc
  have hl : xs.length ≤ 8 := by rw [hx.length_eq]; have := @bits_len js.length c; omega
  have h1 := sum_nonneg p cb (xs := xs) hs.1
  have h2 := sum_bd p cb (good_t50 hg) (xs := xs) hs.1 (by omega)
  rw [e]; omega
theorem last_bd {o s : Int} {js : List Job} (hok : plOk js = true) (ho : sumB o = true) (hs : 0 ≤ s ∧ s ≤ 2 ^ 19) {m c i : Nat} (h : c ≤ m + 1) (hc : c < 2 ^ js.length) (hi : c.testBit i = true) : 0 ≤ lastC o js s (tabV o js s m) c i ∧ lastC o js s (tabV o js s m) c i ≤ 2 ^ 31 := by
  obtain ⟨hn, hg, _⟩ := plOk_of hok
  have hle := bit_le hi
  have hpos := Nat.two_pow_pos i
  have g1 : c - 2 ^ i ≤ m := by omega
  have g2 : c - 2 ^ i < 2 ^ js.length := by omega
  have tb := tab_bd hok ho hs g1 g2
  have cb := good_cb hg ho
  have tt := good_time hg hn (c := c)
  have tl : timeC js c ≤ 8 * 50 := by
    have key : ∀ l : List Int, timeGo js l ≤ l.length * 50 := by
      intro l
      induction l with
      | nil => simp [timeGo]
      | cons x l ih =>
        have := good_t50 hg x
        have e : timeGo js (x :: l) = (jA js x).t + timeGo js l := rfl
        rw [e, List.length_cons]; omega
    have := key (bitsL js.length c)
    have := @bits_len js.length c
    have e : timeC js c = timeGo js (bitsL js.length c) := rfl
    rw [e]; omega
  have c1 := cb.lo i (s + timeC js c) (by omega)
  have c2 := cb.hi i (s + timeC js c) (by omega) (by omega)
  unfold lastC
  omega
/-- The best one, along the list of a set. -/
def stepL (o : Int) (js : List Job) (s : Int) (T : List Int) (c : Nat) (b : Int) (x : Int) : Int := if b < 0 ∨ lastC o js s T c x.toNat < b then lastC o js s T c x.toNat else b
theorem best_bits {o s : Int} {js : List Job} {T : List Int} {c : Nat} : bestC o js s T c = (bitsL js.length c).foldl (stepL o js s T c) (-1) := by
  unfold bestC bitsL
  rw [List.foldl_map, List.foldl_filter]
  exact fold_congr fun i _ b => by simp only [stepC, stepL, Int.toNat_natCast]
section
variable {h : Hp} {vj v : Value} {js : List Job} {xs : List Int} {o : Int}
theorem setValues_run {s : Int} (J : Jobs h vj js) (hok : plOk js = true) (ho : sumB o = true) (hs : 0 ≤ s ∧ s ≤ 2 ^ 19) : RunsC P G n_impl_setValues [vj, .int .i64 o, .int .i64 s] h fun w h' => h <+: h' ∧ Own h.length h' w 1 ((tabV o js s (2 ^ js.length - 1)).map encI) := by
  refine hideC fun K hK => enter_run e_impl_setValues (by simp) ?_
  have Js := J
  obtain ⟨oj, cj, rfl⟩ := J.shapeT
  obtain ⟨hn, hg, _⟩ := plOk_of hok
  obtain ⟨ho8, ho1, ho4⟩ := sumB_of ho
  obtain ⟨d, hd⟩ : ∃ d, d = 2 ^ js.length := ⟨_, rfl⟩
  have d1 : 1 ≤ d ∧ d ≤ 256 := by
    have := Nat.two_pow_pos js.length
    have : 2 ^ js.length ≤ 2 ^ 8 := Nat.pow_le_pow_right (by omega) hn
    omega
  have sh := shl_eq (i := js.length) (by omega)
  rw [← hd] at sh hK
  obtain ⟨v1, h1, mk, H1, hp1, oa, rfl⟩ := make_I (Holds.start (h := h)) (n := d) (by omega)
  have H1 : Holds h h1 [.own (.slice oa d d) 1 ((List.replicate d (0 : Int)).map encI)] := H1
  simp -implicitDefEqProofs [sh, mk]
  refine R_loopO (fun m st h' => ∃ (c k : Nat), k = c + 1 ∧ k + m = d ∧ st = [(0, .slice oj js.length cj), (1, .int .i64 o), (2, .int .i64 s), (7, .slice oa d d), (8, .int .i64 k)] ∧ Holds h h' [.own (.slice oa d d) 1 ((tabV o js s c ++ List.replicate m 0).map encI)]) (fun I hI m st h' => ?_) (n := d - 1)
    ⟨0, 1, rfl, by omega, by simp, by
      have e : tabV o js s 0 ++ List.replicate (d - 1) 0 = List.replicate d 0 := by
        obtain ⟨k, rfl⟩ : ∃ k, d = k + 1 := ⟨d - 1, by omega⟩
        rw [List.replicate_succ]; rfl
      rw [e]; exact H1⟩
  rintro ⟨c, k, hkc, hkm, rfl, H⟩
  by_cases hlt : k < d
  · obtain ⟨m', rfl⟩ : ∃ m', m = m' + 1 := ⟨m - 1, by omega⟩
    have hlt' : (k : Int) < d := by omega
    have hcd : k < 2 ^ js.length := by omega
    have rt := timeOf_run (c := k) (Js.pre H.pre) hn hg hcd
    have tt := good_time hg hn (c := k)
    have w1 : IntKind.i64.wrap (s + timeC js k) = s + timeC js k := by rw [wrap_ok] <;> omega
    have tl := @tabV_len o s js c
    obtain ⟨h2, s2, H2, k2⟩ := put_I H 0 rfl (j := k) (by simp; omega) (-1)
    have e2 : ∀ z, (tabV o js s c ++ List.replicate (m' + 1) 0).set k z = tabV o js s c ++ z :: List.replicate m' 0 := fun z => by
      rw [List.set_append_right (h := by omega), show k - (tabV o js s c).length = 0 by omega, List.replicate_succ]; rfl
    rw [e2] at H2
    have hg2 : (tabV o js s c ++ List.replicate (m' + 1) 0)[k]? = some 0 := by rw [List.getElem?_append_right (by omega), show k - (tabV o js s c).length = 0 by omega]; rfl
    have ix := (load_I (H.sees 0 rfl) hg2).1
    simp -implicitDefEqProofs [-indexAddrP_some, hlt, hlt', CL_ret rt, w1, ix, s2]
    refine CL_post (listOf_run (n := js.length) (by omega) hcd) fun v3 h3 ⟨hp3, ho3⟩ => ?_
    have H3 := H2.call hp3 ho3
    have S3 : Ints h3 v3 (bitsL js.length k) := ho3.sees
    have bb := best_bits (o := o) (s := s) (js := js) (T := tabV o js s c) (c := k)
    have hbit : ∀ x, x ∈ bitsL js.length k → 0 ≤ x ∧ x < js.length ∧ k.testBit x.toNat = true := fun x hx => mem_bits.1 hx
    have hbl := @bits_len js.length k
    generalize bitsL js.length k = ys at *
    obtain ⟨oy, cy, rfl⟩ : ∃ a c, v3 = .slice a ys.length c := S3.shapeT
    simp -implicitDefEqProofs
    refine R_loopO (fun m2 st h4 => ∃ (i : Nat), i + m2 = ys.length ∧ st = [(0, .slice oj js.length cj), (1, .int .i64 o), (2, .int .i64 s), (7, .slice oa d d), (8, .int .i64 k), (9, .int .i64 (s + timeC js k)), (32, .slice oy ys.length cy), (33, .int .i64 ys.length), (34, .int .i64 i)] ∧
      Holds h h4 [.own (.slice oa d d) 1 ((tabV o js s c ++ ((ys.take i).foldl (stepL o js s (tabV o js s c) k) (-1)) :: List.replicate m' 0).map encI), .own (.slice oy ys.length cy) 1 (ys.map encI)]) (fun I2 hI2 m2 st h4 => ?_) (n := ys.length)
      ⟨0, Nat.zero_add _, by simp, H3⟩
    rintro ⟨i, him, rfl, H4⟩
    have S4 : Ints h4 (.slice oy ys.length cy) ys := H4.sees 1 rfl
    by_cases hli : i < ys.length
    · obtain ⟨y, hy, _⟩ := drop_at hli
      have hyb := hbit y (List.mem_of_getElem? hy)
      have ly := load_I S4 hy
      have lj := load_JX (Js.pre H4.pre) ⟨hyb.1, hyb.2.1⟩
      have hle := bit_le hyb.2.2
      have hpos := Nat.two_pow_pos y.toNat
      have g1 : k - 2 ^ y.toNat ≤ c := by omega
      have g2 : k - 2 ^ y.toNat < 2 ^ js.length := by omega
      have tb := tab_bd hok ho hs g1 g2
      obtain ⟨z, hz⟩ : ∃ z : Nat, z = k - 2 ^ y.toNat := ⟨_, rfl⟩
      have lz := load_I (H4.sees 0 rfl) (i := z) (x := gE (tabV o js s c) z) (by rw [List.getElem?_append_left (by omega)]; exact gE_get (by omega))
      obtain ⟨b, hb⟩ : ∃ b : Nat, b = 2 ^ y.toNat := ⟨_, rfl⟩
      have shy := shl_eq (i := y.toNat) (by omega)
      rw [show ((y.toNat : Nat) : Int) = y by omega, ← hb] at shy
      have cv := clr_val (k := k) (by omega) hb hyb.2.2 hz
      have jo : jobOk (jA js y) = true := by
        obtain ⟨q, hq, hql, hqy⟩ := jA_get (js := js) rfl ⟨hyb.1, hyb.2.1⟩
        exact job_at hg hqy
      have tl50 : timeC js k ≤ 2 ^ 19 := by
        have key : ∀ l : List Int, timeGo js l ≤ l.length * 50 := by
          intro l
          induction l with
          | nil => simp [timeGo]
          | cons x l ih =>
            have := good_t50 hg x
            have e : timeGo js (x :: l) = (jA js x).t + timeGo js l := rfl
            rw [e, List.length_cons]; omega
        have := key (bitsL js.length k)
        have := @bits_len js.length k
        have e : timeC js k = timeGo js (bitsL js.length k) := rfl
        rw [e]; omega
      rw [← hz] at tb
      have ra := fun {hh : Hp} => add_run (h := hh) (j := jA js y) (a := gE (tabV o js s c) z) (e := s + timeC js k) (o := o) (f := false) jo (by omega) (by omega) ho8 (by omega)
      have es : stepV o false (gE (tabV o js s c) z) (jA js y) (s + timeC js k) = lastC o js s (tabV o js s c) k y.toNat := by
        unfold stepV lastC
        rw [if_neg ho1, if_neg ho4, hz, show ((y.toNat : Nat) : Int) = y by omega]
      rw [es] at ra
      have lb := last_bd hok ho hs (m := c) (c := k) (i := y.toNat) (by omega) hcd hyb.2.2
      obtain ⟨V, hV⟩ : ∃ V, V = lastC o js s (tabV o js s c) k y.toNat := ⟨_, rfl⟩
      obtain ⟨b0, hb0⟩ : ∃ b0, b0 = (ys.take i).foldl (stepL o js s (tabV o js s c) k) (-1) := ⟨_, rfl⟩
      have eb : (ys.take (i + 1)).foldl (stepL o js s (tabV o js s c) k) (-1) = if b0 < 0 ∨ V < b0 then V else b0 := by
        rw [take_succ' hy, List.foldl_append, ← hb0, hV]; rfl
      rw [← hb0] at H4
      rw [← hV] at ra lb
      have hg4 : (tabV o js s c ++ b0 :: List.replicate m' 0)[k]? = some b0 := by rw [List.getElem?_append_right (by omega), show k - (tabV o js s c).length = 0 by omega]; rfl
      have lk := load_I (H4.sees 0 rfl) hg4
      by_cases c1 : b0 < 0 ∨ V < b0
      · rw [if_pos c1] at eb
        obtain ⟨h5, s5, H5, k5⟩ := put_I H4 0 rfl (j := k) (by simp; omega) V
        have e5 : (tabV o js s c ++ b0 :: List.replicate m' 0).set k V = tabV o js s c ++ V :: List.replicate m' 0 := by
          rw [List.set_append_right (h := by omega), show k - (tabV o js s c).length = 0 by omega]; rfl
        rw [e5] at H5
        rcases Classical.em (b0 < 0) with c2 | c2
        · simp -implicitDefEqProofs [-indexAddrP_some, hli, ly, shy, cv, lz, lj, CL_ret ra, CH_at ra, lk, c2, s5, winc hli (by omega)]
          exact ⟨m2 - 1, by omega, on hI2 ⟨i + 1, by omega, rfl, by rw [eb]; exact H5⟩⟩
        · have c3 : V < b0 := by rcases c1 with g | g; exact absurd g c2; exact g
          simp -implicitDefEqProofs [-indexAddrP_some, hli, ly, shy, cv, lz, lj, CL_ret ra, CH_at ra, lk, c2, c3, s5, winc hli (by omega)]
          exact ⟨m2 - 1, by omega, on hI2 ⟨i + 1, by omega, rfl, by rw [eb]; exact H5⟩⟩
      · rw [if_neg c1] at eb
        have c2 : ¬ b0 < 0 := fun g => c1 (.inl g)
        have c3 : ¬ V < b0 := fun g => c1 (.inr g)
        simp -implicitDefEqProofs [-indexAddrP_some, hli, ly, shy, cv, lz, lj, CL_ret ra, CH_at ra, lk, c2, c3, winc hli (by omega)]
        exact ⟨m2 - 1, by omega, on hI2 ⟨i + 1, by omega, rfl, by rw [eb]; exact H4⟩⟩
    · rw [List.take_of_length_le (by omega), ← bb] at H4
      simp -implicitDefEqProofs [hli, winc hlt (by omega)]
      refine ⟨m', by omega, on hI ⟨c + 1, k + 1, by omega, by omega, by simp, ?_⟩⟩
      have e6 : tabV o js s (c + 1) ++ List.replicate m' 0 = tabV o js s c ++ bestC o js s (tabV o js s c) k :: List.replicate m' 0 := by
        rw [tabV, ← hkc, List.append_assoc]; rfl
      rw [e6]
      exact H4.one 0 rfl
  · have hm : m = 0 := by omega
    subst hm
    rw [List.replicate_zero, List.append_nil, show c = d - 1 by omega] at H
    simp -implicitDefEqProofs [hlt]
    exact onK hK (H.ret 0 rfl)
/-! ### by the reference -/
theorem l6Last_run {s0 c i : Nat} {vt : Value} {T : List Int} (J : Jobs h vj js) (X : Ints h vt T) (hn : js.length ≤ 8) (hg : goodL js = true) (ho : sumB o = true) (hc : c < 2 ^ js.length) (hi : c.testBit i = true) (hT : c - 2 ^ i < T.length) (ht : 0 ≤ gE T (c - 2 ^ i) ∧ gE T (c - 2 ^ i) ≤ 2 ^ 31) :
    Ret P G n_spec_l6Last [vj, .int .i64 o, vt, .int .i64 c, .int .i64 i] h (.int .i64 (lastC o js 0 T c i)) h := by
  refine enter_run e_spec_l6Last (by simp) ?_
  have Js := J
  have Xs := X
  obtain ⟨oj, cj, rfl⟩ := J.shapeT
  obtain ⟨ot, ct, rfl⟩ := X.shapeT
  have hil := bit_lt hc hi
  have hle := bit_le hi
  have hpos := Nat.two_pow_pos i
  have h8 : 2 ^ js.length ≤ 2 ^ 8 := Nat.pow_le_pow_right (by omega) hn
  obtain ⟨ho8, ho1, ho4⟩ := sumB_of ho
  have rt := fun {hh : Hp} (hp : h <+: hh) => l6Times_run (c := c) (Js.pre hp) hn hg (by omega)
  have tt := good_time hg hn (c := c)
  have cb := good_cb hg ho
  have tl50 : timeC js c ≤ 2 ^ 19 := by
    have key : ∀ l : List Int, timeGo js l ≤ l.length * 50 := by
      intro l
      induction l with
      | nil => simp [timeGo]
      | cons x l ih =>
        have := good_t50 hg x
        have e : timeGo js (x :: l) = (jA js x).t + timeGo js l := rfl
        rw [e, List.length_cons]; omega
    have := key (bitsL js.length c)
    have := @bits_len js.length c
    have e : timeC js c = timeGo js (bitsL js.length c) := rfl
    rw [e]; omega
  have jo : jobOk (jA js i) = true := by
    obtain ⟨q, hq, hql, hqy⟩ := jA_get (js := js) (x := (i : Int)) rfl (by omega)
    exact job_at hg hqy
  have rc := fun {hh : Hp} => l2Cost_run (h := hh) (j := jA js i) (e := timeC js c) (o := o) jo (by omega) (by omega) ho8 ho1 ho4
  have c1 := cb.lo i (timeC js c) (by omega)
  have c2 := cb.hi i (timeC js c) (by omega) (by omega)
  obtain ⟨z, hz⟩ : ∃ z : Nat, z = c - 2 ^ i := ⟨_, rfl⟩
  obtain ⟨b, hb⟩ : ∃ b : Nat, b = 2 ^ i := ⟨_, rfl⟩
  have shy := shl_eq (i := i) (by omega)
  rw [← hb] at shy
  rw [← hz] at hT ht
  have wz : IntKind.i64.wrap ((c : Int) - (b : Int)) = (z : Int) := by rw [wrap_ok] <;> omega
  have lz := load_I Xs (gE_get hT)
  have lj := load_JX Js (x := (i : Int)) (by omega)
  rw [Int.toNat_natCast] at lj
  have w2 : IntKind.i64.wrap (gE T z + costV o (jA js i) (timeC js c)) = gE T z + costV o (jA js i) (timeC js c) := by rw [wrap_ok] <;> omega
  have e : lastC o js 0 T c i = gE T z + costV o (jA js i) (timeC js c) := by unfold lastC; rw [Int.zero_add, hz]
  rw [e]
  simp -implicitDefEqProofs [-indexAddrP_some, shy, wz, lz, lj, CL_ret (rt List.prefix_rfl), CH_at (rt List.prefix_rfl), CL_ret rc, CH_at rc, w2]
theorem l6Values_run (J : Jobs h vj js) (hok : plOk js = true) (ho : sumB o = true) : RunsC P G n_spec_l6Values [vj, .int .i64 o] h fun w h' => h <+: h' ∧ Own h.length h' w 1 ((tabV o js 0 (2 ^ js.length - 1)).map encI) := by
  refine hideC fun K hK => enter_run e_spec_l6Values (by simp) ?_
  have Js := J
  obtain ⟨oj, cj, rfl⟩ := J.shapeT
  obtain ⟨hn, hg, _⟩ := plOk_of hok
  obtain ⟨d, hd⟩ : ∃ d, d = 2 ^ js.length := ⟨_, rfl⟩
  have d1 : 1 ≤ d ∧ d ≤ 256 := by
    have := Nat.two_pow_pos js.length
    have : 2 ^ js.length ≤ 2 ^ 8 := Nat.pow_le_pow_right (by omega) hn
    omega
  have sh := shl_eq (i := js.length) (by omega)
  rw [← hd] at sh hK
  have H0 : Holds h (h ++ [some ⟨[.int .i64 0], 1, false⟩]) [.own (.slice (some ⟨h.length, 0, some 1⟩) 1 1) 1 ((tabV o js 0 0).map encI)] := by
    have := (Holds.start (h := h)).lit (sz := 1) (n := 1) (els := ([0] : List Int).map encI) (len_I [0]) (by simp)
    have e0 : tabV o js 0 0 = [0] := rfl
    rw [e0]
    simpa [encI] using this
  simp -implicitDefEqProofs
  refine R_loopO (fun m st h' => ∃ (c k : Nat) (u : Value), k = c + 1 ∧ k + m = d ∧ st = [(0, .slice oj js.length cj), (1, .int .i64 o), (5, u), (6, .int .i64 k)] ∧ Holds h h' [.own u 1 ((tabV o js 0 c).map encI)]) (fun I hI m st h' => ?_) (n := d - 1)
    ⟨0, 1, _, rfl, by omega, by simp, H0⟩
  rintro ⟨c, k, u, hkc, hkm, rfl, H⟩
  have tl := @tabV_len o 0 js c
  have S : Ints h' u (tabV o js 0 c) := H.sees 0 rfl
  by_cases hlt : k < d
  · have hlt' : (k : Int) < d := by omega
    have hcd : k < 2 ^ js.length := by omega
    simp -implicitDefEqProofs [sh, hlt, hlt']
    refine R_loopO (fun m2 st h4 => ∃ (i : Nat), i + m2 = js.length ∧ st = [(0, .slice oj js.length cj), (1, .int .i64 o), (5, u), (6, .int .i64 k), (7, .int .i64 ((List.range' 0 i).foldl (stepC o js 0 (tabV o js 0 c) k) (-1))), (8, .int .i64 i)] ∧ h4 = h') (fun I2 hI2 m2 st h4 => ?_) (n := js.length)
      ⟨0, Nat.zero_add _, by simp, rfl⟩
    rintro ⟨i, him, rfl, rfl⟩
    obtain ⟨b0, hb0⟩ : ∃ b0, b0 = (List.range' 0 i).foldl (stepC o js 0 (tabV o js 0 c) k) (-1) := ⟨_, rfl⟩
    have eb : (List.range' 0 (i + 1)).foldl (stepC o js 0 (tabV o js 0 c) k) (-1) = stepC o js 0 (tabV o js 0 c) k b0 i := by
      rw [List.range'_concat, List.foldl_append, ← hb0]; simp
    rw [← hb0]
    by_cases hli : i < js.length
    · have bv := bit_val (c := k) (i := i) (by omega)
      cases ct : k.testBit i
      · have es : stepC o js 0 (tabV o js 0 c) k b0 i = b0 := by unfold stepC; rw [ct, if_neg (by simp)]
        rw [ct, if_neg (by simp)] at bv
        rw [es] at eb
        simp -implicitDefEqProofs [hli, shr_eq (c := k) (i := i) (by omega), bv, winc hli (by omega)]
        exact ⟨m2 - 1, by omega, on hI2 ⟨i + 1, by omega, by rw [eb]; rfl, rfl⟩⟩
      · rw [ct, if_pos rfl] at bv
        have hle := bit_le ct
        have hpos := Nat.two_pow_pos i
        have g1 : k - 2 ^ i ≤ c := by omega
        have g2 : k - 2 ^ i < 2 ^ js.length := by omega
        have tb := tab_bd hok ho (s := 0) (by omega) g1 g2
        have rl := l6Last_run (s0 := 0) (Js.pre H.pre) S hn hg ho hcd ct (by omega) (by omega)
        have es : stepC o js 0 (tabV o js 0 c) k b0 i = if b0 < 0 ∨ lastC o js 0 (tabV o js 0 c) k i < b0 then lastC o js 0 (tabV o js 0 c) k i else b0 := by unfold stepC; rw [ct, if_pos rfl]
        rw [es] at eb
        generalize lastC o js 0 (tabV o js 0 c) k i = V at *
        obtain ⟨uo, un, uc, rfl⟩ : ∃ a n c, u = .slice a n c := by obtain ⟨a, c, e⟩ := S.shape; exact ⟨_, _, _, e⟩
        by_cases c1 : b0 < 0
        · rw [if_pos (.inl c1)] at eb
          simp -implicitDefEqProofs [hli, shr_eq (c := k) (i := i) (by omega), bv, CL_ret rl, c1, winc hli (by omega)]
          exact ⟨m2 - 1, by omega, on hI2 ⟨i + 1, by omega, by rw [eb]; rfl, rfl⟩⟩
        · by_cases c2 : V < b0
          · rw [if_pos (.inr c2)] at eb
            simp -implicitDefEqProofs [hli, shr_eq (c := k) (i := i) (by omega), bv, CL_ret rl, c1, c2, winc hli (by omega)]
            exact ⟨m2 - 1, by omega, on hI2 ⟨i + 1, by omega, by rw [eb]; rfl, rfl⟩⟩
          · rw [if_neg (by rintro (g | g); exact c1 g; exact c2 g)] at eb
            simp -implicitDefEqProofs [hli, shr_eq (c := k) (i := i) (by omega), bv, CL_ret rl, c1, c2, winc hli (by omega)]
            exact ⟨m2 - 1, by omega, on hI2 ⟨i + 1, by omega, by rw [eb]; rfl, rfl⟩⟩
    · have : i = js.length := by omega
      have eB : b0 = bestC o js 0 (tabV o js 0 c) k := by rw [hb0, this]; rfl
      obtain ⟨v2, h2, ha, H2, _⟩ := push_I0 H 0 rfl b0 (by omega)
      simp -implicitDefEqProofs [hli, ha, winc hlt (by omega)]
      refine ⟨m - 1, by omega, on hI ⟨c + 1, k + 1, v2, by omega, by omega, by simp, ?_⟩⟩
      have e6 : tabV o js 0 (c + 1) = tabV o js 0 c ++ [b0] := by rw [tabV, ← hkc, eB]
      rw [e6]
      exact H2
  · have hm : m = 0 := by omega
    subst hm
    rw [show c = d - 1 by omega] at H
    have hlt' : ¬ (k : Int) < d := by omega
    simp -implicitDefEqProofs [sh, hlt, hlt']
    exact onK hK (H.ret 0 rfl)
end
end Go.Pm.PP

/- The order that is found from its end, by both; total times. -/
set_option linter.unusedVariables false
set_option linter.unusedSimpArgs false
set_option maxRecDepth 4000
set_option maxHeartbeats 8000000
namespace Go.Pm.PP
open Go.Pm Go.Proofs Go.Pm.PE
def setOk (js : List Job) (o : Int) : Bool := plOk js && sumB o
def fullC (js : List Job) : Nat := 2 ^ js.length - 1
def tabF (o : Int) (js : List Job) : List Int := tabV o js 0 (fullC js)
def backF (o : Int) (js : List Job) : List Int := backC o js 0 (tabF o js) (fullC js) (fullC js)
theorem back_more {o s : Int} {js : List Job} {T : List Int} : ∀ {n m c : Nat}, c ≤ n → c ≤ m → backC o js s T n c = backC o js s T m c
  | 0, m, c, h1, _ => by
    have : c = 0 := by omega
    subst this
    cases m with
    | zero => rfl
    | succ m => rw [backC, backC, if_pos rfl]
  | n + 1, 0, c, _, h2 => by
    have : c = 0 := by omega
    subst this
    have e1 : backC o js s T (n + 1) 0 = [] := by rw [backC, if_pos rfl]
    rw [e1]; rfl
  | n + 1, m + 1, c, h1, h2 => by
    rw [backC, backC]
    split
    · rfl
    · split
      · rfl
      · rename_i hc i hi
        have hp := List.find?_some hi
        unfold pickC at hp
        rw [Bool.and_eq_true] at hp
        have := bit_le hp.1
        have := Nat.two_pow_pos i
        rw [back_more (n := n) (m := m) (by omega) (by omega)]
theorem fullC_lt {js : List Job} : fullC js < 2 ^ js.length := by have := Nat.two_pow_pos js.length; unfold fullC; omega
section
variable {h : Hp} {vj v : Value} {js : List Job} {xs : List Int} {o : Int}
/-- The first one of a set that fits. -/
theorem find_bits {q : Nat → Bool} {n c i0 : Nat} (h : (List.range' 0 n).find? (fun i => c.testBit i && q i) = some i0) : ∃ A B : List Int, bitsL n c = A ++ (i0 : Int) :: B ∧ (∀ x, x ∈ A → q x.toNat = false) ∧ q i0 = true := by
  have hp := List.find?_some h
  have hfe := List.find?_eq_some_iff_getElem.1 h
  obtain ⟨_, k, hk, hki, hall⟩ := hfe
  have hki' : k = i0 := by simpa using hki
  subst hki'
  have hkn : k < n := by simpa using hk
  rw [Bool.and_eq_true] at hp
  have hm : (k : Int) ∈ bitsL n c := mem_bits.2 ⟨by omega, by omega, by simpa using hp.1⟩
  obtain ⟨A, B, e⟩ := List.append_of_mem hm
  refine ⟨A, B, e, fun x hx => ?_, hp.2⟩
  have hasc : (bitsL n c).Pairwise (· < ·) := bits_asc
  rw [e, List.pairwise_append] at hasc
  have hlt := hasc.2.2 x hx (k : Int) (List.mem_cons_self ..)
  have hxb := mem_bits.1 (show x ∈ bitsL n c by rw [e]; exact List.mem_append_left _ hx)
  have := hall x.toNat (by omega)
  have e2 : (List.range' 0 n)[x.toNat]'(by simp; omega) = x.toNat := by simp
  rw [e2, hxb.2.2, Bool.true_and] at this
  simpa using this
/-! ### total times -/
def totT (js : List Job) : Int := (js.map (·.t)).sum
theorem tot_bd {js : List Job} (hg : goodL js = true) : 0 ≤ totT js ∧ totT js ≤ js.length * 50 := by
  induction js with
  | nil => simp [totT]
  | cons j js ih =>
    rw [goodL_cons, Bool.and_eq_true] at hg
    have := job_of hg.1
    have ih := ih hg.2
    have e : totT (j :: js) = j.t + totT js := rfl
    rw [e, List.length_cons]; omega
theorem tot_take {js : List Job} {i : Nat} {y : Job} (hy : js[i]? = some y) : totT (js.take (i + 1)) = totT (js.take i) + y.t := by
  unfold totT; rw [take_succ' hy, List.map_append, List.sum_append]; simp
theorem good_take {js : List Job} (hg : goodL js = true) {i : Nat} : goodL (js.take i) = true := by
  rw [goodL, List.all_eq_true] at hg ⊢
  exact fun x hx => hg x (List.mem_of_mem_take hx)
theorem l2Times_run (J : Jobs h vj js) (hn : js.length ≤ 8) (hg : goodL js = true) : Ret P G n_spec_l2Times [vj] h (.int .i64 (totT js)) h := by
  refine enter_run e_spec_l2Times (by simp) ?_
  have Js := J
  obtain ⟨oj, cj, rfl⟩ := J.shapeT
  simp -implicitDefEqProofs
  refine R_loopO (fun m s h' => ∃ (i : Nat), i + m = js.length ∧ s = [(0, .slice oj js.length cj), (3, .int .i64 (totT (js.take i))), (4, .int .i64 i)] ∧ h' = h) (fun I hI m s h' => ?_) (n := js.length)
    ⟨0, Nat.zero_add _, by simp [totT], rfl⟩
  rintro ⟨i, hi, rfl, rfl⟩
  by_cases hlt : i < js.length
  · obtain ⟨y, hy, _⟩ := drop_at hlt
    have lj := load_J Js hy
    have tb := tot_bd (good_take hg (i := i))
    have jb := job_of (job_at hg hy)
    have tl : (js.take i).length ≤ 8 := by rw [List.length_take]; omega
    have w1 : IntKind.i64.wrap (totT (js.take i) + y.t) = totT (js.take (i + 1)) := by rw [tot_take hy, wrap_ok] <;> omega
    simp -implicitDefEqProofs [-indexAddrP_some, hlt, lj, w1, winc hlt (by omega)]
    exact ⟨m - 1, by omega, on hI ⟨i + 1, by omega, rfl, rfl⟩⟩
  · rw [List.take_of_length_le (by omega)]
    simp -implicitDefEqProofs [hlt]
theorem totalOf_run (J : Jobs h vj js) (hn : js.length ≤ 8) (hg : goodL js = true) : Ret P G n_impl_totalOf [vj] h (.int .i64 (totT js)) h := by
  refine enter_run e_impl_totalOf (by simp) ?_
  have Js := J
  obtain ⟨oj, cj, rfl⟩ := J.shapeT
  simp -implicitDefEqProofs
  refine R_loopO (fun m s h' => ∃ (i : Nat), i + m = js.length ∧ s = [(3, .int .i64 (totT (js.take i))), (6, .slice oj js.length cj), (7, .int .i64 js.length), (8, .int .i64 i)] ∧ h <+: h') (fun I hI m s h' => ?_) (n := js.length)
    ⟨0, Nat.zero_add _, by simp [totT], List.prefix_rfl⟩
  rintro ⟨i, hi, rfl, hp⟩
  by_cases hlt : i < js.length
  · obtain ⟨y, hy, _⟩ := drop_at hlt
    have lj := load_J (Js.pre hp) hy
    have tb := tot_bd (good_take hg (i := i))
    have jb := job_of (job_at hg hy)
    have tl : (js.take i).length ≤ 8 := by rw [List.length_take]; omega
    have w1 : IntKind.i64.wrap (totT (js.take i) + y.t) = totT (js.take (i + 1)) := by rw [tot_take hy, wrap_ok] <;> omega
    simp -implicitDefEqProofs [-indexAddrP_some, hlt, lj, w1, winc hlt (by omega)]
    exact ⟨m - 1, by omega, on hI ⟨i + 1, by omega, rfl, hp.trans (List.prefix_append ..)⟩⟩
  · rw [List.take_of_length_le (by omega)]
    simp -implicitDefEqProofs [hlt]
    exact gcP hp rfl
def ttV (js : List Job) : Int := if plOk js = true then totT js else 0
theorem implTotalTime_run (J : Jobs h vj js) (hl : js.length ≤ 2 ^ 40) : Ret P G n_impl_TotalTime [vj] h (.tuple #[.int .i64 (ttV js), .bool (plOk js)]) h := by
  refine enter_run e_impl_TotalTime (by simp) ?_
  have r1 := IsPlain_run J hl
  have Js := J
  obtain ⟨oj, cj, rfl⟩ := J.shapeT
  cases c1 : plOk js
  · simp -implicitDefEqProofs [CL_ret r1, c1, ttV]
  · have r2 := totalOf_run Js (plOk_of c1).1 (plOk_of c1).2.1
    simp -implicitDefEqProofs [CL_ret r1, c1, ttV, CL_ret r2]
end
end Go.Pm.PP

/- FnSetValues in the small machine. -/
set_option linter.unusedVariables false
set_option linter.unusedSimpArgs false
set_option maxRecDepth 4000
set_option maxHeartbeats 16000000
namespace Go.Pm.PP
open Go.Pm Go.Proofs Go.Pm.PE
section
variable {h0 h : Hp} {r n : Nat} {vc : Value} {L : List Asn}
end
/-! ### in plain terms -/
theorem ord_of_perm {n : Nat} {xs : List Int} (h : xs.Perm (upTo n)) : Ord n xs := ⟨by rw [h.length_eq, upTo_len], fun x hx => mem_upTo.1 (h.mem_iff.1 hx), h.nodup_iff.2 (upTo_nodup _)⟩
theorem back_best {js : List Job} {o : Int} (hok : setOk js o = true) : Ord js.length (backF o js) ∧ valX o js (backF o js) = gE (tabF o js) (fullC js) ∧ bestV o js = gE (tabF o js) (fullC js) := by
  rw [setOk, Bool.and_eq_true] at hok
  obtain ⟨hn, hg, _⟩ := plOk_of hok.1
  obtain ⟨ho8, ho1, ho4⟩ := sumB_of hok.2
  have p := plOk_pl hok.1
  have cb := good_cb hg hok.2
  obtain ⟨b1, b2, _⟩ := back_spec p cb (Int.le_refl 0) fullC_lt (n := fullC js) (Nat.le_refl (fullC js)) (Nat.le_refl _)
  have hbf : bitsL js.length (fullC js) = upTo js.length := bits_up
  rw [hbf] at b1
  have o1 : Ord js.length (backF o js) := ord_of_perm b1
  have v1 : valX o js (backF o js) = gE (tabF o js) (fullC js) := by
    unfold valX
    rw [val_sum ho1 ho4 (ord_prm o1)]
    exact b2
  refine ⟨o1, v1, ?_⟩
  obtain ⟨h1, h2, h3, h4⟩ := best_facts (f := valX o js) (n := js.length) hn
  have e : bestV o js = (bestR (valX o js) js.length).v := rfl
  have g1 := h4 _ o1
  have g2 := (tab_spec (o := o) (s := 0) p cb (Int.le_refl 0) (Nat.le_refl (fullC js)) fullC_lt).2 (bestR (valX o js) js.length).o (by rw [hbf]; exact ord_perm h3)
  have g3 : valX o js (bestR (valX o js) js.length).o = sumGo o js 0 (bestR (valX o js) js.length).o := val_sum ho1 ho4 (ord_prm h3)
  have g2 : gE (tabF o js) (fullC js) ≤ sumGo o js 0 (bestR (valX o js) js.length).o := g2
  rw [e]; omega
theorem tot_sum {js : List Job} : totT js = ((upTo js.length).map fun x => (jA js x).t).sum := by
  unfold totT upTo
  rw [List.map_map]
  have : js = (List.range js.length).map fun i => (js[i]?).getD ⟨0, 0, 0, 0⟩ := by
    apply List.ext_getElem?
    intro i
    rw [List.getElem?_map]
    rcases Nat.lt_or_ge i js.length with g | g
    · rw [List.getElem?_range g]; simp [List.getElem?_eq_getElem g]
    · rw [List.getElem?_eq_none g, List.getElem?_eq_none (by simpa using g)]; rfl
  conv => lhs; rw [this]
  rw [List.map_map]
  rfl
theorem end_tot {js : List Job} (hok : plOk js = true) {xs : List Int} (o : Ord js.length xs) : valX 1 js xs = totT js := by
  have p := plOk_pl hok
  unfold valX
  rw [val_end p.t (ord_prm o), nowGo_plain p (Int.le_refl 0), tot_sum, Int.zero_add, perm_time (ord_perm o)]
end Go.Pm.PP

/- FnFronts in the small machine. -/
set_option linter.unusedVariables false
set_option linter.unusedSimpArgs false
set_option maxRecDepth 4000
set_option maxHeartbeats 16000000
namespace Go.Pm.PP
open Go.Pm Go.Proofs Go.Pm.PE
theorem front_ne {f g : Int} {js : List Job} (hn : js.length ≤ 8) : 0 < (frontR f g js).length := by
  obtain ⟨q, hq, _⟩ := (front_facts (f := f) (g := g) hn).2.2 (upTo js.length) (ord_of_perm (List.Perm.refl _))
  exact List.length_pos_of_mem hq
section
variable {h0 h : Hp} {r n : Nat} {vc : Value} {L : List Asn}
theorem keepsR_gc {r : Option Nat} {u : Value} {h h' : Hp} (k : Keeps r h h') : Keeps r h (gc h h' u) := by
  rcases gc_cases h h' u with g | ⟨_, g⟩ <;> rw [g]
  · exact k
  · exact .refl
/-- The same, and nothing else is written. -/
theorem nextK_run (B : By h0 vc) (C : Cur h0 h r vc n L) (hn : n ≤ 2 ^ 50) : RunsC P G n_spec_l1Cur_next [.pointer (some ⟨r, 0, some 3⟩)] h fun v h' => ∃ x : Int, v = .int .i64 x ∧ 0 ≤ x ∧ x ≤ 255 ∧ Cur h0 h' r vc (n + 1) L ∧ Keeps (some r) h h' := by
  refine hideC fun K hK => enter_run e_spec_l1Cur_next (by simp) ?_
  have Cs := C
  obtain ⟨bs, Sb, hb, hl⟩ := B
  obtain ⟨a, s, a0, a1, H⟩ := C
  obtain ⟨ob, cb, rfl⟩ := Sb.shapeT
  have Sb' := Sb.pre H.pre
  have l1 := H.bl (P := P) 0 3 rfl rfl
  obtain ⟨h1, s1, H1, k1⟩ := H.set (P := P) 0 (n := 3) (o := 1) (ty := t_int) (w := .int .i64 (a + 1)) rfl rfl e_t_int (by simp) (by simp) (by simp)
  have l2 := H1.bl (P := P) 0 3 rfl rfl
  have wa : IntKind.i64.wrap (a + 1) = a + 1 := by rw [wrap_ok] <;> omega
  by_cases c1 : a < bs.length
  · obtain ⟨b, hbb, _⟩ := drop_at (show a.toNat < bs.length by omega)
    have lb := load_U Sb' hbb
    rw [show ((a.toNat : Nat) : Int) = a by omega] at lb
    have hb' := hb b (List.mem_of_getElem? hbb)
    have wb : IntKind.i64.wrap b = b := by rw [wrap_ok] <;> omega
    have c2 : a + 1 ≤ bs.length := by omega
    obtain ⟨h2, s2, H2, k2⟩ := H1.set (P := P) 0 (n := 3) (o := 2) (ty := t_u64) (w := .int .u64 (IntKind.u64.wrap (IntKind.u64.wrap (IntKind.u64.wrap (s * 6364136223846793005) + IntKind.u64.wrap b) + 462197))) rfl rfl e_t_u64 (by simp) (by simp) (by simp)
    have l3 := H2.bl (P := P) 0 3 rfl rfl
    simp -implicitDefEqProofs [-indexAddrP_some, l1, c1, lb, wb, wa, s1, l2, s2, l3, c2, cv1, cv2, cv3]
    exact onK hK ⟨b, rfl, hb'.1, hb'.2, Cs.gc ⟨a + 1, _, by omega, by omega, H2⟩, keepsR_gc (k1.trans k2)⟩
  · have c2 : ¬ a + 1 ≤ bs.length := by omega
    obtain ⟨h2, s2, H2, k2⟩ := H1.set (P := P) 0 (n := 3) (o := 2) (ty := t_u64) (w := .int .u64 (IntKind.u64.wrap (IntKind.u64.wrap (IntKind.u64.wrap (s * 6364136223846793005) + IntKind.u64.wrap 0) + 462197))) rfl rfl e_t_u64 (by simp) (by simp) (by simp)
    have l3 := H2.bl (P := P) 0 3 rfl rfl
    obtain ⟨z, hz⟩ := shr40 (IntKind.u64.wrap (IntKind.u64.wrap (IntKind.u64.wrap (s * 6364136223846793005) + IntKind.u64.wrap 0) + 462197))
    simp -implicitDefEqProofs [-indexAddrP_some, l1, c1, wa, s1, l2, s2, l3, c2, cv1, cv2, cv3, hz]
    exact onK hK ⟨_, rfl, (and_bd _).1, (and_bd _).2, Cs.gc ⟨a + 1, _, by omega, by omega, H2⟩, keepsR_gc (k1.trans k2)⟩
theorem pickK_run (B : By h0 vc) (C : Cur h0 h r vc n L) (hn : n ≤ 2 ^ 40) {k : Int} (hk : k ≤ 2 ^ 40) : RunsC P G n_spec_l1Cur_pick [.pointer (some ⟨r, 0, some 3⟩), .int .i64 k] h fun v h' => ∃ x : Int, v = .int .i64 x ∧ 0 ≤ x ∧ (1 ≤ k → x < k) ∧ Cur h0 h' r vc (n + 2) L ∧ Keeps (some r) h h' := by
  refine hideC fun K hK => enter_run e_spec_l1Cur_pick (by simp) ?_
  by_cases c0 : k ≤ 1
  · simp -implicitDefEqProofs [c0]
    exact onK hK ⟨0, rfl, by omega, fun h => by omega, C.mono (by omega), .refl⟩
  · simp -implicitDefEqProofs [c0]
    refine CL_post (nextK_run B C (by omega)) fun v h1 ⟨x, ev, x0, x1, C1, k1⟩ => ?_
    subst ev
    have k0 : ¬ k = 0 := by omega
    by_cases c1 : 200 < k
    · have w1 : IntKind.i64.wrap (x * 256) = x * 256 := by rw [wrap_ok] <;> omega
      simp -implicitDefEqProofs [c1, w1]
      refine CL_post (nextK_run B C1 (by omega)) fun v h2 ⟨y, ev, y0, y1, C2, k2⟩ => ?_
      subst ev
      have w2 : IntKind.i64.wrap (x * 256 + y) = x * 256 + y := by rw [wrap_ok] <;> omega
      have e : (x * 256 + y).tmod k = (x * 256 + y) % k := Int.tmod_eq_emod_of_nonneg (by omega)
      have m1 := Int.emod_nonneg (x * 256 + y) k0
      have m2 := Int.emod_lt_of_pos (x * 256 + y) (show 0 < k by omega)
      simp -implicitDefEqProofs [w2, k0, e]
      exact onK hK ⟨_, rfl, m1, fun _ => m2, C.gc C2, keepsR_gc (k1.trans k2)⟩
    · have e : x.tmod k = x % k := Int.tmod_eq_emod_of_nonneg x0
      have m1 := Int.emod_nonneg x k0
      have m2 := Int.emod_lt_of_pos x (show 0 < k by omega)
      simp -implicitDefEqProofs [c1, k0, e]
      exact onK hK ⟨_, rfl, m1, fun _ => m2, C.gc (C1.mono (by omega)), keepsR_gc k1⟩
end
theorem DrawIsUndominated_run {h : Hp} {vc : Value} (B : By h vc) : RunsC P G n_spec_DrawIsUndominated [vc] h fun v h' => h <+: h' ∧ ∃ (js : List Job) (xs : List Int) (f g : Int) (u w : Value), v = .tuple #[u, w, .int .i64 f, .int .i64 g] ∧ js.length ≤ 9 ∧ xs.length ≤ 10 ∧ Jobs h' u js ∧ Ints h' w xs := by
  refine hideC fun K hK => enter_run e_spec_DrawIsUndominated (by simp) ?_
  have C0 : Cur h (h ++ [some ⟨[vc, .int .i64 0, .int .u64 0], 0, false⟩]) h.length vc 0 [] := ⟨0, 0, by omega, by omega, (Holds.start (h := h)).alloc _⟩
  obtain ⟨bs, Sb, hb, hbl⟩ := B
  have Bs : By h vc := ⟨bs, Sb, hb, hbl⟩
  obtain ⟨ob, cb, rfl⟩ := Sb.shapeT
  simp -implicitDefEqProofs
  refine CL_post (one_run Bs C0 (by omega) (k := 3) (by omega)) fun v h1 ⟨b, ev, C1⟩ => ?_
  subst ev
  simp -implicitDefEqProofs
  refine CL_post (someJobs_run Bs C1 (by omega) (b := b) (most := 5) (by omega)) fun u h2 ⟨js, hl, C2⟩ => ?_
  obtain ⟨ua, uc, rfl⟩ : ∃ a c, u = .slice a js.length c := C2.seesJ.shapeT
  simp -implicitDefEqProofs
  refine CL_post (order_run Bs C2 (by omega) (N := js.length) (by omega)) fun w h3 ⟨xs, hl3, C3⟩ => ?_
  obtain ⟨wa, wc, rfl⟩ : ∃ a c, w = .slice a xs.length c := C3.seesI.shapeT
  simp -implicitDefEqProofs
  refine CL_post (objective_run Bs C3 (by omega)) fun v h4 ⟨f, ev, C4⟩ => ?_
  subst ev
  simp -implicitDefEqProofs
  refine CL_post (objective_run Bs C4 (by omega)) fun v h5 ⟨g, ev, C5⟩ => ?_
  subst ev
  have J5 := C5.weak.seesJ
  have fin : ∀ {w : Value} {ys : List Int} {h9 : Hp}, h5 <+: h9 → ys.length ≤ 10 → Ints h9 w ys → K (.tuple #[.slice ua js.length uc, w, .int .i64 f, .int .i64 g]) (gc h h9 (.tuple #[.slice ua js.length uc, w, .int .i64 f, .int .i64 g])) := fun {w ys h9} hp hy W => by
    have := gc_JX (r := [.int .i64 f, .int .i64 g]) (C5.pre.trans hp) (J5.pre hp) W
    exact onK hK ⟨this.1, js, ys, f, g, _, _, rfl, hl, hy, this.2⟩
  have rg := good_run J5 (by omega)
  cases c1 : jOk js
  · rw [c1] at rg
    simp -implicitDefEqProofs [CL_ret rg]
    exact fin List.prefix_rfl (by omega) C5.seesI
  rw [c1] at rg
  cases c2 : (inB f 1 8 && inB g 1 8)
  · simp -implicitDefEqProofs [CL_ret rg, CL_ret l11Two_run, c2]
    exact fin List.prefix_rfl (by omega) C5.seesI
  have hok : aTwo js f g = true := by rw [aTwo_eq, c1, c2]; rfl
  obtain ⟨hn, hg, hf, hg8⟩ := aTwo_of hok
  simp -implicitDefEqProofs [CL_ret rg, CL_ret l11Two_run, c2]
  refine CL_post (one_run Bs C5 (by omega) (k := 2) (by omega)) fun v h6 ⟨b6, ev, C6⟩ => ?_
  subst ev
  have J6 := C6.weak.seesJ
  have fin6 : ∀ {w : Value} {ys : List Int} {h9 : Hp}, h6 <+: h9 → ys.length ≤ 10 → Ints h9 w ys → K (.tuple #[.slice ua js.length uc, w, .int .i64 f, .int .i64 g]) (gc h h9 (.tuple #[.slice ua js.length uc, w, .int .i64 f, .int .i64 g])) := fun {w ys h9} hp hy W => by
    have := gc_JX (r := [.int .i64 f, .int .i64 g]) (C6.pre.trans hp) (J6.pre hp) W
    exact onK hK ⟨this.1, js, ys, f, g, _, _, rfl, hl, hy, this.2⟩
  cases b6
  · simp -implicitDefEqProofs
    exact fin6 List.prefix_rfl (by omega) C6.seesI
  simp -implicitDefEqProofs
  refine CL_post (l11Front_run (f := f) (g := g) J6 hg hn hf hg8) fun w7 h7 ⟨hp7, hF, S7⟩ => ?_
  have hpos := front_ne (f := f) (g := g) hn
  have ff := (front_facts (f := f) (g := g) hn).2.1
  have hFl := hF.len
  generalize frontR f g js = F at *
  obtain ⟨fa, fc, rfl⟩ : ∃ a c, w7 = .slice a F.length c := S7.shapeT
  have C7 : Cur h h7 h.length (.slice ob bs.length cb) (0 + 1000) ([.own (.slice ua js.length uc) 4 (js.map encJ)]) := by
    obtain ⟨a, s, a0, a1, H⟩ := C6.weak
    exact ⟨a, s, a0, by omega, H.ext hp7⟩
  simp -implicitDefEqProofs
  refine CL_post (pickK_run Bs C7 (by omega) (k := F.length) (by omega)) fun v h8 ⟨x, ev, x0, x1, C8, k8⟩ => ?_
  subst ev
  obtain ⟨k, rfl⟩ : ∃ k : Nat, x = k := ⟨x.toNat, by omega⟩
  have hk : k < F.length := by have := x1 (by omega); omega
  have hbox : ∃ cs, h7[h.length]? = some (some ⟨cs, 0, false⟩) := by
    obtain ⟨a, s, _, _, H⟩ := C7
    exact ⟨_, H.box 0 rfl⟩
  obtain ⟨cs, hbox⟩ := hbox
  have S8 : Prs h8 (.slice fa F.length fc) F := Sees.boxK S7 (by omega) hbox k8
  obtain ⟨q, hq, _⟩ := drop_at hk
  have lq := load_Q S8 hq
  have J8 : Jobs h8 (.slice ua js.length uc) js := by
    obtain ⟨a, s, _, _, H⟩ := C8
    exact H.sees 1 rfl
  have nilI : Ints h8 (.slice none 0 0) [] := ⟨by simp, none, 0, rfl, .inl ⟨rfl, rfl, rfl⟩⟩
  have r := l11First_run (p := q) hg hn hf hg8 (k := js.length) J8 nilI (by simp) (fun x hx => by cases hx) List.nodup_nil
  obtain ⟨o, ho, oo, _⟩ := first_some (ff q (List.mem_of_getElem? hq))
  rw [first_ffs, ho] at r
  simp -implicitDefEqProofs [-indexAddrP_some, lq]
  refine CL_post r fun w h9 ⟨hp9, a9, n9, c9, ew, hs⟩ => ?_
  subst ew
  have So := hs o rfl
  simp -implicitDefEqProofs
  have hh9 : h <+: h9 := C8.pre.trans hp9
  have := gc_JX (r := [.int .i64 f, .int .i64 g]) hh9 (J8.pre hp9) So
  exact onK hK ⟨this.1, js, o, f, g, _, _, rfl, hl, by rw [oo.len]; omega, this.2⟩
end Go.Pm.PP

/- FnFronts. -/
set_option linter.unusedVariables false
set_option linter.unusedSimpArgs false
set_option maxRecDepth 4000
set_option maxHeartbeats 16000000
namespace Go.Pm.PP
open Go.Pm Go.Proofs Go.Pm.PE
theorem rPairs_run {h : Hp} {v u : Value} {ps : List (Int × Int)} (hv : Prs h v ps) (hu : Prs h u ps) (hx : ps.length ≤ 2 ^ 40) : Ret P G n_laws_rPairs [v, u] h (.bool true) h := by
  refine enter_run e_laws_rPairs (by simp) ?_
  have hvs := hv
  have hus := hu
  obtain ⟨oa, c, rfl⟩ := hv.shapeT
  obtain ⟨ob, c', rfl⟩ := hu.shapeT
  simp -implicitDefEqProofs
  refine R_loopO (fun m s h' => ∃ i : Nat, i + m = ps.length ∧ s = [(0, .slice oa ps.length c), (1, .slice ob ps.length c'), (5, .int .i64 i)] ∧ h' = h) (fun I hI m s h' => ?_) (n := ps.length) ⟨0, Nat.zero_add _, by simp, rfl⟩
  rintro ⟨i, hi, rfl, rfl⟩
  by_cases hlt : i < ps.length
  · obtain ⟨p, hp, _⟩ := drop_at hlt
    simp -implicitDefEqProofs [-indexAddrP_some, hlt, load_Q hvs hp, load_Q hus hp, eqA2, winc hlt hx]
    exact ⟨m - 1, by omega, on hI ⟨i + 1, by omega, rfl, rfl⟩⟩
  · simp -implicitDefEqProofs [hlt]
/-! ### in plain terms -/
theorem srt_at {F : List Pt} (h : Srt F) {i j : Nat} {p q : Pt} (hi : F[i]? = some p) (hj : F[j]? = some q) (hl : i < j) : p.1 < q.1 ∧ q.2 < p.2 := by
  obtain ⟨a, ea⟩ := List.getElem?_eq_some_iff.1 hi
  obtain ⟨b, eb⟩ := List.getElem?_eq_some_iff.1 hj
  have := List.pairwise_iff_getElem.1 h i j a b hl
  rw [ea, eb] at this
  exact this
theorem front_ends {f g : Int} {js : List Job} (hn : js.length ≤ 8) : ∃ a b, (frontR f g js)[0]? = some a ∧ (frontR f g js)[(frontR f g js).length - 1]? = some b ∧ a.1 = bestV f js ∧ b.2 = bestV g js := by
  have hp := front_ne (f := f) (g := g) hn
  obtain ⟨hs, hm, hc⟩ := front_facts (f := f) (g := g) hn
  obtain ⟨a, ha, _⟩ := drop_at hp
  obtain ⟨b, hb, _⟩ := drop_at (show (frontR f g js).length - 1 < (frontR f g js).length by omega)
  refine ⟨a, b, ha, hb, ?_, ?_⟩
  · obtain ⟨_, e, oo, hle⟩ := best_facts (f := valX f js) (n := js.length) hn
    obtain ⟨q, hq, h1, _⟩ := hc _ oo
    rw [e] at h1
    obtain ⟨xs, ox, ex⟩ := hm a (List.mem_of_getElem? ha)
    have h2 := hle xs ox
    have h3 : a.1 = valX f js xs := by rw [← ex]; rfl
    obtain ⟨k, hk⟩ := List.getElem?_of_mem hq
    have h4 : a.1 ≤ q.1 := by
      rcases Nat.eq_zero_or_pos k with rfl | g
      · rw [ha] at hk; cases hk; exact Int.le_refl _
      · exact Int.le_of_lt (srt_at hs ha hk g).1
    show a.1 = (bestR (valX f js) js.length).v
    omega
  · obtain ⟨_, e, oo, hle⟩ := best_facts (f := valX g js) (n := js.length) hn
    obtain ⟨q, hq, _, h1⟩ := hc _ oo
    rw [e] at h1
    obtain ⟨xs, ox, ex⟩ := hm b (List.mem_of_getElem? hb)
    have h2 := hle xs ox
    have h3 : b.2 = valX g js xs := by rw [← ex]; rfl
    obtain ⟨k, hk⟩ := List.getElem?_of_mem hq
    have hk1 := (List.getElem?_eq_some_iff.1 hk).1
    have h4 : b.2 ≤ q.2 := by
      by_cases g : k = (frontR f g js).length - 1
      · subst g; rw [hb] at hk; cases hk; exact Int.le_refl _
      · exact Int.le_of_lt (srt_at hs hk hb (by omega)).2
    show b.2 = (bestR (valX g js) js.length).v
    omega
def belB (p q : Pt) : Bool := decide (q.1 ≤ p.1) && decide (q.2 ≤ p.2)
theorem law_Fronts {h : Hp} {vc : Value} {bs : List Int} (Sb : Sees h vc 1 (bs.map encU)) (hb : ∀ b, b ∈ bs → 0 ≤ b ∧ b ≤ 255) : Ret P G n_laws_FnFronts [vc] h (.bool true) h := by
  refine enter_run e_laws_FnFronts (by simp) ?_
  have r0 := rBig_run Sb
  by_cases c0 : (65536 : Int) < bs.length
  · simp -implicitDefEqProofs [CL_ret r0, c0]
  have B : By h vc := ⟨bs, Sb, hb, by omega⟩
  obtain ⟨ob, cb, rfl⟩ := Sb.shapeT
  simp -implicitDefEqProofs [CL_ret r0, c0]
  refine CL_post (DrawIsUndominated_run B) fun v h1 ⟨hp1, js, xs, f, g, u, w, ev, hjl, hxl, J, X⟩ => ?_
  subst ev
  have l1 : js.length ≤ 2 ^ 40 := by omega
  have l2 : xs.length ≤ 2 ^ 40 := by omega
  have Js := J
  have Xs := X
  obtain ⟨ja, jc, rfl⟩ := J.shapeT
  obtain ⟨xa, xc, rfl⟩ := X.shapeT
  simp -implicitDefEqProofs
  refine CL_post (implFrontOf_run (f := f) (g := g) Js l1) fun v h2 ⟨hp2, d1, ev, D1, hF⟩ => ?_
  subst ev
  simp -implicitDefEqProofs
  refine CL_post (specFrontOf_run (f := f) (g := g) (Js.pre hp2) l1) fun v h3 ⟨hp3, d2, ev, D2, _⟩ => ?_
  subst ev
  have hFl := hF.len
  have D1s := D1.pre hp3
  have q1 := rPairs_run D1s D2 (by omega)
  have p13 := hp2.trans hp3
  have Js3 := Js.pre p13
  have Xs3 := Xs.pre p13
  have r1 := implIsUndominated_run (f := f) (g := g) Js3 Xs3 l1 l2
  have r2 := specIsUndominated_run (f := f) (g := g) Js3 Xs3 l1 l2
  generalize hFV : frV js f g = F at *
  obtain ⟨da, dc, rfl⟩ : ∃ a c, d1 = .slice a F.length c := D1.shapeT
  obtain ⟨db, de, rfl⟩ : ∃ a c, d2 = .slice a F.length c := D2.shapeT
  simp -implicitDefEqProofs [CL_ret q1, CL_ret r1, CL_ret r2]
  refine CL_post (implPointOf_run (f := f) (g := g) Js3 Xs3 l1 l2) fun v h4 ⟨hp4, ev⟩ => ?_
  subst ev
  generalize hP : ptV js xs f g = pt at *
  have H4 := (Holds.start (h := h4)).alloc [.int .i64 pt.1, .int .i64 pt.2]
  simp -implicitDefEqProofs
  refine CL_post (specPointOf_run (f := f) (g := g) (Js3.pre (hp4.trans H4.pre)) (Xs3.pre (hp4.trans H4.pre)) l1 l2) fun v h5 ⟨hp5, ev⟩ => ?_
  rw [hP] at ev
  subst ev
  have H5 := (H4.ext hp5).alloc [.int .i64 pt.1, .int .i64 pt.2]
  have lp1 := H5.bl (P := P) 0 2 rfl rfl t_A2_int 0
  have lp2 := H5.bl (P := P) 1 2 rfl rfl t_A2_int 0
  have hall : h <+: h5 ++ [some ⟨[.int .i64 pt.1, .int .i64 pt.2], 0, false⟩] := hp1.trans (p13.trans (hp4.trans H5.pre))
  have eu : undB js xs f g = (aTwo js f g && l2OrderL js.length xs) := rfl
  rw [eu]
  cases c1 : aTwo js f g
  · simp -implicitDefEqProofs [lp1, lp2, eqA2]
    exact gcP hall rfl
  rw [frV, c1, if_pos rfl] at hFV
  obtain ⟨hn, hg, hf, hg8⟩ := aTwo_of c1
  obtain ⟨hs, hm, hc⟩ := front_facts (f := f) (g := g) hn
  obtain ⟨fa, fb, ea, eb, va, vb⟩ := front_ends (f := f) (g := g) hn
  have hpos := front_ne (f := f) (g := g) hn
  rw [hFV] at hs hm hc ea eb hpos
  have J5 := Js3.pre (hp4.trans H5.pre)
  have D5 := D1s.pre (hp4.trans H5.pre)
  have jok : jOk js = true := by have := c1; rw [aTwo_eq, Bool.and_eq_true] at this; exact this.1
  have okf : okB js f = true := by rw [okB, jok]; simp [inB]; omega
  have okg : okB js g = true := by rw [okB, jok]; simp [inB]; omega
  have bf := fun {h : Hp} {vj : Value} (J : Jobs h vj js) => rBest_run (o := f) J l1
  have bg := fun {h : Hp} {vj : Value} (J : Jobs h vj js) => rBest_run (o := g) J l1
  rw [bR_v okf] at bf
  rw [bR_v okg] at bg
  generalize hT : l2OrderL js.length xs = two at *
  rw [hFV]
  simp -implicitDefEqProofs [lp1, lp2, eqA2]
  generalize h5 ++ [some ⟨[.int .i64 pt.1, .int .i64 pt.2], 0, false⟩] = h6 at *
  refine R_loopO (fun m s h' => ∃ i : Nat, 1 ≤ i ∧ i + m = F.length ∧ s = [(3, .slice ja js.length jc), (5, .int .i64 f), (6, .int .i64 g), (7, .slice da F.length dc), (11, .bool (two && hasPt F (ptX f g js xs))), (15, .pointer (some ⟨h4.length, 0, some 2⟩)), (16, .bool two), (19, .int .i64 i)] ∧ h' = h6) (fun I hI m s h6 => ?_) (n := F.length - 1) ⟨1, by omega, by omega, by simp, rfl⟩
  rintro ⟨i, hi1, hi, rfl, rfl⟩
  by_cases hlt : i < F.length
  · obtain ⟨p, hp, _⟩ := drop_at hlt
    obtain ⟨q, hq, _⟩ := drop_at (show i - 1 < F.length by omega)
    have lt := srt_at hs hq hp (by omega)
    have wi : IntKind.i64.wrap ((i : Int) - 1) = ((i - 1 : Nat) : Int) := by rw [wrap_ok] <;> omega
    have n1 : ¬ p.1 ≤ q.1 := by omega
    have n2 : ¬ q.2 ≤ p.2 := by omega
    simp -implicitDefEqProofs [-indexAddrP_some, hlt, wi, load_Q D5 hp, load_Q D5 hq, ia20, ia21, n1, n2, winc hlt (by omega)]
    exact ⟨m - 1, by omega, on hI ⟨i + 1, by omega, by omega, rfl, rfl⟩⟩
  simp -implicitDefEqProofs [hlt]
  refine R_loopO (fun m s h' => ∃ i : Nat, i + m = F.length ∧ s = [(3, .slice ja js.length jc), (5, .int .i64 f), (6, .int .i64 g), (7, .slice da F.length dc), (11, .bool (two && hasPt F (ptX f g js xs))), (15, .pointer (some ⟨h4.length, 0, some 2⟩)), (16, .bool two), (20, .int .i64 i)] ∧ h6 <+: h') (fun I hI m s h' => ?_) (n := F.length) ⟨0, by omega, by simp, List.prefix_rfl⟩
  rintro ⟨i, hi, rfl, hpx⟩
  by_cases hlt : i < F.length
  · obtain ⟨p, hp, _⟩ := drop_at hlt
    obtain ⟨o, ho, oo, eo⟩ := first_some (hm p (List.mem_of_getElem? hp))
    simp -implicitDefEqProofs [hlt]
    refine CL_post (implFrontOrder_run (f := f) (g := g) (k := i) (J5.pre hpx) l1 c1 (P0 := p) (by rw [hFV]; exact hp)) fun v h7 ⟨hp7, d7, ev, D7⟩ => ?_
    subst ev
    rw [ho] at D7
    have D7s : Ints h7 d7 o := D7
    obtain ⟨ya, yc, rfl⟩ : ∃ a c, d7 = .slice a o.length c := D7s.shapeT
    have olen : o.length ≤ 2 ^ 40 := by rw [oo.len]; exact l1
    simp -implicitDefEqProofs
    refine CL_post (implPointOf_run (f := f) (g := g) (J5.pre (hpx.trans hp7)) D7s l1 olen) fun v h8 ⟨hp8, ev⟩ => ?_
    subst ev
    have ep : ptV js o f g = p := by rw [ptV, c1, ord_ok hn oo]; exact eo
    rw [c1, ord_ok hn oo, ep]
    have H8 := (Holds.start (h := h8)).alloc [.int .i64 p.1, .int .i64 p.2]
    have p9 := hpx.trans (hp7.trans (hp8.trans H8.pre))
    simp -implicitDefEqProofs
    refine CL_post (specFrontOrder_run (f := f) (g := g) (k := i) (J5.pre p9) l1 c1 (P0 := p) (by rw [hFV]; exact hp) ho) fun v h9 ⟨hp9, d9, ev, D9⟩ => ?_
    subst ev
    obtain ⟨za, zc, rfl⟩ : ∃ a c, d9 = .slice a o.length c := D9.shapeT
    have H9 := H8.ext hp9
    have lb := H9.bl (P := P) 0 2 rfl rfl t_A2_int 0
    have ri := rInts_run (D7s.pre (hp8.trans H9.pre)) D9 olen
    have lq := load_Q (D5.pre (p9.trans hp9)) hp
    simp -implicitDefEqProofs [-indexAddrP_some, CL_ret ri, CH_at ri, lb, lq, eqA2, winc hlt (by omega)]
    exact ⟨m - 1, by omega, on hI ⟨i + 1, by omega, rfl, p9.trans hp9⟩⟩
  have rbf := bf (J5.pre hpx)
  have rbg := bg (J5.pre hpx)
  have lqa := load_Q (D5.pre hpx) ea
  have lqb := load_Q (D5.pre hpx) eb
  have wl : IntKind.i64.wrap ((F.length : Int) - 1) = ((F.length - 1 : Nat) : Int) := by rw [wrap_ok] <;> omega
  have nz : ((F.length : Int) == 0) = false := nb (by omega)
  have nz' : ¬ F.length = 0 := by omega
  have lqa' : indexAddrP P h' t_S_A2_int (.slice da F.length dc) (.int .i64 0) = _ := lqa.1
  have hx0 : h <+: h' := hall.trans hpx
  cases two
  · simp -implicitDefEqProofs [-indexAddrP_some, hlt, CL_ret rbf, CL_ret rbg, nz, nz', lqa', lqa, wl, lqb, ia20, ia21, va, vb]
    exact gcP hx0 rfl
  have ox : Ord js.length xs := ord_of hT
  have ept : ptX f g js xs = pt := by rw [← hP, ptV, c1, hT]; rfl
  rw [ept]
  simp -implicitDefEqProofs [-indexAddrP_some, hlt, CL_ret rbf, CL_ret rbg, nz, nz', lqa', lqa, wl, lqb, ia20, ia21, va, vb]
  refine R_loopO (fun m s h9 => ∃ (i : Nat) (b : Bool), i + m = F.length ∧ s = [(7, .slice da F.length dc), (11, .bool (hasPt F pt)), (15, .pointer (some ⟨h4.length, 0, some 2⟩)), (31, .bool b), (32, .int .i64 i)] ∧ b = (F.take i).any (belB pt) ∧ h9 = h') (fun I hI m s h9 => ?_) (n := F.length) ⟨0, false, by omega, by simp, rfl, rfl⟩
  rintro ⟨i, b, hi, rfl, eb', rfl⟩
  by_cases hlt : i < F.length
  · obtain ⟨p, hp, _⟩ := drop_at hlt
    have lq := load_Q (D5.pre hpx) hp
    have en : (F.take (i + 1)).any (belB pt) = (b || belB pt p) := by rw [take_succ' hp, List.any_append, eb']; simp
    have lpx := (H5.ext hpx).bl (P := P) 0 2 rfl rfl
    have hno : sameB p pt = true → hasPt F pt = true := fun hs' => by
      rw [sameB_iff] at hs'
      subst hs'
      exact hasPt_iff.2 (List.mem_of_getElem? hp)
    have fin : ∀ b' : Bool, b' = (F.take (i + 1)).any (belB pt) → (I (m - 1) [(7, .slice da F.length dc), (11, .bool (hasPt F pt)), (15, .pointer (some ⟨h4.length, 0, some 2⟩)), (31, .bool b'), (32, .int .i64 ((i + 1 : Nat) : Int))] h9) := fun b' e => on hI ⟨i + 1, b', by omega, rfl, e, rfl⟩
    rw [en] at fin
    unfold belB at fin
    clear en eb'
    generalize hasPt F pt = hs2 at *
    cases cs' : sameB p pt
    case' true => rw [hno cs'] at fin ⊢
    all_goals
      cases b
      · by_cases a1 : p.1 ≤ pt.1
        · by_cases a2 : p.2 ≤ pt.2
          · simp -implicitDefEqProofs [-indexAddrP_some, hlt, lq, lpx, ia20, ia21, eqPt, cs', a1, a2, winc hlt (by omega)]
            exact ⟨m - 1, by omega, fin _ (by simp [a1, a2])⟩
          · simp -implicitDefEqProofs [-indexAddrP_some, hlt, lq, lpx, ia20, ia21, eqPt, cs', a1, a2, winc hlt (by omega)]
            exact ⟨m - 1, by omega, fin _ (by simp [a1, a2])⟩
        · simp -implicitDefEqProofs [-indexAddrP_some, hlt, lq, lpx, ia20, ia21, eqPt, cs', a1, winc hlt (by omega)]
          exact ⟨m - 1, by omega, fin _ (by simp [a1])⟩
      · simp -implicitDefEqProofs [-indexAddrP_some, hlt, lq, lpx, ia20, ia21, eqPt, cs', winc hlt (by omega)]
        exact ⟨m - 1, by omega, fin _ (by simp)⟩
  rw [List.take_of_length_le (by omega)] at eb'
  have ebt : b = true := by
    obtain ⟨q, hq, a1, a2⟩ := hc xs ox
    rw [eb', List.any_eq_true]
    refine ⟨q, hq, ?_⟩
    rw [← ept, belB, Bool.and_eq_true, decide_eq_true_eq, decide_eq_true_eq]
    exact ⟨a1, a2⟩
  subst ebt
  simp -implicitDefEqProofs [hlt]
  exact gcP hx0 rfl
end Go.Pm.PP

/- Mixtures and limits, in plain terms. -/
set_option linter.unusedVariables false
set_option linter.unusedSimpArgs false
set_option maxRecDepth 4000
set_option maxHeartbeats 4000000
namespace Go.Pm.PP
open Go.Pm Go.Proofs Go.Pm.PE
def mxP (x y : Int) (q : Pt) : Int := x * q.1 + y * q.2
theorem mixB_facts {js : List Job} {f g x y : Int} (hn : js.length ≤ 8) (hx : 0 ≤ x) (hy : 0 ≤ y) : (∀ q, q ∈ frontR f g js → (mixB js f g x y).v ≤ mxP x y q) ∧ ∃ q, q ∈ frontR f g js ∧ mxP x y q = (mixB js f g x y).v := by
  obtain ⟨hs, hm, hc⟩ := front_facts (f := f) (g := g) hn
  rcases @bestG_facts (fun _ => true) (mixV f g x y js) js.length with ⟨_, h2⟩ | ⟨h1, _, h3, h4, h5⟩
  · have := h2 (upTo js.length) (ord_of_perm (List.Perm.refl _))
    cases this
  · have low : ∀ q, q ∈ frontR f g js → (mixB js f g x y).v ≤ mxP x y q := fun q hq => by
      obtain ⟨xs, ox, e⟩ := hm q hq
      have := h5 xs ox rfl
      rw [← e]
      exact this
    refine ⟨low, ?_⟩
    obtain ⟨q, hq, l1, l2⟩ := hc _ h4
    refine ⟨q, hq, ?_⟩
    have h6 := low q hq
    have u1 := Int.mul_le_mul_of_nonneg_left l1 hx
    have u2 := Int.mul_le_mul_of_nonneg_left l2 hy
    have e3 : (mixB js f g x y).v = x * valX f js (bestG (fun _ => true) (mixV f g x y js) js.length).o + y * valX g js (bestG (fun _ => true) (mixV f g x y js) js.length).o := h3.symm
    unfold mxP at h6 ⊢
    omega
theorem mem_supP {F : List Pt} : ∀ {l : List Pt} {k : Nat} {q : Pt}, q ∈ supP F k l ↔ ∃ i, l[i]? = some q ∧ supAt F (k + i) q = true
  | [], k, q => by simp [supP]
  | p :: l, k, q => by
    have ih := @mem_supP F l (k + 1) q
    rw [supP]
    have key : (∃ i, (p :: l)[i]? = some q ∧ supAt F (k + i) q = true) ↔ ((p = q ∧ supAt F k q = true) ∨ ∃ i, l[i]? = some q ∧ supAt F (k + 1 + i) q = true) := by
      constructor
      · rintro ⟨i, h1, h2⟩
        cases i with
        | zero => exact .inl ⟨by simpa using h1, h2⟩
        | succ i => exact .inr ⟨i, by simpa using h1, by rw [show k + 1 + i = k + (i + 1) by omega]; exact h2⟩
      · rintro (⟨h1, h2⟩ | ⟨i, h1, h2⟩)
        · exact ⟨0, by simpa using h1, h2⟩
        · exact ⟨i + 1, by simpa using h1, by rw [show k + (i + 1) = k + 1 + i by omega]; exact h2⟩
    rw [key, ← ih]
    cases c : supAt F k p
    · rw [if_neg (show ¬ (false = true) by simp)]
      constructor
      · intro h; exact .inr h
      · rintro (⟨rfl, h⟩ | h)
        · rw [c] at h; cases h
        · exact h
    · rw [if_pos rfl, List.mem_cons]
      constructor
      · rintro (rfl | h)
        · exact .inl ⟨rfl, c⟩
        · exact .inr h
      · rintro (⟨rfl, _⟩ | h)
        · exact .inl rfl
        · exact .inr h
theorem sup_sub {F : List Pt} {q : Pt} (h : q ∈ supP F 0 F) : q ∈ F := by
  obtain ⟨i, h1, _⟩ := mem_supP.1 h
  exact List.mem_of_getElem? h1
/-- A point with the least mixture is supported. -/
theorem min_sup {F : List Pt} (hs : Srt F) {x y : Int} (hx : 0 < x) (hy : 0 < y) {p : Pt} (hp : p ∈ F) (hmin : ∀ q, q ∈ F → mxP x y p ≤ mxP x y q) : p ∈ supP F 0 F := by
  obtain ⟨k, hk⟩ := List.getElem?_of_mem hp
  refine mem_supP.2 ⟨k, hk, ?_⟩
  rw [Nat.zero_add]
  unfold supAt
  rw [List.all_eq_true]
  intro r hr
  rw [List.all_eq_true]
  intro q hq
  obtain ⟨i, hi⟩ := List.getElem?_of_mem hr
  obtain ⟨j, hj⟩ := List.getElem?_of_mem hq
  rw [List.getElem?_take] at hi
  split at hi
  case isFalse => cases hi
  rename_i hik
  rw [List.getElem?_drop] at hj
  have s1 := srt_at hs hi hk hik
  have s2 := srt_at hs hk hj (by omega)
  have m1 := hmin r (List.mem_of_getElem? hi)
  have m2 := hmin q (List.mem_of_getElem? hj)
  unfold mxP at m1 m2
  unfold belV
  rw [decide_eq_true_eq]
  have h1 : x * (p.1 - r.1) ≤ y * (r.2 - p.2) := by rw [Int.mul_sub, Int.mul_sub]; omega
  have h2 : y * (p.2 - q.2) ≤ x * (q.1 - p.1) := by rw [Int.mul_sub, Int.mul_sub]; omega
  generalize hA : p.1 - r.1 = A at *
  generalize hB : q.1 - p.1 = B at *
  generalize hC : r.2 - p.2 = C at *
  generalize hD : p.2 - q.2 = D at *
  have d0 : 0 ≤ y * D := Int.mul_nonneg (by omega) (by omega)
  have c0 : 0 ≤ y * C := Int.mul_nonneg (by omega) (by omega)
  have hm := Int.mul_le_mul h1 h2 d0 c0
  have e1 : x * A * (y * D) = (x * y) * (D * A) := by
    rw [Int.mul_assoc, Int.mul_assoc, Int.mul_left_comm A y D, Int.mul_comm A D]
  have e2 : y * C * (x * B) = (x * y) * (C * B) := by
    rw [Int.mul_comm x y, Int.mul_assoc, Int.mul_assoc, Int.mul_left_comm C x B]
  rw [e1, e2] at hm
  exact Int.le_of_mul_le_mul_left hm (Int.mul_pos hx hy)
/-- The best order under a limit has the first number of the first point of the front under it. -/
theorem und_front {js : List Job} {f g lim : Int} (hn : js.length ≤ 8) {k : Nat} {q : Pt} (hk : (frontR f g js)[k]? = some q) (hq : q.2 ≤ lim) (hbefore : ∀ i r, i < k → (frontR f g js)[i]? = some r → lim < r.2) : (undG js f g lim).c = 1 ∧ Ord js.length (undG js f g lim).o ∧ valX g js (undG js f g lim).o ≤ lim ∧ valX f js (undG js f g lim).o = q.1 := by
  obtain ⟨hs, hm, hc⟩ := front_facts (f := f) (g := g) hn
  obtain ⟨xs, ox, e⟩ := hm q (List.mem_of_getElem? hk)
  have ef : valX f js xs = q.1 := by rw [← e]; rfl
  have eg : valX g js xs = q.2 := by rw [← e]; rfl
  rcases @undG_facts js f g lim with ⟨_, h2⟩ | ⟨h1, h2, h3, h4⟩
  · have := h2 xs ox; omega
  · refine ⟨h1, h3, h2, ?_⟩
    have l1 := h4 xs ox (by omega)
    obtain ⟨r, hr, r1, r2⟩ := hc _ h3
    obtain ⟨i, hi⟩ := List.getElem?_of_mem hr
    have : k ≤ i := by
      refine Nat.not_lt.1 fun gt => ?_
      have := hbefore i r gt hi
      omega
    have : q.1 ≤ r.1 := by
      rcases Nat.eq_or_lt_of_le this with e | e
      · subst e; rw [hk] at hi; cases hi; exact Int.le_refl _
      · exact Int.le_of_lt (srt_at hs hk hi e).1
    omega
theorem und_none {js : List Job} {f g lim : Int} (hn : js.length ≤ 8) (h : (undG js f g lim).c = 0) : ∀ q, q ∈ frontR f g js → lim < q.2 := fun q hq => by
  obtain ⟨hs, hm, hc⟩ := front_facts (f := f) (g := g) hn
  obtain ⟨xs, ox, e⟩ := hm q hq
  rcases @undG_facts js f g lim with ⟨_, h2⟩ | ⟨h1, _⟩
  · have := h2 xs ox
    rw [← e]; exact this
  · omega
theorem und_some {js : List Job} {f g lim : Int} (hn : js.length ≤ 8) (h : ¬ (undG js f g lim).c = 0) : ∃ q, q ∈ frontR f g js ∧ q.2 ≤ lim := by
  obtain ⟨hs, hm, hc⟩ := front_facts (f := f) (g := g) hn
  rcases @undG_facts js f g lim with ⟨h1, _⟩ | ⟨_, h2, h3, _⟩
  · rw [h1] at h; exact absurd rfl h
  · obtain ⟨q, hq, _, l2⟩ := hc _ h3
    exact ⟨q, hq, by omega⟩
end Go.Pm.PP

/- FnMixtures: its draws. -/
set_option linter.unusedVariables false
set_option linter.unusedSimpArgs false
set_option maxRecDepth 4000
set_option maxHeartbeats 16000000
namespace Go.Pm.PP
open Go.Pm Go.Proofs Go.Pm.PE
theorem DrawLeastMix_run {h : Hp} {vc : Value} (B : By h vc) : RunsC P G n_spec_DrawLeastMix [vc] h fun v h' => h <+: h' ∧ ∃ (js : List Job) (f g x y : Int) (u : Value), v = .tuple #[u, .int .i64 f, .int .i64 g, .int .i64 x, .int .i64 y] ∧ js.length ≤ 9 ∧ Jobs h' u js := by
  refine hideC fun K hK => enter_run e_spec_DrawLeastMix (by simp) ?_
  have C0 : Cur h (h ++ [some ⟨[vc, .int .i64 0, .int .u64 0], 0, false⟩]) h.length vc 0 [] := ⟨0, 0, by omega, by omega, (Holds.start (h := h)).alloc _⟩
  obtain ⟨bs, Sb, hb, hbl⟩ := B
  have Bs : By h vc := ⟨bs, Sb, hb, hbl⟩
  obtain ⟨ob, cb, rfl⟩ := Sb.shapeT
  simp -implicitDefEqProofs
  refine CL_post (one_run Bs C0 (by omega) (k := 3) (by omega)) fun v h1 ⟨b, ev, C1⟩ => ?_
  subst ev
  simp -implicitDefEqProofs
  refine CL_post (someJobs_run Bs C1 (by omega) (b := b) (most := 5) (by omega)) fun u h2 ⟨js, hl, C2⟩ => ?_
  obtain ⟨ua, uc, rfl⟩ : ∃ a c, u = .slice a js.length c := C2.seesJ.shapeT
  simp -implicitDefEqProofs
  refine CL_post (objective_run Bs C2 (by omega)) fun v h3 ⟨f, ev, C3⟩ => ?_
  subst ev
  simp -implicitDefEqProofs
  refine CL_post (objective_run Bs C3 (by omega)) fun v h4 ⟨g, ev, C4⟩ => ?_
  subst ev
  simp -implicitDefEqProofs
  refine CL_post (among_run Bs (C4.lit [1, 1, 2, 0, 7, 99, 100]) (by omega) snoc_get (by simp) (by simp)) fun v h5 ⟨x, ev, _, C5⟩ => ?_
  subst ev
  have C5 := C5.weak
  simp -implicitDefEqProofs
  refine CL_post (among_run Bs (C5.lit [1, 2, 3, 0, 99, -1]) (by omega) snoc_get (by simp) (by simp)) fun v h6 ⟨y, ev, _, C6⟩ => ?_
  subst ev
  have C6 := C6.weak
  simp -implicitDefEqProofs
  exact onK hK ⟨pre_gcU C6.pre, js, f, g, x, y, _, rfl, hl, Sees.gcU C6.seesJ fun g => plainT (r := [_, _, _, _]) g⟩
theorem DrawBestUnder_run {h : Hp} {vc : Value} (B : By h vc) : RunsC P G n_spec_DrawBestUnder [vc] h fun v h' => h <+: h' ∧ ∃ (js : List Job) (f g lim : Int) (u : Value), v = .tuple #[u, .int .i64 f, .int .i64 g, .int .i64 lim] ∧ js.length ≤ 9 ∧ Jobs h' u js := by
  refine hideC fun K hK => enter_run e_spec_DrawBestUnder (by simp) ?_
  have C0 : Cur h (h ++ [some ⟨[vc, .int .i64 0, .int .u64 0], 0, false⟩]) h.length vc 0 [] := ⟨0, 0, by omega, by omega, (Holds.start (h := h)).alloc _⟩
  obtain ⟨bs, Sb, hb, hbl⟩ := B
  have Bs : By h vc := ⟨bs, Sb, hb, hbl⟩
  obtain ⟨ob, cb, rfl⟩ := Sb.shapeT
  simp -implicitDefEqProofs
  refine CL_post (one_run Bs C0 (by omega) (k := 3) (by omega)) fun v h1 ⟨b, ev, C1⟩ => ?_
  subst ev
  simp -implicitDefEqProofs
  refine CL_post (someJobs_run Bs C1 (by omega) (b := b) (most := 5) (by omega)) fun u h2 ⟨js, hl, C2⟩ => ?_
  obtain ⟨ua, uc, rfl⟩ : ∃ a c, u = .slice a js.length c := C2.seesJ.shapeT
  simp -implicitDefEqProofs
  refine CL_post (objective_run Bs C2 (by omega)) fun v h3 ⟨f, ev, C3⟩ => ?_
  subst ev
  simp -implicitDefEqProofs
  refine CL_post (objective_run Bs C3 (by omega)) fun v h4 ⟨g, ev, C4⟩ => ?_
  subst ev
  simp -implicitDefEqProofs
  refine CL_post (among_run Bs (C4.lit [0, 1, 3, 5, 10, 20, 40, 1000, -4, 4611686018427387904, -9223372036854775808]) (by omega) snoc_get (by simp) (by simp)) fun v h5 ⟨x, ev, _, C5⟩ => ?_
  subst ev
  have C5 := C5.weak
  simp -implicitDefEqProofs
  exact onK hK ⟨pre_gcU C5.pre, js, f, g, x, _, rfl, hl, Sees.gcU C5.seesJ fun g => plainT (r := [_, _, _]) g⟩
end Go.Pm.PP

/- FnMixtures, from the program's BestUnder. -/
set_option linter.unusedVariables false
set_option linter.unusedSimpArgs false
set_option maxRecDepth 4000
set_option maxHeartbeats 16000000
namespace Go.Pm.PP
open Go.Pm Go.Proofs Go.Pm.PE
theorem law_Mixtures_of (hU : @IUnder) {h : Hp} {vc : Value} {bs : List Int} (Sb : Sees h vc 1 (bs.map encU)) (hb : ∀ b, b ∈ bs → 0 ≤ b ∧ b ≤ 255) : Ret P G n_laws_FnMixtures [vc] h (.bool true) h := by
  refine enter_run e_laws_FnMixtures (by simp) ?_
  have r0 := rBig_run Sb
  by_cases c0 : (65536 : Int) < bs.length
  · simp -implicitDefEqProofs [CL_ret r0, c0]
  have B : By h vc := ⟨bs, Sb, hb, by omega⟩
  have Sbs := Sb
  obtain ⟨ob, cb, rfl⟩ := Sb.shapeT
  simp -implicitDefEqProofs [CL_ret r0, c0]
  refine CL_post (DrawLeastMix_run B) fun v h1 ⟨hp1, js, f, g, x, y, u, ev, hjl, J⟩ => ?_
  subst ev
  have l1 : js.length ≤ 2 ^ 40 := by omega
  have Js := J
  obtain ⟨ja, jc, rfl⟩ := J.shapeT
  simp -implicitDefEqProofs
  refine CL_post (implLeastMix_run (f := f) (g := g) (x := x) (y := y) Js l1) fun v h2 ⟨hp2, ev⟩ => ?_
  subst ev
  simp -implicitDefEqProofs
  refine CL_post (specLeastMix_run (f := f) (g := g) (x := x) (y := y) (Js.pre hp2) l1) fun v h3 ⟨hp3, ev⟩ => ?_
  subst ev
  have p13 := hp2.trans hp3
  simp -implicitDefEqProofs
  refine CL_post (implSupportedPoints_run (f := f) (g := g) (Js.pre p13) l1) fun v h4 ⟨hp4, d4, ev, D4⟩ => ?_
  subst ev
  obtain ⟨pa, pc, e4⟩ : ∃ a c, d4 = .slice a (spV js f g).length c := D4.shapeT
  subst e4
  simp -implicitDefEqProofs
  refine CL_post (specSupportedPoints_run (f := f) (g := g) (Js.pre (p13.trans hp4)) l1) fun v h5 ⟨hp5, d5, ev, D5⟩ => ?_
  subst ev
  obtain ⟨pa2, pn2, pc2, rfl⟩ : ∃ a n c, d5 = .slice a n c := by obtain ⟨a, c, e⟩ := D5.shape; exact ⟨_, _, _, e⟩
  have p15 := p13.trans (hp4.trans hp5)
  have hF : FOk (frV js f g) := by
    unfold frV
    split
    · rename_i ca
      obtain ⟨hn, hg, hf, hg8⟩ := aTwo_of ca
      exact ⟨(front_facts (f := f) (g := g) hn).1, fun q hq => (front_bd (f := f) (g := g) hg hn q hq).1⟩
    · exact FOk.nil
  have hFl := hF.len
  have hPl : (spV js f g).length ≤ (frV js f g).length := by
    unfold spV frV
    split
    · exact supP_len
    · simp
  have q1 := rPairs_run (D4.pre hp5) D5 (by omega)
  simp -implicitDefEqProofs [CL_ret q1]
  refine CL_post (implFrontOf_run (f := f) (g := g) (Js.pre p15) l1) fun v h6 ⟨hp6, d6, ev, D6, _⟩ => ?_
  subst ev
  obtain ⟨fa, fc, e6⟩ : ∃ a c, d6 = .slice a (frV js f g).length c := D6.shapeT
  subst e6
  simp -implicitDefEqProofs
  refine CL_post (specFrontOf_run (f := f) (g := g) (Js.pre (p15.trans hp6)) l1) fun v h7 ⟨hp7, d7, ev, D7, _⟩ => ?_
  subst ev
  obtain ⟨fa2, fn2, fc2, rfl⟩ : ∃ a n c, d7 = .slice a n c := by obtain ⟨a, c, e⟩ := D7.shape; exact ⟨_, _, _, e⟩
  have D4' := D4.pre (hp5.trans (hp6.trans hp7))
  have D6' := D6.pre hp7
  have q2 := rPairs_run D6' D7 (by omega)
  have p17 := p15.trans (hp6.trans hp7)
  have hp07 := hp1.trans p17
  have e8 : mixOk js f g x y = true → aTwo js f g = true ∧ (0 ≤ x ∧ x ≤ 99) ∧ 0 ≤ y ∧ y ≤ 99 := fun g1 => by
    rw [mixOk, Bool.and_eq_true, Bool.and_eq_true] at g1
    exact ⟨g1.1.1, in99 g1.1.2, in99 g1.2⟩
  have comb : (mixOk js f g x y = false) ∨ (mixOk js f g x y = true ∧ ((¬ 0 < x) ∨ (0 < x ∧ ((¬ 0 < y) ∨ 0 < y)))) := by
    cases mixOk js f g x y
    · exact .inl rfl
    · right
      refine ⟨rfl, ?_⟩
      by_cases h1 : 0 < x
      · right; exact ⟨h1, (Classical.em _).symm⟩
      · left; exact h1
  rcases comb with hm | ⟨hm, hx | ⟨hx, hy | hy⟩⟩
  case' inl =>
    obtain ⟨h', e', hp'⟩ : ∃ h', h7 = h' ∧ h7 <+: h' := ⟨h7, rfl, List.prefix_rfl⟩
    simp -implicitDefEqProofs [CL_ret q2, hm]
    rw [e']
  case' inr.inl =>
    obtain ⟨h', e', hp'⟩ : ∃ h', h7 = h' ∧ h7 <+: h' := ⟨h7, rfl, List.prefix_rfl⟩
    simp -implicitDefEqProofs [CL_ret q2, hm, hx]
    rw [e']
  case' inr.inr.inl =>
    obtain ⟨h', e', hp'⟩ : ∃ h', h7 = h' ∧ h7 <+: h' := ⟨h7, rfl, List.prefix_rfl⟩
    simp -implicitDefEqProofs [CL_ret q2, hm, hx, hy]
    rw [e']
  case' inr.inr.inr =>
    obtain ⟨ca, x99, y99⟩ := e8 hm
    obtain ⟨hn, hg, hf, hg8⟩ := aTwo_of ca
    obtain ⟨low, ⟨z, hz, ez⟩⟩ := mixB_facts (f := f) (g := g) hn x99.1 y99.1
    have hsrt := (front_facts (f := f) (g := g) hn).1
    have hbd := front_bd (f := f) (g := g) hg hn
    have esp : spV js f g = supP (frontR f g js) 0 (frontR f g js) := by rw [spV, ca, if_pos rfl]
    have efr : frV js f g = frontR f g js := by rw [frV, ca, if_pos rfl]
    have emx : mixR js f g x y = (mixB js f g x y).v := by rw [mixR, hm, if_pos rfl]
    have hzs : z ∈ spV js f g := by rw [esp]; exact min_sup hsrt hx hy hz fun q hq => by rw [ez]; exact low q hq
    have hsup : ∀ q, q ∈ frV js f g → mxP x y q = mixR js f g x y → q ∈ spV js f g := fun q hq e => by
      rw [efr] at hq
      rw [esp]
      exact min_sup hsrt hx hy hq fun r hr => by rw [e, emx]; exact low r hr
    have hlow : ∀ q, q ∈ spV js f g → mixR js f g x y ≤ mxP x y q ∧ PBd q := fun q hq => by
      rw [esp] at hq
      rw [emx]
      exact ⟨low q (sup_sub hq), hbd q (sup_sub hq)⟩
    have hfb : ∀ q, q ∈ frV js f g → PBd q := fun q hq => by rw [efr] at hq; exact hbd q hq
    rw [← emx] at ez
    have arith : ∀ q, PBd q → IntKind.i64.wrap (x * q.1) = x * q.1 ∧ IntKind.i64.wrap (y * q.2) = y * q.2 ∧ IntKind.i64.wrap (x * q.1 + y * q.2) = mxP x y q := fun q hq => by
      have m1 := mul99 x99 hq.1
      have m2 := mul99 y99 hq.2
      refine ⟨by rw [wrap_ok] <;> omega, by rw [wrap_ok] <;> omega, ?_⟩
      unfold mxP
      rw [wrap_ok] <;> omega
    clear low hz hsrt hbd esp efr emx
    generalize spV js f g = Pn at *
    generalize frV js f g = F at *
    generalize mixR js f g x y = least at *
    simp -implicitDefEqProofs [CL_ret q2, hm, hx, hy]
    refine R_loopO (fun m s h' => ∃ (i : Nat) (best : Int), i + m = Pn.length ∧ s = [(0, .slice ob bs.length cb), (6, .int .i64 x), (7, .int .i64 y), (8, .int .i64 least), (12, .slice pa Pn.length pc), (16, .slice fa F.length fc), (20, .int .i64 best), (21, .int .i64 i)] ∧
        ((i = 0 ∧ best = -1) ∨ ∃ (b : Nat) (pb : Pt), best = b ∧ Pn[b]? = some pb ∧ ∀ q, q ∈ Pn.take i → mxP x y pb ≤ mxP x y q) ∧ h' = h7) (fun I hI m s h7 => ?_) (n := Pn.length) ⟨0, -1, Nat.zero_add _, by simp, .inl ⟨rfl, rfl⟩, rfl⟩
    rintro ⟨i, best, hi, rfl, hbest, rfl⟩
    by_cases hlt : i < Pn.length
    case pos =>
      obtain ⟨q, hq, _⟩ := drop_at hlt
      have lq := load_Q D4' hq
      obtain ⟨_, bq⟩ := hlow q (List.mem_of_getElem? hq)
      obtain ⟨a1, a2, a3⟩ := arith q bq
      have hlt' : (i : Int) < Pn.length := by omega
      rcases hbest with ⟨rfl, rfl⟩ | ⟨b, pb, rfl, hpb, hmin⟩
      · have lq0 := lq
        simp only [show ((0 : Nat) : Int) = 0 from rfl] at lq0
        simp -implicitDefEqProofs [-indexAddrP_some, hlt, hlt']
        exact ⟨m - 1, by omega, on hI ⟨1, 0, by omega, by simp; rfl, .inr ⟨0, q, rfl, hq, fun r hr => by
          have e : Pn.take 1 = [q] := by
            have := take_succ' hq
            simpa using this
          rw [e, List.mem_singleton] at hr
          subst hr; exact Int.le_refl _⟩, rfl⟩⟩
      · have lpb := load_Q D4' hpb
        obtain ⟨_, bpb⟩ := hlow pb (List.mem_of_getElem? hpb)
        obtain ⟨b1, b2, b3⟩ := arith pb bpb
        have nb0 : ¬ (b : Int) < 0 := by omega
        have tk := take_succ' hq
        by_cases c : mxP x y q < mxP x y pb
        · simp -implicitDefEqProofs [-indexAddrP_some, hlt, hlt', nb0, lq, lpb, ia20, ia21, a1, a2, a3, b1, b2, b3, c, winc hlt (by omega)]
          exact ⟨m - 1, by omega, on hI ⟨i + 1, i, by omega, rfl, .inr ⟨i, q, rfl, hq, fun r hr => by
            rw [tk, List.mem_append, List.mem_singleton] at hr
            rcases hr with hr | rfl
            · have := hmin r hr; omega
            · exact Int.le_refl _⟩, rfl⟩⟩
        · simp -implicitDefEqProofs [-indexAddrP_some, hlt, hlt', nb0, lq, lpb, ia20, ia21, a1, a2, a3, b1, b2, b3, c, winc hlt (by omega)]
          exact ⟨m - 1, by omega, on hI ⟨i + 1, b, by omega, rfl, .inr ⟨b, pb, rfl, hpb, fun r hr => by
            rw [tk, List.mem_append, List.mem_singleton] at hr
            rcases hr with hr | rfl
            · exact hmin r hr
            · omega⟩, rfl⟩⟩
    case' neg =>
      have hne := List.length_pos_of_mem hzs
      have hlt' : ¬ (i : Int) < Pn.length := by omega
      obtain ⟨b, pb, rfl, hpb, hmin⟩ : ∃ (b : Nat) (pb : Pt), best = b ∧ Pn[b]? = some pb ∧ ∀ q, q ∈ Pn.take i → mxP x y pb ≤ mxP x y q := by
        rcases hbest with ⟨g1, _⟩ | g1
        · omega
        · exact g1
      rw [List.take_of_length_le (by omega)] at hmin
      obtain ⟨g1, bpb⟩ := hlow pb (List.mem_of_getElem? hpb)
      have epb : mxP x y pb = least := by have := hmin z hzs; omega
      obtain ⟨b1, b2, b3⟩ := arith pb bpb
      rw [epb] at b3
      have lpb := load_Q D4' hpb
      have nb0 : ¬ (b : Int) < 0 := by omega
      simp -implicitDefEqProofs [-indexAddrP_some, hlt, hlt', nb0, lpb, ia20, ia21, b1, b2, b3]
      refine R_loopO (fun m s h' => ∃ (i : Nat), i + m = F.length ∧ s = [(0, .slice ob bs.length cb), (6, .int .i64 x), (7, .int .i64 y), (8, .int .i64 least), (12, .slice pa Pn.length pc), (16, .slice fa F.length fc), (22, .int .i64 i)] ∧ h' = h7) (fun I2 hI2 m2 s2 h7 => ?_) (n := F.length) ⟨0, Nat.zero_add _, by simp, rfl⟩
      rintro ⟨k, hk, rfl, rfl⟩
      by_cases hltk : k < F.length
      case pos =>
        obtain ⟨q, hq, _⟩ := drop_at hltk
        have lq := load_Q D6' hq
        obtain ⟨a1, a2, a3⟩ := arith q (hfb q (List.mem_of_getElem? hq))
        have hltk' : (k : Int) < F.length := by omega
        by_cases c : mxP x y q = least
        · have hqs := hsup q (List.mem_of_getElem? hq) c
          rw [c] at a3
          simp -implicitDefEqProofs [-indexAddrP_some, hltk, hltk', lq, ia20, ia21, a1, a2, a3]
          refine R_loopO (fun m s h' => ∃ (j : Nat) (b : Bool), j + m = Pn.length ∧ s = [(0, .slice ob bs.length cb), (6, .int .i64 x), (7, .int .i64 y), (8, .int .i64 least), (12, .slice pa Pn.length pc), (16, .slice fa F.length fc), (22, .int .i64 k), (23, .bool b), (24, .int .i64 j)] ∧ b = (Pn.take j).any (fun r => sameB r q) ∧ h' = h7) (fun I3 hI3 m3 s3 h7 => ?_) (n := Pn.length) ⟨0, false, Nat.zero_add _, by simp, rfl, rfl⟩
          rintro ⟨j, b, hj, rfl, hbq, rfl⟩
          by_cases hltj : j < Pn.length
          · obtain ⟨r, hr, _⟩ := drop_at hltj
            have lr := load_Q D4' hr
            have tk := take_succ' hr
            have hltj' : (j : Int) < Pn.length := by omega
            cases b
            · simp -implicitDefEqProofs [-indexAddrP_some, hltj, hltj', lr, lq, eqPt, winc hltj (by omega)]
              exact ⟨m3 - 1, by omega, on hI3 ⟨j + 1, sameB r q, by omega, rfl, by rw [tk, List.any_append, ← hbq]; simp, rfl⟩⟩
            · simp -implicitDefEqProofs [-indexAddrP_some, hltj, hltj', winc hltj (by omega)]
              exact ⟨m3 - 1, by omega, on hI3 ⟨j + 1, true, by omega, rfl, by rw [tk, List.any_append, ← hbq]; simp, rfl⟩⟩
          · rw [List.take_of_length_le (by omega)] at hbq
            have hbt : b = true := by
              rw [hbq, List.any_eq_true]
              exact ⟨q, hqs, sameB_iff.2 rfl⟩
            subst hbt
            have hltj' : ¬ (j : Int) < Pn.length := by omega
            simp -implicitDefEqProofs [hltj, hltj', winc hltk (by omega)]
            exact ⟨m2 - 1, by omega, on hI2 ⟨k + 1, by omega, rfl, rfl⟩⟩
        · simp -implicitDefEqProofs [-indexAddrP_some, hltk, hltk', lq, ia20, ia21, a1, a2, a3, nb c, winc hltk (by omega)]
          exact ⟨m2 - 1, by omega, on hI2 ⟨k + 1, by omega, rfl, rfl⟩⟩
      case' neg =>
        have hltk' : ¬ (k : Int) < F.length := by omega
        simp -implicitDefEqProofs [hltk, hltk']
        obtain ⟨h', e', hp'⟩ : ∃ h', h7 = h' ∧ h7 <+: h' := ⟨h7, rfl, List.prefix_rfl⟩
        rw [e']
  all_goals
    have ph := hp07.trans hp'
    refine CL_post (DrawBestUnder_run ⟨bs, Sbs.pre ph, hb, by omega⟩) fun v g1 ⟨gp1, ks, a, c, lim, ku, ev, hkl, K1⟩ => ?_
    subst ev
    have k1 : ks.length ≤ 2 ^ 40 := by omega
    have K1s := K1
    obtain ⟨ka, kc, rfl⟩ := K1.shapeT
    simp -implicitDefEqProofs
    refine CL_post (@hU _ _ ks a c lim K1s k1) fun v g2 ⟨gp2, w2, ev, W2⟩ => ?_
    subst ev
    have W2s := W2
    have hul : (undF ks a c lim).length ≤ 2 ^ 40 := by
      unfold undF
      split
      · rename_i ca
        rcases @undG_facts ks a c lim with ⟨e, _⟩ | ⟨_, _, oo, _⟩
        · rw [e]; simp [sr0]
        · rw [oo.len]; omega
      · simp
    obtain ⟨wa, wn, wc, rfl⟩ : ∃ a n c, w2 = .slice a n c := by obtain ⟨a, c, e⟩ := W2.shape; exact ⟨_, _, _, e⟩
    simp -implicitDefEqProofs
    refine CL_post (specBestUnder_run (f := a) (g := c) (lim := lim) (K1s.pre gp2) k1) fun v g3 ⟨gp3, w3, ev, W3⟩ => ?_
    subst ev
    have W2' := W2s.pre gp3
    have q5 := rInts_run W2' W3 hul
    obtain ⟨wa3, wn3, wc3, rfl⟩ : ∃ a n c, w3 = .slice a n c := by obtain ⟨a, c, e⟩ := W3.shape; exact ⟨_, _, _, e⟩
    have gp13 := gp2.trans gp3
    simp -implicitDefEqProofs [CL_ret q5]
    refine CL_post (implFrontOf_run (f := a) (g := c) (K1s.pre gp13) k1) fun v g4 ⟨gp4, d8, ev, D8, hF8⟩ => ?_
    subst ev
    have hFl8 := hF8.len
    obtain ⟨qa, qc, e9⟩ : ∃ a1 c1, d8 = .slice a1 (frV ks a c).length c1 := D8.shapeT
    subst e9
    have pall := ph.trans (gp1.trans (gp13.trans gp4))
    cases ca : aTwo ks a c
    · have eu : undO ks a c lim = false := by rw [undO, ca]; rfl
      rw [eu]
      simp -implicitDefEqProofs
      exact gcP pall rfl
    obtain ⟨kn, kg, kf, kg8⟩ := aTwo_of ca
    have efr : frV ks a c = frontR a c ks := by rw [frV, ca, if_pos rfl]
    have hpos := front_ne (f := a) (g := c) kn
    rw [← efr] at hpos
    by_cases cz : (undG ks a c lim).c = 0
    · have eu : undO ks a c lim = false := by rw [undO, ca, cz]; rfl
      have hall := und_none kn cz
      rw [← efr] at hall
      obtain ⟨z, hz, _⟩ := drop_at (show (frV ks a c).length - 1 < (frV ks a c).length by omega)
      have lz := load_Q D8 hz
      have gz := hall z (List.mem_of_getElem? hz)
      have wl : IntKind.i64.wrap (((frV ks a c).length : Int) - 1) = (((frV ks a c).length - 1 : Nat) : Int) := by rw [wrap_ok] <;> omega
      have hpos' : (0 : Int) < (frV ks a c).length := by omega
      rw [eu]
      simp -implicitDefEqProofs [-indexAddrP_some, hpos, hpos', wl, lz, ia21, gz]
      exact gcP pall rfl
    have eu : undO ks a c lim = true := by rw [undO, ca, nb cz]; rfl
    have euf : undF ks a c lim = (undG ks a c lim).o := by rw [undF, ca, if_pos rfl]
    rw [eu]
    have W2'' := W2'.pre gp4
    rw [euf] at W2'' hul
    simp -implicitDefEqProofs
    refine CL_post (implPointOf_run (f := a) (g := c) (K1s.pre (gp13.trans gp4)) W2'' k1 hul) fun v g5 ⟨gp5, ev⟩ => ?_
    subst ev
    have oo : Ord ks.length (undG ks a c lim).o := by
      rcases @undG_facts ks a c lim with ⟨e, _⟩ | ⟨_, _, oo, _⟩
      · rw [e] at cz; exact absurd rfl cz
      · exact oo
    have ept : ptV ks (undG ks a c lim).o a c = ptX a c ks (undG ks a c lim).o := by rw [ptV, ca, ord_ok kn oo]; rfl
    rw [ca, ord_ok kn oo, ept]
    obtain ⟨pt, hpt⟩ : ∃ pt, pt = ptX a c ks (undG ks a c lim).o := ⟨_, rfl⟩
    rw [← hpt]
    have HB := (Holds.start (h := g5)).alloc [.int .i64 pt.1, .int .i64 pt.2]
    have lpt := HB.bl (P := P) 0 2 rfl rfl
    have D9 := D8.pre (gp5.trans HB.pre)
    simp -implicitDefEqProofs
    refine R_loopO (fun m s h' => ∃ (i : Nat), i + m = (frV ks a c).length ∧ s = [(28, .int .i64 lim), (33, .slice qa (frV ks a c).length qc), (35, .pointer (some ⟨g5.length, 0, some 2⟩)), (36, .bool true), (37, .int .i64 i)] ∧ (∀ j r, j < i → (frV ks a c)[j]? = some r → lim < r.2) ∧ h' = g5 ++ [some ⟨[.int .i64 pt.1, .int .i64 pt.2], 0, false⟩]) (fun I9 hI9 m9 s9 h9 => ?_) (n := (frV ks a c).length) ⟨0, Nat.zero_add _, by simp, fun j r hj => by omega, rfl⟩
    rintro ⟨i9, hi9, rfl, hbf, rfl⟩
    by_cases hlt9 : i9 < (frV ks a c).length
    · obtain ⟨q9, hq9, _⟩ := drop_at hlt9
      have lq9 := load_Q D9 hq9
      have hlt9' : (i9 : Int) < (frV ks a c).length := by omega
      by_cases c9 : q9.2 ≤ lim
      · obtain ⟨_, _, u3, u4⟩ := und_front (lim := lim) kn (k := i9) (q := q9) (by rw [← efr]; exact hq9) c9 (fun j r hj hr => hbf j r hj (by rw [efr]; exact hr))
        have v3 : pt.2 ≤ lim := by rw [hpt]; exact u3
        have v4 : (pt.1 == q9.1) = true := by rw [beq_iff_eq, hpt]; exact u4
        simp -implicitDefEqProofs [-indexAddrP_some, hlt9, hlt9', lq9, lpt, ia20, ia21, c9, v3, v4]
        exact gcP (pall.trans (gp5.trans HB.pre)) rfl
      · simp -implicitDefEqProofs [-indexAddrP_some, hlt9, hlt9', lq9, ia21, c9, winc hlt9 (by omega)]
        exact ⟨m9 - 1, by omega, on hI9 ⟨i9 + 1, by omega, rfl, fun j r hj hr => by
          rcases Nat.lt_or_ge j i9 with g | g
          · exact hbf j r g hr
          · have : j = i9 := by omega
            subst this
            rw [hq9] at hr; cases hr; omega, rfl⟩⟩
    · exfalso
      obtain ⟨q9, hq9, hle⟩ := und_some (lim := lim) kn cz
      rw [← efr] at hq9
      obtain ⟨j, hj⟩ := List.getElem?_of_mem hq9
      have := hbf j q9 (by have := (List.getElem?_eq_some_iff.1 hj).1; omega) hj
      omega
end Go.Pm.PP

/- The program's best order under a limit. -/
set_option linter.unusedVariables false
set_option linter.unusedSimpArgs false
set_option maxRecDepth 4000
set_option maxHeartbeats 16000000
namespace Go.Pm.PP
open Go.Pm Go.Proofs Go.Pm.PE
def bxU (p q r : Nat) (vo : Value) (b : Sr) : List Asn := [.box p [vo], .box q [.int .i64 b.v], .box r [.bool !(b.c == 0)], .own vo 1 (b.o.map encI)]
theorem gcU {hb h h' : Hp} {p q r : Nat} {vo vo' u : Value} {b b' : Sr} {L : List Asn} (HL : Holds hb h (bxU p q r vo b ++ L)) (H' : Holds hb h' (bxU p q r vo' b' ++ L)) : Holds hb (gc h h' u) (bxU p q r vo' b' ++ L) := by
  rcases gc_cases' h h' u with g | ⟨hp, g⟩
  · rw [g]; exact H'
  · have e1 := HL.box (cs := [vo]) (r := p) 0 rfl
    have e2 := H'.box (cs := [vo']) (r := p) 0 rfl
    obtain ⟨t, rfl⟩ := hp
    rw [List.getElem?_append_left (List.getElem?_eq_some_iff.1 e1).1, e1] at e2
    cases e2
    exact HL.gcR H' rfl
theorem tellU_run {hb h : Hp} {p q r rj rf rg rl : Nat} {vj vg vo : Value} {js : List Job} {f g lim : Int} {xs : List Int} {b : Sr} (J : Jobs hb vj js)
    (bj : hb[rj]? = some (some ⟨[vj], 0, false⟩)) (bf : hb[rf]? = some (some ⟨[.int .i64 f], 0, false⟩)) (bg : hb[rg]? = some (some ⟨[.int .i64 g], 0, false⟩)) (bl' : hb[rl]? = some (some ⟨[.int .i64 lim], 0, false⟩))
    (hgd : goodL js = true) (hn : js.length ≤ 8) (hf : 1 ≤ f ∧ f ≤ 8) (hg8 : 1 ≤ g ∧ g ≤ 8) (hx : Ord js.length xs) (H : Holds hb h (bxU p q r vo b ++ [.own vg 1 (xs.map encI)])) :
    RunsC P G n_impl_BestUnder_1 [vg, .pointer (some ⟨rj, 0, some 1⟩), .pointer (some ⟨rf, 0, some 1⟩), .pointer (some ⟨rg, 0, some 1⟩), .pointer (some ⟨rl, 0, some 1⟩), .pointer (some ⟨r, 0, some 1⟩), .pointer (some ⟨q, 0, some 1⟩), .pointer (some ⟨p, 0, some 1⟩)] h fun v h' =>
      ∃ vo', ∀ L, Holds hb h (bxU p q r vo b ++ L) → Holds hb h' (bxU p q r vo' (updG (fun xs => decide (valX g js xs ≤ lim)) (valX f js) b xs) ++ L) := by
  refine hideC fun K hK => enter_run e_impl_BestUnder_1 (by simp) ?_
  have Js := J
  obtain ⟨oj, cj, rfl⟩ := J.shapeT
  have Sg : Ints h vg xs := H.sees 4 rfl
  obtain ⟨g1, g3, rfl⟩ : ∃ a c, vg = .slice a xs.length c := Sg.shapeT
  have lj := load_pre H.pre bj (n := 1) rfl
  have lf := load_pre H.pre bf (n := 1) rfl
  have lg := load_pre H.pre bg (n := 1) rfl
  have rp := pointOf_run (f := f) (g := g) (Js.pre H.pre) Sg hgd hn hf hg8 hx
  generalize hP : ptX f g js xs = pt at *
  have hV : valX f js xs = pt.1 := by rw [← hP]; rfl
  have hW : valX g js xs = pt.2 := by rw [← hP]; rfl
  have N1 := (Holds.start (h := h)).alloc [.int .i64 pt.1, .int .i64 pt.2]
  have pN : h <+: h ++ [some ⟨[.int .i64 pt.1, .int .i64 pt.2], 0, false⟩] := List.prefix_append ..
  have lp := N1.bl (P := P) 0 2 rfl rfl
  have ll := load_pre (H.pre.trans pN) bl' (n := 1) rfl
  have HN := H.alloc [.int .i64 pt.1, .int .i64 pt.2]
  have lv := HN.bl (P := P) 1 1 rfl rfl
  have lc := HN.bl (P := P) 2 1 rfl rfl
  have other : ¬ (pt.2 ≤ lim ∧ (b.c = 0 ∨ pt.1 < b.v)) → ∀ u, K u (gc h (h ++ [some ⟨[.int .i64 pt.1, .int .i64 pt.2], 0, false⟩]) u) := fun c1 u => by
    have e : updG (fun xs => decide (valX g js xs ≤ lim)) (valX f js) b xs = b := by unfold updG; simp only [hV, hW, decide_eq_true_eq]; rw [if_neg c1]
    rw [e] at hK
    exact onK hK ⟨vo, fun L HL => gcU HL (HL.ext pN)⟩
  have self : pt.2 ≤ lim ∧ (b.c = 0 ∨ pt.1 < b.v) → ∀ (v1 : Value) (h1 : Hp), h ++ [some ⟨[.int .i64 pt.1, .int .i64 pt.2], 0, false⟩] <+: h1 → Own (List.length (h ++ ([some ⟨[.int .i64 pt.1, .int .i64 pt.2], 0, false⟩] : Hp))) h1 v1 1 (xs.map encI) → ∃ a c h2 h3 h4, v1 = .slice a xs.length c ∧
      loadP P h1 t_int (.pointer (some ⟨h.length, 0, some 2⟩)) = some (.int .i64 pt.1) ∧
      storeP P h1 t_S_int (.slice a xs.length c) (.pointer (some ⟨p, 0, some 1⟩)) = some h2 ∧ loadP P h2 t_int (.pointer (some ⟨h.length, 0, some 2⟩)) = some (.int .i64 pt.1) ∧ storeP P h2 t_int (.int .i64 pt.1) (.pointer (some ⟨q, 0, some 1⟩)) = some h3 ∧ storeP P h3 t_bool (.bool true) (.pointer (some ⟨r, 0, some 1⟩)) = some h4 ∧ ∀ u, K u (gc h h4 u) := fun c1 v1 h1 hp1 ho1 => by
    have e : updG (fun xs => decide (valX g js xs ≤ lim)) (valX f js) b xs = ⟨xs, pt.1, 1⟩ := by unfold updG; simp only [hV, hW, decide_eq_true_eq]; rw [if_pos c1]
    rw [e] at hK
    obtain ⟨a, c', rfl⟩ := ho1.sees.shapeT
    obtain ⟨h2, s2, H2, _⟩ := (HN.ext hp1).set (P := P) 0 (n := 1) (o := 0) (ty := t_S_int) (w := .slice a xs.length c') rfl rfl e_t_S_int (by simp) (by simp) (by simp)
    obtain ⟨h3, s3, H3, _⟩ := H2.set (P := P) 1 (n := 1) (o := 0) (ty := t_int) (w := .int .i64 pt.1) rfl rfl e_t_int (by simp) (by simp) (by simp)
    obtain ⟨h4, s4, H4, _⟩ := H3.set (P := P) 2 (n := 1) (o := 0) (ty := t_bool) (w := .bool true) rfl rfl e_t_bool (by simp) (by simp) (by simp)
    refine ⟨a, c', h2, h3, h4, rfl, ?_, s2, ?_, s3, s4, fun u => onK hK ⟨.slice a xs.length c', fun L HL => ?_⟩⟩
    · have := (N1.ext hp1).bl (P := P) 0 2 rfl rfl t_int 0
      simpa using this
    · have := H2.bl (P := P) 5 2 rfl rfl t_int 0
      simpa using this
    have HJ := Holds.joinT (L := bxU p q r vo b) (T := L) (A := [.own (.slice a xs.length c') 1 (xs.map encI)]) (M := []) (HL.ext pN) ((Holds.start (h := h ++ [some ⟨[.int .i64 pt.1, .int .i64 pt.2], 0, false⟩])).call hp1 ho1)
    obtain ⟨h2', s2', H2', _⟩ := HJ.set (P := P) 0 (n := 1) (o := 0) (ty := t_S_int) (w := .slice a xs.length c') rfl rfl e_t_S_int (by simp) (by simp) (by simp)
    rw [s2] at s2'; cases s2'
    obtain ⟨h3', s3', H3', _⟩ := H2'.set (P := P) 1 (n := 1) (o := 0) (ty := t_int) (w := .int .i64 pt.1) rfl rfl e_t_int (by simp) (by simp) (by simp)
    rw [s3] at s3'; cases s3'
    obtain ⟨h4', s4', H4', _⟩ := H3'.set (P := P) 2 (n := 1) (o := 0) (ty := t_bool) (w := .bool true) rfl rfl e_t_bool (by simp) (by simp) (by simp)
    rw [s4] at s4'; cases s4'
    have H5 : Holds hb h4 (([.box p [.slice a xs.length c'], .box q [.int .i64 pt.1], .box r [.bool true]] ++ [.own vo 1 (b.o.map encI)]) ++ ([.own (.slice a xs.length c') 1 (xs.map encI)] ++ L)) := H4'
    have H6 : Holds hb h4 (bxU p q r (.slice a xs.length c') ⟨xs, pt.1, 1⟩ ++ L) := H5.cut
    exact gcU HL H6
  have Sn := Sg.pre pN
  by_cases c0 : pt.2 ≤ lim
  · rcases Classical.em (b.c = 0) with c2 | c2
    · simp -implicitDefEqProofs [lj, lf, lg, CL_ret rp, ia20, ia21, lp, ll, lv, lc, c0, show (b.c == 0) = true by simpa using c2]
      refine CG_post (copyInts_run Sn (by rw [hx.len]; omega)).new fun v1 h1 ⟨⟨hp1, ho1⟩, hn1⟩ => ⟨by simpa using hn1 hp1, ?_⟩
      obtain ⟨a, c', h2, h3, h4, rfl, l1, s2, l2, s3, s4, fin⟩ := self ⟨c0, .inl c2⟩ v1 h1 hp1 ho1
      simp -implicitDefEqProofs [RunsO, ia20, l1, s2, l2, s3, s4]
      exact fin _
    · by_cases c3 : pt.1 < b.v
      · simp -implicitDefEqProofs [lj, lf, lg, CL_ret rp, ia20, ia21, lp, ll, lv, lc, c0, nb c2, c3]
        refine CG_post (copyInts_run Sn (by rw [hx.len]; omega)).new fun v1 h1 ⟨⟨hp1, ho1⟩, hn1⟩ => ⟨by simpa using hn1 hp1, ?_⟩
        obtain ⟨a, c', h2, h3, h4, rfl, l1, s2, l2, s3, s4, fin⟩ := self ⟨c0, .inr c3⟩ v1 h1 hp1 ho1
        simp -implicitDefEqProofs [RunsO, ia20, l1, s2, l2, s3, s4]
        exact fin _
      · simp -implicitDefEqProofs [lj, lf, lg, CL_ret rp, ia20, ia21, lp, ll, lv, lc, c0, nb c2, c3]
        exact other (fun q => by rcases q.2 with g | g; exact c2 g; exact c3 g) _
  · simp -implicitDefEqProofs [lj, lf, lg, CL_ret rp, ia20, ia21, lp, ll, lv, lc, c0]
    exact other (fun q => c0 q.1) _
section
variable {h : Hp} {vj v u : Value} {js : List Job} {xs : List Int} {f g lim : Int}
theorem implBestUnder_run (J : Jobs h vj js) (hl : js.length ≤ 2 ^ 40) : RunsC P G n_impl_BestUnder [vj, .int .i64 f, .int .i64 g, .int .i64 lim] h fun w h' => h <+: h' ∧ ∃ d, w = .tuple #[d, .bool (undO js f g lim)] ∧ Ints h' d (undF js f g lim) := by
  refine hideC fun K hK => enter_run e_impl_BestUnder (by simp) ?_
  have Js := J
  obtain ⟨oj, cj, rfl⟩ := J.shapeT
  have H0 := ((((Holds.start (h := h)).alloc [.slice oj js.length cj]).alloc [.int .i64 f]).alloc [.int .i64 g]).alloc [.int .i64 lim]
  simp only [List.append_assoc, List.cons_append, List.nil_append, List.length_append, List.length_cons, List.length_nil, Nat.zero_add] at H0
  have r1 := areTwo_run (f := f) (g := g) (Js.pre H0.pre) hl
  cases c1 : aTwo js f g
  · rw [c1] at r1
    rw [undO, undF, c1] at hK
    simp -implicitDefEqProofs [CL_ret r1]
    exact onK hK ⟨pre_gcU H0.pre, _, rfl, by simp, none, 0, rfl, .inl ⟨rfl, rfl, rfl⟩⟩
  rw [undO, undF, c1, if_pos rfl, Bool.true_and] at hK
  rw [c1] at r1
  obtain ⟨hn, hg, hf, hg8⟩ := aTwo_of c1
  generalize hHb : h ++ [some ⟨[.slice oj js.length cj], 0, false⟩, some ⟨[.int .i64 f], 0, false⟩, some ⟨[.int .i64 g], 0, false⟩, some ⟨[.int .i64 lim], 0, false⟩] = hb at H0
  have hbl : hb.length = h.length + 1 + 1 + 1 + 1 := by rw [← hHb]; simp
  have E : Holds hb (hb ++ [some ⟨[.slice none 0 0], 0, false⟩, some ⟨[.int .i64 0], 0, false⟩, some ⟨[.bool false], 0, false⟩]) (bxU hb.length (hb.length + 1) (hb.length + 1 + 1) (.slice none 0 0) sr0 ++ []) := by
    have := own_nil ((((Holds.start (h := hb)).alloc [.slice none 0 0]).alloc [.int .i64 0]).alloc [.bool false]) Int encI 1
    simp only [List.append_assoc, List.cons_append, List.nil_append, List.length_append, List.length_cons, List.length_nil, Nat.zero_add] at this
    exact this
  have er := eachOrder_run (hb := hb) (g := n_impl_BestUnder_1) (c := #[.pointer (some ⟨h.length, 0, some 1⟩), .pointer (some ⟨h.length + 1, 0, some 1⟩), .pointer (some ⟨h.length + 1 + 1, 0, some 1⟩), .pointer (some ⟨h.length + 1 + 1 + 1, 0, some 1⟩), .pointer (some ⟨hb.length + 1 + 1, 0, some 1⟩), .pointer (some ⟨hb.length + 1, 0, some 1⟩), .pointer (some ⟨hb.length, 0, some 1⟩)]) hn
    (Q := fun i BX => ∃ vo, BX = bxU hb.length (hb.length + 1) (hb.length + 1 + 1) vo (((ordsL js.length).take i).foldl (updG (fun xs => decide (valX g js xs ≤ lim)) (valX f js)) sr0))
    (fun i BX i' BX' h h' L u ⟨vf, e⟩ ⟨vf', e'⟩ HL H' => by
      subst e; subst e'
      exact gcU HL H')
    (fun i xs h BX vg ⟨vf, eBX⟩ hxs HB => by
      subst eBX
      have ox := ords_ord (List.mem_of_getElem? hxs)
      refine RunsC.mono (tellU_run (Js.pre H0.pre) (H0.box 0 rfl) (H0.box 1 rfl) (H0.box 2 rfl) (H0.box 3 rfl) hg hn hf hg8 ox HB) fun v h' ⟨vf', Fx⟩ => ?_
      refine ⟨_, ⟨vf', rfl⟩, fun L HL => ?_⟩
      rw [take_succ' hxs, List.foldl_append, List.foldl_cons, List.foldl_nil]
      exact Fx L HL) ⟨_, rfl⟩ E
  have hcount : hb ++ [some ⟨[.slice none 0 0], 0, false⟩, some ⟨[.int .i64 0], 0, false⟩, some ⟨[.bool false], 0, false⟩] = h ++ [some ⟨[.slice oj js.length cj], 0, false⟩, some ⟨[.int .i64 f], 0, false⟩, some ⟨[.int .i64 g], 0, false⟩, some ⟨[.int .i64 lim], 0, false⟩, some ⟨[.slice none 0 0], 0, false⟩, some ⟨[.int .i64 0], 0, false⟩, some ⟨[.bool false], 0, false⟩] := by rw [← hHb]; simp
  rw [hcount, hbl] at er
  rw [hcount, hbl] at E
  simp -implicitDefEqProofs [CL_ret r1]
  refine CL_post er fun v h4 ⟨BX', ⟨vf, eBX⟩, Fx⟩ => ?_
  subst eBX
  have H4 := Fx [] E
  rw [List.take_length] at H4
  have s4 : Ints h4 vf (undG js f g lim).o := H4.sees 3 rfl
  obtain ⟨a, c, rfl⟩ := s4.shapeT
  have l0 := H4.bl (P := P) 0 1 rfl rfl
  have l2 := H4.bl (P := P) 2 1 rfl rfl
  simp -implicitDefEqProofs [l0, l2]
  exact onK hK ⟨pre_gcU (H0.pre.trans H4.pre), _, rfl, Sees.gcU s4 fun g => plainT (r := [_]) g⟩
end
end Go.Pm.PP

/- FnMixtures in the small machine. -/
set_option linter.unusedVariables false
set_option linter.unusedSimpArgs false
namespace Go.Pm.PP
open Go.Pm Go.Proofs Go.Pm.PE
theorem law_Mixtures {h : Hp} {vc : Value} {bs : List Int} (Sb : Sees h vc 1 (bs.map encU)) (hb : ∀ b, b ∈ bs → 0 ≤ b ∧ b ≤ 255) : Ret P G n_laws_FnMixtures [vc] h (.bool true) h := law_Mixtures_of implBestUnder_run Sb hb
end Go.Pm.PP

/- Best orders: exchanging downwards. -/
set_option linter.unusedVariables false
set_option linter.unusedSimpArgs false
set_option maxRecDepth 4000
set_option maxHeartbeats 8000000
namespace Go.Pm.PP
open Go.Pm Go.Proofs Go.Pm.PE
/-- As many exchanges as there can be. -/
def FD : Nat := 2147483649
def dnR (js : List Job) (xs : List Int) (o : Int) : List Int × Nat := if okV js xs o = true then down (valX o js) FD xs else ([], 0)
section
variable {h : Hp} {v u : Value} {js : List Job} {xs : List Int} {o : Int}
theorem down_none {f : List Int → Int} {m : Nat} {xs : List Int} (e : nxt f xs = none) : down f m xs = (xs, 0) := by
  cases m with
  | zero => rfl
  | succ m => rw [down, e]
theorem down_some {f : List Int → Int} {m i : Nat} {xs : List Int} (e : nxt f xs = some i) : down f (m + 1) xs = ((down f m (swp xs i)).1, (down f m (swp xs i)).2 + 1) := by
  rw [down, e]
end
end Go.Pm.PP

/- FnBestOrders in the small machine. -/
set_option linter.unusedVariables false
set_option linter.unusedSimpArgs false
set_option maxRecDepth 4000
set_option maxHeartbeats 8000000
namespace Go.Pm.PP
open Go.Pm Go.Proofs Go.Pm.PE
end Go.Pm.PP

/- A code of bytes as an argument, opened as a row. -/
set_option linter.unusedVariables false
set_option linter.unusedSimpArgs false
set_option maxRecDepth 4000
namespace Go.Pm
open Go.ChangeShapes Go.WideShapes
section
variable {P : Program} {H : Type} {enc : TypeId × Value → H} {w : World} {base : Nat} {held : Bool}
theorem flat_encU (xs : List Int) : (xs.map PP.encU).flatten = xs.map fun x => .int .u8 x := by
  induction xs with
  | nil => rfl
  | cons x xs ih => rw [List.map_cons, List.flatten_cons, ih]; rfl
/-- A slice of bytes. -/
theorem shows_bytes {t e : TypeId} {fuel : Nat} {v : Value} {x : DataW H × List MemPlace} (ht : P.underlying t = some (.slice e)) (he : P.underlying e = some (.int .u8)) (hc : P.cellsOf e = 1)
    (hd : DataW.trod enc P w base (fun _ => true) held fuel t [v] = some x) : ∃ xs : List Int, xs.length ≤ maxLen ∧ (∀ b, b ∈ xs → (Lit.int .u8 b).wf = true) ∧ ∀ (ρ : Mp) (h : Hp), Shows ρ h w 1 (xs.map PP.encU) v := by
  rcases open_ints ht he hc hd with ⟨h1, _⟩ | ⟨a, len, cap, zs, h1, _, hl, hm, hz, _, hcell, hwf⟩
  · cases h1
    exact ⟨[], by simp, by simp, fun ρ h => .inl ⟨rfl, rfl⟩⟩
  · cases h1
    simp only [if_true] at hz
    have hlen : (zs.take len).length = len := by rw [List.length_take]; omega
    refine ⟨zs.take len, by omega, fun b hb => hwf b (List.mem_of_mem_take hb), fun ρ h => .inr ⟨a, cap, by rw [List.length_map, hlen], by rw [List.length_map, hlen]; exact hl, ?_, fun k c hk => ?_⟩⟩
    · rcases Nat.eq_zero_or_pos cap with h0 | h0
      · exact .inl h0
      · right
        have := hcell 0 (by omega)
        unfold World.cell? at this
        simp only [Addr.add, if_true] at this
        cases hs : a.spot with
        | none => rfl
        | some s =>
          rw [hs] at this
          split at this <;> simp at this
    · rw [flat_encU, List.getElem?_map] at hk
      obtain ⟨z, hz2, rfl⟩ := Option.map_eq_some_iff.1 hk
      have hk1 := (List.getElem?_eq_some_iff.1 hz2).1
      rw [List.getElem?_take, if_pos (by omega)] at hz2
      refine ⟨_, hcell k (by omega), ?_⟩
      rw [List.getD_eq_getElem?_getD, hz2]
      exact .int _ _
end
end Go.Pm
namespace Go.Pm.PP
open Go.Pm Go.Proofs
theorem follows : P.follows .mixedOrders = true := by kernel_rfl
theorem cells_u8 : P.cellsOf t_u8 = 1 := by kernel_rfl
theorem byte_of {b : Int} (h : (Lit.int .u8 b).wf = true) : 0 ≤ b ∧ b ≤ 255 := by
  simp [Lit.wf, IntKind.min, IntKind.max, IntKind.signed, IntKind.bits] at h
  omega
section
variable {H : Type} {enc : TypeId × Value → H} {W : World} {ρ : Mp} {h : Hp} {v : Value} {n0 : Nat} {x0 : DataW H × List MemPlace}
theorem open_bytes (R : Rel ρ h W) (ha : AllRo h) (d0 : DataW.trod enc P W 0 (fun _ => true) true n0 t_S_u8 [v] = some x0) :
    ∃ (h2 : Hp) (ρ2 : Mp) (p : Value) (xs : List Int), h <+: h2 ∧ Rel ρ2 h2 W ∧ AllRo h2 ∧ Step ρ h ρ2 h2 ∧ VR ρ2 h2 p v ∧ Sees h2 p 1 (xs.map encU) ∧ ∀ b, b ∈ xs → 0 ≤ b ∧ b ≤ 255 := by
  obtain ⟨xs, l0, hw, s0⟩ := shows_bytes (P := P) (v := v) u_S_u8 u_u8 cells_u8 d0
  obtain ⟨h2, ρ2, p, q, R2, a2, t, r, N⟩ := add_slice (w := W) (len_U xs) R ha (s0 ρ h)
  exact ⟨h2, ρ2, p, xs, q, R2, a2, t, r, N, fun b hb => byte_of (hw b hb)⟩
end
end Go.Pm.PP

/- Tables of truth values and their closures, in plain terms. -/
set_option linter.unusedVariables false
set_option linter.unusedSimpArgs false
namespace Go.Pm.PE
def tG (T : List (List Bool)) (a b : Nat) : Bool := (((T[a]?).getD [])[b]?).getD false
def tS (T : List (List Bool)) (a b : Nat) (x : Bool) : List (List Bool) := T.set a (((T[a]?).getD []).set b x)
structure TOk (n : Nat) (T : List (List Bool)) : Prop where
  len : T.length = n
  row : ∀ r, r ∈ T → r.length = n
theorem TOk.at {n : Nat} {T : List (List Bool)} (k : TOk n T) {a : Nat} (ha : a < n) : ∃ r, T[a]? = some r ∧ r.length = n := by
  obtain ⟨r, hr, _⟩ := drop_at (show a < T.length by rw [k.len]; exact ha)
  exact ⟨r, hr, k.row r (List.mem_of_getElem? hr)⟩
theorem TOk.cell {n : Nat} {T : List (List Bool)} (k : TOk n T) {a b : Nat} (ha : a < n) (hb : b < n) : ∃ r, T[a]? = some r ∧ r.length = n ∧ r[b]? = some (tG T a b) := by
  obtain ⟨r, hr, hl⟩ := k.at ha
  obtain ⟨x, hx, _⟩ := drop_at (show b < r.length by omega)
  exact ⟨r, hr, hl, by simp [tG, hr, hx]⟩
theorem TOk.set {n : Nat} {T : List (List Bool)} (k : TOk n T) {a b : Nat} {x : Bool} (ha : a < n) : TOk n (tS T a b x) := by
  obtain ⟨r, hr, hl⟩ := k.at ha
  refine ⟨by unfold tS; rw [List.length_set, k.len], fun q hq => ?_⟩
  unfold tS at hq
  rw [hr, Option.getD_some] at hq
  rcases List.mem_or_eq_of_mem_set hq with g | g
  · exact k.row q g
  · rw [g, List.length_set, hl]
theorem tG_set {n : Nat} {T : List (List Bool)} (k : TOk n T) {a b c d : Nat} {x : Bool} (ha : a < n) (hb : b < n) : tG (tS T a b x) c d = if c = a ∧ d = b then x else tG T c d := by
  obtain ⟨r, hr, hl⟩ := k.at ha
  have hal : a < T.length := by rw [k.len]; exact ha
  unfold tG tS
  rw [hr, Option.getD_some]
  by_cases h1 : c = a
  · subst h1
    rw [List.getElem?_set_self hal, Option.getD_some, hr, Option.getD_some]
    by_cases h2 : d = b
    · subst h2
      rw [List.getElem?_set_self (by omega), if_pos ⟨rfl, rfl⟩]; rfl
    · rw [List.getElem?_set_ne (fun g => h2 g.symm), if_neg (fun g => h2 g.2)]
  · rw [List.getElem?_set_ne (fun g => h1 g.symm), if_neg (fun g => h1 g.1)]
theorem tS_same {n : Nat} {T : List (List Bool)} (k : TOk n T) {a b : Nat} (ha : a < n) (hb : b < n) : tS T a b (tG T a b) = T := by
  obtain ⟨r, hr, hl, hx⟩ := k.cell ha hb
  unfold tS
  rw [hr, Option.getD_some]
  have e1 : r.set b (tG T a b) = r := by
    refine List.ext_getElem? fun i => ?_
    by_cases h : b = i
    · subst h; rw [List.getElem?_set_self (by omega), hx]
    · rw [List.getElem?_set_ne h]
  rw [e1]
  refine List.ext_getElem? fun i => ?_
  by_cases h : a = i
  · subst h; rw [List.getElem?_set_self (List.getElem?_eq_some_iff.1 hr).1, hr]
  · rw [List.getElem?_set_ne h]
/-! ### closures -/
def falT (n : Nat) : List (List Bool) := List.replicate n (List.replicate n false)
def edT (T : List (List Bool)) (es : List (Int × Int)) : List (List Bool) := es.foldl (fun T e => tS T e.1.toNat e.2.toNat true) T
def cst (k i : Nat) (T : List (List Bool)) (j : Nat) : List (List Bool) := tS T i j (tG T i j || (tG T i k && tG T k j))
def cJ (k i : Nat) (T : List (List Bool)) (l : List Nat) : List (List Bool) := l.foldl (cst k i) T
def cI (n k : Nat) (T : List (List Bool)) (l : List Nat) : List (List Bool) := l.foldl (fun T i => cJ k i T (List.range' 0 n)) T
def cK (n : Nat) (T : List (List Bool)) (l : List Nat) : List (List Bool) := l.foldl (fun T k => cI n k T (List.range' 0 n)) T
def clo (n : Nat) (es : List (Int × Int)) : List (List Bool) := cK n (edT (falT n) es) (List.range' 0 n)
theorem falT_ok {n : Nat} : TOk n (falT n) := ⟨by simp [falT], fun r hr => by rw [List.eq_of_mem_replicate hr]; simp⟩
def edOk (n : Nat) (es : List (Int × Int)) : Prop := ∀ e, e ∈ es → (0 ≤ e.1 ∧ e.1 < n) ∧ 0 ≤ e.2 ∧ e.2 < n
theorem edT_ok {n : Nat} : ∀ {es : List (Int × Int)} {T : List (List Bool)}, TOk n T → edOk n es → TOk n (edT T es)
  | [], T, k, _ => k
  | e :: es, T, k, h => by
    have := h e (List.mem_cons_self ..)
    have e' : edT T (e :: es) = edT (tS T e.1.toNat e.2.toNat true) es := rfl
    rw [e']
    exact edT_ok (k.set (by omega)) fun q hq => h q (List.mem_cons_of_mem _ hq)
theorem cJ_ok {n k i : Nat} (hi : i < n) : ∀ {l : List Nat} {T : List (List Bool)}, TOk n T → TOk n (cJ k i T l)
  | [], T, h => h
  | j :: l, T, h => by
    have e : cJ k i T (j :: l) = cJ k i (cst k i T j) l := rfl
    rw [e]; exact cJ_ok hi (h.set hi)
theorem cI_ok {n k : Nat} : ∀ {l : List Nat} {T : List (List Bool)}, (∀ i, i ∈ l → i < n) → TOk n T → TOk n (cI n k T l)
  | [], T, _, h => h
  | i :: l, T, hl, h => by
    have e : cI n k T (i :: l) = cI n k (cJ k i T (List.range' 0 n)) l := rfl
    rw [e]; exact cI_ok (fun x hx => hl x (List.mem_cons_of_mem _ hx)) (cJ_ok (hl i (List.mem_cons_self ..)) h)
theorem cK_ok {n : Nat} : ∀ {l : List Nat} {T : List (List Bool)}, TOk n T → TOk n (cK n T l)
  | [], T, h => h
  | k :: l, T, h => by
    have e : cK n T (k :: l) = cK n (cI n k T (List.range' 0 n)) l := rfl
    rw [e]; exact cK_ok (cI_ok (fun i hi => by simpa [List.mem_range'_1] using hi) h)
theorem clo_ok {n : Nat} {es : List (Int × Int)} (h : edOk n es) : TOk n (clo n es) := cK_ok (edT_ok falT_ok h)
/-- One pair alone is closed. -/
theorem clo_one {n : Nat} {x y : Int} (hx : 0 ≤ x ∧ x < n) (hy : 0 ≤ y ∧ y < n) (hxy : x ≠ y) : ∀ a b, tG (clo n [(x, y)]) a b = decide ((a : Int) = x ∧ (b : Int) = y) := by
  have base : ∀ a b, tG (edT (falT n) [(x, y)]) a b = decide ((a : Int) = x ∧ (b : Int) = y) := fun a b => by
    have e : edT (falT n) [(x, y)] = tS (falT n) x.toNat y.toNat true := rfl
    rw [e, tG_set falT_ok (by omega) (by omega)]
    have e0 : tG (falT n) a b = false := by
      unfold tG falT
      rw [List.getElem?_replicate]
      split
      · rw [Option.getD_some, List.getElem?_replicate]; split <;> rfl
      · rfl
    rw [e0]
    by_cases h : a = x.toNat ∧ b = y.toNat
    · rw [if_pos h]; symm; rw [decide_eq_true_eq]; omega
    · rw [if_neg h]; symm; rw [decide_eq_false_iff_not]; omega
  have ok : TOk n (edT (falT n) [(x, y)]) := edT_ok falT_ok fun e he => by
    rw [List.mem_singleton] at he; subst he; exact ⟨hx, hy⟩
  have step : ∀ {k i j : Nat}, i < n → j < n → cst k i (edT (falT n) [(x, y)]) j = edT (falT n) [(x, y)] := fun {k i j} hi hj => by
    unfold cst
    have : (tG (edT (falT n) [(x, y)]) i k && tG (edT (falT n) [(x, y)]) k j) = false := by
      rw [base, base, Bool.and_eq_false_iff, decide_eq_false_iff_not, decide_eq_false_iff_not]
      omega
    rw [this, Bool.or_false]
    exact tS_same ok hi hj
  have sJ : ∀ {k i : Nat}, i < n → ∀ {l : List Nat}, (∀ j, j ∈ l → j < n) → cJ k i (edT (falT n) [(x, y)]) l = edT (falT n) [(x, y)] := fun {k i} hi l => by
    induction l with
    | nil => intro _; rfl
    | cons j l ih =>
      intro hl
      have e : cJ k i (edT (falT n) [(x, y)]) (j :: l) = cJ k i (cst k i (edT (falT n) [(x, y)]) j) l := rfl
      rw [e, step hi (hl j (List.mem_cons_self ..))]
      exact ih fun q hq => hl q (List.mem_cons_of_mem _ hq)
  have rg : ∀ j, j ∈ List.range' 0 n → j < n := fun j hj => by simpa [List.mem_range'_1] using hj
  have sI : ∀ {k : Nat} {l : List Nat}, (∀ j, j ∈ l → j < n) → cI n k (edT (falT n) [(x, y)]) l = edT (falT n) [(x, y)] := fun {k} l => by
    induction l with
    | nil => intro _; rfl
    | cons i l ih =>
      intro hl
      have e : cI n k (edT (falT n) [(x, y)]) (i :: l) = cI n k (cJ k i (edT (falT n) [(x, y)]) (List.range' 0 n)) l := rfl
      rw [e, sJ (hl i (List.mem_cons_self ..)) rg]
      exact ih fun q hq => hl q (List.mem_cons_of_mem _ hq)
  have sK : ∀ {l : List Nat}, cK n (edT (falT n) [(x, y)]) l = edT (falT n) [(x, y)] := fun {l} => by
    induction l with
    | nil => rfl
    | cons k l ih =>
      have e : cK n (edT (falT n) [(x, y)]) (k :: l) = cK n (cI n k (edT (falT n) [(x, y)]) (List.range' 0 n)) l := rfl
      rw [e, sI rg]
      exact ih
  intro a b
  unfold clo
  rw [sK, base]
end Go.Pm.PE

/- Orders by a vector of ends, in plain terms. -/
set_option linter.unusedVariables false
set_option linter.unusedSimpArgs false
namespace Go.Pm.PE
open Go.Pm.PP
def eAh (es : List Int) (a b : Int) : Bool := decide (gE es a.toNat < gE es b.toNat)
theorem eAh_weak {es : List Int} : Weak (eAh es) := ⟨fun h => by simp only [eAh, decide_eq_true_eq, decide_eq_false_iff_not] at h ⊢; omega, fun h1 h2 => by simp only [eAh, decide_eq_false_iff_not] at h1 h2 ⊢; omega⟩
def eP (es : List Int) (x y : Int) : Bool := decide (gE es y.toNat ≤ gE es x.toNat)
def eF (es : List Int) (xs : List Int) : List Int := xs.foldl (fun l x => insF (eP es x) x l) []
theorem eF_go {es : List Int} : ∀ {xs acc : List Int}, acc.Pairwise (Lex (eAh es)) → xs.Pairwise (· < ·) → (∀ a, a ∈ acc → ∀ x, x ∈ xs → a < x) → (xs.foldl (fun l x => insF (eP es x) x l) acc).Pairwise (Lex (eAh es)) ∧ (xs.foldl (fun l x => insF (eP es x) x l) acc).Perm (acc ++ xs)
  | [], acc, h, _, _ => by rw [List.foldl_nil, List.append_nil]; exact ⟨h, List.Perm.refl _⟩
  | x :: xs, acc, h, hs, ha => by
    rw [List.foldl_cons]
    have hs := List.pairwise_cons.1 hs
    have hp : (insF (eP es x) x acc).Perm (x :: acc) := insF_perm
    have hl : ∀ y, y ∈ acc → y < x := fun y hy => ha y hy x (List.mem_cons_self ..)
    have hr := insF_sorted (R := Lex (eAh es)) (p := eP es x) (x := x) h (fun y hy g => by
      have := hl y hy
      simp only [eP, decide_eq_true_eq] at g
      simp only [Lex, eAh, decide_eq_true_eq, decide_eq_false_iff_not]
      omega) (fun y hy g => by
      simp only [eP, decide_eq_false_iff_not] at g
      simp only [Lex, eAh, decide_eq_true_eq, decide_eq_false_iff_not]
      omega) (fun y z hy hz hr g => by
      simp only [eP, decide_eq_false_iff_not] at g ⊢
      simp only [Lex, eAh, decide_eq_true_eq, decide_eq_false_iff_not] at hr
      omega)
    have hq : (insF (eP es x) x acc ++ xs).Perm (acc ++ x :: xs) := ((hp.append_right xs).trans (by rw [List.cons_append])).trans List.perm_middle.symm
    obtain ⟨r1, r2⟩ := eF_go (xs := xs) hr hs.2 fun a hA y hy => by
      rcases List.mem_cons.1 (hp.mem_iff.1 hA) with rfl | g
      · exact hs.1 y hy
      · exact ha a g y (List.mem_cons_of_mem _ hy)
    exact ⟨r1, r2.trans hq⟩
theorem eF_eq {es xs : List Int} (h : xs.Pairwise (· < ·)) : eF es xs = sortB (eAh es) xs := by
  obtain ⟨h1, h2⟩ := eF_go (es := es) (xs := xs) (acc := []) List.Pairwise.nil h (fun a ha => by cases ha)
  exact sorted_eq (R := Lex (eAh es)) (fun a b => Lex.asymm eAh_weak) h1 (sortB_sorted eAh_weak h) (h2.trans sortB_perm.symm)
/-- Numbers put to their places, once. -/
def putI (l : List Int) (x : Int) : List Int := if l.any (· == x) = true then l else insF (fun y => decide (y < x)) x l
def ascF (xs : List Int) : List Int := xs.foldl putI []
theorem ascF_go : ∀ {xs acc : List Int}, acc.Pairwise (· < ·) → (acc ++ xs).Nodup → (xs.foldl putI acc).Pairwise (· < ·) ∧ (xs.foldl putI acc).Perm (acc ++ xs)
  | [], acc, h, _ => by rw [List.foldl_nil, List.append_nil]; exact ⟨h, List.Perm.refl _⟩
  | x :: xs, acc, h, hnd => by
    have hni : ∀ y, y ∈ acc → y ≠ x := fun y hy e => by
      subst e
      exact (List.nodup_append.1 hnd).2.2 y hy y (List.mem_cons_self ..) rfl
    have hna : acc.any (· == x) = false := by
      rw [List.any_eq_false]
      intro y hy
      simpa using hni y hy
    have e : putI acc x = insF (fun y => decide (y < x)) x acc := by unfold putI; rw [hna, if_neg (by simp)]
    rw [List.foldl_cons, e]
    have hp : (insF (fun y => decide (y < x)) x acc).Perm (x :: acc) := insF_perm
    have hr := insF_sorted (R := (· < ·)) (p := fun y => decide (y < x)) (x := x) h (fun y hy g => by simpa using g) (fun y hy g => by have := hni y hy; simp only [decide_eq_false_iff_not] at g; show x < y; omega) (fun y z hy hz hr g => by simp only [decide_eq_false_iff_not] at g ⊢; have : y < z := hr; omega)
    have hq : (insF (fun y => decide (y < x)) x acc ++ xs).Perm (acc ++ x :: xs) := ((hp.append_right xs).trans (by rw [List.cons_append])).trans List.perm_middle.symm
    obtain ⟨r1, r2⟩ := ascF_go (xs := xs) hr (hq.nodup_iff.2 hnd)
    exact ⟨r1, r2.trans hq⟩
end Go.Pm.PE
