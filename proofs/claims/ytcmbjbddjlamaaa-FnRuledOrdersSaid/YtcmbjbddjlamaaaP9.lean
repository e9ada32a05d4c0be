/- The texts Ps8, PvTd, PvTe, PvRa, PvRb, PvL, PvM, PvK of this work: Ruled orders are best, in plain terms: the last end too. -/
import Derived.ProofKit
import Derived.OpenShut
import Derived.Carry
import Derived.Test.YtcmbjbddjlamaaaP7
import Derived.Test.YtcmbjbddjlamaaaP8
import Derived.Test.YtcmbjbddjlamaaaM4
/- Ruled orders are best, in plain terms: the last end too. -/
set_option linter.unusedVariables false
set_option linter.unusedSimpArgs false
namespace Go.Pm.PP
open Go.Pm Go.Pm.PE
theorem nowGo_mono {js : List Job} : ∀ {C : List Int} {a b : Int}, a ≤ b → nowGo js a C ≤ nowGo js b C
  | [], _, _, h => h
  | x :: C, a, b, h => by rw [nowGo, nowGo]; exact nowGo_mono (by unfold endAt; omega)
theorem end_swap {js : List Job} (ht : ∀ x, 0 ≤ (jA js x).t) {A C : List Int} {x y : Int} (h : (jA js y).r ≤ (jA js x).r) : nowGo js 0 (A ++ y :: x :: C) ≤ nowGo js 0 (A ++ x :: y :: C) := by
  rw [nowGo_app, nowGo_app, nowGo, nowGo, nowGo, nowGo]
  have h1 := ht x
  have h2 := ht y
  refine nowGo_mono ?_
  unfold endAt
  omega
theorem end_best {js : List Job} (ht : ∀ x, 0 ≤ (jA js x).t) {xs ys : List Int} (hs : ys.Pairwise fun a b => (jA js a).r ≤ (jA js b).r) (hp : xs.Perm ys) : nowGo js 0 ys ≤ nowGo js 0 xs :=
  exch_sorted (f := nowGo js 0) (S := fun _ => True) (fun _ _ _ _ _ => trivial) (fun A x y C _ h => end_swap ht h) (A := []) trivial hs hp
/-- The reference's ruled order. -/
def ruF (o : Int) (js : List Job) (xs : List Int) : List Int := xs.foldl (fun l x => insF (fun y => decide (gapX o js y x ≤ 0)) x l) []
theorem ruF_perm {o : Int} {js : List Job} : ∀ {xs acc : List Int}, (xs.foldl (fun l x => insF (fun y => decide (gapX o js y x ≤ 0)) x l) acc).Perm (acc ++ xs)
  | [], acc => by simp
  | x :: xs, acc => by
    rw [List.foldl_cons]
    refine ruF_perm.trans ?_
    exact ((insF_perm.append_right xs).trans (by rw [List.cons_append])).trans List.perm_middle.symm
theorem ruF_sorted {o : Int} {js : List Job} (t : Tm js) : ∀ {xs acc : List Int}, acc.Pairwise (Lex (aheadR o js)) → inN js.length acc → inN js.length xs → xs.Pairwise (· < ·) → (∀ a, a ∈ acc → ∀ b, b ∈ xs → a < b) → (xs.foldl (fun l x => insF (fun y => decide (gapX o js y x ≤ 0)) x l) acc).Pairwise (Lex (aheadR o js))
  | [], acc, h, _, _, _, _ => h
  | x :: xs, acc, h, ha, hx, hs, hl => by
    have hs := List.pairwise_cons.1 hs
    have xr := hx x (List.mem_cons_self ..)
    have gs : ∀ y, gapX o js x y = - gapX o js y x := fun y => gap_swap
    rw [List.foldl_cons]
    refine ruF_sorted t (insF_sorted h (fun y hy g => ?_) (fun y hy g => ?_) fun y z hy hz hr g => ?_) (fun y hy => ?_) (fun y hy => hx y (List.mem_cons_of_mem _ hy)) hs.2 fun a hA b hb => ?_
    · have g : gapX o js y x ≤ 0 := by simpa using g
      have := gs y
      right
      refine ⟨?_, hl y hy x (List.mem_cons_self ..)⟩
      rw [ahead_eq t xr (ha y hy), decide_eq_false_iff_not]; omega
    · have g : ¬ gapX o js y x ≤ 0 := by simpa using g
      have := gs y
      left
      rw [ahead_eq t xr (ha y hy), decide_eq_true_eq]; omega
    · have g : ¬ gapX o js y x ≤ 0 := by simpa using g
      cases c : decide (gapX o js z x ≤ 0) with
      | false => rfl
      | true =>
        have c : gapX o js z x ≤ 0 := by simpa using c
        have h1 : aheadR o js z y = false := hr.na ahead_weak
        have g1 := gs z
        have h2 : aheadR o js x z = false := by rw [ahead_eq t xr (ha z hz), decide_eq_false_iff_not]; omega
        have h3 := (ahead_weak (o := o) (js := js)).tr h2 h1
        rw [ahead_eq t xr (ha y hy), decide_eq_false_iff_not] at h3
        have := gs y
        omega
    · rcases List.mem_cons.1 (insF_perm.mem_iff.1 hy) with rfl | g
      · exact xr
      · exact ha y g
    · rcases List.mem_cons.1 (insF_perm.mem_iff.1 hA) with rfl | g
      · exact hs.1 b hb
      · exact hl a g b (List.mem_cons_of_mem _ hb)
/-- Both ruled orders are the same. -/
theorem ruled_eq {o : Int} {js : List Job} (t : Tm js) {xs : List Int} (hs : xs.Pairwise (· < ·)) (hin : inN js.length xs) : ruF o js xs = sortB (aheadR o js) xs := by
  have p : (ruF o js xs).Perm xs := by have := @ruF_perm o js xs []; simpa [ruF] using this
  exact sorted_eq (R := Lex (aheadR o js)) (fun a b => Lex.asymm ahead_weak) (ruF_sorted t List.Pairwise.nil (fun y hy => by cases hy) hin hs fun a ha => by cases ha) (sortB_sorted ahead_weak hs) (p.trans sortB_perm.symm)
end Go.Pm.PP

/- Draws: plain jobs, ruled orders, inversions. -/
set_option linter.unusedVariables false
set_option linter.unusedSimpArgs false
set_option maxRecDepth 4000
set_option maxHeartbeats 8000000
namespace Go.Pm.PP
open Go.Pm Go.Proofs Go.Pm.PE
/-- Put into the middle, the front by a call. -/
theorem ins_own {h0 h : Hp} {L : List Asn} (H : Holds h0 h L) (i : Nat) {u : Value} {xs : List Int} (hi : L[i]? = some (.own u 1 (xs.map encI))) {k : Nat} (hk : k ≤ xs.length) (x : Int) (hn : xs.length ≤ 2 ^ 20) :
    ∃ (a3 : Option Addr) (b3 c3 : Nat), sliceP P h t_S_int u none (some (.int .i64 k)) = some (.slice a3 b3 c3) ∧ Ints h (.slice a3 b3 c3) (xs.take k) ∧ ∀ {v4 : Value} {h4 : Hp}, h <+: h4 → Own h.length h4 v4 1 ((xs.take k).map encI) → NR h.length h4 →
      ∃ (a4 : Option Addr) (b4 c4 : Nat) (a5 : Option Addr) (b5 c5 : Nat) (h5 : Hp) (a6 : Option Addr) (b6 c6 : Nat) (v7 : Value) (h7 : Hp), v4 = .slice a4 b4 c4 ∧
      appendP P (h4 ++ [some ⟨[.int .i64 x], 1, false⟩]) t_S_int (.slice a4 b4 c4) (.slice (some ⟨h4.length, 0, some 1⟩) 1 1) = some (.slice a5 b5 c5, h5) ∧ modOk h.length (h4 ++ [some ⟨[.int .i64 x], 1, false⟩]) h5 ∧ newOk h h5 ∧
      sliceP P h5 t_S_int u (some (.int .i64 k)) none = some (.slice a6 b6 c6) ∧ appendP P h5 t_S_int (.slice a5 b5 c5) (.slice a6 b6 c6) = some (v7, h7) ∧ Holds h0 h7 (L.set i (.own v7 1 ((xs.take k ++ x :: xs.drop k).map encI))) ∧ h <+: h7 := by
  have S2 := H.sees i hi
  obtain ⟨v3, s3, f3⟩ := S2.front (P := P) u_S_int i_int (k := .i64) (j := (k : Int)) (by omega) (by simp; omega)
  rw [Int.toNat_natCast, ← List.map_take] at f3
  obtain ⟨a3, b3, c3, rfl⟩ : ∃ a n c, v3 = .slice a n c := by obtain ⟨a, c, e⟩ := f3.shape; exact ⟨_, _, _, e⟩
  refine ⟨a3, b3, c3, s3, f3, fun {v4 h4} hp4 ho4 n4 => ?_⟩
  have H4 : Holds h h4 [.own v4 1 ((xs.take k).map encI)] := (Holds.start (h := h)).call hp4 ho4
  obtain ⟨v5, h5, ha5, H5', k5, _⟩ := push_I0 H4 0 rfl x (by simp; omega)
  have H5 : Holds h h5 [.own v5 1 ((xs.take k ++ [x]).map encI)] := H5'
  have n5 : NR h.length (h4 ++ [some ⟨[.int .i64 x], 1, false⟩]) := n4.new [.int .i64 x] 1
  have md := app_mod (b := h.length) rfl n5 ha5 (H4.pre.trans (List.prefix_append ..)) H5.pre
  have n6 := append_nr n5 ha5
  obtain ⟨v6, s6, f6, _⟩ := (S2.pre H5.pre).back (P := P) u_S_int i_int (k := .i64) (j := (k : Int)) (by omega) (by simp; omega)
  rw [Int.toNat_natCast, ← List.map_drop] at f6
  obtain ⟨v7, h7, ha7, H7', _⟩ := app_I H5 0 rfl f6 (by simp; omega)
  have H7 : Holds h h7 [.own v7 1 ((xs.take k ++ x :: xs.drop k).map encI)] := by
    have : Holds h h7 [.own v7 1 ((xs.take k ++ [x] ++ xs.drop k).map encI)] := H7'
    rw [List.append_assoc] at this
    exact this
  obtain ⟨a4, b4, c4, rfl⟩ : ∃ a n c, v4 = .slice a n c := by obtain ⟨a, c, e⟩ := (H4.sees 0 rfl).shape; exact ⟨_, _, _, e⟩
  obtain ⟨a5, b5, c5, rfl⟩ : ∃ a n c, v5 = .slice a n c := by obtain ⟨a, c, e⟩ := (H5.sees 0 rfl).shape; exact ⟨_, _, _, e⟩
  obtain ⟨a6, b6, c6, rfl⟩ : ∃ a n c, v6 = .slice a n c := by obtain ⟨a, c, e⟩ := f6.shape; exact ⟨_, _, _, e⟩
  have HJ := H.join H7
  have hil := (List.getElem?_eq_some_iff.1 hi).1
  refine ⟨a4, b4, c4, a5, b5, c5, h5, a6, b6, c6, v7, h7, rfl, ha5, md, newOk_of H5.pre n6, s6, ha7, ?_, H7.pre⟩
  refine HJ.sub (fun j => if j = i then L.length else j) (fun j A e => ?_) fun j1 j2 A B e1 e2 g => ?_
  · rw [List.getElem?_set] at e
    split at e
    · rename_i e2
      subst e2
      cases e
      rw [if_pos rfl, List.getElem?_append_right (Nat.le_refl _), Nat.sub_self]; rfl
    · rename_i e2
      rw [if_neg fun g => e2 g.symm, List.getElem?_append_left (List.getElem?_eq_some_iff.1 e).1]
      exact e
  · have l1 := (List.getElem?_eq_some_iff.1 e1).1
    have l2 := (List.getElem?_eq_some_iff.1 e2).1
    rw [List.length_set] at l1 l2
    split at g <;> split at g <;> omega
section
variable {h : Hp} {vj v : Value} {js : List Job} {o : Int}
theorem l3Order_run (J : Jobs h vj js) (hg : goodL js = true) (hn : js.length ≤ 8) : RunsC P G n_spec_l3Order [vj, .int .i64 o] h fun w h' => h <+: h' ∧ Own h.length h' w 1 ((ruF o js (upTo js.length)).map encI) := by
  refine hideC fun K hK => enter_run e_spec_l3Order (by simp) ?_
  have Js := J
  obtain ⟨oj, cj, rfl⟩ := J.shapeT
  have H0 := own_nil (Holds.start (h := h)) Int encI 1
  simp -implicitDefEqProofs
  refine R_loopO (fun m s h' => ∃ (i : Nat) (u : Value), i + m = js.length ∧ s = [(0, .slice oj js.length cj), (1, .int .i64 o), (5, u), (6, .int .i64 i)] ∧ Holds h h' [.own u 1 ((ruF o js (upTo i)).map encI)]) (fun I hI m s h' => ?_) (n := js.length) ⟨0, _, Nat.zero_add _, by simp, H0⟩
  rintro ⟨i, u, hi, rfl, H⟩
  by_cases hlt : i < js.length
  · have eu : upTo (i + 1) = upTo i ++ [(i : Int)] := by simp [upTo, List.range_succ]
    have ef : ruF o js (upTo (i + 1)) = insF (fun y => decide (gapX o js y i ≤ 0)) (i : Int) (ruF o js (upTo i)) := by
      unfold ruF; rw [eu, List.foldl_append]; rfl
    have pu : (ruF o js (upTo i)).Perm (upTo i) := by have := @ruF_perm o js (upTo i) []; simpa [ruF] using this
    have hin : ∀ z, z ∈ ruF o js (upTo i) → 0 ≤ z ∧ z < js.length := fun z hz => by have := mem_upTo.1 (pu.mem_iff.1 hz); omega
    have hul : (ruF o js (upTo i)).length = i := by rw [pu.length_eq, upTo_len]
    generalize ruF o js (upTo i) = us at *
    have S := H.sees 0 rfl
    obtain ⟨ou, cu, rfl⟩ : ∃ a c, u = .slice a us.length c := by obtain ⟨a, c, e⟩ := S.shapeT; exact ⟨a, c, e⟩
    simp -implicitDefEqProofs [hlt]
    refine R_loopO (fun m2 s h2 => ∃ (k : Nat), k + m2 = us.length ∧ s = [(0, .slice oj js.length cj), (1, .int .i64 o), (5, .slice ou us.length cu), (6, .int .i64 i), (7, .int .i64 k)] ∧ h2 = h' ∧ ∀ j z, j < k → us[j]? = some z → decide (gapX o js z i ≤ 0) = true) (fun I2 hI2 m2 s h2 => ?_) (n := us.length)
      ⟨0, Nat.zero_add _, by simp, rfl, fun i z h => by omega⟩
    rintro ⟨k, hk, rfl, rfl, hall⟩
    have fin : (∀ z, us[k]? = some z → decide (gapX o js z i ≤ 0) = false) → us.take k ++ (i : Int) :: us.drop k = insF (fun y => decide (gapX o js y i ≤ 0)) (i : Int) us := fun g => (insF_take (by omega) hall g).symm
    obtain ⟨a3, b3, c3, s3, f3, rest⟩ := ins_own H 0 rfl (k := k) (by omega) (i : Int) (by omega)
    have next : us.take k ++ (i : Int) :: us.drop k = insF (fun y => decide (gapX o js y i ≤ 0)) (i : Int) us → RunsC P G n_spec_l1Own [.slice a3 b3 c3] h2 fun v h' => newOk h2 h' ∧ ∃ (a4 : Option Addr) (b4 c4 : Nat) (a5 : Option Addr) (b5 c5 : Nat) (h5 : Hp) (a6 : Option Addr) (b6 c6 : Nat) (v7 : Value) (h7 : Hp), v = .slice a4 b4 c4 ∧
      appendP P (h' ++ [some ⟨[.int .i64 (i : Int)], 1, false⟩]) t_S_int (.slice a4 b4 c4) (.slice (some ⟨h'.length, 0, some 1⟩) 1 1) = some (.slice a5 b5 c5, h5) ∧ modOk h2.length (h' ++ [some ⟨[.int .i64 (i : Int)], 1, false⟩]) h5 ∧ newOk h2 h5 ∧
      sliceP P h5 t_S_int (.slice ou us.length cu) (some (.int .i64 k)) none = some (.slice a6 b6 c6) ∧ appendP P h5 t_S_int (.slice a5 b5 c5) (.slice a6 b6 c6) = some (v7, h7) ∧ I (m - 1) [(0, .slice oj js.length cj), (1, .int .i64 o), (5, v7), (6, .int .i64 ((i + 1 : Nat) : Int))] h7 := fun he => by
      refine RunsC.mono (l1Own_run f3 (by rw [List.length_take]; omega)).new fun v4 h4 ⟨⟨hp4, ho4⟩, hn4⟩ => ⟨hn4 hp4, ?_⟩
      obtain ⟨a4, b4, c4, a5, b5, c5, h5, a6, b6, c6, v7, h7, e4, g5, g6, g7, g8, g9, H7, hp7⟩ := rest hp4 ho4 (hn4 hp4).nr
      refine ⟨a4, b4, c4, a5, b5, c5, h5, a6, b6, c6, v7, h7, e4, g5, g6, g7, g8, g9, on hI ⟨i + 1, v7, by omega, rfl, ?_⟩⟩
      rw [ef, ← he]
      exact H7
    by_cases hlk : k < us.length
    · obtain ⟨z, hz, _⟩ := drop_at hlk
      have lz := load_I S hz
      have rs := l3Gap_run (o := o) (x := z) (y := (i : Int)) (Js.pre H.pre) hg (hin z (List.mem_of_getElem? hz)) (by omega)
      have hlk' : (k : Int) < us.length := by omega
      by_cases c1 : gapX o js z i ≤ 0
      · simp -implicitDefEqProofs [-indexAddrP_some, hlk, hlk', lz, CL_ret rs, CH_at rs, c1, winc hlk (by omega)]
        exact ⟨m2 - 1, by omega, on hI2 ⟨k + 1, by omega, rfl, rfl, fun j z' h1 h2 => by
          rcases Nat.lt_or_ge j k with g | g
          · exact hall j z' g h2
          · have : j = k := by omega
            subst this
            rw [hz] at h2; cases h2; exact decide_eq_true c1⟩⟩
      · simp -implicitDefEqProofs [-indexAddrP_some, hlk, hlk', lz, CL_ret rs, CH_at rs, c1, s3]
        refine CG_post (next (fin fun z' g => by rw [hz] at g; cases g; exact decide_eq_false c1)) fun v h4 ⟨no4, a4, b4, c4, a5, b5, c5, h5, a6, b6, c6, v7, h7, ev, g5, g6, g7, g8, g9, hI7⟩ => ⟨no4, ?_⟩
        subst ev
        simp -implicitDefEqProofs [g5, g6, g7, g8, g9, winc hlt (by omega)]
        exact ⟨m - 1, by omega, hI7⟩
    · have hlk' : ¬ (k : Int) < us.length := by omega
      simp -implicitDefEqProofs [-indexAddrP_some, hlk, hlk', s3]
      refine CG_post (next (fin fun z' g => by rw [List.getElem?_eq_none (by omega)] at g; cases g)) fun v h4 ⟨no4, a4, b4, c4, a5, b5, c5, h5, a6, b6, c6, v7, h7, ev, g5, g6, g7, g8, g9, hI7⟩ => ⟨no4, ?_⟩
      subst ev
      simp -implicitDefEqProofs [g5, g6, g7, g8, g9, winc hlt (by omega)]
      exact ⟨m - 1, by omega, hI7⟩
  · have : i = js.length := by omega
    subst this
    simp -implicitDefEqProofs [hlt]
    exact onK hK (H.ret 0 rfl)
end
/-! ### draws -/
section
variable {h0 h : Hp} {r n : Nat} {vc : Value} {L : List Asn}
theorem Cur.fputJ {u : Value} {js : List Job} (C : Cur h0 h r vc n (L ++ [.own u 4 (js.map encJ)])) {k : Nat} {y : Job} (hy : js[k]? = some y) (z : Int) :
    (∃ h', storeP P h t_int (.int .i64 z) (.pointer (some (addP (addP (base u) (k * 4)) 0))) = some h' ∧ Cur h0 h' r vc n (L ++ [.own u 4 ((js.set k ⟨z, y.w, y.r, y.d⟩).map encJ)])) ∧
    (∃ h', storeP P h t_int (.int .i64 z) (.pointer (some (addP (addP (base u) (k * 4)) 1))) = some h' ∧ Cur h0 h' r vc n (L ++ [.own u 4 ((js.set k ⟨y.t, z, y.r, y.d⟩).map encJ)])) ∧
    (∃ h', storeP P h t_int (.int .i64 z) (.pointer (some (addP (addP (base u) (k * 4)) 2))) = some h' ∧ Cur h0 h' r vc n (L ++ [.own u 4 ((js.set k ⟨y.t, y.w, z, y.d⟩).map encJ)])) ∧
    (∃ h', storeP P h t_int (.int .i64 z) (.pointer (some (addP (addP (base u) (k * 4)) 3))) = some h' ∧ Cur h0 h' r vc n (L ++ [.own u 4 ((js.set k ⟨y.t, y.w, y.r, z⟩).map encJ)])) := by
  obtain ⟨a, s, h1, h2, H⟩ := C
  have hi : (cu r vc a s :: (L ++ [.own u 4 (js.map encJ)]))[L.length + 1]? = some (.own u 4 (js.map encJ)) := by rw [List.getElem?_cons_succ]; exact snoc_get
  have es : ∀ A : Asn, (cu r vc a s :: (L ++ [.own u 4 (js.map encJ)])).set (L.length + 1) A = cu r vc a s :: (L ++ [A]) := fun A => by
    rw [List.set_cons_succ, List.set_append_right (h := Nat.le_refl _), Nat.sub_self]; rfl
  refine ⟨?_, ?_, ?_, ?_⟩
  · obtain ⟨h', g1, g2, _⟩ := fput_J0 H _ hi hy z
    rw [es] at g2
    exact ⟨h', g1, a, s, h1, h2, g2⟩
  · obtain ⟨h', g1, g2, _⟩ := fput_J1 H _ hi hy z
    rw [es] at g2
    exact ⟨h', g1, a, s, h1, h2, g2⟩
  · obtain ⟨h', g1, g2, _⟩ := fput_J2 H _ hi hy z
    rw [es] at g2
    exact ⟨h', g1, a, s, h1, h2, g2⟩
  · obtain ⟨h', g1, g2, _⟩ := fput_J3 H _ hi hy z
    rw [es] at g2
    exact ⟨h', g1, a, s, h1, h2, g2⟩
theorem plain3_run (B : By h0 vc) (C : Cur h0 h r vc n L) (hn : n ≤ 2 ^ 18) : RunsC P G n_spec_l1Cur_plain3 [.pointer (some ⟨r, 0, some 3⟩)] h fun v h' => ∃ js : List Job, js.length ≤ 9 ∧ Cur h0 h' r vc (n + 300) (L ++ [.own v 4 (js.map encJ)]) := by
  refine hideC fun K hK => enter_run e_spec_l1Cur_plain3 (by simp) ?_
  simp -implicitDefEqProofs
  refine CL_post (jobs_run B C (by omega)) fun v h1 ⟨js, hl, C1⟩ => ?_
  obtain ⟨ua, uc, rfl⟩ : ∃ a c, v = .slice a js.length c := C1.seesJ.shapeT
  simp -implicitDefEqProofs
  refine CL_post (one_run B C1 (by omega) (k := 24) (by omega)) fun v h2 ⟨b, ev, C2⟩ => ?_
  subst ev
  cases b
  case true =>
    simp -implicitDefEqProofs
    exact onK hK ⟨js, hl, C.gcO (C2.mono (by omega)) (fun h => h)⟩
  simp -implicitDefEqProofs
  obtain ⟨N, hN⟩ : ∃ N, N = js.length := ⟨_, rfl⟩
  rw [← hN] at C2 ⊢
  refine R_loopO (fun m st h' => ∃ (i : Nat) (ks : List Job), i + m = N ∧ st = [(0, .pointer (some ⟨r, 0, some 3⟩)), (3, .slice ua N uc), (4, .int .i64 i)] ∧ ks.length = N ∧ Cur h0 h' r vc (n + 204 + 2 * i) (L ++ [.own (.slice ua N uc) 4 (ks.map encJ)])) (fun I hI m st h' => ?_) (n := N)
    ⟨0, js, by omega, by simp, hN.symm, C2.mono (by omega)⟩
  rintro ⟨i, ks, hi, rfl, hks, C3⟩
  by_cases hlt : i < N
  · have hlt' : (i : Int) < N := by omega
    obtain ⟨y, hy, _⟩ := drop_at (show i < ks.length by omega)
    have ly := load_J C3.seesJ hy
    obtain ⟨h4, s4, C4⟩ := (C3.fputJ hy 0).2.2.1
    by_cases c1 : 0 < i
    · have c1' : (0 : Int) < i := by omega
      simp -implicitDefEqProofs [-indexAddrP_some, hlt, hlt', ly, s4, c1, c1']
      refine CL_post (one_run B C4 (by omega) (k := 3) (by omega)) fun v h5 ⟨b, ev, C5⟩ => ?_
      subst ev
      cases b
      · simp -implicitDefEqProofs [winc hlt (by omega)]
        exact ⟨m - 1, by omega, on hI ⟨i + 1, _, by omega, rfl, by rw [List.length_set]; exact hks, C5.mono (by omega)⟩⟩
      · have w1 : IntKind.i64.wrap ((i : Int) - 1) = ((i - 1 : Nat) : Int) := by rw [wrap_ok] <;> omega
        generalize hks2 : ks.set i ⟨y.t, y.w, 0, y.d⟩ = ks2 at C5
        have hl2 : ks2.length = N := by rw [← hks2, List.length_set]; exact hks
        obtain ⟨p, hp, _⟩ := drop_at (show i - 1 < ks2.length by omega)
        obtain ⟨q, hq, _⟩ := drop_at (show i < ks2.length by omega)
        have lp := load_J C5.seesJ hp
        have lq := load_J C5.seesJ hq
        obtain ⟨h6, s6, C6⟩ := (C5.fputJ hq p.t).1
        generalize hks3 : ks2.set i ⟨p.t, q.w, q.r, q.d⟩ = ks3 at C6
        have hl3 : ks3.length = N := by rw [← hks3, List.length_set]; exact hl2
        obtain ⟨p', hp', _⟩ := drop_at (show i - 1 < ks3.length by omega)
        obtain ⟨q', hq', _⟩ := drop_at (show i < ks3.length by omega)
        have lp' := load_J C6.seesJ hp'
        have lq' := load_J C6.seesJ hq'
        obtain ⟨h7, s7, C7⟩ := (C6.fputJ hq' p'.w).2.1
        simp -implicitDefEqProofs [-indexAddrP_some, w1, lp, lq, s6, lp', lq', s7, winc hlt (by omega)]
        exact ⟨m - 1, by omega, on hI ⟨i + 1, _, by omega, rfl, by rw [List.length_set]; exact hl3, C7.mono (by omega)⟩⟩
    · have c1' : ¬ (0 : Int) < i := by omega
      simp -implicitDefEqProofs [-indexAddrP_some, hlt, hlt', ly, s4, c1, c1', winc hlt (by omega)]
      exact ⟨m - 1, by omega, on hI ⟨i + 1, _, by omega, rfl, by rw [List.length_set]; exact hks, C4.mono (by omega)⟩⟩
  · have hlt' : ¬ (i : Int) < N := by omega
    simp -implicitDefEqProofs [hlt, hlt']
    exact onK hK ⟨ks, by omega, C.gcO (C3.mono (by omega)) (fun h => h)⟩
theorem ruled3_run (B : By h0 vc) (C : Cur h0 h r vc n L) (hn : n ≤ 2 ^ 17) : RunsC P G n_spec_l1Cur_ruled3 [.pointer (some ⟨r, 0, some 3⟩)] h fun v h' => ∃ (u : Value) (o : Int) (js : List Job), v = .tuple #[u, .int .i64 o] ∧ js.length ≤ 9 ∧ Cur h0 h' r vc (n + 400) (L ++ [.own u 4 (js.map encJ)]) := by
  refine hideC fun K hK => enter_run e_spec_l1Cur_ruled3 (by simp) ?_
  simp -implicitDefEqProofs
  refine CL_post (pick_run B C (by omega) (k := 4) (by omega)) fun v h1 ⟨x, ev, x0, x1, _, C1⟩ => ?_
  subst ev
  simp -implicitDefEqProofs
  refine CL_post (one_run B C1 (by omega) (k := 24) (by omega)) fun v h2 ⟨b, ev, C2⟩ => ?_
  subst ev
  have fin : ∀ {u : Value} {h4 : Hp} {js : List Job} {o : Int} {m : Nat}, js.length ≤ 9 → m ≤ n + 400 → Cur h0 h4 r vc m (L ++ [.own u 4 (js.map encJ)]) → K (.tuple #[u, .int .i64 o]) (gc h h4 (.tuple #[u, .int .i64 o])) := fun {u h4 js o m} hl hm C4 =>
    onK hK ⟨u, o, js, rfl, hl, C.gcO (C4.mono hm) fun g => plainT (r := [_]) g⟩
  have two : ∀ {o : Int} {h3 : Hp} {m : Nat}, m ≤ n + 10 → Cur h0 h3 r vc m L → (RunsC P G n_spec_l1Cur_jobs [.pointer (some ⟨r, 0, some 3⟩)] h3 fun u h4 => K (.tuple #[u, .int .i64 o]) (gc h h4 (.tuple #[u, .int .i64 o]))) ∧ (RunsC P G n_spec_l1Cur_plain3 [.pointer (some ⟨r, 0, some 3⟩)] h3 fun u h4 => K (.tuple #[u, .int .i64 o]) (gc h h4 (.tuple #[u, .int .i64 o]))) := fun {o h3 m} hm C3 =>
    ⟨RunsC.mono (jobs_run B C3 (by omega)) fun v h4 ⟨js, hl, C4⟩ => fin hl (by omega) C4, RunsC.mono (plain3_run B C3 (by omega)) fun v h4 ⟨js, hl, C4⟩ => fin hl (by omega) C4⟩
  cases b
  · generalize hX : IntKind.i64.wrap (1 + x) = X
    by_cases c : X = 1
    · subst c
      simp -implicitDefEqProofs [hX]
      refine CL_post (two (o := 1) (by omega) C2).1 fun v h4 f => ?_
      simp -implicitDefEqProofs
      exact f
    · simp -implicitDefEqProofs [hX, nb c]
      refine CL_post (two (o := X) (by omega) C2).2 fun v h4 f => ?_
      simp -implicitDefEqProofs
      exact f
  · have C3 := C2.lit [0, 5, 8, -1]
    simp -implicitDefEqProofs
    refine CL_post (among_run B C3 (by omega) snoc_get (xs := [0, 5, 8, -1]) (by simp) (by simp)) fun v h3 ⟨X, ev, _, C4⟩ => ?_
    subst ev
    by_cases c : X = 1
    · subst c
      simp -implicitDefEqProofs
      refine CL_post (two (o := 1) (by omega) C4.weak).1 fun v h4 f => ?_
      simp -implicitDefEqProofs
      exact f
    · simp -implicitDefEqProofs [nb c]
      refine CL_post (two (o := X) (by omega) C4.weak).2 fun v h4 f => ?_
      simp -implicitDefEqProofs
      exact f
end
theorem plain2T {a b : Value} {r : List Value} (h : plain (.tuple (a :: b :: r).toArray) = true) : plainC b = true := by
  have : ((a :: b :: r).toArray : Array Value).toList.all plainC = true := h
  simp only [List.all_cons, Bool.and_eq_true] at this
  exact this.2.1
/-- A draw of jobs and an order ends. -/
theorem draw_JX {h h1 : Hp} {u w : Value} {r : List Value} {js : List Job} {xs : List Int} (H : Holds h h1 [.own u 4 (js.map encJ), .own w 1 (xs.map encI)]) : h <+: gc h h1 (.tuple (u :: w :: r).toArray) ∧ Jobs (gc h h1 (.tuple (u :: w :: r).toArray)) u js ∧ Ints (gc h h1 (.tuple (u :: w :: r).toArray)) w xs :=
  ⟨pre_gcU H.pre, Sees.gcU (H.sees 0 rfl) fun g => plainT (r := w :: r) g, Sees.gcU (H.sees 1 rfl) fun g => plain2T (r := r) g⟩
theorem DrawIsRuledOrder_run {h : Hp} {vc : Value} (B : By h vc) : RunsC P G n_spec_DrawIsRuledOrder [vc] h fun v h' => h <+: h' ∧ ∃ (js : List Job) (xs : List Int) (o : Int) (u w : Value), v = .tuple #[u, w, .int .i64 o] ∧ js.length ≤ 9 ∧ xs.length ≤ 10 ∧ Jobs h' u js ∧ Ints h' w xs := by
  refine hideC fun K hK => enter_run e_spec_DrawIsRuledOrder (by simp) ?_
  have C0 : Cur h (h ++ [some ⟨[vc, .int .i64 0, .int .u64 0], 0, false⟩]) h.length vc 0 [] := ⟨0, 0, by omega, by omega, (Holds.start (h := h)).alloc _⟩
  obtain ⟨bs, Sb, hb, hbl⟩ := B
  have Bs : By h vc := ⟨bs, Sb, hb, hbl⟩
  obtain ⟨ob, cb, rfl⟩ := Sb.shapeT
  simp -implicitDefEqProofs
  refine CL_post (ruled3_run Bs C0 (by omega)) fun v h1 ⟨u, o, js, ev, hl, C1⟩ => ?_
  subst ev
  obtain ⟨ua, uc, rfl⟩ : ∃ a c, u = .slice a js.length c := C1.seesJ.shapeT
  simp -implicitDefEqProofs
  refine CL_post (order_run Bs C1 (by omega) (N := js.length) (by omega)) fun w h2 ⟨xs, hl2, C2⟩ => ?_
  obtain ⟨wa, wc, rfl⟩ : ∃ a c, w = .slice a xs.length c := C2.seesI.shapeT
  have fin : ∀ {w : Value} {ys : List Int} {h3 : Hp} {m : Nat}, ys.length ≤ 10 → Cur h h3 h.length (.slice ob bs.length cb) m (([] ++ [.own (.slice ua js.length uc) 4 (js.map encJ)]) ++ [.own w 1 (ys.map encI)]) → K (.tuple #[.slice ua js.length uc, w, .int .i64 o]) (gc h h3 (.tuple #[.slice ua js.length uc, w, .int .i64 o])) := fun {w ys h3 m} hy C3 => by
    obtain ⟨a, s, _, _, H⟩ := C3
    have H2 : Holds h h3 [.own (.slice ua js.length uc) 4 (js.map encJ), .own w 1 (ys.map encI)] := H.tail
    have := draw_JX (r := [.int .i64 o]) H2
    exact onK hK ⟨this.1, js, ys, o, _, _, rfl, hl, hy, this.2⟩
  have rr := l3Ruled_run (o := o) C2.weak.seesJ (by omega)
  cases c1 : ruOk js o
  · rw [c1] at rr
    simp -implicitDefEqProofs [CL_ret rr]
    exact fin (by omega) C2
  rw [c1] at rr
  obtain ⟨hn, hg, _⟩ := ruOk_of c1
  simp -implicitDefEqProofs [CL_ret rr]
  refine CL_post (one_run Bs C2 (by omega) (k := 2) (by omega)) fun v h3 ⟨b, ev, C3⟩ => ?_
  subst ev
  cases b
  · simp -implicitDefEqProofs
    exact fin (by omega) C3
  simp -implicitDefEqProofs
  refine CL_post (l3Order_run (o := o) C3.weak.seesJ hg hn) fun w4 h4 ⟨hp4, ho4⟩ => ?_
  have C4 := (C3.join ((Holds.start (h := h3)).call hp4 ho4)).swapW
  have hyl : (ruF o js (upTo js.length)).length = js.length := by
    have : (ruF o js (upTo js.length)).Perm (upTo js.length) := by have := @ruF_perm o js (upTo js.length) []; simpa [ruF] using this
    rw [this.length_eq, upTo_len]
  generalize ruF o js (upTo js.length) = ys at *
  obtain ⟨ya, yc, rfl⟩ : ∃ a c, w4 = .slice a ys.length c := C4.seesI.shapeT
  by_cases c2 : 1 < ys.length
  · have c2' : (1 : Int) < ys.length := by omega
    simp -implicitDefEqProofs [c2, c2']
    refine CL_post (one_run Bs C4 (by omega) (k := 2) (by omega)) fun v h5 ⟨b, ev, C5⟩ => ?_
    subst ev
    cases b
    · simp -implicitDefEqProofs
      exact fin (by omega) C5
    · have w1 : IntKind.i64.wrap ((ys.length : Int) - 1) = (ys.length : Int) - 1 := by rw [wrap_ok] <;> omega
      simp -implicitDefEqProofs [w1]
      refine CL_post (pick_run Bs C5 (by omega) (k := (ys.length : Int) - 1) (by omega)) fun v h6 ⟨x, ev, x0, _, x1, C6⟩ => ?_
      subst ev
      obtain ⟨k, rfl⟩ : ∃ k : Nat, x = k := ⟨x.toNat, by omega⟩
      have hk : k + 1 < ys.length := by have := x1 (by omega); omega
      simp -implicitDefEqProofs
      refine CL_post (l2Swap_run C6.seesI (by omega) hk) fun w7 h7 ⟨hp7, ho7⟩ => ?_
      have C7 := (C6.join ((Holds.start (h := h6)).call hp7 ho7)).swapW
      simp -implicitDefEqProofs
      exact fin (by rw [swp_len]; omega) C7
  · have c2' : ¬ (1 : Int) < ys.length := by omega
    simp -implicitDefEqProofs [c2, c2']
    exact fin (by omega) C4
theorem gc_JX {h h1 : Hp} {u w : Value} {r : List Value} {js : List Job} {xs : List Int} (hp : h <+: h1) (J : Jobs h1 u js) (X : Ints h1 w xs) : h <+: gc h h1 (.tuple (u :: w :: r).toArray) ∧ Jobs (gc h h1 (.tuple (u :: w :: r).toArray)) u js ∧ Ints (gc h h1 (.tuple (u :: w :: r).toArray)) w xs :=
  ⟨pre_gcU hp, Sees.gcU J fun g => plainT (r := w :: r) g, Sees.gcU X fun g => plain2T (r := r) g⟩
end Go.Pm.PP

/- FnPairLoss in the small machine. -/
set_option linter.unusedVariables false
set_option linter.unusedSimpArgs false
set_option maxRecDepth 4000
set_option maxHeartbeats 16000000
namespace Go.Pm.PP
open Go.Pm Go.Proofs Go.Pm.PE
/-- A ruled order of all jobs. -/
def rulL (o : Int) (js : List Job) : List Int := sortB (aheadR o js) (upTo js.length)
theorem rulL_perm {o : Int} {js : List Job} : (rulL o js).Perm (upTo js.length) := sortB_perm
theorem rulL_ord {o : Int} {js : List Job} : Ord js.length (rulL o js) := by
  have p := @rulL_perm o js
  exact ⟨by rw [p.length_eq, upTo_len], fun x hx => mem_upTo.1 (p.mem_iff.1 hx), p.nodup_iff.2 (upTo_nodup _)⟩
theorem rulL_sorted {o : Int} {js : List Job} (hg : goodL js = true) : (rulL o js).Pairwise fun a b => gapX o js a b ≤ 0 := by
  have t := good_tm hg
  refine List.Pairwise.imp_of_mem (fun {a b} ha hb h => ?_) (sortB_weak (ah := aheadR o js) (l := upTo js.length) ahead_weak)
  have ia := rulL_ord.inn a ha
  have ib := rulL_ord.inn b hb
  rw [ahead_eq t ib ia, decide_eq_false_iff_not] at h
  have := @gap_swap o js a b
  omega
/-- What an order loses. -/
theorem loss_best {js : List Job} (hok : plOk js = true) {o : Int} (ho : o = 2 ∨ o = 3) {xs : List Int} (ox : Ord js.length xs) : valX o js xs - bestV o js = invS o js xs ∧ bestV o js = valX o js (rulL o js) := by
  obtain ⟨hn, hg, _⟩ := plOk_of hok
  have p := plOk_pl hok
  have h1 : ¬ o = 1 := by omega
  have h4 : ¬ o = 4 := by omega
  have key : ∀ ys, Ord js.length ys → valX o js ys = sumGo o js 0 ys := fun ys oy => by
    unfold valX; exact val_sum h1 h4 (ord_prm oy)
  have l : ∀ ys, Ord js.length ys → valX o js ys - valX o js (rulL o js) = invS o js ys := fun ys oy => by
    rw [key ys oy, key _ rulL_ord]
    exact loss_eq p ho ((ord_perm oy).trans rulL_perm.symm) (rulL_sorted hg)
  obtain ⟨f1, f2, f3, f4⟩ := best_facts (f := valX o js) (n := js.length) hn
  have e : bestV o js = (bestR (valX o js) js.length).v := rfl
  have g1 := f4 _ (rulL_ord (o := o))
  have g2 := l _ f3
  have g3 := invS_nonneg (o := o) (js := js) (l := (bestR (valX o js) js.length).o)
  have eb : bestV o js = valX o js (rulL o js) := by rw [e]; omega
  refine ⟨?_, eb⟩
  rw [eb]
  exact l xs ox
theorem gain_gap {js : List Job} (hok : plOk js = true) {o : Int} (ho : o = 2 ∨ o = 3) {xs : List Int} (ox : Ord js.length xs) {i : Nat} (hi : i + 1 < xs.length) : gn (valX o js) xs i = gapX o js (gE xs i) (gE xs (i + 1)) := by
  have p := plOk_pl hok
  obtain ⟨A, x, y, C, e1, e2, e3⟩ := swp_split hi
  have os := swp_ord ox hi
  unfold gn valX
  rw [val_sum (by omega) (by omega) (ord_prm ox), val_sum (by omega) (by omega) (ord_prm os), e3]
  have gx : gE xs i = x := by unfold gE; rw [e1, List.getElem?_append_right (by omega), e2, Nat.sub_self]; rfl
  have gy : gE xs (i + 1) = y := by unfold gE; rw [e1, List.getElem?_append_right (by omega), e2, Nat.add_sub_cancel_left]; rfl
  rw [gx, gy, e1]
  exact sum_swap p ho
end Go.Pm.PP

/- Ruled orders, by both. -/
set_option linter.unusedVariables false
set_option linter.unusedSimpArgs false
set_option maxRecDepth 4000
set_option maxHeartbeats 8000000
namespace Go.Pm.PP
open Go.Pm Go.Proofs Go.Pm.PE
section
variable {h : Hp} {vj v u : Value} {js : List Job} {xs ys : List Int} {o : Int}
theorem vInts_run (hv : Ints h v xs) (hu : Ints h u xs) (hx : xs.length ≤ 2 ^ 40) : Ret P G n_laws_vInts [v, u] h (.bool true) h := by
  refine enter_run e_laws_vInts (by simp) ?_
  have hvs := hv
  have hus := hu
  obtain ⟨oa, c, rfl⟩ := hv.shapeT
  obtain ⟨ob, c', rfl⟩ := hu.shapeT
  simp -implicitDefEqProofs
  refine R_loopO (fun m s h' => ∃ i : Nat, i + m = xs.length ∧ s = [(0, .slice oa xs.length c), (1, .slice ob xs.length c'), (5, .int .i64 i)] ∧ h' = h) (fun I hI m s h' => ?_) (n := xs.length) ⟨0, Nat.zero_add _, by simp, rfl⟩
  rintro ⟨i, hi, rfl, rfl⟩
  by_cases hlt : i < xs.length
  · obtain ⟨x, hx', _⟩ := drop_at hlt
    simp -implicitDefEqProofs [-indexAddrP_some, hlt, load_I hvs hx', load_I hus hx', winc hlt hx]
    exact ⟨m - 1, by omega, on hI ⟨i + 1, by omega, rfl, rfl⟩⟩
  · simp -implicitDefEqProofs [hlt]
theorem specIsPlain_run (hj : Jobs h vj js) (hn : js.length ≤ 2 ^ 40) : Ret P G n_spec_IsPlain [vj] h (.bool (plOk js)) h := by
  refine enter_run e_spec_IsPlain (by simp) ?_
  have r1 := good_run hj hn
  have r2 := l3Plain_run hj hn
  obtain ⟨oa, c, rfl⟩ := hj.shapeT
  cases c1 : jOk js
  · simp -implicitDefEqProofs [CL_ret r1, c1, plOk]
  · simp -implicitDefEqProofs [CL_ret r1, c1, plOk, CL_ret r2]
theorem ruledOrder_1_run {a b : Int} {r q : Nat} (J : Jobs h vj js) (hg : goodL js = true) (hb : h[r]? = some (some ⟨[vj], 0, false⟩)) (hq : h[q]? = some (some ⟨[.int .i64 o], 0, false⟩)) (ha : 0 ≤ a ∧ a < js.length) (hb' : 0 ≤ b ∧ b < js.length) :
    Ret P G n_impl_ruledOrder_1 [.int .i64 a, .int .i64 b, .pointer (some ⟨r, 0, some 1⟩), .pointer (some ⟨q, 0, some 1⟩)] h (.bool (aheadR o js a b)) h := by
  refine enter_run e_impl_ruledOrder_1 (by simp) ?_
  have Js := J
  obtain ⟨oj, cj, rfl⟩ := J.shapeT
  have lb := load_pre (n := 1) List.prefix_rfl hb rfl
  have lq := load_pre (n := 1) List.prefix_rfl hq rfl
  have rd := fun {hh : Hp} => difference_run (h := hh) (o := o) (jobOk_jA hg ha) (jobOk_jA hg hb')
  rw [ahead_eq (good_tm hg) ha hb']
  have e : gapJ o (jA js a) (jA js b) = gapX o js a b := rfl
  rw [e] at rd
  simp -implicitDefEqProofs [-indexAddrP_some, lb, lq, load_JX Js ha, load_JX Js hb', CL_ret rd, CH_at rd]
theorem ruledOrder_run (J : Jobs h vj js) (hg : goodL js = true) (hn : js.length ≤ 8) : RunsC P G n_impl_ruledOrder [vj, .int .i64 o] h fun w h' => h <+: h' ∧ Own h.length h' w 1 ((rulL o js).map encI) := by
  refine hideC fun K hK => enter_run e_impl_ruledOrder (by simp) ?_
  have Js := J
  obtain ⟨oj, cj, rfl⟩ := J.shapeT
  have H0 := ((Holds.start (h := h)).alloc [.slice oj js.length cj]).alloc [.int .i64 o]
  simp only [List.append_assoc, List.cons_append, List.nil_append, List.length_append, List.length_cons, List.length_nil, Nat.zero_add] at H0
  simp -implicitDefEqProofs
  refine CL_post (numbersTo_run (by omega)) fun v1 h1 ⟨hp1, ho1⟩ => ?_
  have H1 := H0.ext hp1
  simp -implicitDefEqProofs
  refine CL_post (sortedBy_run (ah := aheadR o js) ho1.sees (by rw [upTo_len]; omega) fun h2 hp2 a b ha hb => ?_) fun v2 h2 ⟨hp2, ho2⟩ => ?_
  · have H2 := H1.ext hp2
    exact ruledOrder_1_run (Js.pre H2.pre) hg (H2.box 0 rfl) (H2.box 1 rfl) (upTo_in a ha) (upTo_in b hb)
  · simp -implicitDefEqProofs
    have H := (Holds.start (h := h)).call (H1.pre.trans hp2) (ho2.low H1.pre.length_le)
    exact onK hK (H.ret 0 rfl)
def ruleF (o : Int) (js : List Job) : List Int := if ruOk js o = true then rulL o js else []
theorem implRuledOrder_run (J : Jobs h vj js) (hl : js.length ≤ 2 ^ 40) : RunsC P G n_impl_RuledOrder [vj, .int .i64 o] h fun w h' => h <+: h' ∧ ∃ d, w = .tuple #[d, .bool (ruOk js o)] ∧ Ints h' d (ruleF o js) := by
  refine hideC fun K hK => enter_run e_impl_RuledOrder (by simp) ?_
  have r1 := isRuled_run (o := o) J hl
  have Js := J
  obtain ⟨oj, cj, rfl⟩ := J.shapeT
  cases c1 : ruOk js o
  · rw [ruleF, c1] at hK
    simp -implicitDefEqProofs [CL_ret r1, c1]
    exact onK hK ⟨List.prefix_rfl, _, rfl, ⟨by simp, none, 0, rfl, .inl ⟨rfl, rfl, rfl⟩⟩⟩
  · obtain ⟨hn, hg, _⟩ := ruOk_of c1
    rw [ruleF, c1, if_pos rfl] at hK
    simp -implicitDefEqProofs [CL_ret r1, c1]
    refine CL_post (ruledOrder_run (o := o) Js hg hn) fun v1 h1 ⟨hp1, ho1⟩ => ?_
    simp -implicitDefEqProofs
    exact onK hK ⟨pre_gcU hp1, _, rfl, Sees.gcU ho1.sees fun g => plainT (r := [_]) g⟩
theorem specRuledOrder_run (J : Jobs h vj js) (hl : js.length ≤ 2 ^ 40) : RunsC P G n_spec_RuledOrder [vj, .int .i64 o] h fun w h' => h <+: h' ∧ ∃ d, w = .tuple #[d, .bool (ruOk js o)] ∧ Ints h' d (ruleF o js) := by
  refine hideC fun K hK => enter_run e_spec_RuledOrder (by simp) ?_
  have r1 := l3Ruled_run (o := o) J hl
  have Js := J
  obtain ⟨oj, cj, rfl⟩ := J.shapeT
  cases c1 : ruOk js o
  · rw [ruleF, c1] at hK
    simp -implicitDefEqProofs [CL_ret r1, c1]
    exact onK hK ⟨List.prefix_rfl, _, rfl, ⟨by simp, none, 0, rfl, .inl ⟨rfl, rfl, rfl⟩⟩⟩
  · obtain ⟨hn, hg, _⟩ := ruOk_of c1
    rw [ruleF, c1, if_pos rfl] at hK
    simp -implicitDefEqProofs [CL_ret r1, c1]
    refine CL_post (l3Order_run (o := o) Js hg hn) fun v1 h1 ⟨hp1, ho1⟩ => ?_
    rw [ruled_eq (good_tm hg) up_asc' upTo_in] at ho1
    simp -implicitDefEqProofs
    exact onK hK ⟨pre_gcU hp1, _, rfl, Sees.gcU ho1.sees fun g => plainT (r := [_]) g⟩
theorem l3Wrong_run (J : Jobs h vj js) (X : Ints h v xs) (hg : goodL js = true) (hn : js.length ≤ 8) (ox : Ord js.length xs) : ∃ w : Int, decide (w < 0) = ruledB o js xs ∧ Ret P G n_spec_l3Wrong [vj, v, .int .i64 o] h (.int .i64 w) h := by
  have hxl := ox.len
  have hnext := @ruled_next o js xs
  by_cases hr : ∃ i x y, xs[i]? = some x ∧ xs[i + 1]? = some y ∧ 0 < gapX o js x y
  · have hex : ∃ i, ∃ x y, xs[i]? = some x ∧ xs[i + 1]? = some y ∧ 0 < gapX o js x y := hr
    obtain ⟨i0, ⟨x0, y0, hx0, hy0, g0⟩, hmin⟩ : ∃ i, (∃ x y, xs[i]? = some x ∧ xs[i + 1]? = some y ∧ 0 < gapX o js x y) ∧ ∀ j, j < i → ¬ ∃ x y, xs[j]? = some x ∧ xs[j + 1]? = some y ∧ 0 < gapX o js x y := by
      obtain ⟨i, hi⟩ := hex
      induction i using Nat.strongRecOn with
      | ind i ih =>
        by_cases hj : ∃ j, j < i ∧ ∃ x y, xs[j]? = some x ∧ xs[j + 1]? = some y ∧ 0 < gapX o js x y
        · obtain ⟨j, h1, h2⟩ := hj
          exact ih j h1 h2
        · exact ⟨i, hi, fun j h1 h2 => hj ⟨j, h1, h2⟩⟩
    refine ⟨i0, ?_, ?_⟩
    · have : ruledB o js xs = false := by
        cases c : ruledB o js xs with
        | false => rfl
        | true => have := hnext.1 c i0 x0 y0 hx0 hy0; omega
      rw [this, decide_eq_false_iff_not]; omega
    · refine enter_run e_spec_l3Wrong (by simp) ?_
      have Js := J
      have Xs := X
      obtain ⟨oj, cj, rfl⟩ := J.shapeT
      obtain ⟨oa, ca, rfl⟩ := X.shapeT
      have hi1 := (List.getElem?_eq_some_iff.1 hy0).1
      simp -implicitDefEqProofs
      refine R_loopO (fun m s h' => ∃ i : Nat, i + m = i0 ∧ s = [(0, .slice oj js.length cj), (1, .slice oa xs.length ca), (2, .int .i64 o), (7, .int .i64 i)] ∧ h' = h) (fun I hI m s h' => ?_) (n := i0) ⟨0, Nat.zero_add _, by simp, rfl⟩
      rintro ⟨i, hi, rfl, rfl⟩
      have hlt : i + 1 < xs.length := by omega
      have hlt' : (i : Int) + 1 < xs.length := by omega
      obtain ⟨x, hx, _⟩ := drop_at (show i < xs.length by omega)
      obtain ⟨y, hy, _⟩ := drop_at hlt
      have lx := load_I Xs hx
      have ly := load_I Xs hy
      rw [show ((i + 1 : Nat) : Int) = (i : Int) + 1 by omega] at ly
      have w1 : IntKind.i64.wrap ((i : Int) + 1) = (i : Int) + 1 := by rw [wrap_ok] <;> omega
      have rg := l3Gap_run (o := o) Js hg (ox.inn x (List.mem_of_getElem? hx)) (ox.inn y (List.mem_of_getElem? hy))
      by_cases c : i < i0
      · have g : ¬ 0 < gapX o js x y := fun g => hmin i c ⟨x, y, hx, hy, g⟩
        simp -implicitDefEqProofs [-indexAddrP_some, w1, hlt', lx, ly, CL_ret rg, CH_at rg, g]
        exact ⟨m - 1, by omega, on hI ⟨i + 1, by omega, rfl, rfl⟩⟩
      · have : i = i0 := by omega
        subst this
        rw [hx0] at hx; cases hx
        rw [hy0] at hy; cases hy
        simp -implicitDefEqProofs [-indexAddrP_some, w1, hlt', lx, ly, CL_ret rg, CH_at rg, g0]
  · have hall : ∀ i x y, xs[i]? = some x → xs[i + 1]? = some y → ¬ 0 < gapX o js x y := fun i x y h1 h2 h3 => hr ⟨i, x, y, h1, h2, h3⟩
    refine ⟨-1, ?_, ?_⟩
    · have : ruledB o js xs = true := hnext.2 fun i x y h1 h2 => by have := hall i x y h1 h2; omega
      rw [this]; rfl
    · refine enter_run e_spec_l3Wrong (by simp) ?_
      have Js := J
      have Xs := X
      obtain ⟨oj, cj, rfl⟩ := J.shapeT
      obtain ⟨oa, ca, rfl⟩ := X.shapeT
      simp -implicitDefEqProofs
      refine R_loopO (fun m s h' => ∃ i : Nat, (i + 1 + m = xs.length ∨ (xs.length ≤ i + 1 ∧ m = 0)) ∧ i ≤ xs.length ∧ s = [(0, .slice oj js.length cj), (1, .slice oa xs.length ca), (2, .int .i64 o), (7, .int .i64 i)] ∧ h' = h) (fun I hI m s h' => ?_) (n := xs.length - 1) ⟨0, by omega, by omega, by simp, rfl⟩
      rintro ⟨i, hi, hi2, rfl, rfl⟩
      have w1 : IntKind.i64.wrap ((i : Int) + 1) = (i : Int) + 1 := by rw [wrap_ok] <;> omega
      by_cases hlt : i + 1 < xs.length
      · have hlt' : (i : Int) + 1 < xs.length := by omega
        obtain ⟨x, hx, _⟩ := drop_at (show i < xs.length by omega)
        obtain ⟨y, hy, _⟩ := drop_at hlt
        have lx := load_I Xs hx
        have ly := load_I Xs hy
        rw [show ((i + 1 : Nat) : Int) = (i : Int) + 1 by omega] at ly
        have rg := l3Gap_run (o := o) Js hg (ox.inn x (List.mem_of_getElem? hx)) (ox.inn y (List.mem_of_getElem? hy))
        have g := hall i x y hx hy
        simp -implicitDefEqProofs [-indexAddrP_some, w1, hlt', lx, ly, CL_ret rg, CH_at rg, g]
        exact ⟨m - 1, by omega, on hI ⟨i + 1, by omega, by omega, rfl, rfl⟩⟩
      · have hlt' : ¬ (i : Int) + 1 < xs.length := by omega
        simp -implicitDefEqProofs [w1, hlt']
theorem specIsRuledOrder_run (J : Jobs h vj js) (X : Ints h v xs) (hl : js.length ≤ 2 ^ 40) (hx : xs.length ≤ 2 ^ 40) : Ret P G n_spec_IsRuledOrder [vj, v, .int .i64 o] h (.tuple #[.bool (ruAll js xs o && ruledB o js xs), .bool (ruAll js xs o)]) h := by
  refine enter_run e_spec_IsRuledOrder (by simp) ?_
  have r1 := l3Both_run (o := o) J X hl hx
  have Js := J
  have Xs := X
  obtain ⟨oj, cj, rfl⟩ := J.shapeT
  obtain ⟨oa, ca, rfl⟩ := X.shapeT
  cases c1 : ruAll js xs o
  · simp -implicitDefEqProofs [CL_ret r1, c1]
  · obtain ⟨g1, ox⟩ := ruAll_of c1
    obtain ⟨hn, hg, _⟩ := ruOk_of g1
    obtain ⟨w, e, rw'⟩ := l3Wrong_run (o := o) Js Xs hg hn ox
    rw [← e]
    simp -implicitDefEqProofs [CL_ret r1, c1, CL_ret rw']
/-! ### rule differences -/
def rdOk (js : List Job) (o x y : Int) : Bool := ruOk js o && inB x 0 (w64 ((js.length : Int) - 1)) && inB y 0 (w64 ((js.length : Int) - 1))
def rdV (js : List Job) (o x y : Int) : Int := if rdOk js o x y = true then gapX o js x y else 0
theorem rdOk_of {js : List Job} {o x y : Int} (h : rdOk js o x y = true) : ruOk js o = true ∧ (0 ≤ x ∧ x < js.length) ∧ 0 ≤ y ∧ y < js.length := by
  simp only [rdOk, Bool.and_eq_true] at h
  have hn := (ruOk_of h.1.1).1
  have wn : w64 ((js.length : Int) - 1) = (js.length : Int) - 1 := by unfold w64; rw [wrap_ok] <;> omega
  rw [wn] at h
  simp only [inB, Bool.and_eq_true, decide_eq_true_eq] at h
  exact ⟨h.1.1, by omega, by omega⟩
theorem implRuleDiff_run {x y : Int} (J : Jobs h vj js) (hl : js.length ≤ 2 ^ 40) : Ret P G n_impl_RuleDifference [vj, .int .i64 o, .int .i64 x, .int .i64 y] h (.tuple #[.int .i64 (rdV js o x y), .bool (rdOk js o x y)]) h := by
  refine enter_run e_impl_RuleDifference (by simp) ?_
  have r1 := isRuled_run (o := o) J hl
  have Js := J
  obtain ⟨oj, cj, rfl⟩ := J.shapeT
  cases c1 : ruOk js o
  · simp -implicitDefEqProofs [CL_ret r1, c1, rdV, rdOk]
  obtain ⟨hn, hg, _⟩ := ruOk_of c1
  cases c2 : inB x 0 (w64 ((js.length : Int) - 1))
  · simp -implicitDefEqProofs [CL_ret r1, c1, rdV, rdOk, CL_ret isNumber_run, c2]
  cases c3 : inB y 0 (w64 ((js.length : Int) - 1))
  · simp -implicitDefEqProofs [CL_ret r1, c1, rdV, rdOk, CL_ret isNumber_run, c2, c3]
  have hok : rdOk js o x y = true := by rw [rdOk, c1, c2, c3]; rfl
  obtain ⟨_, hx, hy⟩ := rdOk_of hok
  have jx := load_JX Js hx
  have jy := load_JX Js hy
  have rd := fun {hh : Hp} => difference_run (h := hh) (o := o) (jobOk_jA hg hx) (jobOk_jA hg hy)
  have eg : gapJ o (jA js x) (jA js y) = gapX o js x y := rfl
  rw [eg] at rd
  rw [rdV, if_pos hok, hok]
  simp -implicitDefEqProofs [-indexAddrP_some, CL_ret r1, c1, CL_ret isNumber_run, c2, c3, jx, jy, CL_ret rd, CH_at rd]
theorem l3Job_run {x : Int} (J : Jobs h vj js) (hn : js.length ≤ 8) : Ret P G n_spec_l3Job [vj, .int .i64 x] h (.bool (inB x 0 (w64 ((js.length : Int) - 1)))) h := by
  refine enter_run e_spec_l3Job (by simp) ?_
  obtain ⟨oj, cj, rfl⟩ := J.shapeT
  simp -implicitDefEqProofs [CL_ret l1In_run, w64]
theorem specRuleDiff_run {x y : Int} (J : Jobs h vj js) (hl : js.length ≤ 2 ^ 40) : Ret P G n_spec_RuleDifference [vj, .int .i64 o, .int .i64 x, .int .i64 y] h (.tuple #[.int .i64 (rdV js o x y), .bool (rdOk js o x y)]) h := by
  refine enter_run e_spec_RuleDifference (by simp) ?_
  have r1 := l3Ruled_run (o := o) J hl
  have Js := J
  obtain ⟨oj, cj, rfl⟩ := J.shapeT
  cases c1 : ruOk js o
  · simp -implicitDefEqProofs [CL_ret r1, c1, rdV, rdOk]
  obtain ⟨hn, hg, _⟩ := ruOk_of c1
  have rx := l3Job_run (x := x) Js hn
  have ry := l3Job_run (x := y) Js hn
  cases c2 : inB x 0 (w64 ((js.length : Int) - 1))
  · simp -implicitDefEqProofs [CL_ret r1, c1, rdV, rdOk, CL_ret rx, c2]
  cases c3 : inB y 0 (w64 ((js.length : Int) - 1))
  · simp -implicitDefEqProofs [CL_ret r1, c1, rdV, rdOk, CL_ret rx, CL_ret ry, c2, c3]
  have hok : rdOk js o x y = true := by rw [rdOk, c1, c2, c3]; rfl
  obtain ⟨_, hx, hy⟩ := rdOk_of hok
  have rd := l3Gap_run (o := o) Js hg hx hy
  rw [rdV, if_pos hok, hok]
  simp -implicitDefEqProofs [CL_ret r1, c1, CL_ret rx, CL_ret ry, c2, c3, CL_ret rd]
theorem rd_swap {js : List Job} {o x y : Int} : rdOk js o y x = rdOk js o x y ∧ rdV js o y x = - rdV js o x y := by
  have h1 : rdOk js o y x = rdOk js o x y := by unfold rdOk; rw [Bool.and_assoc, Bool.and_comm (inB y _ _), ← Bool.and_assoc]
  refine ⟨h1, ?_⟩
  unfold rdV
  rw [h1]
  split
  · exact gap_swap
  · rfl
end
/-! ### ruled orders are best -/
theorem ruled_best {js : List Job} {o : Int} (hok : ruOk js o = true) {xs : List Int} (ox : Ord js.length xs) : (ruledB o js xs = true → valX o js xs = bestV o js) ∧ (o = 2 ∨ o = 3 → (ruledB o js xs = (valX o js xs == bestV o js))) := by
  obtain ⟨hn, hg, ho, hpl⟩ := ruOk_of hok
  have t := good_tm hg
  have hiff := ruled_iff (o := o) t ox.inn
  obtain ⟨f1, f2, f3, f4⟩ := best_facts (f := valX o js) (n := js.length) hn
  have e : bestV o js = (bestR (valX o js) js.length).v := rfl
  have main : ∀ ys, Ord js.length ys → (xs.Pairwise fun a b => gapX o js a b ≤ 0) → valX o js xs ≤ valX o js ys := fun ys oy hs => by
    have hp := (ord_perm oy).trans (ord_perm ox).symm
    rcases (show o = 1 ∨ o = 2 ∨ o = 3 ∨ o = 4 by omega) with rfl | rfl | rfl | rfl
    · have ht : ∀ x, 0 ≤ (jA js x).t := fun x => by
        rcases @jA_in js x with g | g
        · have := job_of (List.all_eq_true.1 hg _ g); omega
        · rw [g]; exact Int.le_refl _
      unfold valX
      rw [val_end ht (ord_prm ox), val_end ht (ord_prm oy)]
      exact end_best ht (hs.imp fun h => by simp only [gapX, gapJ] at h; simp at h; omega) hp
    · have hp1 : plOk js = true := by rcases hpl with g | g; omega; exact g
      unfold valX
      rw [val_sum (by omega) (by omega) (ord_prm ox), val_sum (by omega) (by omega) (ord_prm oy)]
      exact sum_best (plOk_pl hp1) (.inl rfl) hs hp
    · have hp1 : plOk js = true := by rcases hpl with g | g; omega; exact g
      unfold valX
      rw [val_sum (by omega) (by omega) (ord_prm ox), val_sum (by omega) (by omega) (ord_prm oy)]
      exact sum_best (plOk_pl hp1) (.inr rfl) hs hp
    · have hp1 : plOk js = true := by rcases hpl with g | g; omega; exact g
      rcases Nat.eq_zero_or_pos js.length with h0 | h0
      · have e1 : xs = [] := List.eq_nil_of_length_eq_zero (by rw [ox.len, h0])
        have e2 : ys = [] := List.eq_nil_of_length_eq_zero (by rw [oy.len, h0])
        rw [e1, e2]; exact Int.le_refl _
      · rw [valX_lat hp1 ox h0, valX_lat hp1 oy h0]
        exact lat_best (plOk_pl hp1) (hs.imp fun h => by simp only [gapX, gapJ] at h; simp at h; omega) hp
  have one : ruledB o js xs = true → valX o js xs = bestV o js := fun hr => by
    have h1 := main _ f3 (hiff.1 hr)
    have h2 := f4 _ ox
    rw [e]; omega
  refine ⟨one, fun h23 => ?_⟩
  have hp1 : plOk js = true := by rcases hpl with g | g; omega; exact g
  have lb := (loss_best hp1 h23 ox).1
  rw [Bool.eq_iff_iff, beq_iff_eq]
  refine ⟨one, fun hv => hiff.2 ?_⟩
  have h0 : invS o js xs = 0 := by omega
  rw [← inv_nil]
  have key : ∀ l : List Int, invS o js l = 0 → invL o js l = [] := by
    intro l
    induction l with
    | nil => intro _; rfl
    | cons x r ih =>
      intro h
      have hR : ∀ {r : List Int}, 0 ≤ invR o js x r ∧ (invR o js x r = 0 → invL1 o js x r = []) := by
        intro r
        induction r with
        | nil => exact ⟨Int.le_refl _, fun _ => rfl⟩
        | cons y r ih2 =>
          rw [invR_cons]
          refine ⟨by have := ih2.1; omega, fun g => ?_⟩
          have h1 := ih2.1
          have h2 : gapX o js x y ≤ 0 := by omega
          have h3 := ih2.2 (by omega)
          unfold invL1 at h3 ⊢
          rw [List.filter_cons, if_neg (by simp; omega)]
          exact h3
      rw [invS] at h
      have h1 := (hR (r := r)).1
      have h2 := invS_nonneg (o := o) (js := js) (l := r)
      rw [invL, (hR (r := r)).2 (by omega), ih (by omega)]; rfl
  exact key xs h0
end Go.Pm.PP

/- FnRuledOrders in the small machine. -/
set_option linter.unusedVariables false
set_option linter.unusedSimpArgs false
set_option maxRecDepth 4000
set_option maxHeartbeats 16000000
namespace Go.Pm.PP
open Go.Pm Go.Proofs Go.Pm.PE
theorem gc_J {h h1 : Hp} {u : Value} {js : List Job} (hp : h <+: h1) (J : Jobs h1 u js) : h <+: gc h h1 u ∧ Jobs (gc h h1 u) u js :=
  ⟨pre_gcU hp, Sees.gcU J fun g => by
    obtain ⟨_, oa, c, e, h3⟩ := J
    rcases h3 with ⟨e1, e2, e3⟩ | ⟨r, o, x, e1, _⟩
    · rw [e, e1, e3, e2]; rfl
    · rw [e, e1] at g; cases g⟩
theorem DrawIsPlain_run {h : Hp} {vc : Value} (B : By h vc) : RunsC P G n_spec_DrawIsPlain [vc] h fun v h' => h <+: h' ∧ ∃ (js : List Job), js.length ≤ 9 ∧ Jobs h' v js := by
  refine hideC fun K hK => enter_run e_spec_DrawIsPlain (by simp) ?_
  have C0 : Cur h (h ++ [some ⟨[vc, .int .i64 0, .int .u64 0], 0, false⟩]) h.length vc 0 [] := ⟨0, 0, by omega, by omega, (Holds.start (h := h)).alloc _⟩
  obtain ⟨bs, Sb, hb, hbl⟩ := B
  have Bs : By h vc := ⟨bs, Sb, hb, hbl⟩
  obtain ⟨ob, cb, rfl⟩ := Sb.shapeT
  have fin : ∀ {u : Value} {h3 : Hp} {m : Nat} {js : List Job}, js.length ≤ 9 → Cur h h3 h.length (.slice ob bs.length cb) m ([] ++ [.own u 4 (js.map encJ)]) → K u (gc h h3 u) := fun {u h3 m js} hl C3 => by
    have := gc_J C3.pre C3.seesJ
    exact onK hK ⟨this.1, js, hl, this.2⟩
  simp -implicitDefEqProofs
  refine CL_post (one_run Bs C0 (by omega) (k := 2) (by omega)) fun v h1 ⟨b, ev, C1⟩ => ?_
  subst ev
  cases b
  · simp -implicitDefEqProofs
    refine CL_post (plain3_run Bs C1 (by omega)) fun u h2 ⟨js, hl, C2⟩ => ?_
    obtain ⟨ua, uc, rfl⟩ : ∃ a c, u = .slice a js.length c := C2.seesJ.shapeT
    simp -implicitDefEqProofs
    exact fin hl C2
  · simp -implicitDefEqProofs
    refine CL_post (jobs_run Bs C1 (by omega)) fun u h2 ⟨js, hl, C2⟩ => ?_
    obtain ⟨ua, uc, rfl⟩ : ∃ a c, u = .slice a js.length c := C2.seesJ.shapeT
    simp -implicitDefEqProofs
    exact fin hl C2
theorem DrawRuleDifference_run {h : Hp} {vc : Value} (B : By h vc) : RunsC P G n_spec_DrawRuleDifference [vc] h fun v h' => h <+: h' ∧ ∃ (js : List Job) (o x y : Int) (u : Value), v = .tuple #[u, .int .i64 o, .int .i64 x, .int .i64 y] ∧ js.length ≤ 9 ∧ Jobs h' u js := by
  refine hideC fun K hK => enter_run e_spec_DrawRuleDifference (by simp) ?_
  have C0 : Cur h (h ++ [some ⟨[vc, .int .i64 0, .int .u64 0], 0, false⟩]) h.length vc 0 [] := ⟨0, 0, by omega, by omega, (Holds.start (h := h)).alloc _⟩
  obtain ⟨bs, Sb, hb, hbl⟩ := B
  have Bs : By h vc := ⟨bs, Sb, hb, hbl⟩
  obtain ⟨ob, cb, rfl⟩ := Sb.shapeT
  simp -implicitDefEqProofs
  refine CL_post (ruled3_run Bs C0 (by omega)) fun v h1 ⟨u, o, js, ev, hl, C1⟩ => ?_
  subst ev
  obtain ⟨ua, uc, rfl⟩ : ∃ a c, u = .slice a js.length c := C1.seesJ.shapeT
  have w1 : IntKind.i64.wrap ((js.length : Int) + 2) = (js.length : Int) + 2 := by rw [wrap_ok] <;> omega
  simp -implicitDefEqProofs [w1]
  refine CL_post (pick_run Bs C1 (by omega) (k := (js.length : Int) + 2) (by omega)) fun v h2 ⟨x, ev, _, _, _, C2⟩ => ?_
  subst ev
  simp -implicitDefEqProofs [CL_ret l1Most_run]
  refine CL_post (pick_run Bs C2 (by omega) (k := max 1 (js.length : Int)) (by omega)) fun v h3 ⟨y, ev, _, _, _, C3⟩ => ?_
  subst ev
  simp -implicitDefEqProofs
  refine onK hK ⟨pre_gcU C3.pre, js, o, _, y, _, rfl, hl, Sees.gcU C3.seesJ fun g => plainT (r := [_, _, _]) g⟩
theorem law_RuledOrders {h : Hp} {vc : Value} {bs : List Int} (Sb : Sees h vc 1 (bs.map encU)) (hb : ∀ b, b ∈ bs → 0 ≤ b ∧ b ≤ 255) : Ret P G n_laws_FnRuledOrders [vc] h (.bool true) h := by
  refine enter_run e_laws_FnRuledOrders (by simp) ?_
  have r0 := vBig_run Sb
  by_cases c0 : (65536 : Int) < bs.length
  · simp -implicitDefEqProofs [CL_ret r0, c0]
  have B : By h vc := ⟨bs, Sb, hb, by omega⟩
  have Sbs := Sb
  obtain ⟨ob, cb, rfl⟩ := Sb.shapeT
  simp -implicitDefEqProofs [CL_ret r0, c0]
  refine CL_post (DrawIsRuledOrder_run B) fun v h1 ⟨hp1, js, xs, o, u, w, ev, hjl, hxl, J, X⟩ => ?_
  subst ev
  have l1 : js.length ≤ 2 ^ 40 := by omega
  have l2 : xs.length ≤ 2 ^ 40 := by omega
  have Js := J
  have Xs := X
  obtain ⟨ja, jc, rfl⟩ := J.shapeT
  obtain ⟨xa, xc, rfl⟩ := X.shapeT
  have r1 := implIsRuledOrder_run (o := o) Js Xs l1 l2
  have r2 := specIsRuledOrder_run (o := o) Js Xs l1 l2
  simp -implicitDefEqProofs [CL_ret r1, CL_ret r2]
  refine CL_post (implRuledOrder_run (o := o) Js l1) fun v h2 ⟨hp2, d1, ev, D1⟩ => ?_
  subst ev
  simp -implicitDefEqProofs
  refine CL_post (specRuledOrder_run (o := o) (Js.pre hp2) l1) fun v h3 ⟨hp3, d2, ev, D2⟩ => ?_
  subst ev
  have p13 := hp1.trans (hp2.trans hp3)
  simp -implicitDefEqProofs
  refine CL_post (vCut_run (n := 1) (Sbs.pre p13) hb (by omega) (by omega)) fun w4 h4 ⟨hp4, B4⟩ => ?_
  simp -implicitDefEqProofs
  refine CL_post (DrawIsPlain_run B4) fun u5 h5 ⟨hp5, ps, hpl5, P5⟩ => ?_
  obtain ⟨pa, pc, rfl⟩ : ∃ a c, u5 = .slice a ps.length c := P5.shapeT
  have p15 := p13.trans (hp4.trans hp5)
  simp -implicitDefEqProofs
  refine CL_post (vCut_run (n := 2) (Sbs.pre p15) hb (by omega) (by omega)) fun w6 h6 ⟨hp6, B6⟩ => ?_
  simp -implicitDefEqProofs
  refine CL_post (DrawRuleDifference_run B6) fun v h7 ⟨hp7, ks, g, x, y, u7, ev, hkl, K7⟩ => ?_
  subst ev
  have hp37 := hp4.trans (hp5.trans (hp6.trans hp7))
  have hp07 := p13.trans hp37
  have l3 : ks.length ≤ 2 ^ 40 := by omega
  have s1 := implRuleDiff_run (o := g) (x := x) (y := y) K7 l3
  have s2 := specRuleDiff_run (o := g) (x := x) (y := y) K7 l3
  have s3 := implRuleDiff_run (o := g) (x := y) (y := x) K7 l3
  obtain ⟨sw1, sw2⟩ := @rd_swap ks g x y
  rw [sw1, sw2] at s3
  have hpn := (P5.pre (hp6.trans hp7))
  have s4 := IsPlain_run hpn (by omega)
  have s5 := specIsPlain_run hpn (by omega)
  have hdl : (ruleF o js).length ≤ 2 ^ 40 := by
    unfold ruleF
    split
    · rw [rulL_ord.len]; exact l1
    · simp
  have D1' := D1.pre (hp3.trans hp37)
  have q1 := vInts_run D1' (D2.pre hp37) hdl
  have hab : -(2 ^ 20) ≤ rdV ks g x y ∧ rdV ks g x y ≤ 2 ^ 20 := by
    unfold rdV
    split
    · rename_i c
      obtain ⟨c1, hx, hy⟩ := rdOk_of c
      have hg := (ruOk_of c1).2.1
      have := gap_bd (o := g) (jobOk_jA hg hx) (jobOk_jA hg hy)
      have e : gapX g ks x y = gapJ g (jA ks x) (jA ks y) := rfl
      rw [e]; omega
    · omega
  have wneg : IntKind.i64.wrap (-rdV ks g x y) = -rdV ks g x y := by rw [wrap_ok] <;> omega
  obtain ⟨ka, kn, kc, rfl⟩ : ∃ a n c, u7 = .slice a n c := by obtain ⟨a, c, e⟩ := K7.shape; exact ⟨_, _, _, e⟩
  obtain ⟨da, dn, dc, rfl⟩ : ∃ a n c, d1 = .slice a n c := by obtain ⟨a, c, e⟩ := D1.shape; exact ⟨_, _, _, e⟩
  have Js7 := Js.pre (hp2.trans (hp3.trans hp37))
  have Xs7 := Xs.pre (hp2.trans (hp3.trans hp37))
  have tail : ∀ c1 : ruOk js o = true, Ord js.length (rulL o js) ∧ Ret P G n_impl_IsBestOrder [.slice ja js.length jc, .slice da dn dc, .int .i64 o] h7 (.tuple #[.bool true, .bool true]) h7 ∧ Ret P G n_impl_IsRuledOrder [.slice ja js.length jc, .slice da dn dc, .int .i64 o] h7 (.tuple #[.bool true, .bool true]) h7 ∧
      (ruAll js xs o = true → ∃ b : Bool, Ret P G n_impl_IsBestOrder [.slice ja js.length jc, .slice xa xs.length xc, .int .i64 o] h7 (.tuple #[.bool b, .bool true]) h7 ∧ (ruledB o js xs = true → b = true) ∧ (o = 2 ∨ o = 3 → ruledB o js xs = b)) := fun c1 => by
    obtain ⟨hn, hg, ho, hpl⟩ := ruOk_of c1
    have jok : jOk js = true := by have := c1; rw [ruOk, Bool.and_eq_true] at this; exact this.1
    have orl := rulL_ord (o := o) (js := js)
    have Dr : Ints h7 (.slice da dn dc) (rulL o js) := by rw [ruleF, if_pos c1] at D1'; exact D1'
    have okv : okV js (rulL o js) o = true := by rw [okV, jok, ord_ok hn orl]; simp [inB]; omega
    have hr : ruledB o js (rulL o js) = true := (ruled_iff (good_tm hg) orl.inn).2 (rulL_sorted hg)
    have ll : (rulL o js).length ≤ 2 ^ 40 := by rw [orl.len]; exact l1
    have b1 := IsBestOrder_run (o := o) Js7 Dr l1 ll okv
    rw [(ruled_best c1 orl).1 hr] at b1
    have b2 := implIsRuledOrder_run (o := o) Js7 Dr l1 ll
    rw [hr, show ruAll js (rulL o js) o = true by rw [ruAll, c1, ord_ok hn orl]; rfl] at b2
    refine ⟨orl, by simpa using b1, by simpa using b2, fun c2 => ?_⟩
    obtain ⟨_, ox⟩ := ruAll_of c2
    have okx : okV js xs o = true := by rw [okV, jok, ord_ok hn ox]; simp [inB]; omega
    have b3 := IsBestOrder_run (o := o) Js7 Xs7 l1 l2 okx
    refine ⟨_, b3, fun g => ?_, fun g => ?_⟩
    · rw [(ruled_best c1 ox).1 g]; simp
    · exact (ruled_best c1 ox).2 g
  have all_ok : ruAll js xs o = true → ruOk js o = true := fun c => (ruAll_of c).1
  cases c3 : rdOk ks g x y
  case' false =>
    rw [c3] at s1 s2
    simp -implicitDefEqProofs [CL_ret s1, CL_ret s2, CL_ret q1, CL_ret s4, CL_ret s5, c3]
  case' true =>
    rw [c3] at s1 s2 s3
    simp -implicitDefEqProofs [CL_ret s1, CL_ret s2, CL_ret q1, CL_ret s4, CL_ret s5, c3, CL_ret s3, wneg]
  all_goals
    cases c1 : ruOk js o
    case false =>
      simp -implicitDefEqProofs
      exact gcP hp07 rfl
    case true =>
      obtain ⟨orl, b1, b2, b3⟩ := tail c1
      cases c2 : ruAll js xs o
      case false =>
        simp -implicitDefEqProofs [CL_ret b1, CL_ret b2]
        exact gcP hp07 rfl
      case true =>
        obtain ⟨b, b4, b5, b6⟩ := b3 c2
        cases c4 : ruledB o js xs
        case true =>
          have e := b5 c4
          subst e
          by_cases o2 : o = 2
          · subst o2
            simp -implicitDefEqProofs [CL_ret b1, CL_ret b2, CL_ret b4]
            exact gcP hp07 rfl
          · by_cases o3 : o = 3
            · subst o3
              simp -implicitDefEqProofs [CL_ret b1, CL_ret b2, CL_ret b4]
              exact gcP hp07 rfl
            · simp -implicitDefEqProofs [CL_ret b1, CL_ret b2, CL_ret b4, nt o2, nt o3]
              exact gcP hp07 rfl
        case false =>
          by_cases o2 : o = 2
          · have e := b6 (.inl o2)
            rw [c4] at e
            subst e
            subst o2
            simp -implicitDefEqProofs [CL_ret b1, CL_ret b2, CL_ret b4]
            exact gcP hp07 rfl
          · by_cases o3 : o = 3
            · have e := b6 (.inr o3)
              rw [c4] at e
              subst e
              subst o3
              simp -implicitDefEqProofs [CL_ret b1, CL_ret b2, CL_ret b4]
              exact gcP hp07 rfl
            · cases b <;>
                (simp -implicitDefEqProofs [CL_ret b1, CL_ret b2, CL_ret b4, nt o2, nt o3]
                 exact gcP hp07 rfl)
end Go.Pm.PP

/- Best orders: exchanging downwards. -/
set_option linter.unusedVariables false
set_option linter.unusedSimpArgs false
set_option maxRecDepth 4000
set_option maxHeartbeats 8000000
namespace Go.Pm.PP
open Go.Pm Go.Proofs Go.Pm.PE
/-- As many exchanges as there can be. -/
def FD : Nat := 2147483649
def dnR (js : List Job) (xs : List Int) (o : Int) : List Int × Nat := if okV js xs o = true then down (valX o js) FD xs else ([], 0)
section
variable {h : Hp} {v u : Value} {js : List Job} {xs : List Int} {o : Int}
theorem down_none {f : List Int → Int} {m : Nat} {xs : List Int} (e : nxt f xs = none) : down f m xs = (xs, 0) := by
  cases m with
  | zero => rfl
  | succ m => rw [down, e]
theorem down_some {f : List Int → Int} {m i : Nat} {xs : List Int} (e : nxt f xs = some i) : down f (m + 1) xs = ((down f m (swp xs i)).1, (down f m (swp xs i)).2 + 1) := by
  rw [down, e]
end
end Go.Pm.PP

/- FnBestOrders in the small machine. -/
set_option linter.unusedVariables false
set_option linter.unusedSimpArgs false
set_option maxRecDepth 4000
set_option maxHeartbeats 8000000
namespace Go.Pm.PP
open Go.Pm Go.Proofs Go.Pm.PE
end Go.Pm.PP

/- A code of bytes as an argument, opened as a row. -/
set_option linter.unusedVariables false
set_option linter.unusedSimpArgs false
set_option maxRecDepth 4000
namespace Go.Pm
open Go.ChangeShapes Go.WideShapes
section
variable {P : Program} {H : Type} {enc : TypeId × Value → H} {w : World} {base : Nat} {held : Bool}
theorem flat_encU (xs : List Int) : (xs.map PP.encU).flatten = xs.map fun x => .int .u8 x := by
  induction xs with
  | nil => rfl
  | cons x xs ih => rw [List.map_cons, List.flatten_cons, ih]; rfl
/-- A slice of bytes. -/
theorem shows_bytes {t e : TypeId} {fuel : Nat} {v : Value} {x : DataW H × List MemPlace} (ht : P.underlying t = some (.slice e)) (he : P.underlying e = some (.int .u8)) (hc : P.cellsOf e = 1)
    (hd : DataW.trod enc P w base (fun _ => true) held fuel t [v] = some x) : ∃ xs : List Int, xs.length ≤ maxLen ∧ (∀ b, b ∈ xs → (Lit.int .u8 b).wf = true) ∧ ∀ (ρ : Mp) (h : Hp), Shows ρ h w 1 (xs.map PP.encU) v := by
  rcases open_ints ht he hc hd with ⟨h1, _⟩ | ⟨a, len, cap, zs, h1, _, hl, hm, hz, _, hcell, hwf⟩
  · cases h1
    exact ⟨[], by simp, by simp, fun ρ h => .inl ⟨rfl, rfl⟩⟩
  · cases h1
    simp only [if_true] at hz
    have hlen : (zs.take len).length = len := by rw [List.length_take]; omega
    refine ⟨zs.take len, by omega, fun b hb => hwf b (List.mem_of_mem_take hb), fun ρ h => .inr ⟨a, cap, by rw [List.length_map, hlen], by rw [List.length_map, hlen]; exact hl, ?_, fun k c hk => ?_⟩⟩
    · rcases Nat.eq_zero_or_pos cap with h0 | h0
      · exact .inl h0
      · right
        have := hcell 0 (by omega)
        unfold World.cell? at this
        simp only [Addr.add, if_true] at this
        cases hs : a.spot with
        | none => rfl
        | some s =>
          rw [hs] at this
          split at this <;> simp at this
    · rw [flat_encU, List.getElem?_map] at hk
      obtain ⟨z, hz2, rfl⟩ := Option.map_eq_some_iff.1 hk
      have hk1 := (List.getElem?_eq_some_iff.1 hz2).1
      rw [List.getElem?_take, if_pos (by omega)] at hz2
      refine ⟨_, hcell k (by omega), ?_⟩
      rw [List.getD_eq_getElem?_getD, hz2]
      exact .int _ _
end
end Go.Pm
namespace Go.Pm.PP
open Go.Pm Go.Proofs
theorem follows : P.follows .mixedOrders = true := by kernel_rfl
theorem cells_u8 : P.cellsOf t_u8 = 1 := by kernel_rfl
theorem byte_of {b : Int} (h : (Lit.int .u8 b).wf = true) : 0 ≤ b ∧ b ≤ 255 := by
  simp [Lit.wf, IntKind.min, IntKind.max, IntKind.signed, IntKind.bits] at h
  omega
section
variable {H : Type} {enc : TypeId × Value → H} {W : World} {ρ : Mp} {h : Hp} {v : Value} {n0 : Nat} {x0 : DataW H × List MemPlace}
theorem open_bytes (R : Rel ρ h W) (ha : AllRo h) (d0 : DataW.trod enc P W 0 (fun _ => true) true n0 t_S_u8 [v] = some x0) :
    ∃ (h2 : Hp) (ρ2 : Mp) (p : Value) (xs : List Int), h <+: h2 ∧ Rel ρ2 h2 W ∧ AllRo h2 ∧ Step ρ h ρ2 h2 ∧ VR ρ2 h2 p v ∧ Sees h2 p 1 (xs.map encU) ∧ ∀ b, b ∈ xs → 0 ≤ b ∧ b ≤ 255 := by
  obtain ⟨xs, l0, hw, s0⟩ := shows_bytes (P := P) (v := v) u_S_u8 u_u8 cells_u8 d0
  obtain ⟨h2, ρ2, p, q, R2, a2, t, r, N⟩ := add_slice (w := W) (len_U xs) R ha (s0 ρ h)
  exact ⟨h2, ρ2, p, xs, q, R2, a2, t, r, N, fun b hb => byte_of (hw b hb)⟩
end
end Go.Pm.PP
