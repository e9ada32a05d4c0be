/- The texts Ps8, PvTd, PvTe, PvRa, Ps9, PvFa, PvFb, PvFc of this work: Ruled orders are best, in plain terms: the last end too. -/
import Derived.Test.YtcmbjbddjlamaaaP7
import Derived.Test.YtcmbjbddjlamaaaP8
/- Ruled orders are best, in plain terms: the last end too. -/
set_option linter.unusedVariables false
set_option linter.unusedSimpArgs false
namespace Go.Pm.PP
open Go.Pm Go.Pm.PE
theorem nowGo_mono {js : List Job} : ∀ {C : List Int} {a b : Int}, a ≤ b → nowGo js a C ≤ nowGo js b C
  | [], _, _, h => h
  | x :: C, a, b, h => by rw [nowGo, nowGo]; exact nowGo_mono (by unfold endAt; omega)
theorem end_swap {js : List Job} (ht : ∀ x, 0 ≤ (jA js x).t) {A C : List Int} {x y : Int} (h : (jA js y).r ≤ (jA js x).r) : nowGo js 0 (A ++ y :: x :: C) ≤ nowGo js 0 (A ++ x :: y :: C) := by
  rw [nowGo_app, nowGo_app, nowGo, nowGo, nowGo, nowGo]
  have h1 := ht x
  have h2 := ht y
  refine nowGo_mono ?_
  unfold endAt
  omega
theorem end_best {js : List Job} (ht : ∀ x, 0 ≤ (jA js x).t) {xs ys : List Int} (hs : ys.Pairwise fun a b => (jA js a).r ≤ (jA js b).r) (hp : xs.Perm ys) : nowGo js 0 ys ≤ nowGo js 0 xs :=
  exch_sorted (f := nowGo js 0) (S := fun _ => True) (fun _ _ _ _ _ => trivial) (fun A x y C _ h => end_swap ht h) (A := []) trivial hs hp
/-- The reference's ruled order. -/
def ruF (o : Int) (js : List Job) (xs : List Int) : List Int := xs.foldl (fun l x => insF (fun y => decide (gapX o js y x ≤ 0)) x l) []
theorem ruF_perm {o : Int} {js : List Job} : ∀ {xs acc : List Int}, (xs.foldl (fun l x => insF (fun y => decide (gapX o js y x ≤ 0)) x l) acc).Perm (acc ++ xs)
  | [], acc => by simp
  | x :: xs, acc => by
    rw [List.foldl_cons]
    refine ruF_perm.trans ?_
    exact ((insF_perm.append_right xs).trans (by rw [List.cons_append])).trans List.perm_middle.symm
theorem ruF_sorted {o : Int} {js : List Job} (t : Tm js) : ∀ {xs acc : List Int}, acc.Pairwise (Lex (aheadR o js)) → inN js.length acc → inN js.length xs → xs.Pairwise (· < ·) → (∀ a, a ∈ acc → ∀ b, b ∈ xs → a < b) → (xs.foldl (fun l x => insF (fun y => decide (gapX o js y x ≤ 0)) x l) acc).Pairwise (Lex (aheadR o js))
  | [], acc, h, _, _, _, _ => h
  | x :: xs, acc, h, ha, hx, hs, hl => by
    have hs := List.pairwise_cons.1 hs
    have xr := hx x (List.mem_cons_self ..)
    have gs : ∀ y, gapX o js x y = - gapX o js y x := fun y => gap_swap
    rw [List.foldl_cons]
    refine ruF_sorted t (insF_sorted h (fun y hy g => ?_) (fun y hy g => ?_) fun y z hy hz hr g => ?_) (fun y hy => ?_) (fun y hy => hx y (List.mem_cons_of_mem _ hy)) hs.2 fun a hA b hb => ?_
    · have g : gapX o js y x ≤ 0 := by simpa using g
      have := gs y
      right
      refine ⟨?_, hl y hy x (List.mem_cons_self ..)⟩
      rw [ahead_eq t xr (ha y hy), decide_eq_false_iff_not]; omega
    · have g : ¬ gapX o js y x ≤ 0 := by simpa using g
      have := gs y
      left
      rw [ahead_eq t xr (ha y hy), decide_eq_true_eq]; omega
    · have g : ¬ gapX o js y x ≤ 0 := by simpa using g
      cases c : decide (gapX o js z x ≤ 0) with
      | false => rfl
      | true =>
        have c : gapX o js z x ≤ 0 := by simpa using c
        have h1 : aheadR o js z y = false := hr.na ahead_weak
        have g1 := gs z
        have h2 : aheadR o js x z = false := by rw [ahead_eq t xr (ha z hz), decide_eq_false_iff_not]; omega
        have h3 := (ahead_weak (o := o) (js := js)).tr h2 h1
        rw [ahead_eq t xr (ha y hy), decide_eq_false_iff_not] at h3
        have := gs y
        omega
    · rcases List.mem_cons.1 (insF_perm.mem_iff.1 hy) with rfl | g
      · exact xr
      · exact ha y g
    · rcases List.mem_cons.1 (insF_perm.mem_iff.1 hA) with rfl | g
      · exact hs.1 b hb
      · exact hl a g b (List.mem_cons_of_mem _ hb)
/-- Both ruled orders are the same. -/
theorem ruled_eq {o : Int} {js : List Job} (t : Tm js) {xs : List Int} (hs : xs.Pairwise (· < ·)) (hin : inN js.length xs) : ruF o js xs = sortB (aheadR o js) xs := by
  have p : (ruF o js xs).Perm xs := by have := @ruF_perm o js xs []; simpa [ruF] using this
  exact sorted_eq (R := Lex (aheadR o js)) (fun a b => Lex.asymm ahead_weak) (ruF_sorted t List.Pairwise.nil (fun y hy => by cases hy) hin hs fun a ha => by cases ha) (sortB_sorted ahead_weak hs) (p.trans sortB_perm.symm)
end Go.Pm.PP

/- Draws: plain jobs, ruled orders, inversions. -/
set_option linter.unusedVariables false
set_option linter.unusedSimpArgs false
set_option maxRecDepth 4000
set_option maxHeartbeats 8000000
namespace Go.Pm.PP
open Go.Pm Go.Proofs Go.Pm.PE
/-- Put into the middle, the front by a call. -/
theorem ins_own {h0 h : Hp} {L : List Asn} (H : Holds h0 h L) (i : Nat) {u : Value} {xs : List Int} (hi : L[i]? = some (.own u 1 (xs.map encI))) {k : Nat} (hk : k ≤ xs.length) (x : Int) (hn : xs.length ≤ 2 ^ 20) :
    ∃ (a3 : Option Addr) (b3 c3 : Nat), sliceP P h t_S_int u none (some (.int .i64 k)) = some (.slice a3 b3 c3) ∧ Ints h (.slice a3 b3 c3) (xs.take k) ∧ ∀ {v4 : Value} {h4 : Hp}, h <+: h4 → Own h.length h4 v4 1 ((xs.take k).map encI) → NR h.length h4 →
      ∃ (a4 : Option Addr) (b4 c4 : Nat) (a5 : Option Addr) (b5 c5 : Nat) (h5 : Hp) (a6 : Option Addr) (b6 c6 : Nat) (v7 : Value) (h7 : Hp), v4 = .slice a4 b4 c4 ∧
      appendP P (h4 ++ [some ⟨[.int .i64 x], 1, false⟩]) t_S_int (.slice a4 b4 c4) (.slice (some ⟨h4.length, 0, some 1⟩) 1 1) = some (.slice a5 b5 c5, h5) ∧ modOk h.length (h4 ++ [some ⟨[.int .i64 x], 1, false⟩]) h5 ∧ newOk h h5 ∧
      sliceP P h5 t_S_int u (some (.int .i64 k)) none = some (.slice a6 b6 c6) ∧ appendP P h5 t_S_int (.slice a5 b5 c5) (.slice a6 b6 c6) = some (v7, h7) ∧ Holds h0 h7 (L.set i (.own v7 1 ((xs.take k ++ x :: xs.drop k).map encI))) ∧ h <+: h7 := by
  have S2 := H.sees i hi
  obtain ⟨v3, s3, f3⟩ := S2.front (P := P) u_S_int i_int (k := .i64) (j := (k : Int)) (by omega) (by simp; omega)
  rw [Int.toNat_natCast, ← List.map_take] at f3
  obtain ⟨a3, b3, c3, rfl⟩ : ∃ a n c, v3 = .slice a n c := by obtain ⟨a, c, e⟩ := f3.shape; exact ⟨_, _, _, e⟩
  refine ⟨a3, b3, c3, s3, f3, fun {v4 h4} hp4 ho4 n4 => ?_⟩
  have H4 : Holds h h4 [.own v4 1 ((xs.take k).map encI)] := (Holds.start (h := h)).call hp4 ho4
  obtain ⟨v5, h5, ha5, H5', k5, _⟩ := push_I0 H4 0 rfl x (by simp; omega)
  have H5 : Holds h h5 [.own v5 1 ((xs.take k ++ [x]).map encI)] := H5'
  have n5 : NR h.length (h4 ++ [some ⟨[.int .i64 x], 1, false⟩]) := n4.new [.int .i64 x] 1
  have md := app_mod (b := h.length) rfl n5 ha5 (H4.pre.trans (List.prefix_append ..)) H5.pre
  have n6 := append_nr n5 ha5
  obtain ⟨v6, s6, f6, _⟩ := (S2.pre H5.pre).back (P := P) u_S_int i_int (k := .i64) (j := (k : Int)) (by omega) (by simp; omega)
  rw [Int.toNat_natCast, ← List.map_drop] at f6
  obtain ⟨v7, h7, ha7, H7', _⟩ := app_I H5 0 rfl f6 (by simp; omega)
  have H7 : Holds h h7 [.own v7 1 ((xs.take k ++ x :: xs.drop k).map encI)] := by
    have : Holds h h7 [.own v7 1 ((xs.take k ++ [x] ++ xs.drop k).map encI)] := H7'
    rw [List.append_assoc] at this
    exact this
  obtain ⟨a4, b4, c4, rfl⟩ : ∃ a n c, v4 = .slice a n c := by obtain ⟨a, c, e⟩ := (H4.sees 0 rfl).shape; exact ⟨_, _, _, e⟩
  obtain ⟨a5, b5, c5, rfl⟩ : ∃ a n c, v5 = .slice a n c := by obtain ⟨a, c, e⟩ := (H5.sees 0 rfl).shape; exact ⟨_, _, _, e⟩
  obtain ⟨a6, b6, c6, rfl⟩ : ∃ a n c, v6 = .slice a n c := by obtain ⟨a, c, e⟩ := f6.shape; exact ⟨_, _, _, e⟩
  have HJ := H.join H7
  have hil := (List.getElem?_eq_some_iff.1 hi).1
  refine ⟨a4, b4, c4, a5, b5, c5, h5, a6, b6, c6, v7, h7, rfl, ha5, md, newOk_of H5.pre n6, s6, ha7, ?_, H7.pre⟩
  refine HJ.sub (fun j => if j = i then L.length else j) (fun j A e => ?_) fun j1 j2 A B e1 e2 g => ?_
  · rw [List.getElem?_set] at e
    split at e
    · rename_i e2
      subst e2
      cases e
      rw [if_pos rfl, List.getElem?_append_right (Nat.le_refl _), Nat.sub_self]; rfl
    · rename_i e2
      rw [if_neg fun g => e2 g.symm, List.getElem?_append_left (List.getElem?_eq_some_iff.1 e).1]
      exact e
  · have l1 := (List.getElem?_eq_some_iff.1 e1).1
    have l2 := (List.getElem?_eq_some_iff.1 e2).1
    rw [List.length_set] at l1 l2
    split at g <;> split at g <;> omega
section
variable {h : Hp} {vj v : Value} {js : List Job} {o : Int}
theorem l3Order_run (J : Jobs h vj js) (hg : goodL js = true) (hn : js.length ≤ 8) : RunsC P G n_spec_l3Order [vj, .int .i64 o] h fun w h' => h <+: h' ∧ Own h.length h' w 1 ((ruF o js (upTo js.length)).map encI) := by
  refine hideC fun K hK => enter_run e_spec_l3Order (by simp) ?_
  have Js := J
  obtain ⟨oj, cj, rfl⟩ := J.shapeT
  have H0 := own_nil (Holds.start (h := h)) Int encI 1
  simp -implicitDefEqProofs
  refine R_loopO (fun m s h' => ∃ (i : Nat) (u : Value), i + m = js.length ∧ s = [(0, .slice oj js.length cj), (1, .int .i64 o), (5, u), (6, .int .i64 i)] ∧ Holds h h' [.own u 1 ((ruF o js (upTo i)).map encI)]) (fun I hI m s h' => ?_) (n := js.length) ⟨0, _, Nat.zero_add _, by simp, H0⟩
  rintro ⟨i, u, hi, rfl, H⟩
  by_cases hlt : i < js.length
  · have eu : upTo (i + 1) = upTo i ++ [(i : Int)] := by simp [upTo, List.range_succ]
    have ef : ruF o js (upTo (i + 1)) = insF (fun y => decide (gapX o js y i ≤ 0)) (i : Int) (ruF o js (upTo i)) := by
      unfold ruF; rw [eu, List.foldl_append]; rfl
    have pu : (ruF o js (upTo i)).Perm (upTo i) := by have := @ruF_perm o js (upTo i) []; simpa [ruF] using this
    have hin : ∀ z, z ∈ ruF o js (upTo i) → 0 ≤ z ∧ z < js.length := fun z hz => by have := mem_upTo.1 (pu.mem_iff.1 hz); omega
    have hul : (ruF o js (upTo i)).length = i := by rw [pu.length_eq, upTo_len]
    generalize ruF o js (upTo i) = us at *
    have S := H.sees 0 rfl
    obtain ⟨ou, cu, rfl⟩ : ∃ a c, u = .slice a us.length c := by obtain ⟨a, c, e⟩ := S.shapeT; exact ⟨a, c, e⟩
    simp -implicitDefEqProofs [hlt]
    refine R_loopO (fun m2 s h2 => ∃ (k : Nat), k + m2 = us.length ∧ s = [(0, .slice oj js.length cj), (1, .int .i64 o), (5, .slice ou us.length cu), (6, .int .i64 i), (7, .int .i64 k)] ∧ h2 = h' ∧ ∀ j z, j < k → us[j]? = some z → decide (gapX o js z i ≤ 0) = true) (fun I2 hI2 m2 s h2 => ?_) (n := us.length)
      ⟨0, Nat.zero_add _, by simp, rfl, fun i z h => by omega⟩
    rintro ⟨k, hk, rfl, rfl, hall⟩
    have fin : (∀ z, us[k]? = some z → decide (gapX o js z i ≤ 0) = false) → us.take k ++ (i : Int) :: us.drop k = insF (fun y => decide (gapX o js y i ≤ 0)) (i : Int) us := fun g => (insF_take (by omega) hall g).symm
    obtain ⟨a3, b3, c3, s3, f3, rest⟩ := ins_own H 0 rfl (k := k) (by omega) (i : Int) (by omega)
    have next : us.take k ++ (i : Int) :: us.drop k = insF (fun y => decide (gapX o js y i ≤ 0)) (i : Int) us → RunsC P G n_spec_l1Own [.slice a3 b3 c3] h2 fun v h' => newOk h2 h' ∧ ∃ (a4 : Option Addr) (b4 c4 : Nat) (a5 : Option Addr) (b5 c5 : Nat) (h5 : Hp) (a6 : Option Addr) (b6 c6 : Nat) (v7 : Value) (h7 : Hp), v = .slice a4 b4 c4 ∧
      appendP P (h' ++ [some ⟨[.int .i64 (i : Int)], 1, false⟩]) t_S_int (.slice a4 b4 c4) (.slice (some ⟨h'.length, 0, some 1⟩) 1 1) = some (.slice a5 b5 c5, h5) ∧ modOk h2.length (h' ++ [some ⟨[.int .i64 (i : Int)], 1, false⟩]) h5 ∧ newOk h2 h5 ∧
      sliceP P h5 t_S_int (.slice ou us.length cu) (some (.int .i64 k)) none = some (.slice a6 b6 c6) ∧ appendP P h5 t_S_int (.slice a5 b5 c5) (.slice a6 b6 c6) = some (v7, h7) ∧ I (m - 1) [(0, .slice oj js.length cj), (1, .int .i64 o), (5, v7), (6, .int .i64 ((i + 1 : Nat) : Int))] h7 := fun he => by
      refine RunsC.mono (l1Own_run f3 (by rw [List.length_take]; omega)).new fun v4 h4 ⟨⟨hp4, ho4⟩, hn4⟩ => ⟨hn4 hp4, ?_⟩
      obtain ⟨a4, b4, c4, a5, b5, c5, h5, a6, b6, c6, v7, h7, e4, g5, g6, g7, g8, g9, H7, hp7⟩ := rest hp4 ho4 (hn4 hp4).nr
      refine ⟨a4, b4, c4, a5, b5, c5, h5, a6, b6, c6, v7, h7, e4, g5, g6, g7, g8, g9, on hI ⟨i + 1, v7, by omega, rfl, ?_⟩⟩
      rw [ef, ← he]
      exact H7
    by_cases hlk : k < us.length
    · obtain ⟨z, hz, _⟩ := drop_at hlk
      have lz := load_I S hz
      have rs := l3Gap_run (o := o) (x := z) (y := (i : Int)) (Js.pre H.pre) hg (hin z (List.mem_of_getElem? hz)) (by omega)
      have hlk' : (k : Int) < us.length := by omega
      by_cases c1 : gapX o js z i ≤ 0
      · simp -implicitDefEqProofs [-indexAddrP_some, hlk, hlk', lz, CL_ret rs, CH_at rs, c1, winc hlk (by omega)]
        exact ⟨m2 - 1, by omega, on hI2 ⟨k + 1, by omega, rfl, rfl, fun j z' h1 h2 => by
          rcases Nat.lt_or_ge j k with g | g
          · exact hall j z' g h2
          · have : j = k := by omega
            subst this
            rw [hz] at h2; cases h2; exact decide_eq_true c1⟩⟩
      · simp -implicitDefEqProofs [-indexAddrP_some, hlk, hlk', lz, CL_ret rs, CH_at rs, c1, s3]
        refine CG_post (next (fin fun z' g => by rw [hz] at g; cases g; exact decide_eq_false c1)) fun v h4 ⟨no4, a4, b4, c4, a5, b5, c5, h5, a6, b6, c6, v7, h7, ev, g5, g6, g7, g8, g9, hI7⟩ => ⟨no4, ?_⟩
        subst ev
        simp -implicitDefEqProofs [g5, g6, g7, g8, g9, winc hlt (by omega)]
        exact ⟨m - 1, by omega, hI7⟩
    · have hlk' : ¬ (k : Int) < us.length := by omega
      simp -implicitDefEqProofs [-indexAddrP_some, hlk, hlk', s3]
      refine CG_post (next (fin fun z' g => by rw [List.getElem?_eq_none (by omega)] at g; cases g)) fun v h4 ⟨no4, a4, b4, c4, a5, b5, c5, h5, a6, b6, c6, v7, h7, ev, g5, g6, g7, g8, g9, hI7⟩ => ⟨no4, ?_⟩
      subst ev
      simp -implicitDefEqProofs [g5, g6, g7, g8, g9, winc hlt (by omega)]
      exact ⟨m - 1, by omega, hI7⟩
  · have : i = js.length := by omega
    subst this
    simp -implicitDefEqProofs [hlt]
    exact onK hK (H.ret 0 rfl)
end
/-! ### draws -/
section
variable {h0 h : Hp} {r n : Nat} {vc : Value} {L : List Asn}
theorem Cur.fputJ {u : Value} {js : List Job} (C : Cur h0 h r vc n (L ++ [.own u 4 (js.map encJ)])) {k : Nat} {y : Job} (hy : js[k]? = some y) (z : Int) :
    (∃ h', storeP P h t_int (.int .i64 z) (.pointer (some (addP (addP (base u) (k * 4)) 0))) = some h' ∧ Cur h0 h' r vc n (L ++ [.own u 4 ((js.set k ⟨z, y.w, y.r, y.d⟩).map encJ)])) ∧
    (∃ h', storeP P h t_int (.int .i64 z) (.pointer (some (addP (addP (base u) (k * 4)) 1))) = some h' ∧ Cur h0 h' r vc n (L ++ [.own u 4 ((js.set k ⟨y.t, z, y.r, y.d⟩).map encJ)])) ∧
    (∃ h', storeP P h t_int (.int .i64 z) (.pointer (some (addP (addP (base u) (k * 4)) 2))) = some h' ∧ Cur h0 h' r vc n (L ++ [.own u 4 ((js.set k ⟨y.t, y.w, z, y.d⟩).map encJ)])) ∧
    (∃ h', storeP P h t_int (.int .i64 z) (.pointer (some (addP (addP (base u) (k * 4)) 3))) = some h' ∧ Cur h0 h' r vc n (L ++ [.own u 4 ((js.set k ⟨y.t, y.w, y.r, z⟩).map encJ)])) := by
  obtain ⟨a, s, h1, h2, H⟩ := C
  have hi : (cu r vc a s :: (L ++ [.own u 4 (js.map encJ)]))[L.length + 1]? = some (.own u 4 (js.map encJ)) := by rw [List.getElem?_cons_succ]; exact snoc_get
  have es : ∀ A : Asn, (cu r vc a s :: (L ++ [.own u 4 (js.map encJ)])).set (L.length + 1) A = cu r vc a s :: (L ++ [A]) := fun A => by
    rw [List.set_cons_succ, List.set_append_right (h := Nat.le_refl _), Nat.sub_self]; rfl
  refine ⟨?_, ?_, ?_, ?_⟩
  · obtain ⟨h', g1, g2, _⟩ := fput_J0 H _ hi hy z
    rw [es] at g2
    exact ⟨h', g1, a, s, h1, h2, g2⟩
  · obtain ⟨h', g1, g2, _⟩ := fput_J1 H _ hi hy z
    rw [es] at g2
    exact ⟨h', g1, a, s, h1, h2, g2⟩
  · obtain ⟨h', g1, g2, _⟩ := fput_J2 H _ hi hy z
    rw [es] at g2
    exact ⟨h', g1, a, s, h1, h2, g2⟩
  · obtain ⟨h', g1, g2, _⟩ := fput_J3 H _ hi hy z
    rw [es] at g2
    exact ⟨h', g1, a, s, h1, h2, g2⟩
theorem plain3_run (B : By h0 vc) (C : Cur h0 h r vc n L) (hn : n ≤ 2 ^ 18) : RunsC P G n_spec_l1Cur_plain3 [.pointer (some ⟨r, 0, some 3⟩)] h fun v h' => ∃ js : List Job, js.length ≤ 9 ∧ Cur h0 h' r vc (n + 300) (L ++ [.own v 4 (js.map encJ)]) := by
  refine hideC fun K hK => enter_run e_spec_l1Cur_plain3 (by simp) ?_
  simp -implicitDefEqProofs
  refine CL_post (jobs_run B C (by omega)) fun v h1 ⟨js, hl, C1⟩ => ?_
  obtain ⟨ua, uc, rfl⟩ : ∃ a c, v = .slice a js.length c := C1.seesJ.shapeT
  simp -implicitDefEqProofs
  refine CL_post (one_run B C1 (by omega) (k := 24) (by omega)) fun v h2 ⟨b, ev, C2⟩ => ?_
  subst ev
  cases b
  case true =>
    simp -implicitDefEqProofs
    exact onK hK ⟨js, hl, C.gcO (C2.mono (by omega)) (fun h => h)⟩
  simp -implicitDefEqProofs
  obtain ⟨N, hN⟩ : ∃ N, N = js.length := ⟨_, rfl⟩
  rw [← hN] at C2 ⊢
  refine R_loopO (fun m st h' => ∃ (i : Nat) (ks : List Job), i + m = N ∧ st = [(0, .pointer (some ⟨r, 0, some 3⟩)), (3, .slice ua N uc), (4, .int .i64 i)] ∧ ks.length = N ∧ Cur h0 h' r vc (n + 204 + 2 * i) (L ++ [.own (.slice ua N uc) 4 (ks.map encJ)])) (fun I hI m st h' => ?_) (n := N)
    ⟨0, js, by omega, by simp, hN.symm, C2.mono (by omega)⟩
  rintro ⟨i, ks, hi, rfl, hks, C3⟩
  by_cases hlt : i < N
  · have hlt' : (i : Int) < N := by omega
    obtain ⟨y, hy, _⟩ := drop_at (show i < ks.length by omega)
    have ly := load_J C3.seesJ hy
    obtain ⟨h4, s4, C4⟩ := (C3.fputJ hy 0).2.2.1
    by_cases c1 : 0 < i
    · have c1' : (0 : Int) < i := by omega
      simp -implicitDefEqProofs [-indexAddrP_some, hlt, hlt', ly, s4, c1, c1']
      refine CL_post (one_run B C4 (by omega) (k := 3) (by omega)) fun v h5 ⟨b, ev, C5⟩ => ?_
      subst ev
      cases b
      · simp -implicitDefEqProofs [winc hlt (by omega)]
        exact ⟨m - 1, by omega, on hI ⟨i + 1, _, by omega, rfl, by rw [List.length_set]; exact hks, C5.mono (by omega)⟩⟩
      · have w1 : IntKind.i64.wrap ((i : Int) - 1) = ((i - 1 : Nat) : Int) := by rw [wrap_ok] <;> omega
        generalize hks2 : ks.set i ⟨y.t, y.w, 0, y.d⟩ = ks2 at C5
        have hl2 : ks2.length = N := by rw [← hks2, List.length_set]; exact hks
        obtain ⟨p, hp, _⟩ := drop_at (show i - 1 < ks2.length by omega)
        obtain ⟨q, hq, _⟩ := drop_at (show i < ks2.length by omega)
        have lp := load_J C5.seesJ hp
        have lq := load_J C5.seesJ hq
        obtain ⟨h6, s6, C6⟩ := (C5.fputJ hq p.t).1
        generalize hks3 : ks2.set i ⟨p.t, q.w, q.r, q.d⟩ = ks3 at C6
        have hl3 : ks3.length = N := by rw [← hks3, List.length_set]; exact hl2
        obtain ⟨p', hp', _⟩ := drop_at (show i - 1 < ks3.length by omega)
        obtain ⟨q', hq', _⟩ := drop_at (show i < ks3.length by omega)
        have lp' := load_J C6.seesJ hp'
        have lq' := load_J C6.seesJ hq'
        obtain ⟨h7, s7, C7⟩ := (C6.fputJ hq' p'.w).2.1
        simp -implicitDefEqProofs [-indexAddrP_some, w1, lp, lq, s6, lp', lq', s7, winc hlt (by omega)]
        exact ⟨m - 1, by omega, on hI ⟨i + 1, _, by omega, rfl, by rw [List.length_set]; exact hl3, C7.mono (by omega)⟩⟩
    · have c1' : ¬ (0 : Int) < i := by omega
      simp -implicitDefEqProofs [-indexAddrP_some, hlt, hlt', ly, s4, c1, c1', winc hlt (by omega)]
      exact ⟨m - 1, by omega, on hI ⟨i + 1, _, by omega, rfl, by rw [List.length_set]; exact hks, C4.mono (by omega)⟩⟩
  · have hlt' : ¬ (i : Int) < N := by omega
    simp -implicitDefEqProofs [hlt, hlt']
    exact onK hK ⟨ks, by omega, C.gcO (C3.mono (by omega)) (fun h => h)⟩
theorem ruled3_run (B : By h0 vc) (C : Cur h0 h r vc n L) (hn : n ≤ 2 ^ 17) : RunsC P G n_spec_l1Cur_ruled3 [.pointer (some ⟨r, 0, some 3⟩)] h fun v h' => ∃ (u : Value) (o : Int) (js : List Job), v = .tuple #[u, .int .i64 o] ∧ js.length ≤ 9 ∧ Cur h0 h' r vc (n + 400) (L ++ [.own u 4 (js.map encJ)]) := by
  refine hideC fun K hK => enter_run e_spec_l1Cur_ruled3 (by simp) ?_
  simp -implicitDefEqProofs
  refine CL_post (pick_run B C (by omega) (k := 4) (by omega)) fun v h1 ⟨x, ev, x0, x1, _, C1⟩ => ?_
  subst ev
  simp -implicitDefEqProofs
  refine CL_post (one_run B C1 (by omega) (k := 24) (by omega)) fun v h2 ⟨b, ev, C2⟩ => ?_
  subst ev
  have fin : ∀ {u : Value} {h4 : Hp} {js : List Job} {o : Int} {m : Nat}, js.length ≤ 9 → m ≤ n + 400 → Cur h0 h4 r vc m (L ++ [.own u 4 (js.map encJ)]) → K (.tuple #[u, .int .i64 o]) (gc h h4 (.tuple #[u, .int .i64 o])) := fun {u h4 js o m} hl hm C4 =>
    onK hK ⟨u, o, js, rfl, hl, C.gcO (C4.mono hm) fun g => plainT (r := [_]) g⟩
  have two : ∀ {o : Int} {h3 : Hp} {m : Nat}, m ≤ n + 10 → Cur h0 h3 r vc m L → (RunsC P G n_spec_l1Cur_jobs [.pointer (some ⟨r, 0, some 3⟩)] h3 fun u h4 => K (.tuple #[u, .int .i64 o]) (gc h h4 (.tuple #[u, .int .i64 o]))) ∧ (RunsC P G n_spec_l1Cur_plain3 [.pointer (some ⟨r, 0, some 3⟩)] h3 fun u h4 => K (.tuple #[u, .int .i64 o]) (gc h h4 (.tuple #[u, .int .i64 o]))) := fun {o h3 m} hm C3 =>
    ⟨RunsC.mono (jobs_run B C3 (by omega)) fun v h4 ⟨js, hl, C4⟩ => fin hl (by omega) C4, RunsC.mono (plain3_run B C3 (by omega)) fun v h4 ⟨js, hl, C4⟩ => fin hl (by omega) C4⟩
  cases b
  · generalize hX : IntKind.i64.wrap (1 + x) = X
    by_cases c : X = 1
    · subst c
      simp -implicitDefEqProofs [hX]
      refine CL_post (two (o := 1) (by omega) C2).1 fun v h4 f => ?_
      simp -implicitDefEqProofs
      exact f
    · simp -implicitDefEqProofs [hX, nb c]
      refine CL_post (two (o := X) (by omega) C2).2 fun v h4 f => ?_
      simp -implicitDefEqProofs
      exact f
  · have C3 := C2.lit [0, 5, 8, -1]
    simp -implicitDefEqProofs
    refine CL_post (among_run B C3 (by omega) snoc_get (xs := [0, 5, 8, -1]) (by simp) (by simp)) fun v h3 ⟨X, ev, _, C4⟩ => ?_
    subst ev
    by_cases c : X = 1
    · subst c
      simp -implicitDefEqProofs
      refine CL_post (two (o := 1) (by omega) C4.weak).1 fun v h4 f => ?_
      simp -implicitDefEqProofs
      exact f
    · simp -implicitDefEqProofs [nb c]
      refine CL_post (two (o := X) (by omega) C4.weak).2 fun v h4 f => ?_
      simp -implicitDefEqProofs
      exact f
end
theorem plain2T {a b : Value} {r : List Value} (h : plain (.tuple (a :: b :: r).toArray) = true) : plainC b = true := by
  have : ((a :: b :: r).toArray : Array Value).toList.all plainC = true := h
  simp only [List.all_cons, Bool.and_eq_true] at this
  exact this.2.1
/-- A draw of jobs and an order ends. -/
theorem draw_JX {h h1 : Hp} {u w : Value} {r : List Value} {js : List Job} {xs : List Int} (H : Holds h h1 [.own u 4 (js.map encJ), .own w 1 (xs.map encI)]) : h <+: gc h h1 (.tuple (u :: w :: r).toArray) ∧ Jobs (gc h h1 (.tuple (u :: w :: r).toArray)) u js ∧ Ints (gc h h1 (.tuple (u :: w :: r).toArray)) w xs :=
  ⟨pre_gcU H.pre, Sees.gcU (H.sees 0 rfl) fun g => plainT (r := w :: r) g, Sees.gcU (H.sees 1 rfl) fun g => plain2T (r := r) g⟩
theorem DrawIsRuledOrder_run {h : Hp} {vc : Value} (B : By h vc) : RunsC P G n_spec_DrawIsRuledOrder [vc] h fun v h' => h <+: h' ∧ ∃ (js : List Job) (xs : List Int) (o : Int) (u w : Value), v = .tuple #[u, w, .int .i64 o] ∧ js.length ≤ 9 ∧ xs.length ≤ 10 ∧ Jobs h' u js ∧ Ints h' w xs := by
  refine hideC fun K hK => enter_run e_spec_DrawIsRuledOrder (by simp) ?_
  have C0 : Cur h (h ++ [some ⟨[vc, .int .i64 0, .int .u64 0], 0, false⟩]) h.length vc 0 [] := ⟨0, 0, by omega, by omega, (Holds.start (h := h)).alloc _⟩
  obtain ⟨bs, Sb, hb, hbl⟩ := B
  have Bs : By h vc := ⟨bs, Sb, hb, hbl⟩
  obtain ⟨ob, cb, rfl⟩ := Sb.shapeT
  simp -implicitDefEqProofs
  refine CL_post (ruled3_run Bs C0 (by omega)) fun v h1 ⟨u, o, js, ev, hl, C1⟩ => ?_
  subst ev
  obtain ⟨ua, uc, rfl⟩ : ∃ a c, u = .slice a js.length c := C1.seesJ.shapeT
  simp -implicitDefEqProofs
  refine CL_post (order_run Bs C1 (by omega) (N := js.length) (by omega)) fun w h2 ⟨xs, hl2, C2⟩ => ?_
  obtain ⟨wa, wc, rfl⟩ : ∃ a c, w = .slice a xs.length c := C2.seesI.shapeT
  have fin : ∀ {w : Value} {ys : List Int} {h3 : Hp} {m : Nat}, ys.length ≤ 10 → Cur h h3 h.length (.slice ob bs.length cb) m (([] ++ [.own (.slice ua js.length uc) 4 (js.map encJ)]) ++ [.own w 1 (ys.map encI)]) → K (.tuple #[.slice ua js.length uc, w, .int .i64 o]) (gc h h3 (.tuple #[.slice ua js.length uc, w, .int .i64 o])) := fun {w ys h3 m} hy C3 => by
    obtain ⟨a, s, _, _, H⟩ := C3
    have H2 : Holds h h3 [.own (.slice ua js.length uc) 4 (js.map encJ), .own w 1 (ys.map encI)] := H.tail
    have := draw_JX (r := [.int .i64 o]) H2
    exact onK hK ⟨this.1, js, ys, o, _, _, rfl, hl, hy, this.2⟩
  have rr := l3Ruled_run (o := o) C2.weak.seesJ (by omega)
  cases c1 : ruOk js o
  · rw [c1] at rr
    simp -implicitDefEqProofs [CL_ret rr]
    exact fin (by omega) C2
  rw [c1] at rr
  obtain ⟨hn, hg, _⟩ := ruOk_of c1
  simp -implicitDefEqProofs [CL_ret rr]
  refine CL_post (one_run Bs C2 (by omega) (k := 2) (by omega)) fun v h3 ⟨b, ev, C3⟩ => ?_
  subst ev
  cases b
  · simp -implicitDefEqProofs
    exact fin (by omega) C3
  simp -implicitDefEqProofs
  refine CL_post (l3Order_run (o := o) C3.weak.seesJ hg hn) fun w4 h4 ⟨hp4, ho4⟩ => ?_
  have C4 := (C3.join ((Holds.start (h := h3)).call hp4 ho4)).swapW
  have hyl : (ruF o js (upTo js.length)).length = js.length := by
    have : (ruF o js (upTo js.length)).Perm (upTo js.length) := by have := @ruF_perm o js (upTo js.length) []; simpa [ruF] using this
    rw [this.length_eq, upTo_len]
  generalize ruF o js (upTo js.length) = ys at *
  obtain ⟨ya, yc, rfl⟩ : ∃ a c, w4 = .slice a ys.length c := C4.seesI.shapeT
  by_cases c2 : 1 < ys.length
  · have c2' : (1 : Int) < ys.length := by omega
    simp -implicitDefEqProofs [c2, c2']
    refine CL_post (one_run Bs C4 (by omega) (k := 2) (by omega)) fun v h5 ⟨b, ev, C5⟩ => ?_
    subst ev
    cases b
    · simp -implicitDefEqProofs
      exact fin (by omega) C5
    · have w1 : IntKind.i64.wrap ((ys.length : Int) - 1) = (ys.length : Int) - 1 := by rw [wrap_ok] <;> omega
      simp -implicitDefEqProofs [w1]
      refine CL_post (pick_run Bs C5 (by omega) (k := (ys.length : Int) - 1) (by omega)) fun v h6 ⟨x, ev, x0, _, x1, C6⟩ => ?_
      subst ev
      obtain ⟨k, rfl⟩ : ∃ k : Nat, x = k := ⟨x.toNat, by omega⟩
      have hk : k + 1 < ys.length := by have := x1 (by omega); omega
      simp -implicitDefEqProofs
      refine CL_post (l2Swap_run C6.seesI (by omega) hk) fun w7 h7 ⟨hp7, ho7⟩ => ?_
      have C7 := (C6.join ((Holds.start (h := h6)).call hp7 ho7)).swapW
      simp -implicitDefEqProofs
      exact fin (by rw [swp_len]; omega) C7
  · have c2' : ¬ (1 : Int) < ys.length := by omega
    simp -implicitDefEqProofs [c2, c2']
    exact fin (by omega) C4
theorem gc_JX {h h1 : Hp} {u w : Value} {r : List Value} {js : List Job} {xs : List Int} (hp : h <+: h1) (J : Jobs h1 u js) (X : Ints h1 w xs) : h <+: gc h h1 (.tuple (u :: w :: r).toArray) ∧ Jobs (gc h h1 (.tuple (u :: w :: r).toArray)) u js ∧ Ints (gc h h1 (.tuple (u :: w :: r).toArray)) w xs :=
  ⟨pre_gcU hp, Sees.gcU J fun g => plainT (r := w :: r) g, Sees.gcU X fun g => plain2T (r := r) g⟩
end Go.Pm.PP

/- FnPairLoss in the small machine. -/
set_option linter.unusedVariables false
set_option linter.unusedSimpArgs false
set_option maxRecDepth 4000
set_option maxHeartbeats 16000000
namespace Go.Pm.PP
open Go.Pm Go.Proofs Go.Pm.PE
/-- A ruled order of all jobs. -/
def rulL (o : Int) (js : List Job) : List Int := sortB (aheadR o js) (upTo js.length)
theorem rulL_perm {o : Int} {js : List Job} : (rulL o js).Perm (upTo js.length) := sortB_perm
theorem rulL_ord {o : Int} {js : List Job} : Ord js.length (rulL o js) := by
  have p := @rulL_perm o js
  exact ⟨by rw [p.length_eq, upTo_len], fun x hx => mem_upTo.1 (p.mem_iff.1 hx), p.nodup_iff.2 (upTo_nodup _)⟩
theorem rulL_sorted {o : Int} {js : List Job} (hg : goodL js = true) : (rulL o js).Pairwise fun a b => gapX o js a b ≤ 0 := by
  have t := good_tm hg
  refine List.Pairwise.imp_of_mem (fun {a b} ha hb h => ?_) (sortB_weak (ah := aheadR o js) (l := upTo js.length) ahead_weak)
  have ia := rulL_ord.inn a ha
  have ib := rulL_ord.inn b hb
  rw [ahead_eq t ib ia, decide_eq_false_iff_not] at h
  have := @gap_swap o js a b
  omega
/-- What an order loses. -/
theorem loss_best {js : List Job} (hok : plOk js = true) {o : Int} (ho : o = 2 ∨ o = 3) {xs : List Int} (ox : Ord js.length xs) : valX o js xs - bestV o js = invS o js xs ∧ bestV o js = valX o js (rulL o js) := by
  obtain ⟨hn, hg, _⟩ := plOk_of hok
  have p := plOk_pl hok
  have h1 : ¬ o = 1 := by omega
  have h4 : ¬ o = 4 := by omega
  have key : ∀ ys, Ord js.length ys → valX o js ys = sumGo o js 0 ys := fun ys oy => by
    unfold valX; exact val_sum h1 h4 (ord_prm oy)
  have l : ∀ ys, Ord js.length ys → valX o js ys - valX o js (rulL o js) = invS o js ys := fun ys oy => by
    rw [key ys oy, key _ rulL_ord]
    exact loss_eq p ho ((ord_perm oy).trans rulL_perm.symm) (rulL_sorted hg)
  obtain ⟨f1, f2, f3, f4⟩ := best_facts (f := valX o js) (n := js.length) hn
  have e : bestV o js = (bestR (valX o js) js.length).v := rfl
  have g1 := f4 _ (rulL_ord (o := o))
  have g2 := l _ f3
  have g3 := invS_nonneg (o := o) (js := js) (l := (bestR (valX o js) js.length).o)
  have eb : bestV o js = valX o js (rulL o js) := by rw [e]; omega
  refine ⟨?_, eb⟩
  rw [eb]
  exact l xs ox
theorem gain_gap {js : List Job} (hok : plOk js = true) {o : Int} (ho : o = 2 ∨ o = 3) {xs : List Int} (ox : Ord js.length xs) {i : Nat} (hi : i + 1 < xs.length) : gn (valX o js) xs i = gapX o js (gE xs i) (gE xs (i + 1)) := by
  have p := plOk_pl hok
  obtain ⟨A, x, y, C, e1, e2, e3⟩ := swp_split hi
  have os := swp_ord ox hi
  unfold gn valX
  rw [val_sum (by omega) (by omega) (ord_prm ox), val_sum (by omega) (by omega) (ord_prm os), e3]
  have gx : gE xs i = x := by unfold gE; rw [e1, List.getElem?_append_right (by omega), e2, Nat.sub_self]; rfl
  have gy : gE xs (i + 1) = y := by unfold gE; rw [e1, List.getElem?_append_right (by omega), e2, Nat.add_sub_cancel_left]; rfl
  rw [gx, gy, e1]
  exact sum_swap p ho
end Go.Pm.PP

/- Ruled orders, by both. -/
set_option linter.unusedVariables false
set_option linter.unusedSimpArgs false
set_option maxRecDepth 4000
set_option maxHeartbeats 8000000
namespace Go.Pm.PP
open Go.Pm Go.Proofs Go.Pm.PE
section
variable {h : Hp} {vj v u : Value} {js : List Job} {xs ys : List Int} {o : Int}
theorem vInts_run (hv : Ints h v xs) (hu : Ints h u xs) (hx : xs.length ≤ 2 ^ 40) : Ret P G n_laws_vInts [v, u] h (.bool true) h := by
  refine enter_run e_laws_vInts (by simp) ?_
  have hvs := hv
  have hus := hu
  obtain ⟨oa, c, rfl⟩ := hv.shapeT
  obtain ⟨ob, c', rfl⟩ := hu.shapeT
  simp -implicitDefEqProofs
  refine R_loopO (fun m s h' => ∃ i : Nat, i + m = xs.length ∧ s = [(0, .slice oa xs.length c), (1, .slice ob xs.length c'), (5, .int .i64 i)] ∧ h' = h) (fun I hI m s h' => ?_) (n := xs.length) ⟨0, Nat.zero_add _, by simp, rfl⟩
  rintro ⟨i, hi, rfl, rfl⟩
  by_cases hlt : i < xs.length
  · obtain ⟨x, hx', _⟩ := drop_at hlt
    simp -implicitDefEqProofs [-indexAddrP_some, hlt, load_I hvs hx', load_I hus hx', winc hlt hx]
    exact ⟨m - 1, by omega, on hI ⟨i + 1, by omega, rfl, rfl⟩⟩
  · simp -implicitDefEqProofs [hlt]
theorem specIsPlain_run (hj : Jobs h vj js) (hn : js.length ≤ 2 ^ 40) : Ret P G n_spec_IsPlain [vj] h (.bool (plOk js)) h := by
  refine enter_run e_spec_IsPlain (by simp) ?_
  have r1 := good_run hj hn
  have r2 := l3Plain_run hj hn
  obtain ⟨oa, c, rfl⟩ := hj.shapeT
  cases c1 : jOk js
  · simp -implicitDefEqProofs [CL_ret r1, c1, plOk]
  · simp -implicitDefEqProofs [CL_ret r1, c1, plOk, CL_ret r2]
theorem ruledOrder_1_run {a b : Int} {r q : Nat} (J : Jobs h vj js) (hg : goodL js = true) (hb : h[r]? = some (some ⟨[vj], 0, false⟩)) (hq : h[q]? = some (some ⟨[.int .i64 o], 0, false⟩)) (ha : 0 ≤ a ∧ a < js.length) (hb' : 0 ≤ b ∧ b < js.length) :
    Ret P G n_impl_ruledOrder_1 [.int .i64 a, .int .i64 b, .pointer (some ⟨r, 0, some 1⟩), .pointer (some ⟨q, 0, some 1⟩)] h (.bool (aheadR o js a b)) h := by
  refine enter_run e_impl_ruledOrder_1 (by simp) ?_
  have Js := J
  obtain ⟨oj, cj, rfl⟩ := J.shapeT
  have lb := load_pre (n := 1) List.prefix_rfl hb rfl
  have lq := load_pre (n := 1) List.prefix_rfl hq rfl
  have rd := fun {hh : Hp} => difference_run (h := hh) (o := o) (jobOk_jA hg ha) (jobOk_jA hg hb')
  rw [ahead_eq (good_tm hg) ha hb']
  have e : gapJ o (jA js a) (jA js b) = gapX o js a b := rfl
  rw [e] at rd
  simp -implicitDefEqProofs [-indexAddrP_some, lb, lq, load_JX Js ha, load_JX Js hb', CL_ret rd, CH_at rd]
theorem ruledOrder_run (J : Jobs h vj js) (hg : goodL js = true) (hn : js.length ≤ 8) : RunsC P G n_impl_ruledOrder [vj, .int .i64 o] h fun w h' => h <+: h' ∧ Own h.length h' w 1 ((rulL o js).map encI) := by
  refine hideC fun K hK => enter_run e_impl_ruledOrder (by simp) ?_
  have Js := J
  obtain ⟨oj, cj, rfl⟩ := J.shapeT
  have H0 := ((Holds.start (h := h)).alloc [.slice oj js.length cj]).alloc [.int .i64 o]
  simp only [List.append_assoc, List.cons_append, List.nil_append, List.length_append, List.length_cons, List.length_nil, Nat.zero_add] at H0
  simp -implicitDefEqProofs
  refine CL_post (numbersTo_run (by omega)) fun v1 h1 ⟨hp1, ho1⟩ => ?_
  have H1 := H0.ext hp1
  simp -implicitDefEqProofs
  refine CL_post (sortedBy_run (ah := aheadR o js) ho1.sees (by rw [upTo_len]; omega) fun h2 hp2 a b ha hb => ?_) fun v2 h2 ⟨hp2, ho2⟩ => ?_
  · have H2 := H1.ext hp2
    exact ruledOrder_1_run (Js.pre H2.pre) hg (H2.box 0 rfl) (H2.box 1 rfl) (upTo_in a ha) (upTo_in b hb)
  · simp -implicitDefEqProofs
    have H := (Holds.start (h := h)).call (H1.pre.trans hp2) (ho2.low H1.pre.length_le)
    exact onK hK (H.ret 0 rfl)
def ruleF (o : Int) (js : List Job) : List Int := if ruOk js o = true then rulL o js else []
theorem implRuledOrder_run (J : Jobs h vj js) (hl : js.length ≤ 2 ^ 40) : RunsC P G n_impl_RuledOrder [vj, .int .i64 o] h fun w h' => h <+: h' ∧ ∃ d, w = .tuple #[d, .bool (ruOk js o)] ∧ Ints h' d (ruleF o js) := by
  refine hideC fun K hK => enter_run e_impl_RuledOrder (by simp) ?_
  have r1 := isRuled_run (o := o) J hl
  have Js := J
  obtain ⟨oj, cj, rfl⟩ := J.shapeT
  cases c1 : ruOk js o
  · rw [ruleF, c1] at hK
    simp -implicitDefEqProofs [CL_ret r1, c1]
    exact onK hK ⟨List.prefix_rfl, _, rfl, ⟨by simp, none, 0, rfl, .inl ⟨rfl, rfl, rfl⟩⟩⟩
  · obtain ⟨hn, hg, _⟩ := ruOk_of c1
    rw [ruleF, c1, if_pos rfl] at hK
    simp -implicitDefEqProofs [CL_ret r1, c1]
    refine CL_post (ruledOrder_run (o := o) Js hg hn) fun v1 h1 ⟨hp1, ho1⟩ => ?_
    simp -implicitDefEqProofs
    exact onK hK ⟨pre_gcU hp1, _, rfl, Sees.gcU ho1.sees fun g => plainT (r := [_]) g⟩
theorem specRuledOrder_run (J : Jobs h vj js) (hl : js.length ≤ 2 ^ 40) : RunsC P G n_spec_RuledOrder [vj, .int .i64 o] h fun w h' => h <+: h' ∧ ∃ d, w = .tuple #[d, .bool (ruOk js o)] ∧ Ints h' d (ruleF o js) := by
  refine hideC fun K hK => enter_run e_spec_RuledOrder (by simp) ?_
  have r1 := l3Ruled_run (o := o) J hl
  have Js := J
  obtain ⟨oj, cj, rfl⟩ := J.shapeT
  cases c1 : ruOk js o
  · rw [ruleF, c1] at hK
    simp -implicitDefEqProofs [CL_ret r1, c1]
    exact onK hK ⟨List.prefix_rfl, _, rfl, ⟨by simp, none, 0, rfl, .inl ⟨rfl, rfl, rfl⟩⟩⟩
  · obtain ⟨hn, hg, _⟩ := ruOk_of c1
    rw [ruleF, c1, if_pos rfl] at hK
    simp -implicitDefEqProofs [CL_ret r1, c1]
    refine CL_post (l3Order_run (o := o) Js hg hn) fun v1 h1 ⟨hp1, ho1⟩ => ?_
    rw [ruled_eq (good_tm hg) up_asc' upTo_in] at ho1
    simp -implicitDefEqProofs
    exact onK hK ⟨pre_gcU hp1, _, rfl, Sees.gcU ho1.sees fun g => plainT (r := [_]) g⟩
theorem l3Wrong_run (J : Jobs h vj js) (X : Ints h v xs) (hg : goodL js = true) (hn : js.length ≤ 8) (ox : Ord js.length xs) : ∃ w : Int, decide (w < 0) = ruledB o js xs ∧ Ret P G n_spec_l3Wrong [vj, v, .int .i64 o] h (.int .i64 w) h := by
  have hxl := ox.len
  have hnext := @ruled_next o js xs
  by_cases hr : ∃ i x y, xs[i]? = some x ∧ xs[i + 1]? = some y ∧ 0 < gapX o js x y
  · have hex : ∃ i, ∃ x y, xs[i]? = some x ∧ xs[i + 1]? = some y ∧ 0 < gapX o js x y := hr
    obtain ⟨i0, ⟨x0, y0, hx0, hy0, g0⟩, hmin⟩ : ∃ i, (∃ x y, xs[i]? = some x ∧ xs[i + 1]? = some y ∧ 0 < gapX o js x y) ∧ ∀ j, j < i → ¬ ∃ x y, xs[j]? = some x ∧ xs[j + 1]? = some y ∧ 0 < gapX o js x y := by
      obtain ⟨i, hi⟩ := hex
      induction i using Nat.strongRecOn with
      | ind i ih =>
        by_cases hj : ∃ j, j < i ∧ ∃ x y, xs[j]? = some x ∧ xs[j + 1]? = some y ∧ 0 < gapX o js x y
        · obtain ⟨j, h1, h2⟩ := hj
          exact ih j h1 h2
        · exact ⟨i, hi, fun j h1 h2 => hj ⟨j, h1, h2⟩⟩
    refine ⟨i0, ?_, ?_⟩
    · have : ruledB o js xs = false := by
        cases c : ruledB o js xs with
        | false => rfl
        | true => have := hnext.1 c i0 x0 y0 hx0 hy0; omega
      rw [this, decide_eq_false_iff_not]; omega
    · refine enter_run e_spec_l3Wrong (by simp) ?_
      have Js := J
      have Xs := X
      obtain ⟨oj, cj, rfl⟩ := J.shapeT
      obtain ⟨oa, ca, rfl⟩ := X.shapeT
      have hi1 := (List.getElem?_eq_some_iff.1 hy0).1
      simp -implicitDefEqProofs
      refine R_loopO (fun m s h' => ∃ i : Nat, i + m = i0 ∧ s = [(0, .slice oj js.length cj), (1, .slice oa xs.length ca), (2, .int .i64 o), (7, .int .i64 i)] ∧ h' = h) (fun I hI m s h' => ?_) (n := i0) ⟨0, Nat.zero_add _, by simp, rfl⟩
      rintro ⟨i, hi, rfl, rfl⟩
      have hlt : i + 1 < xs.length := by omega
      have hlt' : (i : Int) + 1 < xs.length := by omega
      obtain ⟨x, hx, _⟩ := drop_at (show i < xs.length by omega)
      obtain ⟨y, hy, _⟩ := drop_at hlt
      have lx := load_I Xs hx
      have ly := load_I Xs hy
      rw [show ((i + 1 : Nat) : Int) = (i : Int) + 1 by omega] at ly
      have w1 : IntKind.i64.wrap ((i : Int) + 1) = (i : Int) + 1 := by rw [wrap_ok] <;> omega
      have rg := l3Gap_run (o := o) Js hg (ox.inn x (List.mem_of_getElem? hx)) (ox.inn y (List.mem_of_getElem? hy))
      by_cases c : i < i0
      · have g : ¬ 0 < gapX o js x y := fun g => hmin i c ⟨x, y, hx, hy, g⟩
        simp -implicitDefEqProofs [-indexAddrP_some, w1, hlt', lx, ly, CL_ret rg, CH_at rg, g]
        exact ⟨m - 1, by omega, on hI ⟨i + 1, by omega, rfl, rfl⟩⟩
      · have : i = i0 := by omega
        subst this
        rw [hx0] at hx; cases hx
        rw [hy0] at hy; cases hy
        simp -implicitDefEqProofs [-indexAddrP_some, w1, hlt', lx, ly, CL_ret rg, CH_at rg, g0]
  · have hall : ∀ i x y, xs[i]? = some x → xs[i + 1]? = some y → ¬ 0 < gapX o js x y := fun i x y h1 h2 h3 => hr ⟨i, x, y, h1, h2, h3⟩
    refine ⟨-1, ?_, ?_⟩
    · have : ruledB o js xs = true := hnext.2 fun i x y h1 h2 => by have := hall i x y h1 h2; omega
      rw [this]; rfl
    · refine enter_run e_spec_l3Wrong (by simp) ?_
      have Js := J
      have Xs := X
      obtain ⟨oj, cj, rfl⟩ := J.shapeT
      obtain ⟨oa, ca, rfl⟩ := X.shapeT
      simp -implicitDefEqProofs
      refine R_loopO (fun m s h' => ∃ i : Nat, (i + 1 + m = xs.length ∨ (xs.length ≤ i + 1 ∧ m = 0)) ∧ i ≤ xs.length ∧ s = [(0, .slice oj js.length cj), (1, .slice oa xs.length ca), (2, .int .i64 o), (7, .int .i64 i)] ∧ h' = h) (fun I hI m s h' => ?_) (n := xs.length - 1) ⟨0, by omega, by omega, by simp, rfl⟩
      rintro ⟨i, hi, hi2, rfl, rfl⟩
      have w1 : IntKind.i64.wrap ((i : Int) + 1) = (i : Int) + 1 := by rw [wrap_ok] <;> omega
      by_cases hlt : i + 1 < xs.length
      · have hlt' : (i : Int) + 1 < xs.length := by omega
        obtain ⟨x, hx, _⟩ := drop_at (show i < xs.length by omega)
        obtain ⟨y, hy, _⟩ := drop_at hlt
        have lx := load_I Xs hx
        have ly := load_I Xs hy
        rw [show ((i + 1 : Nat) : Int) = (i : Int) + 1 by omega] at ly
        have rg := l3Gap_run (o := o) Js hg (ox.inn x (List.mem_of_getElem? hx)) (ox.inn y (List.mem_of_getElem? hy))
        have g := hall i x y hx hy
        simp -implicitDefEqProofs [-indexAddrP_some, w1, hlt', lx, ly, CL_ret rg, CH_at rg, g]
        exact ⟨m - 1, by omega, on hI ⟨i + 1, by omega, by omega, rfl, rfl⟩⟩
      · have hlt' : ¬ (i : Int) + 1 < xs.length := by omega
        simp -implicitDefEqProofs [w1, hlt']
theorem specIsRuledOrder_run (J : Jobs h vj js) (X : Ints h v xs) (hl : js.length ≤ 2 ^ 40) (hx : xs.length ≤ 2 ^ 40) : Ret P G n_spec_IsRuledOrder [vj, v, .int .i64 o] h (.tuple #[.bool (ruAll js xs o && ruledB o js xs), .bool (ruAll js xs o)]) h := by
  refine enter_run e_spec_IsRuledOrder (by simp) ?_
  have r1 := l3Both_run (o := o) J X hl hx
  have Js := J
  have Xs := X
  obtain ⟨oj, cj, rfl⟩ := J.shapeT
  obtain ⟨oa, ca, rfl⟩ := X.shapeT
  cases c1 : ruAll js xs o
  · simp -implicitDefEqProofs [CL_ret r1, c1]
  · obtain ⟨g1, ox⟩ := ruAll_of c1
    obtain ⟨hn, hg, _⟩ := ruOk_of g1
    obtain ⟨w, e, rw'⟩ := l3Wrong_run (o := o) Js Xs hg hn ox
    rw [← e]
    simp -implicitDefEqProofs [CL_ret r1, c1, CL_ret rw']
/-! ### rule differences -/
def rdOk (js : List Job) (o x y : Int) : Bool := ruOk js o && inB x 0 (w64 ((js.length : Int) - 1)) && inB y 0 (w64 ((js.length : Int) - 1))
def rdV (js : List Job) (o x y : Int) : Int := if rdOk js o x y = true then gapX o js x y else 0
theorem rdOk_of {js : List Job} {o x y : Int} (h : rdOk js o x y = true) : ruOk js o = true ∧ (0 ≤ x ∧ x < js.length) ∧ 0 ≤ y ∧ y < js.length := by
  simp only [rdOk, Bool.and_eq_true] at h
  have hn := (ruOk_of h.1.1).1
  have wn : w64 ((js.length : Int) - 1) = (js.length : Int) - 1 := by unfold w64; rw [wrap_ok] <;> omega
  rw [wn] at h
  simp only [inB, Bool.and_eq_true, decide_eq_true_eq] at h
  exact ⟨h.1.1, by omega, by omega⟩
theorem implRuleDiff_run {x y : Int} (J : Jobs h vj js) (hl : js.length ≤ 2 ^ 40) : Ret P G n_impl_RuleDifference [vj, .int .i64 o, .int .i64 x, .int .i64 y] h (.tuple #[.int .i64 (rdV js o x y), .bool (rdOk js o x y)]) h := by
  refine enter_run e_impl_RuleDifference (by simp) ?_
  have r1 := isRuled_run (o := o) J hl
  have Js := J
  obtain ⟨oj, cj, rfl⟩ := J.shapeT
  cases c1 : ruOk js o
  · simp -implicitDefEqProofs [CL_ret r1, c1, rdV, rdOk]
  obtain ⟨hn, hg, _⟩ := ruOk_of c1
  cases c2 : inB x 0 (w64 ((js.length : Int) - 1))
  · simp -implicitDefEqProofs [CL_ret r1, c1, rdV, rdOk, CL_ret isNumber_run, c2]
  cases c3 : inB y 0 (w64 ((js.length : Int) - 1))
  · simp -implicitDefEqProofs [CL_ret r1, c1, rdV, rdOk, CL_ret isNumber_run, c2, c3]
  have hok : rdOk js o x y = true := by rw [rdOk, c1, c2, c3]; rfl
  obtain ⟨_, hx, hy⟩ := rdOk_of hok
  have jx := load_JX Js hx
  have jy := load_JX Js hy
  have rd := fun {hh : Hp} => difference_run (h := hh) (o := o) (jobOk_jA hg hx) (jobOk_jA hg hy)
  have eg : gapJ o (jA js x) (jA js y) = gapX o js x y := rfl
  rw [eg] at rd
  rw [rdV, if_pos hok, hok]
  simp -implicitDefEqProofs [-indexAddrP_some, CL_ret r1, c1, CL_ret isNumber_run, c2, c3, jx, jy, CL_ret rd, CH_at rd]
theorem l3Job_run {x : Int} (J : Jobs h vj js) (hn : js.length ≤ 8) : Ret P G n_spec_l3Job [vj, .int .i64 x] h (.bool (inB x 0 (w64 ((js.length : Int) - 1)))) h := by
  refine enter_run e_spec_l3Job (by simp) ?_
  obtain ⟨oj, cj, rfl⟩ := J.shapeT
  simp -implicitDefEqProofs [CL_ret l1In_run, w64]
theorem specRuleDiff_run {x y : Int} (J : Jobs h vj js) (hl : js.length ≤ 2 ^ 40) : Ret P G n_spec_RuleDifference [vj, .int .i64 o, .int .i64 x, .int .i64 y] h (.tuple #[.int .i64 (rdV js o x y), .bool (rdOk js o x y)]) h := by
  refine enter_run e_spec_RuleDifference (by simp) ?_
  have r1 := l3Ruled_run (o := o) J hl
  have Js := J
  obtain ⟨oj, cj, rfl⟩ := J.shapeT
  cases c1 : ruOk js o
  · simp -implicitDefEqProofs [CL_ret r1, c1, rdV, rdOk]
  obtain ⟨hn, hg, _⟩ := ruOk_of c1
  have rx := l3Job_run (x := x) Js hn
  have ry := l3Job_run (x := y) Js hn
  cases c2 : inB x 0 (w64 ((js.length : Int) - 1))
  · simp -implicitDefEqProofs [CL_ret r1, c1, rdV, rdOk, CL_ret rx, c2]
  cases c3 : inB y 0 (w64 ((js.length : Int) - 1))
  · simp -implicitDefEqProofs [CL_ret r1, c1, rdV, rdOk, CL_ret rx, CL_ret ry, c2, c3]
  have hok : rdOk js o x y = true := by rw [rdOk, c1, c2, c3]; rfl
  obtain ⟨_, hx, hy⟩ := rdOk_of hok
  have rd := l3Gap_run (o := o) Js hg hx hy
  rw [rdV, if_pos hok, hok]
  simp -implicitDefEqProofs [CL_ret r1, c1, CL_ret rx, CL_ret ry, c2, c3, CL_ret rd]
theorem rd_swap {js : List Job} {o x y : Int} : rdOk js o y x = rdOk js o x y ∧ rdV js o y x = - rdV js o x y := by
  have h1 : rdOk js o y x = rdOk js o x y := by unfold rdOk; rw [Bool.and_assoc, Bool.and_comm (inB y _ _), ← Bool.and_assoc]
  refine ⟨h1, ?_⟩
  unfold rdV
  rw [h1]
  split
  · exact gap_swap
  · rfl
end
/-! ### ruled orders are best -/
theorem ruled_best {js : List Job} {o : Int} (hok : ruOk js o = true) {xs : List Int} (ox : Ord js.length xs) : (ruledB o js xs = true → valX o js xs = bestV o js) ∧ (o = 2 ∨ o = 3 → (ruledB o js xs = (valX o js xs == bestV o js))) := by
  obtain ⟨hn, hg, ho, hpl⟩ := ruOk_of hok
  have t := good_tm hg
  have hiff := ruled_iff (o := o) t ox.inn
  obtain ⟨f1, f2, f3, f4⟩ := best_facts (f := valX o js) (n := js.length) hn
  have e : bestV o js = (bestR (valX o js) js.length).v := rfl
  have main : ∀ ys, Ord js.length ys → (xs.Pairwise fun a b => gapX o js a b ≤ 0) → valX o js xs ≤ valX o js ys := fun ys oy hs => by
    have hp := (ord_perm oy).trans (ord_perm ox).symm
    rcases (show o = 1 ∨ o = 2 ∨ o = 3 ∨ o = 4 by omega) with rfl | rfl | rfl | rfl
    · have ht : ∀ x, 0 ≤ (jA js x).t := fun x => by
        rcases @jA_in js x with g | g
        · have := job_of (List.all_eq_true.1 hg _ g); omega
        · rw [g]; exact Int.le_refl _
      unfold valX
      rw [val_end ht (ord_prm ox), val_end ht (ord_prm oy)]
      exact end_best ht (hs.imp fun h => by simp only [gapX, gapJ] at h; simp at h; omega) hp
    · have hp1 : plOk js = true := by rcases hpl with g | g; omega; exact g
      unfold valX
      rw [val_sum (by omega) (by omega) (ord_prm ox), val_sum (by omega) (by omega) (ord_prm oy)]
      exact sum_best (plOk_pl hp1) (.inl rfl) hs hp
    · have hp1 : plOk js = true := by rcases hpl with g | g; omega; exact g
      unfold valX
      rw [val_sum (by omega) (by omega) (ord_prm ox), val_sum (by omega) (by omega) (ord_prm oy)]
      exact sum_best (plOk_pl hp1) (.inr rfl) hs hp
    · have hp1 : plOk js = true := by rcases hpl with g | g; omega; exact g
      rcases Nat.eq_zero_or_pos js.length with h0 | h0
      · have e1 : xs = [] := List.eq_nil_of_length_eq_zero (by rw [ox.len, h0])
        have e2 : ys = [] := List.eq_nil_of_length_eq_zero (by rw [oy.len, h0])
        rw [e1, e2]; exact Int.le_refl _
      · rw [valX_lat hp1 ox h0, valX_lat hp1 oy h0]
        exact lat_best (plOk_pl hp1) (hs.imp fun h => by simp only [gapX, gapJ] at h; simp at h; omega) hp
  have one : ruledB o js xs = true → valX o js xs = bestV o js := fun hr => by
    have h1 := main _ f3 (hiff.1 hr)
    have h2 := f4 _ ox
    rw [e]; omega
  refine ⟨one, fun h23 => ?_⟩
  have hp1 : plOk js = true := by rcases hpl with g | g; omega; exact g
  have lb := (loss_best hp1 h23 ox).1
  rw [Bool.eq_iff_iff, beq_iff_eq]
  refine ⟨one, fun hv => hiff.2 ?_⟩
  have h0 : invS o js xs = 0 := by omega
  rw [← inv_nil]
  have key : ∀ l : List Int, invS o js l = 0 → invL o js l = [] := by
    intro l
    induction l with
    | nil => intro _; rfl
    | cons x r ih =>
      intro h
      have hR : ∀ {r : List Int}, 0 ≤ invR o js x r ∧ (invR o js x r = 0 → invL1 o js x r = []) := by
        intro r
        induction r with
        | nil => exact ⟨Int.le_refl _, fun _ => rfl⟩
        | cons y r ih2 =>
          rw [invR_cons]
          refine ⟨by have := ih2.1; omega, fun g => ?_⟩
          have h1 := ih2.1
          have h2 : gapX o js x y ≤ 0 := by omega
          have h3 := ih2.2 (by omega)
          unfold invL1 at h3 ⊢
          rw [List.filter_cons, if_neg (by simp; omega)]
          exact h3
      rw [invS] at h
      have h1 := (hR (r := r)).1
      have h2 := invS_nonneg (o := o) (js := js) (l := r)
      rw [invL, (hR (r := r)).2 (by omega), ih (by omega)]; rfl
  exact key xs h0
end Go.Pm.PP

/- Fronts of points, in plain terms. -/
set_option linter.unusedVariables false
set_option linter.unusedSimpArgs false
namespace Go.Pm.PE
abbrev Pt := Int × Int
def domB (p q : Pt) : Bool := !(p.1 == q.1 && p.2 == q.2) && decide (p.1 ≤ q.1) && decide (p.2 ≤ q.2)
def sameB (p q : Pt) : Bool := p.1 == q.1 && p.2 == q.2
theorem sameB_iff {p q : Pt} : sameB p q = true ↔ p = q := by
  unfold sameB; rw [Bool.and_eq_true, beq_iff_eq, beq_iff_eq]
  constructor
  · rintro ⟨h1, h2⟩; exact Prod.ext h1 h2
  · rintro rfl; exact ⟨rfl, rfl⟩
theorem domB_iff {p q : Pt} : domB p q = true ↔ p ≠ q ∧ p.1 ≤ q.1 ∧ p.2 ≤ q.2 := by
  have := @sameB_iff p q
  unfold sameB at this
  unfold domB
  rw [Bool.and_eq_true, Bool.and_eq_true, Bool.not_eq_true', decide_eq_true_eq, decide_eq_true_eq, ← Bool.not_eq_true, this, and_assoc]
def insP (p : Pt) : List Pt → List Pt
  | [] => [p]
  | q :: l => if p.1 < q.1 then p :: q :: l else q :: insP p l
theorem insP_perm {p : Pt} : ∀ {l : List Pt}, (insP p l).Perm (p :: l)
  | [] => List.Perm.refl _
  | q :: l => by
    rw [insP]; split
    · exact List.Perm.refl _
    · exact (List.Perm.cons q insP_perm).trans (List.Perm.swap ..)
/-- A point or one that dominates it is there. -/
def coverB (F : List Pt) (p : Pt) : Bool := F.any fun q => sameB q p || domB q p
def restF (F : List Pt) (p : Pt) : List Pt := F.filter fun q => !domB p q
def putF (F : List Pt) (p : Pt) : List Pt := if coverB F p = true then F else insP p (restF F p)
def Srt (F : List Pt) : Prop := F.Pairwise fun a b => a.1 < b.1 ∧ b.2 < a.2
theorem insP_split {p : Pt} : ∀ {l : List Pt} {k : Nat}, k ≤ l.length → (∀ i q, i < k → l[i]? = some q → q.1 ≤ p.1) → (∀ q, l[k]? = some q → p.1 < q.1) → insP p l = l.take k ++ p :: l.drop k
  | [], k, hk, _, _ => by
    have : k = 0 := by simpa using hk
    subst this; rfl
  | q :: l, 0, _, _, h2 => by rw [insP, if_pos (h2 q rfl)]; rfl
  | q :: l, k + 1, hk, h1, h2 => by
    have := h1 0 q (by omega) rfl
    rw [insP, if_neg (by omega), insP_split (k := k) (by simpa using hk) (fun i z hi hz => h1 (i + 1) z (by omega) (by simpa using hz)) (fun z hz => h2 z (by simpa using hz))]
    rfl
theorem rest_srt {F : List Pt} {p : Pt} (h : Srt F) : Srt (restF F p) := h.sublist List.filter_sublist
theorem rest_mem {F : List Pt} {p q : Pt} : q ∈ restF F p ↔ q ∈ F ∧ domB p q = false := by
  unfold restF; rw [List.mem_filter]; simp
theorem cover_iff {F : List Pt} {p : Pt} : coverB F p = true ↔ ∃ q, q ∈ F ∧ q.1 ≤ p.1 ∧ q.2 ≤ p.2 := by
  unfold coverB
  rw [List.any_eq_true]
  constructor
  · rintro ⟨q, hq, h⟩
    rw [Bool.or_eq_true, sameB_iff, domB_iff] at h
    refine ⟨q, hq, ?_⟩
    rcases h with rfl | h
    · exact ⟨Int.le_refl _, Int.le_refl _⟩
    · exact h.2
  · rintro ⟨q, hq, h1, h2⟩
    refine ⟨q, hq, ?_⟩
    rw [Bool.or_eq_true, sameB_iff, domB_iff]
    by_cases e : q = p
    · exact .inl e
    · exact .inr ⟨e, h1, h2⟩
/-- What is left and the new point part in both numbers. -/
theorem rest_part {F : List Pt} {p q : Pt} (hc : coverB F p = false) (hq : q ∈ restF F p) : (q.1 < p.1 ∧ p.2 < q.2) ∨ (p.1 < q.1 ∧ q.2 < p.2) := by
  obtain ⟨h1, h2⟩ := rest_mem.1 hq
  have h3 : ¬ (q.1 ≤ p.1 ∧ q.2 ≤ p.2) := fun g => by
    have := cover_iff.2 ⟨q, h1, g⟩
    rw [this] at hc; cases hc
  have h4 : ¬ (p ≠ q ∧ p.1 ≤ q.1 ∧ p.2 ≤ q.2) := fun g => by
    rw [domB_iff.2 g] at h2; cases h2
  have h5 : ¬ (p.1 ≤ q.1 ∧ p.2 ≤ q.2) := fun g => h4 ⟨fun e => h3 (by rw [e]; exact ⟨Int.le_refl _, Int.le_refl _⟩), g⟩
  omega
theorem insP_srt {p : Pt} : ∀ {l : List Pt}, Srt l → (∀ q, q ∈ l → (q.1 < p.1 ∧ p.2 < q.2) ∨ (p.1 < q.1 ∧ q.2 < p.2)) → Srt (insP p l)
  | [], _, _ => by rw [insP]; exact List.pairwise_singleton ..
  | q :: l, h, hp => by
    have h := List.pairwise_cons.1 h
    have hq := hp q (List.mem_cons_self ..)
    rw [insP]; split
    · rename_i g
      refine List.pairwise_cons.2 ⟨fun z hz => ?_, List.pairwise_cons.2 h⟩
      rcases List.mem_cons.1 hz with rfl | hz
      · omega
      · have := h.1 z hz; omega
    · rename_i g
      refine List.pairwise_cons.2 ⟨fun z hz => ?_, insP_srt h.2 fun z hz => hp z (List.mem_cons_of_mem _ hz)⟩
      rcases List.mem_cons.1 (insP_perm.mem_iff.1 hz) with rfl | hz
      · omega
      · exact h.1 z hz
theorem putF_srt {F : List Pt} {p : Pt} (h : Srt F) : Srt (putF F p) := by
  unfold putF; split
  · exact h
  · rename_i hc
    exact insP_srt (rest_srt h) fun q hq => rest_part (by simpa using hc) hq
theorem putF_mem {F : List Pt} {p q : Pt} (h : q ∈ putF F p) : q = p ∨ q ∈ F := by
  unfold putF at h; split at h
  · exact .inr h
  · rcases List.mem_cons.1 (insP_perm.mem_iff.1 h) with g | g
    · exact .inl g
    · exact .inr (rest_mem.1 g).1
theorem putF_cover {F : List Pt} {p r : Pt} (h : r = p ∨ ∃ q, q ∈ F ∧ q.1 ≤ r.1 ∧ q.2 ≤ r.2) : ∃ q, q ∈ putF F p ∧ q.1 ≤ r.1 ∧ q.2 ≤ r.2 := by
  unfold putF; split
  · rename_i hc
    rcases h with rfl | h
    · exact cover_iff.1 hc
    · exact h
  · have hp : p ∈ insP p (restF F p) := insP_perm.mem_iff.2 (List.mem_cons_self ..)
    rcases h with rfl | ⟨q, hq, h1, h2⟩
    · exact ⟨r, hp, Int.le_refl _, Int.le_refl _⟩
    · cases hd : domB p q with
      | true =>
        have := domB_iff.1 hd
        exact ⟨p, hp, by omega, by omega⟩
      | false => exact ⟨q, insP_perm.mem_iff.2 (List.mem_cons_of_mem _ (rest_mem.2 ⟨hq, hd⟩)), h1, h2⟩
theorem putF_len {F : List Pt} {p : Pt} : (putF F p).length ≤ F.length + 1 := by
  unfold putF; split
  · omega
  · rw [insP_perm.length_eq, List.length_cons]
    have := List.length_filter_le (fun q => !domB p q) F
    unfold restF; omega
/-- A front of the points of some things. -/
theorem front_fold {α : Type} {pt : α → Pt} : ∀ {l : List α} {F : List Pt} {S : Pt → Prop}, Srt F → (∀ q, q ∈ F → S q) → (∀ x, x ∈ l → S (pt x)) →
    Srt (l.foldl (fun F x => putF F (pt x)) F) ∧ (∀ q, q ∈ l.foldl (fun F x => putF F (pt x)) F → S q) ∧ ∀ r, ((∃ x, x ∈ l ∧ r = pt x) ∨ ∃ q, q ∈ F ∧ q.1 ≤ r.1 ∧ q.2 ≤ r.2) → ∃ q, q ∈ l.foldl (fun F x => putF F (pt x)) F ∧ q.1 ≤ r.1 ∧ q.2 ≤ r.2
  | [], F, S, h, hS, _ => ⟨h, hS, fun r hr => by
      rcases hr with ⟨x, hx, _⟩ | g
      · cases hx
      · exact g⟩
  | x :: l, F, S, h, hS, hl => by
    rw [List.foldl_cons]
    obtain ⟨h1, h2, h3⟩ := front_fold (l := l) (F := putF F (pt x)) (S := S) (putF_srt h) (fun q hq => by
      rcases putF_mem hq with rfl | g
      · exact hl x (List.mem_cons_self ..)
      · exact hS q g) fun y hy => hl y (List.mem_cons_of_mem _ hy)
    refine ⟨h1, h2, fun r hr => h3 r ?_⟩
    rcases hr with ⟨y, hy, e⟩ | g
    · rcases List.mem_cons.1 hy with rfl | hy
      · exact .inr (putF_cover (.inl e))
      · exact .inl ⟨y, hy, e⟩
    · exact .inr (putF_cover (.inr g))
/-! ### the first one that fits -/
def ffs (P : List Int → Bool) (n : Nat) : Nat → List Int → Option (List Int)
  | 0, begun => if P begun = true then some begun else none
  | k + 1, begun => (List.range' 0 n).findSome? fun (j : Nat) => if begun.any (· == (j : Int)) = true then none else ffs P n k (begun ++ [(j : Int)])
theorem findSome_map {α β : Type} {f : β → Option (List Int)} {g : α → β} : ∀ {l : List α}, (l.map g).findSome? f = l.findSome? fun x => f (g x)
  | [] => rfl
  | x :: l => by
    rw [List.map_cons, List.findSome?_cons, List.findSome?_cons]
    cases f (g x) with
    | none => exact findSome_map
    | some y => rfl
theorem findSome_filter {α : Type} {f : α → Option (List Int)} {q : α → Bool} : ∀ {l : List α}, (l.filter q).findSome? f = l.findSome? fun x => if q x = true then f x else none
  | [] => rfl
  | x :: l => by
    rw [List.filter_cons, List.findSome?_cons]
    cases h : q x with
    | false => simp only [Bool.false_eq_true, if_false]; exact findSome_filter
    | true =>
      simp only [if_true]
      rw [List.findSome?_cons]
      cases f x with
      | none => exact findSome_filter
      | some y => rfl
theorem find_flat {α : Type} {f : α → List (List Int)} {P : List Int → Bool} : ∀ {l : List α}, (l.flatMap f).find? P = l.findSome? fun x => (f x).find? P
  | [] => rfl
  | x :: l => by
    rw [List.flatMap_cons, List.find?_append, List.findSome?_cons]
    cases (f x).find? P with
    | none => simp
    | some y => rfl
theorem find_maps {P : List Int → Bool} {g : List Int → List Int} : ∀ {l : List (List Int)}, (l.map g).find? P = (l.find? fun x => P (g x)).map g
  | [] => rfl
  | x :: l => by
    rw [List.map_cons, List.find?_cons, List.find?_cons]
    cases P (g x) with
    | false => exact find_maps
    | true => rfl
theorem findSome_idx {f : Int → Option (List Int)} {l : List Int} : ∀ {m i : Nat}, i + m = l.length → (List.range' i m).findSome? (fun i => f ((l[i]?).getD 0)) = (l.drop i).findSome? f
  | 0, i, h => by rw [List.drop_eq_nil_of_le (by omega)]; rfl
  | m + 1, i, h => by
    obtain ⟨x, hx, hd⟩ := drop_at (show i < l.length by omega)
    rw [List.range'_succ, List.findSome?_cons, hd, List.findSome?_cons, hx, Option.getD_some]
    cases f x with
    | none => exact findSome_idx (by omega)
    | some y => rfl
theorem findSome_congr {α : Type} {f g : α → Option (List Int)} : ∀ {l : List α}, (∀ x, x ∈ l → f x = g x) → l.findSome? f = l.findSome? g
  | [], _ => rfl
  | x :: l, h => by
    rw [List.findSome?_cons, List.findSome?_cons, h x (List.mem_cons_self ..)]
    cases g x with
    | none => exact findSome_congr fun y hy => h y (List.mem_cons_of_mem _ hy)
    | some y => rfl
end Go.Pm.PE
namespace Go.Pm.PP
open Go.Pm Go.Pm.PE
theorem ffs_perms {P : List Int → Bool} {n : Nat} : ∀ {k : Nat} {begun : List Int}, (rem n begun).length = k → ffs P n k begun = ((perms (rem n begun) k).find? fun o => P (begun ++ o)).map (begun ++ ·)
  | 0, begun, _ => by
    rw [ffs, perms, List.find?_cons, List.append_nil]
    cases h : P begun <;> simp
  | k + 1, begun, h => by
    rw [ffs, perms, find_flat]
    have e1 : ((List.range' 0 n).findSome? fun (j : Nat) => if begun.any (· == (j : Int)) = true then none else ffs P n k (begun ++ [(j : Int)])) = (rem n begun).findSome? fun x => ffs P n k (begun ++ [x]) := by
      unfold rem
      rw [findSome_filter, findSome_map]
      refine findSome_congr fun j _ => ?_
      cases begun.any (· == (j : Int)) <;> simp
    have e2 := findSome_idx (f := fun x => ffs P n k (begun ++ [x])) (l := rem n begun) (m := (rem n begun).length) (i := 0) (by omega)
    rw [List.drop_zero] at e2
    rw [e1, ← e2]
    have key : ∀ {l : List Nat} {f g : Nat → Option (List Int)}, (∀ i, i ∈ l → f i = (g i).map (begun ++ ·)) → l.findSome? f = (l.findSome? g).map (begun ++ ·) := by
      intro l f g
      induction l with
      | nil => intro _; rfl
      | cons i l ih =>
        intro hh
        rw [List.findSome?_cons, List.findSome?_cons, hh i (List.mem_cons_self ..)]
        cases g i with
        | none => exact ih fun j hj => hh j (List.mem_cons_of_mem _ hj)
        | some y => rfl
    refine key fun i hi => ?_
    have hi : i < (rem n begun).length := by simpa [List.mem_range'_1] using hi
    obtain ⟨x, hx, _⟩ := drop_at hi
    rw [hx, Option.getD_some, find_maps, ffs_perms (by have := rem_len hx; omega), rem_snoc hx, Option.map_map]
    have e3 : (fun o => P (begun ++ [x] ++ o)) = fun o => P (begun ++ x :: o) := by funext o; rw [List.append_assoc]; rfl
    have e4 : ((fun x_1 => begun ++ x_1) ∘ fun x_1 => x :: x_1) = fun o => begun ++ [x] ++ o := by funext o; simp
    rw [e3, e4]
end Go.Pm.PP
namespace Go.Pm.PE
theorem take_snoc {α : Type} {xs : List α} {i : Nat} {x : α} (h : xs[i]? = some x) : xs.take (i + 1) = xs.take i ++ [x] := by
  rw [List.take_add_one, h]; rfl
theorem insP_placed {p : Pt} {m : List Pt} : ∀ {l : List Pt}, (∃ q, q ∈ l ∧ p.1 < q.1) → insP p (l ++ m) = insP p l ++ m
  | [], h => by obtain ⟨q, hq, _⟩ := h; cases hq
  | a :: l, h => by
    rw [List.cons_append, insP, insP]
    split
    · rfl
    · rename_i g
      rw [insP_placed (l := l) (by
        obtain ⟨q, hq, hl⟩ := h
        rcases List.mem_cons.1 hq with rfl | hq
        · exact absurd hl g
        · exact ⟨q, hq, hl⟩)]; rfl
theorem insP_none {p : Pt} {m : List Pt} : ∀ {l : List Pt}, (∀ q, q ∈ l → ¬ p.1 < q.1) → insP p (l ++ m) = l ++ insP p m
  | [], _ => rfl
  | a :: l, h => by
    rw [List.cons_append, insP, if_neg (h a (List.mem_cons_self ..)), insP_none fun q hq => h q (List.mem_cons_of_mem _ hq)]; rfl
theorem rest_snoc {F : List Pt} {p q : Pt} {i : Nat} (hq : F[i]? = some q) : restF (F.take (i + 1)) p = restF (F.take i) p ++ if domB p q = true then [] else [q] := by
  unfold restF
  rw [take_snoc hq, List.filter_append]
  congr 1
  rw [List.filter_cons]
  cases domB p q <;> rfl
theorem cover_snoc {F : List Pt} {p q : Pt} {i : Nat} (hq : F[i]? = some q) : coverB (F.take (i + 1)) p = (coverB (F.take i) p || (sameB q p || domB q p)) := by
  unfold coverB; rw [take_snoc hq, List.any_append]; simp
theorem cover_mono {F : List Pt} {p q : Pt} {i : Nat} (hq : F[i]? = some q) (h : (sameB q p || domB q p) = true) : coverB F p = true := by
  unfold coverB; exact List.any_eq_true.2 ⟨q, List.mem_of_getElem? hq, h⟩
/-- A front with bounded first numbers is not long. -/
def FOk (F : List Pt) : Prop := Srt F ∧ ∀ q, q ∈ F → -(2 ^ 30) ≤ q.1 ∧ q.1 ≤ 2 ^ 30
theorem srt_len : ∀ {F : List Pt} {a : Int}, Srt F → (∀ q, q ∈ F → a ≤ q.1 ∧ q.1 ≤ 2 ^ 30) → a ≤ 2 ^ 30 + 1 → (F.length : Int) ≤ 2 ^ 30 + 1 - a
  | [], a, _, _, ha => by simp; omega
  | q :: F, a, h, hb, ha => by
    have h := List.pairwise_cons.1 h
    have hq := hb q (List.mem_cons_self ..)
    have := srt_len (F := F) (a := q.1 + 1) h.2 (fun z hz => by have := h.1 z hz; have := hb z (List.mem_cons_of_mem _ hz); omega) (by omega)
    rw [List.length_cons]; omega
theorem FOk.len {F : List Pt} (h : FOk F) : F.length ≤ 2 ^ 32 := by
  have := srt_len h.1 h.2 (by omega); omega
theorem FOk.put {F : List Pt} (h : FOk F) {p : Pt} (hp : -(2 ^ 30) ≤ p.1 ∧ p.1 ≤ 2 ^ 30) : FOk (putF F p) := ⟨putF_srt h.1, fun q hq => by
  rcases putF_mem hq with rfl | g
  · exact hp
  · exact h.2 q g⟩
theorem FOk.nil : FOk [] := ⟨List.Pairwise.nil, fun q hq => by cases hq⟩
theorem rest_len {F : List Pt} {p : Pt} {i : Nat} : (restF (F.take i) p).length ≤ F.length := by
  unfold restF
  refine Nat.le_trans (List.length_filter_le ..) ?_
  rw [List.length_take]; omega
/-- The place from behind in a front that is sorted. -/
theorem insP_back {p : Pt} {l : List Pt} (h : Srt l) {k : Nat} (hk : k ≤ l.length) (h1 : ∀ i q, k ≤ i → l[i]? = some q → p.1 < q.1) (h2 : ∀ q, 0 < k → l[k - 1]? = some q → ¬ p.1 < q.1) : insP p l = l.take k ++ p :: l.drop k := by
  refine insP_split hk (fun i q hi hq => ?_) fun q hq => h1 k q (Nat.le_refl _) hq
  rcases Nat.eq_or_lt_of_le (show i ≤ k - 1 by omega) with e | g
  · have := h2 q (by omega) (by rw [← e]; exact hq); omega
  · obtain ⟨z, hz, _⟩ := drop_at (show k - 1 < l.length by omega)
    have h3 := h2 z (by omega) hz
    have := List.pairwise_iff_getElem.1 h i (k - 1) (List.getElem?_eq_some_iff.1 hq).1 (List.getElem?_eq_some_iff.1 hz).1 g
    rw [(List.getElem?_eq_some_iff.1 hq).2, (List.getElem?_eq_some_iff.1 hz).2] at this
    omega
theorem shift_setP {us : List Pt} {z x : Pt} {j : Nat} (hj : j ≤ us.length) : (((us ++ [z]).take (j + 1) ++ ((us ++ [z]).drop j).take ((us ++ [z]).length - (j + 1))).set j x) = us.take j ++ x :: us.drop j := by
  apply List.ext_getElem?
  intro i
  have hl : ((us ++ [z]).take (j + 1)).length = j + 1 := by simp; omega
  rw [List.getElem?_set]
  have htl : (us.take j).length = j := by simp; omega
  split
  · rename_i e
    subst e
    rw [if_pos (by simp; omega), List.getElem?_append_right (by omega), htl, Nat.sub_self]; rfl
  · rename_i hne
    rcases Nat.lt_or_ge i j with g | g
    · rw [List.getElem?_append_left (by omega), List.getElem?_append_left (by omega), List.getElem?_take, List.getElem?_take, if_pos (by omega), if_pos g, List.getElem?_append_left (by omega)]
    · rw [List.getElem?_append_right (by omega), List.getElem?_append_right (by omega), hl, htl, List.getElem?_take, List.getElem?_drop]
      rw [show i - j = (i - (j + 1)) + 1 by omega, List.getElem?_cons_succ, List.getElem?_drop]
      simp only [List.length_append, List.length_cons, List.length_nil]
      split
      · rw [List.getElem?_append_left (by omega)]
      · rw [List.getElem?_eq_none (by omega)]
end Go.Pm.PE

/- Points of orders, by both. -/
set_option linter.unusedVariables false
set_option linter.unusedSimpArgs false
set_option maxRecDepth 4000
set_option maxHeartbeats 8000000
namespace Go.Pm.PP
open Go.Pm Go.Proofs Go.Pm.PE
abbrev ptv (p : Pt) : Value := .agg #[.int .i64 p.1, .int .i64 p.2]
def ptX (f g : Int) (js : List Job) (xs : List Int) : Pt := (valX f js xs, valX g js xs)
def aTwo (js : List Job) (f g : Int) : Bool := jOk js && inB f 1 8 && inB g 1 8
theorem aTwo_of {js : List Job} {f g : Int} (h : aTwo js f g = true) : js.length ≤ 8 ∧ goodL js = true ∧ (1 ≤ f ∧ f ≤ 8) ∧ 1 ≤ g ∧ g ≤ 8 := by
  rw [aTwo, Bool.and_eq_true, Bool.and_eq_true] at h
  exact ⟨(jOk_of h.1.1).1, (jOk_of h.1.1).2, inB_of h.1.2, inB_of h.2⟩
theorem ia2 {h : Hp} {a : Addr} {j : Nat} (hj : j < 2) : indexAddrP P h t_A2_int (.pointer (some a)) (.int .i64 j) = some (.pointer (some (addP a j))) := ix_arr u_A2_int e_t_int rfl hj
theorem ia20 {h : Hp} {a : Addr} : indexAddrP P h t_A2_int (.pointer (some a)) (.int .i64 0) = some (.pointer (some (addP a 0))) := ia2 (j := 0) (by omega)
theorem ia21 {h : Hp} {a : Addr} : indexAddrP P h t_A2_int (.pointer (some a)) (.int .i64 1) = some (.pointer (some (addP a 1))) := ia2 (j := 1) (by omega)
section
variable {h : Hp} {vj v u : Value} {js : List Job} {xs : List Int} {f g : Int}
theorem areTwo_run (J : Jobs h vj js) (hl : js.length ≤ 2 ^ 40) : Ret P G n_impl_areTwo [vj, .int .i64 f, .int .i64 g] h (.bool (aTwo js f g)) h := by
  refine enter_run e_impl_areTwo (by simp) ?_
  have r1 := isJobs_run J hl
  obtain ⟨oj, cj, rfl⟩ := J.shapeT
  cases c1 : jOk js
  · simp -implicitDefEqProofs [CL_ret r1, c1, aTwo]
  cases c2 : inB f 1 8
  · simp -implicitDefEqProofs [CL_ret r1, c1, aTwo, CL_ret isObjective_run, c2]
  · simp -implicitDefEqProofs [CL_ret r1, c1, aTwo, CL_ret isObjective_run, c2]
theorem l11Two_run : Ret P G n_spec_l11Two [.int .i64 f, .int .i64 g] h (.bool (inB f 1 8 && inB g 1 8)) h := by
  refine enter_run e_spec_l11Two (by simp) ?_
  cases c2 : inB f 1 8
  · simp -implicitDefEqProofs [CL_ret l2Objective_run, c2]
  · simp -implicitDefEqProofs [CL_ret l2Objective_run, c2]
theorem pointOf_run (J : Jobs h vj js) (X : Ints h v xs) (hg : goodL js = true) (hn : js.length ≤ 8) (hf : 1 ≤ f ∧ f ≤ 8) (hg8 : 1 ≤ g ∧ g ≤ 8) (ox : Ord js.length xs) : Ret P G n_impl_pointOf [vj, v, .int .i64 f, .int .i64 g] h (ptv (ptX f g js xs)) h := by
  refine enter_run e_impl_pointOf (by simp) ?_
  have Js := J
  have Xs := X
  obtain ⟨oj, cj, rfl⟩ := J.shapeT
  obtain ⟨oa, ca, rfl⟩ := X.shapeT
  have H0 := (Holds.start (h := h)).alloc [.int .i64 0, .int .i64 0]
  simp -implicitDefEqProofs
  refine CL_post (endsOf_run (Js.pre H0.pre) (Xs.pre H0.pre) hg hn (by rw [ox.len]; exact hn) ox.inn) fun v1 h1 ⟨hp1, ho1, hb1⟩ => ?_
  have H1 := H0.ext hp1
  have rf := valueOfEnds_run (o := f) (Js.pre H1.pre) ho1.sees hg hn endsL_len (fun e he => by have := hb1 e he; omega) hf
  have rg := valueOfEnds_run (o := g) (Js.pre H1.pre) ho1.sees hg hn endsL_len (fun e he => by have := hb1 e he; omega) hg8
  obtain ⟨h2, s2, H2, _⟩ := H1.set (P := P) 0 (n := 2) (o := 0) (ty := t_A2_int) (w := ptv (ptX f g js xs)) rfl rfl e_t_A2_int (by simp) (by simp) (by simp)
  have l2 := H2.bl (P := P) 0 2 rfl rfl
  have s2' : storeP P h1 t_A2_int (.agg #[.int .i64 (valE f js (endsL js xs)), .int .i64 (valE g js (endsL js xs))]) (.pointer (some ⟨h.length, 0, some 2⟩)) = some h2 := s2
  simp -implicitDefEqProofs [CL_ret rf, CL_ret rg, s2', l2]
  exact gcP H2.pre (by simp)
theorem l11Point_run (J : Jobs h vj js) (X : Ints h v xs) (hg : goodL js = true) (hn : js.length ≤ 8) (hf : 1 ≤ f ∧ f ≤ 8) (hg8 : 1 ≤ g ∧ g ≤ 8) (ox : Ord js.length xs) : Ret P G n_spec_l11Point [vj, v, .int .i64 f, .int .i64 g] h (ptv (ptX f g js xs)) h := by
  refine enter_run e_spec_l11Point (by simp) ?_
  have Js := J
  have Xs := X
  obtain ⟨oj, cj, rfl⟩ := J.shapeT
  obtain ⟨oa, ca, rfl⟩ := X.shapeT
  have H0 := (Holds.start (h := h)).alloc [.int .i64 0, .int .i64 0]
  simp -implicitDefEqProofs
  refine CL_post (l2Ends_run (Js.pre H0.pre) (Xs.pre H0.pre) hg hn (by rw [ox.len]; exact hn) ox.inn ox.nd fun i hi => ox.all hi) fun v1 h1 ⟨hp1, ho1, hb1⟩ => ?_
  have H1 := H0.ext hp1
  have rf := l2Of_run (o := f) (Js.pre H1.pre) ho1.sees hg hn endsL_len (fun e he => by have := hb1 e he; omega) hf
  have rg := l2Of_run (o := g) (Js.pre H1.pre) ho1.sees hg hn endsL_len (fun e he => by have := hb1 e he; omega) hg8
  obtain ⟨h2, s2, H2, _⟩ := H1.set (P := P) 0 (n := 2) (o := 0) (ty := t_A2_int) (w := ptv (ptX f g js xs)) rfl rfl e_t_A2_int (by simp) (by simp) (by simp)
  have l2 := H2.bl (P := P) 0 2 rfl rfl
  have s2' : storeP P h1 t_A2_int (.agg #[.int .i64 (valE f js (endsL js xs)), .int .i64 (valE g js (endsL js xs))]) (.pointer (some ⟨h.length, 0, some 2⟩)) = some h2 := s2
  simp -implicitDefEqProofs [CL_ret rf, CL_ret rg, s2', l2]
  exact gcP H2.pre (by simp)
theorem dominates_run {p q : Pt} : Ret P G n_impl_dominates [ptv p, ptv q] h (.bool (domB p q)) h := by
  refine enter_run e_impl_dominates (by simp) ?_
  have H := ((Holds.start (h := h)).alloc [.int .i64 p.1, .int .i64 p.2]).alloc [.int .i64 q.1, .int .i64 q.2]
  simp only [List.append_assoc, List.cons_append, List.nil_append, List.length_append, List.length_cons, List.length_nil, Nat.zero_add] at H
  have l1 := H.bl (P := P) 0 2 rfl rfl
  have l2 := H.bl (P := P) 1 2 rfl rfl
  unfold domB
  cases c1 : (p.1 == q.1 && p.2 == q.2)
  · by_cases c2 : p.1 ≤ q.1
    · simp -implicitDefEqProofs [l1, l2, eqA2, c1, ia20, ia21, c2]
    · simp -implicitDefEqProofs [l1, l2, eqA2, c1, ia20, ia21, c2]
  · simp -implicitDefEqProofs [l1, l2, eqA2, c1]
theorem l11Dominates_run {p q : Pt} : Ret P G n_spec_l11Dominates [ptv p, ptv q] h (.bool (domB p q)) h := by
  refine enter_run e_spec_l11Dominates (by simp) ?_
  have H := ((Holds.start (h := h)).alloc [.int .i64 p.1, .int .i64 p.2]).alloc [.int .i64 q.1, .int .i64 q.2]
  simp only [List.append_assoc, List.cons_append, List.nil_append, List.length_append, List.length_cons, List.length_nil, Nat.zero_add] at H
  have l1 := H.bl (P := P) 0 2 rfl rfl
  have l2 := H.bl (P := P) 1 2 rfl rfl
  unfold domB
  by_cases c2 : p.1 ≤ q.1
  · by_cases c3 : p.2 ≤ q.2
    · cases c1 : (p.1 == q.1 && p.2 == q.2) <;>
        simp -implicitDefEqProofs [l1, l2, eqA2, c1, ia20, ia21, c2, c3]
    · simp -implicitDefEqProofs [l1, l2, eqA2, ia20, ia21, c2, c3]
  · simp -implicitDefEqProofs [l1, l2, eqA2, ia20, ia21, c2]
def ptV (js : List Job) (xs : List Int) (f g : Int) : Pt := if (aTwo js f g && l2OrderL js.length xs) = true then ptX f g js xs else (0, 0)
theorem implPointOf_run (J : Jobs h vj js) (X : Ints h v xs) (hl : js.length ≤ 2 ^ 40) (hx : xs.length ≤ 2 ^ 40) : RunsC P G n_impl_PointOf [vj, v, .int .i64 f, .int .i64 g] h fun w h' => h <+: h' ∧ w = .tuple #[ptv (ptV js xs f g), .bool (aTwo js f g && l2OrderL js.length xs)] := by
  refine hideC fun K hK => enter_run e_impl_PointOf (by simp) ?_
  have H0 := (Holds.start (h := h)).alloc [.int .i64 0, .int .i64 0]
  have r1 := areTwo_run (f := f) (g := g) (J.pre H0.pre) hl
  have r2 := isOrder_run (n := js.length) (X.pre H0.pre) hx
  have Js := J
  have Xs := X
  obtain ⟨oj, cj, rfl⟩ := J.shapeT
  obtain ⟨oa, ca, rfl⟩ := X.shapeT
  have zz : ∃ h2, storeP P (h ++ [some ⟨[.int .i64 0, .int .i64 0], 0, false⟩]) t_A2_int (ptv (0, 0)) (.pointer (some ⟨h.length, 0, some 2⟩)) = some h2 ∧ loadP P h2 t_A2_int (.pointer (some ⟨h.length, 0, some 2⟩)) = some (ptv (0, 0)) ∧ h <+: h2 := by
    obtain ⟨h2, s2, H2, _⟩ := H0.set (P := P) 0 (n := 2) (o := 0) (ty := t_A2_int) (w := ptv (0, 0)) rfl rfl e_t_A2_int (by simp) (by simp) (by simp)
    exact ⟨h2, s2, by rw [H2.bl (P := P) 0 2 rfl rfl]; simp, H2.pre⟩
  obtain ⟨hz, sz, lz, pz⟩ := zz
  cases c1 : aTwo js f g
  · rw [c1] at r1
    simp -implicitDefEqProofs [CL_ret r1, c1, sz, lz]
    exact onK hK ⟨pre_gcU pz, by simp [ptV, *]⟩
  obtain ⟨hn, hg, hf, hg8⟩ := aTwo_of c1
  have e : (((xs.length : Int) == (js.length : Nat)) && arGo js.length [] xs) = l2OrderL js.length xs := by
    rw [order_eq hn, l2OrderL, show inB js.length 0 8 = true by simp [inB]; omega, Bool.true_and]
  rw [e] at r2
  rw [c1] at r1
  cases c2 : l2OrderL js.length xs
  · rw [c2] at r2
    simp -implicitDefEqProofs [CL_ret r1, CL_ret r2, c1, c2, sz, lz]
    exact onK hK ⟨pre_gcU pz, by simp [ptV, *]⟩
  · rw [c2] at r2
    have rp := pointOf_run (f := f) (g := g) (Js.pre H0.pre) (Xs.pre H0.pre) hg hn hf hg8 (ord_of c2)
    obtain ⟨h2, s2, H2, _⟩ := H0.set (P := P) 0 (n := 2) (o := 0) (ty := t_A2_int) (w := ptv (ptX f g js xs)) rfl rfl e_t_A2_int (by simp) (by simp) (by simp)
    have l2 := H2.bl (P := P) 0 2 rfl rfl
    simp -implicitDefEqProofs [-storeP_app0, CL_ret r1, CL_ret r2, c1, c2, CL_ret rp, s2, l2]
    exact onK hK ⟨pre_gcU H2.pre, by simp [ptV, *]⟩
theorem specPointOf_run (J : Jobs h vj js) (X : Ints h v xs) (hl : js.length ≤ 2 ^ 40) (hx : xs.length ≤ 2 ^ 40) : RunsC P G n_spec_PointOf [vj, v, .int .i64 f, .int .i64 g] h fun w h' => h <+: h' ∧ w = .tuple #[ptv (ptV js xs f g), .bool (aTwo js f g && l2OrderL js.length xs)] := by
  refine hideC fun K hK => enter_run e_spec_PointOf (by simp) ?_
  have H0 := (Holds.start (h := h)).alloc [.int .i64 0, .int .i64 0]
  have r1 := l2Two_run (J.pre H0.pre) (X.pre H0.pre) hl hx
  have Js := J
  have Xs := X
  obtain ⟨oj, cj, rfl⟩ := J.shapeT
  obtain ⟨oa, ca, rfl⟩ := X.shapeT
  have zz : ∃ h2, storeP P (h ++ [some ⟨[.int .i64 0, .int .i64 0], 0, false⟩]) t_A2_int (ptv (0, 0)) (.pointer (some ⟨h.length, 0, some 2⟩)) = some h2 ∧ loadP P h2 t_A2_int (.pointer (some ⟨h.length, 0, some 2⟩)) = some (ptv (0, 0)) ∧ h <+: h2 := by
    obtain ⟨h2, s2, H2, _⟩ := H0.set (P := P) 0 (n := 2) (o := 0) (ty := t_A2_int) (w := ptv (0, 0)) rfl rfl e_t_A2_int (by simp) (by simp) (by simp)
    exact ⟨h2, s2, by rw [H2.bl (P := P) 0 2 rfl rfl]; simp, H2.pre⟩
  obtain ⟨hz, sz, lz, pz⟩ := zz
  have e1 : (aTwo js f g && l2OrderL js.length xs) = ((jOk js && l2OrderL js.length xs) && (inB f 1 8 && inB g 1 8)) := by
    unfold aTwo
    cases jOk js <;> cases l2OrderL js.length xs <;> cases inB f 1 8 <;> cases inB g 1 8 <;> rfl
  have eV : ptV js xs f g = if ((jOk js && l2OrderL js.length xs) && (inB f 1 8 && inB g 1 8)) = true then ptX f g js xs else (0, 0) := by unfold ptV; rw [e1]
  rw [eV, e1] at hK
  cases c1 : (jOk js && l2OrderL js.length xs)
  · rw [c1] at r1
    simp -implicitDefEqProofs [CL_ret r1, c1, sz, lz]
    exact onK hK ⟨pre_gcU pz, by simp [ptV, *]⟩
  rw [c1] at r1
  cases c2 : (inB f 1 8 && inB g 1 8)
  · simp -implicitDefEqProofs [CL_ret r1, CL_ret l11Two_run, c1, c2, sz, lz]
    exact onK hK ⟨pre_gcU pz, by simp [ptV, *]⟩
  · have c3 : aTwo js f g = true ∧ l2OrderL js.length xs = true := by
      rw [Bool.and_eq_true] at c1 c2
      exact ⟨by rw [aTwo, c1.1, c2.1, c2.2]; rfl, c1.2⟩
    obtain ⟨hn, hg, hf, hg8⟩ := aTwo_of c3.1
    have rp := l11Point_run (f := f) (g := g) (Js.pre H0.pre) (Xs.pre H0.pre) hg hn hf hg8 (ord_of c3.2)
    obtain ⟨h2, s2, H2, _⟩ := H0.set (P := P) 0 (n := 2) (o := 0) (ty := t_A2_int) (w := ptv (ptX f g js xs)) rfl rfl e_t_A2_int (by simp) (by simp) (by simp)
    have l2 := H2.bl (P := P) 0 2 rfl rfl
    simp -implicitDefEqProofs [-storeP_app0, CL_ret r1, CL_ret l11Two_run, c1, c2, CL_ret rp, s2, l2]
    rw [c1, c2] at hK
    exact onK hK ⟨pre_gcU H2.pre, rfl⟩
end
end Go.Pm.PP

/- Fronts by the reference. -/
set_option linter.unusedVariables false
set_option linter.unusedSimpArgs false
set_option maxRecDepth 4000
set_option maxHeartbeats 8000000
namespace Go.Pm.PP
open Go.Pm Go.Proofs Go.Pm.PE
theorem Sees.pl {h : Hp} {v : Value} {sz : Nat} {els : List (List Value)} (s : Sees h v sz els) (g : plain v = true) : plainC v = true := by
  obtain ⟨_, oa, c, rfl, _⟩ := s
  exact g
theorem eqPt {p q : Pt} : eqAgg P t_A2_int (ptv p) (ptv q) = some (sameB p q) := eqA2
section
variable {h : Hp} {vj v u : Value} {js : List Job} {xs : List Int} {f g : Int}
theorem l11Put_run {vf : Value} {F : List Pt} {p : Pt} (S : Prs h vf F) (hF : FOk F) : RunsC P G n_spec_l11Put [vf, ptv p] h fun w h' => h <+: h' ∧ Prs h' w (putF F p) := by
  refine hideC fun K hK => enter_run e_spec_l11Put (by simp) ?_
  have Ss := S
  have hFl := hF.len
  obtain ⟨oa, ca, rfl⟩ := S.shapeT
  have H0 := own_nil ((Holds.start (h := h)).alloc [.int .i64 p.1, .int .i64 p.2]) Pt encQ 2
  simp -implicitDefEqProofs
  refine R_loopO (fun m s h' => ∃ i : Nat, i + m = F.length ∧ s = [(0, .slice oa F.length ca), (3, .pointer (some ⟨h.length, 0, some 2⟩)), (5, .slice none 0 0), (6, .int .i64 i)] ∧ coverB (F.take i) p = false ∧ Holds h h' [.box h.length [.int .i64 p.1, .int .i64 p.2], .own (.slice none 0 0) 2 (([] : List Pt).map encQ)]) (fun I hI m s h' => ?_) (n := F.length)
    ⟨0, Nat.zero_add _, by simp, rfl, H0⟩
  rintro ⟨i, hi, rfl, hc, H⟩
  have lp := H.bl (P := P) 0 2 rfl rfl t_A2_int 0
  have Sp := Ss.pre H.pre
  by_cases hlt : i < F.length
  · obtain ⟨q, hq, _⟩ := drop_at hlt
    have lq := load_Q Sp hq
    have rd := fun {hh : Hp} => l11Dominates_run (h := hh) (p := q) (q := p)
    have cs := cover_snoc (p := p) hq
    rw [hc, Bool.false_or] at cs
    cases c1 : sameB q p
    · cases c2 : domB q p
      · rw [c1, c2] at cs
        rw [c2] at rd
        simp -implicitDefEqProofs [-indexAddrP_some, hlt, lq, lp, eqPt, c1, CL_ret rd, CH_at rd, winc hlt (by omega)]
        exact ⟨m - 1, by omega, on hI ⟨i + 1, by omega, rfl, cs, H⟩⟩
      · rw [c2] at rd
        have cm := cover_mono hq (by rw [c2, Bool.or_true] : (sameB q p || domB q p) = true)
        rw [putF, if_pos cm] at hK
        simp -implicitDefEqProofs [-indexAddrP_some, hlt, lq, lp, eqPt, c1, CL_ret rd, CH_at rd]
        exact onK hK ⟨pre_gcU H.pre, Sees.gcU Sp fun g => g⟩
    · have cm := cover_mono hq (by rw [c1]; rfl : (sameB q p || domB q p) = true)
      rw [putF, if_pos cm] at hK
      simp -implicitDefEqProofs [-indexAddrP_some, hlt, lq, lp, eqPt, c1]
      exact onK hK ⟨pre_gcU H.pre, Sees.gcU Sp fun g => g⟩
  · rw [List.take_of_length_le (by omega)] at hc
    rw [putF, if_neg (by rw [hc]; simp)] at hK
    simp -implicitDefEqProofs [hlt]
    refine R_loopO (fun m2 s h2 => ∃ (k : Nat) (b : Bool) (u : Value) (out : List Pt), k + m2 = F.length ∧ s = [(0, .slice oa F.length ca), (3, .pointer (some ⟨h.length, 0, some 2⟩)), (5, u), (7, .bool b), (8, .int .i64 k)] ∧
      (b = true → (∃ q, q ∈ restF (F.take k) p ∧ p.1 < q.1) ∧ out = insP p (restF (F.take k) p)) ∧ (b = false → (∀ q, q ∈ restF (F.take k) p → ¬ p.1 < q.1) ∧ out = restF (F.take k) p) ∧
      Holds h h2 [.box h.length [.int .i64 p.1, .int .i64 p.2], .own u 2 (out.map encQ)]) (fun I2 hI2 m2 s h2 => ?_) (n := F.length)
      ⟨0, false, _, [], Nat.zero_add _, by simp, (fun g => by cases g), (fun _ => ⟨fun q hq => absurd hq List.not_mem_nil, rfl⟩), H⟩
    rintro ⟨k, b, u, out, hk, rfl, hb1, hb2, H2⟩
    have lp := H2.bl (P := P) 0 2 rfl rfl
    have Sp := Ss.pre H2.pre
    have hrl := @rest_len F p k
    have hol : out.length ≤ F.length + 1 := by
      cases b
      · rw [(hb2 rfl).2]; omega
      · rw [(hb1 rfl).2, insP_perm.length_eq, List.length_cons]; omega
    by_cases hlk : k < F.length
    · obtain ⟨q, hq, _⟩ := drop_at hlk
      have lq := load_Q Sp hq
      have rs := rest_snoc (p := p) hq
      have rd := fun {hh : Hp} => l11Dominates_run (h := hh) (p := p) (q := q)
      cases c1 : domB p q
      · rw [c1] at rd rs
        simp only [Bool.false_eq_true, if_false] at rs
        obtain ⟨v3, h3, a3, H3, _⟩ := push_Q0 H2 1 rfl q (by omega)
        have a3' : appendP P (h2 ++ [some ⟨[.int .i64 q.1, .int .i64 q.2], 2, false⟩]) t_S_A2_int u (.slice (some ⟨h2.length, 0, some 2⟩) 1 1) = some (v3, h3) := a3
        cases b
        · by_cases c2 : p.1 < q.1
          · obtain ⟨v4, h4, a4, H4, _⟩ := push_Q0 H2 1 rfl p (by omega)
            have H4' : Holds h h4 [.box h.length [.int .i64 p.1, .int .i64 p.2], .own v4 2 ((out ++ [p]).map encQ)] := H4
            have lq4 := load_Q (Ss.pre H4'.pre) hq
            obtain ⟨v5, h5, a5, H5, _⟩ := push_Q0 H4' 1 rfl q (by simp; omega)
            have lp4 := H4'.bl (P := P) 0 2 rfl rfl
            simp -implicitDefEqProofs [-indexAddrP_some, hlk, lq, lp, CL_ret rd, CH_at rd, ia20, c2, a4, lq4, a5, winc hlk (by omega)]
            refine ⟨m2 - 1, by omega, on hI2 ⟨k + 1, true, v5, out ++ [p] ++ [q], by omega, rfl, fun _ => ⟨⟨q, by rw [rs]; simp, c2⟩, ?_⟩, (fun g => by cases g), H5⟩⟩
            rw [rs, insP_none (hb2 rfl).1, (hb2 rfl).2, insP, if_pos c2]; simp
          · simp -implicitDefEqProofs [-indexAddrP_some, hlk, lq, lp, CL_ret rd, CH_at rd, ia20, c2, a3', winc hlk (by omega)]
            refine ⟨m2 - 1, by omega, on hI2 ⟨k + 1, false, v3, out ++ [q], by omega, rfl, (fun g => by cases g), fun _ => ⟨fun z hz => ?_, by rw [rs, (hb2 rfl).2]⟩, H3⟩⟩
            rw [rs] at hz
            rcases List.mem_append.1 hz with g | g
            · exact (hb2 rfl).1 z g
            · rw [List.mem_singleton.1 g]; exact c2
        · simp -implicitDefEqProofs [-indexAddrP_some, hlk, lq, lp, CL_ret rd, CH_at rd, a3', winc hlk (by omega)]
          refine ⟨m2 - 1, by omega, on hI2 ⟨k + 1, true, v3, out ++ [q], by omega, rfl, fun _ => ⟨?_, by rw [rs, insP_placed (hb1 rfl).1, (hb1 rfl).2]⟩, (fun g => by cases g), H3⟩⟩
          obtain ⟨z, hz, hl⟩ := (hb1 rfl).1
          exact ⟨z, by rw [rs]; exact List.mem_append_left _ hz, hl⟩
      · rw [c1] at rd rs
        simp only [if_true, List.append_nil] at rs
        simp -implicitDefEqProofs [-indexAddrP_some, hlk, lq, lp, CL_ret rd, CH_at rd, winc hlk (by omega)]
        exact ⟨m2 - 1, by omega, on hI2 ⟨k + 1, b, u, out, by omega, rfl, fun g => by rw [rs]; exact hb1 g, fun g => by rw [rs]; exact hb2 g, H2⟩⟩
    · rw [List.take_of_length_le (by omega)] at hb1 hb2
      cases b
      · obtain ⟨v4, h4, a4, H4, _⟩ := push_Q0 H2 1 rfl p (by omega)
        have e : out ++ [p] = insP p (restF F p) := by
          have := insP_none (p := p) (m := []) (hb2 rfl).1
          rw [List.append_nil] at this
          rw [this, (hb2 rfl).2]; rfl
        rw [e] at H4
        simp -implicitDefEqProofs [hlk, lp, a4]
        exact onK hK ⟨pre_gcU H4.pre, Sees.gcU (H4.sees 1 rfl) fun g => Sees.pl (H4.sees 1 rfl) g⟩
      · rw [(hb1 rfl).2] at H2
        simp -implicitDefEqProofs [hlk]
        exact onK hK ⟨pre_gcU H2.pre, Sees.gcU (H2.sees 1 rfl) fun g => Sees.pl (H2.sees 1 rfl) g⟩
def upF (f g : Int) (js : List Job) (F : List Pt) (xs : List Int) : List Pt := putF F (ptX f g js xs)
theorem l11Try_run {js : List Job} {f g : Int} (hg : goodL js = true) (hn : js.length ≤ 8) (hf : 1 ≤ f ∧ f ≤ 8) (hg8 : 1 ≤ g ∧ g ≤ 8) : ∀ {k : Nat} {h : Hp} {vj vb vf : Value} {begun : List Int} {F : List Pt}, Jobs h vj js → Ints h vb begun → Prs h vf F → FOk F → begun.length + k = js.length → inN js.length begun → begun.Nodup →
    RunsC P G n_spec_l11Try [vj, vb, .int .i64 f, .int .i64 g, vf] h fun w h' => h <+: h' ∧ FOk (dfs (upF f g js) js.length k begun F) ∧ Prs h' w (dfs (upF f g js) js.length k begun F)
  | 0, h, vj, vb, vf, begun, F, J, B, S, hF, hk, hin, hnd => by
    refine hideC fun K hK => enter_run e_spec_l11Try (by simp) ?_
    have Js := J
    have Bs := B
    obtain ⟨oj, cj, rfl⟩ := J.shapeT
    obtain ⟨ob, cb, rfl⟩ : ∃ a c, vb = .slice a js.length c := by obtain ⟨a, c, e⟩ := B.shapeT; exact ⟨a, c, by rw [e]; congr 1⟩
    have hx : Ord js.length begun := ⟨by omega, hin, hnd⟩
    have rp := l11Point_run (f := f) (g := g) Js Bs hg hn hf hg8 hx
    have bd := valX_bd (o := f) hg hn hx
    rw [dfs] at hK
    simp -implicitDefEqProofs [CL_ret rp]
    refine CL_post (l11Put_run (p := ptX f g js begun) S hF) fun w h1 ⟨hp1, S1⟩ => ?_
    simp -implicitDefEqProofs
    exact onK hK ⟨pre_gcU hp1, hF.put bd, Sees.gcU S1 fun g => Sees.pl S1 g⟩
  | k + 1, h, vj, vb, vf, begun, F, J, B, S, hF, hk, hin, hnd => by
    refine hideC fun K hK => enter_run e_spec_l11Try (by simp) ?_
    have Js := J
    have Bs := B
    obtain ⟨oj, cj, rfl⟩ := J.shapeT
    obtain ⟨ob, cb, rfl⟩ := B.shapeT
    have hne : ((begun.length : Int) == (js.length : Int)) = false := nb (by omega)
    have hne' : ¬ begun.length = js.length := by omega
    generalize hX : dfs (upF f g js) js.length (k + 1) begun F = X at hK
    rw [dfs] at hX
    simp -implicitDefEqProofs [hne, hne']
    refine R_loopO (fun m st h' => ∃ (i : Nat) (F' : List Pt) (vf' : Value), i + m = js.length ∧ st = [(0, .slice oj js.length cj), (1, .slice ob begun.length cb), (2, .int .i64 f), (3, .int .i64 g), (4, vf'), (11, .int .i64 i)] ∧
      X = (List.range' i m).foldl (fun b (j : Nat) => if begun.any (· == (j : Int)) = true then b else dfs (upF f g js) js.length k (begun ++ [(j : Int)]) b) F' ∧ FOk F' ∧ Prs h' vf' F' ∧ h <+: h') (fun I hI m st h' => ?_) (n := js.length)
      ⟨0, F, vf, Nat.zero_add _, by simp, hX.symm, hF, S, List.prefix_rfl⟩
    rintro ⟨i, F', vf', hi, rfl, hx, hF', S', hp⟩
    by_cases hlt : i < js.length
    · obtain ⟨m', rfl⟩ : ∃ m', m = m' + 1 := ⟨m - 1, by omega⟩
      rw [List.range'_succ, List.foldl_cons] at hx
      have rh := l1Has_run (x := (i : Int)) (Bs.pre hp) (by omega)
      have wi := winc hlt (show js.length ≤ 2 ^ 40 by omega)
      cases c1 : hasL (i : Int) begun
      · have hx' : X = (List.range' (i + 1) m').foldl (fun b (j : Nat) => if begun.any (· == (j : Int)) = true then b else dfs (upF f g js) js.length k (begun ++ [(j : Int)]) b) (dfs (upF f g js) js.length k (begun ++ [(i : Int)]) F') := by
          rw [hx, show begun.any (· == (i : Int)) = false from c1]; rfl
        have hni : (i : Int) ∉ begun := fun g => by rw [hasL_iff'.2 g] at c1; cases c1
        simp -implicitDefEqProofs [hlt, CL_ret rh, c1]
        refine CL_post (l1Own_run (Bs.pre hp) (by omega)) fun v5 h5 ⟨hp5, ho5⟩ => ?_
        have H5 : Holds h' h5 [.own v5 1 (begun.map encI)] := (Holds.start (h := h')).call hp5 ho5
        obtain ⟨v6, h6, ha6, H6, k6, _⟩ := push_I0 H5 0 rfl (i : Int) (by omega)
        have H6' : Holds h' h6 [.own v6 1 ((begun ++ [(i : Int)]).map encI)] := H6
        have ih := l11Try_run hg hn hf hg8 (k := k) (Js.pre (hp.trans H6'.pre)) (H6'.sees 0 rfl) (S'.pre H6'.pre) hF' (by simp; omega) (fun x hx => by
          rcases List.mem_append.1 hx with g | g
          · exact hin x g
          · rw [List.mem_singleton.1 g]; omega) (List.nodup_append.2 ⟨hnd, by simp, fun a ha c hc => by rw [List.mem_singleton.1 hc]; intro e; exact hni (e ▸ ha)⟩)
        simp -implicitDefEqProofs [ha6]
        refine CL_post ih fun w h7 ⟨hp7, hF7, S7⟩ => ?_
        simp -implicitDefEqProofs [wi]
        exact ⟨m', by omega, on hI ⟨i + 1, _, w, by omega, rfl, hx', hF7, S7, hp.trans (H6'.pre.trans hp7)⟩⟩
      · have hx' : X = (List.range' (i + 1) m').foldl (fun b (j : Nat) => if begun.any (· == (j : Int)) = true then b else dfs (upF f g js) js.length k (begun ++ [(j : Int)]) b) F' := by
          rw [hx, show begun.any (· == (i : Int)) = true from c1]; rfl
        simp -implicitDefEqProofs [hlt, CL_ret rh, c1, wi]
        exact ⟨m', by omega, on hI ⟨i + 1, F', _, by omega, rfl, hx', hF', S', hp⟩⟩
    · have hm : m = 0 := by omega
      subst hm
      rw [List.range'_zero, List.foldl_nil] at hx
      subst hx
      simp -implicitDefEqProofs [hlt]
      exact onK hK ⟨pre_gcU hp, hF', Sees.gcU S' fun g => Sees.pl S' g⟩
def frontR (f g : Int) (js : List Job) : List Pt := (ordsL js.length).foldl (upF f g js) []
theorem front_dfs {f g : Int} {js : List Job} : dfs (upF f g js) js.length js.length [] [] = frontR f g js := by
  rw [dfs_perms (by rw [rem_nil]; simp), up_rem]
  rfl
theorem l11Front_run (J : Jobs h vj js) (hg : goodL js = true) (hn : js.length ≤ 8) (hf : 1 ≤ f ∧ f ≤ 8) (hg8 : 1 ≤ g ∧ g ≤ 8) : RunsC P G n_spec_l11Front [vj, .int .i64 f, .int .i64 g] h fun w h' => h <+: h' ∧ FOk (frontR f g js) ∧ Prs h' w (frontR f g js) := by
  refine hideC fun K hK => enter_run e_spec_l11Front (by simp) ?_
  have Js := J
  obtain ⟨oj, cj, rfl⟩ := J.shapeT
  have nilI : Ints h (.slice none 0 0) [] := ⟨by simp, none, 0, rfl, .inl ⟨rfl, rfl, rfl⟩⟩
  have nilQ : Prs h (.slice none 0 0) [] := ⟨by simp, none, 0, rfl, .inl ⟨rfl, rfl, rfl⟩⟩
  have r := l11Try_run hg hn hf hg8 (k := js.length) Js nilI nilQ FOk.nil (by simp) (fun x hx => by cases hx) List.nodup_nil
  rw [front_dfs] at r
  simp -implicitDefEqProofs
  refine CL_post r fun w h1 ⟨hp1, hF1, S1⟩ => ?_
  simp -implicitDefEqProofs
  exact onK hK ⟨pre_gcU hp1, hF1, Sees.gcU S1 fun g => Sees.pl S1 g⟩
end
end Go.Pm.PP

/- Fronts by the program; what both export. -/
set_option linter.unusedVariables false
set_option linter.unusedSimpArgs false
set_option maxRecDepth 4000
set_option maxHeartbeats 16000000
namespace Go.Pm.PP
open Go.Pm Go.Proofs Go.Pm.PE
def bxF (p : Nat) (vf : Value) (F : List Pt) : List Asn := [.box p [vf], .own vf 2 (F.map encQ)]
theorem gcF {hb h h' : Hp} {p : Nat} {vf vf' u : Value} {F F' : List Pt} {L : List Asn} (HL : Holds hb h (bxF p vf F ++ L)) (H' : Holds hb h' (bxF p vf' F' ++ L)) : Holds hb (gc h h' u) (bxF p vf' F' ++ L) := by
  rcases gc_cases' h h' u with g | ⟨hp, g⟩
  · rw [g]; exact H'
  · have e1 := HL.box (cs := [vf]) (r := p) 0 rfl
    have e2 := H'.box (cs := [vf']) (r := p) 0 rfl
    obtain ⟨t, rfl⟩ := hp
    rw [List.getElem?_append_left (List.getElem?_eq_some_iff.1 e1).1, e1] at e2
    cases e2
    exact HL.gcR H' rfl
section
variable {h : Hp} {vj v u : Value} {js : List Job} {xs : List Int} {f g : Int}
/-- The program's look at an order. -/
theorem tellF_run {hb h : Hp} {p rj rf rg : Nat} {vj vf vg : Value} {js : List Job} {f g : Int} {xs : List Int} {F : List Pt} (J : Jobs hb vj js) (bj : hb[rj]? = some (some ⟨[vj], 0, false⟩)) (bf : hb[rf]? = some (some ⟨[.int .i64 f], 0, false⟩)) (bg : hb[rg]? = some (some ⟨[.int .i64 g], 0, false⟩))
    (hgd : goodL js = true) (hn : js.length ≤ 8) (hf : 1 ≤ f ∧ f ≤ 8) (hg8 : 1 ≤ g ∧ g ≤ 8) (hx : Ord js.length xs) (hF : FOk F) (H : Holds hb h (bxF p vf F ++ [.own vg 1 (xs.map encI)])) :
    RunsC P G n_impl_frontOf_1 [vg, .pointer (some ⟨rj, 0, some 1⟩), .pointer (some ⟨rf, 0, some 1⟩), .pointer (some ⟨rg, 0, some 1⟩), .pointer (some ⟨p, 0, some 1⟩)] h fun v h' =>
      ∃ vf', ∀ L, Holds hb h (bxF p vf F ++ L) → Holds hb h' (bxF p vf' (upF f g js F xs) ++ L) := by
  refine hideC fun K hK => enter_run e_impl_frontOf_1 (by simp) ?_
  have SF : Prs h vf F := H.sees 1 rfl
  obtain ⟨f1, f3, rfl⟩ : ∃ a c, vf = .slice a F.length c := SF.shapeT
  have Js := J
  obtain ⟨oj, cj, rfl⟩ := J.shapeT
  have Sg : Ints h vg xs := H.sees 2 rfl
  obtain ⟨g1, g3, rfl⟩ : ∃ a c, vg = .slice a xs.length c := Sg.shapeT
  have lj := load_pre H.pre bj (n := 1) rfl
  have lf := load_pre H.pre bf (n := 1) rfl
  have lg := load_pre H.pre bg (n := 1) rfl
  have rp := pointOf_run (f := f) (g := g) (Js.pre H.pre) Sg hgd hn hf hg8 hx
  have bd := valX_bd (o := f) hgd hn hx
  have hFl := hF.len
  obtain ⟨P0, hP0⟩ : ∃ P0, P0 = ptX f g js xs := ⟨_, rfl⟩
  have eU : upF f g js F xs = putF F P0 := by rw [hP0]; rfl
  rw [← hP0] at rp
  rw [eU] at hK
  have bd : -(2 ^ 30) ≤ P0.1 ∧ P0.1 ≤ 2 ^ 30 := by rw [hP0]; exact bd
  -- what this call makes is its own
  have N0 := (Holds.start (h := h)).alloc [.int .i64 P0.1, .int .i64 P0.2]
  have N1 := own_nil N0 Pt encQ 2
  have lb0 := (H.ext N0.pre).bl (P := P) 0 1 rfl rfl t_S_A2_int 0
  simp -implicitDefEqProofs [lj, lf, lg, CL_ret rp, lb0]
  refine R_loopO (fun m s h' => ∃ (i : Nat) (w : Value), i + m = F.length ∧ s = [(4, .pointer (some ⟨p, 0, some 1⟩)), (6, .pointer (some ⟨h.length, 0, some 2⟩)), (7, w), (16, .slice f1 F.length f3), (17, .int .i64 F.length), (18, .int .i64 i)] ∧ coverB (F.take i) P0 = false ∧
    Holds h h' [.box h.length [.int .i64 P0.1, .int .i64 P0.2], .own w 2 ((restF (F.take i) P0).map encQ)]) (fun I hI m s h' => ?_) (n := F.length)
    ⟨0, _, Nat.zero_add _, by simp, rfl, N1⟩
  rintro ⟨i, w, hi, rfl, hc, N⟩
  have lp := fun {l : Hp} => N.blx (P := P) 0 2 rfl rfl l t_A2_int 0
  have SFn := SF.pre N.pre
  have hrl := @rest_len F P0 i
  by_cases hlt : i < F.length
  · obtain ⟨q, hq, _⟩ := drop_at hlt
    have lq := load_Q SFn hq
    have r1 := fun {hh : Hp} => dominates_run (h := hh) (p := q) (q := P0)
    have r2 := fun {hh : Hp} => dominates_run (h := hh) (p := P0) (q := q)
    have cs := cover_snoc (p := P0) hq
    rw [hc, Bool.false_or] at cs
    have rs := rest_snoc (p := P0) hq
    have covered : (sameB q P0 || domB q P0) = true → ∀ u l, K u (gc h (h' ++ l) u) := fun hcv u l => by
      have cm := cover_mono hq hcv
      rw [putF, if_pos cm] at hK
      exact onK hK ⟨_, fun L HL => gcF HL (HL.ext (N.pre.trans (List.prefix_append ..)))⟩
    cases c1 : sameB q P0
    · cases c2 : domB q P0
      · rw [c1, c2] at cs
        rw [c2] at r1
        cases c3 : domB P0 q
        · rw [c3] at r2 rs
          simp only [Bool.false_eq_true, if_false] at rs
          obtain ⟨v3, h3, a3, N3, _⟩ := push_Q1 N 1 rfl q (a1 := some ⟨[.int .i64 q.1, .int .i64 q.2], 0, false⟩) (by omega)
          have N3 : Holds h h3 [.box h.length [.int .i64 P0.1, .int .i64 P0.2], .own v3 2 ((restF (F.take i) P0 ++ [q]).map encQ)] := N3
          simp -implicitDefEqProofs [-indexAddrP_some, hlt, lq, lp, eqPt, c1, CL_ret r1, CL_ret r2, a3, winc hlt (by omega)]
          exact ⟨m - 1, by omega, on hI ⟨i + 1, v3, by omega, rfl, cs, by rw [rs]; exact N3⟩⟩
        · rw [c3] at r2 rs
          simp only [if_true, List.append_nil] at rs
          simp -implicitDefEqProofs [-indexAddrP_some, hlt, lq, lp, eqPt, c1, CL_ret r1, CL_ret r2, winc hlt (by omega)]
          exact ⟨m - 1, by omega, on hI ⟨i + 1, w, by omega, rfl, cs, by rw [rs]; exact N.ext (List.prefix_append ..)⟩⟩
      · rw [c2] at r1
        simp -implicitDefEqProofs [-indexAddrP_some, hlt, lq, lp, eqPt, c1, CL_ret r1]
        exact covered (by rw [c2, Bool.or_true]) _ _
    · simp -implicitDefEqProofs [-indexAddrP_some, hlt, lq, lp, eqPt, c1]
      exact covered (by rw [c1]; rfl) _ _
  · rw [List.take_of_length_le (by omega)] at hc N hrl
    rw [putF, if_neg (by rw [hc]; simp)] at hK
    have hst : Srt (restF F P0) := rest_srt hF.1
    generalize hR : restF F P0 = R0 at *
    have SW : Prs h' w R0 := N.sees 1 rfl
    obtain ⟨w1, w3, rfl⟩ : ∃ a c, w = .slice a R0.length c := SW.shapeT
    have lpp := N.bl (P := P) 0 2 rfl rfl
    simp -implicitDefEqProofs [hlt]
    refine R_loopO (fun m2 s h2 => ∃ k : Nat, k = m2 ∧ s = [(4, .pointer (some ⟨p, 0, some 1⟩)), (6, .pointer (some ⟨h.length, 0, some 2⟩)), (7, .slice w1 R0.length w3), (10, .int .i64 k)] ∧ h2 = h' ∧ k ≤ R0.length ∧ ∀ i q, k ≤ i → R0[i]? = some q → P0.1 < q.1) (fun I2 hI2 m2 s h2 => ?_) (n := R0.length)
      ⟨R0.length, rfl, by simp, rfl, Nat.le_refl _, fun i q h1 h2 => by have := (List.getElem?_eq_some_iff.1 h2).1; omega⟩
    rintro ⟨k, rfl, rfl, rfl, hk, hgt⟩
    have fin : (∀ q, 0 < k → R0[k - 1]? = some q → ¬ P0.1 < q.1) → ∃ va vb vc h3 dv mv nn h4 h5 h6, appendP P (h2 ++ [some ⟨[.int .i64 P0.1, .int .i64 P0.2], 2, false⟩]) t_S_A2_int (.slice w1 R0.length w3) (.slice (some ⟨h2.length, 0, some 2⟩) 1 1) = some (.slice va vb vc, h3) ∧
        sliceP P h3 t_S_A2_int (.slice va vb vc) (some (.int .i64 ((k : Int) + 1))) none = some dv ∧ sliceP P h3 t_S_A2_int (.slice va vb vc) (some (.int .i64 k)) none = some mv ∧ copyP P h3 t_S_A2_int dv mv = some (.int .i64 nn, h4) ∧
        loadP P h4 t_A2_int (.pointer (some ⟨h.length, 0, some 2⟩)) = some (ptv P0) ∧
        indexAddrP P h4 t_S_A2_int (.slice va vb vc) (.int .i64 k) = some (.pointer (some (addP (base (.slice va vb vc)) (k * 2)))) ∧ storeP P h4 t_A2_int (ptv P0) (.pointer (some (addP (base (.slice va vb vc)) (k * 2)))) = some h5 ∧ storeP P h5 t_S_A2_int (.slice va vb vc) (.pointer (some ⟨p, 0, some 1⟩)) = some h6 ∧ ∀ u, K u (gc h h6 u) := fun hlo => by
      obtain ⟨v2, h3, ha, N3, _⟩ := push_Q0 N 1 rfl P0 (by omega)
      have N3 : Holds h h3 [.box h.length [.int .i64 P0.1, .int .i64 P0.2], .own v2 2 ((R0 ++ [P0]).map encQ)] := N3
      obtain ⟨dv, mv, nn, h4, s1, s2, s3, N4, _⟩ := N3.shift (P := P) 1 rfl (k := k) u_S_A2_int i_A2_int (ones_Q _) (by simp; omega)
      have e1 : (((R0 ++ [P0]).map encQ).take (k + 1) ++ (((R0 ++ [P0]).map encQ).drop k).take (((R0 ++ [P0]).map encQ).length - (k + 1))) = ((R0 ++ [P0]).take (k + 1) ++ ((R0 ++ [P0]).drop k).take ((R0 ++ [P0]).length - (k + 1))).map encQ := by
        generalize R0 ++ [P0] = ws
        rw [List.map_append, List.map_take, List.map_take, List.map_drop, List.length_map]
      rw [e1] at N4
      have hlen : ((R0 ++ [P0]).take (k + 1) ++ ((R0 ++ [P0]).drop k).take ((R0 ++ [P0]).length - (k + 1))).length = R0.length + 1 := by simp; omega
      obtain ⟨h5, s5, N5, _⟩ := put_Q N4 1 rfl (j := k) (by rw [hlen]; omega) P0
      rw [shift_setP hk, ← insP_back hst hk hgt hlo] at N5
      have N5 : Holds h h5 [.box h.length [.int .i64 P0.1, .int .i64 P0.2], .own v2 2 ((insP P0 R0).map encQ)] := N5
      have N4' : Holds h h4 [.box h.length [.int .i64 P0.1, .int .i64 P0.2], .own v2 2 (((R0 ++ [P0]).take (k + 1) ++ ((R0 ++ [P0]).drop k).take ((R0 ++ [P0]).length - (k + 1))).map encQ)] := N4
      obtain ⟨z, hz, _⟩ := drop_at (show k < ((R0 ++ [P0]).take (k + 1) ++ ((R0 ++ [P0]).drop k).take ((R0 ++ [P0]).length - (k + 1))).length by rw [hlen]; omega)
      have ix := (load_Q (N4'.sees 1 rfl) hz).1
      have lp4 := N4'.bl (P := P) 0 2 rfl rfl t_A2_int 0
      have sv2 : Prs h5 v2 (insP P0 R0) := N5.sees 1 rfl
      obtain ⟨va, vc, rfl⟩ : ∃ a c, v2 = .slice a (insP P0 R0).length c := sv2.shapeT
      obtain ⟨h6, s6, H6, _⟩ := (H.ext N5.pre).set (P := P) 0 (n := 1) (o := 0) (ty := t_S_A2_int) (w := .slice va (insP P0 R0).length vc) rfl rfl e_t_S_A2_int (by simp) (by simp) (by simp)
      refine ⟨_, _, _, h3, dv, mv, nn, h4, h5, h6, ha, s1, s2, s3, by rw [lp4]; simp, ix, s5, s6, fun u => onK hK ⟨.slice va (insP P0 R0).length vc, fun L HL => ?_⟩⟩
      have HJ := Holds.joinT (L := bxF p (.slice f1 F.length f3) F) (T := L) (A := [.own (.slice va (insP P0 R0).length vc) 2 ((insP P0 R0).map encQ)]) (M := []) HL (N5.one 1 rfl)
      obtain ⟨h6', s6', H6', _⟩ := HJ.set (P := P) 0 (n := 1) (o := 0) (ty := t_S_A2_int) (w := .slice va (insP P0 R0).length vc) rfl rfl e_t_S_A2_int (by simp) (by simp) (by simp)
      rw [s6] at s6'; cases s6'
      have H7 : Holds hb h6 (([.box p [.slice va (insP P0 R0).length vc]] ++ [.own (.slice f1 F.length f3) 2 (F.map encQ)]) ++ ([.own (.slice va (insP P0 R0).length vc) 2 ((insP P0 R0).map encQ)] ++ L)) := H6'
      have H8 : Holds hb h6 (bxF p (.slice va (insP P0 R0).length vc) (insP P0 R0) ++ L) := H7.cut
      exact gcF HL H8
    have wk : IntKind.i64.wrap ((k : Int) + 1) = (k : Int) + 1 := by rw [wrap_ok] <;> omega
    by_cases h0 : 0 < k
    · obtain ⟨q, hq, _⟩ := drop_at (show k - 1 < R0.length by omega)
      have w1' : IntKind.i64.wrap ((k : Int) - 1) = ((k - 1 : Nat) : Int) := by rw [wrap_ok] <;> omega
      have lq := load_Q SW hq
      have h0' : (0 : Int) < k := by omega
      by_cases c1 : P0.1 < q.1
      · simp -implicitDefEqProofs [-indexAddrP_some, h0, h0', w1', lq, ia20, lpp, c1]
        refine ⟨k - 1, by omega, on hI2 ⟨k - 1, rfl, rfl, rfl, by omega, fun t x ht hx => ?_⟩⟩
        rcases Nat.eq_or_lt_of_le ht with g | g
        · rw [← g, hq] at hx; cases hx; exact c1
        · exact hgt t x (by omega) hx
      · obtain ⟨va, vb, vc, h3, dv, mv, nn, h4, h5, h6, ha, s1, s2, s3, lp4, ix, s5, s6, fK⟩ := fin (fun x _ hx => by rw [hq] at hx; cases hx; exact c1)
        simp -implicitDefEqProofs [-indexAddrP_some, h0, h0', w1', lq, ia20, lpp, c1, ha, wk, s1, s2, s3, lp4, ix, s5, s6]
        exact fK _
    · obtain ⟨va, vb, vc, h3, dv, mv, nn, h4, h5, h6, ha, s1, s2, s3, lp4, ix, s5, s6, fK⟩ := fin (fun x h => absurd h h0)
      have h0' : ¬ (0 : Int) < k := by omega
      simp -implicitDefEqProofs [-indexAddrP_some, h0, h0', lpp, ha, wk, s1, s2, s3, lp4, ix, s5, s6]
      exact fK _
theorem frontOf_run (J : Jobs h vj js) (hg : goodL js = true) (hn : js.length ≤ 8) (hf : 1 ≤ f ∧ f ≤ 8) (hg8 : 1 ≤ g ∧ g ≤ 8) : RunsC P G n_impl_frontOf [vj, .int .i64 f, .int .i64 g] h fun w h' => h <+: h' ∧ FOk (frontR f g js) ∧ Prs h' w (frontR f g js) := by
  refine hideC fun K hK => enter_run e_impl_frontOf (by simp) ?_
  have Js := J
  obtain ⟨oj, cj, rfl⟩ := J.shapeT
  have H0 := ((Holds.start.alloc [.slice oj js.length cj] (h := h)).alloc [.int .i64 f]).alloc [.int .i64 g]
  simp only [List.append_assoc, List.cons_append, List.nil_append, List.length_append, List.length_cons, List.length_nil, Nat.zero_add] at H0
  generalize hHb : h ++ [some ⟨[.slice oj js.length cj], 0, false⟩, some ⟨[.int .i64 f], 0, false⟩, some ⟨[.int .i64 g], 0, false⟩] = hb at H0
  have hbl : hb.length = h.length + 1 + 1 + 1 := by rw [← hHb]; simp
  have E : Holds hb (hb ++ [some ⟨[.slice none 0 0], 0, false⟩]) (bxF hb.length (.slice none 0 0) [] ++ []) := own_nil ((Holds.start (h := hb)).alloc [.slice none 0 0]) Pt encQ 2
  have er := eachOrder_run (hb := hb) (g := n_impl_frontOf_1) (c := #[.pointer (some ⟨h.length, 0, some 1⟩), .pointer (some ⟨h.length + 1, 0, some 1⟩), .pointer (some ⟨h.length + 1 + 1, 0, some 1⟩), .pointer (some ⟨hb.length, 0, some 1⟩)]) hn
    (Q := fun i BX => ∃ vf, BX = bxF hb.length vf (((ordsL js.length).take i).foldl (upF f g js) []) ∧ FOk (((ordsL js.length).take i).foldl (upF f g js) []))
    (fun i BX i' BX' h h' L u ⟨vf, e, k1⟩ ⟨vf', e', k2⟩ HL H' => by
      subst e; subst e'
      exact gcF HL H')
    (fun i xs h BX vg ⟨vf, eBX, kf⟩ hxs HB => by
      subst eBX
      have ox := ords_ord (List.mem_of_getElem? hxs)
      refine RunsC.mono (tellF_run (Js.pre H0.pre) (H0.box 0 rfl) (H0.box 1 rfl) (H0.box 2 rfl) hg hn hf hg8 ox kf HB) fun v h' ⟨vf', F⟩ => ?_
      have es : ((ordsL js.length).take (i + 1)).foldl (upF f g js) [] = upF f g js (((ordsL js.length).take i).foldl (upF f g js) []) xs := by
        rw [take_succ' hxs, List.foldl_append, List.foldl_cons, List.foldl_nil]
      refine ⟨_, ⟨vf', rfl, by rw [es]; exact kf.put (valX_bd hg hn ox)⟩, fun L HL => ?_⟩
      rw [es]
      exact F L HL) ⟨_, rfl, FOk.nil⟩ E
  have hcount : hb ++ [some ⟨[.slice none 0 0], 0, false⟩] = h ++ [some ⟨[.slice oj js.length cj], 0, false⟩, some ⟨[.int .i64 f], 0, false⟩, some ⟨[.int .i64 g], 0, false⟩, some ⟨[.slice none 0 0], 0, false⟩] := by rw [← hHb]; simp
  rw [hcount, hbl] at er
  rw [hcount, hbl] at E
  simp -implicitDefEqProofs
  refine CL_post er fun v h4 ⟨BX', ⟨vf, eBX, kF⟩, F⟩ => ?_
  subst eBX
  have H4 := F [] E
  rw [List.take_length] at H4 kF
  have s4 : Prs h4 vf (frontR f g js) := H4.sees 1 rfl
  obtain ⟨a, c, rfl⟩ : ∃ a c, vf = .slice a (frontR f g js).length c := s4.shapeT
  have l0 := H4.bl (P := P) 0 1 rfl rfl
  simp only [Nat.add_assoc, Nat.reduceAdd] at l0
  simp -implicitDefEqProofs [l0]
  exact onK hK ⟨pre_gcU (H0.pre.trans H4.pre), kF, Sees.gcU s4 fun g => g⟩
end
end Go.Pm.PP
