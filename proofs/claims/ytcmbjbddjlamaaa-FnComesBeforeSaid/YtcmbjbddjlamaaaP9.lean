/- The texts Ps8, PvTd, PvTe, PvRa, Ps9, PvFa, PsA, PvCa of this work: Ruled orders are best, in plain terms: the last end too. -/
import Derived.Test.YtcmbjbddjlamaaaP7
import Derived.Test.YtcmbjbddjlamaaaP8
/- Ruled orders are best, in plain terms: the last end too. -/
set_option linter.unusedVariables false
set_option linter.unusedSimpArgs false
namespace Go.Pm.PP
open Go.Pm Go.Pm.PE
theorem nowGo_mono {js : List Job} : ∀ {C : List Int} {a b : Int}, a ≤ b → nowGo js a C ≤ nowGo js b C
  | [], _, _, h => h
  | x :: C, a, b, h => by rw [nowGo, nowGo]; exact nowGo_mono (by unfold endAt; omega)
theorem end_swap {js : List Job} (ht : ∀ x, 0 ≤ (jA js x).t) {A C : List Int} {x y : Int} (h : (jA js y).r ≤ (jA js x).r) : nowGo js 0 (A ++ y :: x :: C) ≤ nowGo js 0 (A ++ x :: y :: C) := by
  rw [nowGo_app, nowGo_app, nowGo, nowGo, nowGo, nowGo]
  have h1 := ht x
  have h2 := ht y
  refine nowGo_mono ?_
  unfold endAt
  omega
theorem end_best {js : List Job} (ht : ∀ x, 0 ≤ (jA js x).t) {xs ys : List Int} (hs : ys.Pairwise fun a b => (jA js a).r ≤ (jA js b).r) (hp : xs.Perm ys) : nowGo js 0 ys ≤ nowGo js 0 xs :=
  exch_sorted (f := nowGo js 0) (S := fun _ => True) (fun _ _ _ _ _ => trivial) (fun A x y C _ h => end_swap ht h) (A := []) trivial hs hp
/-- The reference's ruled order. -/
def ruF (o : Int) (js : List Job) (xs : List Int) : List Int := xs.foldl (fun l x => insF (fun y => decide (gapX o js y x ≤ 0)) x l) []
theorem ruF_perm {o : Int} {js : List Job} : ∀ {xs acc : List Int}, (xs.foldl (fun l x => insF (fun y => decide (gapX o js y x ≤ 0)) x l) acc).Perm (acc ++ xs)
  | [], acc => by simp
  | x :: xs, acc => by
    rw [List.foldl_cons]
    refine ruF_perm.trans ?_
    exact ((insF_perm.append_right xs).trans (by rw [List.cons_append])).trans List.perm_middle.symm
theorem ruF_sorted {o : Int} {js : List Job} (t : Tm js) : ∀ {xs acc : List Int}, acc.Pairwise (Lex (aheadR o js)) → inN js.length acc → inN js.length xs → xs.Pairwise (· < ·) → (∀ a, a ∈ acc → ∀ b, b ∈ xs → a < b) → (xs.foldl (fun l x => insF (fun y => decide (gapX o js y x ≤ 0)) x l) acc).Pairwise (Lex (aheadR o js))
  | [], acc, h, _, _, _, _ => h
  | x :: xs, acc, h, ha, hx, hs, hl => by
    have hs := List.pairwise_cons.1 hs
    have xr := hx x (List.mem_cons_self ..)
    have gs : ∀ y, gapX o js x y = - gapX o js y x := fun y => gap_swap
    rw [List.foldl_cons]
    refine ruF_sorted t (insF_sorted h (fun y hy g => ?_) (fun y hy g => ?_) fun y z hy hz hr g => ?_) (fun y hy => ?_) (fun y hy => hx y (List.mem_cons_of_mem _ hy)) hs.2 fun a hA b hb => ?_
    · have g : gapX o js y x ≤ 0 := by simpa using g
      have := gs y
      right
      refine ⟨?_, hl y hy x (List.mem_cons_self ..)⟩
      rw [ahead_eq t xr (ha y hy), decide_eq_false_iff_not]; omega
    · have g : ¬ gapX o js y x ≤ 0 := by simpa using g
      have := gs y
      left
      rw [ahead_eq t xr (ha y hy), decide_eq_true_eq]; omega
    · have g : ¬ gapX o js y x ≤ 0 := by simpa using g
      cases c : decide (gapX o js z x ≤ 0) with
      | false => rfl
      | true =>
        have c : gapX o js z x ≤ 0 := by simpa using c
        have h1 : aheadR o js z y = false := hr.na ahead_weak
        have g1 := gs z
        have h2 : aheadR o js x z = false := by rw [ahead_eq t xr (ha z hz), decide_eq_false_iff_not]; omega
        have h3 := (ahead_weak (o := o) (js := js)).tr h2 h1
        rw [ahead_eq t xr (ha y hy), decide_eq_false_iff_not] at h3
        have := gs y
        omega
    · rcases List.mem_cons.1 (insF_perm.mem_iff.1 hy) with rfl | g
      · exact xr
      · exact ha y g
    · rcases List.mem_cons.1 (insF_perm.mem_iff.1 hA) with rfl | g
      · exact hs.1 b hb
      · exact hl a g b (List.mem_cons_of_mem _ hb)
/-- Both ruled orders are the same. -/
theorem ruled_eq {o : Int} {js : List Job} (t : Tm js) {xs : List Int} (hs : xs.Pairwise (· < ·)) (hin : inN js.length xs) : ruF o js xs = sortB (aheadR o js) xs := by
  have p : (ruF o js xs).Perm xs := by have := @ruF_perm o js xs []; simpa [ruF] using this
  exact sorted_eq (R := Lex (aheadR o js)) (fun a b => Lex.asymm ahead_weak) (ruF_sorted t List.Pairwise.nil (fun y hy => by cases hy) hin hs fun a ha => by cases ha) (sortB_sorted ahead_weak hs) (p.trans sortB_perm.symm)
end Go.Pm.PP

/- Draws: plain jobs, ruled orders, inversions. -/
set_option linter.unusedVariables false
set_option linter.unusedSimpArgs false
set_option maxRecDepth 4000
set_option maxHeartbeats 8000000
namespace Go.Pm.PP
open Go.Pm Go.Proofs Go.Pm.PE
/-- Put into the middle, the front by a call. -/
theorem ins_own {h0 h : Hp} {L : List Asn} (H : Holds h0 h L) (i : Nat) {u : Value} {xs : List Int} (hi : L[i]? = some (.own u 1 (xs.map encI))) {k : Nat} (hk : k ≤ xs.length) (x : Int) (hn : xs.length ≤ 2 ^ 20) :
    ∃ (a3 : Option Addr) (b3 c3 : Nat), sliceP P h t_S_int u none (some (.int .i64 k)) = some (.slice a3 b3 c3) ∧ Ints h (.slice a3 b3 c3) (xs.take k) ∧ ∀ {v4 : Value} {h4 : Hp}, h <+: h4 → Own h.length h4 v4 1 ((xs.take k).map encI) → NR h.length h4 →
      ∃ (a4 : Option Addr) (b4 c4 : Nat) (a5 : Option Addr) (b5 c5 : Nat) (h5 : Hp) (a6 : Option Addr) (b6 c6 : Nat) (v7 : Value) (h7 : Hp), v4 = .slice a4 b4 c4 ∧
      appendP P (h4 ++ [some ⟨[.int .i64 x], 1, false⟩]) t_S_int (.slice a4 b4 c4) (.slice (some ⟨h4.length, 0, some 1⟩) 1 1) = some (.slice a5 b5 c5, h5) ∧ modOk h.length (h4 ++ [some ⟨[.int .i64 x], 1, false⟩]) h5 ∧ newOk h h5 ∧
      sliceP P h5 t_S_int u (some (.int .i64 k)) none = some (.slice a6 b6 c6) ∧ appendP P h5 t_S_int (.slice a5 b5 c5) (.slice a6 b6 c6) = some (v7, h7) ∧ Holds h0 h7 (L.set i (.own v7 1 ((xs.take k ++ x :: xs.drop k).map encI))) ∧ h <+: h7 := by
  have S2 := H.sees i hi
  obtain ⟨v3, s3, f3⟩ := S2.front (P := P) u_S_int i_int (k := .i64) (j := (k : Int)) (by omega) (by simp; omega)
  rw [Int.toNat_natCast, ← List.map_take] at f3
  obtain ⟨a3, b3, c3, rfl⟩ : ∃ a n c, v3 = .slice a n c := by obtain ⟨a, c, e⟩ := f3.shape; exact ⟨_, _, _, e⟩
  refine ⟨a3, b3, c3, s3, f3, fun {v4 h4} hp4 ho4 n4 => ?_⟩
  have H4 : Holds h h4 [.own v4 1 ((xs.take k).map encI)] := (Holds.start (h := h)).call hp4 ho4
  obtain ⟨v5, h5, ha5, H5', k5, _⟩ := push_I0 H4 0 rfl x (by simp; omega)
  have H5 : Holds h h5 [.own v5 1 ((xs.take k ++ [x]).map encI)] := H5'
  have n5 : NR h.length (h4 ++ [some ⟨[.int .i64 x], 1, false⟩]) := n4.new [.int .i64 x] 1
  have md := app_mod (b := h.length) rfl n5 ha5 (H4.pre.trans (List.prefix_append ..)) H5.pre
  have n6 := append_nr n5 ha5
  obtain ⟨v6, s6, f6, _⟩ := (S2.pre H5.pre).back (P := P) u_S_int i_int (k := .i64) (j := (k : Int)) (by omega) (by simp; omega)
  rw [Int.toNat_natCast, ← List.map_drop] at f6
  obtain ⟨v7, h7, ha7, H7', _⟩ := app_I H5 0 rfl f6 (by simp; omega)
  have H7 : Holds h h7 [.own v7 1 ((xs.take k ++ x :: xs.drop k).map encI)] := by
    have : Holds h h7 [.own v7 1 ((xs.take k ++ [x] ++ xs.drop k).map encI)] := H7'
    rw [List.append_assoc] at this
    exact this
  obtain ⟨a4, b4, c4, rfl⟩ : ∃ a n c, v4 = .slice a n c := by obtain ⟨a, c, e⟩ := (H4.sees 0 rfl).shape; exact ⟨_, _, _, e⟩
  obtain ⟨a5, b5, c5, rfl⟩ : ∃ a n c, v5 = .slice a n c := by obtain ⟨a, c, e⟩ := (H5.sees 0 rfl).shape; exact ⟨_, _, _, e⟩
  obtain ⟨a6, b6, c6, rfl⟩ : ∃ a n c, v6 = .slice a n c := by obtain ⟨a, c, e⟩ := f6.shape; exact ⟨_, _, _, e⟩
  have HJ := H.join H7
  have hil := (List.getElem?_eq_some_iff.1 hi).1
  refine ⟨a4, b4, c4, a5, b5, c5, h5, a6, b6, c6, v7, h7, rfl, ha5, md, newOk_of H5.pre n6, s6, ha7, ?_, H7.pre⟩
  refine HJ.sub (fun j => if j = i then L.length else j) (fun j A e => ?_) fun j1 j2 A B e1 e2 g => ?_
  · rw [List.getElem?_set] at e
    split at e
    · rename_i e2
      subst e2
      cases e
      rw [if_pos rfl, List.getElem?_append_right (Nat.le_refl _), Nat.sub_self]; rfl
    · rename_i e2
      rw [if_neg fun g => e2 g.symm, List.getElem?_append_left (List.getElem?_eq_some_iff.1 e).1]
      exact e
  · have l1 := (List.getElem?_eq_some_iff.1 e1).1
    have l2 := (List.getElem?_eq_some_iff.1 e2).1
    rw [List.length_set] at l1 l2
    split at g <;> split at g <;> omega
section
variable {h : Hp} {vj v : Value} {js : List Job} {o : Int}
theorem l3Order_run (J : Jobs h vj js) (hg : goodL js = true) (hn : js.length ≤ 8) : RunsC P G n_spec_l3Order [vj, .int .i64 o] h fun w h' => h <+: h' ∧ Own h.length h' w 1 ((ruF o js (upTo js.length)).map encI) := by
  refine hideC fun K hK => enter_run e_spec_l3Order (by simp) ?_
  have Js := J
  obtain ⟨oj, cj, rfl⟩ := J.shapeT
  have H0 := own_nil (Holds.start (h := h)) Int encI 1
  simp -implicitDefEqProofs
  refine R_loopO (fun m s h' => ∃ (i : Nat) (u : Value), i + m = js.length ∧ s = [(0, .slice oj js.length cj), (1, .int .i64 o), (5, u), (6, .int .i64 i)] ∧ Holds h h' [.own u 1 ((ruF o js (upTo i)).map encI)]) (fun I hI m s h' => ?_) (n := js.length) ⟨0, _, Nat.zero_add _, by simp, H0⟩
  rintro ⟨i, u, hi, rfl, H⟩
  by_cases hlt : i < js.length
  · have eu : upTo (i + 1) = upTo i ++ [(i : Int)] := by simp [upTo, List.range_succ]
    have ef : ruF o js (upTo (i + 1)) = insF (fun y => decide (gapX o js y i ≤ 0)) (i : Int) (ruF o js (upTo i)) := by
      unfold ruF; rw [eu, List.foldl_append]; rfl
    have pu : (ruF o js (upTo i)).Perm (upTo i) := by have := @ruF_perm o js (upTo i) []; simpa [ruF] using this
    have hin : ∀ z, z ∈ ruF o js (upTo i) → 0 ≤ z ∧ z < js.length := fun z hz => by have := mem_upTo.1 (pu.mem_iff.1 hz); omega
    have hul : (ruF o js (upTo i)).length = i := by rw [pu.length_eq, upTo_len]
    generalize ruF o js (upTo i) = us at *
    have S := H.sees 0 rfl
    obtain ⟨ou, cu, rfl⟩ : ∃ a c, u = .slice a us.length c := by obtain ⟨a, c, e⟩ := S.shapeT; exact ⟨a, c, e⟩
    simp -implicitDefEqProofs [hlt]
    refine R_loopO (fun m2 s h2 => ∃ (k : Nat), k + m2 = us.length ∧ s = [(0, .slice oj js.length cj), (1, .int .i64 o), (5, .slice ou us.length cu), (6, .int .i64 i), (7, .int .i64 k)] ∧ h2 = h' ∧ ∀ j z, j < k → us[j]? = some z → decide (gapX o js z i ≤ 0) = true) (fun I2 hI2 m2 s h2 => ?_) (n := us.length)
      ⟨0, Nat.zero_add _, by simp, rfl, fun i z h => by omega⟩
    rintro ⟨k, hk, rfl, rfl, hall⟩
    have fin : (∀ z, us[k]? = some z → decide (gapX o js z i ≤ 0) = false) → us.take k ++ (i : Int) :: us.drop k = insF (fun y => decide (gapX o js y i ≤ 0)) (i : Int) us := fun g => (insF_take (by omega) hall g).symm
    obtain ⟨a3, b3, c3, s3, f3, rest⟩ := ins_own H 0 rfl (k := k) (by omega) (i : Int) (by omega)
    have next : us.take k ++ (i : Int) :: us.drop k = insF (fun y => decide (gapX o js y i ≤ 0)) (i : Int) us → RunsC P G n_spec_l1Own [.slice a3 b3 c3] h2 fun v h' => newOk h2 h' ∧ ∃ (a4 : Option Addr) (b4 c4 : Nat) (a5 : Option Addr) (b5 c5 : Nat) (h5 : Hp) (a6 : Option Addr) (b6 c6 : Nat) (v7 : Value) (h7 : Hp), v = .slice a4 b4 c4 ∧
      appendP P (h' ++ [some ⟨[.int .i64 (i : Int)], 1, false⟩]) t_S_int (.slice a4 b4 c4) (.slice (some ⟨h'.length, 0, some 1⟩) 1 1) = some (.slice a5 b5 c5, h5) ∧ modOk h2.length (h' ++ [some ⟨[.int .i64 (i : Int)], 1, false⟩]) h5 ∧ newOk h2 h5 ∧
      sliceP P h5 t_S_int (.slice ou us.length cu) (some (.int .i64 k)) none = some (.slice a6 b6 c6) ∧ appendP P h5 t_S_int (.slice a5 b5 c5) (.slice a6 b6 c6) = some (v7, h7) ∧ I (m - 1) [(0, .slice oj js.length cj), (1, .int .i64 o), (5, v7), (6, .int .i64 ((i + 1 : Nat) : Int))] h7 := fun he => by
      refine RunsC.mono (l1Own_run f3 (by rw [List.length_take]; omega)).new fun v4 h4 ⟨⟨hp4, ho4⟩, hn4⟩ => ⟨hn4 hp4, ?_⟩
      obtain ⟨a4, b4, c4, a5, b5, c5, h5, a6, b6, c6, v7, h7, e4, g5, g6, g7, g8, g9, H7, hp7⟩ := rest hp4 ho4 (hn4 hp4).nr
      refine ⟨a4, b4, c4, a5, b5, c5, h5, a6, b6, c6, v7, h7, e4, g5, g6, g7, g8, g9, on hI ⟨i + 1, v7, by omega, rfl, ?_⟩⟩
      rw [ef, ← he]
      exact H7
    by_cases hlk : k < us.length
    · obtain ⟨z, hz, _⟩ := drop_at hlk
      have lz := load_I S hz
      have rs := l3Gap_run (o := o) (x := z) (y := (i : Int)) (Js.pre H.pre) hg (hin z (List.mem_of_getElem? hz)) (by omega)
      have hlk' : (k : Int) < us.length := by omega
      by_cases c1 : gapX o js z i ≤ 0
      · simp -implicitDefEqProofs [-indexAddrP_some, hlk, hlk', lz, CL_ret rs, CH_at rs, c1, winc hlk (by omega)]
        exact ⟨m2 - 1, by omega, on hI2 ⟨k + 1, by omega, rfl, rfl, fun j z' h1 h2 => by
          rcases Nat.lt_or_ge j k with g | g
          · exact hall j z' g h2
          · have : j = k := by omega
            subst this
            rw [hz] at h2; cases h2; exact decide_eq_true c1⟩⟩
      · simp -implicitDefEqProofs [-indexAddrP_some, hlk, hlk', lz, CL_ret rs, CH_at rs, c1, s3]
        refine CG_post (next (fin fun z' g => by rw [hz] at g; cases g; exact decide_eq_false c1)) fun v h4 ⟨no4, a4, b4, c4, a5, b5, c5, h5, a6, b6, c6, v7, h7, ev, g5, g6, g7, g8, g9, hI7⟩ => ⟨no4, ?_⟩
        subst ev
        simp -implicitDefEqProofs [g5, g6, g7, g8, g9, winc hlt (by omega)]
        exact ⟨m - 1, by omega, hI7⟩
    · have hlk' : ¬ (k : Int) < us.length := by omega
      simp -implicitDefEqProofs [-indexAddrP_some, hlk, hlk', s3]
      refine CG_post (next (fin fun z' g => by rw [List.getElem?_eq_none (by omega)] at g; cases g)) fun v h4 ⟨no4, a4, b4, c4, a5, b5, c5, h5, a6, b6, c6, v7, h7, ev, g5, g6, g7, g8, g9, hI7⟩ => ⟨no4, ?_⟩
      subst ev
      simp -implicitDefEqProofs [g5, g6, g7, g8, g9, winc hlt (by omega)]
      exact ⟨m - 1, by omega, hI7⟩
  · have : i = js.length := by omega
    subst this
    simp -implicitDefEqProofs [hlt]
    exact onK hK (H.ret 0 rfl)
end
/-! ### draws -/
section
variable {h0 h : Hp} {r n : Nat} {vc : Value} {L : List Asn}
theorem Cur.fputJ {u : Value} {js : List Job} (C : Cur h0 h r vc n (L ++ [.own u 4 (js.map encJ)])) {k : Nat} {y : Job} (hy : js[k]? = some y) (z : Int) :
    (∃ h', storeP P h t_int (.int .i64 z) (.pointer (some (addP (addP (base u) (k * 4)) 0))) = some h' ∧ Cur h0 h' r vc n (L ++ [.own u 4 ((js.set k ⟨z, y.w, y.r, y.d⟩).map encJ)])) ∧
    (∃ h', storeP P h t_int (.int .i64 z) (.pointer (some (addP (addP (base u) (k * 4)) 1))) = some h' ∧ Cur h0 h' r vc n (L ++ [.own u 4 ((js.set k ⟨y.t, z, y.r, y.d⟩).map encJ)])) ∧
    (∃ h', storeP P h t_int (.int .i64 z) (.pointer (some (addP (addP (base u) (k * 4)) 2))) = some h' ∧ Cur h0 h' r vc n (L ++ [.own u 4 ((js.set k ⟨y.t, y.w, z, y.d⟩).map encJ)])) ∧
    (∃ h', storeP P h t_int (.int .i64 z) (.pointer (some (addP (addP (base u) (k * 4)) 3))) = some h' ∧ Cur h0 h' r vc n (L ++ [.own u 4 ((js.set k ⟨y.t, y.w, y.r, z⟩).map encJ)])) := by
  obtain ⟨a, s, h1, h2, H⟩ := C
  have hi : (cu r vc a s :: (L ++ [.own u 4 (js.map encJ)]))[L.length + 1]? = some (.own u 4 (js.map encJ)) := by rw [List.getElem?_cons_succ]; exact snoc_get
  have es : ∀ A : Asn, (cu r vc a s :: (L ++ [.own u 4 (js.map encJ)])).set (L.length + 1) A = cu r vc a s :: (L ++ [A]) := fun A => by
    rw [List.set_cons_succ, List.set_append_right (h := Nat.le_refl _), Nat.sub_self]; rfl
  refine ⟨?_, ?_, ?_, ?_⟩
  · obtain ⟨h', g1, g2, _⟩ := fput_J0 H _ hi hy z
    rw [es] at g2
    exact ⟨h', g1, a, s, h1, h2, g2⟩
  · obtain ⟨h', g1, g2, _⟩ := fput_J1 H _ hi hy z
    rw [es] at g2
    exact ⟨h', g1, a, s, h1, h2, g2⟩
  · obtain ⟨h', g1, g2, _⟩ := fput_J2 H _ hi hy z
    rw [es] at g2
    exact ⟨h', g1, a, s, h1, h2, g2⟩
  · obtain ⟨h', g1, g2, _⟩ := fput_J3 H _ hi hy z
    rw [es] at g2
    exact ⟨h', g1, a, s, h1, h2, g2⟩
theorem plain3_run (B : By h0 vc) (C : Cur h0 h r vc n L) (hn : n ≤ 2 ^ 18) : RunsC P G n_spec_l1Cur_plain3 [.pointer (some ⟨r, 0, some 3⟩)] h fun v h' => ∃ js : List Job, js.length ≤ 9 ∧ Cur h0 h' r vc (n + 300) (L ++ [.own v 4 (js.map encJ)]) := by
  refine hideC fun K hK => enter_run e_spec_l1Cur_plain3 (by simp) ?_
  simp -implicitDefEqProofs
  refine CL_post (jobs_run B C (by omega)) fun v h1 ⟨js, hl, C1⟩ => ?_
  obtain ⟨ua, uc, rfl⟩ : ∃ a c, v = .slice a js.length c := C1.seesJ.shapeT
  simp -implicitDefEqProofs
  refine CL_post (one_run B C1 (by omega) (k := 24) (by omega)) fun v h2 ⟨b, ev, C2⟩ => ?_
  subst ev
  cases b
  case true =>
    simp -implicitDefEqProofs
    exact onK hK ⟨js, hl, C.gcO (C2.mono (by omega)) (fun h => h)⟩
  simp -implicitDefEqProofs
  obtain ⟨N, hN⟩ : ∃ N, N = js.length := ⟨_, rfl⟩
  rw [← hN] at C2 ⊢
  refine R_loopO (fun m st h' => ∃ (i : Nat) (ks : List Job), i + m = N ∧ st = [(0, .pointer (some ⟨r, 0, some 3⟩)), (3, .slice ua N uc), (4, .int .i64 i)] ∧ ks.length = N ∧ Cur h0 h' r vc (n + 204 + 2 * i) (L ++ [.own (.slice ua N uc) 4 (ks.map encJ)])) (fun I hI m st h' => ?_) (n := N)
    ⟨0, js, by omega, by simp, hN.symm, C2.mono (by omega)⟩
  rintro ⟨i, ks, hi, rfl, hks, C3⟩
  by_cases hlt : i < N
  · have hlt' : (i : Int) < N := by omega
    obtain ⟨y, hy, _⟩ := drop_at (show i < ks.length by omega)
    have ly := load_J C3.seesJ hy
    obtain ⟨h4, s4, C4⟩ := (C3.fputJ hy 0).2.2.1
    by_cases c1 : 0 < i
    · have c1' : (0 : Int) < i := by omega
      simp -implicitDefEqProofs [-indexAddrP_some, hlt, hlt', ly, s4, c1, c1']
      refine CL_post (one_run B C4 (by omega) (k := 3) (by omega)) fun v h5 ⟨b, ev, C5⟩ => ?_
      subst ev
      cases b
      · simp -implicitDefEqProofs [winc hlt (by omega)]
        exact ⟨m - 1, by omega, on hI ⟨i + 1, _, by omega, rfl, by rw [List.length_set]; exact hks, C5.mono (by omega)⟩⟩
      · have w1 : IntKind.i64.wrap ((i : Int) - 1) = ((i - 1 : Nat) : Int) := by rw [wrap_ok] <;> omega
        generalize hks2 : ks.set i ⟨y.t, y.w, 0, y.d⟩ = ks2 at C5
        have hl2 : ks2.length = N := by rw [← hks2, List.length_set]; exact hks
        obtain ⟨p, hp, _⟩ := drop_at (show i - 1 < ks2.length by omega)
        obtain ⟨q, hq, _⟩ := drop_at (show i < ks2.length by omega)
        have lp := load_J C5.seesJ hp
        have lq := load_J C5.seesJ hq
        obtain ⟨h6, s6, C6⟩ := (C5.fputJ hq p.t).1
        generalize hks3 : ks2.set i ⟨p.t, q.w, q.r, q.d⟩ = ks3 at C6
        have hl3 : ks3.length = N := by rw [← hks3, List.length_set]; exact hl2
        obtain ⟨p', hp', _⟩ := drop_at (show i - 1 < ks3.length by omega)
        obtain ⟨q', hq', _⟩ := drop_at (show i < ks3.length by omega)
        have lp' := load_J C6.seesJ hp'
        have lq' := load_J C6.seesJ hq'
        obtain ⟨h7, s7, C7⟩ := (C6.fputJ hq' p'.w).2.1
        simp -implicitDefEqProofs [-indexAddrP_some, w1, lp, lq, s6, lp', lq', s7, winc hlt (by omega)]
        exact ⟨m - 1, by omega, on hI ⟨i + 1, _, by omega, rfl, by rw [List.length_set]; exact hl3, C7.mono (by omega)⟩⟩
    · have c1' : ¬ (0 : Int) < i := by omega
      simp -implicitDefEqProofs [-indexAddrP_some, hlt, hlt', ly, s4, c1, c1', winc hlt (by omega)]
      exact ⟨m - 1, by omega, on hI ⟨i + 1, _, by omega, rfl, by rw [List.length_set]; exact hks, C4.mono (by omega)⟩⟩
  · have hlt' : ¬ (i : Int) < N := by omega
    simp -implicitDefEqProofs [hlt, hlt']
    exact onK hK ⟨ks, by omega, C.gcO (C3.mono (by omega)) (fun h => h)⟩
theorem ruled3_run (B : By h0 vc) (C : Cur h0 h r vc n L) (hn : n ≤ 2 ^ 17) : RunsC P G n_spec_l1Cur_ruled3 [.pointer (some ⟨r, 0, some 3⟩)] h fun v h' => ∃ (u : Value) (o : Int) (js : List Job), v = .tuple #[u, .int .i64 o] ∧ js.length ≤ 9 ∧ Cur h0 h' r vc (n + 400) (L ++ [.own u 4 (js.map encJ)]) := by
  refine hideC fun K hK => enter_run e_spec_l1Cur_ruled3 (by simp) ?_
  simp -implicitDefEqProofs
  refine CL_post (pick_run B C (by omega) (k := 4) (by omega)) fun v h1 ⟨x, ev, x0, x1, _, C1⟩ => ?_
  subst ev
  simp -implicitDefEqProofs
  refine CL_post (one_run B C1 (by omega) (k := 24) (by omega)) fun v h2 ⟨b, ev, C2⟩ => ?_
  subst ev
  have fin : ∀ {u : Value} {h4 : Hp} {js : List Job} {o : Int} {m : Nat}, js.length ≤ 9 → m ≤ n + 400 → Cur h0 h4 r vc m (L ++ [.own u 4 (js.map encJ)]) → K (.tuple #[u, .int .i64 o]) (gc h h4 (.tuple #[u, .int .i64 o])) := fun {u h4 js o m} hl hm C4 =>
    onK hK ⟨u, o, js, rfl, hl, C.gcO (C4.mono hm) fun g => plainT (r := [_]) g⟩
  have two : ∀ {o : Int} {h3 : Hp} {m : Nat}, m ≤ n + 10 → Cur h0 h3 r vc m L → (RunsC P G n_spec_l1Cur_jobs [.pointer (some ⟨r, 0, some 3⟩)] h3 fun u h4 => K (.tuple #[u, .int .i64 o]) (gc h h4 (.tuple #[u, .int .i64 o]))) ∧ (RunsC P G n_spec_l1Cur_plain3 [.pointer (some ⟨r, 0, some 3⟩)] h3 fun u h4 => K (.tuple #[u, .int .i64 o]) (gc h h4 (.tuple #[u, .int .i64 o]))) := fun {o h3 m} hm C3 =>
    ⟨RunsC.mono (jobs_run B C3 (by omega)) fun v h4 ⟨js, hl, C4⟩ => fin hl (by omega) C4, RunsC.mono (plain3_run B C3 (by omega)) fun v h4 ⟨js, hl, C4⟩ => fin hl (by omega) C4⟩
  cases b
  · generalize hX : IntKind.i64.wrap (1 + x) = X
    by_cases c : X = 1
    · subst c
      simp -implicitDefEqProofs [hX]
      refine CL_post (two (o := 1) (by omega) C2).1 fun v h4 f => ?_
      simp -implicitDefEqProofs
      exact f
    · simp -implicitDefEqProofs [hX, nb c]
      refine CL_post (two (o := X) (by omega) C2).2 fun v h4 f => ?_
      simp -implicitDefEqProofs
      exact f
  · have C3 := C2.lit [0, 5, 8, -1]
    simp -implicitDefEqProofs
    refine CL_post (among_run B C3 (by omega) snoc_get (xs := [0, 5, 8, -1]) (by simp) (by simp)) fun v h3 ⟨X, ev, _, C4⟩ => ?_
    subst ev
    by_cases c : X = 1
    · subst c
      simp -implicitDefEqProofs
      refine CL_post (two (o := 1) (by omega) C4.weak).1 fun v h4 f => ?_
      simp -implicitDefEqProofs
      exact f
    · simp -implicitDefEqProofs [nb c]
      refine CL_post (two (o := X) (by omega) C4.weak).2 fun v h4 f => ?_
      simp -implicitDefEqProofs
      exact f
end
theorem plain2T {a b : Value} {r : List Value} (h : plain (.tuple (a :: b :: r).toArray) = true) : plainC b = true := by
  have : ((a :: b :: r).toArray : Array Value).toList.all plainC = true := h
  simp only [List.all_cons, Bool.and_eq_true] at this
  exact this.2.1
/-- A draw of jobs and an order ends. -/
theorem draw_JX {h h1 : Hp} {u w : Value} {r : List Value} {js : List Job} {xs : List Int} (H : Holds h h1 [.own u 4 (js.map encJ), .own w 1 (xs.map encI)]) : h <+: gc h h1 (.tuple (u :: w :: r).toArray) ∧ Jobs (gc h h1 (.tuple (u :: w :: r).toArray)) u js ∧ Ints (gc h h1 (.tuple (u :: w :: r).toArray)) w xs :=
  ⟨pre_gcU H.pre, Sees.gcU (H.sees 0 rfl) fun g => plainT (r := w :: r) g, Sees.gcU (H.sees 1 rfl) fun g => plain2T (r := r) g⟩
theorem DrawIsRuledOrder_run {h : Hp} {vc : Value} (B : By h vc) : RunsC P G n_spec_DrawIsRuledOrder [vc] h fun v h' => h <+: h' ∧ ∃ (js : List Job) (xs : List Int) (o : Int) (u w : Value), v = .tuple #[u, w, .int .i64 o] ∧ js.length ≤ 9 ∧ xs.length ≤ 10 ∧ Jobs h' u js ∧ Ints h' w xs := by
  refine hideC fun K hK => enter_run e_spec_DrawIsRuledOrder (by simp) ?_
  have C0 : Cur h (h ++ [some ⟨[vc, .int .i64 0, .int .u64 0], 0, false⟩]) h.length vc 0 [] := ⟨0, 0, by omega, by omega, (Holds.start (h := h)).alloc _⟩
  obtain ⟨bs, Sb, hb, hbl⟩ := B
  have Bs : By h vc := ⟨bs, Sb, hb, hbl⟩
  obtain ⟨ob, cb, rfl⟩ := Sb.shapeT
  simp -implicitDefEqProofs
  refine CL_post (ruled3_run Bs C0 (by omega)) fun v h1 ⟨u, o, js, ev, hl, C1⟩ => ?_
  subst ev
  obtain ⟨ua, uc, rfl⟩ : ∃ a c, u = .slice a js.length c := C1.seesJ.shapeT
  simp -implicitDefEqProofs
  refine CL_post (order_run Bs C1 (by omega) (N := js.length) (by omega)) fun w h2 ⟨xs, hl2, C2⟩ => ?_
  obtain ⟨wa, wc, rfl⟩ : ∃ a c, w = .slice a xs.length c := C2.seesI.shapeT
  have fin : ∀ {w : Value} {ys : List Int} {h3 : Hp} {m : Nat}, ys.length ≤ 10 → Cur h h3 h.length (.slice ob bs.length cb) m (([] ++ [.own (.slice ua js.length uc) 4 (js.map encJ)]) ++ [.own w 1 (ys.map encI)]) → K (.tuple #[.slice ua js.length uc, w, .int .i64 o]) (gc h h3 (.tuple #[.slice ua js.length uc, w, .int .i64 o])) := fun {w ys h3 m} hy C3 => by
    obtain ⟨a, s, _, _, H⟩ := C3
    have H2 : Holds h h3 [.own (.slice ua js.length uc) 4 (js.map encJ), .own w 1 (ys.map encI)] := H.tail
    have := draw_JX (r := [.int .i64 o]) H2
    exact onK hK ⟨this.1, js, ys, o, _, _, rfl, hl, hy, this.2⟩
  have rr := l3Ruled_run (o := o) C2.weak.seesJ (by omega)
  cases c1 : ruOk js o
  · rw [c1] at rr
    simp -implicitDefEqProofs [CL_ret rr]
    exact fin (by omega) C2
  rw [c1] at rr
  obtain ⟨hn, hg, _⟩ := ruOk_of c1
  simp -implicitDefEqProofs [CL_ret rr]
  refine CL_post (one_run Bs C2 (by omega) (k := 2) (by omega)) fun v h3 ⟨b, ev, C3⟩ => ?_
  subst ev
  cases b
  · simp -implicitDefEqProofs
    exact fin (by omega) C3
  simp -implicitDefEqProofs
  refine CL_post (l3Order_run (o := o) C3.weak.seesJ hg hn) fun w4 h4 ⟨hp4, ho4⟩ => ?_
  have C4 := (C3.join ((Holds.start (h := h3)).call hp4 ho4)).swapW
  have hyl : (ruF o js (upTo js.length)).length = js.length := by
    have : (ruF o js (upTo js.length)).Perm (upTo js.length) := by have := @ruF_perm o js (upTo js.length) []; simpa [ruF] using this
    rw [this.length_eq, upTo_len]
  generalize ruF o js (upTo js.length) = ys at *
  obtain ⟨ya, yc, rfl⟩ : ∃ a c, w4 = .slice a ys.length c := C4.seesI.shapeT
  by_cases c2 : 1 < ys.length
  · have c2' : (1 : Int) < ys.length := by omega
    simp -implicitDefEqProofs [c2, c2']
    refine CL_post (one_run Bs C4 (by omega) (k := 2) (by omega)) fun v h5 ⟨b, ev, C5⟩ => ?_
    subst ev
    cases b
    · simp -implicitDefEqProofs
      exact fin (by omega) C5
    · have w1 : IntKind.i64.wrap ((ys.length : Int) - 1) = (ys.length : Int) - 1 := by rw [wrap_ok] <;> omega
      simp -implicitDefEqProofs [w1]
      refine CL_post (pick_run Bs C5 (by omega) (k := (ys.length : Int) - 1) (by omega)) fun v h6 ⟨x, ev, x0, _, x1, C6⟩ => ?_
      subst ev
      obtain ⟨k, rfl⟩ : ∃ k : Nat, x = k := ⟨x.toNat, by omega⟩
      have hk : k + 1 < ys.length := by have := x1 (by omega); omega
      simp -implicitDefEqProofs
      refine CL_post (l2Swap_run C6.seesI (by omega) hk) fun w7 h7 ⟨hp7, ho7⟩ => ?_
      have C7 := (C6.join ((Holds.start (h := h6)).call hp7 ho7)).swapW
      simp -implicitDefEqProofs
      exact fin (by rw [swp_len]; omega) C7
  · have c2' : ¬ (1 : Int) < ys.length := by omega
    simp -implicitDefEqProofs [c2, c2']
    exact fin (by omega) C4
theorem gc_JX {h h1 : Hp} {u w : Value} {r : List Value} {js : List Job} {xs : List Int} (hp : h <+: h1) (J : Jobs h1 u js) (X : Ints h1 w xs) : h <+: gc h h1 (.tuple (u :: w :: r).toArray) ∧ Jobs (gc h h1 (.tuple (u :: w :: r).toArray)) u js ∧ Ints (gc h h1 (.tuple (u :: w :: r).toArray)) w xs :=
  ⟨pre_gcU hp, Sees.gcU J fun g => plainT (r := w :: r) g, Sees.gcU X fun g => plain2T (r := r) g⟩
end Go.Pm.PP

/- FnPairLoss in the small machine. -/
set_option linter.unusedVariables false
set_option linter.unusedSimpArgs false
set_option maxRecDepth 4000
set_option maxHeartbeats 16000000
namespace Go.Pm.PP
open Go.Pm Go.Proofs Go.Pm.PE
/-- A ruled order of all jobs. -/
def rulL (o : Int) (js : List Job) : List Int := sortB (aheadR o js) (upTo js.length)
theorem rulL_perm {o : Int} {js : List Job} : (rulL o js).Perm (upTo js.length) := sortB_perm
theorem rulL_ord {o : Int} {js : List Job} : Ord js.length (rulL o js) := by
  have p := @rulL_perm o js
  exact ⟨by rw [p.length_eq, upTo_len], fun x hx => mem_upTo.1 (p.mem_iff.1 hx), p.nodup_iff.2 (upTo_nodup _)⟩
theorem rulL_sorted {o : Int} {js : List Job} (hg : goodL js = true) : (rulL o js).Pairwise fun a b => gapX o js a b ≤ 0 := by
  have t := good_tm hg
  refine List.Pairwise.imp_of_mem (fun {a b} ha hb h => ?_) (sortB_weak (ah := aheadR o js) (l := upTo js.length) ahead_weak)
  have ia := rulL_ord.inn a ha
  have ib := rulL_ord.inn b hb
  rw [ahead_eq t ib ia, decide_eq_false_iff_not] at h
  have := @gap_swap o js a b
  omega
/-- What an order loses. -/
theorem loss_best {js : List Job} (hok : plOk js = true) {o : Int} (ho : o = 2 ∨ o = 3) {xs : List Int} (ox : Ord js.length xs) : valX o js xs - bestV o js = invS o js xs ∧ bestV o js = valX o js (rulL o js) := by
  obtain ⟨hn, hg, _⟩ := plOk_of hok
  have p := plOk_pl hok
  have h1 : ¬ o = 1 := by omega
  have h4 : ¬ o = 4 := by omega
  have key : ∀ ys, Ord js.length ys → valX o js ys = sumGo o js 0 ys := fun ys oy => by
    unfold valX; exact val_sum h1 h4 (ord_prm oy)
  have l : ∀ ys, Ord js.length ys → valX o js ys - valX o js (rulL o js) = invS o js ys := fun ys oy => by
    rw [key ys oy, key _ rulL_ord]
    exact loss_eq p ho ((ord_perm oy).trans rulL_perm.symm) (rulL_sorted hg)
  obtain ⟨f1, f2, f3, f4⟩ := best_facts (f := valX o js) (n := js.length) hn
  have e : bestV o js = (bestR (valX o js) js.length).v := rfl
  have g1 := f4 _ (rulL_ord (o := o))
  have g2 := l _ f3
  have g3 := invS_nonneg (o := o) (js := js) (l := (bestR (valX o js) js.length).o)
  have eb : bestV o js = valX o js (rulL o js) := by rw [e]; omega
  refine ⟨?_, eb⟩
  rw [eb]
  exact l xs ox
theorem gain_gap {js : List Job} (hok : plOk js = true) {o : Int} (ho : o = 2 ∨ o = 3) {xs : List Int} (ox : Ord js.length xs) {i : Nat} (hi : i + 1 < xs.length) : gn (valX o js) xs i = gapX o js (gE xs i) (gE xs (i + 1)) := by
  have p := plOk_pl hok
  obtain ⟨A, x, y, C, e1, e2, e3⟩ := swp_split hi
  have os := swp_ord ox hi
  unfold gn valX
  rw [val_sum (by omega) (by omega) (ord_prm ox), val_sum (by omega) (by omega) (ord_prm os), e3]
  have gx : gE xs i = x := by unfold gE; rw [e1, List.getElem?_append_right (by omega), e2, Nat.sub_self]; rfl
  have gy : gE xs (i + 1) = y := by unfold gE; rw [e1, List.getElem?_append_right (by omega), e2, Nat.add_sub_cancel_left]; rfl
  rw [gx, gy, e1]
  exact sum_swap p ho
end Go.Pm.PP

/- Ruled orders, by both. -/
set_option linter.unusedVariables false
set_option linter.unusedSimpArgs false
set_option maxRecDepth 4000
set_option maxHeartbeats 8000000
namespace Go.Pm.PP
open Go.Pm Go.Proofs Go.Pm.PE
section
variable {h : Hp} {vj v u : Value} {js : List Job} {xs ys : List Int} {o : Int}
theorem vInts_run (hv : Ints h v xs) (hu : Ints h u xs) (hx : xs.length ≤ 2 ^ 40) : Ret P G n_laws_vInts [v, u] h (.bool true) h := by
  refine enter_run e_laws_vInts (by simp) ?_
  have hvs := hv
  have hus := hu
  obtain ⟨oa, c, rfl⟩ := hv.shapeT
  obtain ⟨ob, c', rfl⟩ := hu.shapeT
  simp -implicitDefEqProofs
  refine R_loopO (fun m s h' => ∃ i : Nat, i + m = xs.length ∧ s = [(0, .slice oa xs.length c), (1, .slice ob xs.length c'), (5, .int .i64 i)] ∧ h' = h) (fun I hI m s h' => ?_) (n := xs.length) ⟨0, Nat.zero_add _, by simp, rfl⟩
  rintro ⟨i, hi, rfl, rfl⟩
  by_cases hlt : i < xs.length
  · obtain ⟨x, hx', _⟩ := drop_at hlt
    simp -implicitDefEqProofs [-indexAddrP_some, hlt, load_I hvs hx', load_I hus hx', winc hlt hx]
    exact ⟨m - 1, by omega, on hI ⟨i + 1, by omega, rfl, rfl⟩⟩
  · simp -implicitDefEqProofs [hlt]
theorem specIsPlain_run (hj : Jobs h vj js) (hn : js.length ≤ 2 ^ 40) : Ret P G n_spec_IsPlain [vj] h (.bool (plOk js)) h := by
  refine enter_run e_spec_IsPlain (by simp) ?_
  have r1 := good_run hj hn
  have r2 := l3Plain_run hj hn
  obtain ⟨oa, c, rfl⟩ := hj.shapeT
  cases c1 : jOk js
  · simp -implicitDefEqProofs [CL_ret r1, c1, plOk]
  · simp -implicitDefEqProofs [CL_ret r1, c1, plOk, CL_ret r2]
theorem ruledOrder_1_run {a b : Int} {r q : Nat} (J : Jobs h vj js) (hg : goodL js = true) (hb : h[r]? = some (some ⟨[vj], 0, false⟩)) (hq : h[q]? = some (some ⟨[.int .i64 o], 0, false⟩)) (ha : 0 ≤ a ∧ a < js.length) (hb' : 0 ≤ b ∧ b < js.length) :
    Ret P G n_impl_ruledOrder_1 [.int .i64 a, .int .i64 b, .pointer (some ⟨r, 0, some 1⟩), .pointer (some ⟨q, 0, some 1⟩)] h (.bool (aheadR o js a b)) h := by
  refine enter_run e_impl_ruledOrder_1 (by simp) ?_
  have Js := J
  obtain ⟨oj, cj, rfl⟩ := J.shapeT
  have lb := load_pre (n := 1) List.prefix_rfl hb rfl
  have lq := load_pre (n := 1) List.prefix_rfl hq rfl
  have rd := fun {hh : Hp} => difference_run (h := hh) (o := o) (jobOk_jA hg ha) (jobOk_jA hg hb')
  rw [ahead_eq (good_tm hg) ha hb']
  have e : gapJ o (jA js a) (jA js b) = gapX o js a b := rfl
  rw [e] at rd
  simp -implicitDefEqProofs [-indexAddrP_some, lb, lq, load_JX Js ha, load_JX Js hb', CL_ret rd, CH_at rd]
theorem ruledOrder_run (J : Jobs h vj js) (hg : goodL js = true) (hn : js.length ≤ 8) : RunsC P G n_impl_ruledOrder [vj, .int .i64 o] h fun w h' => h <+: h' ∧ Own h.length h' w 1 ((rulL o js).map encI) := by
  refine hideC fun K hK => enter_run e_impl_ruledOrder (by simp) ?_
  have Js := J
  obtain ⟨oj, cj, rfl⟩ := J.shapeT
  have H0 := ((Holds.start (h := h)).alloc [.slice oj js.length cj]).alloc [.int .i64 o]
  simp only [List.append_assoc, List.cons_append, List.nil_append, List.length_append, List.length_cons, List.length_nil, Nat.zero_add] at H0
  simp -implicitDefEqProofs
  refine CL_post (numbersTo_run (by omega)) fun v1 h1 ⟨hp1, ho1⟩ => ?_
  have H1 := H0.ext hp1
  simp -implicitDefEqProofs
  refine CL_post (sortedBy_run (ah := aheadR o js) ho1.sees (by rw [upTo_len]; omega) fun h2 hp2 a b ha hb => ?_) fun v2 h2 ⟨hp2, ho2⟩ => ?_
  · have H2 := H1.ext hp2
    exact ruledOrder_1_run (Js.pre H2.pre) hg (H2.box 0 rfl) (H2.box 1 rfl) (upTo_in a ha) (upTo_in b hb)
  · simp -implicitDefEqProofs
    have H := (Holds.start (h := h)).call (H1.pre.trans hp2) (ho2.low H1.pre.length_le)
    exact onK hK (H.ret 0 rfl)
def ruleF (o : Int) (js : List Job) : List Int := if ruOk js o = true then rulL o js else []
theorem implRuledOrder_run (J : Jobs h vj js) (hl : js.length ≤ 2 ^ 40) : RunsC P G n_impl_RuledOrder [vj, .int .i64 o] h fun w h' => h <+: h' ∧ ∃ d, w = .tuple #[d, .bool (ruOk js o)] ∧ Ints h' d (ruleF o js) := by
  refine hideC fun K hK => enter_run e_impl_RuledOrder (by simp) ?_
  have r1 := isRuled_run (o := o) J hl
  have Js := J
  obtain ⟨oj, cj, rfl⟩ := J.shapeT
  cases c1 : ruOk js o
  · rw [ruleF, c1] at hK
    simp -implicitDefEqProofs [CL_ret r1, c1]
    exact onK hK ⟨List.prefix_rfl, _, rfl, ⟨by simp, none, 0, rfl, .inl ⟨rfl, rfl, rfl⟩⟩⟩
  · obtain ⟨hn, hg, _⟩ := ruOk_of c1
    rw [ruleF, c1, if_pos rfl] at hK
    simp -implicitDefEqProofs [CL_ret r1, c1]
    refine CL_post (ruledOrder_run (o := o) Js hg hn) fun v1 h1 ⟨hp1, ho1⟩ => ?_
    simp -implicitDefEqProofs
    exact onK hK ⟨pre_gcU hp1, _, rfl, Sees.gcU ho1.sees fun g => plainT (r := [_]) g⟩
theorem specRuledOrder_run (J : Jobs h vj js) (hl : js.length ≤ 2 ^ 40) : RunsC P G n_spec_RuledOrder [vj, .int .i64 o] h fun w h' => h <+: h' ∧ ∃ d, w = .tuple #[d, .bool (ruOk js o)] ∧ Ints h' d (ruleF o js) := by
  refine hideC fun K hK => enter_run e_spec_RuledOrder (by simp) ?_
  have r1 := l3Ruled_run (o := o) J hl
  have Js := J
  obtain ⟨oj, cj, rfl⟩ := J.shapeT
  cases c1 : ruOk js o
  · rw [ruleF, c1] at hK
    simp -implicitDefEqProofs [CL_ret r1, c1]
    exact onK hK ⟨List.prefix_rfl, _, rfl, ⟨by simp, none, 0, rfl, .inl ⟨rfl, rfl, rfl⟩⟩⟩
  · obtain ⟨hn, hg, _⟩ := ruOk_of c1
    rw [ruleF, c1, if_pos rfl] at hK
    simp -implicitDefEqProofs [CL_ret r1, c1]
    refine CL_post (l3Order_run (o := o) Js hg hn) fun v1 h1 ⟨hp1, ho1⟩ => ?_
    rw [ruled_eq (good_tm hg) up_asc' upTo_in] at ho1
    simp -implicitDefEqProofs
    exact onK hK ⟨pre_gcU hp1, _, rfl, Sees.gcU ho1.sees fun g => plainT (r := [_]) g⟩
theorem l3Wrong_run (J : Jobs h vj js) (X : Ints h v xs) (hg : goodL js = true) (hn : js.length ≤ 8) (ox : Ord js.length xs) : ∃ w : Int, decide (w < 0) = ruledB o js xs ∧ Ret P G n_spec_l3Wrong [vj, v, .int .i64 o] h (.int .i64 w) h := by
  have hxl := ox.len
  have hnext := @ruled_next o js xs
  by_cases hr : ∃ i x y, xs[i]? = some x ∧ xs[i + 1]? = some y ∧ 0 < gapX o js x y
  · have hex : ∃ i, ∃ x y, xs[i]? = some x ∧ xs[i + 1]? = some y ∧ 0 < gapX o js x y := hr
    obtain ⟨i0, ⟨x0, y0, hx0, hy0, g0⟩, hmin⟩ : ∃ i, (∃ x y, xs[i]? = some x ∧ xs[i + 1]? = some y ∧ 0 < gapX o js x y) ∧ ∀ j, j < i → ¬ ∃ x y, xs[j]? = some x ∧ xs[j + 1]? = some y ∧ 0 < gapX o js x y := by
      obtain ⟨i, hi⟩ := hex
      induction i using Nat.strongRecOn with
      | ind i ih =>
        by_cases hj : ∃ j, j < i ∧ ∃ x y, xs[j]? = some x ∧ xs[j + 1]? = some y ∧ 0 < gapX o js x y
        · obtain ⟨j, h1, h2⟩ := hj
          exact ih j h1 h2
        · exact ⟨i, hi, fun j h1 h2 => hj ⟨j, h1, h2⟩⟩
    refine ⟨i0, ?_, ?_⟩
    · have : ruledB o js xs = false := by
        cases c : ruledB o js xs with
        | false => rfl
        | true => have := hnext.1 c i0 x0 y0 hx0 hy0; omega
      rw [this, decide_eq_false_iff_not]; omega
    · refine enter_run e_spec_l3Wrong (by simp) ?_
      have Js := J
      have Xs := X
      obtain ⟨oj, cj, rfl⟩ := J.shapeT
      obtain ⟨oa, ca, rfl⟩ := X.shapeT
      have hi1 := (List.getElem?_eq_some_iff.1 hy0).1
      simp -implicitDefEqProofs
      refine R_loopO (fun m s h' => ∃ i : Nat, i + m = i0 ∧ s = [(0, .slice oj js.length cj), (1, .slice oa xs.length ca), (2, .int .i64 o), (7, .int .i64 i)] ∧ h' = h) (fun I hI m s h' => ?_) (n := i0) ⟨0, Nat.zero_add _, by simp, rfl⟩
      rintro ⟨i, hi, rfl, rfl⟩
      have hlt : i + 1 < xs.length := by omega
      have hlt' : (i : Int) + 1 < xs.length := by omega
      obtain ⟨x, hx, _⟩ := drop_at (show i < xs.length by omega)
      obtain ⟨y, hy, _⟩ := drop_at hlt
      have lx := load_I Xs hx
      have ly := load_I Xs hy
      rw [show ((i + 1 : Nat) : Int) = (i : Int) + 1 by omega] at ly
      have w1 : IntKind.i64.wrap ((i : Int) + 1) = (i : Int) + 1 := by rw [wrap_ok] <;> omega
      have rg := l3Gap_run (o := o) Js hg (ox.inn x (List.mem_of_getElem? hx)) (ox.inn y (List.mem_of_getElem? hy))
      by_cases c : i < i0
      · have g : ¬ 0 < gapX o js x y := fun g => hmin i c ⟨x, y, hx, hy, g⟩
        simp -implicitDefEqProofs [-indexAddrP_some, w1, hlt', lx, ly, CL_ret rg, CH_at rg, g]
        exact ⟨m - 1, by omega, on hI ⟨i + 1, by omega, rfl, rfl⟩⟩
      · have : i = i0 := by omega
        subst this
        rw [hx0] at hx; cases hx
        rw [hy0] at hy; cases hy
        simp -implicitDefEqProofs [-indexAddrP_some, w1, hlt', lx, ly, CL_ret rg, CH_at rg, g0]
  · have hall : ∀ i x y, xs[i]? = some x → xs[i + 1]? = some y → ¬ 0 < gapX o js x y := fun i x y h1 h2 h3 => hr ⟨i, x, y, h1, h2, h3⟩
    refine ⟨-1, ?_, ?_⟩
    · have : ruledB o js xs = true := hnext.2 fun i x y h1 h2 => by have := hall i x y h1 h2; omega
      rw [this]; rfl
    · refine enter_run e_spec_l3Wrong (by simp) ?_
      have Js := J
      have Xs := X
      obtain ⟨oj, cj, rfl⟩ := J.shapeT
      obtain ⟨oa, ca, rfl⟩ := X.shapeT
      simp -implicitDefEqProofs
      refine R_loopO (fun m s h' => ∃ i : Nat, (i + 1 + m = xs.length ∨ (xs.length ≤ i + 1 ∧ m = 0)) ∧ i ≤ xs.length ∧ s = [(0, .slice oj js.length cj), (1, .slice oa xs.length ca), (2, .int .i64 o), (7, .int .i64 i)] ∧ h' = h) (fun I hI m s h' => ?_) (n := xs.length - 1) ⟨0, by omega, by omega, by simp, rfl⟩
      rintro ⟨i, hi, hi2, rfl, rfl⟩
      have w1 : IntKind.i64.wrap ((i : Int) + 1) = (i : Int) + 1 := by rw [wrap_ok] <;> omega
      by_cases hlt : i + 1 < xs.length
      · have hlt' : (i : Int) + 1 < xs.length := by omega
        obtain ⟨x, hx, _⟩ := drop_at (show i < xs.length by omega)
        obtain ⟨y, hy, _⟩ := drop_at hlt
        have lx := load_I Xs hx
        have ly := load_I Xs hy
        rw [show ((i + 1 : Nat) : Int) = (i : Int) + 1 by omega] at ly
        have rg := l3Gap_run (o := o) Js hg (ox.inn x (List.mem_of_getElem? hx)) (ox.inn y (List.mem_of_getElem? hy))
        have g := hall i x y hx hy
        simp -implicitDefEqProofs [-indexAddrP_some, w1, hlt', lx, ly, CL_ret rg, CH_at rg, g]
        exact ⟨m - 1, by omega, on hI ⟨i + 1, by omega, by omega, rfl, rfl⟩⟩
      · have hlt' : ¬ (i : Int) + 1 < xs.length := by omega
        simp -implicitDefEqProofs [w1, hlt']
theorem specIsRuledOrder_run (J : Jobs h vj js) (X : Ints h v xs) (hl : js.length ≤ 2 ^ 40) (hx : xs.length ≤ 2 ^ 40) : Ret P G n_spec_IsRuledOrder [vj, v, .int .i64 o] h (.tuple #[.bool (ruAll js xs o && ruledB o js xs), .bool (ruAll js xs o)]) h := by
  refine enter_run e_spec_IsRuledOrder (by simp) ?_
  have r1 := l3Both_run (o := o) J X hl hx
  have Js := J
  have Xs := X
  obtain ⟨oj, cj, rfl⟩ := J.shapeT
  obtain ⟨oa, ca, rfl⟩ := X.shapeT
  cases c1 : ruAll js xs o
  · simp -implicitDefEqProofs [CL_ret r1, c1]
  · obtain ⟨g1, ox⟩ := ruAll_of c1
    obtain ⟨hn, hg, _⟩ := ruOk_of g1
    obtain ⟨w, e, rw'⟩ := l3Wrong_run (o := o) Js Xs hg hn ox
    rw [← e]
    simp -implicitDefEqProofs [CL_ret r1, c1, CL_ret rw']
/-! ### rule differences -/
def rdOk (js : List Job) (o x y : Int) : Bool := ruOk js o && inB x 0 (w64 ((js.length : Int) - 1)) && inB y 0 (w64 ((js.length : Int) - 1))
def rdV (js : List Job) (o x y : Int) : Int := if rdOk js o x y = true then gapX o js x y else 0
theorem rdOk_of {js : List Job} {o x y : Int} (h : rdOk js o x y = true) : ruOk js o = true ∧ (0 ≤ x ∧ x < js.length) ∧ 0 ≤ y ∧ y < js.length := by
  simp only [rdOk, Bool.and_eq_true] at h
  have hn := (ruOk_of h.1.1).1
  have wn : w64 ((js.length : Int) - 1) = (js.length : Int) - 1 := by unfold w64; rw [wrap_ok] <;> omega
  rw [wn] at h
  simp only [inB, Bool.and_eq_true, decide_eq_true_eq] at h
  exact ⟨h.1.1, by omega, by omega⟩
theorem implRuleDiff_run {x y : Int} (J : Jobs h vj js) (hl : js.length ≤ 2 ^ 40) : Ret P G n_impl_RuleDifference [vj, .int .i64 o, .int .i64 x, .int .i64 y] h (.tuple #[.int .i64 (rdV js o x y), .bool (rdOk js o x y)]) h := by
  refine enter_run e_impl_RuleDifference (by simp) ?_
  have r1 := isRuled_run (o := o) J hl
  have Js := J
  obtain ⟨oj, cj, rfl⟩ := J.shapeT
  cases c1 : ruOk js o
  · simp -implicitDefEqProofs [CL_ret r1, c1, rdV, rdOk]
  obtain ⟨hn, hg, _⟩ := ruOk_of c1
  cases c2 : inB x 0 (w64 ((js.length : Int) - 1))
  · simp -implicitDefEqProofs [CL_ret r1, c1, rdV, rdOk, CL_ret isNumber_run, c2]
  cases c3 : inB y 0 (w64 ((js.length : Int) - 1))
  · simp -implicitDefEqProofs [CL_ret r1, c1, rdV, rdOk, CL_ret isNumber_run, c2, c3]
  have hok : rdOk js o x y = true := by rw [rdOk, c1, c2, c3]; rfl
  obtain ⟨_, hx, hy⟩ := rdOk_of hok
  have jx := load_JX Js hx
  have jy := load_JX Js hy
  have rd := fun {hh : Hp} => difference_run (h := hh) (o := o) (jobOk_jA hg hx) (jobOk_jA hg hy)
  have eg : gapJ o (jA js x) (jA js y) = gapX o js x y := rfl
  rw [eg] at rd
  rw [rdV, if_pos hok, hok]
  simp -implicitDefEqProofs [-indexAddrP_some, CL_ret r1, c1, CL_ret isNumber_run, c2, c3, jx, jy, CL_ret rd, CH_at rd]
theorem l3Job_run {x : Int} (J : Jobs h vj js) (hn : js.length ≤ 8) : Ret P G n_spec_l3Job [vj, .int .i64 x] h (.bool (inB x 0 (w64 ((js.length : Int) - 1)))) h := by
  refine enter_run e_spec_l3Job (by simp) ?_
  obtain ⟨oj, cj, rfl⟩ := J.shapeT
  simp -implicitDefEqProofs [CL_ret l1In_run, w64]
theorem specRuleDiff_run {x y : Int} (J : Jobs h vj js) (hl : js.length ≤ 2 ^ 40) : Ret P G n_spec_RuleDifference [vj, .int .i64 o, .int .i64 x, .int .i64 y] h (.tuple #[.int .i64 (rdV js o x y), .bool (rdOk js o x y)]) h := by
  refine enter_run e_spec_RuleDifference (by simp) ?_
  have r1 := l3Ruled_run (o := o) J hl
  have Js := J
  obtain ⟨oj, cj, rfl⟩ := J.shapeT
  cases c1 : ruOk js o
  · simp -implicitDefEqProofs [CL_ret r1, c1, rdV, rdOk]
  obtain ⟨hn, hg, _⟩ := ruOk_of c1
  have rx := l3Job_run (x := x) Js hn
  have ry := l3Job_run (x := y) Js hn
  cases c2 : inB x 0 (w64 ((js.length : Int) - 1))
  · simp -implicitDefEqProofs [CL_ret r1, c1, rdV, rdOk, CL_ret rx, c2]
  cases c3 : inB y 0 (w64 ((js.length : Int) - 1))
  · simp -implicitDefEqProofs [CL_ret r1, c1, rdV, rdOk, CL_ret rx, CL_ret ry, c2, c3]
  have hok : rdOk js o x y = true := by rw [rdOk, c1, c2, c3]; rfl
  obtain ⟨_, hx, hy⟩ := rdOk_of hok
  have rd := l3Gap_run (o := o) Js hg hx hy
  rw [rdV, if_pos hok, hok]
  simp -implicitDefEqProofs [CL_ret r1, c1, CL_ret rx, CL_ret ry, c2, c3, CL_ret rd]
theorem rd_swap {js : List Job} {o x y : Int} : rdOk js o y x = rdOk js o x y ∧ rdV js o y x = - rdV js o x y := by
  have h1 : rdOk js o y x = rdOk js o x y := by unfold rdOk; rw [Bool.and_assoc, Bool.and_comm (inB y _ _), ← Bool.and_assoc]
  refine ⟨h1, ?_⟩
  unfold rdV
  rw [h1]
  split
  · exact gap_swap
  · rfl
end
/-! ### ruled orders are best -/
theorem ruled_best {js : List Job} {o : Int} (hok : ruOk js o = true) {xs : List Int} (ox : Ord js.length xs) : (ruledB o js xs = true → valX o js xs = bestV o js) ∧ (o = 2 ∨ o = 3 → (ruledB o js xs = (valX o js xs == bestV o js))) := by
  obtain ⟨hn, hg, ho, hpl⟩ := ruOk_of hok
  have t := good_tm hg
  have hiff := ruled_iff (o := o) t ox.inn
  obtain ⟨f1, f2, f3, f4⟩ := best_facts (f := valX o js) (n := js.length) hn
  have e : bestV o js = (bestR (valX o js) js.length).v := rfl
  have main : ∀ ys, Ord js.length ys → (xs.Pairwise fun a b => gapX o js a b ≤ 0) → valX o js xs ≤ valX o js ys := fun ys oy hs => by
    have hp := (ord_perm oy).trans (ord_perm ox).symm
    rcases (show o = 1 ∨ o = 2 ∨ o = 3 ∨ o = 4 by omega) with rfl | rfl | rfl | rfl
    · have ht : ∀ x, 0 ≤ (jA js x).t := fun x => by
        rcases @jA_in js x with g | g
        · have := job_of (List.all_eq_true.1 hg _ g); omega
        · rw [g]; exact Int.le_refl _
      unfold valX
      rw [val_end ht (ord_prm ox), val_end ht (ord_prm oy)]
      exact end_best ht (hs.imp fun h => by simp only [gapX, gapJ] at h; simp at h; omega) hp
    · have hp1 : plOk js = true := by rcases hpl with g | g; omega; exact g
      unfold valX
      rw [val_sum (by omega) (by omega) (ord_prm ox), val_sum (by omega) (by omega) (ord_prm oy)]
      exact sum_best (plOk_pl hp1) (.inl rfl) hs hp
    · have hp1 : plOk js = true := by rcases hpl with g | g; omega; exact g
      unfold valX
      rw [val_sum (by omega) (by omega) (ord_prm ox), val_sum (by omega) (by omega) (ord_prm oy)]
      exact sum_best (plOk_pl hp1) (.inr rfl) hs hp
    · have hp1 : plOk js = true := by rcases hpl with g | g; omega; exact g
      rcases Nat.eq_zero_or_pos js.length with h0 | h0
      · have e1 : xs = [] := List.eq_nil_of_length_eq_zero (by rw [ox.len, h0])
        have e2 : ys = [] := List.eq_nil_of_length_eq_zero (by rw [oy.len, h0])
        rw [e1, e2]; exact Int.le_refl _
      · rw [valX_lat hp1 ox h0, valX_lat hp1 oy h0]
        exact lat_best (plOk_pl hp1) (hs.imp fun h => by simp only [gapX, gapJ] at h; simp at h; omega) hp
  have one : ruledB o js xs = true → valX o js xs = bestV o js := fun hr => by
    have h1 := main _ f3 (hiff.1 hr)
    have h2 := f4 _ ox
    rw [e]; omega
  refine ⟨one, fun h23 => ?_⟩
  have hp1 : plOk js = true := by rcases hpl with g | g; omega; exact g
  have lb := (loss_best hp1 h23 ox).1
  rw [Bool.eq_iff_iff, beq_iff_eq]
  refine ⟨one, fun hv => hiff.2 ?_⟩
  have h0 : invS o js xs = 0 := by omega
  rw [← inv_nil]
  have key : ∀ l : List Int, invS o js l = 0 → invL o js l = [] := by
    intro l
    induction l with
    | nil => intro _; rfl
    | cons x r ih =>
      intro h
      have hR : ∀ {r : List Int}, 0 ≤ invR o js x r ∧ (invR o js x r = 0 → invL1 o js x r = []) := by
        intro r
        induction r with
        | nil => exact ⟨Int.le_refl _, fun _ => rfl⟩
        | cons y r ih2 =>
          rw [invR_cons]
          refine ⟨by have := ih2.1; omega, fun g => ?_⟩
          have h1 := ih2.1
          have h2 : gapX o js x y ≤ 0 := by omega
          have h3 := ih2.2 (by omega)
          unfold invL1 at h3 ⊢
          rw [List.filter_cons, if_neg (by simp; omega)]
          exact h3
      rw [invS] at h
      have h1 := (hR (r := r)).1
      have h2 := invS_nonneg (o := o) (js := js) (l := r)
      rw [invL, (hR (r := r)).2 (by omega), ih (by omega)]; rfl
  exact key xs h0
end Go.Pm.PP

/- Fronts of points, in plain terms. -/
set_option linter.unusedVariables false
set_option linter.unusedSimpArgs false
namespace Go.Pm.PE
abbrev Pt := Int × Int
def domB (p q : Pt) : Bool := !(p.1 == q.1 && p.2 == q.2) && decide (p.1 ≤ q.1) && decide (p.2 ≤ q.2)
def sameB (p q : Pt) : Bool := p.1 == q.1 && p.2 == q.2
theorem sameB_iff {p q : Pt} : sameB p q = true ↔ p = q := by
  unfold sameB; rw [Bool.and_eq_true, beq_iff_eq, beq_iff_eq]
  constructor
  · rintro ⟨h1, h2⟩; exact Prod.ext h1 h2
  · rintro rfl; exact ⟨rfl, rfl⟩
theorem domB_iff {p q : Pt} : domB p q = true ↔ p ≠ q ∧ p.1 ≤ q.1 ∧ p.2 ≤ q.2 := by
  have := @sameB_iff p q
  unfold sameB at this
  unfold domB
  rw [Bool.and_eq_true, Bool.and_eq_true, Bool.not_eq_true', decide_eq_true_eq, decide_eq_true_eq, ← Bool.not_eq_true, this, and_assoc]
def insP (p : Pt) : List Pt → List Pt
  | [] => [p]
  | q :: l => if p.1 < q.1 then p :: q :: l else q :: insP p l
theorem insP_perm {p : Pt} : ∀ {l : List Pt}, (insP p l).Perm (p :: l)
  | [] => List.Perm.refl _
  | q :: l => by
    rw [insP]; split
    · exact List.Perm.refl _
    · exact (List.Perm.cons q insP_perm).trans (List.Perm.swap ..)
/-- A point or one that dominates it is there. -/
def coverB (F : List Pt) (p : Pt) : Bool := F.any fun q => sameB q p || domB q p
def restF (F : List Pt) (p : Pt) : List Pt := F.filter fun q => !domB p q
def putF (F : List Pt) (p : Pt) : List Pt := if coverB F p = true then F else insP p (restF F p)
def Srt (F : List Pt) : Prop := F.Pairwise fun a b => a.1 < b.1 ∧ b.2 < a.2
theorem insP_split {p : Pt} : ∀ {l : List Pt} {k : Nat}, k ≤ l.length → (∀ i q, i < k → l[i]? = some q → q.1 ≤ p.1) → (∀ q, l[k]? = some q → p.1 < q.1) → insP p l = l.take k ++ p :: l.drop k
  | [], k, hk, _, _ => by
    have : k = 0 := by simpa using hk
    subst this; rfl
  | q :: l, 0, _, _, h2 => by rw [insP, if_pos (h2 q rfl)]; rfl
  | q :: l, k + 1, hk, h1, h2 => by
    have := h1 0 q (by omega) rfl
    rw [insP, if_neg (by omega), insP_split (k := k) (by simpa using hk) (fun i z hi hz => h1 (i + 1) z (by omega) (by simpa using hz)) (fun z hz => h2 z (by simpa using hz))]
    rfl
theorem rest_srt {F : List Pt} {p : Pt} (h : Srt F) : Srt (restF F p) := h.sublist List.filter_sublist
theorem rest_mem {F : List Pt} {p q : Pt} : q ∈ restF F p ↔ q ∈ F ∧ domB p q = false := by
  unfold restF; rw [List.mem_filter]; simp
theorem cover_iff {F : List Pt} {p : Pt} : coverB F p = true ↔ ∃ q, q ∈ F ∧ q.1 ≤ p.1 ∧ q.2 ≤ p.2 := by
  unfold coverB
  rw [List.any_eq_true]
  constructor
  · rintro ⟨q, hq, h⟩
    rw [Bool.or_eq_true, sameB_iff, domB_iff] at h
    refine ⟨q, hq, ?_⟩
    rcases h with rfl | h
    · exact ⟨Int.le_refl _, Int.le_refl _⟩
    · exact h.2
  · rintro ⟨q, hq, h1, h2⟩
    refine ⟨q, hq, ?_⟩
    rw [Bool.or_eq_true, sameB_iff, domB_iff]
    by_cases e : q = p
    · exact .inl e
    · exact .inr ⟨e, h1, h2⟩
/-- What is left and the new point part in both numbers. -/
theorem rest_part {F : List Pt} {p q : Pt} (hc : coverB F p = false) (hq : q ∈ restF F p) : (q.1 < p.1 ∧ p.2 < q.2) ∨ (p.1 < q.1 ∧ q.2 < p.2) := by
  obtain ⟨h1, h2⟩ := rest_mem.1 hq
  have h3 : ¬ (q.1 ≤ p.1 ∧ q.2 ≤ p.2) := fun g => by
    have := cover_iff.2 ⟨q, h1, g⟩
    rw [this] at hc; cases hc
  have h4 : ¬ (p ≠ q ∧ p.1 ≤ q.1 ∧ p.2 ≤ q.2) := fun g => by
    rw [domB_iff.2 g] at h2; cases h2
  have h5 : ¬ (p.1 ≤ q.1 ∧ p.2 ≤ q.2) := fun g => h4 ⟨fun e => h3 (by rw [e]; exact ⟨Int.le_refl _, Int.le_refl _⟩), g⟩
  omega
theorem insP_srt {p : Pt} : ∀ {l : List Pt}, Srt l → (∀ q, q ∈ l → (q.1 < p.1 ∧ p.2 < q.2) ∨ (p.1 < q.1 ∧ q.2 < p.2)) → Srt (insP p l)
  | [], _, _ => by rw [insP]; exact List.pairwise_singleton ..
  | q :: l, h, hp => by
    have h := List.pairwise_cons.1 h
    have hq := hp q (List.mem_cons_self ..)
    rw [insP]; split
    · rename_i g
      refine List.pairwise_cons.2 ⟨fun z hz => ?_, List.pairwise_cons.2 h⟩
      rcases List.mem_cons.1 hz with rfl | hz
      · omega
      · have := h.1 z hz; omega
    · rename_i g
      refine List.pairwise_cons.2 ⟨fun z hz => ?_, insP_srt h.2 fun z hz => hp z (List.mem_cons_of_mem _ hz)⟩
      rcases List.mem_cons.1 (insP_perm.mem_iff.1 hz) with rfl | hz
      · omega
      · exact h.1 z hz
theorem putF_srt {F : List Pt} {p : Pt} (h : Srt F) : Srt (putF F p) := by
  unfold putF; split
  · exact h
  · rename_i hc
    exact insP_srt (rest_srt h) fun q hq => rest_part (by simpa using hc) hq
theorem putF_mem {F : List Pt} {p q : Pt} (h : q ∈ putF F p) : q = p ∨ q ∈ F := by
  unfold putF at h; split at h
  · exact .inr h
  · rcases List.mem_cons.1 (insP_perm.mem_iff.1 h) with g | g
    · exact .inl g
    · exact .inr (rest_mem.1 g).1
theorem putF_cover {F : List Pt} {p r : Pt} (h : r = p ∨ ∃ q, q ∈ F ∧ q.1 ≤ r.1 ∧ q.2 ≤ r.2) : ∃ q, q ∈ putF F p ∧ q.1 ≤ r.1 ∧ q.2 ≤ r.2 := by
  unfold putF; split
  · rename_i hc
    rcases h with rfl | h
    · exact cover_iff.1 hc
    · exact h
  · have hp : p ∈ insP p (restF F p) := insP_perm.mem_iff.2 (List.mem_cons_self ..)
    rcases h with rfl | ⟨q, hq, h1, h2⟩
    · exact ⟨r, hp, Int.le_refl _, Int.le_refl _⟩
    · cases hd : domB p q with
      | true =>
        have := domB_iff.1 hd
        exact ⟨p, hp, by omega, by omega⟩
      | false => exact ⟨q, insP_perm.mem_iff.2 (List.mem_cons_of_mem _ (rest_mem.2 ⟨hq, hd⟩)), h1, h2⟩
theorem putF_len {F : List Pt} {p : Pt} : (putF F p).length ≤ F.length + 1 := by
  unfold putF; split
  · omega
  · rw [insP_perm.length_eq, List.length_cons]
    have := List.length_filter_le (fun q => !domB p q) F
    unfold restF; omega
/-- A front of the points of some things. -/
theorem front_fold {α : Type} {pt : α → Pt} : ∀ {l : List α} {F : List Pt} {S : Pt → Prop}, Srt F → (∀ q, q ∈ F → S q) → (∀ x, x ∈ l → S (pt x)) →
    Srt (l.foldl (fun F x => putF F (pt x)) F) ∧ (∀ q, q ∈ l.foldl (fun F x => putF F (pt x)) F → S q) ∧ ∀ r, ((∃ x, x ∈ l ∧ r = pt x) ∨ ∃ q, q ∈ F ∧ q.1 ≤ r.1 ∧ q.2 ≤ r.2) → ∃ q, q ∈ l.foldl (fun F x => putF F (pt x)) F ∧ q.1 ≤ r.1 ∧ q.2 ≤ r.2
  | [], F, S, h, hS, _ => ⟨h, hS, fun r hr => by
      rcases hr with ⟨x, hx, _⟩ | g
      · cases hx
      · exact g⟩
  | x :: l, F, S, h, hS, hl => by
    rw [List.foldl_cons]
    obtain ⟨h1, h2, h3⟩ := front_fold (l := l) (F := putF F (pt x)) (S := S) (putF_srt h) (fun q hq => by
      rcases putF_mem hq with rfl | g
      · exact hl x (List.mem_cons_self ..)
      · exact hS q g) fun y hy => hl y (List.mem_cons_of_mem _ hy)
    refine ⟨h1, h2, fun r hr => h3 r ?_⟩
    rcases hr with ⟨y, hy, e⟩ | g
    · rcases List.mem_cons.1 hy with rfl | hy
      · exact .inr (putF_cover (.inl e))
      · exact .inl ⟨y, hy, e⟩
    · exact .inr (putF_cover (.inr g))
/-! ### the first one that fits -/
def ffs (P : List Int → Bool) (n : Nat) : Nat → List Int → Option (List Int)
  | 0, begun => if P begun = true then some begun else none
  | k + 1, begun => (List.range' 0 n).findSome? fun (j : Nat) => if begun.any (· == (j : Int)) = true then none else ffs P n k (begun ++ [(j : Int)])
theorem findSome_map {α β : Type} {f : β → Option (List Int)} {g : α → β} : ∀ {l : List α}, (l.map g).findSome? f = l.findSome? fun x => f (g x)
  | [] => rfl
  | x :: l => by
    rw [List.map_cons, List.findSome?_cons, List.findSome?_cons]
    cases f (g x) with
    | none => exact findSome_map
    | some y => rfl
theorem findSome_filter {α : Type} {f : α → Option (List Int)} {q : α → Bool} : ∀ {l : List α}, (l.filter q).findSome? f = l.findSome? fun x => if q x = true then f x else none
  | [] => rfl
  | x :: l => by
    rw [List.filter_cons, List.findSome?_cons]
    cases h : q x with
    | false => simp only [Bool.false_eq_true, if_false]; exact findSome_filter
    | true =>
      simp only [if_true]
      rw [List.findSome?_cons]
      cases f x with
      | none => exact findSome_filter
      | some y => rfl
theorem find_flat {α : Type} {f : α → List (List Int)} {P : List Int → Bool} : ∀ {l : List α}, (l.flatMap f).find? P = l.findSome? fun x => (f x).find? P
  | [] => rfl
  | x :: l => by
    rw [List.flatMap_cons, List.find?_append, List.findSome?_cons]
    cases (f x).find? P with
    | none => simp
    | some y => rfl
theorem find_maps {P : List Int → Bool} {g : List Int → List Int} : ∀ {l : List (List Int)}, (l.map g).find? P = (l.find? fun x => P (g x)).map g
  | [] => rfl
  | x :: l => by
    rw [List.map_cons, List.find?_cons, List.find?_cons]
    cases P (g x) with
    | false => exact find_maps
    | true => rfl
theorem findSome_idx {f : Int → Option (List Int)} {l : List Int} : ∀ {m i : Nat}, i + m = l.length → (List.range' i m).findSome? (fun i => f ((l[i]?).getD 0)) = (l.drop i).findSome? f
  | 0, i, h => by rw [List.drop_eq_nil_of_le (by omega)]; rfl
  | m + 1, i, h => by
    obtain ⟨x, hx, hd⟩ := drop_at (show i < l.length by omega)
    rw [List.range'_succ, List.findSome?_cons, hd, List.findSome?_cons, hx, Option.getD_some]
    cases f x with
    | none => exact findSome_idx (by omega)
    | some y => rfl
theorem findSome_congr {α : Type} {f g : α → Option (List Int)} : ∀ {l : List α}, (∀ x, x ∈ l → f x = g x) → l.findSome? f = l.findSome? g
  | [], _ => rfl
  | x :: l, h => by
    rw [List.findSome?_cons, List.findSome?_cons, h x (List.mem_cons_self ..)]
    cases g x with
    | none => exact findSome_congr fun y hy => h y (List.mem_cons_of_mem _ hy)
    | some y => rfl
end Go.Pm.PE
namespace Go.Pm.PP
open Go.Pm Go.Pm.PE
theorem ffs_perms {P : List Int → Bool} {n : Nat} : ∀ {k : Nat} {begun : List Int}, (rem n begun).length = k → ffs P n k begun = ((perms (rem n begun) k).find? fun o => P (begun ++ o)).map (begun ++ ·)
  | 0, begun, _ => by
    rw [ffs, perms, List.find?_cons, List.append_nil]
    cases h : P begun <;> simp
  | k + 1, begun, h => by
    rw [ffs, perms, find_flat]
    have e1 : ((List.range' 0 n).findSome? fun (j : Nat) => if begun.any (· == (j : Int)) = true then none else ffs P n k (begun ++ [(j : Int)])) = (rem n begun).findSome? fun x => ffs P n k (begun ++ [x]) := by
      unfold rem
      rw [findSome_filter, findSome_map]
      refine findSome_congr fun j _ => ?_
      cases begun.any (· == (j : Int)) <;> simp
    have e2 := findSome_idx (f := fun x => ffs P n k (begun ++ [x])) (l := rem n begun) (m := (rem n begun).length) (i := 0) (by omega)
    rw [List.drop_zero] at e2
    rw [e1, ← e2]
    have key : ∀ {l : List Nat} {f g : Nat → Option (List Int)}, (∀ i, i ∈ l → f i = (g i).map (begun ++ ·)) → l.findSome? f = (l.findSome? g).map (begun ++ ·) := by
      intro l f g
      induction l with
      | nil => intro _; rfl
      | cons i l ih =>
        intro hh
        rw [List.findSome?_cons, List.findSome?_cons, hh i (List.mem_cons_self ..)]
        cases g i with
        | none => exact ih fun j hj => hh j (List.mem_cons_of_mem _ hj)
        | some y => rfl
    refine key fun i hi => ?_
    have hi : i < (rem n begun).length := by simpa [List.mem_range'_1] using hi
    obtain ⟨x, hx, _⟩ := drop_at hi
    rw [hx, Option.getD_some, find_maps, ffs_perms (by have := rem_len hx; omega), rem_snoc hx, Option.map_map]
    have e3 : (fun o => P (begun ++ [x] ++ o)) = fun o => P (begun ++ x :: o) := by funext o; rw [List.append_assoc]; rfl
    have e4 : ((fun x_1 => begun ++ x_1) ∘ fun x_1 => x :: x_1) = fun o => begun ++ [x] ++ o := by funext o; simp
    rw [e3, e4]
end Go.Pm.PP
namespace Go.Pm.PE
theorem take_snoc {α : Type} {xs : List α} {i : Nat} {x : α} (h : xs[i]? = some x) : xs.take (i + 1) = xs.take i ++ [x] := by
  rw [List.take_add_one, h]; rfl
theorem insP_placed {p : Pt} {m : List Pt} : ∀ {l : List Pt}, (∃ q, q ∈ l ∧ p.1 < q.1) → insP p (l ++ m) = insP p l ++ m
  | [], h => by obtain ⟨q, hq, _⟩ := h; cases hq
  | a :: l, h => by
    rw [List.cons_append, insP, insP]
    split
    · rfl
    · rename_i g
      rw [insP_placed (l := l) (by
        obtain ⟨q, hq, hl⟩ := h
        rcases List.mem_cons.1 hq with rfl | hq
        · exact absurd hl g
        · exact ⟨q, hq, hl⟩)]; rfl
theorem insP_none {p : Pt} {m : List Pt} : ∀ {l : List Pt}, (∀ q, q ∈ l → ¬ p.1 < q.1) → insP p (l ++ m) = l ++ insP p m
  | [], _ => rfl
  | a :: l, h => by
    rw [List.cons_append, insP, if_neg (h a (List.mem_cons_self ..)), insP_none fun q hq => h q (List.mem_cons_of_mem _ hq)]; rfl
theorem rest_snoc {F : List Pt} {p q : Pt} {i : Nat} (hq : F[i]? = some q) : restF (F.take (i + 1)) p = restF (F.take i) p ++ if domB p q = true then [] else [q] := by
  unfold restF
  rw [take_snoc hq, List.filter_append]
  congr 1
  rw [List.filter_cons]
  cases domB p q <;> rfl
theorem cover_snoc {F : List Pt} {p q : Pt} {i : Nat} (hq : F[i]? = some q) : coverB (F.take (i + 1)) p = (coverB (F.take i) p || (sameB q p || domB q p)) := by
  unfold coverB; rw [take_snoc hq, List.any_append]; simp
theorem cover_mono {F : List Pt} {p q : Pt} {i : Nat} (hq : F[i]? = some q) (h : (sameB q p || domB q p) = true) : coverB F p = true := by
  unfold coverB; exact List.any_eq_true.2 ⟨q, List.mem_of_getElem? hq, h⟩
/-- A front with bounded first numbers is not long. -/
def FOk (F : List Pt) : Prop := Srt F ∧ ∀ q, q ∈ F → -(2 ^ 30) ≤ q.1 ∧ q.1 ≤ 2 ^ 30
theorem srt_len : ∀ {F : List Pt} {a : Int}, Srt F → (∀ q, q ∈ F → a ≤ q.1 ∧ q.1 ≤ 2 ^ 30) → a ≤ 2 ^ 30 + 1 → (F.length : Int) ≤ 2 ^ 30 + 1 - a
  | [], a, _, _, ha => by simp; omega
  | q :: F, a, h, hb, ha => by
    have h := List.pairwise_cons.1 h
    have hq := hb q (List.mem_cons_self ..)
    have := srt_len (F := F) (a := q.1 + 1) h.2 (fun z hz => by have := h.1 z hz; have := hb z (List.mem_cons_of_mem _ hz); omega) (by omega)
    rw [List.length_cons]; omega
theorem FOk.len {F : List Pt} (h : FOk F) : F.length ≤ 2 ^ 32 := by
  have := srt_len h.1 h.2 (by omega); omega
theorem FOk.put {F : List Pt} (h : FOk F) {p : Pt} (hp : -(2 ^ 30) ≤ p.1 ∧ p.1 ≤ 2 ^ 30) : FOk (putF F p) := ⟨putF_srt h.1, fun q hq => by
  rcases putF_mem hq with rfl | g
  · exact hp
  · exact h.2 q g⟩
theorem FOk.nil : FOk [] := ⟨List.Pairwise.nil, fun q hq => by cases hq⟩
theorem rest_len {F : List Pt} {p : Pt} {i : Nat} : (restF (F.take i) p).length ≤ F.length := by
  unfold restF
  refine Nat.le_trans (List.length_filter_le ..) ?_
  rw [List.length_take]; omega
/-- The place from behind in a front that is sorted. -/
theorem insP_back {p : Pt} {l : List Pt} (h : Srt l) {k : Nat} (hk : k ≤ l.length) (h1 : ∀ i q, k ≤ i → l[i]? = some q → p.1 < q.1) (h2 : ∀ q, 0 < k → l[k - 1]? = some q → ¬ p.1 < q.1) : insP p l = l.take k ++ p :: l.drop k := by
  refine insP_split hk (fun i q hi hq => ?_) fun q hq => h1 k q (Nat.le_refl _) hq
  rcases Nat.eq_or_lt_of_le (show i ≤ k - 1 by omega) with e | g
  · have := h2 q (by omega) (by rw [← e]; exact hq); omega
  · obtain ⟨z, hz, _⟩ := drop_at (show k - 1 < l.length by omega)
    have h3 := h2 z (by omega) hz
    have := List.pairwise_iff_getElem.1 h i (k - 1) (List.getElem?_eq_some_iff.1 hq).1 (List.getElem?_eq_some_iff.1 hz).1 g
    rw [(List.getElem?_eq_some_iff.1 hq).2, (List.getElem?_eq_some_iff.1 hz).2] at this
    omega
theorem shift_setP {us : List Pt} {z x : Pt} {j : Nat} (hj : j ≤ us.length) : (((us ++ [z]).take (j + 1) ++ ((us ++ [z]).drop j).take ((us ++ [z]).length - (j + 1))).set j x) = us.take j ++ x :: us.drop j := by
  apply List.ext_getElem?
  intro i
  have hl : ((us ++ [z]).take (j + 1)).length = j + 1 := by simp; omega
  rw [List.getElem?_set]
  have htl : (us.take j).length = j := by simp; omega
  split
  · rename_i e
    subst e
    rw [if_pos (by simp; omega), List.getElem?_append_right (by omega), htl, Nat.sub_self]; rfl
  · rename_i hne
    rcases Nat.lt_or_ge i j with g | g
    · rw [List.getElem?_append_left (by omega), List.getElem?_append_left (by omega), List.getElem?_take, List.getElem?_take, if_pos (by omega), if_pos g, List.getElem?_append_left (by omega)]
    · rw [List.getElem?_append_right (by omega), List.getElem?_append_right (by omega), hl, htl, List.getElem?_take, List.getElem?_drop]
      rw [show i - j = (i - (j + 1)) + 1 by omega, List.getElem?_cons_succ, List.getElem?_drop]
      simp only [List.length_append, List.length_cons, List.length_nil]
      split
      · rw [List.getElem?_append_left (by omega)]
      · rw [List.getElem?_eq_none (by omega)]
end Go.Pm.PE

/- Points of orders, by both. -/
set_option linter.unusedVariables false
set_option linter.unusedSimpArgs false
set_option maxRecDepth 4000
set_option maxHeartbeats 8000000
namespace Go.Pm.PP
open Go.Pm Go.Proofs Go.Pm.PE
abbrev ptv (p : Pt) : Value := .agg #[.int .i64 p.1, .int .i64 p.2]
def ptX (f g : Int) (js : List Job) (xs : List Int) : Pt := (valX f js xs, valX g js xs)
def aTwo (js : List Job) (f g : Int) : Bool := jOk js && inB f 1 8 && inB g 1 8
theorem aTwo_of {js : List Job} {f g : Int} (h : aTwo js f g = true) : js.length ≤ 8 ∧ goodL js = true ∧ (1 ≤ f ∧ f ≤ 8) ∧ 1 ≤ g ∧ g ≤ 8 := by
  rw [aTwo, Bool.and_eq_true, Bool.and_eq_true] at h
  exact ⟨(jOk_of h.1.1).1, (jOk_of h.1.1).2, inB_of h.1.2, inB_of h.2⟩
theorem ia2 {h : Hp} {a : Addr} {j : Nat} (hj : j < 2) : indexAddrP P h t_A2_int (.pointer (some a)) (.int .i64 j) = some (.pointer (some (addP a j))) := ix_arr u_A2_int e_t_int rfl hj
theorem ia20 {h : Hp} {a : Addr} : indexAddrP P h t_A2_int (.pointer (some a)) (.int .i64 0) = some (.pointer (some (addP a 0))) := ia2 (j := 0) (by omega)
theorem ia21 {h : Hp} {a : Addr} : indexAddrP P h t_A2_int (.pointer (some a)) (.int .i64 1) = some (.pointer (some (addP a 1))) := ia2 (j := 1) (by omega)
section
variable {h : Hp} {vj v u : Value} {js : List Job} {xs : List Int} {f g : Int}
theorem areTwo_run (J : Jobs h vj js) (hl : js.length ≤ 2 ^ 40) : Ret P G n_impl_areTwo [vj, .int .i64 f, .int .i64 g] h (.bool (aTwo js f g)) h := by
  refine enter_run e_impl_areTwo (by simp) ?_
  have r1 := isJobs_run J hl
  obtain ⟨oj, cj, rfl⟩ := J.shapeT
  cases c1 : jOk js
  · simp -implicitDefEqProofs [CL_ret r1, c1, aTwo]
  cases c2 : inB f 1 8
  · simp -implicitDefEqProofs [CL_ret r1, c1, aTwo, CL_ret isObjective_run, c2]
  · simp -implicitDefEqProofs [CL_ret r1, c1, aTwo, CL_ret isObjective_run, c2]
theorem l11Two_run : Ret P G n_spec_l11Two [.int .i64 f, .int .i64 g] h (.bool (inB f 1 8 && inB g 1 8)) h := by
  refine enter_run e_spec_l11Two (by simp) ?_
  cases c2 : inB f 1 8
  · simp -implicitDefEqProofs [CL_ret l2Objective_run, c2]
  · simp -implicitDefEqProofs [CL_ret l2Objective_run, c2]
theorem pointOf_run (J : Jobs h vj js) (X : Ints h v xs) (hg : goodL js = true) (hn : js.length ≤ 8) (hf : 1 ≤ f ∧ f ≤ 8) (hg8 : 1 ≤ g ∧ g ≤ 8) (ox : Ord js.length xs) : Ret P G n_impl_pointOf [vj, v, .int .i64 f, .int .i64 g] h (ptv (ptX f g js xs)) h := by
  refine enter_run e_impl_pointOf (by simp) ?_
  have Js := J
  have Xs := X
  obtain ⟨oj, cj, rfl⟩ := J.shapeT
  obtain ⟨oa, ca, rfl⟩ := X.shapeT
  have H0 := (Holds.start (h := h)).alloc [.int .i64 0, .int .i64 0]
  simp -implicitDefEqProofs
  refine CL_post (endsOf_run (Js.pre H0.pre) (Xs.pre H0.pre) hg hn (by rw [ox.len]; exact hn) ox.inn) fun v1 h1 ⟨hp1, ho1, hb1⟩ => ?_
  have H1 := H0.ext hp1
  have rf := valueOfEnds_run (o := f) (Js.pre H1.pre) ho1.sees hg hn endsL_len (fun e he => by have := hb1 e he; omega) hf
  have rg := valueOfEnds_run (o := g) (Js.pre H1.pre) ho1.sees hg hn endsL_len (fun e he => by have := hb1 e he; omega) hg8
  obtain ⟨h2, s2, H2, _⟩ := H1.set (P := P) 0 (n := 2) (o := 0) (ty := t_A2_int) (w := ptv (ptX f g js xs)) rfl rfl e_t_A2_int (by simp) (by simp) (by simp)
  have l2 := H2.bl (P := P) 0 2 rfl rfl
  have s2' : storeP P h1 t_A2_int (.agg #[.int .i64 (valE f js (endsL js xs)), .int .i64 (valE g js (endsL js xs))]) (.pointer (some ⟨h.length, 0, some 2⟩)) = some h2 := s2
  simp -implicitDefEqProofs [CL_ret rf, CL_ret rg, s2', l2]
  exact gcP H2.pre (by simp)
theorem l11Point_run (J : Jobs h vj js) (X : Ints h v xs) (hg : goodL js = true) (hn : js.length ≤ 8) (hf : 1 ≤ f ∧ f ≤ 8) (hg8 : 1 ≤ g ∧ g ≤ 8) (ox : Ord js.length xs) : Ret P G n_spec_l11Point [vj, v, .int .i64 f, .int .i64 g] h (ptv (ptX f g js xs)) h := by
  refine enter_run e_spec_l11Point (by simp) ?_
  have Js := J
  have Xs := X
  obtain ⟨oj, cj, rfl⟩ := J.shapeT
  obtain ⟨oa, ca, rfl⟩ := X.shapeT
  have H0 := (Holds.start (h := h)).alloc [.int .i64 0, .int .i64 0]
  simp -implicitDefEqProofs
  refine CL_post (l2Ends_run (Js.pre H0.pre) (Xs.pre H0.pre) hg hn (by rw [ox.len]; exact hn) ox.inn ox.nd fun i hi => ox.all hi) fun v1 h1 ⟨hp1, ho1, hb1⟩ => ?_
  have H1 := H0.ext hp1
  have rf := l2Of_run (o := f) (Js.pre H1.pre) ho1.sees hg hn endsL_len (fun e he => by have := hb1 e he; omega) hf
  have rg := l2Of_run (o := g) (Js.pre H1.pre) ho1.sees hg hn endsL_len (fun e he => by have := hb1 e he; omega) hg8
  obtain ⟨h2, s2, H2, _⟩ := H1.set (P := P) 0 (n := 2) (o := 0) (ty := t_A2_int) (w := ptv (ptX f g js xs)) rfl rfl e_t_A2_int (by simp) (by simp) (by simp)
  have l2 := H2.bl (P := P) 0 2 rfl rfl
  have s2' : storeP P h1 t_A2_int (.agg #[.int .i64 (valE f js (endsL js xs)), .int .i64 (valE g js (endsL js xs))]) (.pointer (some ⟨h.length, 0, some 2⟩)) = some h2 := s2
  simp -implicitDefEqProofs [CL_ret rf, CL_ret rg, s2', l2]
  exact gcP H2.pre (by simp)
theorem dominates_run {p q : Pt} : Ret P G n_impl_dominates [ptv p, ptv q] h (.bool (domB p q)) h := by
  refine enter_run e_impl_dominates (by simp) ?_
  have H := ((Holds.start (h := h)).alloc [.int .i64 p.1, .int .i64 p.2]).alloc [.int .i64 q.1, .int .i64 q.2]
  simp only [List.append_assoc, List.cons_append, List.nil_append, List.length_append, List.length_cons, List.length_nil, Nat.zero_add] at H
  have l1 := H.bl (P := P) 0 2 rfl rfl
  have l2 := H.bl (P := P) 1 2 rfl rfl
  unfold domB
  cases c1 : (p.1 == q.1 && p.2 == q.2)
  · by_cases c2 : p.1 ≤ q.1
    · simp -implicitDefEqProofs [l1, l2, eqA2, c1, ia20, ia21, c2]
    · simp -implicitDefEqProofs [l1, l2, eqA2, c1, ia20, ia21, c2]
  · simp -implicitDefEqProofs [l1, l2, eqA2, c1]
theorem l11Dominates_run {p q : Pt} : Ret P G n_spec_l11Dominates [ptv p, ptv q] h (.bool (domB p q)) h := by
  refine enter_run e_spec_l11Dominates (by simp) ?_
  have H := ((Holds.start (h := h)).alloc [.int .i64 p.1, .int .i64 p.2]).alloc [.int .i64 q.1, .int .i64 q.2]
  simp only [List.append_assoc, List.cons_append, List.nil_append, List.length_append, List.length_cons, List.length_nil, Nat.zero_add] at H
  have l1 := H.bl (P := P) 0 2 rfl rfl
  have l2 := H.bl (P := P) 1 2 rfl rfl
  unfold domB
  by_cases c2 : p.1 ≤ q.1
  · by_cases c3 : p.2 ≤ q.2
    · cases c1 : (p.1 == q.1 && p.2 == q.2) <;>
        simp -implicitDefEqProofs [l1, l2, eqA2, c1, ia20, ia21, c2, c3]
    · simp -implicitDefEqProofs [l1, l2, eqA2, ia20, ia21, c2, c3]
  · simp -implicitDefEqProofs [l1, l2, eqA2, ia20, ia21, c2]
def ptV (js : List Job) (xs : List Int) (f g : Int) : Pt := if (aTwo js f g && l2OrderL js.length xs) = true then ptX f g js xs else (0, 0)
theorem implPointOf_run (J : Jobs h vj js) (X : Ints h v xs) (hl : js.length ≤ 2 ^ 40) (hx : xs.length ≤ 2 ^ 40) : RunsC P G n_impl_PointOf [vj, v, .int .i64 f, .int .i64 g] h fun w h' => h <+: h' ∧ w = .tuple #[ptv (ptV js xs f g), .bool (aTwo js f g && l2OrderL js.length xs)] := by
  refine hideC fun K hK => enter_run e_impl_PointOf (by simp) ?_
  have H0 := (Holds.start (h := h)).alloc [.int .i64 0, .int .i64 0]
  have r1 := areTwo_run (f := f) (g := g) (J.pre H0.pre) hl
  have r2 := isOrder_run (n := js.length) (X.pre H0.pre) hx
  have Js := J
  have Xs := X
  obtain ⟨oj, cj, rfl⟩ := J.shapeT
  obtain ⟨oa, ca, rfl⟩ := X.shapeT
  have zz : ∃ h2, storeP P (h ++ [some ⟨[.int .i64 0, .int .i64 0], 0, false⟩]) t_A2_int (ptv (0, 0)) (.pointer (some ⟨h.length, 0, some 2⟩)) = some h2 ∧ loadP P h2 t_A2_int (.pointer (some ⟨h.length, 0, some 2⟩)) = some (ptv (0, 0)) ∧ h <+: h2 := by
    obtain ⟨h2, s2, H2, _⟩ := H0.set (P := P) 0 (n := 2) (o := 0) (ty := t_A2_int) (w := ptv (0, 0)) rfl rfl e_t_A2_int (by simp) (by simp) (by simp)
    exact ⟨h2, s2, by rw [H2.bl (P := P) 0 2 rfl rfl]; simp, H2.pre⟩
  obtain ⟨hz, sz, lz, pz⟩ := zz
  cases c1 : aTwo js f g
  · rw [c1] at r1
    simp -implicitDefEqProofs [CL_ret r1, c1, sz, lz]
    exact onK hK ⟨pre_gcU pz, by simp [ptV, *]⟩
  obtain ⟨hn, hg, hf, hg8⟩ := aTwo_of c1
  have e : (((xs.length : Int) == (js.length : Nat)) && arGo js.length [] xs) = l2OrderL js.length xs := by
    rw [order_eq hn, l2OrderL, show inB js.length 0 8 = true by simp [inB]; omega, Bool.true_and]
  rw [e] at r2
  rw [c1] at r1
  cases c2 : l2OrderL js.length xs
  · rw [c2] at r2
    simp -implicitDefEqProofs [CL_ret r1, CL_ret r2, c1, c2, sz, lz]
    exact onK hK ⟨pre_gcU pz, by simp [ptV, *]⟩
  · rw [c2] at r2
    have rp := pointOf_run (f := f) (g := g) (Js.pre H0.pre) (Xs.pre H0.pre) hg hn hf hg8 (ord_of c2)
    obtain ⟨h2, s2, H2, _⟩ := H0.set (P := P) 0 (n := 2) (o := 0) (ty := t_A2_int) (w := ptv (ptX f g js xs)) rfl rfl e_t_A2_int (by simp) (by simp) (by simp)
    have l2 := H2.bl (P := P) 0 2 rfl rfl
    simp -implicitDefEqProofs [-storeP_app0, CL_ret r1, CL_ret r2, c1, c2, CL_ret rp, s2, l2]
    exact onK hK ⟨pre_gcU H2.pre, by simp [ptV, *]⟩
theorem specPointOf_run (J : Jobs h vj js) (X : Ints h v xs) (hl : js.length ≤ 2 ^ 40) (hx : xs.length ≤ 2 ^ 40) : RunsC P G n_spec_PointOf [vj, v, .int .i64 f, .int .i64 g] h fun w h' => h <+: h' ∧ w = .tuple #[ptv (ptV js xs f g), .bool (aTwo js f g && l2OrderL js.length xs)] := by
  refine hideC fun K hK => enter_run e_spec_PointOf (by simp) ?_
  have H0 := (Holds.start (h := h)).alloc [.int .i64 0, .int .i64 0]
  have r1 := l2Two_run (J.pre H0.pre) (X.pre H0.pre) hl hx
  have Js := J
  have Xs := X
  obtain ⟨oj, cj, rfl⟩ := J.shapeT
  obtain ⟨oa, ca, rfl⟩ := X.shapeT
  have zz : ∃ h2, storeP P (h ++ [some ⟨[.int .i64 0, .int .i64 0], 0, false⟩]) t_A2_int (ptv (0, 0)) (.pointer (some ⟨h.length, 0, some 2⟩)) = some h2 ∧ loadP P h2 t_A2_int (.pointer (some ⟨h.length, 0, some 2⟩)) = some (ptv (0, 0)) ∧ h <+: h2 := by
    obtain ⟨h2, s2, H2, _⟩ := H0.set (P := P) 0 (n := 2) (o := 0) (ty := t_A2_int) (w := ptv (0, 0)) rfl rfl e_t_A2_int (by simp) (by simp) (by simp)
    exact ⟨h2, s2, by rw [H2.bl (P := P) 0 2 rfl rfl]; simp, H2.pre⟩
  obtain ⟨hz, sz, lz, pz⟩ := zz
  have e1 : (aTwo js f g && l2OrderL js.length xs) = ((jOk js && l2OrderL js.length xs) && (inB f 1 8 && inB g 1 8)) := by
    unfold aTwo
    cases jOk js <;> cases l2OrderL js.length xs <;> cases inB f 1 8 <;> cases inB g 1 8 <;> rfl
  have eV : ptV js xs f g = if ((jOk js && l2OrderL js.length xs) && (inB f 1 8 && inB g 1 8)) = true then ptX f g js xs else (0, 0) := by unfold ptV; rw [e1]
  rw [eV, e1] at hK
  cases c1 : (jOk js && l2OrderL js.length xs)
  · rw [c1] at r1
    simp -implicitDefEqProofs [CL_ret r1, c1, sz, lz]
    exact onK hK ⟨pre_gcU pz, by simp [ptV, *]⟩
  rw [c1] at r1
  cases c2 : (inB f 1 8 && inB g 1 8)
  · simp -implicitDefEqProofs [CL_ret r1, CL_ret l11Two_run, c1, c2, sz, lz]
    exact onK hK ⟨pre_gcU pz, by simp [ptV, *]⟩
  · have c3 : aTwo js f g = true ∧ l2OrderL js.length xs = true := by
      rw [Bool.and_eq_true] at c1 c2
      exact ⟨by rw [aTwo, c1.1, c2.1, c2.2]; rfl, c1.2⟩
    obtain ⟨hn, hg, hf, hg8⟩ := aTwo_of c3.1
    have rp := l11Point_run (f := f) (g := g) (Js.pre H0.pre) (Xs.pre H0.pre) hg hn hf hg8 (ord_of c3.2)
    obtain ⟨h2, s2, H2, _⟩ := H0.set (P := P) 0 (n := 2) (o := 0) (ty := t_A2_int) (w := ptv (ptX f g js xs)) rfl rfl e_t_A2_int (by simp) (by simp) (by simp)
    have l2 := H2.bl (P := P) 0 2 rfl rfl
    simp -implicitDefEqProofs [-storeP_app0, CL_ret r1, CL_ret l11Two_run, c1, c2, CL_ret rp, s2, l2]
    rw [c1, c2] at hK
    exact onK hK ⟨pre_gcU H2.pre, rfl⟩
end
end Go.Pm.PP

/- Tables of truth values and their closures, in plain terms. -/
set_option linter.unusedVariables false
set_option linter.unusedSimpArgs false
namespace Go.Pm.PE
def tG (T : List (List Bool)) (a b : Nat) : Bool := (((T[a]?).getD [])[b]?).getD false
def tS (T : List (List Bool)) (a b : Nat) (x : Bool) : List (List Bool) := T.set a (((T[a]?).getD []).set b x)
structure TOk (n : Nat) (T : List (List Bool)) : Prop where
  len : T.length = n
  row : ∀ r, r ∈ T → r.length = n
theorem TOk.at {n : Nat} {T : List (List Bool)} (k : TOk n T) {a : Nat} (ha : a < n) : ∃ r, T[a]? = some r ∧ r.length = n := by
  obtain ⟨r, hr, _⟩ := drop_at (show a < T.length by rw [k.len]; exact ha)
  exact ⟨r, hr, k.row r (List.mem_of_getElem? hr)⟩
theorem TOk.cell {n : Nat} {T : List (List Bool)} (k : TOk n T) {a b : Nat} (ha : a < n) (hb : b < n) : ∃ r, T[a]? = some r ∧ r.length = n ∧ r[b]? = some (tG T a b) := by
  obtain ⟨r, hr, hl⟩ := k.at ha
  obtain ⟨x, hx, _⟩ := drop_at (show b < r.length by omega)
  exact ⟨r, hr, hl, by simp [tG, hr, hx]⟩
theorem TOk.set {n : Nat} {T : List (List Bool)} (k : TOk n T) {a b : Nat} {x : Bool} (ha : a < n) : TOk n (tS T a b x) := by
  obtain ⟨r, hr, hl⟩ := k.at ha
  refine ⟨by unfold tS; rw [List.length_set, k.len], fun q hq => ?_⟩
  unfold tS at hq
  rw [hr, Option.getD_some] at hq
  rcases List.mem_or_eq_of_mem_set hq with g | g
  · exact k.row q g
  · rw [g, List.length_set, hl]
theorem tG_set {n : Nat} {T : List (List Bool)} (k : TOk n T) {a b c d : Nat} {x : Bool} (ha : a < n) (hb : b < n) : tG (tS T a b x) c d = if c = a ∧ d = b then x else tG T c d := by
  obtain ⟨r, hr, hl⟩ := k.at ha
  have hal : a < T.length := by rw [k.len]; exact ha
  unfold tG tS
  rw [hr, Option.getD_some]
  by_cases h1 : c = a
  · subst h1
    rw [List.getElem?_set_self hal, Option.getD_some, hr, Option.getD_some]
    by_cases h2 : d = b
    · subst h2
      rw [List.getElem?_set_self (by omega), if_pos ⟨rfl, rfl⟩]; rfl
    · rw [List.getElem?_set_ne (fun g => h2 g.symm), if_neg (fun g => h2 g.2)]
  · rw [List.getElem?_set_ne (fun g => h1 g.symm), if_neg (fun g => h1 g.1)]
theorem tS_same {n : Nat} {T : List (List Bool)} (k : TOk n T) {a b : Nat} (ha : a < n) (hb : b < n) : tS T a b (tG T a b) = T := by
  obtain ⟨r, hr, hl, hx⟩ := k.cell ha hb
  unfold tS
  rw [hr, Option.getD_some]
  have e1 : r.set b (tG T a b) = r := by
    refine List.ext_getElem? fun i => ?_
    by_cases h : b = i
    · subst h; rw [List.getElem?_set_self (by omega), hx]
    · rw [List.getElem?_set_ne h]
  rw [e1]
  refine List.ext_getElem? fun i => ?_
  by_cases h : a = i
  · subst h; rw [List.getElem?_set_self (List.getElem?_eq_some_iff.1 hr).1, hr]
  · rw [List.getElem?_set_ne h]
/-! ### closures -/
def falT (n : Nat) : List (List Bool) := List.replicate n (List.replicate n false)
def edT (T : List (List Bool)) (es : List (Int × Int)) : List (List Bool) := es.foldl (fun T e => tS T e.1.toNat e.2.toNat true) T
def cst (k i : Nat) (T : List (List Bool)) (j : Nat) : List (List Bool) := tS T i j (tG T i j || (tG T i k && tG T k j))
def cJ (k i : Nat) (T : List (List Bool)) (l : List Nat) : List (List Bool) := l.foldl (cst k i) T
def cI (n k : Nat) (T : List (List Bool)) (l : List Nat) : List (List Bool) := l.foldl (fun T i => cJ k i T (List.range' 0 n)) T
def cK (n : Nat) (T : List (List Bool)) (l : List Nat) : List (List Bool) := l.foldl (fun T k => cI n k T (List.range' 0 n)) T
def clo (n : Nat) (es : List (Int × Int)) : List (List Bool) := cK n (edT (falT n) es) (List.range' 0 n)
theorem falT_ok {n : Nat} : TOk n (falT n) := ⟨by simp [falT], fun r hr => by rw [List.eq_of_mem_replicate hr]; simp⟩
def edOk (n : Nat) (es : List (Int × Int)) : Prop := ∀ e, e ∈ es → (0 ≤ e.1 ∧ e.1 < n) ∧ 0 ≤ e.2 ∧ e.2 < n
theorem edT_ok {n : Nat} : ∀ {es : List (Int × Int)} {T : List (List Bool)}, TOk n T → edOk n es → TOk n (edT T es)
  | [], T, k, _ => k
  | e :: es, T, k, h => by
    have := h e (List.mem_cons_self ..)
    have e' : edT T (e :: es) = edT (tS T e.1.toNat e.2.toNat true) es := rfl
    rw [e']
    exact edT_ok (k.set (by omega)) fun q hq => h q (List.mem_cons_of_mem _ hq)
theorem cJ_ok {n k i : Nat} (hi : i < n) : ∀ {l : List Nat} {T : List (List Bool)}, TOk n T → TOk n (cJ k i T l)
  | [], T, h => h
  | j :: l, T, h => by
    have e : cJ k i T (j :: l) = cJ k i (cst k i T j) l := rfl
    rw [e]; exact cJ_ok hi (h.set hi)
theorem cI_ok {n k : Nat} : ∀ {l : List Nat} {T : List (List Bool)}, (∀ i, i ∈ l → i < n) → TOk n T → TOk n (cI n k T l)
  | [], T, _, h => h
  | i :: l, T, hl, h => by
    have e : cI n k T (i :: l) = cI n k (cJ k i T (List.range' 0 n)) l := rfl
    rw [e]; exact cI_ok (fun x hx => hl x (List.mem_cons_of_mem _ hx)) (cJ_ok (hl i (List.mem_cons_self ..)) h)
theorem cK_ok {n : Nat} : ∀ {l : List Nat} {T : List (List Bool)}, TOk n T → TOk n (cK n T l)
  | [], T, h => h
  | k :: l, T, h => by
    have e : cK n T (k :: l) = cK n (cI n k T (List.range' 0 n)) l := rfl
    rw [e]; exact cK_ok (cI_ok (fun i hi => by simpa [List.mem_range'_1] using hi) h)
theorem clo_ok {n : Nat} {es : List (Int × Int)} (h : edOk n es) : TOk n (clo n es) := cK_ok (edT_ok falT_ok h)
/-- One pair alone is closed. -/
theorem clo_one {n : Nat} {x y : Int} (hx : 0 ≤ x ∧ x < n) (hy : 0 ≤ y ∧ y < n) (hxy : x ≠ y) : ∀ a b, tG (clo n [(x, y)]) a b = decide ((a : Int) = x ∧ (b : Int) = y) := by
  have base : ∀ a b, tG (edT (falT n) [(x, y)]) a b = decide ((a : Int) = x ∧ (b : Int) = y) := fun a b => by
    have e : edT (falT n) [(x, y)] = tS (falT n) x.toNat y.toNat true := rfl
    rw [e, tG_set falT_ok (by omega) (by omega)]
    have e0 : tG (falT n) a b = false := by
      unfold tG falT
      rw [List.getElem?_replicate]
      split
      · rw [Option.getD_some, List.getElem?_replicate]; split <;> rfl
      · rfl
    rw [e0]
    by_cases h : a = x.toNat ∧ b = y.toNat
    · rw [if_pos h]; symm; rw [decide_eq_true_eq]; omega
    · rw [if_neg h]; symm; rw [decide_eq_false_iff_not]; omega
  have ok : TOk n (edT (falT n) [(x, y)]) := edT_ok falT_ok fun e he => by
    rw [List.mem_singleton] at he; subst he; exact ⟨hx, hy⟩
  have step : ∀ {k i j : Nat}, i < n → j < n → cst k i (edT (falT n) [(x, y)]) j = edT (falT n) [(x, y)] := fun {k i j} hi hj => by
    unfold cst
    have : (tG (edT (falT n) [(x, y)]) i k && tG (edT (falT n) [(x, y)]) k j) = false := by
      rw [base, base, Bool.and_eq_false_iff, decide_eq_false_iff_not, decide_eq_false_iff_not]
      omega
    rw [this, Bool.or_false]
    exact tS_same ok hi hj
  have sJ : ∀ {k i : Nat}, i < n → ∀ {l : List Nat}, (∀ j, j ∈ l → j < n) → cJ k i (edT (falT n) [(x, y)]) l = edT (falT n) [(x, y)] := fun {k i} hi l => by
    induction l with
    | nil => intro _; rfl
    | cons j l ih =>
      intro hl
      have e : cJ k i (edT (falT n) [(x, y)]) (j :: l) = cJ k i (cst k i (edT (falT n) [(x, y)]) j) l := rfl
      rw [e, step hi (hl j (List.mem_cons_self ..))]
      exact ih fun q hq => hl q (List.mem_cons_of_mem _ hq)
  have rg : ∀ j, j ∈ List.range' 0 n → j < n := fun j hj => by simpa [List.mem_range'_1] using hj
  have sI : ∀ {k : Nat} {l : List Nat}, (∀ j, j ∈ l → j < n) → cI n k (edT (falT n) [(x, y)]) l = edT (falT n) [(x, y)] := fun {k} l => by
    induction l with
    | nil => intro _; rfl
    | cons i l ih =>
      intro hl
      have e : cI n k (edT (falT n) [(x, y)]) (i :: l) = cI n k (cJ k i (edT (falT n) [(x, y)]) (List.range' 0 n)) l := rfl
      rw [e, sJ (hl i (List.mem_cons_self ..)) rg]
      exact ih fun q hq => hl q (List.mem_cons_of_mem _ hq)
  have sK : ∀ {l : List Nat}, cK n (edT (falT n) [(x, y)]) l = edT (falT n) [(x, y)] := fun {l} => by
    induction l with
    | nil => rfl
    | cons k l ih =>
      have e : cK n (edT (falT n) [(x, y)]) (k :: l) = cK n (cI n k (edT (falT n) [(x, y)]) (List.range' 0 n)) l := rfl
      rw [e, sI rg]
      exact ih
  intro a b
  unfold clo
  rw [sK, base]
end Go.Pm.PE

/- Tables of truth values in the small machine; the closure of pairs, by both. -/
set_option linter.unusedVariables false
set_option linter.unusedSimpArgs false
set_option maxRecDepth 4000
set_option maxHeartbeats 16000000
namespace Go.Pm.PP
open Go.Pm Go.Proofs Go.Pm.PE
def encB (b : Bool) : List Value := [.bool b]
theorem load_B {h : Hp} {v : Value} {xs : List Bool} {i : Nat} {x : Bool} (hv : Sees h v 1 (xs.map encB)) (hx : xs[i]? = some x) :
    indexAddrP P h t_S_bool v (.int .i64 i) = some (.pointer (some (addP (base v) (i)))) ∧ loadP P h t_bool (.pointer (some (addP (base v) (i)))) = some (.bool x) := by
  have hi := (List.getElem?_eq_some_iff.1 hx).1
  have h1 := hv.indexT (P := P) u_S_bool i_bool (k := .i64) (j := i) (by omega) (by omega)
  rw [Int.toNat_natCast] at h1
  have h2 := hv.cellT (P := P) (ty := t_bool) a_bool i_bool hx (k := 0) (by omega)
  exact ⟨by simpa using h1, by simpa [encB] using h2⟩
theorem put_B {h0 h : Hp} {L : List Asn} (H : Holds h0 h L) (i : Nat) {v : Value} {xs : List Bool} (hi : L[i]? = some (.own v 1 (xs.map encB))) {j : Nat} (hj : j < xs.length) (x : Bool) :
    ∃ h', storeP P h t_bool (.bool x) (.pointer (some (addP (base v) (j)))) = some h' ∧ Holds h0 h' (L.set i (.own v 1 ((xs.set j x).map encB))) ∧ Keeps (rowV v) h h' := by
  have := H.put (P := P) i (t := t_bool) (w := .bool x) (j := j) hi i_bool (by simpa using hj) rfl (by simp)
  simpa [List.map_set, encB] using this
theorem make_B {h0 h : Hp} {L : List Asn} (H : Holds h0 h L) {n : Nat} (hn : n ≤ 2 ^ 40) :
    ∃ v h', makeP P h t_S_bool (.int .i64 n) (.int .i64 n) = some (v, h') ∧ Holds h0 h' (L ++ [.own v 1 ((List.replicate n false).map encB)]) ∧ h <+: h' ∧ (∃ oa, v = .slice oa n n) := by
  have mk := make_eq (h := h) u_S_bool e_t_bool z_t_bool rfl (by rw [s_t_bool]; omega) (by rw [b_t_bool]; omega) (n := n) (by omega) (by rw [b_t_bool]; omega)
  rw [s_t_bool] at mk
  simp only [Value.cells] at mk
  have hlz : ∀ e ∈ List.replicate n ([.bool false] : List Value), e.length = 1 := fun e he => by rw [List.eq_of_mem_replicate he]; rfl
  refine ⟨_, _, mk, ?_, List.prefix_append .., _, rfl⟩
  have := H.lit (els := List.replicate n ([.bool false] : List Value)) (sz := 1) (n := n * 1) hlz (by simp)
  simpa [encB] using this
theorem make_NB {h0 h : Hp} {L : List Asn} (H : Holds h0 h L) {n : Nat} (hn : n ≤ 2 ^ 40) :
    ∃ v h', makeP P h t_S_S_bool (.int .i64 n) (.int .i64 n) = some (v, h') ∧ Holds h0 h' (L ++ [.own v 1 ((List.replicate n (.slice none 0 0 : Value)).map encV)]) ∧ h <+: h' ∧ (∃ oa, v = .slice oa n n) := by
  have mk := make_eq (h := h) u_S_S_bool e_t_S_bool z_t_S_bool rfl (by rw [s_t_S_bool]; omega) (by rw [b_t_S_bool]; omega) (n := n) (by omega) (by rw [b_t_S_bool]; omega)
  rw [s_t_S_bool] at mk
  simp only [Value.cells] at mk
  have hlz : ∀ e ∈ List.replicate n ([.slice none 0 0] : List Value), e.length = 1 := fun e he => by rw [List.eq_of_mem_replicate he]; rfl
  refine ⟨_, _, mk, ?_, List.prefix_append .., _, rfl⟩
  have := H.lit (els := List.replicate n ([.slice none 0 0] : List Value)) (sz := 1) (n := n * 1) hlz (by simp)
  simpa [encV] using this
theorem put_NB {h0 h : Hp} {L : List Asn} (H : Holds h0 h L) (i : Nat) {v : Value} {xs : List (Value)} (hi : L[i]? = some (.own v 1 (xs.map encV))) {j : Nat} (hj : j < xs.length) (x : Value) (hone : one x = true) :
    ∃ h', storeP P h t_S_bool (x) (.pointer (some (addP (base v) (j)))) = some h' ∧ Holds h0 h' (L.set i (.own v 1 ((xs.set j x).map encV))) ∧ Keeps (rowV v) h h' := by
  have := H.put (P := P) i (t := t_S_bool) (w := x) (j := j) hi i_S_bool (by simpa using hj) (by cases x <;> first | rfl | cases hone) (by cases x <;> first | rfl | cases hone)
  rw [show (x : Value).cells.toList = [x] by cases x <;> first | rfl | cases hone] at this
  simpa [List.map_set, encV] using this
theorem index_NB {h : Hp} {v : Value} {xs : List Value} {i : Nat} (hv : Sees h v 1 (xs.map encV)) (hi : i < xs.length) : indexAddrP P h t_S_S_bool v (.int .i64 i) = some (.pointer (some (addP (base v) (i)))) := by
  have h1 := hv.indexT (P := P) u_S_S_bool i_S_bool (k := .i64) (j := i) (by omega) (by simpa using hi)
  rw [Int.toNat_natCast] at h1
  simpa using h1
theorem nestB_plain {h h' : Hp} {v : Value} {xss : List (List Bool)} {us : List Value} (N : Nest h v encB 1 xss us) (hp : plainC v = true) : Nest h' v encB 1 xss [] ∧ us = [] := by
  have hs := N.out
  obtain ⟨a, c, e⟩ := hs.shape
  have hv : v = nilV ∧ us = [] := by
    obtain ⟨h2, oa, c', e', h3⟩ := hs
    rcases h3 with ⟨e1, e2, e3⟩ | ⟨r, o, x, e1, _⟩
    · have hu : us = [] := by simpa using e2
      subst hu
      rw [e', e1, e3]
      exact ⟨rfl, rfl⟩
    · rw [e', e1] at hp; cases hp
  obtain ⟨rfl, rfl⟩ := hv
  have hx : xss = [] := List.eq_nil_of_length_eq_zero (by have := N.len; simpa using this.symm)
  subst hx
  exact ⟨⟨⟨by simp, none, 0, rfl, .inl ⟨rfl, rfl, rfl⟩⟩, rfl, fun i u xs g => by simp at g⟩, rfl⟩
theorem nestB_gc {h h' : Hp} {v u : Value} {xss : List (List Bool)} {us : List Value} (N : Nest h' v encB 1 xss us) (hu : plain u = true → plainC v = true) : ∃ us', Nest (gc h h' u) v encB 1 xss us' := by
  rcases gc_cases h h' u with g | ⟨hp, g⟩ <;> rw [g]
  · exact ⟨us, N⟩
  · exact ⟨_, (nestB_plain N (hu hp)).1⟩
theorem push_NB1 {h0 h : Hp} {L : List Asn} (H : Holds h0 h L) (i : Nat) {v : Value} {xs : List (Value)} (hi : L[i]? = some (.own v 1 (xs.map encV))) {a : Option Addr} {n c : Nat} (hn : xs.length ≤ 2 ^ 40) :
    ∃ v' h', appendP P (h ++ [some ⟨[.slice a n c], 1, false⟩]) t_S_S_bool v (.slice (some ⟨h.length, 0, some 1⟩) 1 1) = some (v', h') ∧ Holds h0 h' (L.set i (.own v' 1 ((xs ++ [(.slice a n c : Value)]).map encV))) := by
  obtain ⟨v', h', g1, g2, g3, g4⟩ := (H.ext (List.prefix_append h [])).push (P := P) i (y := encV (.slice a n c)) (n := 1) hi u_S_S_bool e_t_S_bool z_t_S_bool s_t_S_bool (by omega) (by rw [b_t_S_bool]; omega) rfl rfl (by simp [encV]) (by rw [b_t_S_bool]; simp; omega)
  rw [show xs.map encV ++ [encV (.slice a n c)] = (xs ++ [(.slice a n c : Value)]).map encV by simp] at g2
  exact ⟨v', h', by simpa [encV] using g1, g2⟩
/-- A table of one's own. -/
abbrev TB (v : Value) (us : List Value) (T : List (List Bool)) : List Asn := .own v 1 (us.map encV) :: inL encB 1 us T
theorem tab_nest {h0 h : Hp} {v : Value} {us : List Value} {T : List (List Bool)} (H : Holds h0 h (TB v us T)) (hl : us.length = T.length) : Nest h v encB 1 T us := by
  have H' : Holds h0 h ([.own v 1 (us.map encV)] ++ (inL encB 1 us T ++ [])) := by simpa using H
  exact H'.nest (o := 0) rfl hl
theorem nest_cell {h : Hp} {v : Value} {us : List Value} {T : List (List Bool)} {n : Nat} (N : Nest h v encB 1 T us) (k : TOk n T) {a b : Nat} (ha : a < n) (hb : b < n) : ∃ ua uc, us[a]? = some (.slice ua n uc) ∧
    indexAddrP P h t_S_S_bool v (.int .i64 a) = some (.pointer (some (addP (base v) a))) ∧ loadP P h t_S_bool (.pointer (some (addP (base v) a))) = some (.slice ua n uc) ∧
    indexAddrP P h t_S_bool (.slice ua n uc) (.int .i64 b) = some (.pointer (some (addP (base (.slice ua n uc)) b))) ∧ loadP P h t_bool (.pointer (some (addP (base (.slice ua n uc)) b))) = some (.bool (tG T a b)) := by
  obtain ⟨r, hr, hl, hx⟩ := k.cell ha hb
  obtain ⟨u, hu, S⟩ := N.at hr
  have Ss := S
  obtain ⟨ua, uc, e⟩ := S.shapeT
  rw [hl] at e
  subst e
  obtain ⟨l1, l2⟩ := N.load (P := P) u_S_S_bool i_S_bool a_S_bool hu
  obtain ⟨l3, l4⟩ := load_B Ss hx
  exact ⟨ua, uc, hu, l1, l2, l3, l4⟩
theorem tab_put {h0 h : Hp} {v : Value} {us : List Value} {T : List (List Bool)} {n : Nat} (H : Holds h0 h (TB v us T)) (hl : us.length = T.length) (k : TOk n T) {a b : Nat} (ha : a < n) (hb : b < n) {u : Value} (hu : us[a]? = some u) (x : Bool) :
    ∃ h', storeP P h t_bool (.bool x) (.pointer (some (addP (base u) b))) = some h' ∧ Holds h0 h' (TB v us (tS T a b x)) := by
  obtain ⟨r, hr, hrl⟩ := k.at ha
  obtain ⟨h', s, H', _⟩ := put_B H (a + 1) (by rw [List.getElem?_cons_succ]; exact inL_get hu hr) (j := b) (by omega) x
  refine ⟨h', s, ?_⟩
  rw [List.set_cons_succ, inL_set hu hl] at H'
  have : tS T a b x = T.set a (r.set b x) := by unfold tS; rw [hr]; rfl
  rw [this]
  exact H'
section
variable {h : Hp} {ve : Value} {es : List (Int × Int)} {n : Nat}
theorem closure_run (hn : n ≤ 8) (E : Prs h ve es) (hel : es.length ≤ 2 ^ 40) (he : edOk n es) : RunsC P G n_impl_closure [.int .i64 n, ve] h fun w h' => h <+: h' ∧ ∃ us, Nest h' w encB 1 (clo n es) us := by
  refine hideC fun K hK => enter_run e_impl_closure (by simp) ?_
  have Es := E
  obtain ⟨ea, ec, rfl⟩ := E.shapeT
  obtain ⟨v, h1, mk, H1, _, oa, rfl⟩ := make_NB (Holds.start (h := h)) (n := n) (by omega)
  simp -implicitDefEqProofs [mk]
  refine R_loopO (fun m s h' => ∃ (i : Nat) (us : List Value), i + m = n ∧ s = [(0, .int .i64 n), (1, .slice ea es.length ec), (5, .slice oa n n), (15, .int .i64 n), (16, .int .i64 i)] ∧ us.length = i ∧
      Holds h h' (.own (.slice oa n n) 1 ((us ++ List.replicate (n - i) (.slice none 0 0 : Value)).map encV) :: inL encB 1 us (List.replicate i (List.replicate n false)))) (fun I hI m s h' => ?_) (n := n)
    ⟨0, [], Nat.zero_add _, by simp, rfl, by simpa [inL] using H1⟩
  rintro ⟨i, us, hi, rfl, hul, H⟩
  by_cases hlt : i < n
  · obtain ⟨u, h2, mk2, H2, _, ob, rfl⟩ := make_B H (n := n) (by omega)
    have Sv := H2.sees 0 (v := .slice oa n n) (sz := 1) (els := (us ++ List.replicate (n - i) (.slice none 0 0 : Value)).map encV) rfl
    have ix := index_NB (i := i) Sv (by simp; omega)
    obtain ⟨h3, s3, H3, _⟩ := put_NB H2 0 rfl (j := i) (by simp; omega) (.slice ob n n) rfl
    simp -implicitDefEqProofs [-indexAddrP_some, hlt, mk2, ix, s3, winc hlt (by omega)]
    refine ⟨m - 1, by omega, on hI ⟨i + 1, us ++ [.slice ob n n], by omega, rfl, by simp [hul], ?_⟩⟩
    have e1 : (us ++ List.replicate (n - i) (.slice none 0 0 : Value)).set i (.slice ob n n) = (us ++ [.slice ob n n]) ++ List.replicate (n - (i + 1)) (.slice none 0 0) := by
      rw [show n - i = (n - (i + 1)) + 1 by omega, List.replicate_succ, List.set_append_right (h := by omega), hul, Nat.sub_self]
      simp
    have e2 : List.replicate (i + 1) (List.replicate n false) = List.replicate i (List.replicate n false) ++ [List.replicate n false] := by rw [List.replicate_succ']
    rw [e2, inL_snoc (by simp [hul]), ← e1]
    exact H3
  have hin : i = n := by omega
  subst hin
  rw [Nat.sub_self, List.replicate_zero, List.append_nil] at H
  simp -implicitDefEqProofs [hlt]
  have H : Holds h h' (TB (.slice oa i i) us (falT i)) := H
  generalize hX : clo i es = X at hK
  refine R_loopO (fun m s h' => ∃ (j : Nat) (T : List (List Bool)), j + m = es.length ∧ s = [(0, .int .i64 i), (5, .slice oa i i), (25, .slice ea es.length ec), (26, .int .i64 es.length), (27, .int .i64 j)] ∧ TOk i T ∧ X = cK i (edT T (es.drop j)) (List.range' 0 i) ∧
      Holds h h' (TB (.slice oa i i) us T)) (fun I2 hI2 m2 s2 h2 => ?_) (n := es.length)
    ⟨0, falT i, Nat.zero_add _, by simp, falT_ok, hX.symm, H⟩
  rintro ⟨j, T, hj, rfl, hT, hx, H2⟩
  by_cases hlt2 : j < es.length
  · obtain ⟨q, hq, hd⟩ := drop_at hlt2
    have lq := load_Q (Es.pre H2.pre) hq
    obtain ⟨⟨q1, q2⟩, q3, q4⟩ := he q (List.mem_of_getElem? hq)
    obtain ⟨a, ha⟩ : ∃ a : Nat, q.1 = a := ⟨q.1.toNat, by omega⟩
    obtain ⟨b, hb⟩ : ∃ b : Nat, q.2 = b := ⟨q.2.toNat, by omega⟩
    have H3 := H2.ext (List.prefix_append h2 [some ⟨[.int .i64 q.1, .int .i64 q.2], 0, false⟩])
    have N3 := tab_nest H3 (by rw [hul, hT.len])
    obtain ⟨ua, uc, hu, l1, l2, l3, l4⟩ := nest_cell N3 hT (a := a) (b := b) (by omega) (by omega)
    obtain ⟨h4, s4, H4⟩ := tab_put H3 (by rw [hul, hT.len]) hT (a := a) (b := b) (by omega) (by omega) hu true
    have lb := (Holds.start (h := h2)).alloc [.int .i64 q.1, .int .i64 q.2]
    have lp := lb.bl (P := P) 0 2 rfl rfl
    rw [hd] at hx
    rw [ha, hb] at lp l1 l2 l3 s4 lq
    simp -implicitDefEqProofs [-indexAddrP_some, hlt2, lq, ha, hb, lp, ia20, ia21, l1, l2, l3, s4, winc hlt2 (by omega)]
    refine ⟨m2 - 1, by omega, on hI2 ⟨j + 1, _, by omega, rfl, hT.set (a := a) (b := b) (x := true) (by omega), ?_, H4⟩⟩
    rw [hx]
    have e : edT T (q :: es.drop (j + 1)) = edT (tS T q.1.toNat q.2.toNat true) (es.drop (j + 1)) := rfl
    rw [e, ha, hb, Int.toNat_natCast, Int.toNat_natCast]
  have hdn : es.drop j = [] := List.drop_eq_nil_of_le (by omega)
  rw [hdn] at hx
  have hx : X = cK i T (List.range' 0 i) := hx
  simp -implicitDefEqProofs [hlt2]
  clear I hI I2 hI2
  refine R_loopO (fun m s h' => ∃ (k : Nat) (T : List (List Bool)), k + m = i ∧ s = [(0, .int .i64 i), (5, .slice oa i i), (9, .int .i64 k)] ∧ TOk i T ∧ X = cK i T (List.range' k m) ∧
      Holds h h' (TB (.slice oa i i) us T)) (fun I3 hI3 m3 s3 h3 => ?_) (n := i)
    ⟨0, T, Nat.zero_add _, by simp, hT, hx, H2⟩
  rintro ⟨k, T3, hk, rfl, hT3, hx3, H3⟩
  by_cases hlt3 : k < i
  · obtain ⟨m3', rfl⟩ : ∃ m', m3 = m' + 1 := ⟨m3 - 1, by omega⟩
    rw [List.range'_succ] at hx3
    have hx3 : X = cK i (cI i k T3 (List.range' 0 i)) (List.range' (k + 1) m3') := hx3
    have hlt3' : (k : Int) < i := by omega
    simp -implicitDefEqProofs [hlt3, hlt3']
    refine R_loopO (fun m s h' => ∃ (a : Nat) (T : List (List Bool)), a + m = i ∧ s = [(0, .int .i64 i), (5, .slice oa i i), (9, .int .i64 k), (10, .int .i64 a)] ∧ TOk i T ∧ X = cK i (cI i k T (List.range' a m)) (List.range' (k + 1) m3') ∧
        Holds h h' (TB (.slice oa i i) us T)) (fun I4 hI4 m4 s4 h4 => ?_) (n := i)
      ⟨0, T3, Nat.zero_add _, by simp, hT3, hx3, H3⟩
    rintro ⟨a, T4, ha, rfl, hT4, hx4, H4⟩
    by_cases hlt4 : a < i
    · obtain ⟨m4', rfl⟩ : ∃ m', m4 = m' + 1 := ⟨m4 - 1, by omega⟩
      rw [List.range'_succ] at hx4
      have hx4 : X = cK i (cI i k (cJ k a T4 (List.range' 0 i)) (List.range' (a + 1) m4')) (List.range' (k + 1) m3') := hx4
      have hlt4' : (a : Int) < i := by omega
      simp -implicitDefEqProofs [hlt4, hlt4']
      refine R_loopO (fun m s h' => ∃ (b : Nat) (T : List (List Bool)), b + m = i ∧ s = [(0, .int .i64 i), (5, .slice oa i i), (9, .int .i64 k), (10, .int .i64 a), (11, .int .i64 b)] ∧ TOk i T ∧ X = cK i (cI i k (cJ k a T (List.range' b m)) (List.range' (a + 1) m4')) (List.range' (k + 1) m3') ∧
          Holds h h' (TB (.slice oa i i) us T)) (fun I5 hI5 m5 s5 h5 => ?_) (n := i)
        ⟨0, T4, Nat.zero_add _, by simp, hT4, hx4, H4⟩
      rintro ⟨b, T5, hb, rfl, hT5, hx5, H5⟩
      by_cases hlt5 : b < i
      · obtain ⟨m5', rfl⟩ : ∃ m', m5 = m' + 1 := ⟨m5 - 1, by omega⟩
        rw [List.range'_succ] at hx5
        have hx5 : X = cK i (cI i k (cJ k a (cst k a T5 b) (List.range' (b + 1) m5')) (List.range' (a + 1) m4')) (List.range' (k + 1) m3') := hx5
        have hlt5' : (b : Int) < i := by omega
        have N5 := tab_nest H5 (by rw [hul, hT5.len])
        obtain ⟨ua, uc, hu, l1, l2, l3, l4⟩ := nest_cell N5 hT5 (a := a) (b := b) (by omega) (by omega)
        obtain ⟨va, vc, hv, m1, m2, m3, m4⟩ := nest_cell N5 hT5 (a := a) (b := k) (by omega) (by omega)
        obtain ⟨wa, wc, hw, n1, n2, n3, n4⟩ := nest_cell N5 hT5 (a := k) (b := b) (by omega) (by omega)
        rw [hu] at hv; cases hv
        obtain ⟨h6, s6, H6⟩ := tab_put H5 (by rw [hul, hT5.len]) hT5 (a := a) (b := b) (by omega) (by omega) hu (tG T5 a b || (tG T5 a k && tG T5 k b))
        have fin : I5 m5' [(0, .int .i64 i), (5, .slice oa i i), (9, .int .i64 k), (10, .int .i64 a), (11, .int .i64 ((b + 1 : Nat) : Int))] h6 := on hI5 ⟨b + 1, _, by omega, rfl, hT5.set (by omega), hx5, H6⟩
        cases g1 : tG T5 a b <;> cases g2 : tG T5 a k <;> cases g3 : tG T5 k b <;> rw [g1, g2, g3] at s6 <;> simp only [Bool.true_or, Bool.false_or, Bool.and_false, Bool.false_and, Bool.and_self, Bool.true_and] at s6 <;> rw [g1] at l4 <;> rw [g2] at m4 <;> rw [g3] at n4 <;>
          (simp -implicitDefEqProofs [-indexAddrP_some, hlt5, hlt5', l1, l2, l3, l4, m3, m4, n1, n2, n3, n4, s6, winc hlt5 (by omega)]
           exact ⟨m5', by omega, fin⟩)
      · have hlt5' : ¬ (b : Int) < i := by omega
        have : m5 = 0 := by omega
        subst this
        have hx5 : X = cK i (cI i k T5 (List.range' (a + 1) m4')) (List.range' (k + 1) m3') := hx5
        simp -implicitDefEqProofs [hlt5, hlt5', winc hlt4 (by omega)]
        exact ⟨m4', by omega, on hI4 ⟨a + 1, T5, by omega, rfl, hT5, hx5, H5⟩⟩
    · have hlt4' : ¬ (a : Int) < i := by omega
      have : m4 = 0 := by omega
      subst this
      have hx4 : X = cK i T4 (List.range' (k + 1) m3') := hx4
      simp -implicitDefEqProofs [hlt4, hlt4', winc hlt3 (by omega)]
      exact ⟨m3', by omega, on hI3 ⟨k + 1, T4, by omega, rfl, hT4, hx4, H4⟩⟩
  · have hlt3' : ¬ (k : Int) < i := by omega
    have : m3 = 0 := by omega
    subst this
    have hx3 : X = T3 := hx3
    simp -implicitDefEqProofs [hlt3, hlt3']
    rw [hx3] at hK
    exact onK hK ⟨pre_gcU H3.pre, nestB_gc (tab_nest H3 (by rw [hul, hT3.len])) fun g => g⟩
theorem l4Table_run (hn : n ≤ 8) (E : Prs h ve es) (hel : es.length ≤ 2 ^ 40) (he : edOk n es) : RunsC P G n_spec_l4Table [.int .i64 n, ve] h fun w h' => h <+: h' ∧ ∃ us, Nest h' w encB 1 (clo n es) us := by
  refine hideC fun K hK => enter_run e_spec_l4Table (by simp) ?_
  have Es := E
  obtain ⟨ea, ec, rfl⟩ := E.shapeT
  have H1 := own_nil (Holds.start (h := h)) Value encV 1
  simp -implicitDefEqProofs
  refine R_loopO (fun m s h' => ∃ (i : Nat) (us : List Value) (v : Value), i + m = n ∧ s = [(0, .int .i64 n), (1, .slice ea es.length ec), (5, v), (6, .int .i64 i)] ∧ us.length = i ∧
      Holds h h' (TB v us (List.replicate i (List.replicate n false)))) (fun I hI m s h' => ?_) (n := n)
    ⟨0, [], _, Nat.zero_add _, by simp; rfl, rfl, by simpa [inL, TB] using H1⟩
  rintro ⟨i, us, v, hi, rfl, hul, H⟩
  by_cases hlt : i < n
  · have hlt' : (i : Int) < n := by omega
    obtain ⟨u, h2, mk2, H2, _, ob, rfl⟩ := make_B H (n := n) (by omega)
    obtain ⟨v', h3, s3, H3⟩ := push_NB1 H2 0 rfl (a := ob) (n := n) (c := n) (by omega)
    simp -implicitDefEqProofs [hlt, hlt', mk2, s3, winc hlt (by omega)]
    refine ⟨m - 1, by omega, on hI ⟨i + 1, us ++ [.slice ob n n], v', by omega, rfl, by simp [hul], ?_⟩⟩
    have e2 : List.replicate (i + 1) (List.replicate n false) = List.replicate i (List.replicate n false) ++ [List.replicate n false] := by rw [List.replicate_succ']
    rw [e2, TB, inL_snoc (by simp [hul])]
    exact H3
  have hlt' : ¬ (i : Int) < n := by omega
  have hin : i = n := by omega
  subst hin
  obtain ⟨oa, oc, rfl⟩ : ∃ a c, v = .slice a i c := by
    obtain ⟨a, c, e⟩ := (H.sees 0 (v := v) (sz := 1) (els := us.map encV) rfl).shapeT
    rw [hul] at e
    exact ⟨a, c, e⟩
  simp -implicitDefEqProofs [hlt, hlt']
  have H : Holds h h' (TB (.slice oa i oc) us (falT i)) := H
  generalize hX : clo i es = X at hK
  refine R_loopO (fun m s h' => ∃ (j : Nat) (T : List (List Bool)), j + m = es.length ∧ s = [(0, .int .i64 i), (1, .slice ea es.length ec), (5, .slice oa i oc), (7, .int .i64 j)] ∧ TOk i T ∧ X = cK i (edT T (es.drop j)) (List.range' 0 i) ∧
      Holds h h' (TB (.slice oa i oc) us T)) (fun I2 hI2 m2 s2 h2 => ?_) (n := es.length)
    ⟨0, falT i, Nat.zero_add _, by simp, falT_ok, hX.symm, H⟩
  rintro ⟨j, T, hj, rfl, hT, hx, H2⟩
  by_cases hlt2 : j < es.length
  · obtain ⟨q, hq, hd⟩ := drop_at hlt2
    have lq := load_Q (Es.pre H2.pre) hq
    obtain ⟨⟨q1, q2⟩, q3, q4⟩ := he q (List.mem_of_getElem? hq)
    obtain ⟨a, ha⟩ : ∃ a : Nat, q.1 = a := ⟨q.1.toNat, by omega⟩
    obtain ⟨b, hb⟩ : ∃ b : Nat, q.2 = b := ⟨q.2.toNat, by omega⟩
    have N3 := tab_nest H2 (by rw [hul, hT.len])
    obtain ⟨ua, uc, hu, l1, l2, l3, l4⟩ := nest_cell N3 hT (a := a) (b := b) (by omega) (by omega)
    obtain ⟨h4, s4, H4⟩ := tab_put H2 (by rw [hul, hT.len]) hT (a := a) (b := b) (by omega) (by omega) hu true
    rw [hd] at hx
    rw [ha, hb] at lq
    simp -implicitDefEqProofs [-indexAddrP_some, hlt2, lq, ha, hb, ia20, ia21, l1, l2, l3, s4, winc hlt2 (by omega)]
    refine ⟨m2 - 1, by omega, on hI2 ⟨j + 1, _, by omega, rfl, hT.set (a := a) (b := b) (x := true) (by omega), ?_, H4⟩⟩
    rw [hx]
    have e : edT T (q :: es.drop (j + 1)) = edT (tS T q.1.toNat q.2.toNat true) (es.drop (j + 1)) := rfl
    rw [e, ha, hb, Int.toNat_natCast, Int.toNat_natCast]
  have hdn : es.drop j = [] := List.drop_eq_nil_of_le (by omega)
  rw [hdn] at hx
  have hx : X = cK i T (List.range' 0 i) := hx
  simp -implicitDefEqProofs [hlt2]
  clear I hI I2 hI2
  refine R_loopO (fun m s h' => ∃ (k : Nat) (T : List (List Bool)), k + m = i ∧ s = [(0, .int .i64 i), (5, .slice oa i oc), (8, .int .i64 k)] ∧ TOk i T ∧ X = cK i T (List.range' k m) ∧
      Holds h h' (TB (.slice oa i oc) us T)) (fun I3 hI3 m3 s3 h3 => ?_) (n := i)
    ⟨0, T, Nat.zero_add _, by simp, hT, hx, H2⟩
  rintro ⟨k, T3, hk, rfl, hT3, hx3, H3⟩
  by_cases hlt3 : k < i
  · obtain ⟨m3', rfl⟩ : ∃ m', m3 = m' + 1 := ⟨m3 - 1, by omega⟩
    rw [List.range'_succ] at hx3
    have hx3 : X = cK i (cI i k T3 (List.range' 0 i)) (List.range' (k + 1) m3') := hx3
    have hlt3' : (k : Int) < i := by omega
    simp -implicitDefEqProofs [hlt3, hlt3']
    refine R_loopO (fun m s h' => ∃ (a : Nat) (T : List (List Bool)), a + m = i ∧ s = [(0, .int .i64 i), (5, .slice oa i oc), (8, .int .i64 k), (9, .int .i64 a)] ∧ TOk i T ∧ X = cK i (cI i k T (List.range' a m)) (List.range' (k + 1) m3') ∧
        Holds h h' (TB (.slice oa i oc) us T)) (fun I4 hI4 m4 s4 h4 => ?_) (n := i)
      ⟨0, T3, Nat.zero_add _, by simp, hT3, hx3, H3⟩
    rintro ⟨a, T4, ha, rfl, hT4, hx4, H4⟩
    by_cases hlt4 : a < i
    · obtain ⟨m4', rfl⟩ : ∃ m', m4 = m' + 1 := ⟨m4 - 1, by omega⟩
      rw [List.range'_succ] at hx4
      have hx4 : X = cK i (cI i k (cJ k a T4 (List.range' 0 i)) (List.range' (a + 1) m4')) (List.range' (k + 1) m3') := hx4
      have hlt4' : (a : Int) < i := by omega
      simp -implicitDefEqProofs [hlt4, hlt4']
      refine R_loopO (fun m s h' => ∃ (b : Nat) (T : List (List Bool)), b + m = i ∧ s = [(0, .int .i64 i), (5, .slice oa i oc), (8, .int .i64 k), (9, .int .i64 a), (10, .int .i64 b)] ∧ TOk i T ∧ X = cK i (cI i k (cJ k a T (List.range' b m)) (List.range' (a + 1) m4')) (List.range' (k + 1) m3') ∧
          Holds h h' (TB (.slice oa i oc) us T)) (fun I5 hI5 m5 s5 h5 => ?_) (n := i)
        ⟨0, T4, Nat.zero_add _, by simp, hT4, hx4, H4⟩
      rintro ⟨b, T5, hb, rfl, hT5, hx5, H5⟩
      by_cases hlt5 : b < i
      · obtain ⟨m5', rfl⟩ : ∃ m', m5 = m' + 1 := ⟨m5 - 1, by omega⟩
        rw [List.range'_succ] at hx5
        have hx5 : X = cK i (cI i k (cJ k a (cst k a T5 b) (List.range' (b + 1) m5')) (List.range' (a + 1) m4')) (List.range' (k + 1) m3') := hx5
        have hlt5' : (b : Int) < i := by omega
        have N5 := tab_nest H5 (by rw [hul, hT5.len])
        obtain ⟨ua, uc, hu, l1, l2, l3, l4⟩ := nest_cell N5 hT5 (a := a) (b := b) (by omega) (by omega)
        obtain ⟨va, vc, hv, m1, m2, m3, m4⟩ := nest_cell N5 hT5 (a := a) (b := k) (by omega) (by omega)
        obtain ⟨wa, wc, hw, n1, n2, n3, n4⟩ := nest_cell N5 hT5 (a := k) (b := b) (by omega) (by omega)
        rw [hu] at hv; cases hv
        obtain ⟨h6, s6, H6⟩ := tab_put H5 (by rw [hul, hT5.len]) hT5 (a := a) (b := b) (by omega) (by omega) hu true
        cases g2 : tG T5 a k
        case false =>
          have ec : cst k a T5 b = T5 := by unfold cst; rw [g2, Bool.false_and, Bool.or_false]; exact tS_same hT5 (by omega) (by omega)
          rw [ec] at hx5
          rw [g2] at m4
          simp -implicitDefEqProofs [-indexAddrP_some, hlt5, hlt5', l1, l2, m3, m4, winc hlt5 (by omega)]
          exact ⟨m5', by omega, on hI5 ⟨b + 1, T5, by omega, rfl, hT5, hx5, H5⟩⟩
        case true =>
          rw [g2] at m4
          cases g3 : tG T5 k b
          case false =>
            have ec : cst k a T5 b = T5 := by unfold cst; rw [g3, Bool.and_false, Bool.or_false]; exact tS_same hT5 (by omega) (by omega)
            rw [ec] at hx5
            rw [g3] at n4
            simp -implicitDefEqProofs [-indexAddrP_some, hlt5, hlt5', l1, l2, m3, m4, n1, n2, n3, n4, winc hlt5 (by omega)]
            exact ⟨m5', by omega, on hI5 ⟨b + 1, T5, by omega, rfl, hT5, hx5, H5⟩⟩
          case true =>
            have ec : cst k a T5 b = tS T5 a b true := by unfold cst; rw [g2, g3, Bool.and_self, Bool.or_true]
            rw [ec] at hx5
            rw [g3] at n4
            simp -implicitDefEqProofs [-indexAddrP_some, hlt5, hlt5', l1, l2, l3, m3, m4, n1, n2, n3, n4, s6, winc hlt5 (by omega)]
            exact ⟨m5', by omega, on hI5 ⟨b + 1, _, by omega, rfl, hT5.set (by omega), hx5, H6⟩⟩
      · have hlt5' : ¬ (b : Int) < i := by omega
        have : m5 = 0 := by omega
        subst this
        have hx5 : X = cK i (cI i k T5 (List.range' (a + 1) m4')) (List.range' (k + 1) m3') := hx5
        simp -implicitDefEqProofs [hlt5, hlt5', winc hlt4 (by omega)]
        exact ⟨m4', by omega, on hI4 ⟨a + 1, T5, by omega, rfl, hT5, hx5, H5⟩⟩
    · have hlt4' : ¬ (a : Int) < i := by omega
      have : m4 = 0 := by omega
      subst this
      have hx4 : X = cK i T4 (List.range' (k + 1) m3') := hx4
      simp -implicitDefEqProofs [hlt4, hlt4', winc hlt3 (by omega)]
      exact ⟨m3', by omega, on hI3 ⟨k + 1, T4, by omega, rfl, hT4, hx4, H4⟩⟩
  · have hlt3' : ¬ (k : Int) < i := by omega
    have : m3 = 0 := by omega
    subst this
    have hx3 : X = T3 := hx3
    simp -implicitDefEqProofs [hlt3, hlt3']
    rw [hx3] at hK
    exact onK hK ⟨pre_gcU H3.pre, nestB_gc (tab_nest H3 (by rw [hul, hT3.len])) fun g => g⟩
end
end Go.Pm.PP
