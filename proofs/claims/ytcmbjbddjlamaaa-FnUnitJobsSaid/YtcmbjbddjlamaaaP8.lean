/- The texts PvMc, PvHa, PvMd, PvHb, PvHc, PvHd, PvHe, PvHf, PvHg, PvMe, PvMf, PvMg, PvHh, PvMh, PsF, PvPa, PvPb, PvPc, PvHi, PvPd, PsG, PvUa of this work: Sets in order: comparisons and insertion, of both. -/
import Derived.Test.YtcmbjbddjlamaaaP7
/- Sets in order: comparisons and insertion, of both. -/
set_option linter.unusedVariables false
set_option linter.unusedSimpArgs false
set_option maxRecDepth 4000
set_option maxHeartbeats 16000000
namespace Go.Pm.PP
open Go.Pm Go.Proofs Go.Pm.PE
theorem shift_setG {α : Type} {us : List α} {z x : α} {j : Nat} (hj : j ≤ us.length) : (((us ++ [z]).take (j + 1) ++ ((us ++ [z]).drop j).take ((us ++ [z]).length - (j + 1))).set j x) = us.take j ++ x :: us.drop j := by
  apply List.ext_getElem?
  intro i
  have hl : ((us ++ [z]).take (j + 1)).length = j + 1 := by simp; omega
  rw [List.getElem?_set]
  have htl : (us.take j).length = j := by simp; omega
  split
  · rename_i e
    subst e
    rw [if_pos (by simp; omega), List.getElem?_append_right (by omega), htl, Nat.sub_self]; rfl
  · rename_i hne
    rcases Nat.lt_or_ge i j with g | g
    · rw [List.getElem?_append_left (by omega), List.getElem?_append_left (by omega), List.getElem?_take, List.getElem?_take, if_pos (by omega), if_pos g, List.getElem?_append_left (by omega)]
    · rw [List.getElem?_append_right (by omega), List.getElem?_append_right (by omega), hl, htl, List.getElem?_take, List.getElem?_drop]
      rw [show i - j = (i - (j + 1)) + 1 by omega, List.getElem?_cons_succ, List.getElem?_drop]
      simp only [List.length_append, List.length_cons, List.length_nil]
      split
      · rw [List.getElem?_append_left (by omega)]
      · rw [List.getElem?_eq_none (by omega)]
def cmpL : List Int → List Int → Int
  | x :: xs, y :: ys => if x = y then cmpL xs ys else x - y
  | _, _ => 0
theorem cmp_lex : ∀ {xs ys : List Int}, decide (0 < cmpL xs ys) = lexB ys xs
  | [], [] => rfl
  | [], _ :: _ => rfl
  | _ :: _, [] => rfl
  | x :: xs, y :: ys => by
    rw [cmpL, lexB]
    by_cases c : x = y
    · rw [if_pos c, if_pos c.symm]; exact cmp_lex
    · rw [if_neg c, if_neg (fun g => c g.symm), Bool.eq_iff_iff, decide_eq_true_eq, decide_eq_true_eq]; omega
section
variable {h : Hp} {v u : Value} {xs ys : List Int}
theorem compareG_run (X : Ints h v xs) (Y : Ints h u ys) (hl : xs.length = ys.length) (hb : ys.length ≤ 2 ^ 40) (bx : ∀ e, e ∈ xs → 0 ≤ e ∧ e ≤ 2 ^ 20) (byy : ∀ e, e ∈ ys → 0 ≤ e ∧ e ≤ 2 ^ 20) : Ret P G n_impl_compareLists [v, u] h (.int .i64 (cmpL xs ys)) h := by
  have Xs := X
  have Ys := Y
  obtain ⟨ox, cx, rfl⟩ := X.shapeT
  obtain ⟨oy, cy, rfl⟩ := Y.shapeT
  refine enter_run e_impl_compareLists (by simp) ?_
  simp -implicitDefEqProofs
  refine R_loopO (fun m s h' => ∃ (i : Nat), i + m = ys.length ∧ s = [(0, .slice ox xs.length cx), (1, .slice oy ys.length cy), (5, .int .i64 i)] ∧ cmpL xs ys = cmpL (xs.drop i) (ys.drop i) ∧ h' = h) (fun I hI m s h' => ?_) (n := ys.length) ⟨0, Nat.zero_add _, by simp, rfl, rfl⟩
  rintro ⟨i, hi, rfl, hx, rfl⟩
  by_cases hlt : i < ys.length
  · have hlx : i < xs.length := by omega
    have hlt' : (i : Int) < ys.length := by omega
    have hlx' : (i : Int) < xs.length := by omega
    obtain ⟨a, ha, hda⟩ := drop_at hlx
    obtain ⟨b, hb', hdb⟩ := drop_at hlt
    have ea := bx a (List.mem_of_getElem? ha)
    have eb := byy b (List.mem_of_getElem? hb')
    rw [hda, hdb, cmpL] at hx
    by_cases c : a = b
    · rw [if_pos c] at hx
      subst c
      simp -implicitDefEqProofs [-indexAddrP_some, hlt, hlx, hlt', hlx', load_I Xs ha, load_I Ys hb', winc hlt (by omega)]
      exact ⟨m - 1, by omega, on hI ⟨i + 1, by omega, rfl, hx, rfl⟩⟩
    · rw [if_neg c] at hx
      have w : IntKind.i64.wrap (a - b) = a - b := by rw [wrap_ok] <;> omega
      simp -implicitDefEqProofs [-indexAddrP_some, hlt, hlx, hlt', hlx', load_I Xs ha, load_I Ys hb', nb c, nt c, w]
      rw [hx]
  · have hlx : ¬ i < xs.length := by omega
    have hlt' : ¬ (i : Int) < ys.length := by omega
    have hlx' : ¬ (i : Int) < xs.length := by omega
    rw [List.drop_eq_nil_of_le (by omega), List.drop_eq_nil_of_le (by omega)] at hx
    have hx : cmpL xs ys = 0 := hx
    have w : IntKind.i64.wrap ((xs.length : Int) - ys.length) = 0 := by rw [hl, wrap_ok] <;> omega
    simp -implicitDefEqProofs [hlt, hlx, hlt', hlx', w]
    rw [hx]
theorem l4Less_run (X : Ints h v xs) (Y : Ints h u ys) (hx0 : xs.length ≤ 2 ^ 40) (hb : ys.length ≤ 2 ^ 40) : Ret P G n_spec_l4Less [v, u] h (.bool (lessS xs ys)) h := by
  have Xs := X
  have Ys := Y
  obtain ⟨ox, cx, rfl⟩ := X.shapeT
  obtain ⟨oy, cy, rfl⟩ := Y.shapeT
  refine enter_run e_spec_l4Less (by simp) ?_
  unfold lessS
  by_cases hl : xs.length = ys.length
  case neg =>
    rw [if_neg hl]
    have hl' : ¬ (xs.length : Int) = ys.length := by omega
    by_cases c : xs.length < ys.length
    · have c' : (xs.length : Int) < ys.length := by omega
      simp -implicitDefEqProofs [hl, hl', nt hl', c, c']
    · have c' : ¬ (xs.length : Int) < ys.length := by omega
      simp -implicitDefEqProofs [hl, hl', nt hl', c, c']
  rw [if_pos hl]
  simp -implicitDefEqProofs [hl]
  refine R_loopO (fun m s h' => ∃ (i : Nat), i + m = ys.length ∧ s = [(0, .slice ox ys.length cx), (1, .slice oy ys.length cy), (5, .int .i64 i)] ∧ lexB xs ys = lexB (xs.drop i) (ys.drop i) ∧ h' = h) (fun I hI m s h' => ?_) (n := ys.length) ⟨0, Nat.zero_add _, by simp, rfl, rfl⟩
  rintro ⟨i, hi, rfl, hx, rfl⟩
  have Xs : Ints h' (.slice ox ys.length cx) xs := by rw [← hl]; exact Xs
  by_cases hlt : i < ys.length
  · have hlx : i < xs.length := by omega
    have hlt' : (i : Int) < ys.length := by omega
    obtain ⟨a, ha, hda⟩ := drop_at hlx
    obtain ⟨b, hb', hdb⟩ := drop_at hlt
    rw [hda, hdb, lexB] at hx
    by_cases c : a = b
    · rw [if_pos c] at hx
      subst c
      simp -implicitDefEqProofs [-indexAddrP_some, hlt, hlt', load_I Xs ha, load_I Ys hb', winc hlt (by omega)]
      exact ⟨m - 1, by omega, on hI ⟨i + 1, by omega, rfl, hx, rfl⟩⟩
    · rw [if_neg c] at hx
      by_cases c2 : a < b
      · simp -implicitDefEqProofs [-indexAddrP_some, hlt, hlt', load_I Xs ha, load_I Ys hb', nb c, nt c, c2]
        rw [hx]; simpa using c2
      · simp -implicitDefEqProofs [-indexAddrP_some, hlt, hlt', load_I Xs ha, load_I Ys hb', nb c, nt c, c2]
        rw [hx]; simpa using c2
  · have hlt' : ¬ (i : Int) < ys.length := by omega
    rw [List.drop_eq_nil_of_le (by omega), List.drop_eq_nil_of_le (by omega)] at hx
    have hx : lexB xs ys = false := hx
    simp -implicitDefEqProofs [hlt, hlt']
    exact hx
end
theorem one_of {h : Hp} {u : Value} {x : List Int} (S : Ints h u x) : one u = true := by
  obtain ⟨a, c, rfl⟩ := S.shapeT; rfl
/-- Inner lists that are seen at first; each told with its slice. -/
abbrev fsV (ps : List (Value × List Int)) : List Value := ps.map Prod.fst
abbrev snL (ps : List (Value × List Int)) : List (List Int) := ps.map Prod.snd
theorem orderedSets_run {h : Hp} {v : Value} {xss : List (List Int)} {us : List Value} (N : Nest h v encI 1 xss us) (hn : xss.length ≤ 2 ^ 20) (hb : ∀ x, x ∈ xss → x.length ≤ 2 ^ 10 ∧ ∀ e, e ∈ x → 0 ≤ e ∧ e ≤ 2 ^ 20) (hnd : xss.Nodup) :
    RunsC P G n_impl_orderedSets [v] h fun w h' => h <+: h' ∧ ∃ ps : List (Value × List Int), snL ps = xss.foldl (fun l x => insS x l) [] ∧ Own h.length h' w 1 ((fsV ps).map encV) ∧ ∀ p, p ∈ ps → Ints h p.1 p.2 := by
  refine hideC fun K hK => enter_run e_impl_orderedSets (by simp) ?_
  have Ns := N
  obtain ⟨oa, ca, rfl⟩ := N.shape
  simp -implicitDefEqProofs
  refine R_loopO (fun m st h' => ∃ (i : Nat) (vo : Value) (ps : List (Value × List Int)), i + m = xss.length ∧ st = [(3, vo), (7, .slice oa xss.length ca), (8, .int .i64 xss.length), (9, .int .i64 i)] ∧
    Holds h h' [.own vo 1 ((fsV ps).map encV)] ∧ ps.length = i ∧ snL ps = (xss.take i).foldl (fun l x => insS x l) [] ∧ ∀ p, p ∈ ps → Ints h p.1 p.2) (fun I hI m st h' => ?_) (n := xss.length) ⟨0, .slice none 0 0, [], Nat.zero_add _, by simp, own_nil Holds.start _ _ _, rfl, rfl, fun p hp => by cases hp⟩
  rintro ⟨i, vo, ps, hi, rfl, H, hpl, hps, hsee⟩
  have hfl : (fsV ps).length = i := by rw [List.length_map, hpl]
  have So : Sees h' vo 1 ((fsV ps).map encV) := H.sees 0 rfl
  obtain ⟨ob, cb, rfl⟩ : ∃ a c, vo = .slice a i c := by obtain ⟨a, c, e⟩ := So.shapeT; exact ⟨a, c, by rw [e, hfl]⟩
  by_cases hlt : i < xss.length
  · have hlt' : (i : Int) < xss.length := by omega
    obtain ⟨x, hx, _⟩ := drop_at hlt
    obtain ⟨ux, hux, Sx⟩ := Ns.at hx
    obtain ⟨bxl, bxe⟩ := hb x (List.mem_of_getElem? hx)
    obtain ⟨xa, xc, rfl⟩ : ∃ a c, ux = .slice a x.length c := Sx.shapeT
    have lx := load_N ((Ns.pre H.pre).out : Sees h' _ 1 (us.map encV)) hux
    have hfold : (xss.take (i + 1)).foldl (fun l x => insS x l) [] = insS x (snL ps) := by rw [take_succ' hx, List.foldl_append, ← hps]; rfl
    have hperm : (snL ps).Perm (xss.take i) := by rw [hps]; have := @foldS_perm (xss.take i) []; simpa using this
    have hsrt : SrtS (snL ps) := by
      rw [hps]
      exact foldS_srt List.Pairwise.nil (by simpa using hnd.sublist (List.take_sublist ..))
    have hxn : x ∉ snL ps := fun g => by
      have g := hperm.mem_iff.1 g
      have e : xss.take (i + 1) = xss.take i ++ [x] := take_succ' hx
      have : (xss.take (i + 1)).Nodup := hnd.sublist (List.take_sublist ..)
      rw [e, List.nodup_append] at this
      exact this.2.2 x g x (List.mem_singleton.2 rfl) rfl
    have hpb : ∀ p, p ∈ ps → p.2.length ≤ 2 ^ 10 ∧ ∀ e, e ∈ p.2 → 0 ≤ e ∧ e ≤ 2 ^ 20 := fun p hp => hb p.2 (List.mem_of_mem_take (hperm.mem_iff.1 (List.mem_map.2 ⟨p, hp, rfl⟩)))
    simp -implicitDefEqProofs [-indexAddrP_some, hlt, hlt', lx]
    refine R_loopO (fun m2 st h2 => ∃ (k : Nat), k = m2 ∧ st = [(3, .slice ob i cb), (5, .slice xa x.length xc), (6, .int .i64 k), (7, .slice oa xss.length ca), (8, .int .i64 xss.length), (9, .int .i64 i)] ∧ h2 = h' ∧ k ≤ i ∧ ∀ j p, k ≤ j → ps[j]? = some p → lessS x p.2 = true) (fun I2 hI2 m2 st h2 => ?_) (n := i)
      ⟨i, rfl, by simp, rfl, Nat.le_refl _, fun j p hj hp => by have := (List.getElem?_eq_some_iff.1 hp).1; omega⟩
    rintro ⟨k, rfl, rfl, rfl, hk, hall⟩
    have fin : (∀ p, 0 < k → ps[k - 1]? = some p → lessS x p.2 = false) → ∃ v2 h3 dv mv nn h4 h5, appendP P (h2 ++ [some ⟨[.slice none 0 0], 1, false⟩]) t_S_S_int (.slice ob i cb) (.slice (some ⟨h2.length, 0, some 1⟩) 1 1) = some (v2, h3) ∧
        sliceP P h3 t_S_S_int v2 (some (.int .i64 ((k : Int) + 1))) none = some dv ∧ sliceP P h3 t_S_S_int v2 (some (.int .i64 k)) none = some mv ∧ copyP P h3 t_S_S_int dv mv = some (.int .i64 nn, h4) ∧
        indexAddrP P h4 t_S_S_int v2 (.int .i64 k) = some (.pointer (some (addP (base v2) k))) ∧ storeP P h4 t_S_int (.slice xa x.length xc) (.pointer (some (addP (base v2) k))) = some h5 ∧
        ∃ qs : List (Value × List Int), Holds h h5 [.own v2 1 ((fsV qs).map encV)] ∧ qs.length = i + 1 ∧ snL qs = insS x (snL ps) ∧ ∀ p, p ∈ qs → Ints h p.1 p.2 := fun hk2 => by
      have ones : ∀ y, y ∈ fsV ps ++ [Value.slice none 0 0] → one y = true := fun y hy => by
        rcases List.mem_append.1 hy with g | g
        · obtain ⟨p, hp, rfl⟩ := List.mem_map.1 g
          exact one_of (hsee p hp)
        · rw [List.mem_singleton.1 g]; rfl
      obtain ⟨v2, h3, ha, H3, k3, _⟩ := push_N0 H 0 rfl (Value.slice none 0 0) rfl (by omega)
      obtain ⟨dv, mv, nn, h4, s1, s2, s3, H4, k4⟩ := H3.shift (P := P) 0 rfl (k := k) u_S_S_int i_S_int (ones_N _ ones) (by simp; omega)
      have e1 : (((fsV ps ++ [Value.slice none 0 0]).map encV).take (k + 1) ++ (((fsV ps ++ [Value.slice none 0 0]).map encV).drop k).take (((fsV ps ++ [Value.slice none 0 0]).map encV).length - (k + 1))) = ((fsV ps ++ [Value.slice none 0 0]).take (k + 1) ++ ((fsV ps ++ [Value.slice none 0 0]).drop k).take ((fsV ps ++ [Value.slice none 0 0]).length - (k + 1))).map encV := by
        generalize fsV ps ++ [Value.slice none 0 0] = ws
        rw [List.map_append, List.map_take, List.map_take, List.map_drop, List.length_map]
      rw [e1] at H4
      have hlen : ((fsV ps ++ [Value.slice none 0 0]).take (k + 1) ++ ((fsV ps ++ [Value.slice none 0 0]).drop k).take ((fsV ps ++ [Value.slice none 0 0]).length - (k + 1))).length = i + 1 := by simp; omega
      obtain ⟨h5, s5, H5, k5⟩ := put_N H4 0 rfl (j := k) (by rw [hlen]; omega) (.slice xa x.length xc) rfl
      rw [shift_setG (by rw [hfl]; exact hk)] at H5
      obtain ⟨z, hz, _⟩ := drop_at (show k < ((fsV ps ++ [Value.slice none 0 0]).take (k + 1) ++ ((fsV ps ++ [Value.slice none 0 0]).drop k).take ((fsV ps ++ [Value.slice none 0 0]).length - (k + 1))).length by rw [hlen]; omega)
      have ix := (load_N (H4.sees 0 rfl) hz).1
      refine ⟨v2, h3, dv, mv, nn, h4, h5, ha, s1, s2, s3, ix, s5, ps.take k ++ (.slice xa x.length xc, x) :: ps.drop k, ?_, ?_, ?_, fun p hp => ?_⟩
      · rw [fsV, List.map_append, List.map_cons, List.map_take, List.map_drop]; exact H5
      · simp; omega
      · rw [snL, List.map_append, List.map_cons, List.map_take, List.map_drop]
        refine (insS_back hsrt hxn (by rw [List.length_map]; omega) (fun j y hj hy => ?_) fun y hk0 hy => ?_).symm
        · rw [List.getElem?_map] at hy
          obtain ⟨p, hp, rfl⟩ := Option.map_eq_some_iff.1 hy
          exact hall j p hj hp
        · rw [List.getElem?_map] at hy
          obtain ⟨p, hp, rfl⟩ := Option.map_eq_some_iff.1 hy
          exact hk2 p hk0 hp
      · rcases List.mem_append.1 hp with g | g
        · exact hsee p (List.mem_of_mem_take g)
        · rcases List.mem_cons.1 g with rfl | g
          · exact Sx
          · exact hsee p (List.mem_of_mem_drop g)
    have wj : IntKind.i64.wrap ((k : Int) + 1) = (k : Int) + 1 := by rw [wrap_ok] <;> omega
    by_cases h0 : 0 < k
    · have h0' : (0 : Int) < k := by omega
      obtain ⟨p, hp, _⟩ := drop_at (show k - 1 < ps.length by omega)
      have hpm := List.mem_of_getElem? hp
      have w1 : IntKind.i64.wrap ((k : Int) - 1) = ((k - 1 : Nat) : Int) := by rw [wrap_ok] <;> omega
      have Sp := (hsee p hpm).pre H.pre
      obtain ⟨pbl, pbe⟩ := hpb p hpm
      obtain ⟨pv, y⟩ := p
      obtain ⟨ya, yc, rfl⟩ : ∃ a c, pv = .slice a y.length c := Sp.shapeT
      have Sp : Ints h2 (.slice ya y.length yc) y := Sp
      have pbl : y.length ≤ 2 ^ 10 := pbl
      have pbe : ∀ e, e ∈ y → 0 ≤ e ∧ e ≤ 2 ^ 20 := pbe
      have lz := load_N So (i := k - 1) (x := .slice ya y.length yc) (by rw [List.getElem?_map, hp]; rfl)
      have back : lessS x y = true → I2 (k - 1) [(3, .slice ob i cb), (5, .slice xa x.length xc), (6, .int .i64 ((k - 1 : Nat) : Int)), (7, .slice oa xss.length ca), (8, .int .i64 xss.length), (9, .int .i64 i)] h2 := fun hl =>
        on hI2 ⟨k - 1, rfl, rfl, rfl, by omega, fun j q hj hq => by
          rcases Nat.lt_or_ge j k with g | g
          · have : j = k - 1 := by omega
            subst this
            rw [hp] at hq; cases hq; exact hl
          · exact hall j q g hq⟩
      have stop : lessS x y = false → ∀ q, 0 < k → ps[k - 1]? = some q → lessS x q.2 = false := fun hl q _ hq => by
        rw [hp] at hq; cases hq; exact hl
      by_cases c1 : x.length < y.length
      · have c1' : (x.length : Int) < y.length := by omega
        have hl : lessS x y = true := by unfold lessS; rw [if_neg (by omega)]; simpa using c1
        simp -implicitDefEqProofs [-indexAddrP_some, h0, h0', w1, lz, c1, c1']
        exact ⟨k - 1, by omega, back hl⟩
      · have c1' : ¬ (x.length : Int) < y.length := by omega
        by_cases c2 : x.length = y.length
        · have c2' : ((y.length : Int) == x.length) = true := by rw [c2]; simp
          have cr := compareG_run Sp (Sx.pre H.pre) c2.symm (by omega) pbe bxe
          have el : lessS x y = lexB x y := by unfold lessS; rw [if_pos c2]
          have cl := @cmp_lex y x
          rw [← el] at cl
          cases c3 : lessS x y
          · rw [c3, decide_eq_false_iff_not] at cl
            obtain ⟨v2, h3, dv, mv, nn, h4, h5, ha, s1, s2, s3, ix, s5, qs, H5, q1, q2, q3⟩ := fin (stop c3)
            simp -implicitDefEqProofs [-indexAddrP_some, h0, h0', w1, lz, c1, c1', c2', CL_ret cr, cl, ha, wj, s1, s2, s3, ix, s5, winc hlt (by omega)]
            exact ⟨m - 1, by omega, on hI ⟨i + 1, v2, qs, by omega, rfl, H5, q1, by rw [q2, hfold], q3⟩⟩
          · rw [c3, decide_eq_true_eq] at cl
            simp -implicitDefEqProofs [-indexAddrP_some, h0, h0', w1, lz, c1, c1', c2', CL_ret cr, cl]
            exact ⟨k - 1, by omega, back c3⟩
        · have c2' : ((y.length : Int) == x.length) = false := by rw [beq_eq_false_iff_ne]; omega
          have hl : lessS x y = false := by unfold lessS; rw [if_neg c2]; simpa using c1
          obtain ⟨v2, h3, dv, mv, nn, h4, h5, ha, s1, s2, s3, ix, s5, qs, H5, q1, q2, q3⟩ := fin (stop hl)
          simp -implicitDefEqProofs [-indexAddrP_some, h0, h0', w1, lz, c1, c1', c2', ha, wj, s1, s2, s3, ix, s5, winc hlt (by omega)]
          exact ⟨m - 1, by omega, on hI ⟨i + 1, v2, qs, by omega, rfl, H5, q1, by rw [q2, hfold], q3⟩⟩
    · have h0' : ¬ (0 : Int) < k := by omega
      obtain ⟨v2, h3, dv, mv, nn, h4, h5, ha, s1, s2, s3, ix, s5, qs, H5, q1, q2, q3⟩ := fin (fun q g _ => absurd g h0)
      simp -implicitDefEqProofs [-indexAddrP_some, h0, h0', ha, wj, s1, s2, s3, ix, s5, winc hlt (by omega)]
      exact ⟨m - 1, by omega, on hI ⟨i + 1, v2, qs, by omega, rfl, H5, q1, by rw [q2, hfold], q3⟩⟩
  · have hlt' : ¬ (i : Int) < xss.length := by omega
    rw [List.take_of_length_le (by omega)] at hps
    simp -implicitDefEqProofs [hlt, hlt']
    exact onK hK ⟨(H.ret 0 rfl).1, ps, hps, (H.ret 0 rfl).2, hsee⟩
end Go.Pm.PP

/- Orders by vectors of ends; ascending lists; sums. -/
set_option linter.unusedVariables false
set_option linter.unusedSimpArgs false
set_option maxRecDepth 4000
set_option maxHeartbeats 16000000
namespace Go.Pm.PP
open Go.Pm Go.Proofs Go.Pm.PE
section
variable {h : Hp} {vj v ve vs : Value} {js : List Job} {xs es s : List Int}
theorem load_EX {x : Int} (E : Ints h ve es) (hx : 0 ≤ x ∧ x < es.length) : indexAddrP P h t_S_int ve (.int .i64 x) = some (.pointer (some (addP (base ve) x.toNat))) ∧ loadP P h t_int (.pointer (some (addP (base ve) x.toNat))) = some (.int .i64 (gE es x.toNat)) := by
  have := load_I E (gE_get (l := es) (i := x.toNat) (by omega))
  rw [show ((x.toNat : Nat) : Int) = x by omega] at this
  exact this
/-! ### put in ascending order -/
theorem ins_see {u : Value} (S2 : Ints h u xs) {k : Nat} (hk : k ≤ xs.length) (x : Int) (hn : xs.length ≤ 2 ^ 20) :
    ∃ (a3 : Option Addr) (b3 c3 : Nat) (a4 : Option Addr) (b4 c4 : Nat) (h4 : Hp) (a5 : Option Addr) (b5 c5 : Nat) (h5 : Hp) (a6 : Option Addr) (b6 c6 : Nat) (a7 : Option Addr) (b7 c7 : Nat) (h7 : Hp),
      sliceP P h t_S_int u none (some (.int .i64 k)) = some (.slice a3 b3 c3) ∧ appendP P h t_S_int (.slice none 0 0) (.slice a3 b3 c3) = some (.slice a4 b4 c4, h4) ∧ newOk h h4 ∧
      appendP P (h4 ++ [some ⟨[.int .i64 x], 1, false⟩]) t_S_int (.slice a4 b4 c4) (.slice (some ⟨h4.length, 0, some 1⟩) 1 1) = some (.slice a5 b5 c5, h5) ∧ modOk h.length (h4 ++ [some ⟨[.int .i64 x], 1, false⟩]) h5 ∧ newOk h h5 ∧
      sliceP P h5 t_S_int u (some (.int .i64 k)) none = some (.slice a6 b6 c6) ∧ appendP P h5 t_S_int (.slice a5 b5 c5) (.slice a6 b6 c6) = some (.slice a7 b7 c7, h7) ∧ h <+: h4 ∧ Holds h h7 [.own (.slice a7 b7 c7) 1 ((xs.take k ++ x :: xs.drop k).map encI)] ∧ h <+: h7 := by
  obtain ⟨v3, s3, f3⟩ := S2.front (P := P) u_S_int i_int (k := .i64) (j := (k : Int)) (by omega) (by simp; omega)
  rw [Int.toNat_natCast, ← List.map_take] at f3
  have H0 := own_nil (Holds.start (h := h)) Int encI 1
  obtain ⟨v4, h4, ha4, H4', _⟩ := app_I H0 0 rfl f3 (by simp; omega)
  have H4 : Holds h h4 [.own v4 1 ((xs.take k).map encI)] := H4'
  have n4 : NR h.length h4 := append_nr nr_self ha4
  have no4 := newOk_of H4.pre n4
  obtain ⟨v5, h5, ha5, H5', k5, _⟩ := push_I0 H4 0 rfl x (by simp; omega)
  have H5 : Holds h h5 [.own v5 1 ((xs.take k ++ [x]).map encI)] := H5'
  have n5 : NR h.length (h4 ++ [some ⟨[.int .i64 x], 1, false⟩]) := n4.new [.int .i64 x] 1
  have md := app_mod (b := h.length) rfl n5 ha5 (H4.pre.trans (List.prefix_append ..)) H5.pre
  have n6 := append_nr n5 ha5
  obtain ⟨v6, s6, f6, _⟩ := (S2.pre H5.pre).back (P := P) u_S_int i_int (k := .i64) (j := (k : Int)) (by omega) (by simp; omega)
  rw [Int.toNat_natCast, ← List.map_drop] at f6
  obtain ⟨v7, h7, ha7, H7', _⟩ := app_I H5 0 rfl f6 (by simp; omega)
  have H7 : Holds h h7 [.own v7 1 ((xs.take k ++ x :: xs.drop k).map encI)] := by
    have : Holds h h7 [.own v7 1 ((xs.take k ++ [x] ++ xs.drop k).map encI)] := H7'
    rw [List.append_assoc] at this
    exact this
  obtain ⟨a3, b3, c3, rfl⟩ : ∃ a n c, v3 = .slice a n c := by obtain ⟨a, c, e⟩ := f3.shape; exact ⟨_, _, _, e⟩
  obtain ⟨a4, b4, c4, rfl⟩ : ∃ a n c, v4 = .slice a n c := by obtain ⟨a, c, e⟩ := (H4.sees 0 rfl).shape; exact ⟨_, _, _, e⟩
  obtain ⟨a5, b5, c5, rfl⟩ : ∃ a n c, v5 = .slice a n c := by obtain ⟨a, c, e⟩ := (H5.sees 0 rfl).shape; exact ⟨_, _, _, e⟩
  obtain ⟨a6, b6, c6, rfl⟩ : ∃ a n c, v6 = .slice a n c := by obtain ⟨a, c, e⟩ := f6.shape; exact ⟨_, _, _, e⟩
  obtain ⟨a7, b7, c7, rfl⟩ : ∃ a n c, v7 = .slice a n c := by obtain ⟨a, c, e⟩ := (H7.sees 0 rfl).shape; exact ⟨_, _, _, e⟩
  exact ⟨a3, b3, c3, a4, b4, c4, h4, a5, b5, c5, h5, a6, b6, c6, a7, b7, c7, h7, s3, ha4, no4, ha5, md, newOk_of H5.pre n6, s6, ha7, H4.pre, H7, H7.pre⟩
theorem l1Put_run {x : Int} (X : Ints h v xs) (hl : xs.length ≤ 2 ^ 10) (hs : xs.Pairwise (· < ·)) : RunsC P G n_spec_l1Put [v, .int .i64 x] h fun w h' => h <+: h' ∧ Ints h' w (putI xs x) := by
  refine hideC fun K hK => enter_run e_spec_l1Put (by simp) ?_
  have Xs := X
  obtain ⟨ox, cx, rfl⟩ := X.shapeT
  simp -implicitDefEqProofs
  refine R_loopO (fun m s h2 => ∃ (k : Nat), k + m = xs.length ∧ s = [(0, .slice ox xs.length cx), (1, .int .i64 x), (5, .int .i64 k)] ∧ h2 = h ∧ ∀ j z, j < k → xs[j]? = some z → z < x) (fun I hI m s h2 => ?_) (n := xs.length)
    ⟨0, Nat.zero_add _, by simp, rfl, fun i z h => by omega⟩
  rintro ⟨k, hk, rfl, rfl, hall⟩
  have fin : (∀ z, xs[k]? = some z → x < z) → ∃ (a3 : Option Addr) (b3 c3 : Nat) (a4 : Option Addr) (b4 c4 : Nat) (h4 : Hp) (a5 : Option Addr) (b5 c5 : Nat) (h5 : Hp) (a6 : Option Addr) (b6 c6 : Nat) (a7 : Option Addr) (b7 c7 : Nat) (h7 : Hp),
      sliceP P h2 t_S_int (.slice ox xs.length cx) none (some (.int .i64 k)) = some (.slice a3 b3 c3) ∧ appendP P h2 t_S_int (.slice none 0 0) (.slice a3 b3 c3) = some (.slice a4 b4 c4, h4) ∧ newOk h2 h4 ∧
      appendP P (h4 ++ [some ⟨[.int .i64 x], 1, false⟩]) t_S_int (.slice a4 b4 c4) (.slice (some ⟨h4.length, 0, some 1⟩) 1 1) = some (.slice a5 b5 c5, h5) ∧ modOk h2.length (h4 ++ [some ⟨[.int .i64 x], 1, false⟩]) h5 ∧ newOk h2 h5 ∧
      sliceP P h5 t_S_int (.slice ox xs.length cx) (some (.int .i64 k)) none = some (.slice a6 b6 c6) ∧ appendP P h5 t_S_int (.slice a5 b5 c5) (.slice a6 b6 c6) = some (.slice a7 b7 c7, h7) ∧ K (.slice a7 b7 c7) (gc h2 h7 (.slice a7 b7 c7)) := fun g => by
    obtain ⟨a3, b3, c3, a4, b4, c4, h4, a5, b5, c5, h5, a6, b6, c6, a7, b7, c7, h7, s3, ha4, no4, ha5, md, no5, s6, ha7, hp4, H7, hp7⟩ := ins_see Xs (k := k) (by omega) x (by omega)
    refine ⟨a3, b3, c3, a4, b4, c4, h4, a5, b5, c5, h5, a6, b6, c6, a7, b7, c7, h7, s3, ha4, no4, ha5, md, no5, s6, ha7, ?_⟩
    have e : putI xs x = xs.take k ++ x :: xs.drop k := by
      have hn : xs.any (· == x) = false := by
        rw [List.any_eq_false]
        intro z hz
        obtain ⟨j, hj⟩ := List.getElem?_of_mem hz
        rcases Nat.lt_or_ge j k with q | q
        · have := hall j z q hj; simp; omega
        · obtain ⟨w, hw, _⟩ := drop_at (show k < xs.length by have := (List.getElem?_eq_some_iff.1 hj).1; omega)
          have h1 := g w hw
          rcases Nat.eq_or_lt_of_le q with q | q
          · subst q; rw [hj] at hw; cases hw; simp; omega
          · have := List.pairwise_iff_getElem.1 hs k j (List.getElem?_eq_some_iff.1 hw).1 (List.getElem?_eq_some_iff.1 hj).1 q
            rw [(List.getElem?_eq_some_iff.1 hw).2, (List.getElem?_eq_some_iff.1 hj).2] at this
            simp; omega
      unfold putI
      rw [hn, if_neg (by simp)]
      exact insF_take (by omega) (fun i z h1 h2 => by simpa using hall i z h1 h2) (fun z hz => by have := g z hz; simp; omega)
    rw [e] at hK
    exact onK hK ⟨pre_gcU H7.pre, Sees.gcU (H7.sees 0 rfl) fun g => g⟩
  by_cases hlt : k < xs.length
  · obtain ⟨z, hz, _⟩ := drop_at hlt
    have hlt' : (k : Int) < xs.length := by omega
    by_cases c1 : z < x
    · simp -implicitDefEqProofs [-indexAddrP_some, hlt, hlt', load_I Xs hz, c1, winc hlt (by omega)]
      exact ⟨m - 1, by omega, on hI ⟨k + 1, by omega, rfl, rfl, fun j z' h1 h2 => by
        rcases Nat.lt_or_ge j k with g | g
        · exact hall j z' g h2
        · have : j = k := by omega
          subst this
          rw [hz] at h2; cases h2; exact c1⟩⟩
    · by_cases c2 : z = x
      · subst c2
        have e : putI xs z = xs := by
          unfold putI
          rw [if_pos (List.any_eq_true.2 ⟨z, List.mem_of_getElem? hz, by simp⟩)]
        rw [e] at hK
        simp -implicitDefEqProofs [-indexAddrP_some, hlt, hlt', load_I Xs hz]
        exact onK hK ⟨List.prefix_rfl, Xs⟩
      · rcases fin (fun z' g => by rw [hz] at g; cases g; omega) with ⟨a3, b3, c3, a4, b4, c4, h4, a5, b5, c5, h5, a6, b6, c6, a7, b7, c7, h7, s3, ha4, no4, ha5, md, no5, s6, ha7, fK⟩
        · simp -implicitDefEqProofs [-indexAddrP_some, hlt, hlt', load_I Xs hz, c1, nb c2, s3, ha4, no4, ha5, md, no5, s6, ha7]
          exact fK
  · rcases fin (fun z' g => by rw [List.getElem?_eq_none (by omega)] at g; cases g) with ⟨a3, b3, c3, a4, b4, c4, h4, a5, b5, c5, h5, a6, b6, c6, a7, b7, c7, h7, s3, ha4, no4, ha5, md, no5, s6, ha7, fK⟩
    · have hlt' : ¬ (k : Int) < xs.length := by omega
      simp -implicitDefEqProofs [-indexAddrP_some, hlt, hlt', s3, ha4, no4, ha5, md, no5, s6, ha7]
      exact fK
end
end Go.Pm.PP

/- Timely sets, of both. -/
set_option linter.unusedVariables false
set_option linter.unusedSimpArgs false
set_option maxRecDepth 4000
set_option maxHeartbeats 16000000
namespace Go.Pm.PP
open Go.Pm Go.Proofs Go.Pm.PE
def okC (js : List Job) (c : Nat) : Bool := timB js (bitsL js.length c)
def setsU (js : List Job) (k : Nat) : List (List Int) := ((List.range k).filter (okC js)).map (bitsL js.length)
def setsS (js : List Job) : List (List Int) := (setsU js (2 ^ js.length)).foldl (fun l x => insS x l) []
def tsR (js : List Job) : List (List Int) := if plOk js = true then setsS js else []
theorem setsU_succ {js : List Job} {k : Nat} : setsU js (k + 1) = setsU js k ++ if okC js k = true then [bitsL js.length k] else [] := by
  unfold setsU
  rw [List.range_succ, List.filter_append, List.map_append]
  congr 1
  cases g : okC js k <;> simp [List.filter_cons, g]
theorem setsU_len {js : List Job} {k : Nat} : (setsU js k).length ≤ k := by
  unfold setsU
  rw [List.length_map]
  exact Nat.le_trans (List.length_filter_le ..) (by simp)
theorem setsU_mem {js : List Job} {k : Nat} {x : List Int} : x ∈ setsU js k ↔ ∃ c, c < k ∧ okC js c = true ∧ bitsL js.length c = x := by
  unfold setsU
  rw [List.mem_map]
  constructor
  · rintro ⟨c, hc, rfl⟩
    obtain ⟨h1, h2⟩ := List.mem_filter.1 hc
    exact ⟨c, List.mem_range.1 h1, h2, rfl⟩
  · rintro ⟨c, h1, h2, rfl⟩
    exact ⟨c, List.mem_filter.2 ⟨List.mem_range.2 h1, h2⟩, rfl⟩
theorem setsU_nd {js : List Job} {k : Nat} (hk : k ≤ 2 ^ js.length) : (setsU js k).Nodup := by
  unfold setsU
  refine List.pairwise_map.2 (List.Pairwise.imp_of_mem (fun {a b} ha hb hne e => ?_) (List.nodup_range.sublist (List.filter_sublist (p := okC js))))
  have h1 := List.mem_range.1 (List.mem_filter.1 ha).1
  have h2 := List.mem_range.1 (List.mem_filter.1 hb).1
  exact hne (bits_inj (n := js.length) (by omega) (by omega) e)
theorem setsU_bd {js : List Job} (hn : js.length ≤ 8) {k : Nat} : ∀ x, x ∈ setsU js k → x.length ≤ 2 ^ 10 ∧ ∀ e, e ∈ x → 0 ≤ e ∧ e ≤ 2 ^ 20 := fun x hx => by
  obtain ⟨c, _, _, rfl⟩ := setsU_mem.1 hx
  refine ⟨Nat.le_trans bits_len (by omega), fun e he => ?_⟩
  have := mem_bits.1 he
  omega
theorem nest_gc {h h' : Hp} {d : Value} {r : List Value} {xss : List (List Int)} {us : List Value} (N : Nest h' d encI 1 xss us) : Nest (gc h h' (.tuple (d :: r).toArray)) d encI 1 xss us := by
  refine ⟨Sees.gcU N.out fun g => plainT (r := r) g, N.len, fun i u xs h1 h2 => ?_⟩
  rcases gc_cases h h' (.tuple (d :: r).toArray) with g | ⟨hp, g⟩
  · rw [g]; exact N.inn i u xs h1 h2
  · exfalso
    have hd : plainC d = true := plainT (r := r) hp
    obtain ⟨oa, c, e⟩ := N.out.shapeT
    have hi := (List.getElem?_eq_some_iff.1 h1).1
    rw [e] at hd
    match oa, us.length, c, hd, hi with
    | none, 0, 0, _, hi => exact absurd hi (Nat.not_lt_zero _)
theorem nest_of {h : Hp} {v : Value} {ps : List (Value × List Int)} (S : Sees h v 1 ((fsV ps).map encV)) (hs : ∀ p, p ∈ ps → Ints h p.1 p.2) : Nest h v encI 1 (snL ps) (fsV ps) := by
  refine ⟨S, by simp, fun i u xs h1 h2 => ?_⟩
  rw [List.getElem?_map] at h1 h2
  obtain ⟨p, hp, rfl⟩ := Option.map_eq_some_iff.1 h1
  rw [hp] at h2
  cases h2
  exact hs p (List.mem_of_getElem? hp)
theorem push_own {h0 h h1 : Hp} {L1 : List Asn} {v : Value} {us : List Value} {u : Value} {xss : List (List Int)} {x : List Int} (hl : us.length = xss.length) (H : Holds h0 h (L1 ++ (inL encI 1 us xss ++ []))) (o : Nat) (ho : L1[o]? = some (.own v 1 (us.map encV))) (hp : h <+: h1) (C : Own h.length h1 u 1 (x.map encI)) (hn : us.length ≤ 2 ^ 40) :
    ∃ v' h', appendP P (h1 ++ [some ⟨[u], 1, false⟩]) t_S_S_int v (.slice (some ⟨h1.length, 0, some 1⟩) 1 1) = some (v', h') ∧ Holds h0 h' ((L1.set o (.own v' 1 ((us ++ [u]).map encV))) ++ (inL encI 1 (us ++ [u]) (xss ++ [x]) ++ [])) := by
  have H1 : Holds h0 h1 (L1 ++ (inL encI 1 (us ++ [u]) (xss ++ [x]) ++ [])) := by
    have := H.call hp C
    rw [inL_snoc hl, List.append_nil]
    rw [List.append_nil, List.append_assoc] at this
    exact this
  have hol := (List.getElem?_eq_some_iff.1 ho).1
  obtain ⟨v', h', g1, g2, g3, g4⟩ := push_N0 H1 o (by rw [List.getElem?_append_left hol]; exact ho) u (one_of C.sees) hn
  rw [List.set_append_left _ _ hol] at g2
  exact ⟨v', h', g1, g2⟩
section
variable {h : Hp} {vj v : Value} {js : List Job}
theorem implTimelySets_run (J : Jobs h vj js) (hl : js.length ≤ 2 ^ 40) : RunsC P G n_impl_TimelySets [vj] h fun w h' => h <+: h' ∧ ∃ d us, w = .tuple #[d, .bool (plOk js)] ∧ Nest h' d encI 1 (tsR js) us := by
  refine hideC fun K hK => enter_run e_impl_TimelySets (by simp) ?_
  have Js := J
  obtain ⟨oj, cj, rfl⟩ := J.shapeT
  have r1 := IsPlain_run Js hl
  cases c1 : plOk js
  · rw [c1] at r1
    rw [tsR, c1] at hK
    simp -implicitDefEqProofs [CL_ret r1]
    exact onK hK ⟨List.prefix_rfl, _, [], rfl, ⟨⟨by simp, none, 0, rfl, .inl ⟨rfl, rfl, rfl⟩⟩, rfl, fun i u xs h1 h2 => by cases h1⟩⟩
  rw [c1] at r1
  rw [tsR, c1, if_pos rfl] at hK
  obtain ⟨hn, hg, _⟩ := plOk_of c1
  have p2 := Nat.two_pow_pos js.length
  have p8 : 2 ^ js.length ≤ 2 ^ 8 := Nat.pow_le_pow_right (by omega) hn
  have sh := shl_eq (i := js.length) (by omega)
  have hnd := setsU_nd (js := js) (Nat.le_refl _)
  obtain ⟨d, hd⟩ : ∃ d, d = 2 ^ js.length := ⟨_, rfl⟩
  have eS : setsS js = (setsU js d).foldl (fun l x => insS x l) [] := by rw [hd]; rfl
  rw [← hd] at sh p2 p8 hnd
  rw [eS] at hK
  simp -implicitDefEqProofs [CL_ret r1]
  refine R_loopO (fun m st h' => ∃ (k : Nat) (vo : Value) (us : List Value), k + m = d ∧ st = [(0, .slice oj js.length cj), (4, vo), (5, .int .i64 k)] ∧ us.length = (setsU js k).length ∧ Holds h h' ([.own vo 1 (us.map encV)] ++ (inL encI 1 us (setsU js k) ++ []))) (fun I hI m st h' => ?_) (n := d)
    ⟨0, .slice none 0 0, [], Nat.zero_add _, by simp, rfl, own_nil Holds.start _ _ _⟩
  rintro ⟨k, vo, us, hk, rfl, hul, H⟩
  have hsl := @setsU_len js k
  obtain ⟨ob, cb, rfl⟩ : ∃ a c, vo = .slice a us.length c := by obtain ⟨a, c, e⟩ := (H.sees 0 rfl : Sees h' vo 1 (us.map encV)).shapeT; exact ⟨a, c, e⟩
  by_cases hlt : k < d
  · have hlt' : (k : Int) < d := by omega
    simp -implicitDefEqProofs [sh, hlt, hlt']
    refine CL_post (listOf_run (h := h') (n := js.length) (c := k) (by omega) (by omega)) fun vl h2 ⟨hp2, o2⟩ => ?_
    have Sl : Ints h2 vl (bitsL js.length k) := o2.sees
    have hin : inN js.length (bitsL js.length k) := fun x hx => by have := mem_bits.1 hx; omega
    have rt := onTime_run (Js.pre (H.pre.trans hp2)) Sl hin (Nat.le_trans bits_len (by omega)) (good_bd hg)
    rw [tim_imp (plOk_pl c1)] at rt
    have eo : timB js (bitsL js.length k) = okC js k := rfl
    rw [eo] at rt
    have su := @setsU_succ js k
    obtain ⟨la, lc, rfl⟩ : ∃ a c, vl = .slice a (bitsL js.length k).length c := Sl.shapeT
    cases c2 : okC js k
    · rw [c2] at rt
      rw [c2, if_neg (by simp), List.append_nil] at su
      simp -implicitDefEqProofs [CL_ret rt, winc hlt (by omega)]
      exact ⟨m - 1, by omega, on hI ⟨k + 1, _, us, by omega, rfl, by rw [su]; exact hul, by rw [su]; exact H.ext hp2⟩⟩
    · rw [c2] at rt
      rw [c2, if_pos rfl] at su
      obtain ⟨v', h3, a3, H3⟩ := push_own hul H 0 rfl hp2 o2 (by omega)
      simp -implicitDefEqProofs [CL_ret rt, a3, winc hlt (by omega)]
      exact ⟨m - 1, by omega, on hI ⟨k + 1, v', us ++ [.slice la (bitsL js.length k).length lc], by omega, rfl, by rw [su]; simp [hul], by rw [su]; exact H3⟩⟩
  · have hlt' : ¬ (k : Int) < d := by omega
    have : k = d := by omega
    subst this
    have N := H.nest (L1 := [.own (.slice ob us.length cb) 1 (us.map encV)]) (o := 0) rfl hul
    simp -implicitDefEqProofs [sh, hlt, hlt']
    refine CL_post (orderedSets_run N (by omega) (setsU_bd hn) hnd) fun w h4 ⟨hp4, ps, e4, o4, s4⟩ => ?_
    obtain ⟨wa, wn, wc, rfl⟩ : ∃ a n c, w = .slice a n c := by obtain ⟨a, c, e⟩ := o4.sees.shape; exact ⟨_, _, _, e⟩
    have N4 := nest_of (ps := ps) o4.sees fun p hp => (s4 p hp).pre hp4
    rw [e4] at N4
    simp -implicitDefEqProofs
    exact onK hK ⟨pre_gcU (H.pre.trans hp4), _, _, rfl, nest_gc (r := [_]) N4⟩
theorem insN_see {u : Value} {xs : List Value} (S2 : Sees h u 1 (xs.map encV)) (hone : ∀ y, y ∈ xs → one y = true) {k : Nat} (hk : k ≤ xs.length) (x : Value) (hx : one x = true) (hn : xs.length ≤ 2 ^ 20) :
    ∃ (a3 : Option Addr) (b3 c3 : Nat) (a4 : Option Addr) (b4 c4 : Nat) (h4 : Hp) (a5 : Option Addr) (b5 c5 : Nat) (h5 : Hp) (a6 : Option Addr) (b6 c6 : Nat) (a7 : Option Addr) (b7 c7 : Nat) (h7 : Hp),
      sliceP P h t_S_S_int u none (some (.int .i64 k)) = some (.slice a3 b3 c3) ∧ appendP P h t_S_S_int (.slice none 0 0) (.slice a3 b3 c3) = some (.slice a4 b4 c4, h4) ∧ newOk h h4 ∧
      appendP P (h4 ++ [some ⟨[x], 1, false⟩]) t_S_S_int (.slice a4 b4 c4) (.slice (some ⟨h4.length, 0, some 1⟩) 1 1) = some (.slice a5 b5 c5, h5) ∧ modOk h.length (h4 ++ [some ⟨[x], 1, false⟩]) h5 ∧ newOk h h5 ∧
      sliceP P h5 t_S_S_int u (some (.int .i64 k)) none = some (.slice a6 b6 c6) ∧ appendP P h5 t_S_S_int (.slice a5 b5 c5) (.slice a6 b6 c6) = some (.slice a7 b7 c7, h7) ∧ h <+: h4 ∧ Holds h h7 [.own (.slice a7 b7 c7) 1 ((xs.take k ++ x :: xs.drop k).map encV)] ∧ h <+: h7 := by
  obtain ⟨v3, s3, f3⟩ := S2.front (P := P) u_S_S_int i_S_int (k := .i64) (j := (k : Int)) (by omega) (by simp; omega)
  rw [Int.toNat_natCast, ← List.map_take] at f3
  have H0 := own_nil (Holds.start (h := h)) Value encV 1
  obtain ⟨v4, h4, ha4, H4', _⟩ := app_N H0 0 rfl f3 (fun y hy => hone y (List.mem_of_mem_take hy)) (by simp; omega)
  have H4 : Holds h h4 [.own v4 1 ((xs.take k).map encV)] := H4'
  have n4 : NR h.length h4 := append_nr nr_self ha4
  have no4 := newOk_of H4.pre n4
  obtain ⟨v5, h5, ha5, H5', k5, _⟩ := push_N0 H4 0 rfl x hx (by simp; omega)
  have H5 : Holds h h5 [.own v5 1 ((xs.take k ++ [x]).map encV)] := H5'
  have n5 : NR h.length (h4 ++ [some ⟨[x], 1, false⟩]) := n4.new [x] 1
  have md := app_mod (b := h.length) rfl n5 ha5 (H4.pre.trans (List.prefix_append ..)) H5.pre
  have n6 := append_nr n5 ha5
  obtain ⟨v6, s6, f6, _⟩ := (S2.pre H5.pre).back (P := P) u_S_S_int i_S_int (k := .i64) (j := (k : Int)) (by omega) (by simp; omega)
  rw [Int.toNat_natCast, ← List.map_drop] at f6
  obtain ⟨v7, h7, ha7, H7', _⟩ := app_N H5 0 rfl f6 (fun y hy => hone y (List.mem_of_mem_drop hy)) (by simp; omega)
  have H7 : Holds h h7 [.own v7 1 ((xs.take k ++ x :: xs.drop k).map encV)] := by
    have : Holds h h7 [.own v7 1 ((xs.take k ++ [x] ++ xs.drop k).map encV)] := H7'
    rw [List.append_assoc] at this
    exact this
  obtain ⟨a3, b3, c3, rfl⟩ : ∃ a n c, v3 = .slice a n c := by obtain ⟨a, c, e⟩ := f3.shape; exact ⟨_, _, _, e⟩
  obtain ⟨a4, b4, c4, rfl⟩ : ∃ a n c, v4 = .slice a n c := by obtain ⟨a, c, e⟩ := (H4.sees 0 rfl).shape; exact ⟨_, _, _, e⟩
  obtain ⟨a5, b5, c5, rfl⟩ : ∃ a n c, v5 = .slice a n c := by obtain ⟨a, c, e⟩ := (H5.sees 0 rfl).shape; exact ⟨_, _, _, e⟩
  obtain ⟨a6, b6, c6, rfl⟩ : ∃ a n c, v6 = .slice a n c := by obtain ⟨a, c, e⟩ := f6.shape; exact ⟨_, _, _, e⟩
  obtain ⟨a7, b7, c7, rfl⟩ : ∃ a n c, v7 = .slice a n c := by obtain ⟨a, c, e⟩ := (H7.sees 0 rfl).shape; exact ⟨_, _, _, e⟩
  exact ⟨a3, b3, c3, a4, b4, c4, h4, a5, b5, c5, h5, a6, b6, c6, a7, b7, c7, h7, s3, ha4, no4, ha5, md, newOk_of H5.pre n6, s6, ha7, H4.pre, H7, H7.pre⟩
theorem specTimelySets_run (J : Jobs h vj js) (hl : js.length ≤ 2 ^ 40) : RunsC P G n_spec_TimelySets [vj] h fun w h' => h <+: h' ∧ ∃ d us, w = .tuple #[d, .bool (plOk js)] ∧ Nest h' d encI 1 (tsR js) us := by
  refine hideC fun K hK => enter_run e_spec_TimelySets (by simp) ?_
  have Js := J
  obtain ⟨oj, cj, rfl⟩ := J.shapeT
  have r1 := l6Good_run Js hl
  cases c1 : plOk js
  · rw [c1] at r1
    rw [tsR, c1] at hK
    simp -implicitDefEqProofs [CL_ret r1]
    exact onK hK ⟨List.prefix_rfl, _, [], rfl, ⟨⟨by simp, none, 0, rfl, .inl ⟨rfl, rfl, rfl⟩⟩, rfl, fun i u xs h1 h2 => by cases h1⟩⟩
  rw [c1] at r1
  rw [tsR, c1, if_pos rfl] at hK
  obtain ⟨hn, hg, _⟩ := plOk_of c1
  have p2 := Nat.two_pow_pos js.length
  have p8 : 2 ^ js.length ≤ 2 ^ 8 := Nat.pow_le_pow_right (by omega) hn
  have sh := shl_eq (i := js.length) (by omega)
  have hnd := fun {k} => @setsU_nd js k
  obtain ⟨d, hd⟩ : ∃ d, d = 2 ^ js.length := ⟨_, rfl⟩
  have eS : setsS js = (setsU js d).foldl (fun l x => insS x l) [] := by rw [hd]; rfl
  rw [← hd] at sh p2 p8
  simp only [← hd] at hnd
  rw [eS] at hK
  simp -implicitDefEqProofs [CL_ret r1]
  refine R_loopO (fun m st h' => ∃ (k : Nat) (vo : Value) (ps : List (Value × List Int)), k + m = d ∧ st = [(0, .slice oj js.length cj), (4, vo), (5, .int .i64 k)] ∧ h <+: h' ∧ ps.length = (setsU js k).length ∧ snL ps = (setsU js k).foldl (fun l x => insS x l) [] ∧ Sees h' vo 1 ((fsV ps).map encV) ∧ ∀ p, p ∈ ps → Ints h' p.1 p.2) (fun I hI m st h' => ?_) (n := d)
    ⟨0, .slice none 0 0, [], Nat.zero_add _, by simp, List.prefix_rfl, rfl, rfl, ⟨by simp, none, 0, rfl, .inl ⟨rfl, rfl, rfl⟩⟩, fun p hp => by cases hp⟩
  rintro ⟨k, vo, ps, hk, rfl, hp, hpl, hps, So, hsee⟩
  have hsl := @setsU_len js k
  have hfl : (fsV ps).length = ps.length := by simp
  obtain ⟨ob, cb, rfl⟩ : ∃ a c, vo = .slice a ps.length c := by obtain ⟨a, c, e⟩ := So.shapeT; exact ⟨a, c, by rw [e, hfl]⟩
  by_cases hlt : k < d
  · have hlt' : (k : Int) < d := by omega
    simp -implicitDefEqProofs [sh, hlt, hlt']
    refine CL_post (l4Set_run (h := h') (n := js.length) (c := k) (by omega) (by omega)) fun vl h2 ⟨hp2, o2⟩ => ?_
    have Sl : Ints h2 vl (bitsL js.length k) := o2.sees
    have hin : inN js.length (bitsL js.length k) := fun x hx => by have := mem_bits.1 hx; omega
    have hbl : (bitsL js.length k).length ≤ 8 := Nat.le_trans bits_len hn
    have rt := l6Timely_run (Js.pre (hp.trans hp2)) Sl hin (Nat.le_trans bits_len (by omega)) (good_bd hg)
    rw [tim_spec bits_asc] at rt
    have eo : timB js (bitsL js.length k) = okC js k := rfl
    rw [eo] at rt
    have su := @setsU_succ js k
    have hsrt : SrtS (snL ps) := by
      rw [hps]; exact foldS_srt List.Pairwise.nil (by simpa using hnd (k := k) (by omega))
    have hperm : (snL ps).Perm (setsU js k) := by rw [hps]; have := @foldS_perm (setsU js k) []; simpa using this
    have hpb : ∀ p, p ∈ ps → p.2.length ≤ 2 ^ 10 := fun p hp => (setsU_bd hn (k := k) p.2 (hperm.mem_iff.1 (List.mem_map.2 ⟨p, hp, rfl⟩))).1
    obtain ⟨x, hx⟩ : ∃ x, x = bitsL js.length k := ⟨_, rfl⟩
    rw [← hx] at Sl su hbl
    obtain ⟨la, lc, rfl⟩ : ∃ a c, vl = .slice a x.length c := Sl.shapeT
    have S2 := So.pre hp2
    have see2 : ∀ p, p ∈ ps → Ints h2 p.1 p.2 := fun p hp => (hsee p hp).pre hp2
    cases c2 : okC js k
    · rw [c2] at rt
      rw [c2, if_neg (by simp), List.append_nil] at su
      simp -implicitDefEqProofs [CL_ret rt, winc hlt (by omega)]
      exact ⟨m - 1, by omega, on hI ⟨k + 1, _, ps, by omega, rfl, hp.trans hp2, by rw [su]; exact hpl, by rw [su]; exact hps, S2, see2⟩⟩
    · rw [c2] at rt
      rw [c2, if_pos rfl] at su
      simp -implicitDefEqProofs [CL_ret rt]
      refine R_loopO (fun m2 st h3 => ∃ (q : Nat), q + m2 = ps.length ∧ st = [(0, .slice oj js.length cj), (4, .slice ob ps.length cb), (5, .int .i64 k), (6, .slice la x.length lc), (7, .int .i64 q)] ∧ h3 = h2 ∧ ∀ j p, j < q → ps[j]? = some p → lessS p.2 x = true) (fun I2 hI2 m2 st h3 => ?_) (n := ps.length)
        ⟨0, Nat.zero_add _, by simp, rfl, fun j p hj => by omega⟩
      rintro ⟨q, hq, rfl, rfl, hall⟩
      have fin : (∀ p, ps[q]? = some p → lessS p.2 x = false) → ∃ (a3 : Option Addr) (b3 c3 : Nat) (a4 : Option Addr) (b4 c4 : Nat) (h4 : Hp) (a5 : Option Addr) (b5 c5 : Nat) (h5 : Hp) (a6 : Option Addr) (b6 c6 : Nat) (a7 : Option Addr) (b7 c7 : Nat) (h7 : Hp),
          sliceP P h3 t_S_S_int (.slice ob ps.length cb) none (some (.int .i64 q)) = some (.slice a3 b3 c3) ∧ appendP P h3 t_S_S_int (.slice none 0 0) (.slice a3 b3 c3) = some (.slice a4 b4 c4, h4) ∧ newOk h3 h4 ∧
          appendP P (h4 ++ [some ⟨[.slice la x.length lc], 1, false⟩]) t_S_S_int (.slice a4 b4 c4) (.slice (some ⟨h4.length, 0, some 1⟩) 1 1) = some (.slice a5 b5 c5, h5) ∧ modOk h3.length (h4 ++ [some ⟨[.slice la x.length lc], 1, false⟩]) h5 ∧ newOk h3 h5 ∧
          sliceP P h5 t_S_S_int (.slice ob ps.length cb) (some (.int .i64 q)) none = some (.slice a6 b6 c6) ∧ appendP P h5 t_S_S_int (.slice a5 b5 c5) (.slice a6 b6 c6) = some (.slice a7 b7 c7, h7) ∧ I (m - 1) [(0, .slice oj js.length cj), (4, .slice a7 b7 c7), (5, .int .i64 ((k : Int) + 1))] h7 := fun g => by
        obtain ⟨a3, b3, c3, a4, b4, c4, h4, a5, b5, c5, h5, a6, b6, c6, a7, b7, c7, h7, s3, ha4, no4, ha5, md, no5, s6, ha7, hp4, H7, hp7⟩ := insN_see S2 (fun y hy => by obtain ⟨p, hp, rfl⟩ := List.mem_map.1 hy; exact one_of (see2 p hp)) (k := q) (by rw [hfl]; omega) (.slice la x.length lc) rfl (by rw [hfl]; omega)
        refine ⟨a3, b3, c3, a4, b4, c4, h4, a5, b5, c5, h5, a6, b6, c6, a7, b7, c7, h7, s3, ha4, no4, ha5, md, no5, s6, ha7, on hI ⟨k + 1, .slice a7 b7 c7, ps.take q ++ (.slice la x.length lc, x) :: ps.drop q, by omega, by simp, (hp.trans hp2).trans hp7, ?_, ?_, ?_, fun p hp => ?_⟩⟩
        · rw [su]; simp; omega
        · rw [su, List.foldl_append, ← hps, snL, List.map_append, List.map_cons, List.map_take, List.map_drop]
          refine (insS_take (by rw [List.length_map]; omega) (fun j y hj hy => ?_) fun y hy => ?_).symm
          · rw [List.getElem?_map] at hy
            obtain ⟨p, hp, rfl⟩ := Option.map_eq_some_iff.1 hy
            exact hall j p hj hp
          · rw [List.getElem?_map] at hy
            obtain ⟨p, hp, rfl⟩ := Option.map_eq_some_iff.1 hy
            exact g p hp
        · rw [fsV, List.map_append, List.map_cons, List.map_take, List.map_drop]; exact H7.sees 0 rfl
        · rcases List.mem_append.1 hp with g | g
          · exact (see2 p (List.mem_of_mem_take g)).pre hp7
          · rcases List.mem_cons.1 g with rfl | g
            · exact Sl.pre hp7
            · exact (see2 p (List.mem_of_mem_drop g)).pre hp7
      by_cases hlq : q < ps.length
      · have hlq' : (q : Int) < ps.length := by omega
        obtain ⟨p, hpq, _⟩ := drop_at hlq
        have hpm := List.mem_of_getElem? hpq
        have lz := load_N S2 (i := q) (x := p.1) (by rw [List.getElem?_map, hpq]; rfl)
        have rl := l4Less_run (see2 p hpm) Sl (by have := hpb p hpm; omega) (by omega)
        obtain ⟨pv, y⟩ := p
        obtain ⟨ya, yn, yc, rfl⟩ : ∃ a n c, pv = .slice a n c := by obtain ⟨a, c, e⟩ := (see2 _ hpm).shape; exact ⟨_, _, _, e⟩
        cases c3 : lessS y x
        · have rl : Ret P G n_spec_l4Less [.slice ya yn yc, .slice la x.length lc] h3 (.bool (lessS y x)) h3 := rl
          rw [c3] at rl
          obtain ⟨a3, b3, c3', a4, b4, c4, h4, a5, b5, c5, h5, a6, b6, c6, a7, b7, c7, h7, s3, ha4, no4, ha5, md, no5, s6, ha7, fI⟩ := fin (fun p' g => by rw [hpq] at g; cases g; exact c3)
          simp -implicitDefEqProofs [-indexAddrP_some, hlq, hlq', lz, CL_ret rl, s3, ha4, no4, ha5, md, no5, s6, ha7, winc hlt (by omega)]
          exact ⟨m - 1, by omega, fI⟩
        · have rl : Ret P G n_spec_l4Less [.slice ya yn yc, .slice la x.length lc] h3 (.bool (lessS y x)) h3 := rl
          rw [c3] at rl
          simp -implicitDefEqProofs [-indexAddrP_some, hlq, hlq', lz, CL_ret rl, winc hlq (by omega)]
          exact ⟨m2 - 1, by omega, on hI2 ⟨q + 1, by omega, rfl, rfl, fun j p' hj hp' => by
            rcases Nat.lt_or_ge j q with g | g
            · exact hall j p' g hp'
            · have : j = q := by omega
              subst this
              rw [hpq] at hp'; cases hp'; exact c3⟩⟩
      · have hlq' : ¬ (q : Int) < ps.length := by omega
        obtain ⟨a3, b3, c3', a4, b4, c4, h4, a5, b5, c5, h5, a6, b6, c6, a7, b7, c7, h7, s3, ha4, no4, ha5, md, no5, s6, ha7, fI⟩ := fin (fun p' g => by rw [List.getElem?_eq_none (by omega)] at g; cases g)
        simp -implicitDefEqProofs [-indexAddrP_some, hlq, hlq', s3, ha4, no4, ha5, md, no5, s6, ha7, winc hlt (by omega)]
        exact ⟨m - 1, by omega, fI⟩
  · have hlt' : ¬ (k : Int) < d := by omega
    have : k = d := by omega
    subst this
    have N4 := nest_of (ps := ps) So hsee
    rw [hps] at N4
    simp -implicitDefEqProofs [sh, hlt, hlt']
    exact onK hK ⟨pre_gcU hp, _, _, rfl, nest_gc (r := [_]) N4⟩
end
end Go.Pm.PP

/- Sums over sets; vectors. -/
set_option linter.unusedVariables false
set_option linter.unusedSimpArgs false
set_option maxRecDepth 4000
set_option maxHeartbeats 16000000
namespace Go.Pm.PP
open Go.Pm Go.Proofs Go.Pm.PE
section
variable {h : Hp} {vj v ve vs : Value} {js : List Job} {xs es s : List Int}
/-! ### sums -/
def supL (js : List Job) (es s : List Int) : Int := (s.map fun i => (jA js i).t * gE es i.toNat).sum
def timS (js : List Job) (s : List Int) : Int := (s.map fun i => (jA js i).t).sum
def sqrS (js : List Job) (s : List Int) : Int := (s.map fun i => (jA js i).t * (jA js i).t).sum
end
end Go.Pm.PP

/- Vectors of ends: guards, short sets. -/
set_option linter.unusedVariables false
set_option linter.unusedSimpArgs false
set_option maxRecDepth 4000
set_option maxHeartbeats 16000000
namespace Go.Pm.PP
open Go.Pm Go.Proofs Go.Pm.PE
section
variable {h : Hp} {vj v ve vs u : Value} {js : List Job} {xs ys es s : List Int}
/-! ### short sets -/
end
end Go.Pm.PP

/- Vectors of ends: what both export. -/
set_option linter.unusedVariables false
set_option linter.unusedSimpArgs false
set_option maxRecDepth 4000
set_option maxHeartbeats 16000000
namespace Go.Pm.PP
open Go.Pm Go.Proofs Go.Pm.PE
section
variable {h : Hp} {vj v ve vs u : Value} {js : List Job} {xs ys es s : List Int}
end
end Go.Pm.PP

/- Vectors of orders, demands and supplies of sets, mixtures. -/
set_option linter.unusedVariables false
set_option linter.unusedSimpArgs false
set_option maxRecDepth 4000
set_option maxHeartbeats 16000000
namespace Go.Pm.PP
open Go.Pm Go.Proofs Go.Pm.PE
section
variable {h : Hp} {vj v ve vs u va vb : Value} {js : List Job} {xs ys es s a b : List Int} {x y : Int}
/-! ### sets -/
end
end Go.Pm.PP

/- Mixtures of vectors. -/
set_option linter.unusedVariables false
set_option linter.unusedSimpArgs false
set_option maxRecDepth 4000
set_option maxHeartbeats 16000000
namespace Go.Pm.PP
open Go.Pm Go.Proofs Go.Pm.PE
section
variable {h : Hp} {vj v ve vs u va vb : Value} {js : List Job} {xs ys es s a b : List Int} {x y : Int}
end
end Go.Pm.PP

/- Vectors of ends, in plain terms: short sets are first parts; orders' vectors; mixtures. -/
set_option linter.unusedVariables false
set_option linter.unusedSimpArgs false
set_option maxRecDepth 4000
set_option maxHeartbeats 4000000
namespace Go.Pm.PP
open Go.Pm Go.Proofs Go.Pm.PE
/-- Twice what a set has above its demand. -/
def f2 (js : List Job) (es s : List Int) : Int := 2 * supL js es s - (timS js s * timS js s + sqrS js s)
theorem nd_len : ∀ {s l : List Int}, s.Nodup → (∀ x, x ∈ s → x ∈ l) → s.length ≤ l.length
  | [], _, _, _ => Nat.zero_le _
  | x :: s, l, h, hs => by
    have h := List.nodup_cons.1 h
    have hx := hs x (List.mem_cons_self ..)
    have := nd_len (l := l.erase x) h.2 fun y hy => (List.mem_erase_of_ne (fun e => by subst e; exact h.1 hy)).2 (hs y (List.mem_cons_of_mem _ hy))
    have hl := List.length_erase_of_mem hx
    have := List.length_pos_of_mem hx
    rw [List.length_cons]; omega
theorem nodup_len {n : Nat} {s : List Int} (h : s.Nodup) (hin : inN n s) : s.length ≤ n := by
  have := nd_len (l := upTo n) h fun x hx => mem_upTo.2 (hin x hx)
  rwa [upTo_len] at this
/-! ### vectors of orders -/
/-! ### mixtures -/
end Go.Pm.PP

/- The table of weights, the least weight of late jobs and timely orders, in plain terms. -/
set_option linter.unusedVariables false
set_option linter.unusedSimpArgs false
set_option maxRecDepth 4000
namespace Go.Pm.PP
open Go.Pm Go.Proofs Go.Pm.PE
def wJ (js : List Job) (x : Int) : Int := (jA js x).w
theorem dueL_perm {js : List Job} {xs : List Int} : (dueL js xs).Perm xs := sortB_perm
section
variable {js : List Job}
theorem wJ_nn (hg : goodL js = true) (x : Int) : 0 ≤ wJ js x := (jw_bd hg x).1
/-! ### the greatest one -/
/-! ### late jobs of an order -/
/-! ### an order that begins with a timely set -/
end
end Go.Pm.PP

/- The table of weights and the least weight of late jobs, of both; timely orders, of both. -/
set_option linter.unusedVariables false
set_option linter.unusedSimpArgs false
set_option maxRecDepth 4000
set_option maxHeartbeats 16000000
namespace Go.Pm.PP
open Go.Pm Go.Proofs Go.Pm.PE
section
variable {h : Hp} {vj v u : Value} {js : List Job} {xs ys : List Int}
end
end Go.Pm.PP

/- The table of weights by the reference; the least weight of late jobs and timely orders, of both; late jobs. -/
set_option linter.unusedVariables false
set_option linter.unusedSimpArgs false
set_option maxRecDepth 4000
set_option maxHeartbeats 16000000
namespace Go.Pm.PP
open Go.Pm Go.Proofs Go.Pm.PE
theorem l1Least_run {h : Hp} {a b : Int} : Ret P G n_spec_l1Least [.int .i64 a, .int .i64 b] h (.int .i64 (min a b)) h := by
  refine enter_run e_spec_l1Least (by simp) ?_
  by_cases c : a < b
  · simp -implicitDefEqProofs [c, Int.min_eq_left (Int.le_of_lt c)]
  · simp -implicitDefEqProofs [c, Int.min_eq_right (Int.not_lt.1 c)]
section
variable {h : Hp} {vj v u : Value} {js : List Job} {xs ys : List Int}
theorem set_same {T : List Int} {k : Nat} (hk : k < T.length) : T.set k (gE T k) = T := by
  apply List.ext_getElem?
  intro i
  rw [List.getElem?_set]
  split
  · rename_i e; subst e; exact (gE_get hk).symm
  · rfl
end
end Go.Pm.PP

/- FnVectors, from its draws. -/
set_option linter.unusedVariables false
set_option linter.unusedSimpArgs false
set_option maxRecDepth 4000
set_option maxHeartbeats 16000000
namespace Go.Pm.PP
open Go.Pm Go.Proofs Go.Pm.PE
end Go.Pm.PP

/- Timely orders, the least weight of late jobs, late jobs; comparisons of the laws. -/
set_option linter.unusedVariables false
set_option linter.unusedSimpArgs false
set_option maxRecDepth 4000
set_option maxHeartbeats 16000000
namespace Go.Pm.PP
open Go.Pm Go.Proofs Go.Pm.PE
section
variable {h : Hp} {vj v u : Value} {js : List Job} {xs ys : List Int}
/-! ### orders -/
theorem up_snoc {n : Nat} : upTo (n + 1) = upTo n ++ [(n : Int)] := by unfold upTo; rw [List.range_succ, List.map_append]; rfl
/-! ### late jobs -/
theorem rHas_run {x : Int} (X : Ints h v xs) (hx : xs.length ≤ 2 ^ 40) : Ret P G n_laws_rHas [v, .int .i64 x] h (.bool (hasL x xs)) h := by
  refine enter_run e_laws_rHas (by simp) ?_
  have Xs := X
  obtain ⟨oa, c, rfl⟩ := X.shapeT
  simp -implicitDefEqProofs
  refine R_loop (fun n s h' => ∃ i : Nat, i + n = xs.length ∧ s = [(0, .slice oa xs.length c), (1, .int .i64 x), (5, .int .i64 i)] ∧ h' = h ∧ hasL x xs = hasL x (xs.drop i)) (fun n s h' => ?_) ⟨0, Nat.zero_add _, by simp⟩
  rintro ⟨i, hi, rfl, rfl, hxx⟩
  by_cases hlt : i < xs.length
  · obtain ⟨y, hy, hd⟩ := drop_at hlt
    rw [hd, hasL_cons] at hxx
    simp -implicitDefEqProofs [hlt, load_I Xs hy]
    refine CB_split (fun h => ?_) (fun h => ?_)
    · simp -implicitDefEqProofs [hxx, h]
    · rw [h, Bool.false_or] at hxx
      simp -implicitDefEqProofs [winc hlt hx]
      exact ⟨n - 1, by omega, i + 1, by omega, rfl, hxx⟩
  · rw [List.drop_eq_nil_of_le (by omega), hasL_nil] at hxx
    simp -implicitDefEqProofs [hlt, hxx]
theorem rTable_run {xss : List (List Int)} {us ws : List Value} (N : Nest h v encI 1 xss us) (M : Nest h u encI 1 xss ws) (hn : xss.length ≤ 2 ^ 40) (hb : ∀ x, x ∈ xss → x.length ≤ 2 ^ 40) : Ret P G n_laws_rTable [v, u] h (.bool true) h := by
  refine enter_run e_laws_rTable (by simp) ?_
  have Ns := N
  have Ms := M
  obtain ⟨oa, ca, rfl⟩ := N.shape
  obtain ⟨ob, cb, rfl⟩ := M.shape
  simp -implicitDefEqProofs
  refine R_loopO (fun m s h' => ∃ (i : Nat), i + m = xss.length ∧ s = [(0, .slice oa xss.length ca), (1, .slice ob xss.length cb), (5, .int .i64 i)] ∧ h' = h) (fun I hI m s h' => ?_) (n := xss.length) ⟨0, Nat.zero_add _, by simp, rfl⟩
  rintro ⟨i, hi, rfl, rfl⟩
  by_cases hlt : i < xss.length
  · have hlt' : (i : Int) < xss.length := by omega
    obtain ⟨x, hx, _⟩ := drop_at hlt
    obtain ⟨ux, hux, Sx⟩ := Ns.at hx
    obtain ⟨wx, hwx, Tx⟩ := Ms.at hx
    have l1 := load_N (Ns.out : Sees h' _ 1 (us.map encV)) hux
    have l2 := load_N (Ms.out : Sees h' _ 1 (ws.map encV)) hwx
    have rr := rInts_run Sx Tx (hb x (List.mem_of_getElem? hx))
    obtain ⟨xa, xn, xc, rfl⟩ : ∃ a n c, ux = .slice a n c := by obtain ⟨a, c, e⟩ := Sx.shape; exact ⟨_, _, _, e⟩
    obtain ⟨ya, yn, yc, rfl⟩ : ∃ a n c, wx = .slice a n c := by obtain ⟨a, c, e⟩ := Tx.shape; exact ⟨_, _, _, e⟩
    simp -implicitDefEqProofs [-indexAddrP_some, hlt, hlt', l1, l2, CL_ret rr, CH_at rr, winc hlt (by omega)]
    exact ⟨m - 1, by omega, on hI ⟨i + 1, by omega, rfl, rfl⟩⟩
  · have hlt' : ¬ (i : Int) < xss.length := by omega
    simp -implicitDefEqProofs [hlt, hlt']
end
end Go.Pm.PP

/- The late rule, in plain terms: what is left is a largest part of the jobs taken that can be on time, with the least sum of times. -/
set_option linter.unusedVariables false
set_option linter.unusedSimpArgs false
namespace Go.Pm.PE
open Go.Pm.PP
section
variable (t d : Int → Int)
/-- The index of the first one of the longest. -/
def lgS (l : List Int) (b i : Nat) : Nat := if t (gE l b) < t (gE l i) then i else b
def lgI (l : List Int) : Nat := (List.range' 0 l.length).foldl (lgS t l) 0
end
section
variable {t d : Int → Int}
theorem lg_go {l : List Int} : ∀ {m i b : Nat}, b < l.length → i + m ≤ l.length → let q := (List.range' i m).foldl (lgS t l) b
    q < l.length ∧ t (gE l b) ≤ t (gE l q) ∧ (∀ j, i ≤ j → j < i + m → t (gE l j) ≤ t (gE l q)) ∧ (q = b ∨ t (gE l b) < t (gE l q)) ∧ (q = b ∨ i ≤ q)
  | 0, i, b, hb, _ => ⟨hb, Int.le_refl _, fun j h1 h2 => by omega, .inl rfl, .inl rfl⟩
  | m + 1, i, b, hb, h => by
    rw [List.range'_succ, List.foldl_cons]
    by_cases c : t (gE l b) < t (gE l i)
    · have e : lgS t l b i = i := by unfold lgS; rw [if_pos c]
      rw [e]
      obtain ⟨h1, h2, h3, h4, h5⟩ := lg_go (l := l) (m := m) (i := i + 1) (b := i) (by omega) (by omega)
      refine ⟨h1, by omega, fun j j1 j2 => ?_, .inr (by omega), .inr (by omega)⟩
      rcases Nat.lt_or_ge i j with g | g
      · exact h3 j g (by omega)
      · have : j = i := by omega
        subst this; exact h2
    · have e : lgS t l b i = b := by unfold lgS; rw [if_neg c]
      rw [e]
      obtain ⟨h1, h2, h3, h4, h5⟩ := lg_go (l := l) (m := m) (i := i + 1) (b := b) hb (by omega)
      refine ⟨h1, h2, fun j j1 j2 => ?_, h4, by omega⟩
      rcases Nat.lt_or_ge i j with g | g
      · exact h3 j g (by omega)
      · have : j = i := by omega
        subst this; omega
theorem lg_spec {l : List Int} (h : l ≠ []) : lgI t l < l.length ∧ ∀ x, x ∈ l → t x ≤ t (gE l (lgI t l)) := by
  have hp : 0 < l.length := List.length_pos_iff.2 h
  obtain ⟨h1, h2, h3, _⟩ := lg_go (t := t) (l := l) (m := l.length) (i := 0) (b := 0) hp (by omega)
  refine ⟨h1, fun x hx => ?_⟩
  obtain ⟨j, hj⟩ := List.getElem?_of_mem hx
  have hjl := (List.getElem?_eq_some_iff.1 hj).1
  have := h3 j (by omega) (by omega)
  have e : gE l j = x := by unfold gE; rw [hj]; rfl
  rw [e] at this
  exact this
theorem erase_perm {l : List Int} {k : Nat} (h : k < l.length) : l.Perm (gE l k :: l.eraseIdx k) := by
  have e : l = l.take k ++ gE l k :: l.drop (k + 1) := by
    have h1 : l[k]? = some (gE l k) := gE_get h
    have := List.take_append_drop k l
    rw [List.drop_eq_getElem_cons h] at this
    have e2 : l[k] = gE l k := by have := List.getElem?_eq_some_iff.1 h1; exact this.2
    rw [e2] at this
    exact this.symm
  rw [List.eraseIdx_eq_take_drop_succ]
  conv => lhs; rw [e]
  exact List.perm_middle
theorem okG_drop {A B : List Int} {x : Int} (ht : ∀ x, 0 ≤ t x) {now : Int} (h : okG t d 0 now (A ++ x :: B) = true) : okG t d 0 now (A ++ B) = true := by
  rw [okG_app, Bool.and_eq_true] at h ⊢
  refine ⟨h.1, ?_⟩
  have h2 := h.2
  rw [okG, Bool.and_eq_true] at h2
  have := ht x
  exact okG_mono (by omega) h2.2
theorem okG_erase {l : List Int} {k : Nat} (ht : ∀ x, 0 ≤ t x) (hk : k < l.length) {now : Int} (h : okG t d 0 now l = true) : okG t d 0 now (l.eraseIdx k) = true := by
  have e : l = l.take k ++ l[k] :: l.drop (k + 1) := by
    have := List.take_append_drop k l
    rw [List.drop_eq_getElem_cons hk] at this
    exact this.symm
  rw [List.eraseIdx_eq_take_drop_succ]
  rw [e] at h
  exact okG_drop ht h
/-- The end of a list that is on time: its sum is no greater than the date of its last one. -/
theorem ok_last {l : List Int} {x : Int} (h : okG t d 0 0 (l ++ [x]) = true) : tsm t (l ++ [x]) ≤ d x := by
  rw [okG_app, Bool.and_eq_true] at h
  have h2 := h.2
  simp only [okG, Bool.and_true, decide_eq_true_eq] at h2
  rw [tsm_app, tsm_cons]
  simp only [show tsm t [] = 0 from rfl]
  omega
theorem nd_le {s l : List Int} (h : s.Nodup) (hm : ∀ x, x ∈ s → x ∈ l) : s.length ≤ l.length := by
  induction s generalizing l with
  | nil => simp
  | cons x s ih =>
    obtain ⟨h1, h2⟩ := List.nodup_cons.1 h
    have hx := hm x (List.mem_cons_self ..)
    have p := List.perm_cons_erase hx
    have := ih (l := l.erase x) h2 fun y hy => by
      have := p.mem_iff.1 (hm y (List.mem_cons_of_mem _ hy))
      rcases List.mem_cons.1 this with rfl | g
      · exact absurd hy h1
      · exact g
    have := p.length_eq
    simp only [List.length_cons] at this ⊢
    omega
theorem nd_perm {s l : List Int} (h : s.Nodup) (hm : ∀ x, x ∈ s → x ∈ l) (hl : l.length ≤ s.length) (hn : l.Nodup) : s.Perm l := by
  refine (List.perm_ext_iff_of_nodup h hn).2 fun x => ⟨hm x, fun hx => ?_⟩
  refine Classical.byContradiction fun g => ?_
  have := nd_le (s := x :: s) (l := l) (List.nodup_cons.2 ⟨g, h⟩) fun y hy => by
    rcases List.mem_cons.1 hy with rfl | k
    · exact hx
    · exact hm y k
  simp only [List.length_cons] at this
  omega
/-- What holds of the jobs that are left. -/
structure LRI (t d : Int → Int) (D E : List Int) : Prop where
  sub : E.Sublist D
  ok : okG t d 0 0 E = true
  dom : ∀ S, S.Sublist D → okG t d 0 0 S = true → ∃ S', S'.Nodup ∧ (∀ x, x ∈ S' → x ∈ E) ∧ S'.length = S.length ∧ tsm t S' ≤ tsm t S
theorem LRI.nil : LRI t d [] [] := ⟨List.Sublist.refl _, rfl, fun S hS _ => ⟨[], List.nodup_nil, fun x h => (by cases h), by rw [List.sublist_nil.1 hS], by rw [List.sublist_nil.1 hS]; exact Int.le_refl _⟩⟩
theorem LRI.step (ht : ∀ x, 0 ≤ t x) {D E : List Int} {x : Int} (I : LRI t d D E) (hnd : (D ++ [x]).Nodup) (hd : ∀ y, y ∈ D → d y ≤ d x) : LRI t d (D ++ [x]) (if tsm t (E ++ [x]) ≤ d x then E ++ [x] else (E ++ [x]).eraseIdx (lgI t (E ++ [x]))) := by
  have hxD : x ∉ D := fun g => by
    have := (List.nodup_append.1 hnd).2.2 x g x (List.mem_singleton.2 rfl)
    exact this rfl
  have hxE : x ∉ E := fun g => hxD (I.sub.subset g)
  have hsub : (E ++ [x]).Sublist (D ++ [x]) := I.sub.append (List.Sublist.refl _)
  have hndE : (E ++ [x]).Nodup := hnd.sublist hsub
  have last : ∀ S, S.Sublist (D ++ [x]) → okG t d 0 0 S = true → S ≠ [] → tsm t S ≤ d x := fun S hS ho hne => by
    obtain ⟨r, y, rfl⟩ := snoc_of hne
    have h1 := ok_last ho
    have hy : y ∈ D ++ [x] := hS.subset (by simp)
    rcases List.mem_append.1 hy with g | g
    · have := hd y g; omega
    · rw [List.mem_singleton.1 g] at h1 ⊢; exact h1
  -- some part of what was left, and of the one that is taken
  have wide : ∀ S, S.Sublist (D ++ [x]) → okG t d 0 0 S = true → ∃ S', S'.Nodup ∧ (∀ y, y ∈ S' → y ∈ E ++ [x]) ∧ S'.length = S.length ∧ tsm t S' ≤ tsm t S := fun S hS ho => by
    rcases sub_snoc.1 hS with g | ⟨S0, rfl, g⟩
    · obtain ⟨S', a, b, c, e⟩ := I.dom S g ho
      exact ⟨S', a, fun y hy => List.mem_append_left _ (b y hy), c, e⟩
    · rw [okG_app, Bool.and_eq_true] at ho
      obtain ⟨S', a, b, c, e⟩ := I.dom S0 g ho.1
      refine ⟨S' ++ [x], List.nodup_append.2 ⟨a, by simp, fun u hu v hv e => ?_⟩, fun y hy => ?_, by simp [c], ?_⟩
      · rw [List.mem_singleton.1 hv] at e
        exact hxE (e ▸ b u hu)
      · rcases List.mem_append.1 hy with g | g
        · exact List.mem_append_left _ (b y g)
        · exact List.mem_append_right _ g
      · rw [tsm_app, tsm_app]; omega
  by_cases c : tsm t (E ++ [x]) ≤ d x
  · rw [if_pos c]
    refine ⟨hsub, ?_, wide⟩
    rw [okG_app, I.ok]
    rw [tsm_app, tsm_cons] at c
    simp only [show tsm t [] = 0 from rfl] at c
    simp only [okG, Bool.and_true, Bool.true_and, decide_eq_true_eq]
    omega
  · rw [if_neg c]
    obtain ⟨k1, k2⟩ := lg_spec (t := t) (l := E ++ [x]) (by simp)
    generalize lgI t (E ++ [x]) = k at *
    have hp := erase_perm k1
    obtain ⟨l, hl⟩ : ∃ l, l = gE (E ++ [x]) k := ⟨_, rfl⟩
    rw [← hl] at hp k2
    have hndp := hp.nodup_iff.1 hndE
    obtain ⟨n1, n2⟩ := List.nodup_cons.1 hndp
    refine ⟨(List.eraseIdx_sublist ..).trans hsub, ?_, fun S hS ho => ?_⟩
    · -- still on time
      rcases Nat.lt_or_ge k E.length with g | g
      · rw [List.eraseIdx_append_of_lt_length g, okG_app, okG_erase ht g I.ok]
        have hpE := erase_perm g
        have e1 : gE E k = l := by
          rw [hl]; unfold gE; rw [List.getElem?_append_left g]
        rw [e1] at hpE
        have s1 := tsm_perm (t := t) hpE
        rw [tsm_cons] at s1
        have s2 := k2 x (by simp)
        have hne : E ≠ [] := List.length_pos_iff.1 (by omega)
        have s3 := last E (I.sub.trans (List.sublist_append_left ..)) I.ok hne
        simp only [okG, Bool.and_true, Bool.true_and, decide_eq_true_eq]
        omega
      · have : k = E.length := by simp at k1; omega
        subst this
        rw [List.eraseIdx_append_of_length_le (Nat.le_refl _), Nat.sub_self]
        simpa using I.ok
    · obtain ⟨S', a, b, c', e⟩ := wide S hS ho
      by_cases hlS : l ∈ S'
      · -- some one of them is not in it
        have : ∃ z, z ∈ E ++ [x] ∧ z ∉ S' := by
          refine Classical.byContradiction fun g => ?_
          have hall : ∀ z, z ∈ E ++ [x] → z ∈ S' := fun z hz => Classical.byContradiction fun k => g ⟨z, hz, k⟩
          have hpm := nd_perm a b (nd_le hndE hall) hndE
          have h1 := tsm_perm (t := t) hpm
          have h2 := last S hS ho (fun k => by
            rw [k] at c'
            have : S' = [] := List.length_eq_zero_iff.1 (by simpa using c')
            rw [this] at hlS; cases hlS)
          omega
        obtain ⟨z, hz, hzS⟩ := this
        have hpl := List.perm_cons_erase hlS
        have hne : z ≠ l := fun g => hzS (g ▸ hlS)
        have ndl := List.nodup_cons.1 (hpl.nodup_iff.1 a)
        refine ⟨z :: S'.erase l, List.nodup_cons.2 ⟨fun g => hzS (hpl.mem_iff.2 (List.mem_cons_of_mem _ g)), ndl.2⟩, fun y hy => ?_, ?_, ?_⟩
        · rcases List.mem_cons.1 hy with rfl | g
          · rcases List.mem_cons.1 (hp.mem_iff.1 hz) with g | g
            · exact absurd g hne
            · exact g
          · have h1 := b y (hpl.mem_iff.2 (List.mem_cons_of_mem _ g))
            rcases List.mem_cons.1 (hp.mem_iff.1 h1) with k | k
            · exact absurd (k ▸ g) ndl.1
            · exact k
        · have := hpl.length_eq
          simp only [List.length_cons] at this ⊢
          omega
        · have s1 := tsm_perm (t := t) hpl
          rw [tsm_cons] at s1 ⊢
          have := k2 z hz
          omega
      · refine ⟨S', a, fun y hy => ?_, c', e⟩
        rcases List.mem_cons.1 (hp.mem_iff.1 (b y hy)) with g | g
        · exact absurd (g ▸ hy) hlS
        · exact g
theorem LRI.most {D E S : List Int} (I : LRI t d D E) (hE : E.Nodup) (hS : S.Sublist D) (ho : okG t d 0 0 S = true) : S.length ≤ E.length ∧ (S.length = E.length → tsm t E ≤ tsm t S) := by
  obtain ⟨S', a, b, c, e⟩ := I.dom S hS ho
  have := nd_le a b
  refine ⟨by omega, fun h => ?_⟩
  have := tsm_perm (t := t) (nd_perm a b (by omega) hE)
  omega
/-! ### the steps -/
def gone (s : List (Int × Int)) : List Int := (s.map Prod.snd).filter fun x => decide (0 ≤ x)
end
end Go.Pm.PE

/- The late rule by the program. -/
set_option linter.unusedVariables false
set_option linter.unusedSimpArgs false
set_option maxRecDepth 4000
set_option maxHeartbeats 16000000
namespace Go.Pm.PP
open Go.Pm Go.Proofs Go.Pm.PE
theorem _root_.Go.Pm.Holds.base {h0 h1 h : Hp} {L : List Asn} (H : Holds h1 h L) (hp : h0 <+: h1) : Holds h0 h L := by
  have hl := hp.length_le
  refine ⟨hp.trans H.pre, fun i A e => ?_, H.dist⟩
  have := H.ok i A e
  cases A with
  | own v sz els => exact Own.low this hl
  | box r cs => exact ⟨Nat.le_trans hl this.1, this.2⟩
theorem own_bare {b : Nat} {h : Hp} {v : Value} {sz : Nat} {els : List (List Value)} (o : Own b h v sz els) (hp : plainC v = true) : v = .slice none 0 0 ∧ els = [] := by
  rcases o.2 with g | ⟨r, rest, k, _, _, rfl, _⟩
  · exact g
  · cases hp
section
variable {h : Hp} {vj v u : Value} {js : List Job} {xs ys : List Int}
end
end Go.Pm.PP

/- The late rule by the reference. -/
set_option linter.unusedVariables false
set_option linter.unusedSimpArgs false
set_option maxRecDepth 4000
set_option maxHeartbeats 16000000
namespace Go.Pm.PP
open Go.Pm Go.Proofs Go.Pm.PE
section
variable {h : Hp} {vj v u : Value} {js : List Job} {xs ys : List Int}
theorem sum_take {t : Int → Int} {i : Nat} {y : Int} (hy : xs[i]? = some y) : tsm t (xs.take (i + 1)) = tsm t (xs.take i) + t y := by
  rw [take_succ' hy, tsm_app, tsm_cons]; simp [tsm]
end
end Go.Pm.PP

/- What the late rule tells, of both. -/
set_option linter.unusedVariables false
set_option linter.unusedSimpArgs false
set_option maxRecDepth 4000
set_option maxHeartbeats 16000000
namespace Go.Pm.PP
open Go.Pm Go.Proofs Go.Pm.PE
theorem hasL_iff {x : Int} {l : List Int} : hasL x l = true ↔ x ∈ l := by
  constructor
  · intro h
    obtain ⟨y, hy, e⟩ := List.any_eq_true.1 h
    rw [beq_iff_eq] at e
    exact e ▸ hy
  · intro h
    exact List.any_eq_true.2 ⟨x, h, by simp⟩
section
variable {h : Hp} {vj v u : Value} {js : List Job} {xs ys : List Int}
/-! ### by the reference -/
/-! ### what is left after some steps -/
theorem putI_mem {l : List Int} {x y : Int} : y ∈ putI l x ↔ y = x ∨ y ∈ l := by
  unfold putI
  split
  · rename_i g
    obtain ⟨z, hz, e⟩ := List.any_eq_true.1 g
    rw [beq_iff_eq] at e
    constructor
    · exact .inr
    · rintro (g | g)
      · rw [g, ← e]; exact hz
      · exact g
  · rw [insF_perm.mem_iff, List.mem_cons]
theorem putI_srt {l : List Int} {x : Int} (h : l.Pairwise (· < ·)) : (putI l x).Pairwise (· < ·) := by
  unfold putI
  split
  · exact h
  · rename_i g
    refine insF_sorted (R := fun a b => a < b) h (fun y hy hp => by simpa using hp) (fun y hy hp => ?_) fun y z hy hz hr hp => ?_
    · have h1 : ¬ y < x := by simpa using hp
      have h2 : y ≠ x := fun e => g (List.any_eq_true.2 ⟨y, hy, by simpa using e⟩)
      omega
    · have h1 : ¬ y < x := by simpa using hp
      have : ¬ z < x := by omega
      simpa using this
end
end Go.Pm.PP

/- FnVectors: its draws. -/
set_option linter.unusedVariables false
set_option linter.unusedSimpArgs false
set_option maxRecDepth 4000
set_option maxHeartbeats 16000000
namespace Go.Pm.PP
open Go.Pm Go.Proofs Go.Pm.PE
section
variable {h0 h : Hp} {r n : Nat} {vc : Value} {L T : List Asn}
theorem Cur.putI {u : Value} {xs : List Int} (C : Cur h0 h r vc n (L ++ [.own u 1 (xs.map encI)])) {k : Nat} (hk : k < xs.length) (x : Int) : ∃ h', storeP P h t_int (.int .i64 x) (.pointer (some (addP (base u) k))) = some h' ∧ Cur h0 h' r vc n (L ++ [.own u 1 ((xs.set k x).map encI)]) := by
  obtain ⟨a, s, h1, h2, H⟩ := C
  obtain ⟨h', g1, g2, _⟩ := put_I H (L.length + 1) (by rw [List.getElem?_cons_succ]; exact snoc_get) hk x
  refine ⟨h', g1, a, s, h1, h2, ?_⟩
  rw [List.set_cons_succ, List.set_append_right (h := Nat.le_refl _), Nat.sub_self] at g2
  exact g2
theorem Cur.pushI {u : Value} {xs : List Int} (C : Cur h0 h r vc n (L ++ [.own u 1 (xs.map encI)])) (x : Int) (hl : xs.length ≤ 2 ^ 30) : ∃ u' h', appendP P (h ++ [some ⟨[.int .i64 x], 1, false⟩]) t_S_int u (.slice (some ⟨h.length, 0, some 1⟩) 1 1) = some (u', h') ∧ Cur h0 h' r vc n (L ++ [.own u' 1 ((xs ++ [x]).map encI)]) := by
  obtain ⟨a, s, g1, g2, H⟩ := C
  obtain ⟨u', h5, g3, g4, _⟩ := push_I0 H (L.length + 1) (by rw [List.getElem?_cons_succ]; exact snoc_get) x (by omega)
  rw [List.set_cons_succ, List.set_append_right (h := Nat.le_refl _), Nat.sub_self] at g4
  exact ⟨u', h5, g3, a, s, g1, g2, g4⟩
theorem Cur.seesAt {i : Nat} {u : Value} {sz : Nat} {els : List (List Value)} (C : Cur h0 h r vc n (L ++ T)) (hi : L[i]? = some (.own u sz els)) : Sees h u sz els := by
  obtain ⟨a, s, h1, h2, H⟩ := C
  exact H.sees (i + 1) (by rw [List.getElem?_cons_succ, List.getElem?_append_left (List.getElem?_eq_some_iff.1 hi).1]; exact hi)
end
end Go.Pm.PP

/- On time, of both; draws of FnLateRule; what late jobs an order has. -/
set_option linter.unusedVariables false
set_option linter.unusedSimpArgs false
set_option maxRecDepth 4000
set_option maxHeartbeats 16000000
namespace Go.Pm.PP
open Go.Pm Go.Proofs Go.Pm.PE
section
variable {h : Hp} {vj v u : Value} {js : List Job} {xs ys : List Int}
end
/-! ### draws -/
section
variable {h0 h : Hp} {r n : Nat} {vc : Value} {L : List Asn}
theorem Cur.putD {u : Value} {js : List Job} (C : Cur h0 h r vc n (L ++ [.own u 4 (js.map encJ)])) {k : Nat} {y : Job} (hy : js[k]? = some y) (z : Int) : ∃ h', storeP P h t_int (.int .i64 z) (.pointer (some (addP (addP (base u) (k * 4)) 3))) = some h' ∧ Cur h0 h' r vc n (L ++ [.own u 4 ((js.set k { y with d := z }).map encJ)]) := by
  obtain ⟨a, s, h1, h2, H⟩ := C
  obtain ⟨h', g1, g2, _⟩ := fput_J3 H (L.length + 1) (by rw [List.getElem?_cons_succ]; exact snoc_get) hy z
  refine ⟨h', g1, a, s, h1, h2, ?_⟩
  rw [List.set_cons_succ, List.set_append_right (h := Nat.le_refl _), Nat.sub_self] at g2
  exact g2
end
/-! ### in plain terms -/
end Go.Pm.PP

/- Jobs of time 1: sets that are timely are the independent sets of a matroid; greedy sets are largest, and heaviest. -/
set_option linter.unusedVariables false
set_option linter.unusedSimpArgs false
namespace Go.Pm.PE
open Go.Pm.PP
section
variable (d : Int → Int)
def cntU (q : Int) (l : List Int) : Int := ((l.filter fun x => decide (d x ≤ q)).length : Int)
def Ind (l : List Int) : Prop := ∀ x, x ∈ l → cntU d (d x) l ≤ d x
def timU : Int → List Int → Bool
  | _, [] => true
  | now, x :: r => decide (now + 1 ≤ d x) && timU (now + 1) r
end
section
variable {d : Int → Int}
theorem cntU_cons {q x : Int} {l : List Int} : cntU d q (x :: l) = (if d x ≤ q then 1 else 0) + cntU d q l := by
  unfold cntU
  rw [List.filter_cons]
  by_cases c : d x ≤ q
  · rw [if_pos (by simpa using c), if_pos c, List.length_cons]; omega
  · rw [if_neg (by simpa using c), if_neg c]; omega
theorem cntU_nn {q : Int} {l : List Int} : 0 ≤ cntU d q l := by unfold cntU; omega
theorem cntU_perm {q : Int} {l l' : List Int} (h : l.Perm l') : cntU d q l = cntU d q l' := by unfold cntU; rw [(h.filter _).length_eq]
theorem Ind.perm {l l' : List Int} (h : Ind d l) (p : l.Perm l') : Ind d l' := fun x hx => by rw [← cntU_perm p]; exact h x (p.mem_iff.2 hx)
theorem cntU_sub {q : Int} {s l : List Int} (hn : s.Nodup) (h : ∀ x, x ∈ s → x ∈ l) : cntU d q s ≤ cntU d q l := by
  unfold cntU
  have := nd_le (s := s.filter fun x => decide (d x ≤ q)) (l := l.filter fun x => decide (d x ≤ q)) (hn.sublist List.filter_sublist) fun x hx => by
    obtain ⟨h1, h2⟩ := List.mem_filter.1 hx
    exact List.mem_filter.2 ⟨h x h1, h2⟩
  omega
theorem Ind.sub {s l : List Int} (h : Ind d l) (hn : s.Nodup) (hs : ∀ x, x ∈ s → x ∈ l) : Ind d s := fun x hx => Int.le_trans (cntU_sub hn hs) (h x (hs x hx))
theorem timU_iff : ∀ {l : List Int} {now : Int}, (l.Pairwise fun a b => d a ≤ d b) → (timU d now l = true ↔ ∀ x, x ∈ l → now + cntU d (d x) l ≤ d x)
  | [], now, _ => by simp [timU]
  | y :: r, now, h => by
    obtain ⟨h1, h2⟩ := List.pairwise_cons.1 h
    rw [timU, Bool.and_eq_true, decide_eq_true_eq, timU_iff h2]
    constructor
    · rintro ⟨a, b⟩ x hx
      have hle : d y ≤ d x := by
        rcases List.mem_cons.1 hx with rfl | g
        · exact Int.le_refl _
        · exact h1 x g
      rw [cntU_cons, if_pos hle]
      rcases List.mem_cons.1 hx with rfl | g
      · -- the first one
        by_cases z : ∃ u, u ∈ r ∧ d u ≤ d x
        · obtain ⟨u, hu, hd⟩ := z
          have e : d u = d x := Int.le_antisymm hd (h1 u hu)
          have := b u hu
          rw [e] at this
          omega
        · have : cntU d (d x) r = 0 := by
            unfold cntU
            rw [List.filter_eq_nil_iff.2 fun u hu => by simpa using fun g => z ⟨u, hu, g⟩]
            rfl
          omega
      · have := b x g
        omega
    · intro H
      have hy := H y (List.mem_cons_self ..)
      rw [cntU_cons, if_pos (Int.le_refl _)] at hy
      have := @cntU_nn d (d y) r
      refine ⟨by omega, fun x hx => ?_⟩
      have := H x (List.mem_cons_of_mem _ hx)
      rw [cntU_cons, if_pos (h1 x hx)] at this
      omega
/-- No more of an independent set than q have dates up to q. -/
theorem Ind.le {l : List Int} (h : Ind d l) {q : Int} (hq : 0 ≤ q) : cntU d q l ≤ q := by
  have key : ∀ (m : Nat) {l : List Int}, Ind d l → l.length ≤ m → cntU d q l ≤ q := by
    intro m
    induction m with
    | zero =>
      intro l _ hl
      obtain rfl : l = [] := List.length_eq_zero_iff.1 (by omega)
      exact hq
    | succ m ih =>
      intro l hI hl
      -- the greatest date up to q
      by_cases z : ∃ x, x ∈ l ∧ d x ≤ q ∧ ∀ y, y ∈ l → d y ≤ q → d y ≤ d x
      · obtain ⟨x, hx, hd, hmax⟩ := z
        have e : cntU d q l = cntU d (d x) l := by
          unfold cntU
          congr 2
          refine List.filter_congr fun y hy => ?_
          rw [Bool.eq_iff_iff, decide_eq_true_eq, decide_eq_true_eq]
          exact ⟨fun g => hmax y hy g, fun g => by omega⟩
        rw [e]
        have := hI x hx
        omega
      · -- none at all
        have : cntU d q l = 0 := by
          unfold cntU
          have key2 : ∀ {s : List Int}, (∃ x, x ∈ s ∧ d x ≤ q) → ∃ x, x ∈ s ∧ d x ≤ q ∧ ∀ y, y ∈ s → d y ≤ q → d y ≤ d x := by
            intro s
            induction s with
            | nil => rintro ⟨x, hx, _⟩; cases hx
            | cons a s ih2 =>
              rintro ⟨x, hx, hd⟩
              by_cases c : ∃ x, x ∈ s ∧ d x ≤ q
              · obtain ⟨u, hu, hud, hum⟩ := ih2 c
                by_cases c2 : d a ≤ q ∧ d u ≤ d a
                · refine ⟨a, List.mem_cons_self .., c2.1, fun y hy hyq => ?_⟩
                  rcases List.mem_cons.1 hy with rfl | g
                  · exact Int.le_refl _
                  · have := hum y g hyq; omega
                · refine ⟨u, List.mem_cons_of_mem _ hu, hud, fun y hy hyq => ?_⟩
                  rcases List.mem_cons.1 hy with rfl | g
                  · have : ¬ d u ≤ d y := fun k => c2 ⟨hyq, k⟩
                    omega
                  · exact hum y g hyq
              · have ha : d a ≤ q := by
                  rcases List.mem_cons.1 hx with rfl | g
                  · exact hd
                  · exact absurd ⟨x, g, hd⟩ c
                refine ⟨a, List.mem_cons_self .., ha, fun y hy hyq => ?_⟩
                rcases List.mem_cons.1 hy with rfl | g
                · exact Int.le_refl _
                · exact absurd ⟨y, g, hyq⟩ c
          rw [List.filter_eq_nil_iff.2 fun x hx => by
            simp only [decide_eq_true_eq]
            intro g
            exact z (key2 ⟨x, hx, g⟩)]
          rfl
        omega
  exact key l.length h (Nat.le_refl _)
theorem cntU_split {q : Int} {l : List Int} : (l.length : Int) = cntU d q l + ((l.filter fun x => !decide (d x ≤ q)).length : Int) := by
  unfold cntU
  induction l with
  | nil => rfl
  | cons x l ih =>
    by_cases c : d x ≤ q
    · simp only [List.filter_cons, decide_eq_true c, if_true, Bool.not_true, Bool.false_eq_true, if_false, List.length_cons]
      push_cast
      omega
    · simp only [List.filter_cons, decide_eq_false c, Bool.false_eq_true, if_false, Bool.not_false, if_true, List.length_cons]
      push_cast
      omega
/-- The greatest of some. -/
theorem max_of {s : List Int} (h : s ≠ []) : ∃ x, x ∈ s ∧ ∀ y, y ∈ s → d y ≤ d x := by
  induction s with
  | nil => exact absurd rfl h
  | cons a s ih =>
    by_cases c : s = []
    · subst c
      exact ⟨a, List.mem_cons_self .., fun y hy => by rw [List.mem_singleton.1 hy]; exact Int.le_refl _⟩
    · obtain ⟨u, hu, hm⟩ := ih c
      by_cases c2 : d u ≤ d a
      · refine ⟨a, List.mem_cons_self .., fun y hy => ?_⟩
        rcases List.mem_cons.1 hy with rfl | g
        · exact Int.le_refl _
        · have := hm y g; omega
      · refine ⟨u, List.mem_cons_of_mem _ hu, fun y hy => ?_⟩
        rcases List.mem_cons.1 hy with rfl | g
        · omega
        · exact hm y g
/-- A smaller independent set can be made larger out of a greater one. -/
theorem augment (h0 : ∀ x, 0 ≤ d x) {A B : List Int} (hA : Ind d A) (hB : Ind d B) (nA : A.Nodup) (nB : B.Nodup) (hl : A.length < B.length) : ∃ x, x ∈ B ∧ x ∉ A ∧ Ind d (x :: A) := by
  have hne : (B.filter fun x => !decide (x ∈ A)) ≠ [] := fun e => by
    have : ∀ x, x ∈ B → x ∈ A := fun x hx => by
      refine Classical.byContradiction fun g => ?_
      have : x ∈ B.filter fun x => !decide (x ∈ A) := List.mem_filter.2 ⟨hx, by simpa using g⟩
      rw [e] at this; cases this
    have := nd_le nB this
    omega
  obtain ⟨x, hx, hmax⟩ := max_of (d := d) hne
  obtain ⟨hxB, hxA⟩ := List.mem_filter.1 hx
  have hxA : x ∉ A := by simpa using hxA
  refine ⟨x, hxB, hxA, fun y hy => ?_⟩
  refine Classical.byContradiction fun g => ?_
  have key : ∀ q, d x ≤ q → q ≤ cntU d q A → False := fun q hq hc => by
    have h1 := hB.le (q := q) (by have := h0 x; omega)
    have h2 := @cntU_split d q B
    have h3 := @cntU_split d q A
    have h4 := nd_le (s := B.filter fun x => !decide (d x ≤ q)) (l := A.filter fun x => !decide (d x ≤ q)) (nB.sublist List.filter_sublist) fun z hz => by
      obtain ⟨z1, z2⟩ := List.mem_filter.1 hz
      refine List.mem_filter.2 ⟨Classical.byContradiction fun k => ?_, z2⟩
      have := hmax z (List.mem_filter.2 ⟨z1, by simpa using k⟩)
      have z2 : ¬ d z ≤ q := by simpa using z2
      omega
    omega
  rw [cntU_cons] at g
  rcases List.mem_cons.1 hy with rfl | hyA
  · rw [if_pos (Int.le_refl _)] at g
    exact key (d y) (Int.le_refl _) (by omega)
  · have := hA y hyA
    by_cases c : d x ≤ d y
    · rw [if_pos c] at g
      exact key (d y) c (by omega)
    · rw [if_neg c] at g
      omega
end
/-! ### taking greedily -/
section
variable (P : List Int → Bool)
/-- One more, if the set stays good. -/
def gS (T : List Int) (x : Int) : List Int := if P (putI T x) = true then putI T x else T
def gG (O : List Int) : List Int := O.foldl (gS P) []
end
section
variable {d w : Int → Int} {P : List Int → Bool}
theorem putI_mem' {l : List Int} {x y : Int} : y ∈ putI l x ↔ y = x ∨ y ∈ l := by
  unfold putI
  split
  · rename_i g
    obtain ⟨z, hz, e⟩ := List.any_eq_true.1 g
    rw [beq_iff_eq] at e
    constructor
    · exact .inr
    · rintro (g | g)
      · rw [g, ← e]; exact hz
      · exact g
  · rw [insF_perm.mem_iff, List.mem_cons]
theorem putI_asc {l : List Int} {x : Int} (h : l.Pairwise (· < ·)) : (putI l x).Pairwise (· < ·) := by
  unfold putI
  split
  · exact h
  · rename_i g
    refine insF_sorted (R := fun a b => a < b) h (fun y hy hp => by simpa using hp) (fun y hy hp => ?_) fun y z hy hz hr hp => ?_
    · have h1 : ¬ y < x := by simpa using hp
      have h2 : y ≠ x := fun e => g (List.any_eq_true.2 ⟨y, hy, by simpa using e⟩)
      omega
    · have h1 : ¬ y < x := by simpa using hp
      have : ¬ z < x := by omega
      simpa using this
theorem putI_new {l : List Int} {x : Int} (h : x ∉ l) : (putI l x).Perm (x :: l) := by
  unfold putI
  split
  · rename_i g
    obtain ⟨z, hz, e⟩ := List.any_eq_true.1 g
    rw [beq_iff_eq] at e
    exact absurd (e ▸ hz) h
  · exact insF_perm
/-- What is good: the sets that are independent. -/
structure GoodUJ (d : Int → Int) (P : List Int → Bool) (U : List Int) : Prop where
  iff : ∀ l : List Int, l.Pairwise (· < ·) → (∀ x, x ∈ l → x ∈ U) → (P l = true ↔ Ind d l)
  d0 : ∀ x, 0 ≤ d x
/-- What holds behind some jobs R of greedy taking. -/
structure GI2 (d w : Int → Int) (U R T : List Int) : Prop where
  asc : T.Pairwise (· < ·)
  sub : ∀ x, x ∈ T → x ∈ R
  ind : Ind d T
  max : ∀ x, x ∈ R → x ∉ T → ¬ Ind d (x :: T)
  wt : ∀ c, (∀ x, x ∈ R → c ≤ w x) → ∀ B : List Int, B.Nodup → (∀ x, x ∈ B → x ∈ R) → Ind d B → tsm w B + c * ((T.length : Int) - B.length) ≤ tsm w T
theorem nd_asc {l : List Int} (h : l.Pairwise (· < ·)) : l.Nodup := h.imp fun h => by omega
theorem GI2.most {U R T : List Int} (I : GI2 d w U R T) (h0 : ∀ x, 0 ≤ d x) {B : List Int} (hn : B.Nodup) (hB : ∀ x, x ∈ B → x ∈ R) (hi : Ind d B) : B.length ≤ T.length := by
  refine Nat.not_lt.1 fun g => ?_
  obtain ⟨x, hx, hxT, hI⟩ := augment h0 I.ind hi (nd_asc I.asc) hn g
  exact I.max x (hB x hx) hxT hI
theorem GI2.nil {U : List Int} : GI2 d w U [] [] := ⟨List.Pairwise.nil, fun x h => h, fun x h => (by cases h), fun x h => (by cases h), fun c _ B hn hB _ => by
  have : B = [] := by
    cases B with
    | nil => rfl
    | cons x B => exact absurd (hB x (List.mem_cons_self ..)) (by simp)
  subst this
  simp [tsm]⟩
theorem GI2.step {U R T : List Int} {x : Int} (G : GoodUJ d P U) (I : GI2 d w U R T) (hR : ∀ y, y ∈ R → y ∈ U) (hx : x ∈ U) (hxR : x ∉ R) (hw : ∀ y, y ∈ R → w x ≤ w y) : GI2 d w U (R ++ [x]) (gS P T x) := by
  have hxT : x ∉ T := fun g => hxR (I.sub x g)
  have hpu := putI_new hxT
  have hpa := putI_asc (x := x) I.asc
  have hPi : P (putI T x) = true ↔ Ind d (x :: T) := by
    rw [G.iff _ hpa fun y hy => by
      rcases putI_mem'.1 hy with rfl | g
      · exact hx
      · exact hR y (I.sub y g)]
    exact ⟨fun h => h.perm hpu, fun h => h.perm hpu.symm⟩
  have hT := nd_asc I.asc
  -- what is known of a set without x
  have base : ∀ c, (∀ y, y ∈ R ++ [x] → c ≤ w y) → ∀ B : List Int, B.Nodup → (∀ y, y ∈ B → y ∈ R) → Ind d B → 0 ≤ (T.length : Int) - B.length ∧ tsm w B + w x * ((T.length : Int) - B.length) ≤ tsm w T ∧ c * ((T.length : Int) - B.length) ≤ w x * ((T.length : Int) - B.length) ∧ c ≤ w x := fun c hc B hn hB hi => by
    have h1 := I.most G.d0 hn hB hi
    have h2 := I.wt (w x) hw B hn hB hi
    have h3 := hc x (by simp)
    exact ⟨by omega, h2, Int.mul_le_mul_of_nonneg_right h3 (by omega), h3⟩
  have cut : ∀ B : List Int, B.Nodup → (∀ y, y ∈ B → y ∈ R ++ [x]) → (x ∉ B ∧ ∀ y, y ∈ B → y ∈ R) ∨ ∃ B', B.Perm (x :: B') ∧ B'.Nodup ∧ ∀ y, y ∈ B' → y ∈ R := fun B hn hB => by
    by_cases g : x ∈ B
    · right
      have hp := List.perm_cons_erase g
      have hn2 := List.nodup_cons.1 (hp.nodup_iff.1 hn)
      refine ⟨B.erase x, hp, hn2.2, fun y hy => ?_⟩
      rcases List.mem_append.1 (hB y (hp.mem_iff.2 (List.mem_cons_of_mem _ hy))) with k | k
      · exact k
      · exact absurd (List.mem_singleton.1 k ▸ hy) hn2.1
    · left
      refine ⟨g, fun y hy => ?_⟩
      rcases List.mem_append.1 (hB y hy) with k | k
      · exact k
      · exact absurd (List.mem_singleton.1 k ▸ hy) g
  by_cases hP : P (putI T x) = true
  · have e : gS P T x = putI T x := if_pos hP
    have hi := hPi.1 hP
    rw [e]
    have hl : (putI T x).length = T.length + 1 := by rw [hpu.length_eq]; rfl
    refine ⟨hpa, fun y hy => ?_, hi.perm hpu.symm, fun y hy hyT => ?_, fun c hc B hn hB hBi => ?_⟩
    · rcases putI_mem'.1 hy with rfl | g
      · exact List.mem_append_right _ (List.mem_singleton.2 rfl)
      · exact List.mem_append_left _ (I.sub y g)
    · have hyx : y ≠ x := fun k => hyT (putI_mem'.2 (.inl k))
      have hyT' : y ∉ T := fun k => hyT (putI_mem'.2 (.inr k))
      have hyR : y ∈ R := by
        rcases List.mem_append.1 hy with k | k
        · exact k
        · exact absurd (List.mem_singleton.1 k) hyx
      intro k
      refine I.max y hyR hyT' (k.sub (List.nodup_cons.2 ⟨hyT', hT⟩) fun z hz => ?_)
      rcases List.mem_cons.1 hz with rfl | g
      · exact List.mem_cons_self ..
      · exact List.mem_cons_of_mem _ (putI_mem'.2 (.inr g))
    · rw [tsm_perm hpu, tsm_cons, hl]
      rcases cut B hn hB with ⟨g, hBR⟩ | ⟨B', hp, hn', hBR⟩
      · obtain ⟨a, b, c', c''⟩ := base c hc B hn hBR hBi
        have e2 : c * (((T.length + 1 : Nat) : Int) - B.length) = c * ((T.length : Int) - B.length) + c := by
          rw [show ((T.length + 1 : Nat) : Int) - B.length = ((T.length : Int) - B.length) + 1 by omega, Int.mul_add, Int.mul_one]
        rw [e2]
        omega
      · have hBi' : Ind d B' := (hBi.perm hp).sub hn' fun y hy => List.mem_cons_of_mem _ hy
        obtain ⟨a, b, c', c''⟩ := base c hc B' hn' hBR hBi'
        have hBl : B.length = B'.length + 1 := by rw [hp.length_eq]; rfl
        rw [tsm_perm hp, tsm_cons, hBl, show ((T.length + 1 : Nat) : Int) - ((B'.length + 1 : Nat) : Int) = (T.length : Int) - B'.length by omega]
        omega
  · have e : gS P T x = T := if_neg hP
    have hi : ¬ Ind d (x :: T) := fun g => hP (hPi.2 g)
    rw [e]
    have mx : ∀ y, y ∈ R ++ [x] → y ∉ T → ¬ Ind d (y :: T) := fun y hy hyT => by
      rcases List.mem_append.1 hy with k | k
      · exact I.max y k hyT
      · rw [List.mem_singleton.1 k]; exact hi
    refine ⟨I.asc, fun y hy => List.mem_append_left _ (I.sub y hy), I.ind, mx, fun c hc B hn hB hBi => ?_⟩
    rcases cut B hn hB with ⟨g, hBR⟩ | ⟨B', hp, hn', hBR⟩
    · obtain ⟨a, b, c', c''⟩ := base c hc B hn hBR hBi
      omega
    · have hBi' : Ind d B' := (hBi.perm hp).sub hn' fun y hy => List.mem_cons_of_mem _ hy
      obtain ⟨a, b, c', c''⟩ := base c hc B' hn' hBR hBi'
      have hBl : B.length = B'.length + 1 := by rw [hp.length_eq]; rfl
      -- B is no larger than T
      have hle : B.length ≤ T.length := by
        refine Nat.not_lt.1 fun g => ?_
        obtain ⟨z, hz, hzT, hI⟩ := augment G.d0 I.ind hBi hT hn g
        exact mx z (hB z hz) hzT hI
      have e2 : ∀ u : Int, u * ((T.length : Int) - ((B'.length + 1 : Nat) : Int)) = u * ((T.length : Int) - B'.length) - u := fun u => by
        rw [show (T.length : Int) - ((B'.length + 1 : Nat) : Int) = ((T.length : Int) - B'.length) - 1 by omega, Int.mul_sub, Int.mul_one]
      have h5 : c * ((T.length : Int) - ((B'.length + 1 : Nat) : Int)) ≤ w x * ((T.length : Int) - ((B'.length + 1 : Nat) : Int)) := Int.mul_le_mul_of_nonneg_right c'' (by omega)
      rw [tsm_perm hp, tsm_cons, hBl]
      have h6 := e2 (w x)
      omega
theorem gG_inv {U : List Int} (G : GoodUJ d P U) : ∀ {O R T : List Int}, GI2 d w U R T → (∀ y, y ∈ R → y ∈ U) → (∀ y, y ∈ O → y ∈ U) → (R ++ O).Nodup → ((R ++ O).Pairwise fun a b => w b ≤ w a) → GI2 d w U (R ++ O) (O.foldl (gS P) T)
  | [], R, T, I, _, _, _, _ => by rw [List.append_nil]; exact I
  | x :: O, R, T, I, hR, hO, hn, hw => by
    have e : R ++ x :: O = (R ++ [x]) ++ O := by simp
    rw [List.foldl_cons, e]
    have hn2 := List.nodup_append.1 hn
    refine gG_inv G (I.step G hR (hO x (List.mem_cons_self ..)) (fun g => hn2.2.2 x g x (List.mem_cons_self ..) rfl) fun y hy => (List.pairwise_append.1 hw).2.2 y hy x (List.mem_cons_self ..)) (fun y hy => ?_) (fun y hy => hO y (List.mem_cons_of_mem _ hy)) (e ▸ hn) (e ▸ hw)
    rcases List.mem_append.1 hy with g | g
    · exact hR y g
    · rw [List.mem_singleton.1 g]; exact hO x (List.mem_cons_self ..)
theorem gG_all {U : List Int} (G : GoodUJ d P U) {O : List Int} (hO : ∀ y, y ∈ O → y ∈ U) (hn : O.Nodup) (hw : O.Pairwise fun a b => w b ≤ w a) : GI2 d w U O (gG P O) := by
  have := gG_inv (w := w) G (R := []) (T := []) (O := O) GI2.nil (fun y h => by cases h) hO hn hw
  rwa [List.nil_append] at this
/-- The heaviest. -/
theorem GI2.heavy {U R T : List Int} (I : GI2 d w U R T) (h0 : ∀ x, 0 ≤ d x) (hw : ∀ x, 0 ≤ w x) {B : List Int} (hn : B.Nodup) (hB : ∀ x, x ∈ B → x ∈ R) (hi : Ind d B) : tsm w B ≤ tsm w T := by
  have := I.wt 0 (fun x _ => hw x) B hn hB hi
  rw [Int.zero_mul] at this
  omega
end
end Go.Pm.PE

/- Unit jobs: guards of both; putting a number to its place; greedy sets by both. -/
set_option linter.unusedVariables false
set_option linter.unusedSimpArgs false
set_option maxRecDepth 4000
set_option maxHeartbeats 16000000
namespace Go.Pm.PP
open Go.Pm Go.Proofs Go.Pm.PE
def oneL (js : List Job) : Bool := js.all fun j => j.t == 1
def uOk (js : List Job) : Bool := oneL js && plOk js
theorem uOk_of {js : List Job} (h : uOk js = true) : plOk js = true ∧ ∀ x : Int, 0 ≤ x → x < js.length → (jA js x).t = 1 := by
  rw [uOk, Bool.and_eq_true] at h
  refine ⟨h.2, fun x h0 h1 => ?_⟩
  obtain ⟨k, hk, hkl, hy⟩ := jA_get (js := js) rfl ⟨h0, h1⟩
  have := List.all_eq_true.1 h.1 _ (List.mem_of_getElem? hy)
  simpa using this
theorem dj_nn {js : List Job} (hg : goodL js = true) (x : Int) : 0 ≤ dJ js x := by
  unfold dJ
  by_cases h : 0 ≤ x ∧ x < js.length
  · have k := jobOk_jA hg h
    simp only [jobOk, inB, Bool.and_eq_true, decide_eq_true_eq] at k
    omega
  · have e : jA js x = ⟨0, 0, 0, 0⟩ ∨ ∃ i, x.toNat = i ∧ ∃ y, js[i]? = some y ∧ jA js x = y := by
      unfold jA
      cases hx : js[x.toNat]? with
      | none => left; rfl
      | some y => right; exact ⟨_, rfl, y, hx, rfl⟩
    rcases e with e | ⟨i, hi, y, hy, e⟩
    · rw [e]; simp
    · rw [e]
      have k := job_at hg hy
      simp only [jobOk, inB, Bool.and_eq_true, decide_eq_true_eq] at k
      omega
theorem tim_unit {js : List Job} (hu : uOk js = true) : ∀ {l : List Int} {now : Int}, inN js.length l → timGo js now l = timU (dJ js) now l
  | [], _, _ => rfl
  | x :: r, now, h => by
    have hx := h x (List.mem_cons_self ..)
    have e := (uOk_of hu).2 x hx.1 hx.2
    rw [timGo, timU, e, tim_unit hu fun y hy => h y (List.mem_cons_of_mem _ hy)]
    rfl
theorem tim_ind {js : List Job} (hu : uOk js = true) {l : List Int} (hin : inN js.length l) : timB js l = true ↔ Ind (dJ js) l := by
  have hin2 : inN js.length (dueL js l) := fun x hx => hin x (dueL_perm.mem_iff.1 hx)
  unfold timB
  rw [tim_unit hu hin2, timU_iff (d := dJ js) (show (dueL js l).Pairwise fun a b => dJ js a ≤ dJ js b from dueL_d)]
  simp only [Int.zero_add]
  exact ⟨fun h => Ind.perm h dueL_perm, fun h => Ind.perm h dueL_perm.symm⟩
theorem unit_good {js : List Job} (hu : uOk js = true) : GoodUJ (dJ js) (timB js) (upTo js.length) :=
  ⟨fun l _ hl => tim_ind hu fun x hx => mem_upTo.1 (hl x hx), dj_nn (plOk_of (uOk_of hu).1).2.1⟩
section
variable {h : Hp} {vj v u : Value} {js : List Job} {xs ys : List Int}
theorem areUnit_run (J : Jobs h vj js) (hl : js.length ≤ 2 ^ 40) : Ret P G n_impl_areUnit [vj] h (.bool (uOk js)) h := by
  refine enter_run e_impl_areUnit (by simp) ?_
  have r1 := IsPlain_run J hl
  have Js := J
  obtain ⟨oj, cj, rfl⟩ := J.shapeT
  cases c1 : plOk js
  · rw [c1] at r1
    simp -implicitDefEqProofs [CL_ret r1, uOk, c1]
  rw [c1] at r1
  have e : uOk js = oneL js := by rw [uOk, c1, Bool.and_true]
  rw [e]
  simp -implicitDefEqProofs [CL_ret r1]
  refine R_loopO (fun m s h' => ∃ (i : Nat), i + m = js.length ∧ s = [(8, .slice oj js.length cj), (9, .int .i64 js.length), (10, .int .i64 i)] ∧ oneL js = oneL (js.drop i) ∧ h <+: h') (fun I hI m s h' => ?_) (n := js.length) ⟨0, Nat.zero_add _, by simp, rfl, List.prefix_rfl⟩
  rintro ⟨i, hi, rfl, hx, hp⟩
  by_cases hlt : i < js.length
  · have hlt' : (i : Int) < js.length := by omega
    obtain ⟨y, hy, hd⟩ := drop_at hlt
    have lj := load_J (Js.pre hp) hy
    have eo : oneL (js.drop i) = ((y.t == 1) && oneL (js.drop (i + 1))) := by rw [hd]; rfl
    rw [eo] at hx
    have HB := (Holds.start (h := h')).alloc [.int .i64 y.t, .int .i64 y.w, .int .i64 y.r, .int .i64 y.d]
    by_cases c : y.t = 1
    · have c' : (y.t == 1) = true := by simpa using c
      rw [c', Bool.true_and] at hx
      simp -implicitDefEqProofs [-indexAddrP_some, hlt, hlt', lj, c, winc hlt (by omega)]
      exact ⟨m - 1, by omega, on hI ⟨i + 1, by omega, by simp, hx, hp.trans (List.prefix_append ..)⟩⟩
    · rw [nb c, Bool.false_and] at hx
      simp -implicitDefEqProofs [-indexAddrP_some, hlt, hlt', lj, nb c, nt c]
      rw [hx]
      exact ⟨rfl, gcB (hp.trans (List.prefix_append ..))⟩
  · have hlt' : ¬ (i : Int) < js.length := by omega
    rw [List.drop_eq_nil_of_le (by omega)] at hx
    have hx : oneL js = true := hx
    simp -implicitDefEqProofs [hlt, hlt', hx]
    exact gcB hp
theorem l10Unit_run (J : Jobs h vj js) (hl : js.length ≤ 2 ^ 40) : Ret P G n_spec_l10Unit [vj] h (.bool (uOk js)) h := by
  refine enter_run e_spec_l10Unit (by simp) ?_
  have r1 := l6Good_run J hl
  have Js := J
  obtain ⟨oj, cj, rfl⟩ := J.shapeT
  simp -implicitDefEqProofs
  refine R_loopO (fun m s h' => ∃ (i : Nat), i + m = js.length ∧ s = [(0, .slice oj js.length cj), (3, .int .i64 i)] ∧ oneL js = oneL (js.drop i) ∧ h' = h) (fun I hI m s h' => ?_) (n := js.length) ⟨0, Nat.zero_add _, by simp, rfl, rfl⟩
  rintro ⟨i, hi, rfl, hx, rfl⟩
  by_cases hlt : i < js.length
  · have hlt' : (i : Int) < js.length := by omega
    obtain ⟨y, hy, hd⟩ := drop_at hlt
    have lj := load_J Js hy
    have eo : oneL (js.drop i) = ((y.t == 1) && oneL (js.drop (i + 1))) := by rw [hd]; rfl
    rw [eo] at hx
    by_cases c : y.t = 1
    · have c' : (y.t == 1) = true := by simpa using c
      rw [c', Bool.true_and] at hx
      simp -implicitDefEqProofs [-indexAddrP_some, hlt, hlt', lj, c, winc hlt (by omega)]
      exact ⟨m - 1, by omega, on hI ⟨i + 1, by omega, by simp, hx, rfl⟩⟩
    · rw [nb c, Bool.false_and] at hx
      have : uOk js = false := by rw [uOk, hx]; rfl
      simp -implicitDefEqProofs [-indexAddrP_some, hlt, hlt', lj, nb c, nt c, this]
  · have hlt' : ¬ (i : Int) < js.length := by omega
    rw [List.drop_eq_nil_of_le (by omega)] at hx
    have hx : oneL js = true := hx
    have : uOk js = plOk js := by rw [uOk, hx, Bool.true_and]
    simp -implicitDefEqProofs [hlt, hlt', CL_ret r1, this]
theorem putI_ne {l : List Int} {x : Int} : putI l x ≠ [] := fun e => by
  have : x ∈ putI l x := putI_mem.2 (.inl rfl)
  rw [e] at this; cases this
theorem putInt_run {h0 : Hp} {x : Int} (H0 : Holds h0 h [.own v 1 (xs.map encI)]) (hn : xs.length ≤ 2 ^ 20) (hs : xs.Pairwise (· < ·)) : RunsC P G n_impl_putInt [v, .int .i64 x] h fun w h' => Holds h0 h' [.own w 1 ((putI xs x).map encI)] := by
  refine hideC fun K hK => enter_run e_impl_putInt (by simp) ?_
  have Hs : Ints h v xs := H0.sees 0 rfl
  obtain ⟨oa, c, rfl⟩ := Hs.shapeT
  have fin : ∀ {w : Value} {h9 : Hp}, Holds h0 h9 [.own w 1 ((putI xs x).map encI)] → K w (gc h h9 w) := fun {w h9} H9 => by
    rcases gc_cases h h9 w with g | ⟨hp, g⟩
    · rw [g]; exact onK hK H9
    · exfalso
      obtain ⟨wa, wc, rfl⟩ := (H9.own 0 rfl).shape
      have hp' : plainC (.slice wa _ wc) = true := hp
      have := (own_bare (H9.own 0 rfl) hp').2
      rw [List.map_eq_nil_iff] at this
      exact putI_ne this
  simp -implicitDefEqProofs
  refine R_loopO (fun m s h' => m ≤ xs.length ∧ s = [(0, .slice oa xs.length c), (1, .int .i64 x), (5, .int .i64 m)] ∧ h' = h ∧ ∀ i y, m ≤ i → xs[i]? = some y → x < y) (fun I hI m s h' => ?_) (n := xs.length) ⟨Nat.le_refl _, by simp, rfl, fun i y hi hy => by have := (List.getElem?_eq_some_iff.1 hy).1; omega⟩
  rintro ⟨hm, rfl, rfl, hall⟩
  -- what is put behind what is not greater
  have put : (∀ y, 0 < m → xs[m - 1]? = some y → y < x) → ∃ v2 h3 dv mv nn h4 h5, appendP P (h' ++ [some ⟨[.int .i64 0], 1, false⟩]) t_S_int (.slice oa xs.length c) (.slice (some ⟨h'.length, 0, some 1⟩) 1 1) = some (v2, h3) ∧
      sliceP P h3 t_S_int v2 (some (.int .i64 ((m : Int) + 1))) none = some dv ∧ sliceP P h3 t_S_int v2 (some (.int .i64 m)) none = some mv ∧ copyP P h3 t_S_int dv mv = some (.int .i64 nn, h4) ∧
      indexAddrP P h4 t_S_int v2 (.int .i64 m) = some (.pointer (some (addP (base v2) m))) ∧ storeP P h4 t_int (.int .i64 x) (.pointer (some (addP (base v2) m))) = some h5 ∧ K v2 (gc h' h5 v2) := fun hk => by
    obtain ⟨v2, h3, ha, H3, k3, _⟩ := push_I0 H0 0 rfl (0 : Int) (by omega)
    obtain ⟨dv, mv, nn, h4, s1, s2, s3, H4, k4⟩ := H3.shift (P := P) 0 rfl (k := m) u_S_int i_int (ones_I _) (by simp; omega)
    have e1 : (((xs ++ [0]).map encI).take (m + 1) ++ (((xs ++ [0]).map encI).drop m).take (((xs ++ [0]).map encI).length - (m + 1))) = ((xs ++ [0]).take (m + 1) ++ ((xs ++ [0]).drop m).take ((xs ++ [0]).length - (m + 1))).map encI := by
      generalize xs ++ [0] = ws
      rw [List.map_append, List.map_take, List.map_take, List.map_drop, List.length_map]
    rw [e1] at H4
    have hlen : ((xs ++ [0]).take (m + 1) ++ ((xs ++ [0]).drop m).take ((xs ++ [0]).length - (m + 1))).length = xs.length + 1 := by simp; omega
    obtain ⟨h5, s5, H5, k5⟩ := put_I H4 0 rfl (j := m) (by rw [hlen]; omega) x
    rw [shift_set hm] at H5
    obtain ⟨z, hz, _⟩ := drop_at (show m < ((xs ++ [0]).take (m + 1) ++ ((xs ++ [0]).drop m).take ((xs ++ [0]).length - (m + 1))).length by rw [hlen]; omega)
    have ix := (load_I (H4.sees 0 rfl) hz).1
    have low : ∀ i y, i < m → xs[i]? = some y → y < x := fun i y hi hy => by
      obtain ⟨z, hz, _⟩ := drop_at (show m - 1 < xs.length by omega)
      have h1 := hk z (by omega) hz
      rcases Nat.lt_or_ge i (m - 1) with g | g
      · have := List.pairwise_iff_getElem.1 hs i (m - 1) (List.getElem?_eq_some_iff.1 hy).1 (List.getElem?_eq_some_iff.1 hz).1 g
        rw [(List.getElem?_eq_some_iff.1 hy).2, (List.getElem?_eq_some_iff.1 hz).2] at this
        omega
      · have : i = m - 1 := by omega
        subst this
        rw [hz] at hy; cases hy; exact h1
    have e : putI xs x = xs.take m ++ x :: xs.drop m := by
      have hn : xs.any (· == x) = false := by
        rw [List.any_eq_false]
        intro z hz
        obtain ⟨j, hj⟩ := List.getElem?_of_mem hz
        rcases Nat.lt_or_ge j m with q | q
        · have := low j z q hj; simp; omega
        · have := hall j z q hj; simp; omega
      unfold putI
      rw [hn, if_neg (by simp)]
      exact insF_take hm (fun i z h1 h2 => by simpa using low i z h1 h2) (fun z hz => by have := hall m z (Nat.le_refl _) hz; simp; omega)
    refine ⟨v2, h3, dv, mv, nn, h4, h5, ha, s1, s2, s3, ix, s5, fin (by rw [e]; exact H5)⟩
  have wm : IntKind.i64.wrap ((m : Int) + 1) = (m : Int) + 1 := by rw [wrap_ok] <;> omega
  by_cases h0 : 0 < m
  · have h0' : (0 : Int) < m := by omega
    obtain ⟨z, hz, _⟩ := drop_at (show m - 1 < xs.length by omega)
    have w1 : IntKind.i64.wrap ((m : Int) - 1) = ((m - 1 : Nat) : Int) := by rw [wrap_ok] <;> omega
    have lz := load_I Hs hz
    by_cases c1 : x < z
    · simp -implicitDefEqProofs [-indexAddrP_some, h0, h0', w1, lz, c1]
      exact ⟨m - 1, by omega, on hI ⟨by omega, rfl, rfl, fun i y hi hy => by
        rcases Nat.lt_or_ge i m with g | g
        · have : i = m - 1 := by omega
          subst this
          rw [hz] at hy; cases hy; exact c1
        · exact hall i y g hy⟩⟩
    · by_cases c2 : z = x
      · have c2' : (z == x) = true := by simpa using c2
        have e : putI xs x = xs := by
          unfold putI
          rw [if_pos (List.any_eq_true.2 ⟨z, List.mem_of_getElem? hz, by simpa using c2⟩)]
        simp -implicitDefEqProofs [-indexAddrP_some, h0, h0', w1, lz, c1, c2]
        have := fin (w := .slice oa xs.length c) (h9 := h') (by rw [e]; exact H0)
        rw [gc_self] at this
        exact this
      · obtain ⟨v2, h3, dv, mv, nn, h4, h5, ha, s1, s2, s3, ix, s5, fK⟩ := put fun y _ hy => by rw [hz] at hy; cases hy; omega
        simp -implicitDefEqProofs [-indexAddrP_some, h0, h0', w1, lz, c1, nb c2, ha, wm, s1, s2, s3, ix, s5]
        exact fK
  · have h0' : ¬ (0 : Int) < m := by omega
    obtain ⟨v2, h3, dv, mv, nn, h4, h5, ha, s1, s2, s3, ix, s5, fK⟩ := put fun y g _ => absurd g h0
    simp -implicitDefEqProofs [-indexAddrP_some, h0, h0', ha, wm, s1, s2, s3, ix, s5]
    exact fK
end
end Go.Pm.PP
