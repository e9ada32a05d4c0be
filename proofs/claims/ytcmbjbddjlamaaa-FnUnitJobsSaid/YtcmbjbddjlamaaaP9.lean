/- The texts PvUb, PvUc, PvUd, PvUe, PvUf, PvUg of this work: Greedy sets of unit jobs, of both. -/
import Derived.Test.YtcmbjbddjlamaaaP8
/- Greedy sets of unit jobs, of both. -/
set_option linter.unusedVariables false
set_option linter.unusedSimpArgs false
set_option maxRecDepth 4000
set_option maxHeartbeats 16000000
namespace Go.Pm.PP
open Go.Pm Go.Proofs Go.Pm.PE
def wAh (js : List Job) (a b : Int) : Bool := decide ((jA js b).w < (jA js a).w)
theorem wAh_weak {js : List Job} : Weak (wAh js) := ⟨fun h => by simp [wAh] at h ⊢; omega, fun h1 h2 => by simp [wAh] at h1 h2 ⊢; omega⟩
def wOrd (js : List Job) : List Int := sortB (wAh js) (upTo js.length)
theorem wOrd_perm {js : List Job} : (wOrd js).Perm (upTo js.length) := sortB_perm
theorem wOrd_in {js : List Job} : inN js.length (wOrd js) := fun x hx => mem_upTo.1 (wOrd_perm.mem_iff.1 hx)
theorem wOrd_nd {js : List Job} : (wOrd js).Nodup := wOrd_perm.nodup_iff.2 (upTo_nodup _)
theorem wOrd_w {js : List Job} : (wOrd js).Pairwise fun a b => wJ js b ≤ wJ js a := (sortB_weak wAh_weak).imp fun h => by simpa [wAh, wJ] using h
def ugR (js : List Job) : List Int := if uOk js = true then gG (timB js) (wOrd js) else []
theorem gS_mem {P : List Int → Bool} {T : List Int} {x y : Int} (h : y ∈ gS P T x) : y = x ∨ y ∈ T := by
  unfold gS at h
  split at h
  · exact putI_mem.1 h
  · exact .inr h
theorem gS_asc {P : List Int → Bool} {T : List Int} {x : Int} (h : T.Pairwise (· < ·)) : (gS P T x).Pairwise (· < ·) := by
  unfold gS
  split
  · exact putI_srt h
  · exact h
theorem gF_ok {P : List Int → Bool} : ∀ {O T : List Int}, T.Pairwise (· < ·) → (O.foldl (gS P) T).Pairwise (· < ·) ∧ ∀ y, y ∈ O.foldl (gS P) T → y ∈ T ∨ y ∈ O
  | [], T, h => ⟨h, fun y hy => .inl hy⟩
  | x :: O, T, h => by
    obtain ⟨h1, h2⟩ := gF_ok (P := P) (O := O) (T := gS P T x) (gS_asc h)
    refine ⟨h1, fun y hy => ?_⟩
    rcases h2 y hy with g | g
    · rcases gS_mem g with rfl | k
      · exact .inr (List.mem_cons_self ..)
      · exact .inl k
    · exact .inr (List.mem_cons_of_mem _ g)
theorem asc_len {n : Nat} {l : List Int} (h : l.Pairwise (· < ·)) (hin : inN n l) : l.length ≤ n := nodup_len (h.imp fun h => by omega) hin
theorem gTake {P : List Int → Bool} {O T : List Int} {i : Nat} {x : Int} (hx : O[i]? = some x) : (O.take (i + 1)).foldl (gS P) T = gS P ((O.take i).foldl (gS P) T) x := by
  rw [take_succ' hx, List.foldl_append]; rfl
section
variable {h : Hp} {vj v u : Value} {js : List Job} {xs ys : List Int}
theorem greedy_1_run {a b : Int} {r : Nat} (J : Jobs h vj js) (hb : h[r]? = some (some ⟨[vj], 0, false⟩)) (ha : 0 ≤ a ∧ a < js.length) (hb' : 0 ≤ b ∧ b < js.length) : Ret P G n_impl_UnitGreedy_1 [.int .i64 a, .int .i64 b, .pointer (some ⟨r, 0, some 1⟩)] h (.bool (wAh js a b)) h := by
  refine enter_run e_impl_UnitGreedy_1 (by simp) ?_
  have lb := load_pre (List.prefix_rfl : h <+: h) hb (n := 1) rfl
  have la := load_JX J ha
  have lc := load_JX J hb'
  obtain ⟨oj, cj, rfl⟩ := J.shapeT
  unfold wAh
  simp -implicitDefEqProofs [-indexAddrP_some, lb, la, lc]
theorem implUnitGreedy_run (J : Jobs h vj js) (hl : js.length ≤ 2 ^ 40) : RunsC P G n_impl_UnitGreedy [vj] h fun w h' => h <+: h' ∧ ∃ d, w = .tuple #[d, .bool (uOk js)] ∧ Ints h' d (ugR js) := by
  refine hideC fun K hK => enter_run e_impl_UnitGreedy (by simp) ?_
  have Js := J
  obtain ⟨oj, cj, rfl⟩ := J.shapeT
  have H0 := (Holds.start (h := h)).alloc [.slice oj js.length cj]
  have pB : h <+: h ++ [some ⟨[.slice oj js.length cj], 0, false⟩] := List.prefix_append ..
  have hbx : (h ++ [some ⟨[Value.slice oj js.length cj], 0, false⟩])[h.length]? = some (some ⟨[.slice oj js.length cj], 0, false⟩) := H0.box 0 rfl
  have r1 := areUnit_run (Js.pre pB) hl
  have lb := load_pre (List.prefix_rfl) hbx (n := 1) rfl
  cases c1 : uOk js
  · rw [c1] at r1
    rw [ugR, c1] at hK
    simp -implicitDefEqProofs [lb, CL_ret r1]
    exact onK hK ⟨pre_gcU pB, _, rfl, nil_L⟩
  rw [c1] at r1
  rw [ugR, c1, if_pos rfl] at hK
  obtain ⟨hok, _⟩ := uOk_of c1
  obtain ⟨hn, hg, _⟩ := plOk_of hok
  simp -implicitDefEqProofs [lb, CL_ret r1]
  refine CL_post (numbersTo_run (n := js.length) (by omega)) fun vn h2 ⟨hp2, o2⟩ => ?_
  have S2 : Ints h2 vn (upTo js.length) := o2.sees
  simp -implicitDefEqProofs
  refine CL_post (sortedBy_run (ah := wAh js) S2 (by rw [upTo_len]; omega) fun h3 hp3 a b ha hb => ?_) fun vo h4 ⟨hp4, o4⟩ => ?_
  · exact greedy_1_run (Js.pre (pB.trans (hp2.trans hp3))) (((H0.ext hp2).ext hp3).box 0 rfl) (mem_upTo.1 ha) (mem_upTo.1 hb)
  have S4 : Ints h4 vo (wOrd js) := o4.sees
  have hOin := @wOrd_in js
  have hOl : (wOrd js).length = js.length := by rw [wOrd_perm.length_eq, upTo_len]
  have p04 := pB.trans (hp2.trans hp4)
  have lb4 := load_pre (hp2.trans hp4) hbx (n := 1) rfl
  generalize wOrd js = O at *
  obtain ⟨oa, oc, rfl⟩ : ∃ a c, vo = .slice a O.length c := S4.shapeT
  simp -implicitDefEqProofs
  refine R_loopO (fun m s h' => ∃ (i : Nat) (vt : Value), i + m = O.length ∧ s = [(1, .pointer (some ⟨h.length, 0, some 1⟩)), (4, vt), (15, .slice oa O.length oc), (16, .int .i64 O.length), (17, .int .i64 i)] ∧ h4 <+: h' ∧ Ints h' vt ((O.take i).foldl (gS (timB js)) [])) (fun I hI m s h' => ?_) (n := O.length)
    ⟨0, .slice none 0 0, Nat.zero_add _, by simp, List.prefix_rfl, nil_L⟩
  rintro ⟨i, vt, hi, rfl, hp, ST⟩
  obtain ⟨ga, gm⟩ := gF_ok (P := timB js) (O := O.take i) (T := []) List.Pairwise.nil
  have gin : inN js.length ((O.take i).foldl (gS (timB js)) []) := fun y hy => by
    rcases gm y hy with g | g
    · cases g
    · exact hOin y (List.mem_of_mem_take g)
  have gl := asc_len ga gin
  by_cases hlt : i < O.length
  · have hlt' : (i : Int) < O.length := by omega
    obtain ⟨x, hx, _⟩ := drop_at hlt
    have ix := hOin x (List.mem_of_getElem? hx)
    have lx := load_I (S4.pre hp) hx
    have et := gTake (P := timB js) (T := []) hx
    generalize (O.take i).foldl (gS (timB js)) [] = T at *
    obtain ⟨ta, tc, rfl⟩ : ∃ a c, vt = .slice a T.length c := ST.shapeT
    simp -implicitDefEqProofs [-indexAddrP_some, hlt, hlt', lx]
    refine CL_post (copyInts_run ST (by omega)) fun vc h5 ⟨hp5, o5⟩ => ?_
    have H5 := (Holds.start (h := h')).call hp5 o5
    obtain ⟨ca, cn, cc, rfl⟩ : ∃ a n c, vc = .slice a n c := by obtain ⟨a, c, e⟩ := o5.sees.shape; exact ⟨_, _, _, e⟩
    simp -implicitDefEqProofs
    refine CL_post (putInt_run (x := x) H5 (by omega) ga) fun vp h6 H6 => ?_
    have S6 : Ints h6 vp (putI T x) := H6.sees 0 rfl
    have pin : inN js.length (putI T x) := fun y hy => by
      rcases putI_mem.1 hy with rfl | g
      · exact ix
      · exact gin y g
    have pasc := putI_srt (x := x) ga
    have hp6 := hp.trans H6.pre
    have rt := onTime_run (Js.pre (p04.trans hp6)) S6 pin (by have := asc_len pasc pin; omega) (good_bd hg)
    rw [tim_imp (plOk_pl hok)] at rt
    have lb6 := load_pre ((hp2.trans hp4).trans hp6) hbx (n := 1) rfl
    obtain ⟨pa, pc, rfl⟩ : ∃ a c, vp = .slice a (putI T x).length c := S6.shapeT
    cases c2 : timB js (putI T x)
    · rw [c2] at rt
      have e2 : gS (timB js) T x = T := by unfold gS; rw [c2]; rfl
      simp -implicitDefEqProofs [lb6, CL_ret rt, winc hlt (by omega)]
      exact ⟨m - 1, by omega, on hI ⟨i + 1, _, by omega, by simp; rfl, hp6, by rw [et, e2]; exact ST.pre H6.pre⟩⟩
    · rw [c2] at rt
      have e2 : gS (timB js) T x = putI T x := by unfold gS; rw [c2, if_pos rfl]
      simp -implicitDefEqProofs [lb6, CL_ret rt, winc hlt (by omega)]
      exact ⟨m - 1, by omega, on hI ⟨i + 1, _, by omega, by simp; rfl, hp6, by rw [et, e2]; exact S6⟩⟩
  · have hlt' : ¬ (i : Int) < O.length := by omega
    rw [List.take_of_length_le (by omega)] at ST
    obtain ⟨ta, tn, tc, rfl⟩ : ∃ a n c, vt = .slice a n c := by obtain ⟨a, c, e⟩ := ST.shape; exact ⟨_, _, _, e⟩
    simp -implicitDefEqProofs [hlt, hlt']
    exact onK hK ⟨pre_gcU (p04.trans hp), _, rfl, Sees.gcU ST fun g => plainT (r := [_]) g⟩
/-! ### by the reference -/
def rndW (js : List Job) (n a : Nat) : List Int := (upTo n).filter fun x => decide (wJ js x = 50 - (a : Int))
def ordW (js : List Job) (k : Nat) : List Int := (List.range k).flatMap (rndW js js.length)
theorem ordW_succ {k : Nat} : ordW js (k + 1) = ordW js k ++ rndW js js.length k := by unfold ordW; rw [List.range_succ, List.flatMap_append]; simp
theorem ordW_mem {k : Nat} {x : Int} : x ∈ ordW js k ↔ x ∈ upTo js.length ∧ ∃ a : Nat, a < k ∧ wJ js x = 50 - (a : Int) := by
  unfold ordW rndW
  rw [List.mem_flatMap]
  constructor
  · rintro ⟨a, ha, hx⟩
    obtain ⟨h1, h2⟩ := List.mem_filter.1 hx
    exact ⟨h1, a, List.mem_range.1 ha, by simpa using h2⟩
  · rintro ⟨h1, a, ha, h2⟩
    exact ⟨a, List.mem_range.2 ha, List.mem_filter.2 ⟨h1, by simpa using h2⟩⟩
theorem ordW_lex : ∀ {k : Nat}, (ordW js k).Pairwise (Lex (wAh js))
  | 0 => List.Pairwise.nil
  | k + 1 => by
    rw [ordW_succ]
    refine List.pairwise_append.2 ⟨ordW_lex, ?_, fun a ha b hb => ?_⟩
    · have h1 : (rndW js js.length k).Pairwise (· < ·) := up_asc.sublist List.filter_sublist
      refine List.Pairwise.imp_of_mem (fun {a b} ha hb hab => ?_) h1
      have ea := (List.mem_filter.1 ha).2
      have eb := (List.mem_filter.1 hb).2
      rw [decide_eq_true_eq] at ea eb
      refine .inr ⟨?_, hab⟩
      unfold wJ at ea eb
      simp only [wAh, decide_eq_false_iff_not]
      omega
    · obtain ⟨_, c, hc, e1⟩ := ordW_mem.1 ha
      have e2 := (List.mem_filter.1 hb).2
      rw [decide_eq_true_eq] at e2
      refine .inl ?_
      unfold wJ at e1 e2
      simp only [wAh, decide_eq_true_eq]
      omega
theorem ordW_eq (hg : goodL js = true) : ordW js 51 = wOrd js := by
  have h1 := @ordW_lex js 51
  have h2 : (wOrd js).Pairwise (Lex (wAh js)) := sortB_sorted wAh_weak up_asc
  have n1 : (ordW js 51).Nodup := h1.imp fun {a b} h e => by
    subst e
    rcases h with g | ⟨_, g⟩
    · simp [wAh] at g
    · omega
  refine sorted_eq (R := Lex (wAh js)) (fun a b h1 h2 => Lex.asymm wAh_weak h1 h2) h1 h2 ?_
  refine (List.perm_ext_iff_of_nodup n1 wOrd_nd).2 fun x => ?_
  rw [ordW_mem, wOrd_perm.mem_iff]
  refine ⟨fun h => h.1, fun h => ⟨h, ?_⟩⟩
  have := jw_bd hg x
  have e : wJ js x = (jA js x).w := rfl
  exact ⟨(50 - (jA js x).w).toNat, by omega, by omega⟩
theorem rnd_succ {i a : Nat} : rndW js (i + 1) a = rndW js i a ++ if wJ js i = 50 - (a : Int) then [(i : Int)] else [] := by
  unfold rndW
  rw [up_snoc, List.filter_append]
  congr 1
  by_cases g : wJ js i = 50 - (a : Int) <;> simp [List.filter_cons, g]
theorem specUnitGreedy_run (J : Jobs h vj js) (hl : js.length ≤ 2 ^ 40) : RunsC P G n_spec_UnitGreedy [vj] h fun w h' => h <+: h' ∧ ∃ d, w = .tuple #[d, .bool (uOk js)] ∧ Ints h' d (ugR js) := by
  refine hideC fun K hK => enter_run e_spec_UnitGreedy (by simp) ?_
  have Js := J
  obtain ⟨oj, cj, rfl⟩ := J.shapeT
  have r1 := l10Unit_run Js hl
  cases c1 : uOk js
  · rw [c1] at r1
    rw [ugR, c1] at hK
    simp -implicitDefEqProofs [CL_ret r1]
    exact onK hK ⟨List.prefix_rfl, _, rfl, nil_L⟩
  rw [c1] at r1
  obtain ⟨hok, _⟩ := uOk_of c1
  obtain ⟨hn, hg, _⟩ := plOk_of hok
  rw [ugR, c1, if_pos rfl, ← ordW_eq hg] at hK
  simp -implicitDefEqProofs [CL_ret r1]
  refine R_loopO (fun m s h' => ∃ (k : Nat) (vt : Value), k + m = 51 ∧ s = [(0, .slice oj js.length cj), (4, vt), (5, .int .i64 (50 - (k : Int)))] ∧ h <+: h' ∧ Ints h' vt (gG (timB js) (ordW js k))) (fun I hI m s h' => ?_) (n := 51)
    ⟨0, .slice none 0 0, Nat.zero_add _, by simp, List.prefix_rfl, nil_L⟩
  rintro ⟨k, vt, hk, rfl, hp, ST⟩
  by_cases hlk : k < 51
  case neg =>
    have hlk' : ¬ (0 : Int) ≤ 50 - (k : Int) := by omega
    have : k = 51 := by omega
    subst this
    obtain ⟨ta, tn, tc, rfl⟩ : ∃ a n c, vt = .slice a n c := by obtain ⟨a, c, e⟩ := ST.shape; exact ⟨_, _, _, e⟩
    simp -implicitDefEqProofs
    exact onK hK ⟨pre_gcU hp, _, rfl, Sees.gcU ST fun g => plainT (r := [_]) g⟩
  have hlk' : (0 : Int) ≤ 50 - (k : Int) := by omega
  have hlk2 : (k : Int) ≤ 50 := by omega
  have wk : IntKind.i64.wrap (50 - (k : Int) - 1) = 50 - (k : Int) - 1 := by rw [wrap_ok] <;> omega
  have gout : ∀ i, i ≤ js.length → ((rndW js i k).foldl (gS (timB js)) (gG (timB js) (ordW js k))).Pairwise (· < ·) ∧ inN js.length ((rndW js i k).foldl (gS (timB js)) (gG (timB js) (ordW js k))) := fun i hi => by
    obtain ⟨a1, a2⟩ := gF_ok (P := timB js) (O := ordW js k) (T := []) List.Pairwise.nil
    obtain ⟨b1, b2⟩ := gF_ok (P := timB js) (O := rndW js i k) (T := gG (timB js) (ordW js k)) a1
    refine ⟨b1, fun y hy => ?_⟩
    rcases b2 y hy with g | g
    · rcases a2 y g with g | g
      · cases g
      · exact mem_upTo.1 (ordW_mem.1 g).1
    · have := mem_upTo.1 (List.mem_filter.1 g).1
      omega
  simp -implicitDefEqProofs [hlk', hlk2]
  refine R_loopO (fun m s h2 => ∃ (i : Nat) (vt : Value), i + m = js.length ∧ s = [(0, .slice oj js.length cj), (4, vt), (5, .int .i64 (50 - (k : Int))), (6, .int .i64 i)] ∧ h <+: h2 ∧ Ints h2 vt ((rndW js i k).foldl (gS (timB js)) (gG (timB js) (ordW js k)))) (fun I2 hI2 m2 s2 h2 => ?_) (n := js.length)
    ⟨0, vt, Nat.zero_add _, by simp, hp, ST⟩
  clear ST hp
  rintro ⟨i, vt, hi, rfl, hp, ST⟩
  by_cases hlt : i < js.length
  case neg =>
    have hlt' : ¬ (i : Int) < js.length := by omega
    have : i = js.length := by omega
    subst this
    have e : gG (timB js) (ordW js (k + 1)) = (rndW js js.length k).foldl (gS (timB js)) (gG (timB js) (ordW js k)) := by unfold gG; rw [ordW_succ, List.foldl_append]
    simp -implicitDefEqProofs [hlt, hlt', wk]
    exact ⟨m - 1, by omega, on hI ⟨k + 1, vt, by omega, by simp; omega, hp, by rw [e]; exact ST⟩⟩
  have hlt' : (i : Int) < js.length := by omega
  have lj := load_JX (Js.pre hp) (x := (i : Int)) ⟨by omega, by omega⟩
  simp only [Int.toNat_natCast] at lj
  have rs := @rnd_succ js i k
  have ew : wJ js i = (jA js i).w := rfl
  obtain ⟨ga, gin⟩ := gout i (by omega)
  have gl := asc_len ga gin
  have e1 : (rndW js (i + 1) k).foldl (gS (timB js)) (gG (timB js) (ordW js k)) = if wJ js i = 50 - (k : Int) then gS (timB js) ((rndW js i k).foldl (gS (timB js)) (gG (timB js) (ordW js k))) i else (rndW js i k).foldl (gS (timB js)) (gG (timB js) (ordW js k)) := by
    rw [rs, List.foldl_append]
    split <;> rfl
  generalize (rndW js i k).foldl (gS (timB js)) (gG (timB js) (ordW js k)) = T at *
  obtain ⟨ta, tc, rfl⟩ : ∃ a c, vt = .slice a T.length c := ST.shapeT
  by_cases cw : (jA js i).w = 50 - (k : Int)
  · rw [ew, if_pos cw] at e1
    simp -implicitDefEqProofs [-indexAddrP_some, hlt, hlt', lj, cw]
    refine CL_post (l1Put_run (x := (i : Int)) ST (by omega) ga) fun vp h6 ⟨hp6, S6⟩ => ?_
    have pin : inN js.length (putI T i) := fun y hy => by
      rcases putI_mem.1 hy with rfl | g
      · exact ⟨by omega, by omega⟩
      · exact gin y g
    have pasc := putI_srt (x := (i : Int)) ga
    have rt := l6Timely_run (Js.pre (hp.trans hp6)) S6 pin (by have := asc_len pasc pin; omega) (good_bd hg)
    rw [tim_spec pasc] at rt
    obtain ⟨pa, pc, rfl⟩ : ∃ a c, vp = .slice a (putI T i).length c := S6.shapeT
    cases c2 : timB js (putI T i)
    · rw [c2] at rt
      have e2 : gS (timB js) T i = T := by unfold gS; rw [c2]; rfl
      simp -implicitDefEqProofs [CL_ret rt, winc hlt (by omega)]
      exact ⟨m2 - 1, by omega, on hI2 ⟨i + 1, _, by omega, by simp; rfl, hp.trans hp6, by rw [e1, e2]; exact ST.pre hp6⟩⟩
    · rw [c2] at rt
      have e2 : gS (timB js) T i = putI T i := by unfold gS; rw [c2, if_pos rfl]
      simp -implicitDefEqProofs [CL_ret rt, winc hlt (by omega)]
      exact ⟨m2 - 1, by omega, on hI2 ⟨i + 1, _, by omega, by simp; rfl, hp.trans hp6, by rw [e1, e2]; exact S6⟩⟩
  · rw [ew, if_neg cw] at e1
    simp -implicitDefEqProofs [-indexAddrP_some, hlt, hlt', lj, nt cw, nb cw, winc hlt (by omega)]
    exact ⟨m2 - 1, by omega, on hI2 ⟨i + 1, _, by omega, by simp; rfl, hp, by rw [e1]; exact ST⟩⟩
end
end Go.Pm.PP

/- The rank of a set of unit jobs, of both. -/
set_option linter.unusedVariables false
set_option linter.unusedSimpArgs false
set_option maxRecDepth 4000
set_option maxHeartbeats 16000000
namespace Go.Pm.PP
open Go.Pm Go.Proofs Go.Pm.PE
def codS (xs : List Int) : Nat := xs.foldl (fun c x => c ||| 2 ^ x.toNat) 0
theorem cod_go {i : Nat} : ∀ {xs : List Int} {c : Nat}, (∀ x, x ∈ xs → 0 ≤ x) → ((xs.foldl (fun c x => c ||| 2 ^ x.toNat) c).testBit i = true ↔ c.testBit i = true ∨ (i : Int) ∈ xs)
  | [], c, _ => by simp
  | x :: xs, c, h => by
    have hx := h x (List.mem_cons_self ..)
    rw [List.foldl_cons, cod_go fun y hy => h y (List.mem_cons_of_mem _ hy), Nat.testBit_or, Nat.testBit_two_pow, Bool.or_eq_true, decide_eq_true_eq, List.mem_cons]
    constructor
    · rintro ((g | g) | g)
      · exact .inl g
      · exact .inr (.inl (by omega))
      · exact .inr (.inr g)
    · rintro (g | g | g)
      · exact .inl (.inl g)
      · exact .inl (.inr (by omega))
      · exact .inr g
theorem cod_bit {xs : List Int} {i : Nat} (h : ∀ x, x ∈ xs → 0 ≤ x) : (codS xs).testBit i = true ↔ (i : Int) ∈ xs := by
  unfold codS
  rw [cod_go h]
  simp
theorem cod_lt {n : Nat} {xs : List Int} (h : inN n xs) : codS xs < 2 ^ n := by
  refine Nat.lt_pow_two_of_testBit _ fun i hi => ?_
  cases g : (codS xs).testBit i
  · rfl
  · have := h i ((cod_bit fun x hx => (h x hx).1).1 g)
    omega
theorem or_val {a b : Nat} (ha : a < 2 ^ 60) (hb : b < 2 ^ 60) : IntKind.i64.wrap ↑(((a : Int) % 2 ^ IntKind.i64.bits).toNat ||| ((b : Int) % 2 ^ IntKind.i64.bits).toNat) = ((a ||| b : Nat) : Int) := by
  have hbits : IntKind.i64.bits = 64 := rfl
  have e1 : ∀ n : Nat, n < 2 ^ 60 → ((n : Int) % 2 ^ IntKind.i64.bits).toNat = n := fun n hn => by
    have h5 : (n : Int) < 2 ^ 64 := by omega
    rw [hbits, Int.emod_eq_of_lt (Int.natCast_nonneg _) h5, Int.toNat_natCast]
  rw [e1 a ha, e1 b hb]
  have := Nat.or_lt_two_pow ha hb
  rw [wrap_ok (by omega) (by omega)]
def subB (p a : Nat) : Bool := (p &&& 2 ^ 64 - 1 - a) == 0
theorem sub_iff {p a : Nat} (hp : p < 2 ^ 60) (ha : a < 2 ^ 60) : subB p a = true ↔ ∀ i, p.testBit i = true → a.testBit i = true := by
  unfold subB
  rw [beq_iff_eq]
  have tb : ∀ i, (p &&& 2 ^ 64 - 1 - a).testBit i = (p.testBit i && (decide (i < 64) && !a.testBit i)) := fun i => by
    rw [Nat.testBit_and, show 2 ^ 64 - 1 - a = 2 ^ 64 - (a + 1) by omega, Nat.testBit_two_pow_sub_succ (by omega)]
  constructor
  · intro h i hi
    have := tb i
    rw [h, Nat.zero_testBit, hi, Bool.true_and] at this
    have h64 : i < 64 := Nat.lt_trans (bit_lt hp hi) (by omega)
    rw [decide_eq_true h64, Bool.true_and] at this
    simpa using this.symm
  · intro h
    refine Nat.eq_of_testBit_eq fun i => ?_
    rw [tb, Nat.zero_testBit]
    cases g : p.testBit i
    · rfl
    · rw [h i g]; simp
theorem andn_val {p a : Nat} (hp : p < 2 ^ 60) (ha : a < 2 ^ 60) : (IntKind.i64.wrap ↑(((p : Int) % 2 ^ IntKind.i64.bits).toNat &&& 2 ^ IntKind.i64.bits - 1 - ((a : Int) % 2 ^ IntKind.i64.bits).toNat) == 0) = subB p a := by
  have hbits : IntKind.i64.bits = 64 := rfl
  have e1 : ∀ n : Nat, n < 2 ^ 60 → ((n : Int) % 2 ^ IntKind.i64.bits).toNat = n := fun n hn => by
    have h5 : (n : Int) < 2 ^ 64 := by omega
    rw [hbits, Int.emod_eq_of_lt (Int.natCast_nonneg _) h5, Int.toNat_natCast]
  rw [e1 p hp, e1 a ha, hbits]
  have hle : (p &&& 2 ^ 64 - 1 - a) ≤ p := Nat.and_le_left
  unfold subB
  generalize (p &&& 2 ^ 64 - 1 - a) = z at *
  rw [wrap_ok (by omega) (by omega), Bool.eq_iff_iff, beq_iff_eq, beq_iff_eq]
  omega
def rkOk (js : List Job) (xs : List Int) : Bool := uOk js && setB js.length xs
def rkR (js : List Job) (xs : List Int) : Int := if rkOk js xs = true then ((gG (timB js) xs).length : Int) else 0
theorem rkOk_of {js : List Job} {xs : List Int} (h : rkOk js xs = true) : uOk js = true ∧ inN js.length xs ∧ xs.Pairwise (· < ·) := by
  rw [rkOk, Bool.and_eq_true, setB_iff] at h; exact h
theorem gset {js : List Job} {xs : List Int} (h : rkOk js xs = true) : GI2 (dJ js) (fun _ => 0) (upTo js.length) xs (gG (timB js) xs) := by
  obtain ⟨hu, hin, hs⟩ := rkOk_of h
  exact gG_all (w := fun _ => 0) (unit_good hu) (fun y hy => mem_upTo.2 (hin y hy)) (nd_asc hs) (hs.imp fun _ => Int.le_refl _)
section
variable {h : Hp} {vj v u : Value} {js : List Job} {xs ys : List Int}
theorem setOf_run (X : Ints h v xs) (hin : inN 50 xs) (hx : xs.length ≤ 2 ^ 10) : Ret P G n_impl_setOf [v] h (.int .i64 (codS xs : Nat)) h := by
  refine enter_run e_impl_setOf (by simp) ?_
  have Xs := X
  obtain ⟨oa, c, rfl⟩ := X.shapeT
  simp -implicitDefEqProofs
  refine R_loopO (fun m s h' => ∃ (i : Nat), i + m = xs.length ∧ s = [(3, .int .i64 (codS (xs.take i) : Nat)), (6, .slice oa xs.length c), (7, .int .i64 xs.length), (8, .int .i64 i)] ∧ h' = h) (fun I hI m s h' => ?_) (n := xs.length) ⟨0, Nat.zero_add _, by simp [codS], rfl⟩
  rintro ⟨i, hi, rfl, rfl⟩
  by_cases hlt : i < xs.length
  · have hlt' : (i : Int) < xs.length := by omega
    obtain ⟨y, hy, _⟩ := drop_at hlt
    have iy := hin y (List.mem_of_getElem? hy)
    have ly := load_I Xs hy
    have e : codS (xs.take (i + 1)) = codS (xs.take i) ||| 2 ^ y.toNat := by unfold codS; rw [take_succ' hy, List.foldl_append]; rfl
    have c1 : codS (xs.take i) < 2 ^ 50 := cod_lt fun x hx => hin x (List.mem_of_mem_take hx)
    have sh := shl_eq (i := y.toNat) (by omega)
    have p1 : 2 ^ y.toNat ≤ 2 ^ 50 := Nat.pow_le_pow_right (by omega) (by omega)
    rw [show ((y.toNat : Nat) : Int) = y by omega] at sh
    obtain ⟨b, hb⟩ : ∃ b : Nat, b = 2 ^ y.toNat := ⟨_, rfl⟩
    rw [← hb] at sh e p1
    have ov := or_val (a := codS (xs.take i)) (b := b) (by omega) (by omega)
    rw [← e] at ov
    simp -implicitDefEqProofs [-indexAddrP_some, hlt, hlt', ly, sh, ov, winc hlt (by omega)]
    exact ⟨m - 1, by omega, on hI ⟨i + 1, by omega, by simp, rfl⟩⟩
  · have hlt' : ¬ (i : Int) < xs.length := by omega
    rw [List.take_of_length_le (by omega)]
    simp -implicitDefEqProofs [hlt, hlt']
theorem specUnitRank_run (J : Jobs h vj js) (X : Ints h v xs) (hl : js.length ≤ 2 ^ 40) (hx : xs.length ≤ 2 ^ 10) : Ret P G n_spec_UnitRank [vj, v] h (.tuple #[.int .i64 (rkR js xs), .bool (rkOk js xs)]) h := by
  have r1 := l10Unit_run J hl
  have r2 := l6SetG_run J X (by omega) hl
  have rank : rkOk js xs = true → Ret P G n_spec_l10Rank [vj, v] h (.int .i64 ((gG (timB js) xs).length : Nat)) h := fun hk => by
    obtain ⟨hu, hin, hs⟩ := rkOk_of hk
    obtain ⟨hok, _⟩ := uOk_of hu
    obtain ⟨hn, hg, _⟩ := plOk_of hok
    refine enter_run e_spec_l10Rank (by simp) ?_
    have Js := J
    have Xs := X
    obtain ⟨oj, cj, rfl⟩ := J.shapeT
    obtain ⟨oa, ca, rfl⟩ := X.shapeT
    simp -implicitDefEqProofs
    refine R_loopO (fun m s h' => ∃ (i : Nat) (vt : Value), i + m = xs.length ∧ s = [(0, .slice oj js.length cj), (1, .slice oa xs.length ca), (5, vt), (6, .int .i64 i)] ∧ h <+: h' ∧ Ints h' vt ((xs.take i).foldl (gS (timB js)) [])) (fun I hI m s h' => ?_) (n := xs.length)
      ⟨0, .slice none 0 0, Nat.zero_add _, by simp, List.prefix_rfl, nil_L⟩
    rintro ⟨i, vt, hi, rfl, hp, ST⟩
    obtain ⟨ga, gm⟩ := gF_ok (P := timB js) (O := xs.take i) (T := []) List.Pairwise.nil
    have gin : inN js.length ((xs.take i).foldl (gS (timB js)) []) := fun y hy => by
      rcases gm y hy with g | g
      · cases g
      · exact hin y (List.mem_of_mem_take g)
    have gl := asc_len ga gin
    by_cases hlt : i < xs.length
    · have hlt' : (i : Int) < xs.length := by omega
      obtain ⟨x, hx', _⟩ := drop_at hlt
      have ix := hin x (List.mem_of_getElem? hx')
      have lx := load_I (Xs.pre hp) hx'
      have et := gTake (P := timB js) (T := []) hx'
      generalize (xs.take i).foldl (gS (timB js)) [] = T at *
      obtain ⟨ta, tc, rfl⟩ : ∃ a c, vt = .slice a T.length c := ST.shapeT
      simp -implicitDefEqProofs [-indexAddrP_some, hlt, hlt', lx]
      refine CL_post (l1Put_run (x := x) ST (by omega) ga) fun vp h6 ⟨hp6, S6⟩ => ?_
      have pin : inN js.length (putI T x) := fun y hy => by
        rcases putI_mem.1 hy with rfl | g
        · exact ix
        · exact gin y g
      have pasc := putI_srt (x := x) ga
      have rt := l6Timely_run (Js.pre (hp.trans hp6)) S6 pin (by have := asc_len pasc pin; omega) (good_bd hg)
      rw [tim_spec pasc] at rt
      obtain ⟨pa, pc, rfl⟩ : ∃ a c, vp = .slice a (putI T x).length c := S6.shapeT
      cases c2 : timB js (putI T x)
      · rw [c2] at rt
        have e2 : gS (timB js) T x = T := by unfold gS; rw [c2]; rfl
        simp -implicitDefEqProofs [CL_ret rt, winc hlt (by omega)]
        exact ⟨m - 1, by omega, on hI ⟨i + 1, _, by omega, by simp; rfl, hp.trans hp6, by rw [et, e2]; exact ST.pre hp6⟩⟩
      · rw [c2] at rt
        have e2 : gS (timB js) T x = putI T x := by unfold gS; rw [c2, if_pos rfl]
        simp -implicitDefEqProofs [CL_ret rt, winc hlt (by omega)]
        exact ⟨m - 1, by omega, on hI ⟨i + 1, _, by omega, by simp; rfl, hp.trans hp6, by rw [et, e2]; exact S6⟩⟩
    · have hlt' : ¬ (i : Int) < xs.length := by omega
      rw [List.take_of_length_le (by omega)] at ST
      have ST : Ints h' vt (gG (timB js) xs) := ST
      obtain ⟨ta, tc, rfl⟩ : ∃ a c, vt = .slice a (gG (timB js) xs).length c := ST.shapeT
      simp -implicitDefEqProofs [hlt, hlt']
      exact gcP hp rfl
  refine enter_run e_spec_UnitRank (by simp) ?_
  obtain ⟨oj, cj, rfl⟩ := J.shapeT
  obtain ⟨ox, cx, rfl⟩ := X.shapeT
  cases c1 : uOk js
  · rw [c1] at r1
    simp -implicitDefEqProofs [CL_ret r1, rkR, rkOk, c1]
  · rw [c1] at r1
    cases c2 : setB js.length xs
    · rw [c2] at r2
      simp -implicitDefEqProofs [CL_ret r1, CL_ret r2, rkR, rkOk, c1, c2]
    · rw [c2] at r2
      have hk : rkOk js xs = true := by rw [rkOk, c1, c2]; rfl
      simp -implicitDefEqProofs [CL_ret r1, CL_ret r2, CL_ret (rank hk), rkR, hk]
theorem implUnitRank_run (J : Jobs h vj js) (X : Ints h v xs) (hl : js.length ≤ 2 ^ 40) (hx : xs.length ≤ 2 ^ 10) : Ret P G n_impl_UnitRank [vj, v] h (.tuple #[.int .i64 (rkR js xs), .bool (rkOk js xs)]) h := by
  refine enter_run e_impl_UnitRank (by simp) ?_
  have r1 := areUnit_run J hl
  have r2 := isSetG_run (n := js.length) X (by omega) hl
  have Js := J
  have Xs := X
  obtain ⟨oj, cj, rfl⟩ := J.shapeT
  obtain ⟨ox, cx, rfl⟩ := X.shapeT
  cases c1 : uOk js
  · rw [c1] at r1
    simp -implicitDefEqProofs [CL_ret r1, rkR, rkOk, c1]
  rw [c1] at r1
  cases c2 : setB js.length xs
  · rw [c2] at r2
    simp -implicitDefEqProofs [CL_ret r1, CL_ret r2, rkR, rkOk, c1, c2]
  rw [c2] at r2
  have hk : rkOk js xs = true := by rw [rkOk, c1, c2]; rfl
  obtain ⟨hu, hin, hs⟩ := rkOk_of hk
  obtain ⟨hok, _⟩ := uOk_of hu
  obtain ⟨hn, hg, _⟩ := plOk_of hok
  have rs := setOf_run Xs (fun x hx => by have := hin x hx; omega) hx
  have hcl := cod_lt hin
  have p8 : 2 ^ js.length ≤ 2 ^ 8 := Nat.pow_le_pow_right (by omega) hn
  have hbit := fun {i} => @cod_bit xs i fun x hx => (hin x hx).1
  have e : rkR js xs = ((gG (timB js) xs).length : Int) := by rw [rkR, if_pos hk]
  have GI := gset hk
  obtain ⟨A, hA⟩ : ∃ A, A = codS xs := ⟨_, rfl⟩
  rw [← hA] at rs hcl
  simp only [← hA] at hbit
  rw [hk, e]
  simp -implicitDefEqProofs [CL_ret r1, CL_ret r2, CL_ret rs]
  refine R_loopO (fun m s h' => ∃ (k r : Nat), k + m = A + 1 ∧ s = [(0, .slice oj js.length cj), (6, .int .i64 r), (7, .int .i64 A), (8, .int .i64 k)] ∧ (∀ c, c < k → subB c A = true → okC js c = true → (bitsL js.length c).length ≤ r) ∧ (r = 0 ∨ ∃ c, c < k ∧ subB c A = true ∧ okC js c = true ∧ (bitsL js.length c).length = r) ∧ h <+: h') (fun I hI m s h' => ?_) (n := A + 1)
    ⟨0, 0, Nat.zero_add _, by simp, fun c hc => by omega, .inl rfl, List.prefix_rfl⟩
  rintro ⟨k, r, hkm, rfl, hup, hat, hp⟩
  have hr : r ≤ 2 ^ 10 := by
    rcases hat with rfl | ⟨c, _, _, _, rfl⟩
    · omega
    · exact Nat.le_trans bits_len (by omega)
  by_cases hlt : k ≤ A
  · have hlt' : (k : Int) ≤ A := by omega
    have av := andn_val (p := k) (a := A) (by omega) (by omega)
    have hkn : k < 2 ^ js.length := by omega
    simp -implicitDefEqProofs [hlt, hlt']
    refine CL_post (listOf_run (h := h') (n := js.length) (c := k) (by omega) hkn) fun vl h2 ⟨hp2, o2⟩ => ?_
    have Sl : Ints h2 vl (bitsL js.length k) := o2.sees
    have hinb : inN js.length (bitsL js.length k) := fun x hx => by have := mem_bits.1 hx; omega
    have hbl : (bitsL js.length k).length ≤ 8 := Nat.le_trans bits_len hn
    have rt := onTime_run (Js.pre (hp.trans hp2)) Sl hinb (by omega) (good_bd hg)
    rw [tim_imp (plOk_pl hok)] at rt
    have eo : timB js (bitsL js.length k) = okC js k := rfl
    rw [eo] at rt
    obtain ⟨la, lc, rfl⟩ : ∃ a c, vl = .slice a (bitsL js.length k).length c := Sl.shapeT
    have skip : (subB k A = true → okC js k = true → (bitsL js.length k).length ≤ r) → I (m - 1) [(0, .slice oj js.length cj), (6, .int .i64 r), (7, .int .i64 A), (8, .int .i64 ((k : Int) + 1))] h2 := fun g => on hI ⟨k + 1, r, by omega, by simp, fun c hc h1 h2 => by
        rcases Nat.lt_or_ge c k with q | q
        · exact hup c q h1 h2
        · have : c = k := by omega
          subst this; exact g h1 h2, hat.imp id fun ⟨c, h1, h2⟩ => ⟨c, by omega, h2⟩, hp.trans hp2⟩
    cases c3 : subB k A
    · rw [c3] at av
      simp -implicitDefEqProofs [av, winc (show k < A + 1 by omega) (by omega)]
      exact ⟨m - 1, by omega, by simpa using skip fun g => by rw [c3] at g; cases g⟩
    · rw [c3] at av
      by_cases c4 : r < (bitsL js.length k).length
      · have c4' : (r : Int) < (bitsL js.length k).length := by omega
        cases c5 : okC js k
        · rw [c5] at rt
          simp -implicitDefEqProofs [av, c4, c4', CL_ret rt, winc (show k < A + 1 by omega) (by omega)]
          exact ⟨m - 1, by omega, by simpa using skip fun _ g => by rw [c5] at g; cases g⟩
        · rw [c5] at rt
          simp -implicitDefEqProofs [av, c4, c4', CL_ret rt, winc (show k < A + 1 by omega) (by omega)]
          exact ⟨m - 1, by omega, on hI ⟨k + 1, (bitsL js.length k).length, by omega, by simp, fun c hc h1 h2 => by
            rcases Nat.lt_or_ge c k with q | q
            · have := hup c q h1 h2; omega
            · have : c = k := by omega
              subst this; exact Nat.le_refl _, .inr ⟨k, by omega, c3, c5, rfl⟩, hp.trans hp2⟩⟩
      · have c4' : ¬ (r : Int) < (bitsL js.length k).length := by omega
        simp -implicitDefEqProofs [av, c4, c4', winc (show k < A + 1 by omega) (by omega)]
        exact ⟨m - 1, by omega, by simpa using skip fun _ _ => by omega⟩
  · have hlt' : ¬ (k : Int) ≤ A := by omega
    have hkA : k = A + 1 := by omega
    have er : r = (gG (timB js) xs).length := by
      have hd0 := dj_nn hg
      refine Nat.le_antisymm ?_ ?_
      · rcases hat with rfl | ⟨c, h1, h2, h3, rfl⟩
        · omega
        · have hin2 : inN js.length (bitsL js.length c) := fun x hx => by have := mem_bits.1 hx; omega
          refine GI.most hd0 bits_nodup (fun x hx => ?_) ((tim_ind hu hin2).1 h3)
          have hb := mem_bits.1 hx
          have := (sub_iff (by omega) (by omega)).1 h2 x.toNat hb.2.2
          have := hbit.1 this
          rwa [show ((x.toNat : Nat) : Int) = x by omega] at this
      · have hTin : inN js.length (gG (timB js) xs) := fun x hx => hin x (GI.sub x hx)
        obtain ⟨c, hc, ec⟩ := bits_of (n := js.length) (m := js.length) (Nat.le_refl _) GI.asc hTin
        have hsub : ∀ i, c.testBit i = true → A.testBit i = true := fun i hi => by
          have hil := bit_lt hc hi
          have hm : (i : Int) ∈ bitsL js.length c := mem_bits.2 ⟨by omega, by omega, by simpa using hi⟩
          rw [ec] at hm
          exact hbit.2 (GI.sub _ hm)
        have hle : c ≤ A := by
          have e2 : c &&& A = c := Nat.eq_of_testBit_eq fun i => by
            rw [Nat.testBit_and]
            cases g : c.testBit i
            · rfl
            · rw [hsub i g]; rfl
          rw [← e2]; exact Nat.and_le_right
        have := hup c (by omega) ((sub_iff (by omega) (by omega)).2 hsub) (by unfold okC; rw [ec]; exact (tim_ind hu hTin).2 GI.ind)
        rw [ec] at this
        exact this
    subst er
    simp -implicitDefEqProofs [hlt, hlt']
    exact gcP hp rfl
end
end Go.Pm.PP

/- The circuit of a job in a timely set of unit jobs, of both. -/
set_option linter.unusedVariables false
set_option linter.unusedSimpArgs false
set_option maxRecDepth 4000
set_option maxHeartbeats 16000000
namespace Go.Pm.PP
open Go.Pm Go.Proofs Go.Pm.PE
def frOk (js : List Job) (xs : List Int) : Bool := rkOk js xs && timB js xs
def ucOk (js : List Job) (xs : List Int) (j : Int) : Bool := frOk js xs && inB j 0 ((js.length : Int) - 1) && !hasL j xs && !timB js (putI xs j)
def outX (xs : List Int) (x : Int) : List Int := xs.filter fun y => !(y == x)
def ucK (js : List Job) (W : List Int) (j x : Int) : Bool := x == j || timB js (outX W x)
def ucR (js : List Job) (xs : List Int) (j : Int) : List Int := if ucOk js xs j = true then (putI xs j).filter (ucK js (putI xs j) j) else []
theorem ucOk_of {js : List Job} {xs : List Int} {j : Int} (h : ucOk js xs j = true) : rkOk js xs = true ∧ timB js xs = true ∧ 0 ≤ j ∧ j < js.length ∧ j ∉ xs ∧ timB js (putI xs j) = false := by
  simp only [ucOk, frOk, Bool.and_eq_true, Bool.not_eq_true', inB, decide_eq_true_eq] at h
  obtain ⟨⟨⟨⟨h1, h2⟩, h3⟩, h4⟩, h5⟩ := h
  refine ⟨h1, h2, by omega, by omega, fun g => ?_, h5⟩
  rw [hasL_iff.2 g] at h4; cases h4
theorem two_asc {l s : List Int} (h : l.Pairwise (· < ·)) (hs : s.Pairwise (· < ·)) (hm : ∀ y, y ∈ l ↔ y ∈ s) : l = s := by
  have n1 : l.Nodup := h.imp fun h => by omega
  have n2 : s.Nodup := hs.imp fun h => by omega
  exact sorted_eq (R := fun a b : Int => a < b) (fun a b h1 h2 => by omega) h hs ((List.perm_ext_iff_of_nodup n1 n2).2 hm)
theorem out_put {xs : List Int} {j x : Int} (hs : xs.Pairwise (· < ·)) (hj : j ∉ xs) (hx : x ∈ xs) : putI (delF xs [x]) j = outX (putI xs j) x := by
  refine two_asc (putI_srt (hs.sublist List.filter_sublist)) ((putI_srt hs).sublist List.filter_sublist) fun y => ?_
  have hne : x ≠ j := fun e => hj (e ▸ hx)
  rw [putI_mem, del_one, outX, List.mem_filter, List.mem_filter, putI_mem]
  constructor
  · rintro (rfl | ⟨h1, h2⟩)
    · exact ⟨.inl rfl, by simpa using fun e => hne e.symm⟩
    · exact ⟨.inr h1, h2⟩
  · rintro ⟨rfl | h1, h2⟩
    · exact .inl rfl
    · exact .inr ⟨h1, h2⟩
def scS (js : List Job) (xs : List Int) (j : Int) (acc : List Int) (x : Int) : List Int := if timB js (putI (delF xs [x]) j) = true then putI acc x else acc
theorem sc_mem {js : List Job} {xs : List Int} {j y : Int} : ∀ {l acc : List Int}, y ∈ l.foldl (scS js xs j) acc ↔ y ∈ acc ∨ (y ∈ l ∧ timB js (putI (delF xs [y]) j) = true)
  | [], acc => by simp
  | x :: l, acc => by
    rw [List.foldl_cons, sc_mem, List.mem_cons]
    unfold scS
    cases g : timB js (putI (delF xs [x]) j)
    · rw [if_neg (by simp)]
      constructor
      · rintro (h | ⟨h, k⟩)
        · exact .inl h
        · exact .inr ⟨.inr h, k⟩
      · rintro (h | ⟨rfl | h, k⟩)
        · exact .inl h
        · rw [g] at k; cases k
        · exact .inr ⟨h, k⟩
    · rw [if_pos rfl, putI_mem]
      constructor
      · rintro ((rfl | h) | ⟨h, k⟩)
        · exact .inr ⟨.inl rfl, g⟩
        · exact .inl h
        · exact .inr ⟨.inr h, k⟩
      · rintro (h | ⟨rfl | h, k⟩)
        · exact .inl (.inr h)
        · exact .inl (.inl rfl)
        · exact .inr ⟨h, k⟩
theorem sc_asc {js : List Job} {xs : List Int} {j : Int} : ∀ {l acc : List Int}, acc.Pairwise (· < ·) → (l.foldl (scS js xs j) acc).Pairwise (· < ·)
  | [], acc, h => h
  | x :: l, acc, h => by
    rw [List.foldl_cons]
    refine sc_asc ?_
    unfold scS
    split
    · exact putI_srt h
    · exact h
theorem sc_eq {js : List Job} {xs : List Int} {j : Int} (hs : xs.Pairwise (· < ·)) (hj : j ∉ xs) : xs.foldl (scS js xs j) [j] = (putI xs j).filter (ucK js (putI xs j) j) := by
  refine two_asc (sc_asc (by simp)) ((putI_srt hs).sublist List.filter_sublist) fun y => ?_
  rw [sc_mem, List.mem_filter, putI_mem, List.mem_singleton]
  constructor
  · rintro (rfl | ⟨h1, h2⟩)
    · exact ⟨.inl rfl, by simp [ucK]⟩
    · rw [out_put hs hj h1] at h2
      exact ⟨.inr h1, by rw [ucK, h2, Bool.or_true]⟩
  · rintro ⟨rfl | h1, h2⟩
    · exact .inl rfl
    · have hne : (y == j) = false := nb fun e => hj (e ▸ h1)
      rw [ucK, hne, Bool.false_or, ← out_put hs hj h1] at h2
      exact .inr ⟨h1, h2⟩
theorem sl_two {h : Hp} {v v1 v2 : Value} {a b : Int} {t : TypeId} (hs : ∃ (a : Addr) (n c : Nat), v = .slice (some a) n c) {e : TypeId} (hu : P.underlying t = some (.slice e)) (h1 : sliceP P h t v none (some (.int .i64 b)) = some v1) (h2 : sliceP P h t v1 (some (.int .i64 a)) none = some v2) : sliceP P h t v (some (.int .i64 a)) (some (.int .i64 b)) = some v2 := by
  obtain ⟨ad, n, c, rfl⟩ := hs
  simp only [sliceP, hu] at h1 ⊢
  cases hi : P.info? e with
  | none => simp [hi] at h1
  | some q =>
    cases hr : rowAt h ad with
    | none => simp [hi, hr] at h1
    | some x =>
      simp only [hi, hr, hiP, loP, asI] at h1 ⊢
      by_cases g : (0 : Int) ≤ 0 ∧ 0 ≤ b ∧ b ≤ c ∧ x.sz = q.size
      · rw [if_pos g] at h1
        cases h1
        simp only [sliceP, hu, hi, hiP, loP, asI] at h2
        have ez : rowAt h (addP ad ((0 : Int).toNat * q.size)) = some x := by simpa [rowAt, addP] using hr
        rw [ez] at h2
        simp only [Int.toNat_zero, Nat.sub_zero, Int.toNat_of_nonneg g.2.1] at h2
        by_cases g2 : 0 ≤ a ∧ a ≤ b ∧ b ≤ c ∧ x.sz = q.size
        · rw [if_pos g2] at h2 ⊢
          rw [← h2]
          simp [addP]
        · rw [if_neg g2] at h2; cases h2
      · rw [if_neg g] at h1; cases h1
section
variable {h : Hp} {vj v u : Value} {js : List Job} {xs ys : List Int}
theorem mid_I (X : Ints h v xs) {i : Nat} {x : Int} (hx : xs[i]? = some x) : ∃ w, sliceP P h t_S_int v (some (.int .i64 i)) (some (.int .i64 ((i : Int) + 1))) = some w ∧ Ints h w [x] := by
  have hl := (List.getElem?_eq_some_iff.1 hx).1
  obtain ⟨v1, e1, s1⟩ := X.front (P := P) u_S_int i_int (k := .i64) (j := (i : Int) + 1) (by omega) (by simp; omega)
  obtain ⟨v2, e2, s2, _⟩ := s1.back (P := P) u_S_int i_int (k := .i64) (j := (i : Int)) (by omega) (by simp; omega)
  refine ⟨v2, sl_two ?_ u_S_int e1 e2, ?_⟩
  · obtain ⟨_, oa, c, rfl, h3⟩ := X
    rcases h3 with ⟨rfl, h4, h5⟩ | ⟨r, o, x, rfl, h5⟩
    · rw [List.map_eq_nil_iff] at h4
      rw [h4] at hl; simp at hl
    · exact ⟨_, _, _, rfl⟩
  · have e : ((xs.map encI).take ((i : Int) + 1).toNat).drop (i : Int).toNat = [x].map encI := by
      rw [show ((i : Int) + 1).toNat = i + 1 by omega, Int.toNat_natCast, ← List.map_take, ← List.map_drop, take_succ' hx, List.drop_append_of_le_length (by rw [List.length_take]; omega), List.drop_eq_nil_of_le (by rw [List.length_take]; omega)]
      rfl
    rw [e] at s2
    exact s2
theorem l10Free_run (J : Jobs h vj js) (X : Ints h v xs) (hl : js.length ≤ 2 ^ 40) (hx : xs.length ≤ 2 ^ 10) : Ret P G n_spec_l10Free [vj, v] h (.bool (frOk js xs)) h := by
  refine enter_run e_spec_l10Free (by simp) ?_
  have r1 := l10Unit_run J hl
  have r2 := l6SetG_run J X (by omega) hl
  have Js := J
  have Xs := X
  obtain ⟨oj, cj, rfl⟩ := J.shapeT
  obtain ⟨ox, cx, rfl⟩ := X.shapeT
  cases c1 : uOk js
  · rw [c1] at r1
    simp -implicitDefEqProofs [CL_ret r1, frOk, rkOk, c1]
  rw [c1] at r1
  cases c2 : setB js.length xs
  · rw [c2] at r2
    simp -implicitDefEqProofs [CL_ret r1, CL_ret r2, frOk, rkOk, c1, c2]
  rw [c2] at r2
  have hk : rkOk js xs = true := by rw [rkOk, c1, c2]; rfl
  obtain ⟨hu, hin, hs⟩ := rkOk_of hk
  obtain ⟨hok, _⟩ := uOk_of hu
  obtain ⟨hn, hg, _⟩ := plOk_of hok
  have rt := l6Timely_run Js Xs hin hx (good_bd hg)
  rw [tim_spec hs] at rt
  simp -implicitDefEqProofs [CL_ret r1, CL_ret r2, CL_ret rt, frOk, hk]
theorem without_run {x : Int} (X : Ints h v xs) (hx : xs.length ≤ 2 ^ 20) : RunsC P G n_impl_without [v, .int .i64 x] h fun w h' => h <+: h' ∧ Own h.length h' w 1 ((outX xs x).map encI) := by
  refine hideC fun K hK => enter_run e_impl_without (by simp) ?_
  have Xs := X
  obtain ⟨ox, cx, rfl⟩ := X.shapeT
  have H0 := own_nil (Holds.start (h := h)) Int encI 1
  simp -implicitDefEqProofs
  refine R_loopO (fun m s h' => ∃ (i : Nat) (w : Value), i + m = xs.length ∧ s = [(1, .int .i64 x), (5, w), (8, .slice ox xs.length cx), (9, .int .i64 xs.length), (10, .int .i64 i)] ∧ Holds h h' [.own w 1 ((outX (xs.take i) x).map encI)]) (fun I hI m s h' => ?_) (n := xs.length) ⟨0, .slice none 0 0, Nat.zero_add _, by simp, by simpa [outX] using H0⟩
  rintro ⟨i, w, hi, rfl, H⟩
  by_cases hlt : i < xs.length
  · have hlt' : (i : Int) < xs.length := by omega
    obtain ⟨y, hyy, _⟩ := drop_at hlt
    have ly := load_I (Xs.pre H.pre) hyy
    have hle : (outX (xs.take i) x).length ≤ xs.length := Nat.le_trans (List.length_filter_le ..) (by rw [List.length_take]; omega)
    have e : outX (xs.take (i + 1)) x = outX (xs.take i) x ++ if y = x then [] else [y] := by
      unfold outX
      rw [take_succ' hyy, List.filter_append]
      congr 1
      by_cases g : y = x <;> simp [List.filter_cons, g]
    by_cases c1 : y = x
    · rw [if_pos c1, List.append_nil] at e
      have c1' : (y != x) = false := by simp [c1]
      have c1'' : (y == x) = true := by simp [c1]
      rw [← e] at H
      simp -implicitDefEqProofs [-indexAddrP_some, hlt, hlt', ly, c1', c1'', c1, winc hlt (by omega)]
      exact ⟨m - 1, by omega, on hI ⟨i + 1, w, by omega, rfl, H⟩⟩
    · rw [if_neg c1] at e
      obtain ⟨v', h2, ha, H2, _⟩ := push_I0 H 0 rfl y (by omega)
      rw [← e] at H2
      simp -implicitDefEqProofs [-indexAddrP_some, hlt, hlt', ly, nb c1, nt c1, ha, winc hlt (by omega)]
      exact ⟨m - 1, by omega, on hI ⟨i + 1, v', by omega, rfl, H2⟩⟩
  · have hlt' : ¬ (i : Int) < xs.length := by omega
    rw [List.take_of_length_le (by omega)] at H
    simp -implicitDefEqProofs [hlt, hlt']
    exact onK hK (H.ret 0 rfl)
theorem implUnitCircuit_run {j : Int} (J : Jobs h vj js) (X : Ints h v xs) (hl : js.length ≤ 2 ^ 40) (hx : xs.length ≤ 2 ^ 10) : RunsC P G n_impl_UnitCircuit [vj, v, .int .i64 j] h fun w h' => h <+: h' ∧ ∃ d, w = .tuple #[d, .bool (ucOk js xs j)] ∧ Ints h' d (ucR js xs j) := by
  refine hideC fun K hK => enter_run e_impl_UnitCircuit (by simp) ?_
  have r1 := areUnit_run J hl
  have r2 := isSetG_run (n := js.length) X (by omega) hl
  have r4 : Ret P G n_impl_isNumber [.int .i64 j, .int .i64 js.length] h (.bool (inB j 0 ((js.length : Int) - 1))) h := by
    have := @isNumber_run h j js.length
    rwa [show w64 ((js.length : Int) - 1) = (js.length : Int) - 1 by unfold w64; rw [wrap_ok] <;> omega] at this
  have r5 := has_run (x := j) X (by omega)
  have Js := J
  have Xs := X
  obtain ⟨oj, cj, rfl⟩ := J.shapeT
  obtain ⟨ox, cx, rfl⟩ := X.shapeT
  cases c1 : uOk js
  · have e : ucOk js xs j = false := by simp [ucOk, frOk, rkOk, c1]
    rw [c1] at r1
    rw [ucR, e] at hK
    simp -implicitDefEqProofs [CL_ret r1]
    exact onK hK ⟨List.prefix_rfl, _, rfl, nil_L⟩
  rw [c1] at r1
  cases c2 : setB js.length xs
  · have e : ucOk js xs j = false := by simp [ucOk, frOk, rkOk, c2]
    rw [c2] at r2
    rw [ucR, e] at hK
    simp -implicitDefEqProofs [CL_ret r1, CL_ret r2]
    exact onK hK ⟨List.prefix_rfl, _, rfl, nil_L⟩
  rw [c2] at r2
  have hk : rkOk js xs = true := by rw [rkOk, c1, c2]; rfl
  obtain ⟨hu, hin, hs⟩ := rkOk_of hk
  obtain ⟨hok, _⟩ := uOk_of hu
  obtain ⟨hn, hg, _⟩ := plOk_of hok
  have r3 := onTime_run Js Xs hin hx (good_bd hg)
  rw [tim_imp (plOk_pl hok)] at r3
  cases c3 : timB js xs
  · have e : ucOk js xs j = false := by simp [ucOk, frOk, c3]
    rw [c3] at r3
    rw [ucR, e] at hK
    simp -implicitDefEqProofs [CL_ret r1, CL_ret r2, CL_ret r3]
    exact onK hK ⟨List.prefix_rfl, _, rfl, nil_L⟩
  rw [c3] at r3
  cases c4 : inB j 0 ((js.length : Int) - 1)
  · have e : ucOk js xs j = false := by simp [ucOk, c4]
    rw [c4] at r4
    rw [ucR, e] at hK
    simp -implicitDefEqProofs [CL_ret r1, CL_ret r2, CL_ret r3, CL_ret r4]
    exact onK hK ⟨List.prefix_rfl, _, rfl, nil_L⟩
  rw [c4] at r4
  cases c5 : hasL j xs
  case true =>
    have e : ucOk js xs j = false := by simp [ucOk, c5]
    rw [c5] at r5
    rw [ucR, e] at hK
    simp -implicitDefEqProofs [CL_ret r1, CL_ret r2, CL_ret r3, CL_ret r4, CL_ret r5]
    exact onK hK ⟨List.prefix_rfl, _, rfl, nil_L⟩
  rw [c5] at r5
  have ij : 0 ≤ j ∧ j < js.length := by
    simp only [inB, Bool.and_eq_true, decide_eq_true_eq] at c4; omega
  simp -implicitDefEqProofs [CL_ret r1, CL_ret r2, CL_ret r3, CL_ret r4, CL_ret r5]
  refine CL_post (copyInts_run Xs (by omega)) fun vc h5 ⟨hp5, o5⟩ => ?_
  have H5 := (Holds.start (h := h)).call hp5 o5
  obtain ⟨ca, cn, cc, rfl⟩ : ∃ a n c, vc = .slice a n c := by obtain ⟨a, c, e⟩ := o5.sees.shape; exact ⟨_, _, _, e⟩
  simp -implicitDefEqProofs
  refine CL_post (putInt_run (x := j) H5 (by omega) hs) fun vp h6 H6 => ?_
  have S6 : Ints h6 vp (putI xs j) := H6.sees 0 rfl
  have pin : inN js.length (putI xs j) := fun y hy => by
    rcases putI_mem.1 hy with rfl | g
    · exact ij
    · exact hin y g
  have pasc := putI_srt (x := j) hs
  have pl := asc_len pasc pin
  have rt := onTime_run (Js.pre H6.pre) S6 pin (by omega) (good_bd hg)
  rw [tim_imp (plOk_pl hok)] at rt
  have hp6 := H6.pre
  have e : ucOk js xs j = !timB js (putI xs j) := by simp [ucOk, frOk, hk, c3, c4, c5]
  cases c6 : timB js (putI xs j)
  case true =>
    obtain ⟨pa, pc, rfl⟩ : ∃ a c, vp = .slice a (putI xs j).length c := S6.shapeT
    rw [c6] at rt
    rw [c6] at e
    rw [ucR, e] at hK
    simp -implicitDefEqProofs [CL_ret rt]
    exact onK hK ⟨pre_gcU hp6, _, rfl, nil_L⟩
  rw [c6] at rt
  rw [c6] at e
  rw [ucR, e, if_pos (by rfl)] at hK
  generalize putI xs j = W at *
  obtain ⟨pa, pc, rfl⟩ : ∃ a c, vp = .slice a W.length c := S6.shapeT
  have H0 := own_nil (Holds.start (h := h6)) Int encI 1
  simp -implicitDefEqProofs [CL_ret rt]
  refine R_loopO (fun m s h' => ∃ (i : Nat) (w : Value), i + m = W.length ∧ s = [(0, .slice oj js.length cj), (2, .int .i64 j), (8, .slice pa W.length pc), (9, w), (47, .slice pa W.length pc), (48, .int .i64 W.length), (49, .int .i64 i)] ∧ Holds h6 h' [.own w 1 (((W.take i).filter (ucK js W j)).map encI)]) (fun I hI m s h' => ?_) (n := W.length) ⟨0, .slice none 0 0, Nat.zero_add _, by simp, by simpa using H0⟩
  rintro ⟨i, w, hi, rfl, H⟩
  by_cases hlt : i < W.length
  · have hlt' : (i : Int) < W.length := by omega
    obtain ⟨x, hx', _⟩ := drop_at hlt
    have ix := pin x (List.mem_of_getElem? hx')
    have lx := load_I (S6.pre H.pre) hx'
    have hle : ((W.take i).filter (ucK js W j)).length ≤ W.length := Nat.le_trans (List.length_filter_le ..) (by rw [List.length_take]; omega)
    have ef : (W.take (i + 1)).filter (ucK js W j) = (W.take i).filter (ucK js W j) ++ if ucK js W j x = true then [x] else [] := by
      rw [take_succ' hx', List.filter_append]
      congr 1
      cases g : ucK js W j x <;> simp [List.filter_cons, g]
    by_cases c7 : x = j
    · have c7' : (x == j) = true := by simpa using c7
      rw [if_pos (by rw [ucK, c7', Bool.true_or])] at ef
      obtain ⟨v', h2, ha, H2, _⟩ := push_I0 H 0 rfl x (by omega)
      rw [← ef] at H2
      simp -implicitDefEqProofs [-indexAddrP_some, hlt, hlt', lx, c7', ha, winc hlt (by omega)]
      exact ⟨m - 1, by omega, on hI ⟨i + 1, v', by omega, rfl, H2⟩⟩
    · simp -implicitDefEqProofs [-indexAddrP_some, hlt, hlt', lx, nb c7, nt c7]
      refine CL_post (without_run (x := x) (S6.pre H.pre) (by omega)) fun vo h7 ⟨hp7, o7⟩ => ?_
      have S7 : Ints h7 vo (outX W x) := o7.sees
      have oin : inN js.length (outX W x) := fun y hy => pin y (List.mem_filter.1 hy).1
      have rt2 := onTime_run (Js.pre (hp6.trans (H.pre.trans hp7))) S7 oin (by have : (outX W x).length ≤ W.length := List.length_filter_le ..; omega) (good_bd hg)
      rw [tim_imp (plOk_pl hok)] at rt2
      have H7 := H.ext hp7
      have ek : ucK js W j x = timB js (outX W x) := by rw [ucK, nb c7, Bool.false_or]
      rw [ek] at ef
      obtain ⟨va, vn, vc2, rfl⟩ : ∃ a n c, vo = .slice a n c := by obtain ⟨a, c, e⟩ := o7.sees.shape; exact ⟨_, _, _, e⟩
      cases c8 : timB js (outX W x)
      · rw [c8] at rt2
        rw [c8, if_neg (by simp), List.append_nil] at ef
        rw [← ef] at H7
        simp -implicitDefEqProofs [CL_ret rt2, winc hlt (by omega)]
        exact ⟨m - 1, by omega, on hI ⟨i + 1, w, by omega, rfl, H7⟩⟩
      · rw [c8] at rt2
        rw [c8, if_pos rfl] at ef
        obtain ⟨v', h2, ha, H2, _⟩ := push_I0 H7 0 rfl x (by omega)
        rw [← ef] at H2
        simp -implicitDefEqProofs [CL_ret rt2, ha, winc hlt (by omega)]
        exact ⟨m - 1, by omega, on hI ⟨i + 1, v', by omega, rfl, H2⟩⟩
  · have hlt' : ¬ (i : Int) < W.length := by omega
    rw [List.take_of_length_le (by omega)] at H
    simp -implicitDefEqProofs [hlt, hlt']
    have S9 : Ints h' w (W.filter (ucK js W j)) := H.sees 0 rfl
    exact onK hK ⟨pre_gcU (hp6.trans H.pre), _, rfl, Sees.gcU S9 fun g => plainT (r := [_]) g⟩
theorem specUnitCircuit_run {j : Int} (J : Jobs h vj js) (X : Ints h v xs) (hl : js.length ≤ 2 ^ 40) (hx : xs.length ≤ 2 ^ 10) : RunsC P G n_spec_UnitCircuit [vj, v, .int .i64 j] h fun w h' => h <+: h' ∧ ∃ d, w = .tuple #[d, .bool (ucOk js xs j)] ∧ Ints h' d (ucR js xs j) := by
  refine hideC fun K hK => enter_run e_spec_UnitCircuit (by simp) ?_
  have r1 := l10Free_run J X hl hx
  have r4 := @l1In_run h j 0 ((js.length : Int) - 1)
  have r5 := l1Has_run (x := j) X (by omega)
  have Js := J
  have Xs := X
  obtain ⟨oj, cj, rfl⟩ := J.shapeT
  obtain ⟨ox, cx, rfl⟩ := X.shapeT
  have w1 : IntKind.i64.wrap ((js.length : Int) - 1) = (js.length : Int) - 1 := by rw [wrap_ok] <;> omega
  have nilE : ∀ h', Ints (h' ++ [some ⟨[], 1, false⟩]) (.slice (some ⟨h'.length, 0, some 0⟩) 0 0) [] := fun h' => ((Holds.start (h := h')).lit (sz := 1) (n := 0) (els := []) (by simp) (by simp)).sees 0 rfl
  cases c1 : frOk js xs
  · have e : ucOk js xs j = false := by simp [ucOk, c1]
    rw [c1] at r1
    rw [ucR, e] at hK
    simp -implicitDefEqProofs [CL_ret r1]
    exact onK hK ⟨List.prefix_rfl, _, rfl, nil_L⟩
  rw [c1] at r1
  cases c4 : inB j 0 ((js.length : Int) - 1)
  · have e : ucOk js xs j = false := by simp [ucOk, c4]
    rw [c4] at r4
    rw [ucR, e] at hK
    simp -implicitDefEqProofs [CL_ret r1, w1, CL_ret r4]
    exact onK hK ⟨List.prefix_rfl, _, rfl, nil_L⟩
  rw [c4] at r4
  cases c5 : hasL j xs
  case true =>
    have e : ucOk js xs j = false := by simp [ucOk, c5]
    rw [c5] at r5
    rw [ucR, e] at hK
    simp -implicitDefEqProofs [CL_ret r1, w1, CL_ret r4, CL_ret r5]
    exact onK hK ⟨List.prefix_rfl, _, rfl, nil_L⟩
  rw [c5] at r5
  have ij : 0 ≤ j ∧ j < js.length := by
    simp only [inB, Bool.and_eq_true, decide_eq_true_eq] at c4; omega
  have hk : rkOk js xs = true := by rw [frOk, Bool.and_eq_true] at c1; exact c1.1
  obtain ⟨hu, hin, hs⟩ := rkOk_of hk
  obtain ⟨hok, _⟩ := uOk_of hu
  obtain ⟨hn, hg, _⟩ := plOk_of hok
  have hxl := asc_len hs hin
  have hjx : j ∉ xs := fun g => by rw [hasL_iff.2 g] at c5; cases c5
  simp -implicitDefEqProofs [CL_ret r1, w1, CL_ret r4, CL_ret r5]
  refine CL_post (l1Put_run (x := j) Xs hx hs) fun vp h6 ⟨hp6, S6⟩ => ?_
  have pin : inN js.length (putI xs j) := fun y hy => by
    rcases putI_mem.1 hy with rfl | g
    · exact ij
    · exact hin y g
  have pasc := putI_srt (x := j) hs
  have pl := asc_len pasc pin
  have rt := l6Timely_run (Js.pre hp6) S6 pin (by omega) (good_bd hg)
  rw [tim_spec pasc] at rt
  have e : ucOk js xs j = !timB js (putI xs j) := by simp [ucOk, c1, c4, c5]
  obtain ⟨pa, pc, rfl⟩ : ∃ a c, vp = .slice a (putI xs j).length c := S6.shapeT
  cases c6 : timB js (putI xs j)
  case true =>
    rw [c6] at rt
    rw [c6] at e
    rw [ucR, e] at hK
    simp -implicitDefEqProofs [CL_ret rt]
    exact onK hK ⟨pre_gcU hp6, _, rfl, nil_L⟩
  rw [c6] at rt
  rw [c6] at e
  rw [ucR, e, if_pos (by rfl), ← sc_eq hs hjx] at hK
  have HL := (Holds.start (h := h6)).lit (sz := 1) (n := 1) (els := [j].map encI) (by simp [encI]) (by simp)
  simp only [List.map_cons, List.map_nil, encI, List.flatten_cons, List.flatten_nil, List.append_nil, List.length_cons, List.length_nil] at HL
  simp -implicitDefEqProofs [CL_ret rt]
  refine R_loopO (fun m s h' => ∃ (i : Nat) (w : Value), i + m = xs.length ∧ s = [(0, .slice oj js.length cj), (1, .slice ox xs.length cx), (2, .int .i64 j), (8, w), (9, .int .i64 i)] ∧ h6 <+: h' ∧ Ints h' w ((xs.take i).foldl (scS js xs j) [j])) (fun I hI m s h' => ?_) (n := xs.length) ⟨0, _, Nat.zero_add _, by simp, List.prefix_append .., HL.sees 0 rfl⟩
  rintro ⟨i, w, hi, rfl, hp, SW⟩
  by_cases hlt : i < xs.length
  · have hlt' : (i : Int) < xs.length := by omega
    obtain ⟨x, hx', _⟩ := drop_at hlt
    have hxm := List.mem_of_getElem? hx'
    have lx := load_I (Xs.pre (hp6.trans hp)) hx'
    obtain ⟨vm, em, Sm⟩ := mid_I (Xs.pre (hp6.trans hp)) hx'
    have wi := winc (i := i) hlt (by omega)
    have fa := sc_asc (js := js) (xs := xs) (j := j) (l := xs.take i) (acc := [j]) (by simp)
    have fm : ∀ y, y ∈ (xs.take i).foldl (scS js xs j) [j] → 0 ≤ y ∧ y < js.length := fun y hy => by
      rcases sc_mem.1 hy with g | ⟨g, _⟩
      · rw [List.mem_singleton] at g; subst g; exact ij
      · exact hin y (List.mem_of_mem_take g)
    have fl := asc_len fa fm
    have et : (xs.take (i + 1)).foldl (scS js xs j) [j] = scS js xs j ((xs.take i).foldl (scS js xs j) [j]) x := by rw [take_succ' hx', List.foldl_append]; rfl
    generalize (xs.take i).foldl (scS js xs j) [j] = acc at *
    obtain ⟨wa, wc, rfl⟩ : ∃ a c, w = .slice a acc.length c := SW.shapeT
    obtain ⟨ma, mc, rfl⟩ : ∃ a c, vm = .slice a ([x] : List Int).length c := Sm.shapeT
    simp -implicitDefEqProofs [hlt, hlt', wi, em]
    refine CL_post (l4Rest_run (Xs.pre (hp6.trans hp)) Sm (by omega) (by simp)) fun vr h7 ⟨hp7, o7⟩ => ?_
    have S7 : Ints h7 vr (delF xs [x]) := o7.sees
    have da : (delF xs [x]).Pairwise (· < ·) := hs.sublist List.filter_sublist
    have dl : (delF xs [x]).length ≤ xs.length := List.length_filter_le ..
    obtain ⟨va, vn, vc2, rfl⟩ : ∃ a n c, vr = .slice a n c := by obtain ⟨a, c, e⟩ := o7.sees.shape; exact ⟨_, _, _, e⟩
    simp -implicitDefEqProofs
    refine CL_post (l1Put_run (x := j) S7 (by omega) da) fun vq h8 ⟨hp8, S8⟩ => ?_
    have qin : inN js.length (putI (delF xs [x]) j) := fun y hy => by
      rcases putI_mem.1 hy with rfl | g
      · exact ij
      · exact hin y (List.mem_filter.1 g).1
    have qasc := putI_srt (x := j) da
    have p8 := hp.trans (hp7.trans hp8)
    have rt2 := l6Timely_run (Js.pre (hp6.trans p8)) S8 qin (by have := asc_len qasc qin; omega) (good_bd hg)
    rw [tim_spec qasc] at rt2
    obtain ⟨qa, qn, qc, rfl⟩ : ∃ a n c, vq = .slice a n c := by obtain ⟨a, c, e⟩ := S8.shape; exact ⟨_, _, _, e⟩
    cases c8 : timB js (putI (delF xs [x]) j)
    · rw [c8] at rt2
      rw [scS, c8, if_neg (by simp)] at et
      simp -implicitDefEqProofs [CL_ret rt2, wi]
      exact ⟨m - 1, by omega, on hI ⟨i + 1, _, by omega, by simp; rfl, p8, by rw [et]; exact SW.pre (hp7.trans hp8)⟩⟩
    · rw [c8] at rt2
      rw [scS, c8, if_pos rfl] at et
      have lx8 := load_I (Xs.pre (hp6.trans p8)) hx'
      simp -implicitDefEqProofs [-indexAddrP_some, CL_ret rt2, lx8]
      refine CL_post (l1Put_run (x := x) (SW.pre (hp7.trans hp8)) (by omega) fa) fun vz h9 ⟨hp9, S9⟩ => ?_
      obtain ⟨za, zn, zc, rfl⟩ : ∃ a n c, vz = .slice a n c := by obtain ⟨a, c, e⟩ := S9.shape; exact ⟨_, _, _, e⟩
      simp -implicitDefEqProofs [wi]
      exact ⟨m - 1, by omega, on hI ⟨i + 1, _, by omega, by simp; rfl, p8.trans hp9, by rw [et]; exact S9⟩⟩
  · have hlt' : ¬ (i : Int) < xs.length := by omega
    rw [List.take_of_length_le (by omega)] at SW
    obtain ⟨wa, wn, wc, rfl⟩ : ∃ a n c, w = .slice a n c := by obtain ⟨a, c, e⟩ := SW.shape; exact ⟨_, _, _, e⟩
    simp -implicitDefEqProofs [hlt, hlt']
    exact onK hK ⟨pre_gcU (hp6.trans hp), _, rfl, Sees.gcU SW fun g => plainT (r := [_]) g⟩
end
end Go.Pm.PP

/- Slots of a timely set of unit jobs, of both. -/
set_option linter.unusedVariables false
set_option linter.unusedSimpArgs false
set_option maxRecDepth 4000
set_option maxHeartbeats 16000000
namespace Go.Pm.PP
open Go.Pm Go.Proofs Go.Pm.PE
def nxS (js : List Job) : List Int → Int
  | [] => 501
  | x :: r => min (nxS js r - 1) (dJ js x)
def tbS (js : List Job) : List Int → List Int
  | [] => List.replicate js.length 0
  | x :: r => (tbS js r).set x.toNat (nxS js (x :: r))
def usF (js : List Job) : List Int → List Int
  | [] => []
  | x :: r => usF js r ++ [nxS js (x :: r)]
def topD (js : List Job) : List Int → Int
  | [] => 500
  | x :: _ => dJ js x
def sOrd (js : List Job) (xs : List Int) : List Int := sortB (dAh js) xs
def slR (js : List Job) (xs : List Int) : List Int := if frOk js xs = true then xs.map fun x => gE (tbS js (sOrd js xs)) x.toNat else []
theorem tbS_len {js : List Job} : ∀ {l : List Int}, (tbS js l).length = js.length
  | [] => by simp [tbS]
  | x :: r => by rw [tbS, List.length_set, tbS_len]
theorem usF_len {js : List Job} : ∀ {l : List Int}, (usF js l).length = l.length
  | [] => rfl
  | x :: r => by rw [usF, List.length_append, usF_len]; rfl
theorem d500 {js : List Job} (hg : goodL js = true) (x : Int) : dJ js x ≤ 500 := by
  unfold dJ
  by_cases h : 0 ≤ x ∧ x < js.length
  · have k := jobOk_jA hg h
    simp only [jobOk, inB, Bool.and_eq_true, decide_eq_true_eq] at k
    omega
  · have e : jA js x = ⟨0, 0, 0, 0⟩ ∨ ∃ i, x.toNat = i ∧ ∃ y, js[i]? = some y ∧ jA js x = y := by
      unfold jA
      cases hx : js[x.toNat]? with
      | none => left; rfl
      | some y => right; exact ⟨_, rfl, y, hx, rfl⟩
    rcases e with e | ⟨i, hi, y, hy, e⟩
    · rw [e]; simp
    · rw [e]
      have k := job_at hg hy
      simp only [jobOk, inB, Bool.and_eq_true, decide_eq_true_eq] at k
      omega
theorem nxS_bd {js : List Job} (hg : goodL js = true) : ∀ {l : List Int}, -(l.length : Int) ≤ nxS js l ∧ nxS js l ≤ 501 - l.length
  | [] => by simp [nxS]
  | x :: r => by
    have := @nxS_bd js hg r
    have := dj_nn hg x
    rw [nxS, List.length_cons]
    omega
theorem nxS_top {js : List Job} (hg : goodL js = true) : ∀ {l : List Int}, (l.Pairwise fun a b => dJ js a ≤ dJ js b) → (∀ z, z ∈ usF js l → nxS js l ≤ z) ∧ ∀ z, nxS js l ≤ z → z ≤ topD js l → z ∈ usF js l
  | [], _ => ⟨fun z h => (by cases h), fun z h1 h2 => by simp [nxS, topD] at h1 h2; omega⟩
  | x :: r, h => by
    have hs := List.pairwise_cons.1 h
    obtain ⟨i1, i2⟩ := nxS_top hg hs.2
    have ht : dJ js x ≤ topD js r := by
      cases r with
      | nil => exact d500 hg x
      | cons y r => exact hs.1 y (List.mem_cons_self ..)
    refine ⟨fun z hz => ?_, fun z h1 h2 => ?_⟩
    · rw [usF, List.mem_append, List.mem_singleton] at hz
      rcases hz with g | g
      · have := i1 z g
        rw [nxS]; omega
      · omega
    · rw [usF, List.mem_append, List.mem_singleton]
      rw [topD] at h2
      by_cases g : nxS js r ≤ z
      · exact .inl (i2 z g (by omega))
      · right
        rw [nxS] at h1 ⊢
        omega
theorem eA_dA {js : List Job} : eAh (js.map (·.d)) = dAh js := by
  have e : ∀ k, gE (js.map (·.d)) k = (js[k]?.getD ⟨0, 0, 0, 0⟩).d := fun k => by
    unfold gE
    rw [List.getElem?_map]
    cases js[k]? <;> rfl
  funext a b
  unfold eAh dAh
  rw [e, e]
  rfl
theorem eP_d {js : List Job} {x z : Int} : eP (js.map (·.d)) x z = decide ((jA js z).d ≤ (jA js x).d) := by
  have e : ∀ k, gE (js.map (·.d)) k = (js[k]?.getD ⟨0, 0, 0, 0⟩).d := fun k => by
    unfold gE
    rw [List.getElem?_map]
    cases js[k]? <;> rfl
  unfold eP
  rw [e, e]
  rfl
section
variable {h : Hp} {vj v u : Value} {js : List Job} {xs ys : List Int}
theorem slots_1_run {a b : Int} {r : Nat} (J : Jobs h vj js) (hb : h[r]? = some (some ⟨[vj], 0, false⟩)) (ha : 0 ≤ a ∧ a < js.length) (hb' : 0 ≤ b ∧ b < js.length) : Ret P G n_impl_UnitSlots_1 [.int .i64 a, .int .i64 b, .pointer (some ⟨r, 0, some 1⟩)] h (.bool (dAh js a b)) h := by
  refine enter_run e_impl_UnitSlots_1 (by simp) ?_
  have lb := load_pre (List.prefix_rfl : h <+: h) hb (n := 1) rfl
  have la := load_JX J ha
  have lc := load_JX J hb'
  obtain ⟨oj, cj, rfl⟩ := J.shapeT
  unfold dAh
  simp -implicitDefEqProofs [-indexAddrP_some, lb, la, lc]
theorem implUnitSlots_run (J : Jobs h vj js) (X : Ints h v xs) (hl : js.length ≤ 2 ^ 40) (hx : xs.length ≤ 2 ^ 10) : RunsC P G n_impl_UnitSlots [vj, v] h fun w h' => h <+: h' ∧ ∃ d, w = .tuple #[d, .bool (frOk js xs)] ∧ Ints h' d (slR js xs) := by
  refine hideC fun K hK => enter_run e_impl_UnitSlots (by simp) ?_
  have Js := J
  have Xs := X
  obtain ⟨oj, cj, rfl⟩ := J.shapeT
  have H0 := (Holds.start (h := h)).alloc [.slice oj js.length cj]
  have pB : h <+: h ++ [some ⟨[.slice oj js.length cj], 0, false⟩] := List.prefix_append ..
  have hbx : (h ++ [some ⟨[Value.slice oj js.length cj], 0, false⟩])[h.length]? = some (some ⟨[.slice oj js.length cj], 0, false⟩) := H0.box 0 rfl
  have r1 := areUnit_run (Js.pre pB) hl
  have r2 := isSetG_run (n := js.length) (Xs.pre pB) (by omega) hl
  have lb := load_pre (List.prefix_rfl) hbx (n := 1) rfl
  obtain ⟨ox, cx, rfl⟩ := X.shapeT
  cases c1 : uOk js
  · have e : frOk js xs = false := by simp [frOk, rkOk, c1]
    rw [c1] at r1
    rw [slR, e] at hK
    simp -implicitDefEqProofs [lb, CL_ret r1]
    exact onK hK ⟨pre_gcU pB, _, rfl, nil_L⟩
  rw [c1] at r1
  cases c2 : setB js.length xs
  · have e : frOk js xs = false := by simp [frOk, rkOk, c2]
    rw [c2] at r2
    rw [slR, e] at hK
    simp -implicitDefEqProofs [lb, CL_ret r1, CL_ret r2]
    exact onK hK ⟨pre_gcU pB, _, rfl, nil_L⟩
  rw [c2] at r2
  have hk : rkOk js xs = true := by rw [rkOk, c1, c2]; rfl
  obtain ⟨hu, hin, hs⟩ := rkOk_of hk
  obtain ⟨hok, _⟩ := uOk_of hu
  obtain ⟨hn, hg, _⟩ := plOk_of hok
  have r3 := onTime_run (Js.pre pB) (Xs.pre pB) hin hx (good_bd hg)
  rw [tim_imp (plOk_pl hok)] at r3
  cases c3 : timB js xs
  · have e : frOk js xs = false := by simp [frOk, c3]
    rw [c3] at r3
    rw [slR, e] at hK
    simp -implicitDefEqProofs [lb, CL_ret r1, CL_ret r2, CL_ret r3]
    exact onK hK ⟨pre_gcU pB, _, rfl, nil_L⟩
  rw [c3] at r3
  have ef : frOk js xs = true := by rw [frOk, hk, c3]; rfl
  rw [slR, ef, if_pos rfl] at hK
  have hxl := asc_len hs hin
  obtain ⟨vs, h1, mk, H1, hp1, os, rfl⟩ := make_I H0 (n := js.length) hl
  have H2 := own_nil H1 Int encI 1
  simp -implicitDefEqProofs [lb, CL_ret r1, CL_ret r2, CL_ret r3, mk]
  refine CL_post (sortedBy_run (ah := dAh js) (Xs.pre H2.pre) (by omega) fun h3 hp3 a b ha hb => ?_) fun vo h4 ⟨hp4, o4⟩ => ?_
  · exact slots_1_run (Js.pre (H2.pre.trans hp3)) ((H2.ext hp3).box 0 rfl) (hin a ha) (hin b hb)
  have H4 := H2.call hp4 o4
  have Oin : inN js.length (sOrd js xs) := fun x hx => hin x (sortB_perm.mem_iff.1 hx)
  have Ol : (sOrd js xs).length = xs.length := sortB_perm.length_eq
  have Os : (sOrd js xs).Pairwise fun a b => dJ js a ≤ dJ js b := dAhL_d
  have hH4 : Holds h h4 [.box h.length [.slice oj js.length cj], .own (.slice os js.length js.length) 1 ((tbS js []).map encI), .own (.slice none 0 0) 1 ((usF js []).map encI), .own vo 1 ((sOrd js xs).map encI)] := H4
  clear H4
  generalize sOrd js xs = O at *
  obtain ⟨oa, oc, rfl⟩ : ∃ a c, vo = .slice a O.length c := (hH4.sees 3 rfl).shapeT
  have w1 : IntKind.i64.wrap ((O.length : Int) - 1) = (O.length : Int) - 1 := by rw [wrap_ok] <;> omega
  simp -implicitDefEqProofs [w1]
  refine R_loopO (fun m s h' => ∃ (vu : Value), m ≤ O.length ∧ s = [(1, .slice ox xs.length cx), (2, .pointer (some ⟨h.length, 0, some 1⟩)), (6, .slice os js.length js.length), (7, vu), (8, .slice oa O.length oc), (9, .int .i64 ((m : Int) - 1))] ∧ Holds h h' [.box h.length [.slice oj js.length cj], .own (.slice os js.length js.length) 1 ((tbS js (O.drop m)).map encI), .own vu 1 ((usF js (O.drop m)).map encI), .own (.slice oa O.length oc) 1 (O.map encI)]) (fun I hI m s h' => ?_) (n := O.length)
    ⟨.slice none 0 0, Nat.le_refl _, by simp, by rw [List.drop_length]; exact hH4⟩
  rintro ⟨vu, hm, rfl, H⟩
  by_cases hm0 : 0 < m
  case neg =>
    have hm1 : ¬ (0 : Int) ≤ (m : Int) - 1 := by omega
    have : m = 0 := by omega
    subst this
    rw [List.drop_zero] at H
    have H5 := own_nil H Int encI 1
    have tl := @tbS_len js O
    generalize tbS js O = T at *
    simp -implicitDefEqProofs
    refine R_loopO (fun m s h2 => ∃ (i : Nat) (w : Value), i + m = xs.length ∧ s = [(6, .slice os js.length js.length), (11, w), (67, .slice ox xs.length cx), (68, .int .i64 xs.length), (69, .int .i64 i)] ∧ Holds h h2 [.box h.length [.slice oj js.length cj], .own (.slice os js.length js.length) 1 (T.map encI), .own vu 1 ((usF js O).map encI), .own (.slice oa O.length oc) 1 (O.map encI), .own w 1 (((xs.take i).map fun x => gE T x.toNat).map encI)]) (fun I2 hI2 m2 s h2 => ?_) (n := xs.length) ⟨0, .slice none 0 0, Nat.zero_add _, by simp, by simpa using H5⟩
    rintro ⟨i, w, hi, rfl, HW⟩
    by_cases hlt : i < xs.length
    · have hlt' : (i : Int) < xs.length := by omega
      obtain ⟨x, hx', _⟩ := drop_at hlt
      have ix := hin x (List.mem_of_getElem? hx')
      have lx := load_I (Xs.pre HW.pre) hx'
      have lt := load_EX (HW.sees 1 rfl) (x := x) (by rw [tl]; exact ix)
      obtain ⟨w', h5, ha, H6, _⟩ := push_I0 HW 4 rfl (gE T x.toNat) (by simp; omega)
      have e : (xs.take (i + 1)).map (fun x => gE T x.toNat) = (xs.take i).map (fun x => gE T x.toNat) ++ [gE T x.toNat] := by rw [take_succ' hx', List.map_append]; rfl
      rw [← e] at H6
      simp -implicitDefEqProofs [-indexAddrP_some, hlt, hlt', lx, lt, ha, winc hlt (by omega)]
      exact ⟨m2 - 1, by omega, on hI2 ⟨i + 1, w', by omega, rfl, H6⟩⟩
    · have hlt' : ¬ (i : Int) < xs.length := by omega
      rw [List.take_of_length_le (by omega)] at HW
      have SW : Ints h2 w (xs.map fun x => gE T x.toNat) := HW.sees 4 rfl
      simp -implicitDefEqProofs [hlt, hlt']
      exact onK hK ⟨pre_gcU HW.pre, _, rfl, Sees.gcU SW fun g => plainT (r := [_]) g⟩
  have hm1 : (0 : Int) ≤ (m : Int) - 1 := by omega
  have hmi : (1 : Int) ≤ (m : Int) := by omega
  obtain ⟨x, hxO, hd⟩ := drop_at (show m - 1 < O.length by omega)
  rw [show m - 1 + 1 = m by omega] at hd
  have ix := Oin x (List.mem_of_getElem? hxO)
  have lO := load_I (H.sees 3 rfl) hxO
  rw [show ((m - 1 : Nat) : Int) = (m : Int) - 1 by omega] at lO
  have lbh := load_pre List.prefix_rfl (H.box 0 rfl) (n := 1) rfl
  have lj := load_JX (Js.pre H.pre) ix
  have edd : (jA js x).d = dJ js x := rfl
  rw [edd] at lj
  have hT := nxS_top hg (l := O.drop m) (Os.sublist (List.drop_sublist ..))
  have hxt : dJ js x ≤ topD js (O.drop m) := by
    have hp := List.Pairwise.sublist (List.drop_sublist (m - 1) O) Os
    rw [hd] at hp
    have := (List.pairwise_cons.1 hp).1
    cases g : O.drop m with
    | nil => exact d500 hg x
    | cons y r => rw [g] at this; exact this y (List.mem_cons_self ..)
  have hb := @nxS_bd js hg (O.drop m)
  have hb2 := d500 hg x
  have hb3 := dj_nn hg x
  have hdl : (O.drop m).length ≤ 2 ^ 10 := by rw [List.length_drop]; omega
  have ul := @usF_len js (O.drop m)
  have etb : tbS js (O.drop (m - 1)) = (tbS js (O.drop m)).set x.toNat (min (nxS js (O.drop m) - 1) (dJ js x)) := by rw [hd]; rfl
  have eus : usF js (O.drop (m - 1)) = usF js (O.drop m) ++ [min (nxS js (O.drop m) - 1) (dJ js x)] := by rw [hd]; rfl
  have tl := @tbS_len js (O.drop m)
  generalize dJ js x = dx at *
  generalize nxS js (O.drop m) = nx at *
  generalize tbS js (O.drop m) = T at *
  generalize topD js (O.drop m) = tp at *
  generalize usF js (O.drop m) = U at *
  obtain ⟨ua, uc, rfl⟩ : ∃ a c, vu = .slice a U.length c := (H.sees 2 rfl).shapeT
  simp -implicitDefEqProofs [-indexAddrP_some, hm1, hmi, lO, lbh, lj]
  refine R_loopO (fun m2 s h2 => ∃ (e : Int), e + 1 ≤ nx + m2 ∧ s = [(1, .slice ox xs.length cx), (2, .pointer (some ⟨h.length, 0, some 1⟩)), (6, .slice os js.length js.length), (7, .slice ua U.length uc), (8, .slice oa O.length oc), (9, .int .i64 ((m : Int) - 1)), (10, .int .i64 e)] ∧ h2 = h' ∧ e ≤ dx ∧ min (nx - 1) dx ≤ e) (fun I2 hI2 m2 s h2 => ?_) (n := (dx + 1 - nx).toNat)
    ⟨dx, by omega, by simp, rfl, by omega, by omega⟩
  rintro ⟨e, he, rfl, rfl, he1, he2⟩
  have rh := has_run (x := e) (H.sees 2 rfl : Ints h2 _ U) (by omega)
  have we : IntKind.i64.wrap (e - 1) = e - 1 := by rw [wrap_ok] <;> omega
  cases c4 : hasL e U
  case true =>
    have := hT.1 e (hasL_iff.1 c4)
    rw [c4] at rh
    simp -implicitDefEqProofs [CL_ret rh, we]
    exact ⟨m2 - 1, by omega, on hI2 ⟨e - 1, by omega, rfl, rfl, by omega, by omega⟩⟩
  case false =>
    have hne : ¬ nx ≤ e := fun g => by
      rw [hasL_iff.2 (hT.2 e g (by omega))] at c4; cases c4
    have ee : e = min (nx - 1) dx := by omega
    rw [c4] at rh
    rw [← ee] at etb eus
    have li := (load_EX (H.sees 1 rfl : Ints h2 _ T) (x := x) (by rw [tl]; exact ix)).1
    obtain ⟨h5, s5, H5, k5⟩ := put_I H 1 rfl (j := x.toNat) (by rw [tl]; omega) e
    obtain ⟨w', h6, ha, H6, _⟩ := push_I0 H5 2 rfl e (by omega)
    rw [← etb, ← eus] at H6
    have wm : IntKind.i64.wrap ((m : Int) - 1 - 1) = ((m - 1 : Nat) : Int) - 1 := by rw [wrap_ok] <;> omega
    simp -implicitDefEqProofs [-indexAddrP_some, CL_ret rh, lO, li, s5, ha, wm]
    exact ⟨m - 1, by omega, on hI ⟨w', by omega, by simp, H6⟩⟩
theorem specUnitSlots_run (J : Jobs h vj js) (X : Ints h v xs) (hl : js.length ≤ 2 ^ 40) (hx : xs.length ≤ 2 ^ 10) : RunsC P G n_spec_UnitSlots [vj, v] h fun w h' => h <+: h' ∧ ∃ d, w = .tuple #[d, .bool (frOk js xs)] ∧ Ints h' d (slR js xs) := by
  refine hideC fun K hK => enter_run e_spec_UnitSlots (by simp) ?_
  have r1 := l10Free_run J X hl hx
  have Js := J
  have Xs := X
  obtain ⟨oj, cj, rfl⟩ := J.shapeT
  obtain ⟨ox, cx, rfl⟩ := X.shapeT
  cases c1 : frOk js xs
  · rw [c1] at r1
    rw [slR, c1] at hK
    simp -implicitDefEqProofs [CL_ret r1]
    exact onK hK ⟨List.prefix_rfl, _, rfl, nil_L⟩
  rw [c1] at r1
  rw [slR, c1, if_pos rfl] at hK
  have hk : rkOk js xs = true := by rw [frOk, Bool.and_eq_true] at c1; exact c1.1
  obtain ⟨hu, hin, hs⟩ := rkOk_of hk
  obtain ⟨hok, _⟩ := uOk_of hu
  obtain ⟨hn, hg, _⟩ := plOk_of hok
  have hxl := asc_len hs hin
  obtain ⟨vs, h1, mk, H1, hp1, os, rfl⟩ := make_I (Holds.start (h := h)) (n := js.length) hl
  have H2 := own_nil H1 Int encI 1
  have e0 : sOrd js xs = xs.foldl (fun l x => insF (eP (js.map (·.d)) x) x l) [] := by
    have := eF_eq (es := js.map (·.d)) hs
    rw [eA_dA] at this
    exact this.symm
  have Oin : inN js.length (sOrd js xs) := fun x hx => hin x (sortB_perm.mem_iff.1 hx)
  have Ol : (sOrd js xs).length = xs.length := sortB_perm.length_eq
  generalize sOrd js xs = O at *
  have H2 : Holds h h1 [.own (.slice os js.length js.length) 1 ((tbS js []).map encI), .own (.slice none 0 0) 1 (([] : List Int).map encI)] := H2
  have nk : newOk h h1 := newOk_of hp1 (make_nr nr_self mk)
  simp -implicitDefEqProofs [CL_ret r1, mk, nk]
  refine R_loopO (fun m s h' => ∃ (i : Nat) (u : Value) (us : List Int), i + m = xs.length ∧ s = [(0, .slice oj js.length cj), (1, .slice ox xs.length cx), (6, u), (7, .int .i64 501), (8, .slice os js.length js.length), (9, .int .i64 i)] ∧ us.length = i ∧ inN js.length us ∧
    O = (xs.drop i).foldl (fun l x => insF (eP (js.map (·.d)) x) x l) us ∧ Holds h h' [.own (.slice os js.length js.length) 1 ((tbS js []).map encI), .own u 1 (us.map encI)]) (fun I hI m s h' => ?_) (n := xs.length) ⟨0, .slice none 0 0, [], Nat.zero_add _, by simp, rfl, fun x hx => by (cases hx), e0, H2⟩
  rintro ⟨i, u, us, hi, rfl, hul, hsub, he, H⟩
  by_cases hlt : i < xs.length
  · obtain ⟨x, hx', hd⟩ := drop_at hlt
    have ix := hin x (List.mem_of_getElem? hx')
    rw [hd, List.foldl_cons] at he
    have S : Ints h' u us := H.sees 1 rfl
    obtain ⟨ou, cu, rfl⟩ : ∃ a c, u = .slice a us.length c := by obtain ⟨a, c, e⟩ := S.shapeT; exact ⟨a, c, e⟩
    have lx := load_I (Xs.pre H.pre) hx'
    have ljx := load_JX (Js.pre H.pre) ix
    have hlt' : (i : Int) < xs.length := by omega
    simp -implicitDefEqProofs [hlt, hlt']
    refine R_loopO (fun m2 s h2 => ∃ (k : Nat), k + m2 = us.length ∧ s = [(0, .slice oj js.length cj), (1, .slice ox xs.length cx), (6, .slice ou us.length cu), (7, .int .i64 501), (8, .slice os js.length js.length), (9, .int .i64 i), (10, .int .i64 k)] ∧ h2 = h' ∧ ∀ j z, j < k → us[j]? = some z → eP (js.map (·.d)) x z = true) (fun I2 hI2 m2 s h2 => ?_) (n := us.length)
      ⟨0, Nat.zero_add _, by simp, rfl, fun i z h => by omega⟩
    rintro ⟨k, hk, rfl, rfl, hall⟩
    have fin : (∀ z, us[k]? = some z → eP (js.map (·.d)) x z = false) → us.take k ++ x :: us.drop k = insF (eP (js.map (·.d)) x) x us := fun g => (insF_take (by omega) hall g).symm
    have hins : (insF (eP (js.map (·.d)) x) x us).length = i + 1 := by rw [insF_perm.length_eq, List.length_cons, hul]
    have hsub' : inN js.length (insF (eP (js.map (·.d)) x) x us) := fun z hz => by
      rcases List.mem_cons.1 (insF_perm.mem_iff.1 hz) with rfl | g
      · exact ix
      · exact hsub z g
    obtain ⟨a3, b3, c3, a4, b4, c4, h4, a5, b5, c5, h5, a6, b6, c6, v7, h7, s3, ha4, no4, ha5, md, no5, s6, ha7, hp4, H7, hp7⟩ := ins_mid H 1 rfl (k := k) (by omega) x (by omega)
    have lx4 := load_I (Xs.pre (H.pre.trans hp4)) hx'
    by_cases hlk : k < us.length
    · obtain ⟨z, hz, _⟩ := drop_at hlk
      have lz := load_I S hz
      have ljz := load_JX (Js.pre H.pre) (hsub z (List.mem_of_getElem? hz))
      have hlk' : (k : Int) < us.length := by omega
      by_cases c1 : (jA js z).d ≤ (jA js x).d
      · have c1' : eP (js.map (·.d)) x z = true := by rw [eP_d]; simpa using c1
        simp -implicitDefEqProofs [-indexAddrP_some, hlk, hlk', lz, ljz, lx, ljx, c1, winc hlk (by omega)]
        exact ⟨m2 - 1, by omega, on hI2 ⟨k + 1, by omega, rfl, rfl, fun j z' h1 h2 => by
          rcases Nat.lt_or_ge j k with g | g
          · exact hall j z' g h2
          · have : j = k := by omega
            subst this
            rw [hz] at h2; cases h2; exact c1'⟩⟩
      · have c1' : eP (js.map (·.d)) x z = false := by rw [eP_d]; simpa using c1
        rw [fin (fun z' g => by rw [hz] at g; cases g; exact c1')] at H7
        simp -implicitDefEqProofs [-indexAddrP_some, hlk, hlk', lz, ljz, lx, ljx, lx4, c1, s3, ha4, no4, ha5, md, no5, s6, ha7, winc hlt (by omega)]
        exact ⟨m - 1, by omega, on hI ⟨i + 1, v7, _, by omega, by simp, hins, hsub', he, H7⟩⟩
    · rw [fin (fun z' g => by rw [List.getElem?_eq_none (by omega)] at g; cases g)] at H7
      have hlk' : ¬ (k : Int) < us.length := by omega
      simp -implicitDefEqProofs [-indexAddrP_some, hlk, hlk', lx, lx4, s3, ha4, no4, ha5, md, no5, s6, ha7, winc hlt (by omega)]
      exact ⟨m - 1, by omega, on hI ⟨i + 1, v7, _, by omega, by simp, hins, hsub', he, H7⟩⟩
  have hlt' : ¬ (i : Int) < xs.length := by omega
  rw [List.drop_eq_nil_of_le (by omega), List.foldl_nil] at he
  subst he
  obtain ⟨oa, oc, rfl⟩ : ∃ a c, u = .slice a O.length c := (H.sees 1 rfl).shapeT
  have w1 : IntKind.i64.wrap ((O.length : Int) - 1) = (O.length : Int) - 1 := by rw [wrap_ok] <;> omega
  simp -implicitDefEqProofs [hlt, hlt', w1]
  refine R_loopO (fun m s h2 => m ≤ O.length ∧ s = [(0, .slice oj js.length cj), (1, .slice ox xs.length cx), (6, .slice oa O.length oc), (7, .int .i64 (nxS js (O.drop m))), (8, .slice os js.length js.length), (11, .int .i64 ((m : Int) - 1))] ∧ Holds h h2 [.own (.slice os js.length js.length) 1 ((tbS js (O.drop m)).map encI), .own (.slice oa O.length oc) 1 (O.map encI)]) (fun I2 hI2 m2 s h2 => ?_) (n := O.length)
    ⟨Nat.le_refl _, by simp [nxS], by rw [List.drop_length]; exact H⟩
  clear H
  rintro ⟨hm, rfl, H⟩
  by_cases hm0 : 0 < m2
  case neg =>
    have hm1 : ¬ (0 : Int) ≤ (m2 : Int) - 1 := by omega
    have : m2 = 0 := by omega
    subst this
    rw [List.drop_zero] at H
    have H5 := own_nil H Int encI 1
    have tl := @tbS_len js O
    generalize tbS js O = T at *
    simp -implicitDefEqProofs
    refine R_loopO (fun m s h3 => ∃ (i : Nat) (w : Value), i + m = xs.length ∧ s = [(1, .slice ox xs.length cx), (8, .slice os js.length js.length), (12, w), (13, .int .i64 i)] ∧ Holds h h3 [.own (.slice os js.length js.length) 1 (T.map encI), .own (.slice oa O.length oc) 1 (O.map encI), .own w 1 (((xs.take i).map fun x => gE T x.toNat).map encI)]) (fun I3 hI3 m3 s h3 => ?_) (n := xs.length) ⟨0, .slice none 0 0, Nat.zero_add _, by simp, by simpa using H5⟩
    rintro ⟨i, w, hi, rfl, HW⟩
    by_cases hlt : i < xs.length
    · have hlt' : (i : Int) < xs.length := by omega
      obtain ⟨x, hx', _⟩ := drop_at hlt
      have ix := hin x (List.mem_of_getElem? hx')
      have lx := load_I (Xs.pre HW.pre) hx'
      have lt := load_EX (HW.sees 0 rfl) (x := x) (by rw [tl]; exact ix)
      obtain ⟨w', h5, ha, H6, _⟩ := push_I0 HW 2 rfl (gE T x.toNat) (by simp; omega)
      have e : (xs.take (i + 1)).map (fun x => gE T x.toNat) = (xs.take i).map (fun x => gE T x.toNat) ++ [gE T x.toNat] := by rw [take_succ' hx', List.map_append]; rfl
      rw [← e] at H6
      simp -implicitDefEqProofs [-indexAddrP_some, hlt, hlt', lx, lt, ha, winc hlt (by omega)]
      exact ⟨m3 - 1, by omega, on hI3 ⟨i + 1, w', by omega, rfl, H6⟩⟩
    · have hlt' : ¬ (i : Int) < xs.length := by omega
      rw [List.take_of_length_le (by omega)] at HW
      have SW : Ints h3 w (xs.map fun x => gE T x.toNat) := HW.sees 2 rfl
      simp -implicitDefEqProofs [hlt, hlt']
      exact onK hK ⟨pre_gcU HW.pre, _, rfl, Sees.gcU SW fun g => plainT (r := [_]) g⟩
  have hm1 : (0 : Int) ≤ (m2 : Int) - 1 := by omega
  have hmi : (1 : Int) ≤ (m2 : Int) := by omega
  obtain ⟨x, hxO, hd⟩ := drop_at (show m2 - 1 < O.length by omega)
  rw [show m2 - 1 + 1 = m2 by omega] at hd
  have ix := Oin x (List.mem_of_getElem? hxO)
  have lO := load_I (H.sees 1 rfl) hxO
  rw [show ((m2 - 1 : Nat) : Int) = (m2 : Int) - 1 by omega] at lO
  have lj := load_JX (Js.pre H.pre) ix
  have edd : (jA js x).d = dJ js x := rfl
  rw [edd] at lj
  have hb := @nxS_bd js hg (O.drop m2)
  have hdl : (O.drop m2).length ≤ 2 ^ 10 := by rw [List.length_drop]; omega
  have etb : tbS js (O.drop (m2 - 1)) = (tbS js (O.drop m2)).set x.toNat (min (nxS js (O.drop m2) - 1) (dJ js x)) := by rw [hd]; rfl
  have enx : nxS js (O.drop (m2 - 1)) = min (nxS js (O.drop m2) - 1) (dJ js x) := by rw [hd]; rfl
  have tl := @tbS_len js (O.drop m2)
  generalize dJ js x = dx at *
  generalize nxS js (O.drop m2) = nx at *
  generalize tbS js (O.drop m2) = T at *
  have wn : IntKind.i64.wrap (nx - 1) = nx - 1 := by rw [wrap_ok] <;> omega
  have rl := @l1Least_run h2 (nx - 1) dx
  have li := (load_EX (H.sees 0 rfl : Ints h2 _ T) (x := x) (by rw [tl]; exact ix)).1
  obtain ⟨h5, s5, H5, k5⟩ := put_I H 0 rfl (j := x.toNat) (by rw [tl]; omega) (min (nx - 1) dx)
  rw [← etb] at H5
  have wm : IntKind.i64.wrap ((m2 : Int) - 1 - 1) = ((m2 - 1 : Nat) : Int) - 1 := by rw [wrap_ok] <;> omega
  simp -implicitDefEqProofs [-indexAddrP_some, hm1, hmi, lO, lj, wn, CL_ret rl, li, s5, wm]
  exact ⟨m2 - 1, by omega, on hI2 ⟨by omega, by rw [enx], H5⟩⟩
end
end Go.Pm.PP

/- Draws of FnUnitJobs. -/
set_option linter.unusedVariables false
set_option linter.unusedSimpArgs false
set_option maxRecDepth 4000
set_option maxHeartbeats 16000000
namespace Go.Pm.PP
open Go.Pm Go.Proofs Go.Pm.PE
section
variable {h : Hp} {vj v u : Value} {js : List Job} {xs ys : List Int}
theorem l1Put_own {x : Int} (X : Ints h v xs) (hl : xs.length ≤ 2 ^ 10) (hs : xs.Pairwise (· < ·)) (hx : x ∉ xs) : RunsC P G n_spec_l1Put [v, .int .i64 x] h fun w h' => h <+: h' ∧ Own h.length h' w 1 ((putI xs x).map encI) := by
  refine hideC fun K hK => enter_run e_spec_l1Put (by simp) ?_
  have Xs := X
  obtain ⟨ox, cx, rfl⟩ := X.shapeT
  simp -implicitDefEqProofs
  refine R_loopO (fun m s h2 => ∃ (k : Nat), k + m = xs.length ∧ s = [(0, .slice ox xs.length cx), (1, .int .i64 x), (5, .int .i64 k)] ∧ h2 = h ∧ ∀ j z, j < k → xs[j]? = some z → z < x) (fun I hI m s h2 => ?_) (n := xs.length)
    ⟨0, Nat.zero_add _, by simp, rfl, fun i z h => by omega⟩
  rintro ⟨k, hk, rfl, rfl, hall⟩
  have fin : (∀ z, xs[k]? = some z → x < z) → ∃ (a3 : Option Addr) (b3 c3 : Nat) (a4 : Option Addr) (b4 c4 : Nat) (h4 : Hp) (a5 : Option Addr) (b5 c5 : Nat) (h5 : Hp) (a6 : Option Addr) (b6 c6 : Nat) (a7 : Option Addr) (b7 c7 : Nat) (h7 : Hp),
      sliceP P h2 t_S_int (.slice ox xs.length cx) none (some (.int .i64 k)) = some (.slice a3 b3 c3) ∧ appendP P h2 t_S_int (.slice none 0 0) (.slice a3 b3 c3) = some (.slice a4 b4 c4, h4) ∧ newOk h2 h4 ∧
      appendP P (h4 ++ [some ⟨[.int .i64 x], 1, false⟩]) t_S_int (.slice a4 b4 c4) (.slice (some ⟨h4.length, 0, some 1⟩) 1 1) = some (.slice a5 b5 c5, h5) ∧ modOk h2.length (h4 ++ [some ⟨[.int .i64 x], 1, false⟩]) h5 ∧ newOk h2 h5 ∧
      sliceP P h5 t_S_int (.slice ox xs.length cx) (some (.int .i64 k)) none = some (.slice a6 b6 c6) ∧ appendP P h5 t_S_int (.slice a5 b5 c5) (.slice a6 b6 c6) = some (.slice a7 b7 c7, h7) ∧ K (.slice a7 b7 c7) (gc h2 h7 (.slice a7 b7 c7)) := fun g => by
    obtain ⟨a3, b3, c3, a4, b4, c4, h4, a5, b5, c5, h5, a6, b6, c6, a7, b7, c7, h7, s3, ha4, no4, ha5, md, no5, s6, ha7, hp4, H7, hp7⟩ := ins_see Xs (k := k) (by omega) x (by omega)
    refine ⟨a3, b3, c3, a4, b4, c4, h4, a5, b5, c5, h5, a6, b6, c6, a7, b7, c7, h7, s3, ha4, no4, ha5, md, no5, s6, ha7, ?_⟩
    have e : putI xs x = xs.take k ++ x :: xs.drop k := by
      have hn : xs.any (· == x) = false := by
        rw [List.any_eq_false]
        intro z hz g
        simp only [beq_iff_eq] at g
        subst g
        exact hx hz
      unfold putI
      rw [hn, if_neg (by simp)]
      exact insF_take (by omega) (fun i z h1 h2 => by simpa using hall i z h1 h2) (fun z hz => by have := g z hz; simp; omega)
    rw [e] at hK
    exact onK hK (H7.ret 0 rfl)
  by_cases hlt : k < xs.length
  · obtain ⟨z, hz, _⟩ := drop_at hlt
    have hlt' : (k : Int) < xs.length := by omega
    by_cases c1 : z < x
    · simp -implicitDefEqProofs [-indexAddrP_some, hlt, hlt', load_I Xs hz, c1, winc hlt (by omega)]
      exact ⟨m - 1, by omega, on hI ⟨k + 1, by omega, rfl, rfl, fun j z' h1 h2 => by
        rcases Nat.lt_or_ge j k with g | g
        · exact hall j z' g h2
        · have : j = k := by omega
          subst this
          rw [hz] at h2; cases h2; exact c1⟩⟩
    · by_cases c2 : z = x
      · subst c2
        exact absurd (List.mem_of_getElem? hz) hx
      · rcases fin (fun z' g => by rw [hz] at g; cases g; omega) with ⟨a3, b3, c3, a4, b4, c4, h4, a5, b5, c5, h5, a6, b6, c6, a7, b7, c7, h7, s3, ha4, no4, ha5, md, no5, s6, ha7, fK⟩
        · simp -implicitDefEqProofs [-indexAddrP_some, hlt, hlt', load_I Xs hz, c1, nb c2, s3, ha4, no4, ha5, md, no5, s6, ha7]
          exact fK
  · rcases fin (fun z' g => by rw [List.getElem?_eq_none (by omega)] at g; cases g) with ⟨a3, b3, c3, a4, b4, c4, h4, a5, b5, c5, h5, a6, b6, c6, a7, b7, c7, h7, s3, ha4, no4, ha5, md, no5, s6, ha7, fK⟩
    have hlt' : ¬ (k : Int) < xs.length := by omega
    simp -implicitDefEqProofs [hlt, hlt', s3, ha4, no4, ha5, md, no5, s6, ha7]
    exact fK
end
section
variable {h0 h : Hp} {r n : Nat} {vc : Value} {L : List Asn}
theorem units_run (B : By h0 vc) (C : Cur h0 h r vc n L) (hn : n ≤ 2 ^ 17) : RunsC P G n_spec_l1Cur_units [.pointer (some ⟨r, 0, some 3⟩)] h fun v h' => ∃ js : List Job, js.length ≤ 9 ∧ Cur h0 h' r vc (n + 300) (L ++ [.own v 4 (js.map encJ)]) := by
  refine hideC fun K hK => enter_run e_spec_l1Cur_units (by simp) ?_
  simp -implicitDefEqProofs
  refine CL_post (plainJobs_run B C (by omega) (most := 8) (by omega)) fun v h1 ⟨js, hl, C1⟩ => ?_
  obtain ⟨ua, uc, rfl⟩ : ∃ a c, v = .slice a js.length c := C1.seesJ.shapeT
  simp -implicitDefEqProofs
  refine R_loopO (fun m st h' => ∃ (i : Nat) (ks : List Job), i + m = js.length ∧ st = [(0, .pointer (some ⟨r, 0, some 3⟩)), (3, .slice ua js.length uc), (4, .int .i64 i)] ∧ ks.length = js.length ∧ Cur h0 h' r vc (n + 202 + 4 * i) (L ++ [.own (.slice ua js.length uc) 4 (ks.map encJ)])) (fun I hI m st h' => ?_) (n := js.length)
    ⟨0, js, Nat.zero_add _, by simp, rfl, C1.mono (by omega)⟩
  rintro ⟨i, ks, hi, rfl, hkl, C2⟩
  by_cases hlt : i < js.length
  · have hlt' : (i : Int) < js.length := by omega
    obtain ⟨y, hy, _⟩ := drop_at (show i < ks.length by omega)
    have lj := load_J C2.seesJ hy
    simp -implicitDefEqProofs [hlt, hlt']
    refine CL_post (one_run B C2 (by omega) (k := 16) (by omega)) fun v h2 ⟨b, ev, C3⟩ => ?_
    subst ev
    cases b
    · have lj3 := load_J C3.seesJ hy
      obtain ⟨h4, s4, C4⟩ := (C3.fputJ hy 1).1
      have hy4 : (ks.set i ⟨1, y.w, y.r, y.d⟩)[i]? = some ⟨1, y.w, y.r, y.d⟩ := by
        rw [List.getElem?_set_self (by omega)]
      have lj4 := load_J C4.seesJ hy4
      by_cases c1 : 5 < y.d
      · by_cases c2 : y.d < 400
        · simp -implicitDefEqProofs [-indexAddrP_some, lj3, s4, lj4, c1, c2]
          refine CL_post (pick_run B C4 (by omega) (k := 5) (by omega)) fun v h5 ⟨q, ev, _, _, _, C5⟩ => ?_
          subst ev
          have lj5 := load_J C5.seesJ hy4
          obtain ⟨h6, s6, C6⟩ := C5.putD hy4 q
          simp -implicitDefEqProofs [-indexAddrP_some, lj5, s6, winc hlt (by omega)]
          exact ⟨m - 1, by omega, on hI ⟨i + 1, _, by omega, by simp, by rw [List.length_set, List.length_set]; exact hkl, C6.mono (by omega)⟩⟩
        · simp -implicitDefEqProofs [-indexAddrP_some, lj3, s4, lj4, c1, c2, winc hlt (by omega)]
          exact ⟨m - 1, by omega, on hI ⟨i + 1, _, by omega, by simp, by rw [List.length_set]; exact hkl, C4.mono (by omega)⟩⟩
      · simp -implicitDefEqProofs [-indexAddrP_some, lj3, s4, lj4, c1, winc hlt (by omega)]
        exact ⟨m - 1, by omega, on hI ⟨i + 1, _, by omega, by simp, by rw [List.length_set]; exact hkl, C4.mono (by omega)⟩⟩
    · simp -implicitDefEqProofs
      exact onK hK ⟨ks, by omega, C.gcO (C3.mono (by omega)) (fun h => h)⟩
  · have hlt' : ¬ (i : Int) < js.length := by omega
    simp -implicitDefEqProofs [hlt, hlt']
    exact onK hK ⟨ks, by omega, C.gcO (C2.mono (by omega)) (fun h => h)⟩
theorem subset_run (B : By h0 vc) {u : Value} {js : List Job} {i : Nat} (C : Cur h0 h r vc n L) (hi : L[i]? = some (.own u 4 (js.map encJ))) (hj : js.length ≤ 9) (hn : n ≤ 2 ^ 18) :
    RunsC P G n_spec_l1Cur_subset [.pointer (some ⟨r, 0, some 3⟩), u] h fun v h' => ∃ xs : List Int, xs.length ≤ 10 ∧ Cur h0 h' r vc (n + 10) (L ++ [.own v 1 (xs.map encI)]) := by
  refine hideC fun K hK => enter_run e_spec_l1Cur_subset (by simp) ?_
  have J : Jobs h u js := by
    have C' : Cur h0 h r vc n (L ++ []) := by rw [List.append_nil]; exact C
    exact C'.seesAt hi
  obtain ⟨ja, jc, rfl⟩ : ∃ a c, u = .slice a js.length c := J.shapeT
  have rl := @l1Least_run h js.length 8
  rw [show min (js.length : Int) 8 = ((min js.length 8 : Nat) : Int) by omega] at rl
  simp -implicitDefEqProofs [CL_ret rl]
  refine CL_post (pick_run B C (by omega) (k := 256) (by omega)) fun v h1 ⟨q, ev, q0, _, q1, C1⟩ => ?_
  subst ev
  obtain ⟨c, rfl⟩ : ∃ c : Nat, q = c := ⟨q.toNat, by omega⟩
  have hc := q1 (by omega)
  have hm : min js.length 8 ≤ 60 := by omega
  have hb8 : (bitsL (min js.length 8) c).length ≤ 9 := Nat.le_trans bits_len (by omega)
  generalize hM : min js.length 8 = M at *
  have em : min (js.length : Int) 8 = (M : Int) := by omega
  simp -implicitDefEqProofs [em]
  refine CL_post (l4Set_run (n := M) (c := c) hm (by omega)) fun w h2 ⟨hp2, o2⟩ => ?_
  have C2 := C1.join ((Holds.start (h := h1)).call hp2 o2)
  generalize bitsL M c = xs at *
  obtain ⟨xa, xc, rfl⟩ : ∃ a c, w = .slice a xs.length c := C2.seesI.shapeT
  simp -implicitDefEqProofs
  refine CL_post (one_run B C2 (by omega) (k := 16) (by omega)) fun v h3 ⟨b, ev, C3⟩ => ?_
  subst ev
  cases b
  · simp -implicitDefEqProofs
    exact onK hK ⟨xs, by omega, C.gcO (C3.mono (by omega)) (fun h => h)⟩
  · simp -implicitDefEqProofs
    refine CL_post (among_run B (C3.lit [-1, 0, (js.length : Int)]) (by omega) snoc_get (by simp) (by simp)) fun v h7 ⟨z, ev, _, C7⟩ => ?_
    subst ev
    obtain ⟨u', h8, a8, C8⟩ := C7.weak.pushI z (by omega)
    obtain ⟨ub, ud, rfl⟩ : ∃ a c, u' = .slice a (xs ++ [z]).length c := C8.seesI.shapeT
    simp only [List.length_append, List.length_cons, List.length_nil, Nat.zero_add] at a8 C8
    simp -implicitDefEqProofs [a8]
    exact onK hK ⟨xs ++ [z], by simp; omega, C.gcO (C8.mono (by omega)) (fun h => h)⟩
theorem free_run (B : By h0 vc) {u : Value} {js : List Job} {i : Nat} (C : Cur h0 h r vc n L) (hi : L[i]? = some (.own u 4 (js.map encJ))) (hj : js.length ≤ 9) (hn : n ≤ 2 ^ 18) :
    RunsC P G n_spec_l1Cur_free [.pointer (some ⟨r, 0, some 3⟩), u] h fun v h' => ∃ xs : List Int, xs.length ≤ 10 ∧ Cur h0 h' r vc (n + 20) (L ++ [.own v 1 (xs.map encI)]) := by
  refine hideC fun K hK => enter_run e_spec_l1Cur_free (by simp) ?_
  have J : Jobs h u js := by
    have C' : Cur h0 h r vc n (L ++ []) := by rw [List.append_nil]; exact C
    exact C'.seesAt hi
  obtain ⟨ja, jc, rfl⟩ : ∃ a c, u = .slice a js.length c := J.shapeT
  simp -implicitDefEqProofs
  refine CL_post (subset_run B C hi hj (by omega)) fun w h1 ⟨xs, hxl, C1⟩ => ?_
  have r1 := l10Unit_run (C1.seesAt hi : Jobs h1 _ js) (by omega)
  have r2 := l6SetG_run (C1.seesAt hi : Jobs h1 _ js) C1.seesI (by omega) (by omega)
  obtain ⟨xa, xc, rfl⟩ : ∃ a c, w = .slice a xs.length c := C1.seesI.shapeT
  cases c1 : uOk js
  · rw [c1] at r1
    simp -implicitDefEqProofs [CL_ret r1]
    exact onK hK ⟨xs, hxl, C.gcO (C1.mono (by omega)) (fun h => h)⟩
  rw [c1] at r1
  cases c2 : setB js.length xs
  · rw [c2] at r2
    simp -implicitDefEqProofs [CL_ret r1, CL_ret r2]
    exact onK hK ⟨xs, hxl, C.gcO (C1.mono (by omega)) (fun h => h)⟩
  rw [c2] at r2
  have hk : rkOk js xs = true := by rw [rkOk, c1, c2]; rfl
  obtain ⟨hu, hin, hs⟩ := rkOk_of hk
  obtain ⟨hok, _⟩ := uOk_of hu
  obtain ⟨hn8, hg, _⟩ := plOk_of hok
  simp -implicitDefEqProofs [CL_ret r1, CL_ret r2]
  refine CL_post (one_run B C1 (by omega) (k := 12) (by omega)) fun v h2 ⟨b, ev, C2⟩ => ?_
  subst ev
  cases b
  case true =>
    simp -implicitDefEqProofs
    exact onK hK ⟨xs, hxl, C.gcO (C2.mono (by omega)) (fun h => h)⟩
  simp -implicitDefEqProofs
  refine R_loopO (fun m st h' => ∃ (k : Nat) (T : List Int) (w : Value), k + m = xs.length ∧ st = [(1, .slice ja js.length jc), (5, .slice xa xs.length xc), (6, w), (7, .int .i64 k)] ∧ T.Pairwise (· < ·) ∧ (∀ y, y ∈ T → y ∈ xs.take k) ∧ Cur h0 h' r vc (n + 20) ((L ++ [.own (.slice xa xs.length xc) 1 (xs.map encI)]) ++ [.own w 1 (T.map encI)])) (fun I hI m st h' => ?_) (n := xs.length)
    ⟨0, [], .slice none 0 0, Nat.zero_add _, by simp, List.Pairwise.nil, fun y h => (by cases h), (C2.nil Int encI 1).mono (by omega)⟩
  rintro ⟨k, T, w, hk, rfl, hT, hTm, C3⟩
  have Tin : inN js.length T := fun y hy => hin y (List.mem_of_mem_take (hTm y hy))
  have Tl := asc_len hT Tin
  obtain ⟨wa, wc, rfl⟩ : ∃ a c, w = .slice a T.length c := C3.seesI.shapeT
  have hi3 : (L ++ [.own (.slice xa xs.length xc) 1 (xs.map encI)])[i]? = some (.own (.slice ja js.length jc) 4 (js.map encJ)) := by
    rw [List.getElem?_append_left (List.getElem?_eq_some_iff.1 hi).1]; exact hi
  by_cases hlt : k < xs.length
  · have hlt' : (k : Int) < xs.length := by omega
    obtain ⟨x, hx, _⟩ := drop_at hlt
    have ix := hin x (List.mem_of_getElem? hx)
    have lx := load_I (C3.seesAt (i := L.length) snoc_get : Ints h' _ xs) hx
    have hni : x ∉ T := fun g => by
      obtain ⟨q, hq⟩ := List.getElem?_of_mem (hTm x g)
      have hq1 := (List.getElem?_eq_some_iff.1 hq).1
      rw [List.length_take] at hq1
      rw [List.getElem?_take_of_lt (by omega)] at hq
      have := List.pairwise_iff_getElem.1 hs q k (by omega) hlt (by omega)
      rw [(List.getElem?_eq_some_iff.1 hq).2, (List.getElem?_eq_some_iff.1 hx).2] at this
      omega
    simp -implicitDefEqProofs [-indexAddrP_some, hlt, hlt', lx]
    refine CL_post (l1Put_own (x := x) C3.seesI (by omega) hT hni) fun vp h6 ⟨hp6, o6⟩ => ?_
    have C4 := C3.join ((Holds.start (h := h')).call hp6 o6)
    have S6 : Ints h6 vp (putI T x) := o6.sees
    have pin : inN js.length (putI T x) := fun y hy => by
      rcases putI_mem.1 hy with rfl | g
      · exact ix
      · exact Tin y g
    have pasc := putI_srt (x := x) hT
    have C4' : Cur h0 h6 r vc (n + 20) ((L ++ [.own (.slice xa xs.length xc) 1 (xs.map encI)]) ++ ([.own (.slice wa T.length wc) 1 (T.map encI)] ++ [.own vp 1 ((putI T x).map encI)])) := by
      rw [← List.append_assoc]; exact C4
    have rt := l6Timely_run (C4'.seesAt hi3 : Jobs h6 _ js) S6 pin (by have := asc_len pasc pin; omega) (good_bd hg)
    rw [tim_spec pasc] at rt
    obtain ⟨pa, pc, rfl⟩ : ∃ a c, vp = .slice a (putI T x).length c := S6.shapeT
    cases c3 : timB js (putI T x)
    · rw [c3] at rt
      simp -implicitDefEqProofs [CL_ret rt, winc hlt (by omega)]
      exact ⟨m - 1, by omega, on hI ⟨k + 1, T, _, by omega, by simp, hT, fun y hy => by rw [take_succ' hx]; exact List.mem_append_left _ (hTm y hy), C4.weak⟩⟩
    · rw [c3] at rt
      simp -implicitDefEqProofs [CL_ret rt, winc hlt (by omega)]
      exact ⟨m - 1, by omega, on hI ⟨k + 1, putI T x, _, by omega, by simp, pasc, fun y hy => by
        rw [take_succ' hx]
        rcases putI_mem.1 hy with rfl | g
        · exact List.mem_append_right _ (List.mem_singleton.2 rfl)
        · exact List.mem_append_left _ (hTm y g), C4.swapW⟩⟩
  · have hlt' : ¬ (k : Int) < xs.length := by omega
    simp -implicitDefEqProofs [hlt, hlt']
    exact onK hK ⟨T, by omega, C.gcO (C3.swapW.mono (by omega)) (fun h => h)⟩
end
theorem DrawUnitGreedy_run {h : Hp} {vc : Value} (B : By h vc) : RunsC P G n_spec_DrawUnitGreedy [vc] h fun v h' => h <+: h' ∧ ∃ js : List Job, js.length ≤ 9 ∧ Jobs h' v js := by
  refine hideC fun K hK => enter_run e_spec_DrawUnitGreedy (by simp) ?_
  have C0 : Cur h (h ++ [some ⟨[vc, .int .i64 0, .int .u64 0], 0, false⟩]) h.length vc 0 [] := ⟨0, 0, by omega, by omega, (Holds.start (h := h)).alloc _⟩
  obtain ⟨bs, Sb, hb, hbl⟩ := B
  have Bs : By h vc := ⟨bs, Sb, hb, hbl⟩
  obtain ⟨ob, cb, rfl⟩ := Sb.shapeT
  simp -implicitDefEqProofs
  refine CL_post (units_run Bs C0 (by omega)) fun u h2 ⟨js, hl, C2⟩ => ?_
  obtain ⟨ua, uc, rfl⟩ : ∃ a c, u = .slice a js.length c := C2.seesJ.shapeT
  simp -implicitDefEqProofs
  exact onK hK ⟨pre_gcU C2.pre, js, hl, Sees.gcU C2.seesJ fun g => g⟩
theorem DrawUnitRank_run {h : Hp} {vc : Value} (B : By h vc) : RunsC P G n_spec_DrawUnitRank [vc] h fun v h' => h <+: h' ∧ ∃ (js : List Job) (xs : List Int) (u w : Value), v = .tuple #[u, w] ∧ js.length ≤ 9 ∧ xs.length ≤ 10 ∧ Jobs h' u js ∧ Ints h' w xs := by
  refine hideC fun K hK => enter_run e_spec_DrawUnitRank (by simp) ?_
  have C0 : Cur h (h ++ [some ⟨[vc, .int .i64 0, .int .u64 0], 0, false⟩]) h.length vc 0 [] := ⟨0, 0, by omega, by omega, (Holds.start (h := h)).alloc _⟩
  obtain ⟨bs, Sb, hb, hbl⟩ := B
  have Bs : By h vc := ⟨bs, Sb, hb, hbl⟩
  obtain ⟨ob, cb, rfl⟩ := Sb.shapeT
  simp -implicitDefEqProofs
  refine CL_post (units_run Bs C0 (by omega)) fun u h2 ⟨js, hl, C2⟩ => ?_
  obtain ⟨ua, uc, rfl⟩ : ∃ a c, u = .slice a js.length c := C2.seesJ.shapeT
  simp -implicitDefEqProofs
  refine CL_post (subset_run Bs C2 (i := 0) rfl hl (by omega)) fun w h3 ⟨xs, hxl, C3⟩ => ?_
  obtain ⟨wa, wc, rfl⟩ : ∃ a c, w = .slice a xs.length c := C3.seesI.shapeT
  have J6 : Jobs h3 (.slice ua js.length uc) js := C3.seesAt (i := 0) rfl
  have fin := gc_JX (r := []) C3.pre J6 C3.seesI
  simp -implicitDefEqProofs
  exact onK hK ⟨fin.1, js, xs, _, _, rfl, hl, by omega, fin.2⟩
theorem DrawUnitSlots_run {h : Hp} {vc : Value} (B : By h vc) : RunsC P G n_spec_DrawUnitSlots [vc] h fun v h' => h <+: h' ∧ ∃ (js : List Job) (xs : List Int) (u w : Value), v = .tuple #[u, w] ∧ js.length ≤ 9 ∧ xs.length ≤ 10 ∧ Jobs h' u js ∧ Ints h' w xs := by
  refine hideC fun K hK => enter_run e_spec_DrawUnitSlots (by simp) ?_
  have C0 : Cur h (h ++ [some ⟨[vc, .int .i64 0, .int .u64 0], 0, false⟩]) h.length vc 0 [] := ⟨0, 0, by omega, by omega, (Holds.start (h := h)).alloc _⟩
  obtain ⟨bs, Sb, hb, hbl⟩ := B
  have Bs : By h vc := ⟨bs, Sb, hb, hbl⟩
  obtain ⟨ob, cb, rfl⟩ := Sb.shapeT
  simp -implicitDefEqProofs
  refine CL_post (units_run Bs C0 (by omega)) fun u h2 ⟨js, hl, C2⟩ => ?_
  obtain ⟨ua, uc, rfl⟩ : ∃ a c, u = .slice a js.length c := C2.seesJ.shapeT
  simp -implicitDefEqProofs
  refine CL_post (free_run Bs C2 (i := 0) rfl hl (by omega)) fun w h3 ⟨xs, hxl, C3⟩ => ?_
  obtain ⟨wa, wc, rfl⟩ : ∃ a c, w = .slice a xs.length c := C3.seesI.shapeT
  have J6 : Jobs h3 (.slice ua js.length uc) js := C3.seesAt (i := 0) rfl
  have fin := gc_JX (r := []) C3.pre J6 C3.seesI
  simp -implicitDefEqProofs
  exact onK hK ⟨fin.1, js, xs, _, _, rfl, hl, by omega, fin.2⟩
theorem DrawUnitCircuit_run {h : Hp} {vc : Value} (B : By h vc) : RunsC P G n_spec_DrawUnitCircuit [vc] h fun v h' => h <+: h' ∧ ∃ (js : List Job) (xs : List Int) (j : Int) (u w : Value), v = .tuple #[u, w, .int .i64 j] ∧ js.length ≤ 9 ∧ xs.length ≤ 10 ∧ Jobs h' u js ∧ Ints h' w xs := by
  refine hideC fun K hK => enter_run e_spec_DrawUnitCircuit (by simp) ?_
  have C0 : Cur h (h ++ [some ⟨[vc, .int .i64 0, .int .u64 0], 0, false⟩]) h.length vc 0 [] := ⟨0, 0, by omega, by omega, (Holds.start (h := h)).alloc _⟩
  obtain ⟨bs, Sb, hb, hbl⟩ := B
  have Bs : By h vc := ⟨bs, Sb, hb, hbl⟩
  obtain ⟨ob, cb, rfl⟩ := Sb.shapeT
  simp -implicitDefEqProofs
  refine CL_post (units_run Bs C0 (by omega)) fun u h2 ⟨js, hl, C2⟩ => ?_
  obtain ⟨ua, uc, rfl⟩ : ∃ a c, u = .slice a js.length c := C2.seesJ.shapeT
  simp -implicitDefEqProofs
  refine CL_post (free_run Bs C2 (i := 0) rfl hl (by omega)) fun w h3 ⟨xs, hxl, C3⟩ => ?_
  obtain ⟨wa, wc, rfl⟩ : ∃ a c, w = .slice a xs.length c := C3.seesI.shapeT
  simp -implicitDefEqProofs
  refine R_loopO (fun m st h' => ∃ (i : Nat), i + m = js.length ∧ st = [(5, .pointer (some ⟨h.length, 0, some 3⟩)), (6, .slice ua js.length uc), (7, .slice wa xs.length wc), (8, .int .i64 i)] ∧ Cur h h' h.length (.slice ob bs.length cb) (0 + 400 + 2 * i) ([.own (.slice ua js.length uc) 4 (js.map encJ)] ++ [.own (.slice wa xs.length wc) 1 (xs.map encI)])) (fun I hI m st h' => ?_) (n := js.length)
    ⟨0, Nat.zero_add _, by simp, C3.mono (by omega)⟩
  rintro ⟨i, hi, rfl, C4⟩
  have fin : ∀ {h9 : Hp} {n : Nat} {j : Int}, Cur h h9 h.length (.slice ob bs.length cb) n ([.own (.slice ua js.length uc) 4 (js.map encJ)] ++ [.own (.slice wa xs.length wc) 1 (xs.map encI)]) → K (.tuple #[.slice ua js.length uc, .slice wa xs.length wc, .int .i64 j]) (gc h h9 (.tuple #[.slice ua js.length uc, .slice wa xs.length wc, .int .i64 j])) := fun {h9 n j} C9 => by
    have J6 : Jobs h9 (.slice ua js.length uc) js := C9.seesAt (i := 0) rfl
    have fin := gc_JX (r := [.int .i64 j]) C9.pre J6 C9.seesI
    exact onK hK ⟨fin.1, js, xs, j, _, _, rfl, hl, by omega, fin.2⟩
  have last : ∀ {h9 : Hp} {n : Nat}, n ≤ 2 ^ 30 → Cur h h9 h.length (.slice ob bs.length cb) n ([.own (.slice ua js.length uc) 4 (js.map encJ)] ++ [.own (.slice wa xs.length wc) 1 (xs.map encI)]) → RunsC P G n_spec_l1Cur_pick [.pointer (some ⟨h.length, 0, some 3⟩), .int .i64 ((js.length : Int) + 2)] h9 fun v h' => ∃ q : Int, v = .int .i64 q ∧ K (.tuple #[.slice ua js.length uc, .slice wa xs.length wc, .int .i64 (IntKind.i64.wrap (q - 1))]) (gc h h' (.tuple #[.slice ua js.length uc, .slice wa xs.length wc, .int .i64 (IntKind.i64.wrap (q - 1))])) := fun {h9 n} hn C9 =>
    RunsC.mono (pick_run Bs C9 (by omega) (k := (js.length : Int) + 2) (by omega)) fun v h3 ⟨q, ev, _, _, _, C3⟩ => ⟨q, ev, fin C3⟩
  have w1 : IntKind.i64.wrap ((js.length : Int) + 2) = (js.length : Int) + 2 := by rw [wrap_ok] <;> omega
  by_cases hlt : i < js.length
  case neg =>
    have hlt' : ¬ (i : Int) < js.length := by omega
    simp -implicitDefEqProofs [hlt, hlt', w1]
    refine CL_post (last (by omega) C4) fun v h5 ⟨q, ev, k5⟩ => ?_
    subst ev
    simp -implicitDefEqProofs
    exact k5
  have hlt' : (i : Int) < js.length := by omega
  simp -implicitDefEqProofs [hlt, hlt']
  refine CL_post (one_run Bs C4 (by omega) (k := 12) (by omega)) fun v h5 ⟨b, ev, C5⟩ => ?_
  subst ev
  cases b
  case true =>
    simp -implicitDefEqProofs [w1]
    refine CL_post (last (by omega) C5) fun v h6 ⟨q, ev, k5⟩ => ?_
    subst ev
    simp -implicitDefEqProofs
    exact k5
  have J5 : Jobs h5 (.slice ua js.length uc) js := C5.seesAt (i := 0) rfl
  have rf := l10Free_run J5 C5.seesI (by omega) (by omega)
  have rh := l1Has_run (x := (i : Int)) C5.seesI (by omega)
  have next : ∀ {h9 : Hp}, Cur h h9 h.length (.slice ob bs.length cb) (0 + 400 + 2 * i + 2) ([.own (.slice ua js.length uc) 4 (js.map encJ)] ++ [.own (.slice wa xs.length wc) 1 (xs.map encI)]) → I (m - 1) [(5, .pointer (some ⟨h.length, 0, some 3⟩)), (6, .slice ua js.length uc), (7, .slice wa xs.length wc), (8, .int .i64 ((i : Int) + 1))] h9 := fun {h9} C9 => on hI ⟨i + 1, by omega, by simp, C9.mono (by omega)⟩
  cases c1 : frOk js xs
  · rw [c1] at rf
    simp -implicitDefEqProofs [CL_ret rf, winc hlt (by omega)]
    exact ⟨m - 1, by omega, next C5⟩
  rw [c1] at rf
  cases c2 : hasL (i : Int) xs
  case true =>
    rw [c2] at rh
    simp -implicitDefEqProofs [CL_ret rf, CL_ret rh, winc hlt (by omega)]
    exact ⟨m - 1, by omega, next C5⟩
  rw [c2] at rh
  have hk : rkOk js xs = true := by rw [frOk, Bool.and_eq_true] at c1; exact c1.1
  obtain ⟨hu, hin, hs⟩ := rkOk_of hk
  obtain ⟨hok, _⟩ := uOk_of hu
  obtain ⟨hn8, hg, _⟩ := plOk_of hok
  have hni : (i : Int) ∉ xs := fun g => by rw [hasL_iff.2 g] at c2; cases c2
  simp -implicitDefEqProofs [CL_ret rf, CL_ret rh]
  refine CL_post (l1Put_own (x := (i : Int)) C5.seesI (by omega) hs hni) fun vp h6 ⟨hp6, o6⟩ => ?_
  have C6 := (C5.join ((Holds.start (h := h5)).call hp6 o6)).weak
  have S6 : Ints h6 vp (putI xs i) := o6.sees
  have pin : inN js.length (putI xs i) := fun y hy => by
    rcases putI_mem.1 hy with rfl | g
    · exact ⟨by omega, by omega⟩
    · exact hin y g
  have pasc := putI_srt (x := (i : Int)) hs
  have rt := l6Timely_run (J5.pre hp6) S6 pin (by have := asc_len pasc pin; omega) (good_bd hg)
  rw [tim_spec pasc] at rt
  obtain ⟨pa, pn, pc, rfl⟩ : ∃ a n c, vp = .slice a n c := by obtain ⟨a, c, e⟩ := S6.shape; exact ⟨_, _, _, e⟩
  cases c3 : timB js (putI xs i)
  · rw [c3] at rt
    simp -implicitDefEqProofs [CL_ret rt]
    exact fin C6
  · rw [c3] at rt
    simp -implicitDefEqProofs [CL_ret rt, winc hlt (by omega)]
    exact ⟨m - 1, by omega, next C6⟩
end Go.Pm.PP

/- FnUnitJobs in plain terms. -/
set_option linter.unusedVariables false
set_option linter.unusedSimpArgs false
set_option maxRecDepth 4000
set_option maxHeartbeats 16000000
namespace Go.Pm.PP
open Go.Pm Go.Proofs Go.Pm.PE
theorem out_perm {W : List Int} {x : Int} (hn : W.Nodup) (hx : x ∈ W) : W.Perm (x :: outX W x) := by
  have h1 : x ∉ outX W x := fun g => by have := (List.mem_filter.1 g).2; simp at this
  refine (List.perm_ext_iff_of_nodup hn (List.nodup_cons.2 ⟨h1, hn.sublist List.filter_sublist⟩)).2 fun y => ?_
  rw [List.mem_cons, outX, List.mem_filter]
  constructor
  · intro hy
    by_cases e : y = x
    · exact .inl e
    · exact .inr ⟨hy, by simpa using e⟩
  · rintro (rfl | ⟨hy, _⟩)
    · exact hx
    · exact hy
theorem circ {d : Int → Int} (h0 : ∀ x, 0 ≤ d x) {W xs C : List Int} {j : Int} (hW : W.Perm (j :: xs)) (hx : Ind d xs) (hn : ¬ Ind d W) (hnd : W.Nodup) (hC : ∀ x, x ∈ W → Ind d (outX W x) → x ∈ C) (hnC : C.Nodup) : ¬ Ind d C := by
  have hs : W.filter (fun y => decide (d y < cntU d (d y) W)) ≠ [] := fun g => hn fun y hy => by
    have := List.filter_eq_nil_iff.1 g y hy
    simp only [decide_eq_true_eq] at this
    omega
  obtain ⟨y, hy, hm⟩ := max_of (d := fun x => -d x) hs
  obtain ⟨hyW, hyv⟩ := List.mem_filter.1 hy
  rw [decide_eq_true_eq] at hyv
  have key : ∀ x, x ∈ W → d x ≤ d y → x ∈ C := fun x hxW hxy => by
    refine hC x hxW fun z hz => ?_
    have hzW := (List.mem_filter.1 hz).1
    have e : cntU d (d z) W = (if d x ≤ d z then 1 else 0) + cntU d (d z) (outX W x) := by
      rw [cntU_perm (out_perm hnd hxW), cntU_cons]
    by_cases c : d x ≤ d z
    · rw [if_pos c] at e
      have e2 : cntU d (d z) W = (if d j ≤ d z then 1 else 0) + cntU d (d z) xs := by rw [cntU_perm hW, cntU_cons]
      have := hx.le (h0 z)
      split at e2 <;> omega
    · rw [if_neg c] at e
      by_cases cz : d z < cntU d (d z) W
      · have := hm z (List.mem_filter.2 ⟨hzW, by simpa using cz⟩)
        omega
      · omega
  intro hI
  have h1 := hI y (key y hyW (Int.le_refl _))
  have h2 : cntU d (d y) (W.filter fun x => decide (d x ≤ d y)) ≤ cntU d (d y) C := cntU_sub (hnd.sublist List.filter_sublist) fun x hx => by
    obtain ⟨g1, g2⟩ := List.mem_filter.1 hx
    exact key x g1 (by simpa using g2)
  have h3 : cntU d (d y) (W.filter fun x => decide (d x ≤ d y)) = cntU d (d y) W := by
    unfold cntU
    rw [List.filter_filter]
    simp
  omega
/-! ### greedy sets -/
theorem unit_heavy {js : List Job} (hu : uOk js = true) {c : Nat} (hc : okC js c = true) : tsm (wJ js) (bitsL js.length c) ≤ tsm (wJ js) (ugR js) := by
  obtain ⟨hok, _⟩ := uOk_of hu
  obtain ⟨hn, hg, _⟩ := plOk_of hok
  have hin : inN js.length (bitsL js.length c) := fun x hx => by have := mem_bits.1 hx; omega
  have GI := gG_all (w := wJ js) (unit_good hu) (O := wOrd js) (fun y hy => wOrd_perm.mem_iff.1 hy) wOrd_nd wOrd_w
  rw [ugR, if_pos hu]
  exact GI.heavy (dj_nn hg) (wJ_nn hg) bits_nodup (fun x hx => wOrd_perm.mem_iff.2 (mem_upTo.2 (hin x hx))) ((tim_ind hu hin).1 hc)
theorem rank_eq {js : List Job} {xs : List Int} (hk : rkOk js xs = true) (ht : timB js xs = true) : rkR js xs = xs.length := by
  obtain ⟨hu, hin, hs⟩ := rkOk_of hk
  obtain ⟨hok, _⟩ := uOk_of hu
  obtain ⟨hn, hg, _⟩ := plOk_of hok
  have GI := gset hk
  have h1 := GI.most (dj_nn hg) (nd_asc hs) (fun x hx => hx) ((tim_ind hu hin).1 ht)
  have h2 := nd_le (nd_asc GI.asc) GI.sub
  rw [rkR, if_pos hk]
  omega
theorem rk_sub {js : List Job} {xs : List Int} (hk : rkOk js xs = true) {i : Nat} : rkOk js (xs.eraseIdx i) = true := by
  obtain ⟨hu, hin, hs⟩ := rkOk_of hk
  rw [rkOk, hu, Bool.true_and, setB_iff]
  exact ⟨fun x hx => hin x (List.mem_of_mem_eraseIdx hx), hs.sublist (List.eraseIdx_sublist ..)⟩
theorem rank_step {js : List Job} {xs : List Int} (hk : rkOk js xs = true) {i : Nat} (hi : i < xs.length) : rkR js (xs.eraseIdx i) ≤ rkR js xs ∧ rkR js xs ≤ rkR js (xs.eraseIdx i) + 1 := by
  have hk2 := rk_sub hk (i := i)
  obtain ⟨hu, hin, hs⟩ := rkOk_of hk
  obtain ⟨hok, _⟩ := uOk_of hu
  obtain ⟨hn, hg, _⟩ := plOk_of hok
  have G1 := gset hk
  have G2 := gset hk2
  have d0 := dj_nn hg
  obtain ⟨x, hx, _⟩ := drop_at hi
  have h1 := G1.most d0 (nd_asc G2.asc) (fun x hx => List.mem_of_mem_eraseIdx (G2.sub x hx)) G2.ind
  have nA : (gG (timB js) xs).Nodup := nd_asc G1.asc
  have nB : (outX (gG (timB js) xs) x).Nodup := nA.sublist List.filter_sublist
  have h2 := G2.most d0 nB (fun y hy => by
    obtain ⟨g1, g2⟩ := List.mem_filter.1 hy
    have g3 := G1.sub y g1
    obtain ⟨q, hq⟩ := List.getElem?_of_mem g3
    refine List.mem_of_getElem? (i := if q < i then q else q - 1) ?_
    have hqi : q ≠ i := fun e => by
      subst e; rw [hq] at hx; cases hx; simp at g2
    rw [List.getElem?_eraseIdx]
    by_cases c : q < i
    · rw [if_pos c, if_pos c]; exact hq
    · rw [if_neg c, if_neg (by omega), show q - 1 + 1 = q by omega]; exact hq) (G1.ind.sub nB fun y hy => (List.mem_filter.1 hy).1)
  have h3 : (gG (timB js) xs).length ≤ (outX (gG (timB js) xs) x).length + 1 := by
    by_cases c : x ∈ gG (timB js) xs
    · rw [(out_perm nA c).length_eq]; simp
    · have : outX (gG (timB js) xs) x = gG (timB js) xs := List.filter_eq_self.2 fun y hy => by
        have : y ≠ x := fun e => c (e ▸ hy)
        simpa using this
      rw [this]; omega
  rw [rkR, rkR, if_pos hk, if_pos hk2]
  omega
/-! ### circuits -/
theorem circ_all {js : List Job} {xs : List Int} {j : Int} (h : ucOk js xs j = true) : tmlOk js (ucR js xs j) = true ∧ timB js (ucR js xs j) = false ∧ (ucR js xs j).length ≤ js.length ∧ ∀ i, i < (ucR js xs j).length → tmlOk js ((ucR js xs j).eraseIdx i) = true ∧ timB js ((ucR js xs j).eraseIdx i) = true := by
  obtain ⟨hk, ht, j0, j1, hj, hf⟩ := ucOk_of h
  obtain ⟨hu, hin, hs⟩ := rkOk_of hk
  obtain ⟨hok, _⟩ := uOk_of hu
  obtain ⟨hn, hg, _⟩ := plOk_of hok
  have pasc := putI_srt (x := j) hs
  have pin : inN js.length (putI xs j) := fun y hy => by
    rcases putI_mem.1 hy with rfl | g
    · exact ⟨j0, j1⟩
    · exact hin y g
  have pp : (putI xs j).Perm (j :: xs) := putI_new hj
  rw [ucR, if_pos h]
  obtain ⟨W, hW⟩ : ∃ W, W = putI xs j := ⟨_, rfl⟩
  rw [← hW] at pasc pin pp hf ⊢
  have casc : (W.filter (ucK js W j)).Pairwise (· < ·) := pasc.sublist List.filter_sublist
  have cin : inN js.length (W.filter (ucK js W j)) := fun y hy => pin y (List.mem_filter.1 hy).1
  have tml : ∀ {l : List Int}, l.Pairwise (· < ·) → inN js.length l → tmlOk js l = true := fun {l} h1 h2 => by rw [tmlOk, hok, Bool.true_and, setB_iff]; exact ⟨h2, h1⟩
  have d0 := dj_nn hg
  have oin : ∀ x, inN js.length (outX W x) := fun x y hy => pin y (List.mem_filter.1 hy).1
  have nW := nd_asc pasc
  have nI : ¬ Ind (dJ js) W := fun g => by
    rw [(tim_ind hu pin).2 g] at hf; cases hf
  refine ⟨tml casc cin, ?_, asc_len casc cin, fun i hi => ?_⟩
  · refine Bool.eq_false_iff.2 fun g => circ d0 pp ((tim_ind hu hin).1 ht) nI nW (fun x hx hI => List.mem_filter.2 ⟨hx, ?_⟩) (nd_asc casc) ((tim_ind hu cin).1 g)
    rw [ucK, (tim_ind hu (oin x)).2 hI, Bool.or_true]
  · have easc : ((W.filter (ucK js W j)).eraseIdx i).Pairwise (· < ·) := casc.sublist (List.eraseIdx_sublist ..)
    have ein : inN js.length ((W.filter (ucK js W j)).eraseIdx i) := fun y hy => cin y (List.mem_of_mem_eraseIdx hy)
    refine ⟨tml easc ein, ?_⟩
    obtain ⟨x, hx, _⟩ := drop_at hi
    obtain ⟨hxW, hxk⟩ := List.mem_filter.1 (List.mem_of_getElem? hx)
    have hIo : Ind (dJ js) (outX W x) := by
      rw [ucK, Bool.or_eq_true] at hxk
      rcases hxk with g | g
      · rw [beq_iff_eq] at g
        subst g
        refine ((tim_ind hu hin).1 ht).sub (nW.sublist List.filter_sublist) fun y hy => ?_
        obtain ⟨g1, g2⟩ := List.mem_filter.1 hy
        rcases List.mem_cons.1 (pp.mem_iff.1 g1) with rfl | g
        · simp at g2
        · exact g
      · exact (tim_ind hu (oin x)).1 g
    refine (tim_ind hu ein).2 (hIo.sub (nd_asc easc) fun y hy => List.mem_filter.2 ⟨(List.mem_filter.1 (List.mem_of_mem_eraseIdx hy)).1, ?_⟩)
    have : y ≠ x := fun e => by
      subst e
      obtain ⟨q, hq⟩ := List.getElem?_of_mem hy
      rw [List.getElem?_eraseIdx] at hq
      have n := nd_asc casc
      split at hq
      · have := (List.getElem?_inj (List.getElem?_eq_some_iff.1 hq).1 n).1 (hq.trans hx.symm); omega
      · have := (List.getElem?_inj (List.getElem?_eq_some_iff.1 hq).1 n).1 (hq.trans hx.symm); omega
    simpa using this
/-! ### slots -/
theorem nx_tim {js : List Job} : ∀ {l : List Int} {now : Int}, timU (dJ js) now l = true → now + l.length ≤ 500 → now + 1 ≤ nxS js l
  | [], now, _, h => by simp only [nxS, List.length_nil] at h ⊢; omega
  | x :: r, now, ht, h => by
    rw [timU, Bool.and_eq_true, decide_eq_true_eq] at ht
    have := nx_tim ht.2 (by rw [List.length_cons] at h; omega)
    rw [nxS]
    omega
def slF (js : List Job) (O : List Int) (x : Int) : Int := gE (tbS js O) x.toNat
theorem gE_at {l : List Int} {k : Nat} {z : Int} : gE (l.set k z) k = if k < l.length then z else gE l k := by
  unfold gE
  rw [List.getElem?_set]
  by_cases h : k < l.length
  · rw [if_pos rfl, if_pos h, if_pos h]; rfl
  · rw [if_pos rfl, if_neg h, if_neg h, List.getElem?_eq_none (by omega)]
theorem gE_ne {l : List Int} {k q : Nat} {z : Int} (h : q ≠ k) : gE (l.set k z) q = gE l q := by
  unfold gE
  rw [List.getElem?_set, if_neg fun e => h e.symm]
theorem slF_hd {js : List Job} {x : Int} {r : List Int} (hx : 0 ≤ x ∧ x < js.length) : slF js (x :: r) x = nxS js (x :: r) := by
  rw [slF, tbS, gE_at, if_pos (by rw [tbS_len]; omega)]
theorem slF_tl {js : List Job} {x y : Int} {r : List Int} (hin : inN js.length (y :: r)) (hn : (y :: r).Nodup) (hx : x ∈ r) : slF js (y :: r) x = slF js r x := by
  have h1 := hin y (List.mem_cons_self ..)
  have h2 := hin x (List.mem_cons_of_mem _ hx)
  have h3 : x ≠ y := fun e => (List.nodup_cons.1 hn).1 (e ▸ hx)
  rw [slF, tbS, gE_ne (by omega)]
  rfl
theorem slF_bd {js : List Job} : ∀ {O : List Int} {now : Int}, timU (dJ js) now O = true → now + O.length ≤ 500 → inN js.length O → O.Nodup → ∀ x, x ∈ O → now + 1 ≤ slF js O x ∧ slF js O x ≤ dJ js x ∧ nxS js O ≤ slF js O x
  | [], _, _, _, _, _, x, hx => by cases hx
  | y :: r, now, ht, hl, hin, hn, x, hx => by
    have h0 := nx_tim ht hl
    rcases List.mem_cons.1 hx with rfl | g
    · rw [slF_hd (hin x hx)]
      refine ⟨h0, ?_, Int.le_refl _⟩
      rw [nxS]; omega
    · rw [slF_tl hin hn g]
      rw [timU, Bool.and_eq_true, decide_eq_true_eq] at ht
      obtain ⟨h1, h2, h3⟩ := slF_bd ht.2 (by rw [List.length_cons] at hl; omega) (fun z hz => hin z (List.mem_cons_of_mem _ hz)) (List.nodup_cons.1 hn).2 x g
      refine ⟨by omega, h2, ?_⟩
      rw [nxS]; omega
theorem slF_inj {js : List Job} : ∀ {O : List Int} {now : Int}, timU (dJ js) now O = true → now + O.length ≤ 500 → inN js.length O → O.Nodup → ∀ x y, x ∈ O → y ∈ O → slF js O x = slF js O y → x = y
  | [], _, _, _, _, _, x, _, hx, _, _ => by cases hx
  | z :: r, now, ht, hl, hin, hn, x, y, hx, hy, he => by
    have ht' := ht
    rw [timU, Bool.and_eq_true, decide_eq_true_eq] at ht
    have hl' : now + 1 + (r.length : Int) ≤ 500 := by rw [List.length_cons] at hl; omega
    have hin' : inN js.length r := fun z hz => hin z (List.mem_cons_of_mem _ hz)
    have hn' := (List.nodup_cons.1 hn).2
    have lt : ∀ x, x ∈ r → nxS js (z :: r) < slF js r x := fun x hx => by
      have := (slF_bd ht.2 hl' hin' hn' x hx).2.2
      rw [nxS]; omega
    rcases List.mem_cons.1 hx with rfl | g
    · rcases List.mem_cons.1 hy with rfl | k
      · rfl
      · rw [slF_hd (hin x hx), slF_tl hin hn k] at he
        have := lt y k; omega
    · rcases List.mem_cons.1 hy with rfl | k
      · rw [slF_hd (hin y hy), slF_tl hin hn g] at he
        have := lt x g; omega
      · rw [slF_tl hin hn g, slF_tl hin hn k] at he
        exact slF_inj ht.2 hl' hin' hn' x y g k he
theorem slF_drop {js : List Job} : ∀ {O : List Int} {k : Nat} {x : Int}, inN js.length O → O.Nodup → O[k]? = some x → slF js O x = nxS js (O.drop k)
  | [], k, x, _, _, h => by simp at h
  | y :: r, 0, x, hin, hn, h => by
    simp only [List.getElem?_cons_zero, Option.some.injEq] at h
    subst h
    exact slF_hd (hin _ (List.mem_cons_self ..))
  | y :: r, k + 1, x, hin, hn, h => by
    rw [List.getElem?_cons_succ] at h
    rw [slF_tl hin hn (List.mem_of_getElem? h), slF_drop (fun z hz => hin z (List.mem_cons_of_mem _ hz)) (List.nodup_cons.1 hn).2 h]
    rfl
theorem sOrd_tim {js : List Job} {xs : List Int} (hk : rkOk js xs = true) (ht : timB js xs = true) : timU (dJ js) 0 (sOrd js xs) = true := by
  obtain ⟨hu, hin, hs⟩ := rkOk_of hk
  obtain ⟨hok, _⟩ := uOk_of hu
  have e := tim_unit hu (l := sOrd js xs) (now := 0) fun x hx => hin x (sortB_perm.mem_iff.1 hx)
  rw [← e, sOrd, tim_imp (plOk_pl hok)]
  exact ht
/-- What is put in place of one cut out. -/
theorem era_see {h : Hp} {u : Value} {xs : List Int} (X : Ints h u xs) {k : Nat} (hk : k < xs.length) (hn : xs.length ≤ 2 ^ 20) :
    ∃ (a3 : Option Addr) (b3 c3 : Nat) (a4 : Option Addr) (b4 c4 : Nat) (h4 : Hp) (a6 : Option Addr) (b6 c6 : Nat) (a7 : Option Addr) (c7 : Nat) (h7 : Hp),
      sliceP P h t_S_int u none (some (.int .i64 k)) = some (.slice a3 b3 c3) ∧ appendP P h t_S_int (.slice none 0 0) (.slice a3 b3 c3) = some (.slice a4 b4 c4, h4) ∧ newOk h h4 ∧
      sliceP P h4 t_S_int u (some (.int .i64 ((k : Int) + 1))) none = some (.slice a6 b6 c6) ∧ appendP P h4 t_S_int (.slice a4 b4 c4) (.slice a6 b6 c6) = some (.slice a7 (xs.eraseIdx k).length c7, h7) ∧ h <+: h7 ∧ Ints h7 (.slice a7 (xs.eraseIdx k).length c7) (xs.eraseIdx k) := by
  obtain ⟨v3, s3, f3⟩ := X.front (P := P) u_S_int i_int (k := .i64) (j := (k : Int)) (by omega) (by simp; omega)
  rw [Int.toNat_natCast, ← List.map_take] at f3
  have H0 := own_nil (Holds.start (h := h)) Int encI 1
  obtain ⟨v4, h4, ha4, H4', _⟩ := app_I H0 0 rfl f3 (by simp; omega)
  have H4 : Holds h h4 [.own v4 1 ((xs.take k).map encI)] := H4'
  have n4 : NR h.length h4 := append_nr nr_self ha4
  have no4 := newOk_of H4.pre n4
  obtain ⟨v6, s6, f6⟩ := back_pre X H4.pre (j := k + 1) (by omega)
  simp only [Int.natCast_add, Int.cast_ofNat_Int] at s6
  obtain ⟨v7, h7, ha7, H7, _⟩ := app_I H4 0 rfl (f6.pre H4.pre) (by simp; omega)
  have H9 : Holds h h7 [.own v7 1 ((xs.eraseIdx k).map encI)] := by rw [List.eraseIdx_eq_take_drop_succ]; exact H7
  obtain ⟨a3, b3, c3, rfl⟩ : ∃ a n c, v3 = .slice a n c := by obtain ⟨a, c, e⟩ := f3.shape; exact ⟨_, _, _, e⟩
  obtain ⟨a4, b4, c4, rfl⟩ : ∃ a n c, v4 = .slice a n c := by obtain ⟨a, c, e⟩ := (H4.sees 0 rfl).shape; exact ⟨_, _, _, e⟩
  obtain ⟨a6, b6, c6, rfl⟩ : ∃ a n c, v6 = .slice a n c := by obtain ⟨a, c, e⟩ := f6.shape; exact ⟨_, _, _, e⟩
  have S7 : Ints h7 v7 (xs.eraseIdx k) := H9.sees 0 rfl
  obtain ⟨a7, c7, rfl⟩ : ∃ a c, v7 = .slice a (xs.eraseIdx k).length c := S7.shapeT
  exact ⟨a3, b3, c3, a4, b4, c4, h4, a6, b6, c6, a7, c7, h7, s3, ha4, no4, s6, ha7, H9.pre, S7⟩
end Go.Pm.PP
