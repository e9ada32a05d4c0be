/- The texts PkN, PkO, PkP of this work: FnExactIdleChain: the reference. -/
import Derived.Test.YtlieeolnnehncaaP11
/- FnExactIdleChain: the reference. -/
set_option linter.unusedVariables false
set_option linter.unusedSimpArgs false
set_option maxRecDepth 4000
set_option maxHeartbeats 8000000
namespace Go.Pm.PP
open Go.Pm Go.Proofs Go.Pm.LP
/-- The end of a job in a plan. -/
def eW (js : List Job) (pl : List Task) (i : Nat) : Int := w64 ((tat pl i).s + tm js i)
def ltS (js : List Job) (pl : List Task) (may : Nat → Bool) (b : Option Nat) (i : Nat) : Option Nat :=
  if may i = true ∧ (∀ x, b = some x → eW js pl x < eW js pl i) then some i else b
def lat (js : List Job) (pl : List Task) (may : Nat → Bool) (n : Nat) : Option Nat := (List.range' 0 n).foldl (ltS js pl may) none
def mayO (T : Tab) (out : List Nat) (i : Nat) : Bool := match out[0]? with
  | none => true
  | some x => tg T i x
def cGo (js : List Job) (pl : List Task) (T : Tab) (n : Nat) : Nat → List Nat → List Nat
  | 0, out => out
  | f + 1, out => match lat js pl (mayO T out) n with
    | none => out
    | some b => cGo js pl T n f (b :: out)
def mO (T : Tab) (n : Nat) (out : List Nat) : Nat := match out[0]? with
  | none => n + 1
  | some x => preds n T x
theorem ltS_some {js : List Job} {pl : List Task} {may : Nat → Bool} {b : Option Nat} {i x : Nat} (h : ltS js pl may b i = some x) : (x = i ∧ may i = true) ∨ b = some x := by
  unfold ltS at h
  split at h
  · rename_i g; cases h; exact .inl ⟨rfl, g.1⟩
  · exact .inr h
theorem lat_fold {js : List Job} {pl : List Task} {may : Nat → Bool} {n : Nat} : ∀ {l : List Nat} {b : Option Nat}, (∀ i, i ∈ l → i < n) → (∀ x, b = some x → x < n ∧ may x = true) → ∀ x, l.foldl (ltS js pl may) b = some x → x < n ∧ may x = true
  | [], b, _, hb, x, h => hb x h
  | i :: l, b, hl, hb, x, h => lat_fold (l := l) (fun j hj => hl j (List.mem_cons_of_mem _ hj)) (fun y hy => by
      rcases ltS_some hy with ⟨rfl, g⟩ | g
      · exact ⟨hl _ (List.mem_cons_self ..), g⟩
      · exact hb y g) x h
theorem lat_some {js : List Job} {pl : List Task} {may : Nat → Bool} {n x : Nat} (h : lat js pl may n = some x) : x < n ∧ may x = true :=
  lat_fold (fun i hi => mem_r'.1 hi) (fun x h => by cases h) x h
theorem mO_lt {n : Nat} {T : Tab} (t : TrB n n T) (ir : ∀ i, i < n → tg T i i = false) {out : List Nat} (ho : ∀ x, x ∈ out → x < n) {b : Nat} (hb : b < n) (h : mayO T out b = true) : mO T n (b :: out) < mO T n out := by
  have e : mO T n (b :: out) = preds n T b := rfl
  rw [e]
  unfold mO mayO at *
  cases hx : out[0]? with
  | none =>
    have := List.countP_le_length (p := fun k => tg T k b) (l := List.range n)
    simp only [List.length_range] at this
    unfold preds
    show _ < n + 1
    omega
  | some x =>
    rw [hx] at h
    exact preds_lt t ir (ho x (List.mem_of_getElem? hx)) hb h
def chainL (js : List Job) (m : Nat) (es : List (Int × Int)) (os : List Nat) : List Nat := cGo js (listL js m es os) (tabOf js.length es) js.length (js.length + 2) []
def idleO (js : List Job) (m : Int) (es : List (Int × Int)) (xs : List Int) : Option (List Int) := if listOk js m es xs = true ∧ ¬ js.length = 0 then some (oI (chainL js m.toNat es (xs.map Int.toNat))) else none
theorem cGo_len {js : List Job} {pl : List Task} {T : Tab} {n : Nat} : ∀ {f : Nat} {out : List Nat}, (cGo js pl T n f out).length ≤ f + out.length
  | 0, out => by simp [cGo]
  | f + 1, out => by
    rw [cGo]
    split
    · omega
    · rename_i b _
      have := @cGo_len js pl T n f (b :: out)
      simp only [List.length_cons] at this
      omega
theorem idleO_len {js : List Job} {m : Int} {es : List (Int × Int)} {xs : List Int} : ((idleO js m es xs).getD []).length ≤ 10 := by
  unfold idleO
  split
  · rename_i h
    obtain ⟨_, _, _, _, _, h8, _⟩ := listOk_wf h.1
    have := @cGo_len js (listL js m.toNat es (xs.map Int.toNat)) (tabOf js.length es) js.length (js.length + 2) []
    simp only [List.length_nil] at this
    rw [Option.getD_some, List.length_map]
    unfold chainL
    omega
  · simp
theorem specIdleChain_run {h : Hp} {vj ve vo : Value} {js : List Job} {es : List (Int × Int)} {xs : List Int} {m : Int} (hj : Jobs h vj js) (he : Prs h ve es) (ho : Ints h vo xs) (l1 : js.length ≤ 2 ^ 40) (l2 : es.length ≤ 2 ^ 40) (l3 : xs.length ≤ 2 ^ 20) :
    RunsC P G n_spec_IdleChain [vj, .int .i64 m, ve, vo] h fun v h' => h <+: h' ∧ retE encI 1 (idleO js m es xs) v h.length h' := by
  refine hideC fun K hK => enter_run e_spec_IdleChain (by simp) ?_
  have hjs := hj
  have r1 := l7Ordered_run (m := m) hj he ho l1 l2 (by omega)
  obtain ⟨n, hn⟩ : ∃ n, n = js.length := ⟨_, rfl⟩
  obtain ⟨oj, cj, rfl⟩ : ∃ oj cj, vj = .slice oj n cj := by obtain ⟨a, c, e⟩ := hj.shapeT; exact ⟨a, c, by rw [e, hn]⟩
  cases c1 : listOk js m es xs
  · simp -implicitDefEqProofs [CL_ret r1, c1]
    exact onK hK ⟨List.prefix_rfl, .slice none 0 0, by simp [idleO, c1], by simpa [idleO, c1] using Own.nil⟩
  obtain ⟨mm, os, rfl, hm, rfl, h8, hl, hin, he8, W⟩ := listOk_wf c1
  by_cases hn0 : n = 0
  · subst hn0
    simp -implicitDefEqProofs [CL_ret r1, c1]
    exact onK hK ⟨List.prefix_rfl, .slice none 0 0, by simp [idleO, ← hn], by simpa [idleO, ← hn] using Own.nil⟩
  have hnI : ((n : Int) == 0) = false := nb (by omega)
  generalize hX : chainL js mm es os = X
  have hXo : idleO js mm es (oI os) = some (oI X) := by
    unfold idleO; rw [if_pos ⟨c1, by omega⟩, oI_nat, Int.toNat_natCast, hX]
  rw [hXo] at hK
  simp -implicitDefEqProofs [CL_ret r1, c1, hnI]
  refine CL_post (l7List_run hj he ho W hin h8 hm (by omega) l2) fun vp h1 ⟨hp1, ho1⟩ => ?_
  have H1 := ((Holds.start (h := h)).call hp1 ho1).open
  simp -implicitDefEqProofs
  have rt := l4Table_run (n := n) (he.pre hp1) l2 (by omega) (by rw [hn]; exact hin)
  refine CL_post rt fun vt h2 ⟨us, hus, C2⟩ => ?_
  have H2 := Holds.joinT (A := [.own vt 1 (us.map encV)]) (M := inL encB 1 us (tabOf n es)) H1 C2
  have H3 := H2.callT List.prefix_rfl (Own.nil (sz := 1))
  have sq := W.sq
  have tr := W.tr
  have ir := W.ir
  rw [← hn] at sq tr ir h8
  unfold chainL at hX
  rw [← hn] at hX
  have hpl : (listL js mm es os).length = n := by rw [listL_len, hn]
  generalize listL js mm es os = pl at hX H3 hpl
  generalize tabOf n es = T at hX H3 sq tr ir
  have hlT : us.length = T.length := by rw [hus, sq.len]
  have s1 := (H3.sees 0 rfl).shapeT
  obtain ⟨op, cp, rfl⟩ := s1
  have s2 := (H3.sees 1 rfl).shapeT
  obtain ⟨ot, ct, rfl⟩ := s2
  clear H1 H2 C2 ho1
  simp -implicitDefEqProofs
  refine R_loopO (fun f s h' => ∃ (out : List Nat) (u : Value), s = [(0, .slice oj n cj), (10, u), (11, .slice op pl.length cp), (12, .slice ot us.length ct)] ∧ X = cGo js pl T n f out ∧ mO T n out < f ∧ (∀ x, x ∈ out → x < n) ∧ out.length + f ≤ n + 2 ∧
    Holds h h' ([.own (.slice op pl.length cp) 3 (pl.map encT), .own (.slice ot us.length ct) 1 (us.map encV), .own u 1 ((oI out).map encI)] ++ (inL encB 1 us T ++ []))) (fun I hI f s h3 => ?_) (n := n + 2)
    ⟨[], .slice none 0 0, by simp, hX.symm, by show n + 1 < n + 2; omega, by simp, by simp, by simpa using H3⟩
  rintro ⟨out, u, rfl, hx, hmf, hout, hol, H⟩
  obtain ⟨g, rfl⟩ : ∃ g, f = g + 1 := ⟨f - 1, by omega⟩
  obtain ⟨ou, cu, rfl⟩ := oI_shape (H.sees 2 rfl)
  simp -implicitDefEqProofs
  rw [cGo] at hx
  refine R_loopO (fun k s h' => ∃ (i : Nat) (b : Option Nat), i + k = n ∧ s = [(0, .slice oj n cj), (10, .slice ou out.length cu), (11, .slice op pl.length cp), (12, .slice ot us.length ct), (13, .int .i64 (nv b)), (14, .int .i64 i)] ∧ h' = h3 ∧ lat js pl (mayO T out) n = (List.range' i k).foldl (ltS js pl (mayO T out)) b ∧ (∀ x, b = some x → x < n)) (fun I2 hI2 k s h4 => ?_) (n := n)
    ⟨0, none, Nat.zero_add _, by simp [nv], rfl, rfl, by simp⟩
  rintro ⟨i, b, hi, rfl, rfl, hb, hbn⟩
  by_cases hlt : i < n
  · have hlt' : (i : Int) < n := by omega
    rw [fold_r (f := ltS js pl (mayO T out)) (by omega)] at hb
    have wi := winc hlt (show n ≤ 2 ^ 40 by omega)
    have skip : mayO T out i = false → ∃ m, m < k ∧ I2 m [(0, .slice oj n cj), (10, .slice ou out.length cu), (11, .slice op pl.length cp), (12, .slice ot us.length ct), (13, .int .i64 (nv b)), (14, .int .i64 ((i + 1 : Nat) : Int))] h4 := fun g => by
      have e : ltS js pl (mayO T out) b i = b := by unfold ltS; rw [if_neg (fun q => by rw [g] at q; exact absurd q.1 (by simp))]
      rw [e] at hb
      exact ⟨k - 1, by omega, on hI2 ⟨i + 1, b, by omega, rfl, rfl, hb, hbn⟩⟩
    have N : Nest h4 (.slice ot us.length ct) encB 1 T us := Holds.nest (L1 := [_, _, _]) (L2 := []) (o := 1) H rfl hlT
    obtain ⟨zi, hzi, _⟩ := drop_at (show i < js.length by omega)
    have ti := tm_at hzi
    have lpI := load_K (H.sees 0 rfl) (tat_get (l := pl) (i := i) (by omega))
    have ljI := load_J (hjs.pre H.pre) hzi
    by_cases h0 : 0 < out.length
    · have h0' : (0 : Int) < out.length := by omega
      obtain ⟨x, hx0, _⟩ := drop_at h0
      have hxn := hout x (List.mem_of_getElem? hx0)
      have lx := load_I (H.sees 2 rfl) (oI_get hx0)
      rw [show ((0 : Nat) : Int) = 0 from rfl] at lx
      obtain ⟨u1, r1, R1, hr1⟩ := tab_row N sq hlt
      have bit := row_bit R1 (j := x) (by omega)
      have hm0 : mayO T out i = tg T i x := by unfold mayO; rw [hx0]
      cases c2 : tg T i x
      · rw [c2] at bit hm0
        have sk := skip hm0
        simp -implicitDefEqProofs [-indexAddrP_some, hlt, hlt', h0, h0', R1.ld, lx, bit, wi]
        simpa using sk
      · rw [c2] at bit hm0
        have hmay := hm0
        cases b with
        | none =>
          have e : ltS js pl (mayO T out) none i = some i := by unfold ltS; rw [if_pos ⟨hmay, by simp⟩]
          rw [e] at hb
          simp -implicitDefEqProofs [-indexAddrP_some, hlt, hlt', h0, h0', R1.ld, lx, bit, nv, wi]
          exact ⟨k - 1, by omega, on hI2 ⟨i + 1, some i, by omega, rfl, rfl, hb, fun x hx => by cases hx; exact hlt⟩⟩
        | some y =>
          have hy := hbn y rfl
          have y0 : ¬ (y : Int) < 0 := by omega
          obtain ⟨zy, hzy, _⟩ := drop_at (show y < js.length by omega)
          have ty := tm_at hzy
          have lpY := load_K (H.sees 0 rfl) (tat_get (l := pl) (i := y) (by omega))
          have ljY := load_J (hjs.pre H.pre) hzy
          by_cases c3 : eW js pl y < eW js pl i
          · have e : ltS js pl (mayO T out) (some y) i = some i := by unfold ltS; rw [if_pos ⟨hmay, fun x hx => by cases hx; exact c3⟩]
            rw [e] at hb
            unfold eW w64 at c3
            rw [ty, ti] at c3
            simp -implicitDefEqProofs [-indexAddrP_some, hlt, hlt', h0, h0', R1.ld, lx, bit, nv, y0, lpI, ljI, lpY, ljY, c3, wi]
            exact ⟨k - 1, by omega, on hI2 ⟨i + 1, some i, by omega, rfl, rfl, hb, fun x hx => by cases hx; exact hlt⟩⟩
          · have e : ltS js pl (mayO T out) (some y) i = some y := by unfold ltS; rw [if_neg fun q => c3 (q.2 y rfl)]
            rw [e] at hb
            unfold eW w64 at c3
            rw [ty, ti] at c3
            simp -implicitDefEqProofs [-indexAddrP_some, hlt, hlt', h0, h0', R1.ld, lx, bit, nv, y0, lpI, ljI, lpY, ljY, c3, wi]
            exact ⟨k - 1, by omega, on hI2 ⟨i + 1, some y, by omega, rfl, rfl, hb, hbn⟩⟩
    · have h0' : ¬ (0 : Int) < out.length := by omega
      have hmay : mayO T out i = true := by unfold mayO; rw [List.getElem?_eq_none (by omega)]
      cases b with
      | none =>
        have e : ltS js pl (mayO T out) none i = some i := by unfold ltS; rw [if_pos ⟨hmay, by simp⟩]
        rw [e] at hb
        simp -implicitDefEqProofs [-indexAddrP_some, hlt, hlt', h0, h0', nv, wi]
        exact ⟨k - 1, by omega, on hI2 ⟨i + 1, some i, by omega, rfl, rfl, hb, fun x hx => by cases hx; exact hlt⟩⟩
      | some y =>
        have hy := hbn y rfl
        have y0 : ¬ (y : Int) < 0 := by omega
        obtain ⟨zy, hzy, _⟩ := drop_at (show y < js.length by omega)
        have ty := tm_at hzy
        have lpY := load_K (H.sees 0 rfl) (tat_get (l := pl) (i := y) (by omega))
        have ljY := load_J (hjs.pre H.pre) hzy
        by_cases c3 : eW js pl y < eW js pl i
        · have e : ltS js pl (mayO T out) (some y) i = some i := by unfold ltS; rw [if_pos ⟨hmay, fun x hx => by cases hx; exact c3⟩]
          rw [e] at hb
          unfold eW w64 at c3
          rw [ty, ti] at c3
          simp -implicitDefEqProofs [-indexAddrP_some, hlt, hlt', h0, h0', nv, y0, lpI, ljI, lpY, ljY, c3, wi]
          exact ⟨k - 1, by omega, on hI2 ⟨i + 1, some i, by omega, rfl, rfl, hb, fun x hx => by cases hx; exact hlt⟩⟩
        · have e : ltS js pl (mayO T out) (some y) i = some y := by unfold ltS; rw [if_neg fun q => c3 (q.2 y rfl)]
          rw [e] at hb
          unfold eW w64 at c3
          rw [ty, ti] at c3
          simp -implicitDefEqProofs [-indexAddrP_some, hlt, hlt', h0, h0', nv, y0, lpI, ljI, lpY, ljY, c3, wi]
          exact ⟨k - 1, by omega, on hI2 ⟨i + 1, some y, by omega, rfl, rfl, hb, hbn⟩⟩
  · have hlt' : ¬ (i : Int) < n := by omega
    have hk : k = 0 := by omega
    subst hk
    rw [List.range'_zero, List.foldl_nil] at hb
    rw [hb] at hx
    cases b with
    | none =>
      simp -implicitDefEqProofs [hlt, hlt', nv]
      refine onK hK ⟨(H.ret2 2 rfl).1, _, rfl, ?_⟩
      rw [Option.getD_some, hx]
      exact (H.ret2 2 rfl).2
    | some b =>
      have hbb := lat_some hb
      have mlt := mO_lt tr ir hout hbb.1 hbb.2
      have b0 : ¬ (b : Int) < 0 := by omega
      have C := (Holds.start (h := h4)).lit (sz := 1) (n := 1) (els := [[.int .i64 (b : Int)]]) (by simp) (by simp)
      have HB : Holds h (h4 ++ [some ⟨[.int .i64 (b : Int)], 1, false⟩]) ([.own (.slice op pl.length cp) 3 (pl.map encT), .own (.slice ot us.length ct) 1 (us.map encV), .own (.slice ou out.length cu) 1 ((oI out).map encI), .own (.slice (some ⟨h4.length, 0, some 1⟩) 1 1) 1 (([(b : Int)]).map encI)] ++ (inL encB 1 us T ++ [])) := Holds.joinT (A := [_]) (M := []) H C
      obtain ⟨v', h5, ha, H5, _⟩ := app_I (xs := [(b : Int)]) HB 3 rfl (HB.sees 2 rfl) (by simp; omega)
      have H6 : Holds h h5 ([.own (.slice op pl.length cp) 3 (pl.map encT), .own (.slice ot us.length ct) 1 (us.map encV), .own v' 1 ((oI (b :: out)).map encI)] ++ (inL encB 1 us T ++ [])) := H5.drop 2
      simp -implicitDefEqProofs [hlt, hlt', nv, b0, ha]
      exact ⟨g, by omega, on hI ⟨b :: out, v', rfl, hx, by omega, fun x hx => by
        rcases List.mem_cons.1 hx with rfl | hx
        · exact hbb.1
        · exact hout x hx, by simp only [List.length_cons]; omega, H6⟩⟩
end Go.Pm.PP

/- FnExactIdleChain: the program. -/
set_option linter.unusedVariables false
set_option linter.unusedSimpArgs false
set_option maxRecDepth 4000
set_option maxHeartbeats 8000000
namespace Go.Pm.PP
open Go.Pm Go.Proofs Go.Pm.LP
theorem chain2_run {h : Hp} {i : Int} : Ret P G n_impl_IdleChain_2 [.int .i64 i] h (.bool true) h := by
  refine enter_run e_impl_IdleChain_2 (by simp) ?_
  simp -implicitDefEqProofs
theorem chain3_run {h : Hp} {pb pn vb : Value} {n : Nat} {T : Tab} {us : List Value} {b i : Nat} (l1 : loadP P h t_S_S_bool pb = some vb) (l2 : loadP P h t_int pn = some (.int .i64 (b : Int))) (N : Nest h vb encB 1 T us) (sq : Sq n T) (hb : b < n) (hi : i < n) :
    Ret P G n_impl_IdleChain_3 [.int .i64 i, pb, pn] h (.bool (tg T i b)) h := by
  refine enter_run e_impl_IdleChain_3 (by simp) ?_
  obtain ⟨u, r, R, hr⟩ := tab_row N sq hi
  have bit := row_bit R (j := b) (by omega)
  simp -implicitDefEqProofs [-indexAddrP_some, l1, l2, R.ld, bit]
theorem chain1_run {h : Hp} {pj pp vj vp : Value} {g : FuncId} {c : Array Value} {js : List Job} {pl : List Task} {n : Nat} {may : Nat → Bool} (l1 : loadP P h t_S_impl_Job pj = some vj) (l2 : loadP P h t_S_impl_Task pp = some vp) (hj : Jobs h vj js) (hp : Tasks h vp pl) (hjn : js.length = n) (hpn : pl.length = n) (h8 : n ≤ 2 ^ 30)
    (hr : ∀ i, i < n → Ret P G g (.int .i64 (i : Int) :: c.toList) h (.bool (may i)) h) :
    Ret P G n_impl_IdleChain_1 [.func (.func g) #[] c, pj, pp] h (.int .i64 (nv (lat js pl may n))) h := by
  refine enter_run e_impl_IdleChain_1 (by simp) ?_
  have hjs := hj
  have hps := hp
  obtain ⟨oj, cj, rfl⟩ : ∃ oj cj, vj = .slice oj n cj := by obtain ⟨a, c, e⟩ := hj.shapeT; exact ⟨a, c, by rw [e, hjn]⟩
  simp -implicitDefEqProofs [l1]
  refine R_loopO (fun k s h' => ∃ (i : Nat) (b : Option Nat), i + k = n ∧ s = [(0, .func (.func g) #[] c), (1, pj), (2, pp), (5, .int .i64 (nv b)), (8, .int .i64 n), (9, .int .i64 i)] ∧ h' = h ∧ lat js pl may n = (List.range' i k).foldl (ltS js pl may) b ∧ (∀ x, b = some x → x < n)) (fun I2 hI2 k s h4 => ?_) (n := n)
    ⟨0, none, Nat.zero_add _, by simp [nv], rfl, rfl, by simp⟩
  rintro ⟨i, b, hi, rfl, rfl, hb, hbn⟩
  by_cases hlt : i < n
  · have hlt' : (i : Int) < n := by omega
    rw [fold_r (f := ltS js pl may) (by omega)] at hb
    have wi := winc hlt (show n ≤ 2 ^ 40 by omega)
    have ri := hr i hlt
    obtain ⟨zi, hzi, _⟩ := drop_at (show i < js.length by omega)
    have ti := tm_at hzi
    have lpI := load_K hps (tat_get (l := pl) (i := i) (by omega))
    have ljI := load_J hjs hzi
    cases hmay : may i
    · rw [hmay] at ri
      have e : ltS js pl may b i = b := by unfold ltS; rw [if_neg (fun q => by rw [hmay] at q; exact absurd q.1 (by simp))]
      rw [e] at hb
      simp -implicitDefEqProofs [-indexAddrP_some, hlt, hlt', CL_ret ri, CH_at ri, wi]
      exact ⟨k - 1, by omega, on hI2 ⟨i + 1, b, by omega, rfl, rfl, hb, hbn⟩⟩
    · rw [hmay] at ri
      cases b with
      | none =>
        have e : ltS js pl may none i = some i := by unfold ltS; rw [if_pos ⟨hmay, by simp⟩]
        rw [e] at hb
        simp -implicitDefEqProofs [-indexAddrP_some, hlt, hlt', CL_ret ri, CH_at ri, nv, wi]
        exact ⟨k - 1, by omega, on hI2 ⟨i + 1, some i, by omega, rfl, rfl, hb, fun x hx => by cases hx; exact hlt⟩⟩
      | some y =>
        have hy := hbn y rfl
        have y0 : ¬ (y : Int) < 0 := by omega
        obtain ⟨zy, hzy, _⟩ := drop_at (show y < js.length by omega)
        have ty := tm_at hzy
        have lpY := load_K hps (tat_get (l := pl) (i := y) (by omega))
        have ljY := load_J hjs hzy
        by_cases c3 : eW js pl y < eW js pl i
        · have e : ltS js pl may (some y) i = some i := by unfold ltS; rw [if_pos ⟨hmay, fun x hx => by cases hx; exact c3⟩]
          rw [e] at hb
          unfold eW w64 at c3
          rw [ty, ti] at c3
          simp -implicitDefEqProofs [-indexAddrP_some, hlt, hlt', CL_ret ri, CH_at ri, nv, y0, l1, l2, lpI, ljI, lpY, ljY, c3, wi]
          exact ⟨k - 1, by omega, on hI2 ⟨i + 1, some i, by omega, rfl, rfl, hb, fun x hx => by cases hx; exact hlt⟩⟩
        · have e : ltS js pl may (some y) i = some y := by unfold ltS; rw [if_neg fun q => c3 (q.2 y rfl)]
          rw [e] at hb
          unfold eW w64 at c3
          rw [ty, ti] at c3
          simp -implicitDefEqProofs [-indexAddrP_some, hlt, hlt', CL_ret ri, CH_at ri, nv, y0, l1, l2, lpI, ljI, lpY, ljY, c3, wi]
          exact ⟨k - 1, by omega, on hI2 ⟨i + 1, some y, by omega, rfl, rfl, hb, hbn⟩⟩
  · have hlt' : ¬ (i : Int) < n := by omega
    have hk : k = 0 := by omega
    subst hk
    rw [List.range'_zero, List.foldl_nil] at hb
    simp -implicitDefEqProofs [hlt, hlt', hb]
theorem lat_congr {js : List Job} {pl : List Task} {p q : Nat → Bool} {n : Nat} (h : ∀ i, p i = q i) : lat js pl p n = lat js pl q n := by
  have : p = q := funext h
  rw [this]
theorem IdleChain_run {h : Hp} {vj ve vo : Value} {js : List Job} {es : List (Int × Int)} {xs : List Int} {m : Int} (hj : Jobs h vj js) (he : Prs h ve es) (ho : Ints h vo xs) (l1 : js.length ≤ 2 ^ 40) (l2 : es.length ≤ 2 ^ 40) (l3 : xs.length ≤ 2 ^ 20) :
    RunsC P G n_impl_IdleChain [vj, .int .i64 m, ve, vo] h fun v h' => h <+: h' ∧ retE encI 1 (idleO js m es xs) v h.length h' := by
  refine hideC fun K hK => enter_run e_impl_IdleChain (by simp) ?_
  have hjs := hj
  obtain ⟨n, hn⟩ : ∃ n, n = js.length := ⟨_, rfl⟩
  obtain ⟨oj, cj, rfl⟩ : ∃ oj cj, vj = .slice oj n cj := by obtain ⟨a, c, e⟩ := hj.shapeT; exact ⟨a, c, by rw [e, hn]⟩
  have H0 := (Holds.start.alloc [.slice oj n cj] (h := h)).open
  have r1 := isListed_run (m := m) (hj.pre H0.pre) (he.pre H0.pre) (ho.pre H0.pre) l1 l2 (by omega)
  rw [listOk_eq] at r1
  cases c1 : listOk js m es xs
  · simp -implicitDefEqProofs [CL_ret r1, c1]
    refine onK hK ⟨pre_gcU H0.pre, .slice none 0 0, by simp [idleO, c1], by simpa [idleO, c1] using Own.nil⟩
  obtain ⟨mm, os, rfl, hm, rfl, h8, hl, hin, he8, W⟩ := listOk_wf c1
  by_cases hn0 : n = 0
  · subst hn0
    simp -implicitDefEqProofs [CL_ret r1, c1]
    exact onK hK ⟨pre_gcU H0.pre, .slice none 0 0, by simp [idleO, ← hn], by simpa [idleO, ← hn] using Own.nil⟩
  have hnI : ((n : Int) == 0) = false := nb (by omega)
  generalize hX : chainL js mm es os = X
  have hXo : idleO js mm es (oI os) = some (oI X) := by
    unfold idleO; rw [if_pos ⟨c1, by omega⟩, oI_nat, Int.toNat_natCast, hX]
  rw [hXo] at hK
  simp -implicitDefEqProofs [CL_ret r1, c1, hnI]
  refine CL_post (closure_run (n := n) (he.pre H0.pre) l2 (by omega) (by rw [hn]; exact hin)) fun vb h1 ⟨us, hus, C1⟩ => ?_
  have H1 := Holds.joinT (A := [.own vb 1 (us.map encV)]) (M := inL encB 1 us (tabOf n es)) H0 C1
  have hvb := (C1.sees 0 rfl).shapeT
  obtain ⟨ob, cb, rfl⟩ := hvb
  have H2 := H1.allocT [.slice ob us.length cb]
  simp -implicitDefEqProofs [H1.bl 0 1 rfl rfl, H2.bl 0 1 rfl rfl]
  refine CL_post (listPlan_run (hj.pre H2.pre) (he.pre H2.pre) (ho.pre H2.pre) W hin h8 hm (by omega) l2) fun vp h3 ⟨hp3, ho3⟩ => ?_
  have H3 := H2.callT hp3 ho3
  have hvp := ho3.sees.shapeT
  obtain ⟨op, cp, rfl⟩ := hvp
  have H4 := (H3.allocT [.slice op (listL js mm es os).length cp]).callT List.prefix_rfl (Own.nil (sz := 1))
  have sq := W.sq
  have tr := W.tr
  have ir := W.ir
  rw [← hn] at sq tr ir h8
  unfold chainL at hX
  rw [← hn] at hX
  have hpl : (listL js mm es os).length = n := by rw [listL_len, hn]
  have hlT : us.length = (tabOf n es).length := by rw [hus, sq.len]
  have HB : ∀ {h' : Hp} {vk : Value} {back : List Nat}, Holds h h' ([.box h.length [.slice oj n cj], .own (.slice ob us.length cb) 1 (us.map encV), .box h1.length [.slice ob us.length cb], .own (.slice op (listL js mm es os).length cp) 3 ((listL js mm es os).map encT), .box h3.length [.slice op (listL js mm es os).length cp], .own vk 1 ((oI back).map encI)] ++ (inL encB 1 us (tabOf n es) ++ [])) →
      ∀ {g : FuncId} {c : Array Value} {may : Nat → Bool}, (∀ i, i < n → Ret P G g (.int .i64 (i : Int) :: c.toList) h' (.bool (may i)) h') →
      Ret P G n_impl_IdleChain_1 [.func (.func g) #[] c, .pointer (some ⟨h.length, 0, some 1⟩), .pointer (some ⟨h3.length, 0, some 1⟩)] h' (.int .i64 (nv (lat js (listL js mm es os) may n))) h' := by
    intro h' vk back H g c may hr
    have b1 := H.bl (P := P) 0 1 rfl rfl t_S_impl_Job 0
    have b2 := H.bl (P := P) 4 1 rfl rfl t_S_impl_Task 0
    exact chain1_run (by simpa using b1) (by simpa using b2) (hjs.pre H.pre) (H.sees 3 rfl) hn.symm hpl (by omega) hr
  generalize listL js mm es os = pl at hX H4 hpl HB ⊢
  generalize tabOf n es = T at hX H4 sq tr ir hlT HB
  have rf := HB (vk := .slice none 0 0) (back := []) (by simpa using H4) (g := n_impl_IdleChain_2) (c := #[]) (may := mayO T []) (fun i _ => by simpa [mayO] using chain2_run)
  clear H0 H1 H2 H3 C1 ho3 r1
  simp -implicitDefEqProofs [CL_ret rf]
  -- backwards
  refine R_loopO (fun f s h' => ∃ (back : List Nat) (u : Value), s = [(10, .pointer (some ⟨h1.length, 0, some 1⟩)), (12, .func (.func n_impl_IdleChain_1) #[] #[.pointer (some ⟨h.length, 0, some 1⟩), .pointer (some ⟨h3.length, 0, some 1⟩)]), (13, u), (14, .int .i64 (nv (lat js pl (mayO T back.reverse) n)))] ∧
      X = cGo js pl T n f back.reverse ∧ mO T n back.reverse < f ∧ (∀ x, x ∈ back → x < n) ∧ back.length + f ≤ n + 2 ∧
    Holds h h' ([.box h.length [.slice oj n cj], .own (.slice ob us.length cb) 1 (us.map encV), .box h1.length [.slice ob us.length cb], .own (.slice op pl.length cp) 3 (pl.map encT), .box h3.length [.slice op pl.length cp], .own u 1 ((oI back).map encI)] ++ (inL encB 1 us T ++ []))) (fun I hI f s h4 => ?_) (n := n + 2)
    ⟨[], .slice none 0 0, by simp, hX.symm, by show n + 1 < n + 2; omega, by simp, by simp, by simpa using H4⟩
  rintro ⟨back, u, rfl, hx, hmf, hbk, hbl, H⟩
  obtain ⟨g, rfl⟩ : ∃ g, f = g + 1 := ⟨f - 1, by omega⟩
  obtain ⟨ou, cu, rfl⟩ := oI_shape (H.sees 5 rfl)
  rw [cGo] at hx
  cases hla : lat js pl (mayO T back.reverse) n with
  | some b =>
    rw [hla] at hx
    have hbb := lat_some hla
    have mlt := mO_lt tr ir (fun x hx => hbk x (by simpa using hx)) hbb.1 hbb.2
    have b0 : (0 : Int) ≤ (b : Int) := by omega
    obtain ⟨v', h5, ha, H5, _⟩ := push_I0 H 5 rfl (b : Int) (by simp; omega)
    have H6 : Holds h h5 ([.box h.length [.slice oj n cj], .own (.slice ob us.length cb) 1 (us.map encV), .box h1.length [.slice ob us.length cb], .own (.slice op pl.length cp) 3 (pl.map encT), .box h3.length [.slice op pl.length cp], .own v' 1 ((oI (back ++ [b])).map encI)] ++ (inL encB 1 us T ++ [])) := by
      rw [show oI (back ++ [b]) = oI back ++ [(b : Int)] by simp]
      exact H5
    have H7 := H6.ext (List.prefix_append h5 [some (⟨[.int .i64 (b : Int)], 0, false⟩ : Row)])
    have H8 := H6.allocT [.int .i64 (b : Int)]
    have N : Nest (h5 ++ [some ⟨[.int .i64 (b : Int)], 0, false⟩]) (.slice ob us.length cb) encB 1 T us := Holds.nest (L1 := [_, _, _, _, _, _]) (L2 := []) (o := 1) H7 rfl hlT
    have q1 := H7.bl (P := P) 2 1 rfl rfl t_S_S_bool 0
    have q2 := H8.bl (P := P) 6 1 rfl rfl t_int 0
    have r3 := HB H7 (g := n_impl_IdleChain_3) (c := #[.pointer (some ⟨h1.length, 0, some 1⟩), .pointer (some ⟨h5.length, 0, some 1⟩)]) (may := fun i => tg T i b) (fun i hi => chain3_run (by simpa using q1) (by simp) N sq hbb.1 hi)
    rw [lat_congr (q := mayO T (back ++ [b]).reverse) (fun i => by simp [mayO])] at r3
    simp -implicitDefEqProofs [nv, b0, ha, CL_ret r3]
    refine ⟨g, by omega, on hI ⟨back ++ [b], v', by simp [nv], by simpa using hx, by simpa using (show mO T n (b :: back.reverse) < g by omega), fun x hx => ?_, by simp only [List.length_append, List.length_cons, List.length_nil]; omega, H7⟩⟩
    rcases List.mem_append.1 hx with hx | hx
    · exact hbk x hx
    · rw [List.mem_singleton.1 hx]; exact hbb.1
  | none =>
    rw [hla] at hx
    have w0 : IntKind.i64.wrap ((back.length : Int) - 1) = (back.length : Int) - 1 := by rw [wrap_ok] <;> omega
    simp -implicitDefEqProofs [nv, w0]
    -- forwards
    refine R_loopO (fun k s h' => ∃ (u : Value), k ≤ back.length ∧ s = [(13, .slice ou back.length cu), (16, u), (17, .int .i64 ((k : Int) - 1))] ∧
      Holds h h' [.own (.slice ou back.length cu) 1 ((oI back).map encI), .own u 1 ((oI (back.drop k).reverse).map encI)]) (fun I2 hI2 k s h5 => ?_) (n := back.length)
      ⟨.slice none 0 0, Nat.le_refl _, by simp, by
        have := own_nil ((H.take 6).sub (M := [.own (.slice ou back.length cu) 1 ((oI back).map encI)]) (fun _ => 5) (fun i A hA => by
          match i, hA with
          | 0, hA => cases hA; rfl
          | i + 1, hA => cases hA) (fun i j A B hA hB _ => by
          match i, j, hA, hB with
          | 0, 0, _, _ => rfl
          | i + 1, _, hA, _ => cases hA
          | _, j + 1, _, hB => cases hB)) Int encI 1
        simpa using this⟩
    rintro ⟨u, hk, rfl, H5⟩
    rcases Nat.eq_zero_or_pos k with h0 | h0
    · subst h0
      simp -implicitDefEqProofs
      refine onK hK ⟨(H5.ret2 1 rfl).1, _, rfl, ?_⟩
      rw [Option.getD_some, hx]
      simpa using (H5.ret2 1 rfl).2
    · obtain ⟨q, rfl⟩ : ∃ q, k = q + 1 := ⟨k - 1, by omega⟩
      rw [show ((q + 1 : Nat) : Int) - 1 = (q : Int) by omega]
      have q0 : (0 : Int) ≤ (q : Int) := by omega
      obtain ⟨y, hy, hd⟩ := drop_at (show q < back.length by omega)
      have ly := load_I (H5.sees 0 rfl) (oI_get hy)
      obtain ⟨v', h6, ha, H6, _⟩ := push_I0 H5 1 rfl (y : Int) (by simp; omega)
      have w1 : IntKind.i64.wrap ((q : Int) - 1) = (q : Int) - 1 := by rw [wrap_ok] <;> omega
      simp -implicitDefEqProofs [-indexAddrP_some, q0, ly, ha, w1]
      refine ⟨q, by omega, on hI2 ⟨v', by omega, rfl, ?_⟩⟩
      rw [show oI (back.drop q).reverse = oI (back.drop (q + 1)).reverse ++ [(y : Int)] by rw [hd, List.reverse_cons]; simp]
      exact H6
end Go.Pm.PP

/- FnExactIdleChain in the small machine. -/
set_option linter.unusedVariables false
set_option linter.unusedSimpArgs false
set_option maxRecDepth 4000
set_option maxHeartbeats 4000000
namespace Go.Pm.PP
open Go.Pm Go.Proofs Go.Pm.LP
theorem law_IdleChain {h : Hp} {vj ve vo : Value} {js : List Job} {es : List (Int × Int)} {xs : List Int} {m : Int} (hj : Jobs h vj js) (he : Prs h ve es) (ho : Ints h vo xs) (l1 : js.length < 2 ^ 63) (l2 : es.length < 2 ^ 63) :
    Ret P G n_laws_FnExactIdleChain [vj, .int .i64 m, ve, vo] h (.bool true) h := by
  refine enter_run e_laws_FnExactIdleChain (by simp) ?_
  have hjs := hj
  have hes := he
  have hos := ho
  obtain ⟨oj, cj, rfl⟩ := hj.shapeT
  obtain ⟨oe, ce, rfl⟩ := he.shapeT
  obtain ⟨oo, co, rfl⟩ := ho.shapeT
  by_cases c0 : 1048576 < xs.length
  · have c0' : (1048576 : Int) < xs.length := by omega
    simp -implicitDefEqProofs [c0, c0']
  have c0' : ¬ (1048576 : Int) < xs.length := by omega
  have z1 := szJobS_run (left := 1048576) hjs l1 (by omega) (by omega)
  by_cases c1 : szL 1048576 js.length < 0
  · simp -implicitDefEqProofs [c0, c0', CL_ret z1, c1]
  have e1 := szL_ok c1
  have z2 := szIntA2S_run (left := szL 1048576 js.length) hes l2 (by omega) (by omega)
  by_cases c2 : szL (szL 1048576 js.length) es.length < 0
  · simp -implicitDefEqProofs [c0, c0', CL_ret z1, c1, CL_ret z2, c2]
  have e2 := szL_ok c2
  have b1 : js.length ≤ 2 ^ 40 := by omega
  have b2 : es.length ≤ 2 ^ 40 := by omega
  have b3 : xs.length ≤ 2 ^ 20 := by omega
  have b3' : xs.length ≤ 2 ^ 40 := by omega
  obtain ⟨X, hX⟩ : ∃ X, X = idleO js m es xs := ⟨_, rfl⟩
  obtain ⟨rs, hrs⟩ : ∃ rs, rs = X.getD [] := ⟨_, rfl⟩
  have rl : rs.length ≤ 2 ^ 40 := by rw [hrs, hX]; exact Nat.le_trans idleO_len (by omega)
  -- the reference
  simp -implicitDefEqProofs [c0, c0', CL_ret z1, c1, CL_ret z2, c2]
  refine CL_post (toJobS_run hjs b1) fun v1 h1 C1 => ?_
  simp -implicitDefEqProofs
  refine CL_post (toIntA2S_run (hes.pre C1.pre) b2) fun v2 h2 C2 => ?_
  simp -implicitDefEqProofs
  refine CL_post (toIntS_run (hos.pre (C1.pre.trans C2.pre)) b3') fun v3 h3 C3 => ?_
  simp -implicitDefEqProofs
  refine CL_post (specIdleChain_run (m := m) ((C1.sees 0 rfl).pre (C2.pre.trans C3.pre)) ((C2.sees 0 rfl).pre C3.pre) (C3.sees 0 rfl) b1 b2 b3) fun v h4 ⟨p4, w, ev, ow⟩ => ?_
  subst ev
  rw [← hX, ← hrs] at ow
  rw [← hX]
  obtain ⟨w1, w2, w3, rfl⟩ : ∃ a n c, w = .slice a n c := by obtain ⟨a, c, e⟩ := ow.sees.shape; exact ⟨_, _, _, e⟩
  have H1 := ((Holds.start (h := h)).ext (C1.pre.trans (C2.pre.trans C3.pre))).call p4 ow
  -- the copies
  simp -implicitDefEqProofs
  refine CL_post (toJobS_run (hjs.pre H1.pre) b1) fun v5 h5 C5 => ?_
  obtain ⟨x1, x2, x3, rfl⟩ : ∃ a n c, v5 = .slice a n c := by obtain ⟨a, c, e⟩ := (C5.sees 0 rfl).shape; exact ⟨_, _, _, e⟩
  have H2 := H1.join C5
  simp -implicitDefEqProofs
  refine CL_post (toIntA2S_run (hes.pre H2.pre) b2) fun v6 h6 C6 => ?_
  obtain ⟨y1, y2, y3, rfl⟩ : ∃ a n c, v6 = .slice a n c := by obtain ⟨a, c, e⟩ := (C6.sees 0 rfl).shape; exact ⟨_, _, _, e⟩
  have H3 := H2.join C6
  simp -implicitDefEqProofs
  refine CL_post (toIntS_run (hos.pre H3.pre) b3') fun v7 h7 C7 => ?_
  obtain ⟨u1, u2, u3, rfl⟩ : ∃ a n c, v7 = .slice a n c := by obtain ⟨a, c, e⟩ := (C7.sees 0 rfl).shape; exact ⟨_, _, _, e⟩
  have H4 := H3.join C7
  -- the program
  simp -implicitDefEqProofs
  refine CL_post (IdleChain_run (m := m) (H4.sees 1 rfl) (H4.sees 2 rfl) (H4.sees 3 rfl) b1 b2 b3) fun v h8 ⟨p8, g, ev, og⟩ => ?_
  subst ev
  rw [← hX, ← hrs] at og
  rw [← hX]
  obtain ⟨g1, g2, g3, rfl⟩ : ∃ a n c, g = .slice a n c := by obtain ⟨a, c, e⟩ := og.sees.shape; exact ⟨_, _, _, e⟩
  have H5 := H4.call p8 og
  have q1 := eqIntS_run (H5.sees 4 rfl) (H5.sees 0 rfl) rl
  simp -implicitDefEqProofs [CL_ret q1]
  -- the copies are as they were
  refine CL_post (toJobS_run (hjs.pre H5.pre) b1) fun v9 h9 C9 => ?_
  have H6 := H5.ext C9.pre
  have q2 := eqJobS_run (H6.sees 1 rfl) (C9.sees 0 rfl) b1
  simp -implicitDefEqProofs [CL_ret q2]
  refine CL_post (toIntA2S_run (hes.pre H6.pre) b2) fun v10 h10 C10 => ?_
  have H7 := H6.ext C10.pre
  have q3 := eqIntA2S_run (H7.sees 2 rfl) (C10.sees 0 rfl) b2
  simp -implicitDefEqProofs [CL_ret q3]
  refine CL_post (toIntS_run (hos.pre H7.pre) b3') fun v11 h11 C11 => ?_
  have H8 := H7.ext C11.pre
  have q4 := eqIntS_run (H8.sees 3 rfl) (C11.sees 0 rfl) b3'
  simp -implicitDefEqProofs [CL_ret q4]
  -- marks in the copies
  refine CL_post (markJobS_run (k := 1) H8 1 rfl b1 (by omega) (by omega)) fun r h12 ⟨er, H9⟩ => ?_
  subst er
  simp -implicitDefEqProofs
  refine CL_post (markIntA2S_run (k := 1 + 4 * (js.length : Int)) H9 2 rfl b2 (by omega) (by omega)) fun r h13 ⟨er, H10⟩ => ?_
  subst er
  simp -implicitDefEqProofs
  refine CL_post (markIntS_run (k := 1 + 4 * (js.length : Int) + 2 * (es.length : Int)) H10 3 rfl b3' (by omega) (by omega)) fun r h14 ⟨er, H11⟩ => ?_
  subst er
  have q5 := eqIntS_run (H11.sees 4 rfl) (H11.sees 0 rfl) rl
  have hk0 : ¬ (1 + 4 * (js.length : Int) + 2 * (es.length : Int) + (xs.length : Int) < 0) := by omega
  simp -implicitDefEqProofs [hk0, CL_ret q5]
  -- marks in the result
  refine CL_post (markIntS_run (k := 1) H11 4 rfl rl (by omega) (by omega)) fun r h15 ⟨er, H12⟩ => ?_
  subst er
  have q6 := heldIntS_run (k := 1) (H12.sees 4 rfl) rl (by omega) (by omega)
  have hk1 : ¬ (1 + (rs.length : Int) < 0) := by omega
  simp -implicitDefEqProofs [CL_ret q6, hk1]
  -- once more
  refine CL_post (toJobS_run (hjs.pre H12.pre) b1) fun v16 h16 C16 => ?_
  simp -implicitDefEqProofs
  refine CL_post (toIntA2S_run (hes.pre (H12.pre.trans C16.pre)) b2) fun v17 h17 C17 => ?_
  simp -implicitDefEqProofs
  refine CL_post (toIntS_run (hos.pre (H12.pre.trans (C16.pre.trans C17.pre))) b3') fun v18 h18 C18 => ?_
  simp -implicitDefEqProofs
  refine CL_post (IdleChain_run (m := m) ((C16.sees 0 rfl).pre (C17.pre.trans C18.pre)) ((C17.sees 0 rfl).pre C18.pre) (C18.sees 0 rfl) b1 b2 b3) fun v h19 ⟨p19, t, ev, ot⟩ => ?_
  subst ev
  rw [← hX, ← hrs] at ot
  rw [← hX]
  have H13 := H12.ext (C16.pre.trans (C17.pre.trans (C18.pre.trans p19)))
  have q7 := eqIntS_run ot.sees (H13.sees 0 rfl) rl
  have q8 := heldIntS_run (k := 1) (H13.sees 4 rfl) rl (by omega) (by omega)
  simp -implicitDefEqProofs [CL_ret q7, CL_ret q8, hk1]
  exact gcP H13.pre rfl
end Go.Pm.PP
