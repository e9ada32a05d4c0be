/- The texts PkN, PkO, PkP, PqA, PqB, PqC, PqD, PqE, PqF of this work: FnExactIdleChain: the reference. -/
import Derived.Test.YtlieeolnnehncaaP11
import Derived.Test.YtlieeolnnehncaaM3
import Derived.Test.YtlieeolnnehncaaP7
import Derived.Test.YtlieeolnnehncaaP9
/- FnExactIdleChain: the reference. -/
set_option linter.unusedVariables false
set_option linter.unusedSimpArgs false
set_option maxRecDepth 4000
set_option maxHeartbeats 8000000
namespace Go.Pm.PP
open Go.Pm Go.Proofs Go.Pm.LP
/-- The end of a job in a plan. -/
def eW (js : List Job) (pl : List Task) (i : Nat) : Int := w64 ((tat pl i).s + tm js i)
def ltS (js : List Job) (pl : List Task) (may : Nat → Bool) (b : Option Nat) (i : Nat) : Option Nat :=
  if may i = true ∧ (∀ x, b = some x → eW js pl x < eW js pl i) then some i else b
def lat (js : List Job) (pl : List Task) (may : Nat → Bool) (n : Nat) : Option Nat := (List.range' 0 n).foldl (ltS js pl may) none
def mayO (T : Tab) (out : List Nat) (i : Nat) : Bool := match out[0]? with
  | none => true
  | some x => tg T i x
def cGo (js : List Job) (pl : List Task) (T : Tab) (n : Nat) : Nat → List Nat → List Nat
  | 0, out => out
  | f + 1, out => match lat js pl (mayO T out) n with
    | none => out
    | some b => cGo js pl T n f (b :: out)
def mO (T : Tab) (n : Nat) (out : List Nat) : Nat := match out[0]? with
  | none => n + 1
  | some x => preds n T x
theorem ltS_some {js : List Job} {pl : List Task} {may : Nat → Bool} {b : Option Nat} {i x : Nat} (h : ltS js pl may b i = some x) : (x = i ∧ may i = true) ∨ b = some x := by
  unfold ltS at h
  split at h
  · rename_i g; cases h; exact .inl ⟨rfl, g.1⟩
  · exact .inr h
theorem lat_fold {js : List Job} {pl : List Task} {may : Nat → Bool} {n : Nat} : ∀ {l : List Nat} {b : Option Nat}, (∀ i, i ∈ l → i < n) → (∀ x, b = some x → x < n ∧ may x = true) → ∀ x, l.foldl (ltS js pl may) b = some x → x < n ∧ may x = true
  | [], b, _, hb, x, h => hb x h
  | i :: l, b, hl, hb, x, h => lat_fold (l := l) (fun j hj => hl j (List.mem_cons_of_mem _ hj)) (fun y hy => by
      rcases ltS_some hy with ⟨rfl, g⟩ | g
      · exact ⟨hl _ (List.mem_cons_self ..), g⟩
      · exact hb y g) x h
theorem lat_some {js : List Job} {pl : List Task} {may : Nat → Bool} {n x : Nat} (h : lat js pl may n = some x) : x < n ∧ may x = true :=
  lat_fold (fun i hi => mem_r'.1 hi) (fun x h => by cases h) x h
theorem mO_lt {n : Nat} {T : Tab} (t : TrB n n T) (ir : ∀ i, i < n → tg T i i = false) {out : List Nat} (ho : ∀ x, x ∈ out → x < n) {b : Nat} (hb : b < n) (h : mayO T out b = true) : mO T n (b :: out) < mO T n out := by
  have e : mO T n (b :: out) = preds n T b := rfl
  rw [e]
  unfold mO mayO at *
  cases hx : out[0]? with
  | none =>
    have := List.countP_le_length (p := fun k => tg T k b) (l := List.range n)
    simp only [List.length_range] at this
    unfold preds
    show _ < n + 1
    omega
  | some x =>
    rw [hx] at h
    exact preds_lt t ir (ho x (List.mem_of_getElem? hx)) hb h
def chainL (js : List Job) (m : Nat) (es : List (Int × Int)) (os : List Nat) : List Nat := cGo js (listL js m es os) (tabOf js.length es) js.length (js.length + 2) []
def idleO (js : List Job) (m : Int) (es : List (Int × Int)) (xs : List Int) : Option (List Int) := if listOk js m es xs = true ∧ ¬ js.length = 0 then some (oI (chainL js m.toNat es (xs.map Int.toNat))) else none
theorem cGo_len {js : List Job} {pl : List Task} {T : Tab} {n : Nat} : ∀ {f : Nat} {out : List Nat}, (cGo js pl T n f out).length ≤ f + out.length
  | 0, out => by simp [cGo]
  | f + 1, out => by
    rw [cGo]
    split
    · omega
    · rename_i b _
      have := @cGo_len js pl T n f (b :: out)
      simp only [List.length_cons] at this
      omega
theorem idleO_len {js : List Job} {m : Int} {es : List (Int × Int)} {xs : List Int} : ((idleO js m es xs).getD []).length ≤ 10 := by
  unfold idleO
  split
  · rename_i h
    obtain ⟨_, _, _, _, _, h8, _⟩ := listOk_wf h.1
    have := @cGo_len js (listL js m.toNat es (xs.map Int.toNat)) (tabOf js.length es) js.length (js.length + 2) []
    simp only [List.length_nil] at this
    rw [Option.getD_some, List.length_map]
    unfold chainL
    omega
  · simp
theorem specIdleChain_run {h : Hp} {vj ve vo : Value} {js : List Job} {es : List (Int × Int)} {xs : List Int} {m : Int} (hj : Jobs h vj js) (he : Prs h ve es) (ho : Ints h vo xs) (l1 : js.length ≤ 2 ^ 40) (l2 : es.length ≤ 2 ^ 40) (l3 : xs.length ≤ 2 ^ 20) :
    RunsC P G n_spec_IdleChain [vj, .int .i64 m, ve, vo] h fun v h' => h <+: h' ∧ retE encI 1 (idleO js m es xs) v h.length h' := by
  refine hideC fun K hK => enter_run e_spec_IdleChain (by simp) ?_
  have hjs := hj
  have r1 := l7Ordered_run (m := m) hj he ho l1 l2 (by omega)
  obtain ⟨n, hn⟩ : ∃ n, n = js.length := ⟨_, rfl⟩
  obtain ⟨oj, cj, rfl⟩ : ∃ oj cj, vj = .slice oj n cj := by obtain ⟨a, c, e⟩ := hj.shapeT; exact ⟨a, c, by rw [e, hn]⟩
  cases c1 : listOk js m es xs
  · simp -implicitDefEqProofs [CL_ret r1, c1]
    exact onK hK ⟨List.prefix_rfl, .slice none 0 0, by simp [idleO, c1], by simpa [idleO, c1] using Own.nil⟩
  obtain ⟨mm, os, rfl, hm, rfl, h8, hl, hin, he8, W⟩ := listOk_wf c1
  by_cases hn0 : n = 0
  · subst hn0
    simp -implicitDefEqProofs [CL_ret r1, c1]
    exact onK hK ⟨List.prefix_rfl, .slice none 0 0, by simp [idleO, ← hn], by simpa [idleO, ← hn] using Own.nil⟩
  have hnI : ((n : Int) == 0) = false := nb (by omega)
  generalize hX : chainL js mm es os = X
  have hXo : idleO js mm es (oI os) = some (oI X) := by
    unfold idleO; rw [if_pos ⟨c1, by omega⟩, oI_nat, Int.toNat_natCast, hX]
  rw [hXo] at hK
  simp -implicitDefEqProofs [CL_ret r1, c1, hnI]
  refine CL_post (l7List_run hj he ho W hin h8 hm (by omega) l2) fun vp h1 ⟨hp1, ho1⟩ => ?_
  have H1 := ((Holds.start (h := h)).call hp1 ho1).open
  simp -implicitDefEqProofs
  have rt := l4Table_run (n := n) (he.pre hp1) l2 (by omega) (by rw [hn]; exact hin)
  refine CL_post rt fun vt h2 ⟨us, hus, C2⟩ => ?_
  have H2 := Holds.joinT (A := [.own vt 1 (us.map encV)]) (M := inL encB 1 us (tabOf n es)) H1 C2
  have H3 := H2.callT List.prefix_rfl (Own.nil (sz := 1))
  have sq := W.sq
  have tr := W.tr
  have ir := W.ir
  rw [← hn] at sq tr ir h8
  unfold chainL at hX
  rw [← hn] at hX
  have hpl : (listL js mm es os).length = n := by rw [listL_len, hn]
  generalize listL js mm es os = pl at hX H3 hpl
  generalize tabOf n es = T at hX H3 sq tr ir
  have hlT : us.length = T.length := by rw [hus, sq.len]
  have s1 := (H3.sees 0 rfl).shapeT
  obtain ⟨op, cp, rfl⟩ := s1
  have s2 := (H3.sees 1 rfl).shapeT
  obtain ⟨ot, ct, rfl⟩ := s2
  clear H1 H2 C2 ho1
  simp -implicitDefEqProofs
  refine R_loopO (fun f s h' => ∃ (out : List Nat) (u : Value), s = [(0, .slice oj n cj), (10, u), (11, .slice op pl.length cp), (12, .slice ot us.length ct)] ∧ X = cGo js pl T n f out ∧ mO T n out < f ∧ (∀ x, x ∈ out → x < n) ∧ out.length + f ≤ n + 2 ∧
    Holds h h' ([.own (.slice op pl.length cp) 3 (pl.map encT), .own (.slice ot us.length ct) 1 (us.map encV), .own u 1 ((oI out).map encI)] ++ (inL encB 1 us T ++ []))) (fun I hI f s h3 => ?_) (n := n + 2)
    ⟨[], .slice none 0 0, by simp, hX.symm, by show n + 1 < n + 2; omega, by simp, by simp, by simpa using H3⟩
  rintro ⟨out, u, rfl, hx, hmf, hout, hol, H⟩
  obtain ⟨g, rfl⟩ : ∃ g, f = g + 1 := ⟨f - 1, by omega⟩
  obtain ⟨ou, cu, rfl⟩ := oI_shape (H.sees 2 rfl)
  simp -implicitDefEqProofs
  rw [cGo] at hx
  refine R_loopO (fun k s h' => ∃ (i : Nat) (b : Option Nat), i + k = n ∧ s = [(0, .slice oj n cj), (10, .slice ou out.length cu), (11, .slice op pl.length cp), (12, .slice ot us.length ct), (13, .int .i64 (nv b)), (14, .int .i64 i)] ∧ h' = h3 ∧ lat js pl (mayO T out) n = (List.range' i k).foldl (ltS js pl (mayO T out)) b ∧ (∀ x, b = some x → x < n)) (fun I2 hI2 k s h4 => ?_) (n := n)
    ⟨0, none, Nat.zero_add _, by simp [nv], rfl, rfl, by simp⟩
  rintro ⟨i, b, hi, rfl, rfl, hb, hbn⟩
  by_cases hlt : i < n
  · have hlt' : (i : Int) < n := by omega
    rw [fold_r (f := ltS js pl (mayO T out)) (by omega)] at hb
    have wi := winc hlt (show n ≤ 2 ^ 40 by omega)
    have skip : mayO T out i = false → ∃ m, m < k ∧ I2 m [(0, .slice oj n cj), (10, .slice ou out.length cu), (11, .slice op pl.length cp), (12, .slice ot us.length ct), (13, .int .i64 (nv b)), (14, .int .i64 ((i + 1 : Nat) : Int))] h4 := fun g => by
      have e : ltS js pl (mayO T out) b i = b := by unfold ltS; rw [if_neg (fun q => by rw [g] at q; exact absurd q.1 (by simp))]
      rw [e] at hb
      exact ⟨k - 1, by omega, on hI2 ⟨i + 1, b, by omega, rfl, rfl, hb, hbn⟩⟩
    have N : Nest h4 (.slice ot us.length ct) encB 1 T us := Holds.nest (L1 := [_, _, _]) (L2 := []) (o := 1) H rfl hlT
    obtain ⟨zi, hzi, _⟩ := drop_at (show i < js.length by omega)
    have ti := tm_at hzi
    have lpI := load_K (H.sees 0 rfl) (tat_get (l := pl) (i := i) (by omega))
    have ljI := load_J (hjs.pre H.pre) hzi
    by_cases h0 : 0 < out.length
    · have h0' : (0 : Int) < out.length := by omega
      obtain ⟨x, hx0, _⟩ := drop_at h0
      have hxn := hout x (List.mem_of_getElem? hx0)
      have lx := load_I (H.sees 2 rfl) (oI_get hx0)
      rw [show ((0 : Nat) : Int) = 0 from rfl] at lx
      obtain ⟨u1, r1, R1, hr1⟩ := tab_row N sq hlt
      have bit := row_bit R1 (j := x) (by omega)
      have hm0 : mayO T out i = tg T i x := by unfold mayO; rw [hx0]
      cases c2 : tg T i x
      · rw [c2] at bit hm0
        have sk := skip hm0
        simp -implicitDefEqProofs [-indexAddrP_some, hlt, hlt', h0, h0', R1.ld, lx, bit, wi]
        simpa using sk
      · rw [c2] at bit hm0
        have hmay := hm0
        cases b with
        | none =>
          have e : ltS js pl (mayO T out) none i = some i := by unfold ltS; rw [if_pos ⟨hmay, by simp⟩]
          rw [e] at hb
          simp -implicitDefEqProofs [-indexAddrP_some, hlt, hlt', h0, h0', R1.ld, lx, bit, nv, wi]
          exact ⟨k - 1, by omega, on hI2 ⟨i + 1, some i, by omega, rfl, rfl, hb, fun x hx => by cases hx; exact hlt⟩⟩
        | some y =>
          have hy := hbn y rfl
          have y0 : ¬ (y : Int) < 0 := by omega
          obtain ⟨zy, hzy, _⟩ := drop_at (show y < js.length by omega)
          have ty := tm_at hzy
          have lpY := load_K (H.sees 0 rfl) (tat_get (l := pl) (i := y) (by omega))
          have ljY := load_J (hjs.pre H.pre) hzy
          by_cases c3 : eW js pl y < eW js pl i
          · have e : ltS js pl (mayO T out) (some y) i = some i := by unfold ltS; rw [if_pos ⟨hmay, fun x hx => by cases hx; exact c3⟩]
            rw [e] at hb
            unfold eW w64 at c3
            rw [ty, ti] at c3
            simp -implicitDefEqProofs [-indexAddrP_some, hlt, hlt', h0, h0', R1.ld, lx, bit, nv, y0, lpI, ljI, lpY, ljY, c3, wi]
            exact ⟨k - 1, by omega, on hI2 ⟨i + 1, some i, by omega, rfl, rfl, hb, fun x hx => by cases hx; exact hlt⟩⟩
          · have e : ltS js pl (mayO T out) (some y) i = some y := by unfold ltS; rw [if_neg fun q => c3 (q.2 y rfl)]
            rw [e] at hb
            unfold eW w64 at c3
            rw [ty, ti] at c3
            simp -implicitDefEqProofs [-indexAddrP_some, hlt, hlt', h0, h0', R1.ld, lx, bit, nv, y0, lpI, ljI, lpY, ljY, c3, wi]
            exact ⟨k - 1, by omega, on hI2 ⟨i + 1, some y, by omega, rfl, rfl, hb, hbn⟩⟩
    · have h0' : ¬ (0 : Int) < out.length := by omega
      have hmay : mayO T out i = true := by unfold mayO; rw [List.getElem?_eq_none (by omega)]
      cases b with
      | none =>
        have e : ltS js pl (mayO T out) none i = some i := by unfold ltS; rw [if_pos ⟨hmay, by simp⟩]
        rw [e] at hb
        simp -implicitDefEqProofs [-indexAddrP_some, hlt, hlt', h0, h0', nv, wi]
        exact ⟨k - 1, by omega, on hI2 ⟨i + 1, some i, by omega, rfl, rfl, hb, fun x hx => by cases hx; exact hlt⟩⟩
      | some y =>
        have hy := hbn y rfl
        have y0 : ¬ (y : Int) < 0 := by omega
        obtain ⟨zy, hzy, _⟩ := drop_at (show y < js.length by omega)
        have ty := tm_at hzy
        have lpY := load_K (H.sees 0 rfl) (tat_get (l := pl) (i := y) (by omega))
        have ljY := load_J (hjs.pre H.pre) hzy
        by_cases c3 : eW js pl y < eW js pl i
        · have e : ltS js pl (mayO T out) (some y) i = some i := by unfold ltS; rw [if_pos ⟨hmay, fun x hx => by cases hx; exact c3⟩]
          rw [e] at hb
          unfold eW w64 at c3
          rw [ty, ti] at c3
          simp -implicitDefEqProofs [-indexAddrP_some, hlt, hlt', h0, h0', nv, y0, lpI, ljI, lpY, ljY, c3, wi]
          exact ⟨k - 1, by omega, on hI2 ⟨i + 1, some i, by omega, rfl, rfl, hb, fun x hx => by cases hx; exact hlt⟩⟩
        · have e : ltS js pl (mayO T out) (some y) i = some y := by unfold ltS; rw [if_neg fun q => c3 (q.2 y rfl)]
          rw [e] at hb
          unfold eW w64 at c3
          rw [ty, ti] at c3
          simp -implicitDefEqProofs [-indexAddrP_some, hlt, hlt', h0, h0', nv, y0, lpI, ljI, lpY, ljY, c3, wi]
          exact ⟨k - 1, by omega, on hI2 ⟨i + 1, some y, by omega, rfl, rfl, hb, hbn⟩⟩
  · have hlt' : ¬ (i : Int) < n := by omega
    have hk : k = 0 := by omega
    subst hk
    rw [List.range'_zero, List.foldl_nil] at hb
    rw [hb] at hx
    cases b with
    | none =>
      simp -implicitDefEqProofs [hlt, hlt', nv]
      refine onK hK ⟨(H.ret2 2 rfl).1, _, rfl, ?_⟩
      rw [Option.getD_some, hx]
      exact (H.ret2 2 rfl).2
    | some b =>
      have hbb := lat_some hb
      have mlt := mO_lt tr ir hout hbb.1 hbb.2
      have b0 : ¬ (b : Int) < 0 := by omega
      have C := (Holds.start (h := h4)).lit (sz := 1) (n := 1) (els := [[.int .i64 (b : Int)]]) (by simp) (by simp)
      have HB : Holds h (h4 ++ [some ⟨[.int .i64 (b : Int)], 1, false⟩]) ([.own (.slice op pl.length cp) 3 (pl.map encT), .own (.slice ot us.length ct) 1 (us.map encV), .own (.slice ou out.length cu) 1 ((oI out).map encI), .own (.slice (some ⟨h4.length, 0, some 1⟩) 1 1) 1 (([(b : Int)]).map encI)] ++ (inL encB 1 us T ++ [])) := Holds.joinT (A := [_]) (M := []) H C
      obtain ⟨v', h5, ha, H5, _⟩ := app_I (xs := [(b : Int)]) HB 3 rfl (HB.sees 2 rfl) (by simp; omega)
      have H6 : Holds h h5 ([.own (.slice op pl.length cp) 3 (pl.map encT), .own (.slice ot us.length ct) 1 (us.map encV), .own v' 1 ((oI (b :: out)).map encI)] ++ (inL encB 1 us T ++ [])) := H5.drop 2
      simp -implicitDefEqProofs [hlt, hlt', nv, b0, ha]
      exact ⟨g, by omega, on hI ⟨b :: out, v', rfl, hx, by omega, fun x hx => by
        rcases List.mem_cons.1 hx with rfl | hx
        · exact hbb.1
        · exact hout x hx, by simp only [List.length_cons]; omega, H6⟩⟩
end Go.Pm.PP

/- FnExactIdleChain: the program. -/
set_option linter.unusedVariables false
set_option linter.unusedSimpArgs false
set_option maxRecDepth 4000
set_option maxHeartbeats 8000000
namespace Go.Pm.PP
open Go.Pm Go.Proofs Go.Pm.LP
theorem chain2_run {h : Hp} {i : Int} : Ret P G n_impl_IdleChain_2 [.int .i64 i] h (.bool true) h := by
  refine enter_run e_impl_IdleChain_2 (by simp) ?_
  simp -implicitDefEqProofs
theorem chain3_run {h : Hp} {pb pn vb : Value} {n : Nat} {T : Tab} {us : List Value} {b i : Nat} (l1 : loadP P h t_S_S_bool pb = some vb) (l2 : loadP P h t_int pn = some (.int .i64 (b : Int))) (N : Nest h vb encB 1 T us) (sq : Sq n T) (hb : b < n) (hi : i < n) :
    Ret P G n_impl_IdleChain_3 [.int .i64 i, pb, pn] h (.bool (tg T i b)) h := by
  refine enter_run e_impl_IdleChain_3 (by simp) ?_
  obtain ⟨u, r, R, hr⟩ := tab_row N sq hi
  have bit := row_bit R (j := b) (by omega)
  simp -implicitDefEqProofs [-indexAddrP_some, l1, l2, R.ld, bit]
theorem chain1_run {h : Hp} {pj pp vj vp : Value} {g : FuncId} {c : Array Value} {js : List Job} {pl : List Task} {n : Nat} {may : Nat → Bool} (l1 : loadP P h t_S_impl_Job pj = some vj) (l2 : loadP P h t_S_impl_Task pp = some vp) (hj : Jobs h vj js) (hp : Tasks h vp pl) (hjn : js.length = n) (hpn : pl.length = n) (h8 : n ≤ 2 ^ 30)
    (hr : ∀ i, i < n → Ret P G g (.int .i64 (i : Int) :: c.toList) h (.bool (may i)) h) :
    Ret P G n_impl_IdleChain_1 [.func (.func g) #[] c, pj, pp] h (.int .i64 (nv (lat js pl may n))) h := by
  refine enter_run e_impl_IdleChain_1 (by simp) ?_
  have hjs := hj
  have hps := hp
  obtain ⟨oj, cj, rfl⟩ : ∃ oj cj, vj = .slice oj n cj := by obtain ⟨a, c, e⟩ := hj.shapeT; exact ⟨a, c, by rw [e, hjn]⟩
  simp -implicitDefEqProofs [l1]
  refine R_loopO (fun k s h' => ∃ (i : Nat) (b : Option Nat), i + k = n ∧ s = [(0, .func (.func g) #[] c), (1, pj), (2, pp), (5, .int .i64 (nv b)), (8, .int .i64 n), (9, .int .i64 i)] ∧ h' = h ∧ lat js pl may n = (List.range' i k).foldl (ltS js pl may) b ∧ (∀ x, b = some x → x < n)) (fun I2 hI2 k s h4 => ?_) (n := n)
    ⟨0, none, Nat.zero_add _, by simp [nv], rfl, rfl, by simp⟩
  rintro ⟨i, b, hi, rfl, rfl, hb, hbn⟩
  by_cases hlt : i < n
  · have hlt' : (i : Int) < n := by omega
    rw [fold_r (f := ltS js pl may) (by omega)] at hb
    have wi := winc hlt (show n ≤ 2 ^ 40 by omega)
    have ri := hr i hlt
    obtain ⟨zi, hzi, _⟩ := drop_at (show i < js.length by omega)
    have ti := tm_at hzi
    have lpI := load_K hps (tat_get (l := pl) (i := i) (by omega))
    have ljI := load_J hjs hzi
    cases hmay : may i
    · rw [hmay] at ri
      have e : ltS js pl may b i = b := by unfold ltS; rw [if_neg (fun q => by rw [hmay] at q; exact absurd q.1 (by simp))]
      rw [e] at hb
      simp -implicitDefEqProofs [-indexAddrP_some, hlt, hlt', CL_ret ri, CH_at ri, wi]
      exact ⟨k - 1, by omega, on hI2 ⟨i + 1, b, by omega, rfl, rfl, hb, hbn⟩⟩
    · rw [hmay] at ri
      cases b with
      | none =>
        have e : ltS js pl may none i = some i := by unfold ltS; rw [if_pos ⟨hmay, by simp⟩]
        rw [e] at hb
        simp -implicitDefEqProofs [-indexAddrP_some, hlt, hlt', CL_ret ri, CH_at ri, nv, wi]
        exact ⟨k - 1, by omega, on hI2 ⟨i + 1, some i, by omega, rfl, rfl, hb, fun x hx => by cases hx; exact hlt⟩⟩
      | some y =>
        have hy := hbn y rfl
        have y0 : ¬ (y : Int) < 0 := by omega
        obtain ⟨zy, hzy, _⟩ := drop_at (show y < js.length by omega)
        have ty := tm_at hzy
        have lpY := load_K hps (tat_get (l := pl) (i := y) (by omega))
        have ljY := load_J hjs hzy
        by_cases c3 : eW js pl y < eW js pl i
        · have e : ltS js pl may (some y) i = some i := by unfold ltS; rw [if_pos ⟨hmay, fun x hx => by cases hx; exact c3⟩]
          rw [e] at hb
          unfold eW w64 at c3
          rw [ty, ti] at c3
          simp -implicitDefEqProofs [-indexAddrP_some, hlt, hlt', CL_ret ri, CH_at ri, nv, y0, l1, l2, lpI, ljI, lpY, ljY, c3, wi]
          exact ⟨k - 1, by omega, on hI2 ⟨i + 1, some i, by omega, rfl, rfl, hb, fun x hx => by cases hx; exact hlt⟩⟩
        · have e : ltS js pl may (some y) i = some y := by unfold ltS; rw [if_neg fun q => c3 (q.2 y rfl)]
          rw [e] at hb
          unfold eW w64 at c3
          rw [ty, ti] at c3
          simp -implicitDefEqProofs [-indexAddrP_some, hlt, hlt', CL_ret ri, CH_at ri, nv, y0, l1, l2, lpI, ljI, lpY, ljY, c3, wi]
          exact ⟨k - 1, by omega, on hI2 ⟨i + 1, some y, by omega, rfl, rfl, hb, hbn⟩⟩
  · have hlt' : ¬ (i : Int) < n := by omega
    have hk : k = 0 := by omega
    subst hk
    rw [List.range'_zero, List.foldl_nil] at hb
    simp -implicitDefEqProofs [hlt, hlt', hb]
theorem lat_congr {js : List Job} {pl : List Task} {p q : Nat → Bool} {n : Nat} (h : ∀ i, p i = q i) : lat js pl p n = lat js pl q n := by
  have : p = q := funext h
  rw [this]
theorem IdleChain_run {h : Hp} {vj ve vo : Value} {js : List Job} {es : List (Int × Int)} {xs : List Int} {m : Int} (hj : Jobs h vj js) (he : Prs h ve es) (ho : Ints h vo xs) (l1 : js.length ≤ 2 ^ 40) (l2 : es.length ≤ 2 ^ 40) (l3 : xs.length ≤ 2 ^ 20) :
    RunsC P G n_impl_IdleChain [vj, .int .i64 m, ve, vo] h fun v h' => h <+: h' ∧ retE encI 1 (idleO js m es xs) v h.length h' := by
  refine hideC fun K hK => enter_run e_impl_IdleChain (by simp) ?_
  have hjs := hj
  obtain ⟨n, hn⟩ : ∃ n, n = js.length := ⟨_, rfl⟩
  obtain ⟨oj, cj, rfl⟩ : ∃ oj cj, vj = .slice oj n cj := by obtain ⟨a, c, e⟩ := hj.shapeT; exact ⟨a, c, by rw [e, hn]⟩
  have H0 := (Holds.start.alloc [.slice oj n cj] (h := h)).open
  have r1 := isListed_run (m := m) (hj.pre H0.pre) (he.pre H0.pre) (ho.pre H0.pre) l1 l2 (by omega)
  rw [listOk_eq] at r1
  cases c1 : listOk js m es xs
  · simp -implicitDefEqProofs [CL_ret r1, c1]
    refine onK hK ⟨pre_gcU H0.pre, .slice none 0 0, by simp [idleO, c1], by simpa [idleO, c1] using Own.nil⟩
  obtain ⟨mm, os, rfl, hm, rfl, h8, hl, hin, he8, W⟩ := listOk_wf c1
  by_cases hn0 : n = 0
  · subst hn0
    simp -implicitDefEqProofs [CL_ret r1, c1]
    exact onK hK ⟨pre_gcU H0.pre, .slice none 0 0, by simp [idleO, ← hn], by simpa [idleO, ← hn] using Own.nil⟩
  have hnI : ((n : Int) == 0) = false := nb (by omega)
  generalize hX : chainL js mm es os = X
  have hXo : idleO js mm es (oI os) = some (oI X) := by
    unfold idleO; rw [if_pos ⟨c1, by omega⟩, oI_nat, Int.toNat_natCast, hX]
  rw [hXo] at hK
  simp -implicitDefEqProofs [CL_ret r1, c1, hnI]
  refine CL_post (closure_run (n := n) (he.pre H0.pre) l2 (by omega) (by rw [hn]; exact hin)) fun vb h1 ⟨us, hus, C1⟩ => ?_
  have H1 := Holds.joinT (A := [.own vb 1 (us.map encV)]) (M := inL encB 1 us (tabOf n es)) H0 C1
  have hvb := (C1.sees 0 rfl).shapeT
  obtain ⟨ob, cb, rfl⟩ := hvb
  have H2 := H1.allocT [.slice ob us.length cb]
  simp -implicitDefEqProofs [H1.bl 0 1 rfl rfl, H2.bl 0 1 rfl rfl]
  refine CL_post (listPlan_run (hj.pre H2.pre) (he.pre H2.pre) (ho.pre H2.pre) W hin h8 hm (by omega) l2) fun vp h3 ⟨hp3, ho3⟩ => ?_
  have H3 := H2.callT hp3 ho3
  have hvp := ho3.sees.shapeT
  obtain ⟨op, cp, rfl⟩ := hvp
  have H4 := (H3.allocT [.slice op (listL js mm es os).length cp]).callT List.prefix_rfl (Own.nil (sz := 1))
  have sq := W.sq
  have tr := W.tr
  have ir := W.ir
  rw [← hn] at sq tr ir h8
  unfold chainL at hX
  rw [← hn] at hX
  have hpl : (listL js mm es os).length = n := by rw [listL_len, hn]
  have hlT : us.length = (tabOf n es).length := by rw [hus, sq.len]
  have HB : ∀ {h' : Hp} {vk : Value} {back : List Nat}, Holds h h' ([.box h.length [.slice oj n cj], .own (.slice ob us.length cb) 1 (us.map encV), .box h1.length [.slice ob us.length cb], .own (.slice op (listL js mm es os).length cp) 3 ((listL js mm es os).map encT), .box h3.length [.slice op (listL js mm es os).length cp], .own vk 1 ((oI back).map encI)] ++ (inL encB 1 us (tabOf n es) ++ [])) →
      ∀ {g : FuncId} {c : Array Value} {may : Nat → Bool}, (∀ i, i < n → Ret P G g (.int .i64 (i : Int) :: c.toList) h' (.bool (may i)) h') →
      Ret P G n_impl_IdleChain_1 [.func (.func g) #[] c, .pointer (some ⟨h.length, 0, some 1⟩), .pointer (some ⟨h3.length, 0, some 1⟩)] h' (.int .i64 (nv (lat js (listL js mm es os) may n))) h' := by
    intro h' vk back H g c may hr
    have b1 := H.bl (P := P) 0 1 rfl rfl t_S_impl_Job 0
    have b2 := H.bl (P := P) 4 1 rfl rfl t_S_impl_Task 0
    exact chain1_run (by simpa using b1) (by simpa using b2) (hjs.pre H.pre) (H.sees 3 rfl) hn.symm hpl (by omega) hr
  generalize listL js mm es os = pl at hX H4 hpl HB ⊢
  generalize tabOf n es = T at hX H4 sq tr ir hlT HB
  have rf := HB (vk := .slice none 0 0) (back := []) (by simpa using H4) (g := n_impl_IdleChain_2) (c := #[]) (may := mayO T []) (fun i _ => by simpa [mayO] using chain2_run)
  clear H0 H1 H2 H3 C1 ho3 r1
  simp -implicitDefEqProofs [CL_ret rf]
  -- backwards
  refine R_loopO (fun f s h' => ∃ (back : List Nat) (u : Value), s = [(10, .pointer (some ⟨h1.length, 0, some 1⟩)), (12, .func (.func n_impl_IdleChain_1) #[] #[.pointer (some ⟨h.length, 0, some 1⟩), .pointer (some ⟨h3.length, 0, some 1⟩)]), (13, u), (14, .int .i64 (nv (lat js pl (mayO T back.reverse) n)))] ∧
      X = cGo js pl T n f back.reverse ∧ mO T n back.reverse < f ∧ (∀ x, x ∈ back → x < n) ∧ back.length + f ≤ n + 2 ∧
    Holds h h' ([.box h.length [.slice oj n cj], .own (.slice ob us.length cb) 1 (us.map encV), .box h1.length [.slice ob us.length cb], .own (.slice op pl.length cp) 3 (pl.map encT), .box h3.length [.slice op pl.length cp], .own u 1 ((oI back).map encI)] ++ (inL encB 1 us T ++ []))) (fun I hI f s h4 => ?_) (n := n + 2)
    ⟨[], .slice none 0 0, by simp, hX.symm, by show n + 1 < n + 2; omega, by simp, by simp, by simpa using H4⟩
  rintro ⟨back, u, rfl, hx, hmf, hbk, hbl, H⟩
  obtain ⟨g, rfl⟩ : ∃ g, f = g + 1 := ⟨f - 1, by omega⟩
  obtain ⟨ou, cu, rfl⟩ := oI_shape (H.sees 5 rfl)
  rw [cGo] at hx
  cases hla : lat js pl (mayO T back.reverse) n with
  | some b =>
    rw [hla] at hx
    have hbb := lat_some hla
    have mlt := mO_lt tr ir (fun x hx => hbk x (by simpa using hx)) hbb.1 hbb.2
    have b0 : (0 : Int) ≤ (b : Int) := by omega
    obtain ⟨v', h5, ha, H5, _⟩ := push_I0 H 5 rfl (b : Int) (by simp; omega)
    have H6 : Holds h h5 ([.box h.length [.slice oj n cj], .own (.slice ob us.length cb) 1 (us.map encV), .box h1.length [.slice ob us.length cb], .own (.slice op pl.length cp) 3 (pl.map encT), .box h3.length [.slice op pl.length cp], .own v' 1 ((oI (back ++ [b])).map encI)] ++ (inL encB 1 us T ++ [])) := by
      rw [show oI (back ++ [b]) = oI back ++ [(b : Int)] by simp]
      exact H5
    have H7 := H6.ext (List.prefix_append h5 [some (⟨[.int .i64 (b : Int)], 0, false⟩ : Row)])
    have H8 := H6.allocT [.int .i64 (b : Int)]
    have N : Nest (h5 ++ [some ⟨[.int .i64 (b : Int)], 0, false⟩]) (.slice ob us.length cb) encB 1 T us := Holds.nest (L1 := [_, _, _, _, _, _]) (L2 := []) (o := 1) H7 rfl hlT
    have q1 := H7.bl (P := P) 2 1 rfl rfl t_S_S_bool 0
    have q2 := H8.bl (P := P) 6 1 rfl rfl t_int 0
    have r3 := HB H7 (g := n_impl_IdleChain_3) (c := #[.pointer (some ⟨h1.length, 0, some 1⟩), .pointer (some ⟨h5.length, 0, some 1⟩)]) (may := fun i => tg T i b) (fun i hi => chain3_run (by simpa using q1) (by simp) N sq hbb.1 hi)
    rw [lat_congr (q := mayO T (back ++ [b]).reverse) (fun i => by simp [mayO])] at r3
    simp -implicitDefEqProofs [nv, b0, ha, CL_ret r3]
    refine ⟨g, by omega, on hI ⟨back ++ [b], v', by simp [nv], by simpa using hx, by simpa using (show mO T n (b :: back.reverse) < g by omega), fun x hx => ?_, by simp only [List.length_append, List.length_cons, List.length_nil]; omega, H7⟩⟩
    rcases List.mem_append.1 hx with hx | hx
    · exact hbk x hx
    · rw [List.mem_singleton.1 hx]; exact hbb.1
  | none =>
    rw [hla] at hx
    have w0 : IntKind.i64.wrap ((back.length : Int) - 1) = (back.length : Int) - 1 := by rw [wrap_ok] <;> omega
    simp -implicitDefEqProofs [nv, w0]
    -- forwards
    refine R_loopO (fun k s h' => ∃ (u : Value), k ≤ back.length ∧ s = [(13, .slice ou back.length cu), (16, u), (17, .int .i64 ((k : Int) - 1))] ∧
      Holds h h' [.own (.slice ou back.length cu) 1 ((oI back).map encI), .own u 1 ((oI (back.drop k).reverse).map encI)]) (fun I2 hI2 k s h5 => ?_) (n := back.length)
      ⟨.slice none 0 0, Nat.le_refl _, by simp, by
        have := own_nil ((H.take 6).sub (M := [.own (.slice ou back.length cu) 1 ((oI back).map encI)]) (fun _ => 5) (fun i A hA => by
          match i, hA with
          | 0, hA => cases hA; rfl
          | i + 1, hA => cases hA) (fun i j A B hA hB _ => by
          match i, j, hA, hB with
          | 0, 0, _, _ => rfl
          | i + 1, _, hA, _ => cases hA
          | _, j + 1, _, hB => cases hB)) Int encI 1
        simpa using this⟩
    rintro ⟨u, hk, rfl, H5⟩
    rcases Nat.eq_zero_or_pos k with h0 | h0
    · subst h0
      simp -implicitDefEqProofs
      refine onK hK ⟨(H5.ret2 1 rfl).1, _, rfl, ?_⟩
      rw [Option.getD_some, hx]
      simpa using (H5.ret2 1 rfl).2
    · obtain ⟨q, rfl⟩ : ∃ q, k = q + 1 := ⟨k - 1, by omega⟩
      rw [show ((q + 1 : Nat) : Int) - 1 = (q : Int) by omega]
      have q0 : (0 : Int) ≤ (q : Int) := by omega
      obtain ⟨y, hy, hd⟩ := drop_at (show q < back.length by omega)
      have ly := load_I (H5.sees 0 rfl) (oI_get hy)
      obtain ⟨v', h6, ha, H6, _⟩ := push_I0 H5 1 rfl (y : Int) (by simp; omega)
      have w1 : IntKind.i64.wrap ((q : Int) - 1) = (q : Int) - 1 := by rw [wrap_ok] <;> omega
      simp -implicitDefEqProofs [-indexAddrP_some, q0, ly, ha, w1]
      refine ⟨q, by omega, on hI2 ⟨v', by omega, rfl, ?_⟩⟩
      rw [show oI (back.drop q).reverse = oI (back.drop (q + 1)).reverse ++ [(y : Int)] by rw [hd, List.reverse_cons]; simp]
      exact H6
end Go.Pm.PP

/- FnExactIdleChain in the small machine. -/
set_option linter.unusedVariables false
set_option linter.unusedSimpArgs false
set_option maxRecDepth 4000
set_option maxHeartbeats 4000000
namespace Go.Pm.PP
open Go.Pm Go.Proofs Go.Pm.LP
theorem law_IdleChain {h : Hp} {vj ve vo : Value} {js : List Job} {es : List (Int × Int)} {xs : List Int} {m : Int} (hj : Jobs h vj js) (he : Prs h ve es) (ho : Ints h vo xs) (l1 : js.length < 2 ^ 63) (l2 : es.length < 2 ^ 63) :
    Ret P G n_laws_FnExactIdleChain [vj, .int .i64 m, ve, vo] h (.bool true) h := by
  refine enter_run e_laws_FnExactIdleChain (by simp) ?_
  have hjs := hj
  have hes := he
  have hos := ho
  obtain ⟨oj, cj, rfl⟩ := hj.shapeT
  obtain ⟨oe, ce, rfl⟩ := he.shapeT
  obtain ⟨oo, co, rfl⟩ := ho.shapeT
  by_cases c0 : 1048576 < xs.length
  · have c0' : (1048576 : Int) < xs.length := by omega
    simp -implicitDefEqProofs [c0, c0']
  have c0' : ¬ (1048576 : Int) < xs.length := by omega
  have z1 := szJobS_run (left := 1048576) hjs l1 (by omega) (by omega)
  by_cases c1 : szL 1048576 js.length < 0
  · simp -implicitDefEqProofs [c0, c0', CL_ret z1, c1]
  have e1 := szL_ok c1
  have z2 := szIntA2S_run (left := szL 1048576 js.length) hes l2 (by omega) (by omega)
  by_cases c2 : szL (szL 1048576 js.length) es.length < 0
  · simp -implicitDefEqProofs [c0, c0', CL_ret z1, c1, CL_ret z2, c2]
  have e2 := szL_ok c2
  have b1 : js.length ≤ 2 ^ 40 := by omega
  have b2 : es.length ≤ 2 ^ 40 := by omega
  have b3 : xs.length ≤ 2 ^ 20 := by omega
  have b3' : xs.length ≤ 2 ^ 40 := by omega
  obtain ⟨X, hX⟩ : ∃ X, X = idleO js m es xs := ⟨_, rfl⟩
  obtain ⟨rs, hrs⟩ : ∃ rs, rs = X.getD [] := ⟨_, rfl⟩
  have rl : rs.length ≤ 2 ^ 40 := by rw [hrs, hX]; exact Nat.le_trans idleO_len (by omega)
  -- the reference
  simp -implicitDefEqProofs [c0, c0', CL_ret z1, c1, CL_ret z2, c2]
  refine CL_post (toJobS_run hjs b1) fun v1 h1 C1 => ?_
  simp -implicitDefEqProofs
  refine CL_post (toIntA2S_run (hes.pre C1.pre) b2) fun v2 h2 C2 => ?_
  simp -implicitDefEqProofs
  refine CL_post (toIntS_run (hos.pre (C1.pre.trans C2.pre)) b3') fun v3 h3 C3 => ?_
  simp -implicitDefEqProofs
  refine CL_post (specIdleChain_run (m := m) ((C1.sees 0 rfl).pre (C2.pre.trans C3.pre)) ((C2.sees 0 rfl).pre C3.pre) (C3.sees 0 rfl) b1 b2 b3) fun v h4 ⟨p4, w, ev, ow⟩ => ?_
  subst ev
  rw [← hX, ← hrs] at ow
  rw [← hX]
  obtain ⟨w1, w2, w3, rfl⟩ : ∃ a n c, w = .slice a n c := by obtain ⟨a, c, e⟩ := ow.sees.shape; exact ⟨_, _, _, e⟩
  have H1 := ((Holds.start (h := h)).ext (C1.pre.trans (C2.pre.trans C3.pre))).call p4 ow
  -- the copies
  simp -implicitDefEqProofs
  refine CL_post (toJobS_run (hjs.pre H1.pre) b1) fun v5 h5 C5 => ?_
  obtain ⟨x1, x2, x3, rfl⟩ : ∃ a n c, v5 = .slice a n c := by obtain ⟨a, c, e⟩ := (C5.sees 0 rfl).shape; exact ⟨_, _, _, e⟩
  have H2 := H1.join C5
  simp -implicitDefEqProofs
  refine CL_post (toIntA2S_run (hes.pre H2.pre) b2) fun v6 h6 C6 => ?_
  obtain ⟨y1, y2, y3, rfl⟩ : ∃ a n c, v6 = .slice a n c := by obtain ⟨a, c, e⟩ := (C6.sees 0 rfl).shape; exact ⟨_, _, _, e⟩
  have H3 := H2.join C6
  simp -implicitDefEqProofs
  refine CL_post (toIntS_run (hos.pre H3.pre) b3') fun v7 h7 C7 => ?_
  obtain ⟨u1, u2, u3, rfl⟩ : ∃ a n c, v7 = .slice a n c := by obtain ⟨a, c, e⟩ := (C7.sees 0 rfl).shape; exact ⟨_, _, _, e⟩
  have H4 := H3.join C7
  -- the program
  simp -implicitDefEqProofs
  refine CL_post (IdleChain_run (m := m) (H4.sees 1 rfl) (H4.sees 2 rfl) (H4.sees 3 rfl) b1 b2 b3) fun v h8 ⟨p8, g, ev, og⟩ => ?_
  subst ev
  rw [← hX, ← hrs] at og
  rw [← hX]
  obtain ⟨g1, g2, g3, rfl⟩ : ∃ a n c, g = .slice a n c := by obtain ⟨a, c, e⟩ := og.sees.shape; exact ⟨_, _, _, e⟩
  have H5 := H4.call p8 og
  have q1 := eqIntS_run (H5.sees 4 rfl) (H5.sees 0 rfl) rl
  simp -implicitDefEqProofs [CL_ret q1]
  -- the copies are as they were
  refine CL_post (toJobS_run (hjs.pre H5.pre) b1) fun v9 h9 C9 => ?_
  have H6 := H5.ext C9.pre
  have q2 := eqJobS_run (H6.sees 1 rfl) (C9.sees 0 rfl) b1
  simp -implicitDefEqProofs [CL_ret q2]
  refine CL_post (toIntA2S_run (hes.pre H6.pre) b2) fun v10 h10 C10 => ?_
  have H7 := H6.ext C10.pre
  have q3 := eqIntA2S_run (H7.sees 2 rfl) (C10.sees 0 rfl) b2
  simp -implicitDefEqProofs [CL_ret q3]
  refine CL_post (toIntS_run (hos.pre H7.pre) b3') fun v11 h11 C11 => ?_
  have H8 := H7.ext C11.pre
  have q4 := eqIntS_run (H8.sees 3 rfl) (C11.sees 0 rfl) b3'
  simp -implicitDefEqProofs [CL_ret q4]
  -- marks in the copies
  refine CL_post (markJobS_run (k := 1) H8 1 rfl b1 (by omega) (by omega)) fun r h12 ⟨er, H9⟩ => ?_
  subst er
  simp -implicitDefEqProofs
  refine CL_post (markIntA2S_run (k := 1 + 4 * (js.length : Int)) H9 2 rfl b2 (by omega) (by omega)) fun r h13 ⟨er, H10⟩ => ?_
  subst er
  simp -implicitDefEqProofs
  refine CL_post (markIntS_run (k := 1 + 4 * (js.length : Int) + 2 * (es.length : Int)) H10 3 rfl b3' (by omega) (by omega)) fun r h14 ⟨er, H11⟩ => ?_
  subst er
  have q5 := eqIntS_run (H11.sees 4 rfl) (H11.sees 0 rfl) rl
  have hk0 : ¬ (1 + 4 * (js.length : Int) + 2 * (es.length : Int) + (xs.length : Int) < 0) := by omega
  simp -implicitDefEqProofs [hk0, CL_ret q5]
  -- marks in the result
  refine CL_post (markIntS_run (k := 1) H11 4 rfl rl (by omega) (by omega)) fun r h15 ⟨er, H12⟩ => ?_
  subst er
  have q6 := heldIntS_run (k := 1) (H12.sees 4 rfl) rl (by omega) (by omega)
  have hk1 : ¬ (1 + (rs.length : Int) < 0) := by omega
  simp -implicitDefEqProofs [CL_ret q6, hk1]
  -- once more
  refine CL_post (toJobS_run (hjs.pre H12.pre) b1) fun v16 h16 C16 => ?_
  simp -implicitDefEqProofs
  refine CL_post (toIntA2S_run (hes.pre (H12.pre.trans C16.pre)) b2) fun v17 h17 C17 => ?_
  simp -implicitDefEqProofs
  refine CL_post (toIntS_run (hos.pre (H12.pre.trans (C16.pre.trans C17.pre))) b3') fun v18 h18 C18 => ?_
  simp -implicitDefEqProofs
  refine CL_post (IdleChain_run (m := m) ((C16.sees 0 rfl).pre (C17.pre.trans C18.pre)) ((C17.sees 0 rfl).pre C18.pre) (C18.sees 0 rfl) b1 b2 b3) fun v h19 ⟨p19, t, ev, ot⟩ => ?_
  subst ev
  rw [← hX, ← hrs] at ot
  rw [← hX]
  have H13 := H12.ext (C16.pre.trans (C17.pre.trans (C18.pre.trans p19)))
  have q7 := eqIntS_run ot.sees (H13.sees 0 rfl) rl
  have q8 := heldIntS_run (k := 1) (H13.sees 4 rfl) rl (by omega) (by omega)
  simp -implicitDefEqProofs [CL_ret q7, CL_ret q8, hk1]
  exact gcP H13.pre rfl
end Go.Pm.PP

/- Orders of a list, one after the other, in plain terms: the next order of the program is the next one of the reference's list. -/
set_option linter.unusedVariables false
set_option linter.unusedSimpArgs false
namespace Go.Pm.PE
/-- All orders, by the first element. -/
def perms : List Int → Nat → List (List Int)
  | _, 0 => [[]]
  | l, n + 1 => (List.range' 0 l.length).flatMap fun i => (perms (l.eraseIdx i) n).map ((l[i]?.getD 0) :: ·)
/-- The last element greater than x gives way to x: the element and what there is then. -/
def swapL (x : Int) : List Int → Option (Int × List Int)
  | [] => none
  | y :: r => match swapL x r with
    | some (z, r') => some (z, y :: r')
    | none => if x < y then some (y, x :: r) else none
def nextP : List Int → Option (List Int)
  | [] => none
  | x :: t => match nextP t with
    | some t' => some (x :: t')
    | none => match swapL x t with
      | some (y, t') => some (y :: t'.reverse)
      | none => none
def Asc (l : List Int) : Prop := l.Pairwise (· < ·)
theorem swapL_none {x : Int} : ∀ {l : List Int}, swapL x l = none ↔ ∀ y, y ∈ l → ¬ x < y
  | [] => by simp [swapL]
  | z :: r => by
    rw [swapL]
    cases h : swapL x r with
    | some p =>
      simp only [reduceCtorEq, false_iff]
      intro g
      have : swapL x r = none := swapL_none.2 fun y hy => g y (List.mem_cons_of_mem _ hy)
      rw [h] at this; cases this
    | none =>
      have hr := swapL_none.1 h
      show (if x < z then some (z, x :: r) else none) = none ↔ _
      split
      · rename_i hz
        simp only [reduceCtorEq, false_iff]
        intro g; exact g z (List.mem_cons_self ..) hz
      · rename_i hz
        simp only [true_iff]
        intro y hy
        rcases List.mem_cons.1 hy with rfl | hy
        · exact hz
        · exact hr y hy
theorem swapL_some {x y : Int} {b : List Int} (hb : ∀ z, z ∈ b → ¬ x < z) (hy : x < y) : ∀ {a : List Int}, swapL x (a ++ y :: b) = some (y, a ++ x :: b)
  | [] => by
    rw [List.nil_append, swapL, swapL_none.2 hb, List.nil_append]
    simp [hy]
  | z :: a => by
    rw [List.cons_append, swapL, swapL_some hb hy]
    rfl
theorem desc_next : ∀ {l : List Int}, l.Pairwise (· > ·) → nextP l = none
  | [], _ => rfl
  | x :: t, h => by
    have h := List.pairwise_cons.1 h
    rw [nextP, desc_next h.2, swapL_none.2 fun y hy => by have := h.1 y hy; omega]
theorem asc_rev {l : List Int} (h : Asc l) : l.reverse.Pairwise (· > ·) := by
  rw [List.pairwise_reverse]
  exact h
/-- Each one's next one is the one behind it. -/
def Chn (L : List (List Int)) : Prop := ∀ i p, L[i]? = some p → nextP p = L[i + 1]?
theorem erase_asc {l : List Int} (h : Asc l) (i : Nat) : Asc (l.eraseIdx i) := h.sublist (List.eraseIdx_sublist ..)
/-- From the end of a block to the next one. -/
theorem next_block {l : List Int} (h : Asc l) {i : Nat} {x y : Int} (hx : l[i]? = some x) (hy : l[i + 1]? = some y) : nextP (x :: (l.eraseIdx i).reverse) = some (y :: l.eraseIdx (i + 1)) := by
  obtain ⟨a, b, rfl, rfl⟩ : ∃ a b, l = a ++ x :: y :: b ∧ i = a.length := by
    have h1 := (List.getElem?_eq_some_iff.1 hx).1
    have h2 := (List.getElem?_eq_some_iff.1 hy).1
    refine ⟨l.take i, l.drop (i + 2), ?_, by simp; omega⟩
    have e1 : l.drop i = x :: l.drop (i + 1) := by
      rw [List.drop_eq_getElem_cons h1]; congr 1; exact (List.getElem?_eq_some_iff.1 hx).2
    have e2 : l.drop (i + 1) = y :: l.drop (i + 2) := by
      rw [List.drop_eq_getElem_cons h2]; congr 1; exact (List.getElem?_eq_some_iff.1 hy).2
    rw [← e2, ← e1, List.take_append_drop]
  have e1 : (a ++ x :: y :: b).eraseIdx a.length = a ++ y :: b := by
    rw [List.eraseIdx_append_of_length_le (Nat.le_refl _), Nat.sub_self]; rfl
  have e2 : (a ++ x :: y :: b).eraseIdx (a.length + 1) = a ++ x :: b := by
    rw [List.eraseIdx_append_of_length_le (by omega), Nat.add_sub_cancel_left]; rfl
  rw [e1, e2]
  have hp := List.pairwise_append.1 h
  have hxy := List.pairwise_cons.1 hp.2.1
  have hax : ∀ z, z ∈ a.reverse → ¬ x < z := fun z hz => by
    have := hp.2.2 z (List.mem_reverse.1 hz) x (List.mem_cons_self ..)
    omega
  have hxly : x < y := hxy.1 y (List.mem_cons_self ..)
  have hsub : (a ++ y :: b).Sublist (a ++ x :: y :: b) := List.Sublist.append_left (List.sublist_cons_self ..) a
  have hd : nextP (a ++ y :: b).reverse = none := desc_next (asc_rev (h.sublist hsub))
  rw [nextP, hd]
  have er : (a ++ y :: b).reverse = b.reverse ++ y :: a.reverse := by simp
  rw [er, swapL_some hax hxly]
  simp
theorem flat_get {α β : Type} {f : α → List β} : ∀ {l : List α} {i j : Nat} {x : α} {y : β}, l[i]? = some x → (f x)[j]? = some y → ∃ k, (l.flatMap f)[k]? = some y ∧ ((l.flatMap f)[k + 1]? = match (f x)[j + 1]? with | some z => some z | none => ((l.drop (i + 1)).flatMap f)[0]?)
  | a :: l, 0, j, x, y, h1, h2 => by
    simp at h1; subst h1
    refine ⟨j, ?_, ?_⟩
    · rw [List.flatMap_cons, List.getElem?_append_left (List.getElem?_eq_some_iff.1 h2).1]; exact h2
    · rw [List.flatMap_cons]
      have hj := (List.getElem?_eq_some_iff.1 h2).1
      cases h3 : (f a)[j + 1]? with
      | some z => rw [List.getElem?_append_left (List.getElem?_eq_some_iff.1 h3).1]; exact h3
      | none =>
        have h4 := List.getElem?_eq_none_iff.1 h3
        rw [List.getElem?_append_right h4, show j + 1 - (f a).length = 0 by omega]
        rfl
  | a :: l, i + 1, j, x, y, h1, h2 => by
    obtain ⟨k, h3, h4⟩ := @flat_get α β f l i j x y (by simpa using h1) h2
    refine ⟨(f a).length + k, ?_, ?_⟩
    · rw [List.flatMap_cons, List.getElem?_append_right (by omega), Nat.add_sub_cancel_left]; exact h3
    · rw [List.flatMap_cons, List.getElem?_append_right (by omega), show (f a).length + k + 1 - (f a).length = k + 1 by omega, h4, List.drop_succ_cons]
/-- Where an element of a list of lists, told one after the other, comes from. -/
theorem flat_at {α β : Type} {f : α → List β} : ∀ {l : List α} {k : Nat} {y : β}, (l.flatMap f)[k]? = some y → ∃ i j x, l[i]? = some x ∧ (f x)[j]? = some y ∧ (l.flatMap f)[k + 1]? = match (f x)[j + 1]? with | some z => some z | none => ((l.drop (i + 1)).flatMap f)[0]?
  | [], k, y, h => by simp at h
  | a :: l, k, y, h => by
    rw [List.flatMap_cons] at h
    rcases Nat.lt_or_ge k (f a).length with g | g
    · rw [List.getElem?_append_left g] at h
      refine ⟨0, k, a, rfl, h, ?_⟩
      rw [List.flatMap_cons]
      cases h3 : (f a)[k + 1]? with
      | some z => rw [List.getElem?_append_left (List.getElem?_eq_some_iff.1 h3).1]; exact h3
      | none =>
        have h4 := List.getElem?_eq_none_iff.1 h3
        rw [List.getElem?_append_right h4, show k + 1 - (f a).length = 0 by omega]
        rfl
    · rw [List.getElem?_append_right g] at h
      obtain ⟨i, j, x, h1, h2, h3⟩ := flat_at h
      refine ⟨i + 1, j, x, by simpa using h1, h2, ?_⟩
      rw [List.flatMap_cons, List.getElem?_append_right (by omega), show k + 1 - (f a).length = k - (f a).length + 1 by omega, h3, List.drop_succ_cons]
theorem perms_main : ∀ {n : Nat} {l : List Int}, l.length = n → Asc l → (perms l n)[0]? = some l ∧ Chn (perms l n) ∧ ∀ i p, (perms l n)[i]? = some p → (perms l n)[i + 1]? = none → p = l.reverse
  | 0, l, hn, _ => by
    have : l = [] := List.eq_nil_of_length_eq_zero hn
    subst this
    refine ⟨rfl, fun i p h => ?_, fun i p h _ => ?_⟩
    · match i with
      | 0 => simp [perms] at h; subst h; rfl
      | i + 1 => simp [perms] at h
    · match i with
      | 0 => simp [perms] at h; subst h; rfl
      | i + 1 => simp [perms] at h
  | n + 1, l, hn, ha => by
    have sub : ∀ i, i < l.length → (perms (l.eraseIdx i) n)[0]? = some (l.eraseIdx i) ∧ Chn (perms (l.eraseIdx i) n) ∧ ∀ j p, (perms (l.eraseIdx i) n)[j]? = some p → (perms (l.eraseIdx i) n)[j + 1]? = none → p = (l.eraseIdx i).reverse := fun i hi =>
      perms_main (by rw [List.length_eraseIdx_of_lt hi]; omega) (erase_asc ha i)
    have first : ∀ i, i < l.length → ((List.range' i (l.length - i)).flatMap fun i => (perms (l.eraseIdx i) n).map ((l[i]?.getD 0) :: ·))[0]? = some (l[i]?.getD 0 :: l.eraseIdx i) := fun i hi => by
      rw [show l.length - i = (l.length - (i + 1)) + 1 by omega, List.range'_succ, List.flatMap_cons]
      have h1 := (sub i hi).1
      have h2 : 0 < ((perms (l.eraseIdx i) n).map ((l[i]?.getD 0) :: ·)).length := by rw [List.length_map]; exact (List.getElem?_eq_some_iff.1 h1).1
      rw [List.getElem?_append_left h2, List.getElem?_map, h1]; rfl
    rw [perms]
    refine ⟨?_, fun k p hk => ?_, fun k p hk hk2 => ?_⟩
    · rw [show l.length = l.length - 0 by omega, first 0 (by omega)]
      match l, hn with
      | a :: l, _ => rfl
    · obtain ⟨i, j, x, h1, h2, h3⟩ := flat_at hk
      have hi : i < l.length := by have := (List.getElem?_eq_some_iff.1 h1).1; simpa using this
      have hx : x = i := by rw [List.getElem?_range' hi] at h1; simp at h1; omega
      subst hx
      rw [List.getElem?_map] at h2
      obtain ⟨q, hq, rfl⟩ := Option.map_eq_some_iff.1 h2
      obtain ⟨g1, g2, g3⟩ := sub x hi
      have hnx := g2 j q hq
      rw [h3, List.getElem?_map]
      rw [nextP, hnx]
      cases hq2 : (perms (l.eraseIdx x) n)[j + 1]? with
      | some q' => rfl
      | none =>
        have hrev := g3 j q hq hq2
        subst hrev
        simp only [Option.map_none]
        rw [List.drop_range' , show 0 + (x + 1) * 1 = x + 1 by omega]
        obtain ⟨a, hxa, _⟩ := drop_at hi
        by_cases hlt : x + 1 < l.length
        · obtain ⟨y, hy, _⟩ := drop_at hlt
          rw [first (x + 1) hlt, hy, hxa]
          have := next_block ha hxa hy
          rw [nextP, hnx, hq2] at this
          simpa using this
        · rw [show l.length - (x + 1) = 0 by omega]
          have hd : nextP (a :: (l.eraseIdx x).reverse) = none := by
            refine desc_next (List.pairwise_cons.2 ⟨fun z hz => ?_, asc_rev (erase_asc ha x)⟩)
            have hz := List.mem_reverse.1 hz
            have e : l.eraseIdx x = l.take x := by
              rw [List.eraseIdx_eq_take_drop_succ, List.drop_eq_nil_of_le (by omega), List.append_nil]
            rw [e] at hz
            obtain ⟨m, hm, rfl⟩ := List.mem_take_iff_getElem.1 hz
            have := List.pairwise_iff_getElem.1 ha m x (by omega) hi (by omega)
            rw [(List.getElem?_eq_some_iff.1 hxa).2] at this
            exact this
          rw [nextP, hnx, hq2] at hd
          rw [hxa]
          simpa using hd
    · obtain ⟨i, j, x, h1, h2, h3⟩ := flat_at hk
      have hi : i < l.length := by have := (List.getElem?_eq_some_iff.1 h1).1; simpa using this
      have hx : x = i := by rw [List.getElem?_range' hi] at h1; simp at h1; omega
      subst hx
      rw [List.getElem?_map] at h2
      obtain ⟨q, hq, rfl⟩ := Option.map_eq_some_iff.1 h2
      obtain ⟨g1, g2, g3⟩ := sub x hi
      rw [h3, List.getElem?_map] at hk2
      cases hq2 : (perms (l.eraseIdx x) n)[j + 1]? with
      | some q' => rw [hq2] at hk2; simp at hk2
      | none =>
        rw [hq2] at hk2
        simp only [Option.map_none] at hk2
        rw [List.drop_range', show 0 + (x + 1) * 1 = x + 1 by omega] at hk2
        have hlt : ¬ x + 1 < l.length := fun hlt => by rw [first (x + 1) hlt] at hk2; cases hk2
        have hrev := g3 j q hq hq2
        subst hrev
        obtain ⟨a, hxa, hd⟩ := drop_at hi
        have e : l.eraseIdx x = l.take x := by
          rw [List.eraseIdx_eq_take_drop_succ, List.drop_eq_nil_of_le (by omega), List.append_nil]
        rw [e, hxa, Option.getD_some]
        have : l = l.take x ++ [a] := by
          conv => lhs; rw [← List.take_append_drop x l, hd, List.drop_eq_nil_of_le (by omega)]
        conv => rhs; rw [this]
        simp
end Go.Pm.PE

/- The next order of a list, in place. -/
set_option linter.unusedVariables false
set_option linter.unusedSimpArgs false
set_option maxRecDepth 4000
set_option maxHeartbeats 4000000
namespace Go.Pm.PE
theorem next_pre {pre r r' : List Int} (h : nextP r = some r') : nextP (pre ++ r) = some (pre ++ r') := by
  induction pre with
  | nil => exact h
  | cons z pre ih => rw [List.cons_append, nextP, ih]; rfl
/-- A list whose p outermost elements on both sides are turned round. -/
def revP (p : Nat) (t : List Int) : List Int := (List.range t.length).map fun j => if j < p ∨ t.length - p ≤ j then t[t.length - 1 - j]?.getD 0 else t[j]?.getD 0
theorem revP_len {p : Nat} {t : List Int} : (revP p t).length = t.length := by simp [revP]
theorem revP_get {p : Nat} {t : List Int} {j : Nat} (hj : j < t.length) : (revP p t)[j]? = some (if j < p ∨ t.length - p ≤ j then t[t.length - 1 - j]?.getD 0 else t[j]?.getD 0) := by simp [revP, hj]
theorem revP_zero {t : List Int} : revP 0 t = t := by
  apply List.ext_getElem?
  intro j
  rcases Nat.lt_or_ge j t.length with h | h
  · rw [revP_get h, if_neg (by omega), List.getElem?_eq_getElem h]; rfl
  · rw [List.getElem?_eq_none (by rw [revP_len]; omega), List.getElem?_eq_none h]
theorem revP_end {p : Nat} {t : List Int} (h : t.length ≤ 2 * p + 1) : revP p t = t.reverse := by
  apply List.ext_getElem?
  intro j
  rcases Nat.lt_or_ge j t.length with hj | hj
  · rw [revP_get hj, List.getElem?_reverse hj]
    by_cases c : j < p ∨ t.length - p ≤ j
    · rw [if_pos c, List.getElem?_eq_getElem (by omega)]; rfl
    · rw [if_neg c, List.getElem?_eq_getElem hj, show t.length - 1 - j = j by omega, List.getElem?_eq_getElem hj]; rfl
  · rw [List.getElem?_eq_none (by rw [revP_len]; omega), List.getElem?_eq_none (by simpa using hj)]
theorem revP_step {p : Nat} {t : List Int} {x y : Int} (h : 2 * p + 1 < t.length) (hx : t[p]? = some x) (hy : t[t.length - 1 - p]? = some y) : ((revP p t).set p y).set (t.length - 1 - p) x = revP (p + 1) t := by
  apply List.ext_getElem?
  intro j
  rcases Nat.lt_or_ge j t.length with hj | hj
  · rw [revP_get hj, List.getElem?_set]
    by_cases c1 : t.length - 1 - p = j
    · rw [if_pos c1, if_pos (by rw [List.length_set, revP_len]; omega), if_pos (by omega), ← c1, show t.length - 1 - (t.length - 1 - p) = p by omega, hx]; rfl
    · rw [if_neg c1, List.getElem?_set]
      by_cases c2 : p = j
      · rw [if_pos c2, if_pos (by rw [revP_len]; omega), if_pos (by omega), ← c2, hy]; rfl
      · rw [if_neg c2, revP_get hj]
        by_cases c3 : j < p ∨ t.length - p ≤ j
        · rw [if_pos c3, if_pos (by omega)]
        · rw [if_neg c3, if_neg (by omega)]
  · rw [List.getElem?_eq_none (by simp [revP_len]; omega), List.getElem?_eq_none (by rw [revP_len]; omega)]
/-- What the program finds: from the end, the first that is less than the one behind it; the last one greater than this. -/
theorem next_at {xs pre b a : List Int} {x y : Int} (h : xs = pre ++ x :: (a ++ y :: b)) (hd : (a ++ y :: b).Pairwise (· > ·)) (hb : ∀ z, z ∈ b → ¬ x < z) (hy : x < y) : nextP xs = some (pre ++ y :: (a ++ x :: b).reverse) := by
  rw [h]
  refine next_pre ?_
  rw [nextP, desc_next hd, swapL_some hb hy]
end Go.Pm.PE
namespace Go.Pm.PP
open Go.Pm Go.Proofs Go.Pm.PE
theorem keeps_gc {v u : Value} {h h' : Hp} (k : Keeps (rowV v) h h') : Keeps (rowV v) h (gc h h' u) := by
  rcases gc_cases' h h' u with g | ⟨_, g⟩ <;> rw [g]
  · exact k
  · exact .ofPre List.prefix_rfl
theorem nextOrder_run {h0 h : Hp} {v : Value} {xs : List Int} (H0 : Holds h0 h [.own v 1 (xs.map encI)]) (hn : xs.length ≤ 2 ^ 20) (nd : xs.Nodup) :
    RunsC P G n_impl_nextOrder [v] h fun r h' => r = .bool (nextP xs).isSome ∧ Own h0.length h' v 1 (((nextP xs).getD xs).map encI) ∧ Keeps (rowV v) h h' := by
  refine hideC fun K hK => enter_run e_impl_nextOrder (by simp) ?_
  have Hs := H0.sees 0 rfl
  obtain ⟨oa, c, ev⟩ := Hs.shapeT
  subst ev
  have w2 : IntKind.i64.wrap ((xs.length : Int) - 2) = (xs.length : Int) - 2 := by rw [wrap_ok] <;> omega
  have lt_of : ∀ {i j : Nat} {a b : Int}, xs[i]? = some a → xs[j]? = some b → i ≠ j → a ≠ b := fun {i j a b} h1 h2 hne e => by
    subst e
    obtain ⟨g1, e1⟩ := List.getElem?_eq_some_iff.1 h1
    obtain ⟨g2, e2⟩ := List.getElem?_eq_some_iff.1 h2
    exact hne ((List.getElem_inj nd).1 (e1.trans e2.symm))
  simp -implicitDefEqProofs [w2]
  -- from the end
  refine R_loopO (fun m s h' => ((m : Int) ≤ xs.length - 1 ∨ m = 0) ∧ s = [(0, .slice oa xs.length c), (3, .int .i64 (if xs.length = 0 then -2 else (m : Int) - 1))] ∧ h' = h ∧ (xs.drop m).Pairwise (· > ·)) (fun I hI m s h' => ?_) (n := xs.length - 1)
    ⟨by omega, by
      rw [show (if xs.length = 0 then (-2 : Int) else ((xs.length - 1 : Nat) : Int) - 1) = (xs.length : Int) - 2 by split <;> omega]
      simp [w2], rfl, by
      rcases Nat.eq_zero_or_pos xs.length with g | g
      · rw [List.eq_nil_of_length_eq_zero g]; simp
      · obtain ⟨z, hz, hd⟩ := drop_at (show xs.length - 1 < xs.length by omega)
        rw [hd, List.drop_eq_nil_of_le (by omega)]; simp⟩
  rintro ⟨hm, rfl, rfl, hd⟩
  rcases Nat.eq_zero_or_pos m with m0 | m0
  · -- none
    subst m0
    have hnone : nextP xs = none := desc_next (by simpa using hd)
    rw [hnone] at hK
    have i0 : (if xs.length = 0 then (-2 : Int) else ((0 : Nat) : Int) - 1) < 0 := by split <;> omega
    generalize (if xs.length = 0 then (-2 : Int) else ((0 : Nat) : Int) - 1) = iv at i0 ⊢
    have i1 : ¬ 0 ≤ iv := by omega
    simp -implicitDefEqProofs [i0, i1]
    exact onK hK ⟨rfl, H0.own 0 rfl, .ofPre List.prefix_rfl⟩
  · obtain ⟨q, rfl⟩ : ∃ q, m = q + 1 := ⟨m - 1, by omega⟩
    have hql : q + 1 < xs.length := by omega
    rw [if_neg (by omega), show ((q + 1 : Nat) : Int) - 1 = (q : Int) by omega]
    obtain ⟨x, hx, hdx⟩ := drop_at (show q < xs.length by omega)
    obtain ⟨x1, hx1, hdx1⟩ := drop_at hql
    have lx := load_I Hs hx
    have lx1 := load_I Hs hx1
    have q0 : (0 : Int) ≤ (q : Int) := by omega
    have wq := winc (show q < xs.length by omega) (by omega)
    have wd : IntKind.i64.wrap ((q : Int) - 1) = (q : Int) - 1 := by rw [wrap_ok] <;> omega
    rw [show ((q + 1 : Nat) : Int) = (q : Int) + 1 from rfl] at lx1 wq
    by_cases c1 : x1 < x
    · simp -implicitDefEqProofs [-indexAddrP_some, q0, lx, lx1, wq, wd, c1]
      refine ⟨q, by omega, on hI ⟨by omega, ?_, rfl, ?_⟩⟩
      · rw [if_neg (by omega)]
      · rw [hdx]
        refine List.pairwise_cons.2 ⟨fun z hz => ?_, hd⟩
        rw [hdx1] at hz hd
        rcases List.mem_cons.1 hz with rfl | hz
        · exact c1
        · have := (List.pairwise_cons.1 hd).1 z hz; omega
    · have hlt : x < x1 := by have := lt_of hx hx1 (by omega); omega
      have nq0 : ¬ (q : Int) < 0 := by omega
      have w1 : IntKind.i64.wrap ((xs.length : Int) - 1) = (xs.length : Int) - 1 := by rw [wrap_ok] <;> omega
      simp -implicitDefEqProofs [-indexAddrP_some, q0, lx, lx1, wq, c1, nq0, w1]
      -- the last one greater
      refine R_loopO (fun m s h2 => q + 1 ≤ m ∧ m < xs.length ∧ s = [(0, .slice oa xs.length c), (3, .int .i64 q), (4, .int .i64 m)] ∧ h2 = h' ∧ ∀ z, z ∈ xs.drop (m + 1) → ¬ x < z) (fun I2 hI2 m s h2 => ?_) (n := xs.length - 1)
        ⟨by omega, by omega, by simp; omega, rfl, fun z hz => by rw [List.drop_eq_nil_of_le (by omega)] at hz; cases hz⟩
      rintro ⟨hm1, hm2, rfl, rfl, hgt⟩
      obtain ⟨y, hy, hdy⟩ := drop_at hm2
      have ly := load_I Hs hy
      have hne := lt_of hx hy (by omega)
      by_cases c2 : y < x
      · have hmq : q + 1 ≠ m := fun e => by subst e; rw [hx1] at hy; cases hy; omega
        have wm : IntKind.i64.wrap ((m : Int) - 1) = ((m - 1 : Nat) : Int) := by rw [wrap_ok] <;> omega
        simp -implicitDefEqProofs [-indexAddrP_some, lx, ly, c2, wm]
        refine ⟨m - 1, by omega, on hI2 ⟨by omega, by omega, rfl, rfl, fun z hz => ?_⟩⟩
        rw [show m - 1 + 1 = m by omega, hdy] at hz
        rcases List.mem_cons.1 hz with rfl | hz
        · omega
        · exact hgt z hz
      · have hxy : x < y := by omega
        -- the change
        obtain ⟨a, ha⟩ : ∃ a, a = (xs.drop (q + 1)).take (m - (q + 1)) := ⟨_, rfl⟩
        obtain ⟨b, hb⟩ : ∃ b, b = xs.drop (m + 1) := ⟨_, rfl⟩
        have hal : a.length = m - (q + 1) := by rw [ha]; simp; omega
        have e1 : xs.drop (q + 1) = a ++ y :: b := by
          have := List.take_append_drop (m - (q + 1)) (xs.drop (q + 1))
          rw [List.drop_drop, show q + 1 + (m - (q + 1)) = m by omega, hdy] at this
          rw [ha, hb]; exact this.symm
        have e2 : xs = xs.take q ++ x :: (a ++ y :: b) := by
          conv => lhs; rw [← List.take_append_drop q xs, hdx, e1]
        have hres : nextP xs = some (xs.take q ++ y :: (a ++ x :: b).reverse) := next_at e2 (by rw [← e1]; exact hd) (by rw [hb]; exact hgt) hxy
        rw [hres] at hK
        have htq : (xs.take q).length = q := by simp; omega
        have htl : (a ++ x :: b).length = xs.length - (q + 1) := by
          have := congrArg List.length e1
          simp only [List.length_append, List.length_cons, List.length_drop] at this ⊢
          omega
        obtain ⟨h3, s3, H3, k3⟩ := put_I H0 0 rfl (j := q) (by omega) y
        have ixm : indexAddrP P h3 t_S_int (.slice oa xs.length c) (.int .i64 m) = some (.pointer (some (addP (base (.slice oa xs.length c)) m))) := by
          obtain ⟨z, hz, _⟩ := drop_at (show m < (xs.set q y).length by simpa using hm2)
          exact (load_I (H3.sees 0 rfl) hz).1
        obtain ⟨h4, s4, H4, k4⟩ := put_I H3 0 rfl (j := m) (by simpa using hm2) x
        have e3 : (xs.set q y).set m x = xs.take q ++ y :: (a ++ x :: b) := by
          conv => lhs; rw [e2]
          rw [List.set_append_right (h := by omega), htq, Nat.sub_self, List.set_cons_zero, List.set_append_right (h := by omega), htq]
          rw [show m - q = (m - (q + 1)) + 1 by omega, List.set_cons_succ, List.set_append_right (h := by omega), hal, Nat.sub_self, List.set_cons_zero]
        simp only [List.set_cons_zero] at H4
        rw [e3] at H4
        have wm : IntKind.i64.wrap ((xs.length : Int) - 1) = (xs.length : Int) - 1 := by rw [wrap_ok] <;> omega
        simp -implicitDefEqProofs [-indexAddrP_some, lx, ly, c2, s3, ixm, s4, wq, wm]
        -- turning round
        generalize ht : a ++ x :: b = t at hres hK htl H4
        refine R_loopO (fun n s h5 => ∃ p : Nat, 2 * p ≤ t.length + 1 ∧ n = t.length + 1 - 2 * p ∧ s = [(0, .slice oa xs.length c), (5, .int .i64 (q + 1 + p : Nat)), (6, .int .i64 ((xs.length : Int) - 1 - p))] ∧ Keeps (rowV (.slice oa xs.length c)) h2 h5 ∧
          Holds h0 h5 [.own (.slice oa xs.length c) 1 ((xs.take q ++ y :: revP p t).map encI)]) (fun I3 hI3 n s h5 => ?_) (n := t.length + 1)
          ⟨0, by omega, by omega, by simp, k3.trans k4, by rw [revP_zero]; exact H4⟩
        rintro ⟨p, hp, rfl, rfl, k5, H5⟩
        have hrl : (revP p t).length = t.length := revP_len
        by_cases hlt2 : 2 * p + 1 < t.length
        · obtain ⟨u, hu, _⟩ := drop_at (show p < t.length by omega)
          obtain ⟨w, hw, _⟩ := drop_at (show t.length - 1 - p < t.length by omega)
          have gu : (revP p t)[p]? = some u := by rw [revP_get (by omega), if_neg (by omega), hu]; rfl
          have gw : (revP p t)[t.length - 1 - p]? = some w := by rw [revP_get (by omega), if_neg (by omega), hw]; rfl
          have gu' : (xs.take q ++ y :: revP p t)[q + 1 + p]? = some u := by
            rw [List.getElem?_append_right (by omega), htq, show q + 1 + p - q = p + 1 by omega, List.getElem?_cons_succ]; exact gu
          have gw' : (xs.take q ++ y :: revP p t)[q + 1 + (t.length - 1 - p)]? = some w := by
            rw [List.getElem?_append_right (by omega), htq, show q + 1 + (t.length - 1 - p) - q = (t.length - 1 - p) + 1 by omega, List.getElem?_cons_succ]; exact gw
          have lu := load_I (H5.sees 0 rfl) gu'
          have lw := load_I (H5.sees 0 rfl) gw'
          have eb : ((xs.length : Int) - 1 - p) = ((q + 1 + (t.length - 1 - p) : Nat) : Int) := by omega
          rw [eb]
          have hlt3 : ((q + 1 + p : Nat) : Int) < ((q + 1 + (t.length - 1 - p) : Nat) : Int) := by omega
          have hll : (xs.take q ++ y :: revP p t).length = xs.length := by rw [List.length_append, List.length_cons, hrl, htq]; omega
          obtain ⟨h6, s6, H6, k6⟩ := put_I H5 0 rfl (j := q + 1 + p) (by rw [hll]; omega) w
          have ix6 : indexAddrP P h6 t_S_int (.slice oa xs.length c) (.int .i64 (q + 1 + (t.length - 1 - p) : Nat)) = some (.pointer (some (addP (base (.slice oa xs.length c)) (q + 1 + (t.length - 1 - p))))) := by
            obtain ⟨z, hz, _⟩ := drop_at (show q + 1 + (t.length - 1 - p) < ((xs.take q ++ y :: revP p t).set (q + 1 + p) w).length by rw [List.length_set, hll]; omega)
            exact (load_I (H6.sees 0 rfl) hz).1
          obtain ⟨h7, s7, H7, k7⟩ := put_I H6 0 rfl (j := q + 1 + (t.length - 1 - p)) (by rw [List.length_set, hll]; omega) u
          simp only [List.set_cons_zero] at H7
          have e4 : ((xs.take q ++ y :: revP p t).set (q + 1 + p) w).set (q + 1 + (t.length - 1 - p)) u = xs.take q ++ y :: revP (p + 1) t := by
            rw [List.set_append_right (h := by omega), htq, show q + 1 + p - q = p + 1 by omega, List.set_cons_succ, List.set_append_right (h := by omega), htq, show q + 1 + (t.length - 1 - p) - q = (t.length - 1 - p) + 1 by omega, List.set_cons_succ, revP_step hlt2 hu hw]
          rw [e4] at H7
          obtain ⟨A, hA⟩ : ∃ A : Nat, A = q + 1 + p := ⟨_, rfl⟩
          obtain ⟨B, hB⟩ : ∃ B : Nat, B = q + 1 + (t.length - 1 - p) := ⟨_, rfl⟩
          rw [← hA, ← hB] at hlt3
          rw [← hA] at lu s6
          rw [← hB] at lw ix6 s7
          rw [← hA, ← hB]
          have hltN : A < B := by omega
          have wA := winc (show A < xs.length by omega) (by omega)
          have wB : IntKind.i64.wrap ((B : Int) - 1) = (B : Int) - 1 := by rw [wrap_ok] <;> omega
          simp -implicitDefEqProofs [-indexAddrP_some, hltN, lu, lw, s6, ix6, s7, wA, wB]
          refine ⟨t.length + 1 - 2 * (p + 1), by omega, on hI3 ⟨p + 1, by omega, rfl, ?_, k5.trans (k6.trans k7), H7⟩⟩
          simp; omega
        · rw [revP_end (by omega)] at H5
          have hnl : ¬ ((q : Int) + 1 + (p : Int)) < (xs.length : Int) - 1 - p := by omega
          simp -implicitDefEqProofs [hnl]
          refine onK hK ⟨rfl, ?_, keeps_gc k5⟩
          rw [Option.getD_some]
          exact (Holds.gcR H0 H5 rfl).own 0 rfl
end Go.Pm.PP

/- All orders of a list by the reference. -/
set_option linter.unusedVariables false
set_option linter.unusedSimpArgs false
set_option maxRecDepth 4000
set_option maxHeartbeats 4000000
namespace Go.Pm.PE
def fact : Nat → Nat
  | 0 => 1
  | n + 1 => (n + 1) * fact n
theorem fact_mono {n m : Nat} (h : n ≤ m) : fact n ≤ fact m := by
  induction m with
  | zero => rw [Nat.le_zero.1 h]; exact Nat.le_refl _
  | succ m ih =>
    rcases Nat.lt_or_ge m n with g | g
    · rw [show n = m + 1 by omega]; exact Nat.le_refl _
    · exact Nat.le_trans (ih g) (by rw [fact]; exact Nat.le_mul_of_pos_left _ (by omega))
theorem flat_len' {α β : Type} {f : α → List β} {c : Nat} : ∀ {l : List α}, (∀ x, x ∈ l → (f x).length = c) → (l.flatMap f).length = l.length * c
  | [], _ => by simp
  | a :: l, h => by
    rw [List.flatMap_cons, List.length_append, h a (List.mem_cons_self ..), flat_len' fun x hx => h x (List.mem_cons_of_mem _ hx), List.length_cons, Nat.succ_mul]; omega
theorem perms_len : ∀ {n : Nat} {l : List Int}, l.length = n → (perms l n).length = fact n
  | 0, l, _ => rfl
  | n + 1, l, h => by
    rw [perms, flat_len' (c := fact n)]
    · rw [List.length_range', h]; rfl
    · intro i hi
      rw [List.length_map]
      have : i < l.length := by simpa [List.mem_range'_1] using hi
      exact perms_len (by rw [List.length_eraseIdx_of_lt this]; omega)
theorem perms_perm : ∀ {n : Nat} {l p : List Int}, l.length = n → p ∈ perms l n → p.Perm l
  | 0, l, p, h, hp => by
    rw [List.eq_nil_of_length_eq_zero h]
    simp [perms] at hp
    rw [hp]
  | n + 1, l, p, h, hp => by
    rw [perms, List.mem_flatMap] at hp
    obtain ⟨i, hi, hp⟩ := hp
    have hi : i < l.length := by simpa [List.mem_range'_1] using hi
    obtain ⟨q, hq, rfl⟩ := List.mem_map.1 hp
    have h1 := perms_perm (by rw [List.length_eraseIdx_of_lt hi]; omega) hq
    obtain ⟨x, hx, hd⟩ := drop_at hi
    rw [hx, Option.getD_some]
    refine (List.Perm.cons x h1).trans ?_
    have e : l = l.take i ++ x :: l.drop (i + 1) := by conv => lhs; rw [← List.take_append_drop i l, hd]
    rw [List.eraseIdx_eq_take_drop_succ]
    conv => rhs; rw [e]
    exact List.perm_middle.symm
end Go.Pm.PE
namespace Go.Pm
/-- What stands in between is let go. -/
theorem Holds.cut {h0 h : Hp} {A B C : List Asn} (H : Holds h0 h ((A ++ B) ++ C)) : Holds h0 h (A ++ C) := by
  refine Holds.weak (T := B) (H.perm ?_)
  rw [List.append_assoc, List.append_assoc]
  exact List.Perm.append_left A List.perm_append_comm
end Go.Pm
namespace Go.Pm.PP
open Go.Pm Go.Proofs Go.Pm.PE
theorem nr_mod {b : Nat} {h h' : Hp} (n : NR b h') (m : NR h.length h') (hp : h.take b <+: h') : modOk b h h' := ⟨m.1, hp, by
  rw [List.all_eq_true]
  intro x hx
  cases x with
  | none => rfl
  | some x =>
    obtain ⟨k, hk⟩ := List.getElem?_of_mem hx
    rw [List.getElem?_drop] at hk
    simp [n.2 _ x (by omega) hk]⟩
theorem nr_self {h : Hp} : NR h.length h := ⟨Nat.le_refl _, fun r x hr hx => by rw [List.getElem?_eq_none hr] at hx; cases hx⟩
/-- An append to what was made behind row b. -/
theorem app_mod {b : Nat} {h h1 h' : Hp} {t : TypeId} {s x v : Value} (hb : h.length = b) (n : NR b h1) (e : appendP P h1 t s x = some (v, h')) (hp : h <+: h1) (hp' : h <+: h') : modOk b h1 h' :=
  nr_mod (append_nr n e) (append_nr nr_self e) (by
    subst hb
    obtain ⟨l, rfl⟩ := hp
    rw [List.take_left' rfl]
    exact hp')
theorem l3Without_run {h : Hp} {v : Value} {xs : List Int} {i : Nat} (hv : Ints h v xs) (hn : xs.length ≤ 2 ^ 30) (hi : i < xs.length) : RunsC P G n_spec_l3Without [v, .int .i64 i] h fun v' h' => h <+: h' ∧ Own h.length h' v' 1 ((xs.eraseIdx i).map encI) := by
  refine hideC fun K hK => enter_run e_spec_l3Without (by simp) ?_
  have hvs := hv
  obtain ⟨oa, c, rfl⟩ := hv.shapeT
  obtain ⟨v1, s1, f1⟩ := hvs.front (P := P) u_S_int i_int (k := .i64) (j := (i : Int)) (by omega) (by simp; omega)
  rw [Int.toNat_natCast, ← List.map_take] at f1
  have wi := winc hi (show xs.length ≤ 2 ^ 40 by omega)
  simp -implicitDefEqProofs [s1]
  refine CH_post (l1Own_run f1 (by simp; omega)).new fun v2 h2 ⟨⟨hp2, ho2⟩, hn2⟩ => ⟨hn2 hp2, ?_⟩
  obtain ⟨v3, s3, f3, _⟩ := (hvs.pre hp2).back (P := P) u_S_int i_int (k := .i64) (j := (i : Int) + 1) (by omega) (by simp; omega)
  rw [show ((i : Int) + 1).toNat = i + 1 by omega, ← List.map_drop] at f3
  have H2 := (Holds.start (h := h)).call hp2 ho2
  obtain ⟨v4, h4, ha, H4, _⟩ := app_I H2 0 rfl f3 (by simp; omega)
  simp -implicitDefEqProofs [wi, s3, ha]
  have e : xs.eraseIdx i = xs.take i ++ xs.drop (i + 1) := List.eraseIdx_eq_take_drop_succ ..
  rw [e] at hK
  exact onK hK (H4.ret 0 rfl)
def permF (xs : List Int) (n : Nat) (i : Nat) : List (List Int) := (perms (xs.eraseIdx i) n).map ((xs[i]?.getD 0) :: ·)
theorem l9Orders_run : ∀ {n : Nat} {h : Hp} {v : Value} {xs : List Int}, xs.length = n → n ≤ 12 → Ints h v xs → RunsC P G n_spec_l9Orders [v] h fun v' h' => h <+: h' ∧ OwnN h h' v' (perms xs n)
  | 0, h, v, xs, hl, _, hv => by
    refine hideC fun K hK => enter_run e_spec_l9Orders (by simp) ?_
    have hvs := hv
    obtain ⟨oa, c, rfl⟩ := hv.shapeT
    have hl0 : ((xs.length : Int) == 0) = true := by simp [hl]
    simp -implicitDefEqProofs [hl0]
    have H1 : Holds h (h ++ [some ⟨[.slice none 0 0], 1, false⟩]) ([.own (.slice (some ⟨h.length, 0, some 1⟩) 1 1) 1 (([nilV]).map encV)]) := by
      have := (Holds.start (h := h)).lit (sz := 1) (n := 1) (els := [[Value.slice none 0 0]]) (by simp) (by simp)
      simpa [encV] using this
    have H2 := H1.call List.prefix_rfl (Own.nil (sz := 1))
    have H3 : Holds h (h ++ [some ⟨[.slice none 0 0], 1, false⟩]) (.own (.slice (some ⟨h.length, 0, some 1⟩) 1 1) 1 (([nilV]).map fun u => [u]) :: inL encI 1 [nilV] [[]]) := H2
    refine onK hK ⟨pre_gcU H3.pre, [nilV], rfl, ?_⟩
    exact H3.gcN rfl (by simp [plain])
  | n + 1, h, v, xs, hl, h12, hv => by
    refine hideC fun K hK => enter_run e_spec_l9Orders (by simp) ?_
    have hvs := hv
    obtain ⟨oa, c, rfl⟩ := hv.shapeT
    have hl0 : ((xs.length : Int) == 0) = false := nb (by omega)
    generalize hX : perms xs (n + 1) = X at hK
    have hXl : X.length ≤ 479001600 := by
      rw [← hX, perms_len hl]
      exact Nat.le_trans (fact_mono h12) (by decide)
    have hX' : X = (List.range' 0 xs.length).flatMap (permF xs n) := by rw [← hX, perms]; rfl
    clear hX
    simp -implicitDefEqProofs [hl0]
    refine R_loopO (fun m s h' => ∃ (i : Nat) (u : Value) (us : List Value) (acc : List (List Int)), i + m = xs.length ∧ s = [(0, .slice oa xs.length c), (3, u), (4, .int .i64 i)] ∧ us.length = acc.length ∧ X = acc ++ (List.range' i m).flatMap (permF xs n) ∧
      Holds h h' ([.own u 1 (us.map encV)] ++ (inL encI 1 us acc ++ []))) (fun I hI m s h' => ?_) ⟨0, nilV, [], [], Nat.zero_add _, by simp, rfl, by simpa using hX', by simpa [inL] using own_nil (Holds.start (h := h)) Value encV 1⟩
    rintro ⟨i, u, us, acc, hi, rfl, hul, hx, H⟩
    by_cases hlt : i < xs.length
    · obtain ⟨x, hxx, hdx⟩ := drop_at hlt
      obtain ⟨m', rfl⟩ : ∃ m', m = m' + 1 := ⟨m - 1, by omega⟩
      rw [List.range'_succ, List.flatMap_cons] at hx
      have hel : (xs.eraseIdx i).length = n := by rw [List.length_eraseIdx_of_lt hlt]; omega
      simp -implicitDefEqProofs [hlt]
      refine CL_post (l3Without_run (hvs.pre H.pre) (by omega) hlt) fun v1 h1 ⟨hp1, ho1⟩ => ?_
      simp -implicitDefEqProofs
      refine CL_post (l9Orders_run hel (by omega) ho1.sees) fun v2 h2 ⟨hp2, us2, hul2, C2⟩ => ?_
      have hp12 := hp1.trans hp2
      have H2 : Holds h h2 (([.own u 1 (us.map encV)] ++ ([.own v2 1 (us2.map encV)] ++ inL encI 1 us2 (perms (xs.eraseIdx i) n))) ++ (inL encI 1 us acc ++ [])) := by
        have := Holds.joinT (L := [.own u 1 (us.map encV)]) (T := inL encI 1 us acc ++ []) (A := [.own v2 1 (us2.map encV)]) (M := inL encI 1 us2 (perms (xs.eraseIdx i) n)) (H.ext hp1) C2
        rw [← List.append_assoc] at this
        simpa [List.append_assoc] using this
      have hpl : (perms (xs.eraseIdx i) n).length ≤ 479001600 := by rw [perms_len hel]; exact Nat.le_trans (fact_mono (show n ≤ 12 by omega)) (by decide)
      have eF : permF xs n i = (perms (xs.eraseIdx i) n).map (x :: ·) := by unfold permF; rw [hxx]; rfl
      rw [eF] at hx
      clear eF
      generalize hY : (List.range' (i + 1) m').flatMap (permF xs n) = Y at hx
      generalize hR : perms (xs.eraseIdx i) n = R at hx H2 hul2 hpl
      have hRm : ∀ p, p ∈ R → p.length = n := fun p hp => by
        rw [← hR] at hp
        rw [(perms_perm hel hp).length_eq, hel]
      obtain ⟨o2, c2, rfl⟩ : ∃ o c, v2 = .slice o R.length c := by obtain ⟨a, c, e⟩ := (H2.sees 1 rfl).shapeT; exact ⟨a, c, by rw [e, hul2]⟩
      simp -implicitDefEqProofs
      refine R_loopO (fun k s h' => ∃ (j : Nat) (u : Value) (us : List Value) (acc : List (List Int)), j + k = R.length ∧ s = [(0, .slice oa xs.length c), (3, u), (4, .int .i64 i), (5, .slice o2 R.length c2), (6, .int .i64 j)] ∧ us.length = acc.length ∧ X = acc ++ (((R.drop j).map (x :: ·)) ++ Y) ∧
        Holds h h' (([.own u 1 (us.map encV)] ++ ([.own (.slice o2 R.length c2) 1 (us2.map encV)] ++ inL encI 1 us2 R)) ++ (inL encI 1 us acc ++ []))) (fun I2 hI2 k s h3 => ?_) ⟨0, u, us, acc, Nat.zero_add _, by simp, hul, hx, H2⟩
      rintro ⟨j, u3, us3, acc3, hj, rfl, hul3, hx3, H3⟩
      have hal := congrArg List.length hx3
      simp only [List.length_append, List.length_map, List.length_drop] at hal
      by_cases hlt2 : j < R.length
      · obtain ⟨y, hy, hdy⟩ := drop_at hlt2
        have N3 : Nest h3 (.slice o2 R.length c2) encI 1 R us2 := Holds.nest (o := 1) (L1 := [.own u3 1 (us3.map encV)] ++ ([.own (.slice o2 R.length c2) 1 (us2.map encV)])) (L2 := inL encI 1 us3 acc3 ++ []) (by simpa [List.append_assoc] using H3) rfl hul2
        obtain ⟨uy, huy, Sy⟩ := N3.at hy
        have lx := load_I (hvs.pre H3.pre) hxx
        have hyl := hRm y (List.mem_of_getElem? hy)
        -- the new list
        have C4 : Holds h3 (h3 ++ [some ⟨[.int .i64 x], 1, false⟩]) [.own (.slice (some ⟨h3.length, 0, some 1⟩) 1 1) 1 (([x]).map encI)] := by
          have := (Holds.start (h := h3)).lit (sz := 1) (n := 1) (els := [[.int .i64 x]]) (by simp) (by simp)
          simpa [encI] using this
        have Sy4 := Sy.pre C4.pre
        have ly := load_N (N3.out.pre C4.pre) huy
        obtain ⟨v5, h5, ha5, H5, k5⟩ := app_I (xs := [x]) (ys := y) C4 0 rfl Sy4 (by simp; omega)
        have ho5 := H5.own 0 rfl
        obtain ⟨v6, h6, ha6, H6, _⟩ := push_new hul3 H3 0 rfl H5.pre ho5 (by omega)
        have n4 : NR h3.length (h3 ++ [some ⟨[.int .i64 x], 1, false⟩]) := nr_self.new [.int .i64 x] 1
        have md := app_mod rfl n4 ha5 (List.prefix_append ..) H5.pre
        obtain ⟨b1, b2, b3, rfl⟩ : ∃ a n c, v5 = .slice a n c := by obtain ⟨a, c, e⟩ := ho5.sees.shape; exact ⟨_, _, _, e⟩
        have H7 : Holds h h6 (([.own v6 1 ((us3 ++ [Value.slice b1 b2 b3]).map encV)] ++ ([.own (.slice o2 R.length c2) 1 (us2.map encV)] ++ inL encI 1 us2 R)) ++ (inL encI 1 (us3 ++ [Value.slice b1 b2 b3]) (acc3 ++ [x :: y]) ++ [])) := H6
        simp -implicitDefEqProofs [-indexAddrP_some, hlt2, lx, ly, ha5, md, ha6, winc hlt2 (by omega)]
        refine ⟨k - 1, by omega, on hI2 ⟨j + 1, v6, us3 ++ [Value.slice b1 b2 b3], acc3 ++ [x :: y], by omega, rfl, by simp [hul3], ?_, H7⟩⟩
        rw [hx3, hdy, List.map_cons, List.append_assoc]; rfl
      · rw [List.drop_eq_nil_of_le (by omega), List.map_nil, List.nil_append] at hx3
        have H4 := H3.cut
        simp -implicitDefEqProofs [hlt2, winc hlt (by omega)]
        exact ⟨m', by omega, on hI ⟨i + 1, u3, us3, acc3, by omega, rfl, hul3, by rw [hY]; exact hx3, H4⟩⟩
    · have hm : m = 0 := by omega
      subst hm
      rw [List.range'_zero, List.flatMap_nil, List.append_nil] at hx
      subst hx
      obtain ⟨o1, c1, rfl⟩ : ∃ o c, u = .slice o us.length c := by obtain ⟨a, c, e⟩ := (H.sees 0 rfl).shapeT; exact ⟨a, c, e⟩
      simp -implicitDefEqProofs [hlt]
      rw [List.append_nil] at H
      refine onK hK ⟨pre_gcU H.pre, us, hul, ?_⟩
      exact Holds.gcN H hul fun hp => hp
end Go.Pm.PP

/- The first best selection of a job shop: in plain terms; the reference's search. -/
set_option linter.unusedVariables false
set_option linter.unusedSimpArgs false
set_option maxRecDepth 4000
set_option maxHeartbeats 4000000
namespace Go.Pm.PP
open Go.Pm Go.Proofs Go.Pm.PE Go.Pm.JS
abbrev BO := Option (List (List Int) × Int)
def bO (b : BO) : List (List Int) := (b.map (·.1)).getD []
def bL (b : BO) : Int := (b.map (·.2)).getD 0
noncomputable def updB (s : Shop) (b : BO) (oss : List (List Int)) : BO :=
  if (headsO s oss).isSome = true ∧ (∀ p, b = some p → mx (tailsL s (psL s oss)) < p.2) then some (oss, mx (tailsL s (psL s oss))) else b
noncomputable def tryL (s : Shop) : Nat → List (List Int) → BO → BO
  | 0, begun, b => updB s b begun
  | k + 1, begun, b => (perms (onL s begun.length) (onL s begun.length).length).foldl (fun b o => tryL s k (begun ++ [o]) b) b
/-- The orders of the first machines. -/
def SelUp (s : Shop) (begun : List (List Int)) : Prop := ∀ (i : Nat) o, begun[i]? = some o → (onL s (i : Int)).Perm o
theorem selUp_snoc {s : Shop} {begun : List (List Int)} {o : List Int} (h : SelUp s begun) (ho : (onL s begun.length).Perm o) : SelUp s (begun ++ [o]) := by
  intro i p hp
  rw [List.getElem?_append] at hp
  split at hp
  · exact h i p hp
  · have : i - begun.length = 0 := by
      rcases Nat.eq_zero_or_pos (i - begun.length) with g | g
      · exact g
      · rw [List.getElem?_eq_none (by simp; omega)] at hp; cases hp
    rw [this] at hp
    cases hp
    rw [show i = begun.length by omega]
    exact ho
theorem selUp_go {s : Shop} : ∀ {r : List (List Int)} {k : Nat}, (∀ (i : Nat) o, r[i]? = some o → (onL s ((k + i : Nat) : Int)).Perm o) → SelGo s k r
  | [], k, _ => trivial
  | o :: r, k, h => ⟨by simpa using h 0 o rfl, selUp_go fun i p hp => by have := h (i + 1) p (by simpa using hp); rwa [show k + (i + 1) = k + 1 + i by omega] at this⟩
theorem on_len {s : Shop} (hg : goodS s = true) {m : Int} : (onL s m).length ≤ 12 := by
  have h1 := (good_n hg).1
  have h2 := @onGo_len m (opsL s) 0
  rw [ops_len] at h2
  unfold onL
  omega
theorem up_cnt {s : Shop} (hg : goodS s = true) {begun : List (List Int)} (h : SelUp s begun) (hl : begun.length ≤ 4) : cntN begun ≤ 48 := by
  have h1 : ∀ o, o ∈ begun → o.length ≤ 12 := fun o ho => by
    obtain ⟨i, hi⟩ := List.getElem?_of_mem ho
    have := (h i o hi).length_eq
    have := on_len hg (m := (i : Int))
    omega
  have h2 : ∀ {l : List (List Int)}, (∀ o, o ∈ l → o.length ≤ 12) → cntN l ≤ 12 * l.length := by
    intro l
    induction l with
    | nil => intro _; simp [cntN]
    | cons a l ih =>
      intro hl
      have g1 := hl a (List.mem_cons_self ..)
      have g2 := ih fun o ho => hl o (List.mem_cons_of_mem _ ho)
      rw [cntN, List.length_cons]
      omega
  have := h2 h1
  omega
/-- What is best so far is nothing, or orders of all machines. -/
def BestOk (s : Shop) (b : BO) : Prop := ∀ p, b = some p → (p.1.length : Int) = s.m ∧ SelUp s p.1
theorem BestOk.len {s : Shop} (hg : goodS s = true) {b : BO} (h : BestOk s b) : (bO b).length ≤ 4 ∧ cntN (bO b) ≤ 48 ∧ ((bO b).length = 0 ↔ b = none) := by
  have hm := good_n hg
  cases b with
  | none => simp [bO, cntN]
  | some p =>
    obtain ⟨h1, h2⟩ := h p rfl
    have h3 : p.1.length ≤ 4 := by omega
    exact ⟨h3, up_cnt hg h2 h3, by simp [bO]; intro e; rw [e] at h1; simp at h1; omega⟩
theorem updB_ok {s : Shop} {b : BO} {oss : List (List Int)} (h : BestOk s b) (h1 : (oss.length : Int) = s.m) (h2 : SelUp s oss) : BestOk s (updB s b oss) := by
  unfold updB
  split
  · intro p hp; cases hp; exact ⟨h1, h2⟩
  · exact h
/-! ### what is seen stands where a box is written -/
section
variable {h h' : Hp} {v : Value} {sz r : Nat} {els : List (List Value)} {cs : List Value} {ro : Bool}
theorem Sees.boxK (s : Sees h v sz els) (hz : 0 < sz) (hb : h[r]? = some (some ⟨cs, 0, ro⟩)) (k : Keeps (some r) h h') : Sees h' v sz els := by
  refine Go.Pm.Sees.keeps s k fun j hj hv => ?_
  cases hj
  obtain ⟨_, oa, c, rfl, h3⟩ := s
  rcases h3 with ⟨rfl, _, _⟩ | ⟨r', o, x, rfl, h5, h6, _⟩
  · cases hv
  · cases hv
    rw [hb] at h5
    cases h5
    have h7 : (0 : Nat) = sz := h6
    omega
theorem Nest.boxK {α : Type} {enc : α → List Value} {xss : List (List α)} {vs : List Value} (n : Nest h v enc sz xss vs) (hz : 0 < sz) (hb : h[r]? = some (some ⟨cs, 0, ro⟩)) (k : Keeps (some r) h h') : Nest h' v enc sz xss vs :=
  ⟨Sees.boxK n.out (by omega) hb k, n.len, fun i u xs h1 h2 => Sees.boxK (n.inn i u xs h1 h2) hz hb k⟩
theorem OAt.boxK {xss : List (List Int)} (O : OAt h v xss) (hb : h[r]? = some (some ⟨cs, 0, ro⟩)) (k : Keeps (some r) h h') : OAt h' v xss := by
  obtain ⟨vs, n⟩ := O.n
  exact ⟨⟨vs, Nest.boxK n (by omega) hb k⟩, O.rn, O.tot⟩
/-- At a function's end. -/
theorem OAt.gcU {h0 : Hp} {u : Value} {xss : List (List Int)} (O : OAt h v xss) (hu : plain u = true → plainC v = true) : OAt (gc h0 h u) v xss := by
  rcases gc_cases h0 h u with g | ⟨hp, g⟩ <;> rw [g]
  · exact O
  · have hv := hu hp
    obtain ⟨vs, n⟩ := O.n
    obtain ⟨oa, c, rfl⟩ := n.shape
    have h0' : oa = none ∧ xss.length = 0 ∧ c = 0 := by
      cases oa with
      | some a => cases hv
      | none =>
        match hh : xss.length, c, hv with
        | 0, 0, _ => exact ⟨rfl, rfl, rfl⟩
    obtain ⟨rfl, hx, rfl⟩ := h0'
    have hx0 : xss = [] := List.eq_nil_of_length_eq_zero hx
    subst hx0
    have hv0 : vs = [] := List.eq_nil_of_length_eq_zero n.len
    subst hv0
    exact ⟨⟨[], ⟨by simp, none, 0, rfl, .inl ⟨rfl, rfl, rfl⟩⟩, rfl, fun i u xs h1 => by simp at h1⟩, O.rn, O.tot⟩
end
/-! ### the search -/
abbrev sr (v : Value) (l : Int) : Value := .agg #[v, .int .i64 l]
theorem upd_ok {s : Shop} {oss : List (List Int)} (hg : goodS s = true) (hm : (oss.length : Int) = s.m) (hs : SelUp s oss) : sel2 s oss = true := sel2_iff.2 ⟨hg, hm, selUp_go fun i o ho => by simpa using hs i o ho⟩
theorem l9Try_run {s : Shop} (hg : goodS s = true) : ∀ {k : Nat} {h : Hp} {vr vb vo : Value} {begun : List (List Int)} {b : BO}, SAt h vr s → OAt h vb begun → OAt h vo (bO b) → ((begun.length + k : Nat) : Int) = s.m → SelUp s begun → BestOk s b →
    RunsC P G n_spec_l9Try [sv s vr, vb, sr vo (bL b)] h fun v h' => h <+: h' ∧ BestOk s (tryL s k begun b) ∧ ∃ vo', v = sr vo' (bL (tryL s k begun b)) ∧ OAt h' vo' (bO (tryL s k begun b))
  | 0, h, vr, vb, vo, begun, b, S, O, OB, hk, hsu, hbo => by
    refine hideC fun K hK => enter_run e_spec_l9Try (by simp) ?_
    have Ss := S
    have Os := O
    have OBs := OB
    obtain ⟨oa, ca, rfl⟩ := S.shape
    obtain ⟨ob, cb, rfl⟩ := O.shape
    obtain ⟨od, cd, rfl⟩ := OB.shape
    have hm : (begun.length : Int) = s.m := by simpa using hk
    have c3 := upd_ok hg hm hsu
    obtain ⟨_, _, hsl⟩ := sel2_iff.1 c3
    have ao := AsOk.of hg hsl Os.tot
    have hhd : headsO s begun = rounds (hArcs (tsL s) (psL s begun)) ((opsL s).length + 1) (zerosN (opsL s).length) := by rw [headsO, if_pos c3]
    have H0 := ((Holds.start.alloc [.int .i64 s.m, .slice oa s.routes.length ca] (h := h)).alloc [.slice od (bO b).length cd, .int .i64 (bL b)]).alloc [nilV, .int .i64 0]
    simp only [List.append_assoc, List.cons_append, List.nil_append, List.length_append, List.length_cons, List.length_nil, Nat.zero_add] at H0
    have hl0 := hbo.len hg
    simp -implicitDefEqProofs [hm]
    refine CL_post (l9Arcs_run (Ss.pre H0.pre) (Os.pre H0.pre)) fun v h1 ⟨hp1, ho1⟩ => ?_
    rw [← psL_map hsl] at ho1
    have H1 := H0.call hp1 ho1
    simp -implicitDefEqProofs [H1.bl 0 2 rfl rfl]
    refine CL_post (l9Starts_run (Ss.pre H1.pre) (H1.sees 3 rfl) ao) fun v2 h2 ⟨hp2, vs2, us2, ev2, ho2, _⟩ => ?_
    subst ev2
    have H2 := H1.call hp2 ho2
    rw [← hhd]
    have rl := l9Length_run (Ss.pre H2.pre) (H2.sees 3 rfl) ao
    have upd : (headsO s begun).isSome = true → (∀ p, b = some p → mx (tailsL s (psL s begun)) < p.2) → tryL s 0 begun b = some (begun, mx (tailsL s (psL s begun))) := fun h1 h2 => by
      rw [tryL, updB, if_pos ⟨h1, h2⟩]
    have upn : ¬ ((headsO s begun).isSome = true ∧ (∀ p, b = some p → mx (tailsL s (psL s begun)) < p.2)) → tryL s 0 begun b = b := fun h1 => by
      rw [tryL, updB, if_neg h1]
    have bok := updB_ok hbo hm hsu
    have fin1 : tryL s 0 begun b = some (begun, mx (tailsL s (psL s begun))) → ∃ h3, storeP P h2 t_spec_l9Search (.agg #[.slice ob begun.length cb, .int .i64 (mx (tailsL s (psL s begun)))]) (.pointer (some ⟨h.length + 1 + 1, 0, some 2⟩)) = some h3 ∧
        loadP P h3 t_spec_l9Search (.pointer (some ⟨h.length + 1 + 1, 0, some 2⟩)) = some (.agg #[.slice ob begun.length cb, .int .i64 (mx (tailsL s (psL s begun)))]) ∧
        K (.agg #[.slice ob begun.length cb, .int .i64 (mx (tailsL s (psL s begun)))]) (gc h h3 (.agg #[.slice ob begun.length cb, .int .i64 (mx (tailsL s (psL s begun)))])) := fun e => by
      obtain ⟨h3, s3, H3, k3⟩ := H2.set (P := P) 2 (n := 2) (o := 0) (ty := t_spec_l9Search) (w := .agg #[.slice ob begun.length cb, .int .i64 (mx (tailsL s (psL s begun)))]) rfl rfl e_t_spec_l9Search (by simp) (by simp) (by simp)
      refine ⟨h3, s3, by simpa using H3.bl (P := P) 2 2 rfl rfl t_spec_l9Search 0, onK hK ⟨pre_gcU H3.pre, bok, .slice ob begun.length cb, by rw [e]; rfl, ?_⟩⟩
      rw [e]
      exact (Os.pre H3.pre).gcU fun hp => by simpa [plain] using hp
    have fin2 : tryL s 0 begun b = b → ∃ h3, storeP P h2 t_spec_l9Search (.agg #[.slice od (bO b).length cd, .int .i64 (bL b)]) (.pointer (some ⟨h.length + 1 + 1, 0, some 2⟩)) = some h3 ∧
        loadP P h3 t_spec_l9Search (.pointer (some ⟨h.length + 1 + 1, 0, some 2⟩)) = some (.agg #[.slice od (bO b).length cd, .int .i64 (bL b)]) ∧
        K (.agg #[.slice od (bO b).length cd, .int .i64 (bL b)]) (gc h h3 (.agg #[.slice od (bO b).length cd, .int .i64 (bL b)])) := fun e => by
      obtain ⟨h3, s3, H3, k3⟩ := H2.set (P := P) 2 (n := 2) (o := 0) (ty := t_spec_l9Search) (w := .agg #[.slice od (bO b).length cd, .int .i64 (bL b)]) rfl rfl e_t_spec_l9Search (by simp) (by simp) (by simp)
      refine ⟨h3, s3, by simpa using H3.bl (P := P) 2 2 rfl rfl t_spec_l9Search 0, onK hK ⟨pre_gcU H3.pre, bok, .slice od (bO b).length cd, by rw [e], ?_⟩⟩
      rw [e]
      exact (OBs.pre H3.pre).gcU fun hp => by simpa [plain] using hp
    have B1 := H2.bl (P := P) 1 2 rfl rfl
    cases ch : (headsO s begun).isSome
    · obtain ⟨h3, s3, l3, f3⟩ := fin2 (upn fun g => by rw [ch] at g; exact absurd g.1 (by simp))
      simp -implicitDefEqProofs [H2.bl 0 2 rfl rfl, CL_ret rl, B1, s3, l3]
      exact f3
    · cases b with
      | none =>
        obtain ⟨h3, s3, l3, f3⟩ := fin1 (upd ch (by simp))
        simp -implicitDefEqProofs [H2.bl 0 2 rfl rfl, CL_ret rl, B1, s3, l3, bO]
        exact f3
      | some p =>
        have hne : (((bO (some p)).length : Int) == 0) = false := nb fun e => absurd (hl0.2.2.1 (by omega)) (by simp)
        by_cases c4 : mx (tailsL s (psL s begun)) < p.2
        · obtain ⟨h3, s3, l3, f3⟩ := fin1 (upd ch (fun q hq => by cases hq; exact c4))
          have c4' : mx (tailsL s (psL s begun)) < bL (some p) := c4
          simp -implicitDefEqProofs [H2.bl 0 2 rfl rfl, CL_ret rl, B1, hne, c4', s3, l3]
          exact f3
        · obtain ⟨h3, s3, l3, f3⟩ := fin2 (upn fun g => c4 (g.2 p rfl))
          have c4' : ¬ mx (tailsL s (psL s begun)) < bL (some p) := c4
          simp -implicitDefEqProofs [H2.bl 0 2 rfl rfl, CL_ret rl, B1, hne, c4', s3, l3]
          exact f3
  | k + 1, h, vr, vb, vo, begun, b, S, O, OB, hk, hsu, hbo => by
    refine hideC fun K hK => enter_run e_spec_l9Try (by simp) ?_
    have Ss := S
    have Os := O
    have OBs := OB
    obtain ⟨oa, ca, rfl⟩ := S.shape
    obtain ⟨ob, cb, rfl⟩ := O.shape
    obtain ⟨od, cd, rfl⟩ := OB.shape
    have hm := good_n hg
    have hmne : ((begun.length : Int) == s.m) = false := nb (by omega)
    have bl4 : begun.length + 1 ≤ 4 := by omega
    have H0 := ((Holds.start.alloc [.int .i64 s.m, .slice oa s.routes.length ca] (h := h)).alloc [.slice od (bO b).length cd, .int .i64 (bL b)]).alloc [nilV, .int .i64 0]
    simp only [List.append_assoc, List.cons_append, List.nil_append, List.length_append, List.length_cons, List.length_nil, Nat.zero_add] at H0
    simp -implicitDefEqProofs [hmne]
    refine CL_post (l9On_run (Ss.pre H0.pre)) fun v1 h1 ⟨hp1, ho1⟩ => ?_
    simp -implicitDefEqProofs
    refine CL_post (l9Orders_run rfl (on_len hg) ho1.sees) fun v2 h2 ⟨hp2, us2, hul2, C2⟩ => ?_
    have H2 := H0.ext (hp1.trans hp2)
    have N2 : Nest h2 v2 encI 1 (perms (onL s begun.length) (onL s begun.length).length) us2 := Holds.nest (L1 := [_]) (L2 := []) (o := 0) C2.open rfl hul2
    have O2 : OAt h2 (.slice od (bO b).length cd) (bO b) := OBs.pre H2.pre
    have hperm : ∀ p, p ∈ perms (onL s begun.length) (onL s begun.length).length → (onL s begun.length).Perm p := fun p hp => (perms_perm rfl hp).symm
    have hplen : (perms (onL s begun.length) (onL s begun.length).length).length ≤ 479001600 := by rw [perms_len rfl]; exact Nat.le_trans (fact_mono (on_len hg)) (by decide)
    generalize hX : tryL s (k + 1) begun b = X at hK
    rw [tryL] at hX
    generalize perms (onL s begun.length) (onL s begun.length).length = R at hX N2 hperm hplen
    obtain ⟨o2, c2, rfl⟩ := N2.shape
    simp -implicitDefEqProofs
    refine R_loopO (fun m st h' => ∃ (i : Nat) (b' : BO) (vo' : Value), i + m = R.length ∧ st = [(1, .slice ob begun.length cb), (3, .pointer (some ⟨h.length, 0, some 2⟩)), (5, .pointer (some ⟨h.length + 1, 0, some 2⟩)), (6, .pointer (some ⟨h.length + 1 + 1, 0, some 2⟩)), (11, .slice o2 R.length c2), (12, .int .i64 i)] ∧
      X = (R.drop i).foldl (fun b o => tryL s k (begun ++ [o]) b) b' ∧ BestOk s b' ∧ Nest h' (.slice o2 R.length c2) encI 1 R us2 ∧ OAt h' vo' (bO b') ∧
      Holds h h' [.box h.length [.int .i64 s.m, .slice oa s.routes.length ca], .box (h.length + 1) [vo', .int .i64 (bL b')], .box (h.length + 1 + 1) [nilV, .int .i64 0]]) (fun I hI m st h' => ?_)
      ⟨0, b, .slice od (bO b).length cd, Nat.zero_add _, by simp, hX.symm, hbo, N2, O2, H2⟩
    rintro ⟨i, b', vo', hi, rfl, hx, hb', N, O', H⟩
    have Ons := O'
    obtain ⟨oq, cn, rfl⟩ := O'.shape
    by_cases hlt : i < R.length
    · obtain ⟨y, hy, hdy⟩ := drop_at hlt
      rw [hdy, List.foldl_cons] at hx
      obtain ⟨uy, huy, Sy⟩ := N.at hy
      obtain ⟨y1, y2, y3, rfl⟩ : ∃ a n c, uy = .slice a n c := by obtain ⟨a, c, e⟩ := Sy.shape; exact ⟨_, _, _, e⟩
      have ly := load_N N.out huy
      have hyp := hperm y (List.mem_of_getElem? hy)
      have one_y : one (Value.slice y1 y2 y3) = true := rfl
      -- begun and one more
      obtain ⟨usb, Nb⟩ := (Os.pre H.pre).n
      have one_b : ∀ x, x ∈ usb → one x = true := fun x hx => by
        obtain ⟨j, hj⟩ := List.getElem?_of_mem hx
        obtain ⟨z, hz, _⟩ := drop_at (show j < begun.length by rw [← Nb.len]; exact (List.getElem?_eq_some_iff.1 hj).1)
        obtain ⟨a, c, e⟩ := (Nb.inn j x z hj hz).shape
        rw [e]; rfl
      have hub : usb.length = begun.length := Nb.len
      have E0 : Holds h' h' [.own (.slice none 0 0) 1 (([] : List Value).map encV)] := own_nil (Holds.start (h := h')) Value encV 1
      obtain ⟨v5, h5, ha5, H5, k5⟩ := app_N E0 0 rfl (ys := usb) Nb.out one_b (by simp; omega)
      have n5 : newOk h' h5 := by
        have := append_nr nr_self ha5
        refine ⟨H5.pre, ?_⟩
        rw [List.all_eq_true]
        intro x hx
        cases x with
        | none => rfl
        | some x =>
          obtain ⟨q, hq⟩ := List.getElem?_of_mem hx
          rw [List.getElem?_drop] at hq
          simp [this.2 _ x (by omega) hq]
      have ho5 := H5
      simp only [List.nil_append, List.set_cons_zero] at ho5
      obtain ⟨v6, h6, ha6, H6, k6, _⟩ := push_N0 ho5 0 rfl (Value.slice y1 y2 y3) one_y (by omega)
      simp only [List.set_cons_zero] at H6
      have n6 : NR h'.length (h5 ++ [some ⟨[Value.slice y1 y2 y3], 1, false⟩]) := (append_nr nr_self ha5).new [Value.slice y1 y2 y3] 1
      have md := app_mod (b := h'.length) rfl n6 ha6 (H5.pre.trans (List.prefix_append ..)) H6.pre
      have N6 : Nest h6 v6 encI 1 (begun ++ [y]) (usb ++ [Value.slice y1 y2 y3]) := by
        refine ⟨H6.sees 0 rfl, by simp [hub], fun j u xs h1 h2 => ?_⟩
        rw [List.getElem?_append] at h1 h2
        rw [hub] at h1
        split at h1
        · rename_i g
          rw [if_pos g] at h2
          exact (Nb.inn j u xs h1 h2).pre H6.pre
        · rename_i g
          rw [if_neg g] at h2
          have h0 : j - begun.length = 0 := by
            rcases Nat.eq_zero_or_pos (j - begun.length) with q | q
            · exact q
            · rw [List.getElem?_eq_none (by simp; omega)] at h1; cases h1
          rw [h0] at h1 h2
          cases h1; cases h2
          exact Sy.pre H6.pre
      have up6 := selUp_snoc hsu hyp
      have O6 : OAt h6 v6 (begun ++ [y]) := ⟨⟨_, N6⟩, by simp; omega, by have := up_cnt hg up6 (by simp; omega); omega⟩
      obtain ⟨d1, d2, d3, rfl⟩ : ∃ a n c, v5 = .slice a n c := by obtain ⟨a, c, e⟩ := (H5.sees 0 rfl).shape; exact ⟨_, _, _, e⟩
      obtain ⟨e1, e2, e3, rfl⟩ : ∃ a n c, v6 = .slice a n c := by obtain ⟨a, c, e⟩ := (H6.sees 0 rfl).shape; exact ⟨_, _, _, e⟩
      have HH6 := H.ext H6.pre
      have ih := l9Try_run hg (k := k) (Ss.pre HH6.pre) O6 (Ons.pre H6.pre) (by rw [← hk]; simp; omega) up6 hb'
      simp -implicitDefEqProofs [-indexAddrP_some, hlt, H.bl 0 2 rfl rfl, ha5, n5, (N.pre H5.pre).out, load_N (N.pre H5.pre).out huy, ha6, md, HH6.bl 1 2 rfl rfl]
      refine CL_post ih fun v h7 ⟨hp7, hb7, vo7, ev7, O7⟩ => ?_
      subst ev7
      have O7s := O7
      obtain ⟨f1, f2, rfl⟩ := O7.shape
      have H7 := HH6.ext hp7
      obtain ⟨h8, s8, H8, k8⟩ := H7.set (P := P) 1 (n := 2) (o := 0) (ty := t_spec_l9Search) (w := sr (.slice f1 (bO (tryL s k (begun ++ [y]) b')).length f2) (bL (tryL s k (begun ++ [y]) b'))) rfl rfl e_t_spec_l9Search (by simp) (by simp) (by simp)
      have bx := H7.box 1 rfl
      simp -implicitDefEqProofs [s8, winc hlt (by omega)]
      exact ⟨m - 1, by omega, on hI ⟨i + 1, _, _, by omega, rfl, hx, hb7, Nest.boxK ((N.pre H6.pre).pre hp7) (by omega) bx k8, OAt.boxK O7s bx k8, by simpa using H8⟩⟩
    · rw [List.drop_eq_nil_of_le (by omega), List.foldl_nil] at hx
      subst hx
      obtain ⟨h8, s8, H8, k8⟩ := H.set (P := P) 2 (n := 2) (o := 0) (ty := t_spec_l9Search) (w := sr (.slice oq (bO X).length cn) (bL X)) rfl rfl e_t_spec_l9Search (by simp) (by simp) (by simp)
      have bx := H.box 2 rfl
      simp -implicitDefEqProofs [hlt, H.bl 1 2 rfl rfl, s8, H8.bl 2 2 rfl rfl]
      exact onK hK ⟨pre_gcU H8.pre, hb', _, rfl, (OAt.boxK Ons bx k8).gcU fun hp => by simpa [plain] using hp⟩
end Go.Pm.PP

/- The first best selection of a job shop: the reference. -/
set_option linter.unusedVariables false
set_option linter.unusedSimpArgs false
set_option maxRecDepth 4000
set_option maxHeartbeats 4000000
namespace Go.Pm.PP
open Go.Pm Go.Proofs Go.Pm.PE Go.Pm.JS
theorem wrap_eq (n : Int) : IntKind.i64.wrap n = (n + 9223372036854775808) % 18446744073709551616 - 9223372036854775808 := by
  unfold IntKind.wrap
  simp [IntKind.signed, IntKind.bits]
  split <;> omega
theorem wrap_mul (a b : Int) : IntKind.i64.wrap (IntKind.i64.wrap a * b) = IntKind.i64.wrap (a * b) := by
  obtain ⟨q, hq⟩ : ∃ q, IntKind.i64.wrap a = a - 18446744073709551616 * q := ⟨(a + 9223372036854775808) / 18446744073709551616, by rw [wrap_eq]; omega⟩
  rw [hq, Int.sub_mul, Int.mul_assoc]
  generalize a * b = c
  generalize q * b = d
  rw [wrap_eq, wrap_eq]
  omega
/-- How many selections there are of the first machines. -/
def prodF (s : Shop) : Nat → Nat
  | 0 => 1
  | k + 1 => prodF s k * fact (onL s k).length
def fewB (s : Shop) : Bool := decide (w64 (prodF s s.m.toNat) ≤ 14000)
noncomputable def bestO (s : Shop) : Option (List (List Int)) := if goodS s = true ∧ fewB s = true then some (bO (tryL s s.m.toNat [] none)) else none
theorem OAt_nil {h : Hp} : OAt h nilV [] := ⟨⟨[], ⟨by simp, none, 0, rfl, .inl ⟨rfl, rfl, rfl⟩⟩, rfl, fun i u xs h1 => by simp at h1⟩, by simp, by simp [cntN]⟩
theorem l9Few_run {h : Hp} {vr : Value} {s : Shop} (S : SAt h vr s) (hg : goodS s = true) : Ret P G n_spec_l9Few [sv s vr] h (.bool (fewB s)) h := by
  refine enter_run e_spec_l9Few (by simp) ?_
  have Ss := S
  obtain ⟨oa, ca, rfl⟩ := S.shape
  have hm := good_n hg
  obtain ⟨M, hM⟩ : ∃ M : Nat, s.m = M := ⟨s.m.toNat, by omega⟩
  have fe : fewB s = decide (IntKind.i64.wrap (prodF s M : Int) ≤ 14000) := by unfold fewB w64; rw [hM, Int.toNat_natCast]
  have H0 := Holds.start.alloc [.int .i64 s.m, .slice oa s.routes.length ca] (h := h)
  simp -implicitDefEqProofs
  refine R_loopO (fun m st h' => ∃ k : Nat, k + m = M ∧ st = [(1, .pointer (some ⟨h.length, 0, some 2⟩)), (3, .int .i64 (IntKind.i64.wrap (prodF s k : Int))), (4, .int .i64 k)] ∧
    Holds h h' [.box h.length [.int .i64 s.m, .slice oa s.routes.length ca]]) (fun I hI m st h' => ?_) (n := M) ⟨0, Nat.zero_add _, by simp [prodF, wrap_ok], by simpa using H0⟩
  rintro ⟨k, hk, rfl, H⟩
  by_cases hlt : k < M
  · have hlt' : (k : Int) < s.m := by omega
    have kw := winc hlt (show M ≤ 2 ^ 40 by omega)
    simp -implicitDefEqProofs [hlt', H.bl 0 2 rfl rfl]
    refine R_loopO (fun m st h2 => ∃ i : Nat, 2 ≤ i ∧ i + m = 14 ∧ (i ≤ (onL s k).length + 1 ∨ i = 2) ∧ st = [(1, .pointer (some ⟨h.length, 0, some 2⟩)), (3, .int .i64 (IntKind.i64.wrap ((prodF s k : Int) * (fact (i - 1) : Int)))), (4, .int .i64 k), (5, .int .i64 i)] ∧
      Holds h h2 [.box h.length [.int .i64 s.m, .slice oa s.routes.length ca]]) (fun I2 hI2 m2 st h2 => ?_) (n := 12) ⟨2, by omega, by omega, .inr rfl, by simp [fact], H⟩
    rintro ⟨i, hi2, him, hil, rfl, H2⟩
    simp -implicitDefEqProofs [H2.bl 0 2 rfl rfl]
    refine CL_post (l9On_run (m := (k : Int)) (Ss.pre H2.pre)) fun v3 h3 ⟨hp3, ho3⟩ => ?_
    have H3 := H2.ext hp3
    have hol := on_len hg (m := (k : Int))
    obtain ⟨o3, c3, rfl⟩ := ho3.sees.shapeT
    by_cases c1 : i ≤ (onL s k).length
    · have c1' : (i : Int) ≤ (onL s k).length := by omega
      have iw := winc (show i < 14 by omega) (by omega)
      have e : prodF s k * fact (i - 1) * i = prodF s k * fact (i + 1 - 1) := by
        obtain ⟨j, rfl⟩ : ∃ j, i = j + 1 := ⟨i - 1, by omega⟩
        rw [Nat.add_sub_cancel, Nat.add_sub_cancel, fact, Nat.mul_assoc, Nat.mul_comm (fact j)]
      have wm : IntKind.i64.wrap (IntKind.i64.wrap ((prodF s k : Int) * (fact (i - 1) : Int)) * (i : Int)) = IntKind.i64.wrap ((prodF s k : Int) * (fact i : Int)) := by
        have e2 := congrArg (fun n : Nat => (n : Int)) e
        simp only [Int.natCast_mul, Nat.add_sub_cancel] at e2
        rw [wrap_mul, e2]
      simp -implicitDefEqProofs [c1, c1', wm, iw]
      exact ⟨m2 - 1, by omega, on hI2 ⟨i + 1, by omega, by omega, .inl (by omega), rfl, H3⟩⟩
    · have c1' : ¬ (i : Int) ≤ (onL s k).length := by omega
      have e : fact (i - 1) = fact (onL s k).length := by
        rcases hil with g | g
        · rw [show i - 1 = (onL s k).length by omega]
        · subst g
          match hh : (onL s (k : Int)).length, c1 with
          | 0, _ => rfl
          | 1, _ => rfl
          | n + 2, c1 => omega
      rw [e]
      simp -implicitDefEqProofs [c1, c1', kw]
      exact ⟨m - 1, by omega, on hI ⟨k + 1, by omega, by rw [prodF, Int.natCast_mul]; rfl, H3⟩⟩
  · have hlt' : ¬ (k : Int) < s.m := by omega
    have hkM : k = M := by omega
    subst hkM
    rw [fe]
    simp -implicitDefEqProofs [hlt', H.bl 0 2 rfl rfl]
    exact gcP H.pre rfl
theorem fold_ok {s : Shop} {f : BO → List Int → BO} : ∀ {R : List (List Int)} {b : BO}, (∀ y, y ∈ R → ∀ c, BestOk s c → BestOk s (f c y)) → BestOk s b → BestOk s (R.foldl f b)
  | [], b, _, hb => hb
  | y :: R, b, h, hb => fold_ok (R := R) (fun z hz => h z (List.mem_cons_of_mem _ hz)) (h y (List.mem_cons_self ..) b hb)
theorem tryL_ok {s : Shop} (hg : goodS s = true) : ∀ {k : Nat} {begun : List (List Int)} {b : BO}, ((begun.length + k : Nat) : Int) = s.m → SelUp s begun → BestOk s b → BestOk s (tryL s k begun b)
  | 0, begun, b, hk, hs, hb => by rw [tryL]; exact updB_ok hb (by simpa using hk) hs
  | k + 1, begun, b, hk, hs, hb => by
    rw [tryL]
    have hperm : ∀ p, p ∈ perms (onL s begun.length) (onL s begun.length).length → (onL s begun.length).Perm p := fun p hp => (perms_perm rfl hp).symm
    generalize perms (onL s begun.length) (onL s begun.length).length = R at hperm
    exact fold_ok (fun y hy c hc => tryL_ok hg (by rw [← hk]; simp; omega) (selUp_snoc hs (hperm y hy)) hc) hb
theorem bestO_len {s : Shop} : ((bestO s).getD []).length ≤ 4 ∧ cntN ((bestO s).getD []) ≤ 48 := by
  unfold bestO
  split
  · rename_i h
    have hm := good_n h.1
    have := (tryL_ok h.1 (k := s.m.toNat) (begun := []) (b := none) (by simp; omega) (fun i o h => by simp at h) (fun p h => by cases h)).len h.1
    exact ⟨this.1, this.2.1⟩
  · simp [cntN]
theorem specBestSelection_run {h : Hp} {vr : Value} {s : Shop} (S : SAt h vr s) : RunsC P G n_spec_BestSelection [sv s vr] h fun v h' => h <+: h' ∧ ∃ w, v = .tuple #[w, .bool (bestO s).isSome] ∧ OAt h' w ((bestO s).getD []) := by
  refine hideC fun K hK => enter_run e_spec_BestSelection (by simp) ?_
  have Ss := S
  obtain ⟨oa, ca, rfl⟩ := S.shape
  have H0 := Holds.start.alloc [.int .i64 s.m, .slice oa s.routes.length ca] (h := h)
  have r1 := l9Good_run (Ss.pre H0.pre)
  cases c1 : goodS s
  · have e : bestO s = none := by simp [bestO, c1]
    rw [e] at hK
    simp -implicitDefEqProofs [CL_ret r1, c1]
    exact onK hK ⟨pre_gcU H0.pre, _, rfl, OAt_nil⟩
  have r2 := l9Few_run (Ss.pre H0.pre) c1
  cases c2 : fewB s
  · have e : bestO s = none := by simp [bestO, c2]
    rw [e] at hK
    simp -implicitDefEqProofs [CL_ret r1, CL_ret r2, c1, c2]
    exact onK hK ⟨pre_gcU H0.pre, _, rfl, OAt_nil⟩
  · have e : bestO s = some (bO (tryL s s.m.toNat [] none)) := by simp [bestO, c1, c2]
    rw [e] at hK
    have hm := good_n c1
    have r3 := l9Try_run c1 (k := s.m.toNat) (begun := []) (b := none) (Ss.pre H0.pre) OAt_nil OAt_nil (by simp; omega) (fun i o h => by simp at h) (fun p h => by cases h)
    simp -implicitDefEqProofs [CL_ret r1, CL_ret r2, c1, c2]
    refine CL_post r3 fun v h1 ⟨hp1, hb1, vo1, ev1, O1⟩ => ?_
    subst ev1
    simp -implicitDefEqProofs
    exact onK hK ⟨pre_gcU (H0.pre.trans hp1), _, rfl, O1.gcU plainT⟩
end Go.Pm.PP

/- The first best selection of a job shop: the program's search. -/
set_option linter.unusedVariables false
set_option linter.unusedSimpArgs false
set_option maxRecDepth 4000
set_option maxHeartbeats 8000000
namespace Go.Pm
theorem Holds.low {h0 hb h : Hp} {L : List Asn} (H : Holds hb h L) (hp : h0 <+: hb) : Holds h0 h L := by
  have := (Holds.none hp).join H
  simpa using this
/-- A list of lists of one's own gives way to a new outer one, with one inner list more. -/
theorem perm_new {BX R V I L V' U : List Asn} : (BX ++ (R ++ (V ++ (I ++ (L ++ (V' ++ U)))))).Perm ((BX ++ (V' ++ (I ++ (U ++ (R ++ L))))) ++ V) := by
  have pull : ∀ (A B C : List Asn), (A ++ (B ++ C)).Perm (B ++ (A ++ C)) := fun A B C => by
    rw [← List.append_assoc, ← List.append_assoc]
    exact List.Perm.append_right C List.perm_append_comm
  rw [List.append_assoc]
  refine List.Perm.append_left BX ?_
  simp only [List.append_assoc]
  have a1 : (L ++ (V' ++ U)).Perm (V' ++ (L ++ U)) := pull _ _ _
  have a2 : (I ++ (L ++ (V' ++ U))).Perm (V' ++ (I ++ (L ++ U))) := (List.Perm.append_left I a1).trans (pull _ _ _)
  have a3 : (V ++ (I ++ (L ++ (V' ++ U)))).Perm (V' ++ (V ++ (I ++ (L ++ U)))) := (List.Perm.append_left V a2).trans (pull _ _ _)
  have a4 : (R ++ (V ++ (I ++ (L ++ (V' ++ U))))).Perm (V' ++ (R ++ (V ++ (I ++ (L ++ U))))) := (List.Perm.append_left R a3).trans (pull _ _ _)
  refine a4.trans (List.Perm.append_left V' ?_)
  have b1 : (V ++ (I ++ (L ++ U))).Perm (I ++ (V ++ (L ++ U))) := pull _ _ _
  have b2 : (R ++ (V ++ (I ++ (L ++ U)))).Perm (I ++ (R ++ (V ++ (L ++ U)))) := (List.Perm.append_left R b1).trans (pull _ _ _)
  refine b2.trans (List.Perm.append_left I ?_)
  have c1 : (L ++ U).Perm (U ++ L) := List.perm_append_comm
  have c2 : (V ++ (L ++ U)).Perm (U ++ (V ++ L)) := (List.Perm.append_left V c1).trans (pull _ _ _)
  have c3 : (R ++ (V ++ (L ++ U))).Perm (U ++ (R ++ (V ++ L))) := (List.Perm.append_left R c2).trans (pull _ _ _)
  exact c3.trans (List.Perm.append_left U (List.Perm.append_left R List.perm_append_comm))
end Go.Pm
namespace Go.Pm.PP
open Go.Pm Go.Proofs Go.Pm.PE Go.Pm.JS
theorem factorial_run {h : Hp} {n : Nat} (hn : n ≤ 12) : Ret P G n_impl_factorial [.int .i64 n] h (.int .i64 (fact n : Nat)) h := by
  refine enter_run e_impl_factorial (by simp) ?_
  simp -implicitDefEqProofs
  refine R_loopO (fun m st h' => ∃ a : Nat, m ≤ 12 ∧ st = [(0, .int .i64 m), (3, .int .i64 a)] ∧ h' = h ∧ a * fact m = fact n) (fun I hI m st h' => ?_) (n := n) ⟨1, hn, by simp, rfl, Nat.one_mul _⟩
  rintro ⟨a, hm, rfl, rfl, ha⟩
  have hb : fact n ≤ 479001600 := Nat.le_trans (fact_mono hn) (by decide)
  by_cases c : 1 < m
  · have c' : (1 : Int) < m := by omega
    obtain ⟨q, rfl⟩ : ∃ q, m = q + 1 := ⟨m - 1, by omega⟩
    have hq : 1 ≤ fact q := by have := fact_mono (Nat.zero_le q); exact this
    rw [fact, ← Nat.mul_assoc] at ha
    have hle : a * (q + 1) ≤ fact n := by rw [← ha]; exact Nat.le_mul_of_pos_right _ hq
    have w1 : IntKind.i64.wrap ((a : Int) * ((q : Int) + 1)) = ((a * (q + 1) : Nat) : Int) := by
      rw [Int.natCast_mul, Int.natCast_add]
      have h3 : ((a * (q + 1) : Nat) : Int) = (a : Int) * ((q : Int) + 1) := by rw [Int.natCast_mul, Int.natCast_add]; rfl
      rw [wrap_ok] <;> first | rfl | omega
    have w2 : IntKind.i64.wrap (q : Int) = (q : Int) := by rw [wrap_ok] <;> omega
    have c2 : (1 : Int) < (q : Int) + 1 := by omega
    simp -implicitDefEqProofs [c, c2, w1, w2]
    refine ⟨q, by omega, on hI ⟨a * (q + 1), by omega, ?_, rfl, ha⟩⟩
    simp
  · have c' : ¬ (1 : Int) < m := by omega
    have e : a = fact n := by
      have : fact m = 1 := by
        match m, c with
        | 0, _ => rfl
        | 1, _ => rfl
        | m + 2, c => omega
      rw [this, Nat.mul_one] at ha; exact ha
    simp -implicitDefEqProofs [c, c', e]
/-! ### what is begun and what is best, in memory -/
def lI (b : BO) : Int := match b with
  | none => -1
  | some p => p.2
def bxL (p q : Nat) (vb : Value) (l : Int) : List Asn := [.box p [vb], .box q [.int .i64 l]]
def liA (v : Value) (us : List Value) (oss : List (List Int)) : List Asn := [.own v 1 (us.map encV)] ++ inL encI 1 us oss
structure Ctx (hb : Hp) (r5 : Nat) (vr vo vt vi : Value) (s : Shop) : Prop where
  S : SAt hb vr s
  F : FAt hb vo vt vi (flatF s)
  b5 : hb[r5]? = some (some ⟨[vo, vt, vi], 0, false⟩)
  g : goodS s = true
def Fr (hb h h' : Hp) (p q : Nat) (vb : Value) (l : Int) (vb' : Value) (l' : Int) : Prop := ∀ L, Holds hb h (bxL p q vb l ++ L) → Holds hb h' (bxL p q vb' l' ++ L)
theorem liA_at {hb h : Hp} {A L : List Asn} {v : Value} {us : List Value} {oss : List (List Int)} (H : Holds hb h (A ++ (liA v us oss ++ L))) (hl : us.length = oss.length) : Nest h v encI 1 oss us := by
  have H' : Holds hb h ((A ++ [.own v 1 (us.map encV)]) ++ (inL encI 1 us oss ++ L)) := by
    have := H
    unfold liA at this
    simpa [List.append_assoc] using this
  exact Holds.nest (o := A.length) H' (by rw [List.getElem?_append_right (Nat.le_refl _), Nat.sub_self]; rfl) hl
theorem upd_none {s : Shop} {b : BO} {oss : List (List Int)} (h : (headsO s oss).isSome = false) : updB s b oss = b := by
  unfold updB; rw [if_neg fun g => by rw [h] at g; exact absurd g.1 (by simp)]
/-- The program's look at a selection. -/
theorem tell_run {hb h : Hp} {p q r5 : Nat} {vr vo vt vi vb vg : Value} {s : Shop} {us : List Value} {begun : List (List Int)} {b : BO} (C : Ctx hb r5 vr vo vt vi s) (H : Holds hb h (bxL p q vb (lI b) ++ (liA vg us begun ++ []))) (hl : us.length = begun.length)
    (hm : (begun.length : Int) = s.m) (hsu : SelUp s begun) (hlb : ∀ x, b = some x → 0 ≤ x.2) (hvb : ∃ a n c, vb = .slice a n c) :
    RunsC P G n_impl_bestSelection_1 [vg, .pointer (some ⟨r5, 0, some 3⟩), .pointer (some ⟨q, 0, some 1⟩), .pointer (some ⟨p, 0, some 1⟩)] h fun v h' =>
      (∀ x, updB s b begun = some x → 0 ≤ x.2) ∧ ((updB s b begun = b ∧ Fr hb h h' p q vb (lI b) vb (lI b)) ∨ (bO (updB s b begun) = begun ∧ Fr hb h h' p q vb (lI b) vg (lI (updB s b begun)))) := by
  refine hideC fun K hK => enter_run e_impl_bestSelection_1 (by simp) ?_
  obtain ⟨b1, b2, b3, rfl⟩ := hvb
  have c3 := upd_ok C.g hm hsu
  obtain ⟨_, _, hsl⟩ := sel2_iff.1 c3
  have hm4 := good_n C.g
  have cnt := up_cnt C.g hsu (by omega)
  have O : OAt h vg begun := ⟨⟨us, liA_at H hl⟩, by omega, by omega⟩
  have Os := O
  obtain ⟨og, cg, rfl⟩ := O.shape
  have ao := AsOk.of C.g hsl Os.tot
  have hN : (opsL s).length ≤ 12 := by rw [ops_len]; exact (good_n C.g).1
  have ql : (qsL begun).length ≤ 2 ^ 20 := by
    rw [qsL, List.length_map]
    exact Nat.le_trans arcs_len Os.tot
  have hO : headsO s begun = rounds (hArcs (tsL s) (qsL begun ++ nxN s)) ((opsL s).length + 1) (zerosN (opsL s).length) := by rw [headsO, if_pos c3, heads_same ao]
  have hpre : hb <+: h := H.pre
  have l5 : ∀ {h'}, hb <+: h' → ∀ t, loadP P h' t (.pointer (some ⟨r5, 0, some 3⟩)) = rowLoad P t ⟨[vo, vt, vi], 0, false⟩ 0 := fun {h'} hp t => by
    have h5 : h'[r5]? = some (some ⟨[vo, vt, vi], 0, false⟩) := by
      obtain ⟨l, rfl⟩ := hp
      rw [List.getElem?_append_left (List.getElem?_eq_some_iff.1 C.b5).1]; exact C.b5
    rw [loadP_eq]
    simp only [rowAt, h5, List.length_cons, List.length_nil, Nat.zero_add, Nat.reduceAdd, if_true, Option.bind_some]
  obtain ⟨f1, f2, f3, rfl⟩ : ∃ a n c, vo = .slice a n c := by obtain ⟨a, c, e⟩ := C.F.o.shape; exact ⟨_, _, _, e⟩
  obtain ⟨f4, f5, f6, rfl⟩ : ∃ a n c, vt = .slice a n c := by obtain ⟨a, c, e⟩ := C.F.r.shape; exact ⟨_, _, _, e⟩
  obtain ⟨f7, f8, f9, rfl⟩ : ∃ a n c, vi = .slice a n c := by obtain ⟨a, c, e⟩ := C.F.i.shape; exact ⟨_, _, _, e⟩
  simp -implicitDefEqProofs [l5 hpre]
  refine CH_post (arcsOf_run Os).new fun va h2 ⟨⟨hp2, oa2⟩, hn2⟩ => ⟨hn2 hp2, ?_⟩
  have A2 : Prs h2 va ((qsL begun).map cP) := by rw [qsL_map hsl]; exact oa2.sees
  simp -implicitDefEqProofs
  refine CH_post (headsWith_run (C.F.pre (hpre.trans hp2)) A2 ao.swap (by omega)).new fun v h4 ⟨⟨hp4, vs, hv, ow⟩, hn4⟩ => ⟨hn4 hp4, ?_⟩
  subst hv
  rw [← hO] at ow ⊢
  obtain ⟨e1, e2, e3, rfl⟩ : ∃ a n c, vs = .slice a n c := by obtain ⟨a, c, e⟩ := ow.sees.shape; exact ⟨_, _, _, e⟩
  have p4 := hp2.trans hp4
  have keep : ∀ v, plain v = true → Fr hb h (gc h h4 v) p q (.slice b1 b2 b3) (lI b) (.slice b1 b2 b3) (lI b) := fun v hv L HL => by rw [gcP p4 hv]; exact HL
  cases hh : headsO s begun with
  | none =>
    have ub : updB s b begun = b := upd_none (by rw [hh]; rfl)
    rw [ub] at hK
    simp -implicitDefEqProofs
    exact onK hK ⟨hlb, .inl ⟨rfl, keep _ (by simp [plain])⟩⟩
  | some hs =>
    rw [hh] at ow
    have hhd := heads_at ao (by rw [← heads_same ao, ← hO]; exact hh)
    have hln := length_same ao hhd
    have F4 := C.F.pre (hpre.trans p4)
    have mxb : 0 ≤ mx (tailsL s (psL s begun)) ∧ mx (tailsL s (psL s begun)) ≤ 2 ^ 60 := ⟨(foldl_max_ge _ 0).1, by have := tails_bd ao; omega⟩
    have rb := boundOf_run (us := hs) F4 ow.sees (by show hs.length = (opsL s).length; exact hhd.len) (by rw [hhd.len]; omega) (fun x hx => by
      obtain ⟨i, hi, rfl⟩ := mem_gN hx
      refine ⟨hhd.pos i, ?_⟩
      have h1 := hhd.sum (tails_at ao hhd) i
      have h2 := (tails_at ao hhd).up i
      have h3 := ao.pok.nonneg i
      have h4 := mxb.2
      omega) (fun y hy => by have := good_t C.g y hy; omega)
    rw [show (flatF s).ops.map (·.t) = tsL s from rfl, hln] at rb
    have H4 := H.ext p4
    have lq : ∀ t, loadP P h4 t (.pointer (some ⟨q, 0, some 1⟩)) = rowLoad P t ⟨[.int .i64 (lI b)], 0, false⟩ 0 := fun t => H4.bl 1 1 rfl rfl t 0
    obtain ⟨l, hlv⟩ : ∃ l, l = mx (tailsL s (psL s begun)) := ⟨_, rfl⟩
    rw [← hlv] at rb mxb
    -- better
    obtain ⟨h5, s5, H5, k5⟩ := H4.set (P := P) 0 (n := 1) (o := 0) (ty := t_S_S_int) (w := .slice og begun.length cg) rfl rfl e_t_S_S_int (by simp) (by simp) (by simp)
    obtain ⟨h6, s6, H6, k6⟩ := H5.set (P := P) 1 (n := 1) (o := 0) (ty := t_int) (w := .int .i64 l) rfl rfl e_t_int (by simp) (by simp) (by simp)
    have better : updB s b begun = some (begun, l) → ∀ v, Fr hb h (gc h h6 v) p q (.slice b1 b2 b3) (lI b) (.slice og begun.length cg) (lI (updB s b begun)) := fun e v L HL => by
      obtain ⟨h5', s5', H5', _⟩ := (HL.ext p4).set (P := P) 0 (n := 1) (o := 0) (ty := t_S_S_int) (w := .slice og begun.length cg) rfl rfl e_t_S_S_int (by simp) (by simp) (by simp)
      rw [s5] at s5'
      cases s5'
      obtain ⟨h6', s6', H6', _⟩ := H5'.set (P := P) 1 (n := 1) (o := 0) (ty := t_int) (w := .int .i64 l) rfl rfl e_t_int (by simp) (by simp) (by simp)
      rw [s6] at s6'
      cases s6'
      rw [e]
      exact HL.gcR (L' := bxL p q (.slice og begun.length cg) l ++ L) H6' rfl
    have up1 : (∀ x, b = some x → l < x.2) → updB s b begun = some (begun, l) := fun g => by
      unfold updB
      rw [← hlv, if_pos ⟨by rw [hh]; rfl, g⟩]
    have up0 : ¬ (∀ x, b = some x → l < x.2) → updB s b begun = b := fun g => by
      unfold updB
      rw [← hlv, if_neg fun k => g k.2]
    simp -implicitDefEqProofs [l5 (hpre.trans p4), CL_ret rb, lq]
    cases b with
    | none =>
      have e := up1 (by simp)
      have i0 : lI none < 0 := by simp [lI]
      simp -implicitDefEqProofs [i0, s5, s6]
      exact onK hK ⟨fun x hx => by rw [e] at hx; cases hx; exact mxb.1, .inr ⟨by rw [e]; rfl, better e _⟩⟩
    | some x =>
      have hx0 := hlb x rfl
      have i0 : ¬ lI (some x) < 0 := by simp only [lI]; omega
      by_cases c4 : l < x.2
      · have e := up1 (fun y hy => by cases hy; exact c4)
        have c4' : l < lI (some x) := c4
        simp -implicitDefEqProofs [i0, lq, c4', s5, s6]
        exact onK hK ⟨fun x hx => by rw [e] at hx; cases hx; exact mxb.1, .inr ⟨by rw [e]; rfl, better e _⟩⟩
      · have e := up0 (fun g => c4 (g x rfl))
        have c4' : ¬ l < lI (some x) := c4
        rw [e] at hK
        simp -implicitDefEqProofs [i0, lq, c4']
        exact onK hK ⟨hlb, .inl ⟨rfl, keep _ (by simp [plain])⟩⟩
end Go.Pm.PP
