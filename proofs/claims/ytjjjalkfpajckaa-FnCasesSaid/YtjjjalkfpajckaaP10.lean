/- The texts PwZk, PwZl, PwZm, PwZo, PwZq, PwK of this work: Cases accepted: the reference. -/
import Derived.ProofKit
import Derived.OpenShut
import Derived.Carry
import Derived.Test.YtjjjalkfpajckaaP9
import Derived.Test.YtjjjalkfpajckaaP8
import Derived.Test.YtjjjalkfpajckaaM4
/- Cases accepted: the reference. -/
set_option linter.unusedVariables false
set_option linter.unusedSimpArgs false
set_option maxRecDepth 4000
set_option maxHeartbeats 32000000
namespace Go.Pm.PP
open Go.Pm Go.Proofs Go.Pm.PE
theorem cov_head {n k : Nat} {B : List Int} {cs rest : List (List Int)} (hk : B.length + k = n) (hnd : B.Nodup) (hin : inN n B) (h : cov n k B cs = some rest) : ∃ c r L, cs = c :: r ∧ B <+: c ∧ cs = L ++ rest := by
  obtain ⟨L, a1, a2, _, a4, _⟩ := cov_sound hk hnd hin h
  cases L with
  | nil => have := fct_pos (n := k); simp [sumF] at a4; omega
  | cons c L => exact ⟨c, L ++ rest, c :: L, a1, a2 c (List.mem_cons_self ..), a1⟩
def skF (n k : Nat) (B : List Int) (o : Option (List (List Int))) (x : Nat) : Option (List (List Int)) := if (!hasL (x : Int) B) = true then o.bind (fun cs => cov n k (B ++ [(x : Int)]) cs) else o
theorem sk_none {n k : Nat} {B : List Int} : ∀ {l : List Nat}, l.foldl (skF n k B) none = none
  | [] => rfl
  | x :: l => by
    rw [List.foldl_cons, show skF n k B none x = none by unfold skF; split <;> rfl]
    exact sk_none
theorem cov_sk {n k : Nat} {B : List Int} {cs : List (List Int)} (h : ¬ cs.head? = some B) : cov n (k + 1) B cs = (List.range' 0 n).foldl (skF n k B) (some cs) := by
  rw [cov, if_neg h]
  unfold rem
  rw [List.foldl_filter, List.foldl_map]
  rfl
def cvR (x : Option (List (List Int))) (v : Value) (h' : Hp) : Prop := ∃ (w : Value) (a : Option Addr) (n c : Nat), w = .slice a n c ∧ v = .tuple #[w, .bool x.isSome] ∧ ∀ rest, x = some rest → n = rest.length ∧ ∃ ws, Nest h' w encI 1 rest ws
theorem cvN {h h' : Hp} {a : Option Addr} {n c : Nat} (hp : h <+: h') : h <+: gc h h' (.tuple #[.slice a n c, .bool false]) ∧ cvR none (.tuple #[.slice a n c, .bool false]) (gc h h' (.tuple #[.slice a n c, .bool false])) :=
  ⟨pre_gcU hp, _, a, n, c, rfl, rfl, fun _ g => by cases g⟩
theorem cvS {h h' : Hp} {a : Option Addr} {c : Nat} {rest : List (List Int)} {ws : List Value} (hp : h <+: h') (N : Nest h' (.slice a rest.length c) encI 1 rest ws) : h <+: gc h h' (.tuple #[.slice a rest.length c, .bool true]) ∧ cvR (some rest) (.tuple #[.slice a rest.length c, .bool true]) (gc h h' (.tuple #[.slice a rest.length c, .bool true])) :=
  ⟨pre_gcU hp, _, a, _, c, rfl, rfl, fun r g => by cases g; exact ⟨rfl, ws, nest_gc (r := [.bool true]) N⟩⟩
theorem cvN0 {h : Hp} {a : Option Addr} {n c : Nat} : h <+: h ∧ cvR none (.tuple #[.slice a n c, .bool false]) h := ⟨List.prefix_rfl, _, a, n, c, rfl, rfl, fun _ g => by cases g⟩
theorem cvS0 {h : Hp} {a : Option Addr} {c : Nat} {rest : List (List Int)} {ws : List Value} (N : Nest h (.slice a rest.length c) encI 1 rest ws) : h <+: h ∧ cvR (some rest) (.tuple #[.slice a rest.length c, .bool true]) h :=
  ⟨List.prefix_rfl, _, a, _, c, rfl, rfl, fun r g => by cases g; exact ⟨rfl, ws, N⟩⟩
section
variable {js : List Job} {k : Nat} {h : Hp} {vj vb vc : Value} {B : List Int} {cs : List (List Int)} {us : List Value}
theorem covers_hd (J : Jobs h vj js) (Bv : Ints h vb B) (N : Nest h vc encI 1 cs us) (hcl : cs.length ≤ 2 ^ 30) (hcb : ∀ c, c ∈ cs → c.length ≤ 2 ^ 30) (hB : B.length ≤ 8) (hd : cs.head? = some B) :
    RunsC P G n_spec_l5Covers [vj, vb, vc] h fun v h' => h <+: h' ∧ cvR (cov js.length k B cs) v h' := by
  have e : cov js.length k B cs = some cs.tail := by cases k <;> rw [cov, if_pos hd]
  rw [e]
  refine hideC fun K hK => enter_run e_spec_l5Covers (by simp) ?_
  have Js := J
  have Bs := Bv
  have Ns := N
  obtain ⟨oj, cj, rfl⟩ := J.shapeT
  obtain ⟨ob, cb, rfl⟩ := Bv.shapeT
  obtain ⟨oc, cc, rfl⟩ := N.shape
  have h0 := head_split hd
  generalize cs.tail = r at h0 hK
  obtain ⟨uc, huc, Sc⟩ := Ns.at (i := 0) (xs := B) (by rw [h0]; rfl)
  have lc := load_N (Ns.out : Sees h _ 1 (us.map encV)) huc
  simp only [Int.natCast_zero] at lc
  have Sc : Ints h uc B := Sc
  have r1 := l1Same_run Sc Bs (by omega) (by omega)
  obtain ⟨xa, xn, xc, rfl⟩ : ∃ a n k, uc = .slice a n k := by obtain ⟨a, k, e⟩ := Sc.shapeT; exact ⟨_, _, _, e⟩
  have lp : (0 : Int) < cs.length := by rw [h0, List.length_append, List.length_singleton]; omega
  have lp' : 0 < cs.length := by omega
  have hne : ¬ cs = [] := fun e => by rw [e] at lp'; simp at lp'
  obtain ⟨w, hs, hw, _⟩ := Ns.out.back (P := P) (ty := t_S_S_int) u_S_S_int i_S_int (k := .i64) (j := 1) (by omega) (by have := Ns.len; rw [List.length_map]; omega)
  have T : Nest h w encI 1 r (us.drop 1) := Nest.tail (c := B) (h0 ▸ Ns) hw
  obtain ⟨wa, wc, rfl⟩ := T.shape
  have e1 : (B == B) = true := by simp
  rw [e1] at r1
  simp -implicitDefEqProofs [-indexAddrP_some, lp, lp', hne, lc, CL_ret r1, CH_at r1, hs]
  exact onK hK (cvS0 T)
theorem covers_leaf (J : Jobs h vj js) (Bv : Ints h vb B) (N : Nest h vc encI 1 cs us) (hcl : cs.length ≤ 2 ^ 30) (hcb : ∀ c, c ∈ cs → c.length ≤ 2 ^ 30) (hB : B.length ≤ 8) (hd : ¬ cs.head? = some B) (hBl : B.length = js.length) :
    RunsC P G n_spec_l5Covers [vj, vb, vc] h fun v h' => h <+: h' ∧ cvR none v h' := by
  refine hideC fun K hK => enter_run e_spec_l5Covers (by simp) ?_
  have Js := J
  have Bs := Bv
  have Ns := N
  obtain ⟨oj, cj, rfl⟩ := J.shapeT
  obtain ⟨ob, cb, rfl⟩ := Bv.shapeT
  obtain ⟨oc, cc, rfl⟩ := N.shape
  have hcase : cs = [] ∨ ∃ c r, cs = c :: r := by cases cs with
    | nil => exact .inl rfl
    | cons c r => exact .inr ⟨c, r, rfl⟩
  rcases hcase with h0 | ⟨c, r, h0⟩
  · have l0 : cs.length = 0 := by rw [h0]; rfl
    simp -implicitDefEqProofs [l0, hBl]
    exact onK hK cvN0
  · obtain ⟨uc, huc, Sc⟩ := Ns.at (i := 0) (xs := c) (by rw [h0]; rfl)
    have lc := load_N (Ns.out : Sees h _ 1 (us.map encV)) huc
    simp only [Int.natCast_zero] at lc
    have Sc : Ints h uc c := Sc
    have bc := hcb c (by rw [h0]; exact List.mem_cons_self ..)
    have r1 := l1Same_run Sc Bs (by omega) (by omega)
    obtain ⟨xa, xn, xc, rfl⟩ : ∃ a n k, uc = .slice a n k := by obtain ⟨a, k, e⟩ := Sc.shapeT; exact ⟨_, _, _, e⟩
    have c1 : ¬ c = B := fun e => hd (by rw [h0, e]; rfl)
    have e1 : (c == B) = false := by rw [beq_eq_false_iff_ne]; exact c1
    have lp : (0 : Int) < cs.length := by rw [h0, List.length_cons]; omega
    have lp' : 0 < cs.length := by omega
    have hne : ¬ cs = [] := fun e => by rw [e] at lp'; simp at lp'
    rw [e1, hBl] at r1
    simp -implicitDefEqProofs [-indexAddrP_some, lp, lp', hne, lc, CL_ret r1, CH_at r1, hBl]
    exact onK hK cvN0
end
theorem l5Covers_run {js : List Job} (hn : js.length ≤ 8) : ∀ {k : Nat} {h : Hp} {vj vb vc : Value} {B : List Int} {cs : List (List Int)} {us : List Value}, Jobs h vj js → Ints h vb B → Nest h vc encI 1 cs us → cs.length ≤ 2 ^ 30 → (∀ c, c ∈ cs → c.length ≤ 2 ^ 30) → B.length + k = js.length → inN js.length B → B.Nodup →
    RunsC P G n_spec_l5Covers [vj, vb, vc] h fun v h' => h <+: h' ∧ cvR (cov js.length k B cs) v h' := by
  intro k
  induction k with
  | zero =>
    intro h vj vb vc B cs us J Bv N hcl hcb hk hin hnd
    by_cases hd : cs.head? = some B
    · exact covers_hd J Bv N hcl hcb (by omega) hd
    · rw [cov, if_neg hd]
      exact covers_leaf J Bv N hcl hcb (by omega) hd (by omega)
  | succ k ih =>
    intro h vj vb vc B cs us J Bv N hcl hcb hk hin hnd
    by_cases hd : cs.head? = some B
    · exact covers_hd J Bv N hcl hcb (by omega) hd
    refine hideC fun K hK => enter_run e_spec_l5Covers (by simp) ?_
    have Js := J
    have Bs := Bv
    have Ns := N
    obtain ⟨oj, cj, rfl⟩ := J.shapeT
    obtain ⟨ob, cb, rfl⟩ := Bv.shapeT
    obtain ⟨oc, cc, rfl⟩ := N.shape
    have hBl' : ((B.length : Int) == (js.length : Int)) = false := by rw [beq_eq_false_iff_ne]; omega
    have hBn : ¬ B.length = js.length := by omega
    rw [cov_sk hd] at hK
    generalize hX : (List.range' 0 js.length).foldl (skF js.length k B) (some cs) = X at hK
    have hcase : cs = [] ∨ ∃ c r, cs = c :: r := by cases cs with
      | nil => exact .inl rfl
      | cons c r => exact .inr ⟨c, r, rfl⟩
    have nil_none : ∀ i : Nat, i < js.length → hasL (i : Int) B = false → ∀ cs' : List (List Int), (cs' = [] ∨ ∃ c r, cs' = c :: r ∧ ¬ B <+: c) → cov js.length k (B ++ [(i : Int)]) cs' = none := fun i hi hh cs' hc => by
      have hni : (i : Int) ∉ B := fun g => by rw [hasL_iff'.2 g] at hh; cases hh
      cases e : cov js.length k (B ++ [(i : Int)]) cs' with
      | none => rfl
      | some rest =>
        obtain ⟨c, r, _, e1, e2, _⟩ := cov_head (by rw [List.length_append, List.length_singleton]; omega) (nd_snoc hnd hni) (in_snoc hin hi) e
        rcases hc with g | ⟨c', r', g, g2⟩
        · rw [g] at e1; cases e1
        · rw [g] at e1
          have := (List.cons.inj e1).1
          exact absurd ((List.prefix_append B [(i : Int)]).trans e2) (this ▸ g2)
    rcases hcase with h0 | ⟨c, r, h0⟩
    · have l0 : cs.length = 0 := by rw [h0]; rfl
      have lp : ¬ (0 : Int) < cs.length := by omega
      have lp' : ¬ 0 < cs.length := by omega
      have hne : cs = [] := h0
      simp -implicitDefEqProofs [lp, lp', hBn, hBl']
      refine R_loopO (fun m s h' => ∃ (i : Nat) (cs' : List (List Int)) (us' : List Value) (a : Option Addr) (c' : Nat), i + m = js.length ∧ s = [(0, .slice oj js.length cj), (1, .slice ob B.length cb), (2, .slice a cs'.length c'), (8, .int .i64 i)] ∧ h <+: h' ∧ Nest h' (.slice a cs'.length c') encI 1 cs' us' ∧ cs'.length ≤ 2 ^ 30 ∧ (∀ c, c ∈ cs' → c.length ≤ 2 ^ 30) ∧ X = (List.range' i m).foldl (skF js.length k B) (some cs')) (fun I hI m s h' => ?_) (n := js.length) ⟨0, cs, us, oc, cc, Nat.zero_add _, by simp, List.prefix_rfl, Ns, hcl, hcb, hX.symm⟩
      rintro ⟨i, cs', us', a, c', hi, rfl, hp, N', hl', hb', hx⟩
      by_cases hlt : i < js.length
      · obtain ⟨m', rfl⟩ : ∃ m', m = m' + 1 := ⟨m - 1, by omega⟩
        rw [List.range'_succ, List.foldl_cons] at hx
        have hlt' : (i : Int) < js.length := by omega
        have rh := l1Has_run (x := (i : Int)) (Bs.pre hp) (by omega)
        have wi := winc hlt (show js.length ≤ 2 ^ 40 by omega)
        cases c3 : hasL (i : Int) B
        · have e : skF js.length k B (some cs') i = cov js.length k (B ++ [(i : Int)]) cs' := by unfold skF; rw [c3]; rfl
          have hni : (i : Int) ∉ B := fun g => by rw [hasL_iff'.2 g] at c3; cases c3
          rw [e] at hx
          have stop : cov js.length k (B ++ [(i : Int)]) cs' = none → X = none := fun g => by rw [hx, g]; exact sk_none
          have hcase' : cs' = [] ∨ ∃ c r, cs' = c :: r := by cases cs' with
            | nil => exact .inl rfl
            | cons c r => exact .inr ⟨c, r, rfl⟩
          rcases hcase' with h1 | ⟨d, r', h1⟩
          · have hX' := stop (nil_none i hlt c3 cs' (.inl h1))
            have l1 : cs'.length = 0 := by rw [h1]; rfl
            rw [hX'] at hK
            simp -implicitDefEqProofs [hlt, hlt', CL_ret rh, CH_at rh, c3, l1]
            exact onK hK (cvN hp)
          · obtain ⟨ud, hud, Sd⟩ := N'.at (i := 0) (xs := d) (by rw [h1]; rfl)
            have ld := load_N (N'.out : Sees h' _ 1 (us'.map encV)) hud
            simp only [Int.natCast_zero] at ld
            have Sd : Ints h' ud d := Sd
            have bd := hb' d (by rw [h1]; exact List.mem_cons_self ..)
            have rb := l5Begins_run Sd (Bs.pre hp) (by omega) (by omega)
            obtain ⟨ya, yn, yc, rfl⟩ : ∃ a n k, ud = .slice a n k := by obtain ⟨a, k, e⟩ := Sd.shapeT; exact ⟨_, _, _, e⟩
            have q1 : ¬ cs' = [] := fun e => by rw [e] at h1; cases h1
            have q2 : ((cs'.length : Int) == 0) = false := nb (by rw [h1, List.length_cons]; omega)
            have q3 : ¬ cs'.length = 0 := by rw [h1, List.length_cons]; omega
            cases c4 : begB d B
            · have hX' := stop (nil_none i hlt c3 cs' (.inr ⟨d, r', h1, fun g => by rw [begB_iff.2 g] at c4; cases c4⟩))
              rw [hX'] at hK
              simp -implicitDefEqProofs [-indexAddrP_some, hlt, hlt', CL_ret rh, CH_at rh, c3, q1, q2, q3, ld, CL_ret rb, CH_at rb, c4]
              exact onK hK (cvN hp)
            · simp -implicitDefEqProofs [-indexAddrP_some, hlt, hlt', CL_ret rh, CH_at rh, c3, q1, q2, q3, ld, CL_ret rb, CH_at rb, c4]
              refine CL_post (l1Own_run (Bs.pre hp) (by omega)) fun v5 h5 ⟨hp5, ho5⟩ => ?_
              have H5 : Holds h' h5 [.own v5 1 (B.map encI)] := (Holds.start (h := h')).call hp5 ho5
              obtain ⟨v6, h6, ha6, H6, k6, _⟩ := push_I0 H5 0 rfl (i : Int) (by omega)
              have H6' : Holds h' h6 [.own v6 1 ((B ++ [(i : Int)]).map encI)] := H6
              have rr := ih (B := B ++ [(i : Int)]) (cs := cs') (us := us') (Js.pre (hp.trans H6'.pre)) (H6'.sees 0 rfl) (N'.pre H6'.pre) hl' hb' (by simp; omega) (in_snoc hin hlt) (nd_snoc hnd hni)
              simp -implicitDefEqProofs [ha6]
              refine CL_post rr fun v7 h7 ⟨hp7, w, wa, wn, wc, ew, ev, hr⟩ => ?_
              subst ew
              subst ev
              have p7 := (hp.trans H6'.pre).trans hp7
              cases e7 : cov js.length k (B ++ [(i : Int)]) cs' with
              | none =>
                rw [stop e7] at hK
                simp -implicitDefEqProofs
                exact onK hK (cvN p7)
              | some rest =>
                obtain ⟨rfl, ws, Nw⟩ := hr rest e7
                obtain ⟨_, _, L, _, _, eL⟩ := cov_head (by rw [List.length_append, List.length_singleton]; omega) (nd_snoc hnd hni) (in_snoc hin hlt) e7
                rw [e7] at hx
                simp -implicitDefEqProofs [wi]
                exact ⟨m', by omega, on hI ⟨i + 1, rest, ws, wa, wc, by omega, rfl, p7, Nw, by rw [eL, List.length_append] at hl'; omega, fun c hc => hb' c (by rw [eL]; exact List.mem_append_right _ hc), hx⟩⟩
        · have e : skF js.length k B (some cs') i = some cs' := by unfold skF; rw [c3]; rfl
          rw [e] at hx
          simp -implicitDefEqProofs [hlt, hlt', CL_ret rh, CH_at rh, c3, wi]
          exact ⟨m', by omega, on hI ⟨i + 1, cs', us', a, c', by omega, rfl, hp, N', hl', hb', hx⟩⟩
      · have hlt' : ¬ (i : Int) < js.length := by omega
        have hm : m = 0 := by omega
        subst hm
        rw [List.range'_zero, List.foldl_nil] at hx
        rw [hx] at hK
        simp -implicitDefEqProofs [hlt, hlt']
        exact onK hK (cvS hp N')
    · obtain ⟨uc, huc, Sc⟩ := Ns.at (i := 0) (xs := c) (by rw [h0]; rfl)
      have lc := load_N (Ns.out : Sees h _ 1 (us.map encV)) huc
      simp only [Int.natCast_zero] at lc
      have Sc : Ints h uc c := Sc
      have bc := hcb c (by rw [h0]; exact List.mem_cons_self ..)
      have r1 := l1Same_run Sc Bs (by omega) (by omega)
      obtain ⟨xa, xn, xc, rfl⟩ : ∃ a n k, uc = .slice a n k := by obtain ⟨a, k, e⟩ := Sc.shapeT; exact ⟨_, _, _, e⟩
      have c1 : ¬ c = B := fun e => hd (by rw [h0, e]; rfl)
      have e1 : (c == B) = false := by rw [beq_eq_false_iff_ne]; exact c1
      have lp : (0 : Int) < cs.length := by rw [h0, List.length_cons]; omega
      have lp' : 0 < cs.length := by omega
      have hne : ¬ cs = [] := fun e => by rw [e] at lp'; simp at lp'
      rw [e1] at r1
      simp -implicitDefEqProofs [-indexAddrP_some, lp, lp', hne, lc, CL_ret r1, CH_at r1, hBn, hBl']
      refine R_loopO (fun m s h' => ∃ (i : Nat) (cs' : List (List Int)) (us' : List Value) (a : Option Addr) (c' : Nat), i + m = js.length ∧ s = [(0, .slice oj js.length cj), (1, .slice ob B.length cb), (2, .slice a cs'.length c'), (8, .int .i64 i)] ∧ h <+: h' ∧ Nest h' (.slice a cs'.length c') encI 1 cs' us' ∧ cs'.length ≤ 2 ^ 30 ∧ (∀ c, c ∈ cs' → c.length ≤ 2 ^ 30) ∧ X = (List.range' i m).foldl (skF js.length k B) (some cs')) (fun I hI m s h' => ?_) (n := js.length) ⟨0, cs, us, oc, cc, Nat.zero_add _, by simp, List.prefix_rfl, Ns, hcl, hcb, hX.symm⟩
      rintro ⟨i, cs', us', a, c', hi, rfl, hp, N', hl', hb', hx⟩
      by_cases hlt : i < js.length
      · obtain ⟨m', rfl⟩ : ∃ m', m = m' + 1 := ⟨m - 1, by omega⟩
        rw [List.range'_succ, List.foldl_cons] at hx
        have hlt' : (i : Int) < js.length := by omega
        have rh := l1Has_run (x := (i : Int)) (Bs.pre hp) (by omega)
        have wi := winc hlt (show js.length ≤ 2 ^ 40 by omega)
        cases c3 : hasL (i : Int) B
        · have e : skF js.length k B (some cs') i = cov js.length k (B ++ [(i : Int)]) cs' := by unfold skF; rw [c3]; rfl
          have hni : (i : Int) ∉ B := fun g => by rw [hasL_iff'.2 g] at c3; cases c3
          rw [e] at hx
          have stop : cov js.length k (B ++ [(i : Int)]) cs' = none → X = none := fun g => by rw [hx, g]; exact sk_none
          have hcase' : cs' = [] ∨ ∃ c r, cs' = c :: r := by cases cs' with
            | nil => exact .inl rfl
            | cons c r => exact .inr ⟨c, r, rfl⟩
          rcases hcase' with h1 | ⟨d, r', h1⟩
          · have hX' := stop (nil_none i hlt c3 cs' (.inl h1))
            have l1 : cs'.length = 0 := by rw [h1]; rfl
            rw [hX'] at hK
            simp -implicitDefEqProofs [hlt, hlt', CL_ret rh, CH_at rh, c3, l1]
            exact onK hK (cvN hp)
          · obtain ⟨ud, hud, Sd⟩ := N'.at (i := 0) (xs := d) (by rw [h1]; rfl)
            have ld := load_N (N'.out : Sees h' _ 1 (us'.map encV)) hud
            simp only [Int.natCast_zero] at ld
            have Sd : Ints h' ud d := Sd
            have bd := hb' d (by rw [h1]; exact List.mem_cons_self ..)
            have rb := l5Begins_run Sd (Bs.pre hp) (by omega) (by omega)
            obtain ⟨ya, yn, yc, rfl⟩ : ∃ a n k, ud = .slice a n k := by obtain ⟨a, k, e⟩ := Sd.shapeT; exact ⟨_, _, _, e⟩
            have q1 : ¬ cs' = [] := fun e => by rw [e] at h1; cases h1
            have q2 : ((cs'.length : Int) == 0) = false := nb (by rw [h1, List.length_cons]; omega)
            have q3 : ¬ cs'.length = 0 := by rw [h1, List.length_cons]; omega
            cases c4 : begB d B
            · have hX' := stop (nil_none i hlt c3 cs' (.inr ⟨d, r', h1, fun g => by rw [begB_iff.2 g] at c4; cases c4⟩))
              rw [hX'] at hK
              simp -implicitDefEqProofs [-indexAddrP_some, hlt, hlt', CL_ret rh, CH_at rh, c3, q1, q2, q3, ld, CL_ret rb, CH_at rb, c4]
              exact onK hK (cvN hp)
            · simp -implicitDefEqProofs [-indexAddrP_some, hlt, hlt', CL_ret rh, CH_at rh, c3, q1, q2, q3, ld, CL_ret rb, CH_at rb, c4]
              refine CL_post (l1Own_run (Bs.pre hp) (by omega)) fun v5 h5 ⟨hp5, ho5⟩ => ?_
              have H5 : Holds h' h5 [.own v5 1 (B.map encI)] := (Holds.start (h := h')).call hp5 ho5
              obtain ⟨v6, h6, ha6, H6, k6, _⟩ := push_I0 H5 0 rfl (i : Int) (by omega)
              have H6' : Holds h' h6 [.own v6 1 ((B ++ [(i : Int)]).map encI)] := H6
              have rr := ih (B := B ++ [(i : Int)]) (cs := cs') (us := us') (Js.pre (hp.trans H6'.pre)) (H6'.sees 0 rfl) (N'.pre H6'.pre) hl' hb' (by simp; omega) (in_snoc hin hlt) (nd_snoc hnd hni)
              simp -implicitDefEqProofs [ha6]
              refine CL_post rr fun v7 h7 ⟨hp7, w, wa, wn, wc, ew, ev, hr⟩ => ?_
              subst ew
              subst ev
              have p7 := (hp.trans H6'.pre).trans hp7
              cases e7 : cov js.length k (B ++ [(i : Int)]) cs' with
              | none =>
                rw [stop e7] at hK
                simp -implicitDefEqProofs
                exact onK hK (cvN p7)
              | some rest =>
                obtain ⟨rfl, ws, Nw⟩ := hr rest e7
                obtain ⟨_, _, L, _, _, eL⟩ := cov_head (by rw [List.length_append, List.length_singleton]; omega) (nd_snoc hnd hni) (in_snoc hin hlt) e7
                rw [e7] at hx
                simp -implicitDefEqProofs [wi]
                exact ⟨m', by omega, on hI ⟨i + 1, rest, ws, wa, wc, by omega, rfl, p7, Nw, by rw [eL, List.length_append] at hl'; omega, fun c hc => hb' c (by rw [eL]; exact List.mem_append_right _ hc), hx⟩⟩
        · have e : skF js.length k B (some cs') i = some cs' := by unfold skF; rw [c3]; rfl
          rw [e] at hx
          simp -implicitDefEqProofs [hlt, hlt', CL_ret rh, CH_at rh, c3, wi]
          exact ⟨m', by omega, on hI ⟨i + 1, cs', us', a, c', by omega, rfl, hp, N', hl', hb', hx⟩⟩
      · have hlt' : ¬ (i : Int) < js.length := by omega
        have hm : m = 0 := by omega
        subst hm
        rw [List.range'_zero, List.foldl_nil] at hx
        rw [hx] at hK
        simp -implicitDefEqProofs [hlt, hlt']
        exact onK hK (cvS hp N')
end Go.Pm.PP

/- Cases accepted: the reference's verdict, and that both agree. -/
set_option linter.unusedVariables false
set_option linter.unusedSimpArgs false
set_option maxRecDepth 4000
set_option maxHeartbeats 32000000
namespace Go.Pm.PP
open Go.Pm Go.Proofs Go.Pm.PE
def oneB (js : List Job) (o best : Int) (c : List Int) : Bool := arGo js.length [] c && decide (best ≤ bdV o js c)
def endB (n : Nat) (cs : List (List Int)) : Bool := match cov n n [] cs with
  | some [] => true
  | _ => false
def scB (js : List Job) (o best : Int) (cs : List (List Int)) : Bool := decide (cs.length ≤ 800) && (cs.all (oneB js o best) && endB js.length cs)
section
variable {h : Hp} {vj v vc : Value} {js : List Job} {cs : List (List Int)} {us : List Value} {o best : Int}
theorem l5Cases_run (J : Jobs h vj js) (hg : goodL js = true) (hn8 : js.length ≤ 8) (ho : o = 2 ∨ o = 4) (N : Nest h vc encI 1 cs us) (hn : cs.length ≤ 2 ^ 40) (hb : ∀ x, x ∈ cs → x.length ≤ 2 ^ 30) : Ret P G n_spec_l5Cases [vj, .int .i64 o, .int .i64 best, vc] h (.bool (scB js o best cs)) h := by
  refine enter_run e_spec_l5Cases (by simp) ?_
  have Js := J
  have Ns := N
  obtain ⟨oj, cj, rfl⟩ := J.shapeT
  obtain ⟨oc, cc, rfl⟩ := N.shape
  unfold scB
  by_cases c8 : cs.length ≤ 800
  · have c8' : ¬ (800 : Int) < cs.length := by omega
    have c8'' : ¬ 800 < cs.length := by omega
    rw [decide_eq_true c8, Bool.true_and]
    generalize hE : endB js.length cs = E
    generalize hX : (cs.all (oneB js o best) && E) = X
    simp -implicitDefEqProofs [c8', c8'']
    refine R_loopO (fun m s h' => ∃ (i : Nat), i + m = cs.length ∧ s = [(0, .slice oj js.length cj), (1, .int .i64 o), (2, .int .i64 best), (3, .slice oc cs.length cc), (9, .int .i64 i)] ∧ h' = h ∧ X = ((cs.drop i).all (oneB js o best) && E)) (fun I hI m s h' => ?_) (n := cs.length) ⟨0, Nat.zero_add _, by simp, rfl, hX.symm⟩
    rintro ⟨i, hi, rfl, rfl, hx⟩
    by_cases hlt : i < cs.length
    · have hlt' : (i : Int) < cs.length := by omega
      obtain ⟨c, hc, hd⟩ := drop_at hlt
      rw [hd, List.all_cons] at hx
      obtain ⟨uc, huc, Sc⟩ := Ns.at hc
      have lc := load_N (Ns.out : Sees h' _ 1 (us.map encV)) huc
      have bc := hb c (List.mem_of_getElem? hc)
      have Sc : Ints h' uc c := Sc
      obtain ⟨xa, xc, rfl⟩ : ∃ a k, uc = .slice a c.length k := Sc.shapeT
      have r2 := l5Prefix_run Js (by omega) Sc (by omega)
      cases c2 : arGo js.length [] c
      · rw [oneB, c2, Bool.false_and, Bool.false_and, Bool.false_and] at hx
        simp -implicitDefEqProofs [-indexAddrP_some, hlt, hlt', lc, CL_ret r2, CH_at r2, c2, hx]
      obtain ⟨a1, a2, a3⟩ := ar_facts hn8 c2
      have r4 := l5Bound_run Js Sc hg hn8 (by omega) a1 ho
      by_cases c4 : best ≤ bdV o js c
      · have c4' : ¬ bdV o js c < best := by omega
        rw [oneB, c2, decide_eq_true c4, Bool.true_and, Bool.true_and] at hx
        simp -implicitDefEqProofs [-indexAddrP_some, hlt, hlt', lc, CL_ret r2, CH_at r2, c2, CL_ret r4, CH_at r4, c4, c4', winc hlt (show cs.length ≤ 2 ^ 40 by omega)]
        exact ⟨m - 1, by omega, on hI ⟨i + 1, by omega, rfl, rfl, hx⟩⟩
      · have c4' : bdV o js c < best := by omega
        rw [oneB, c2, decide_eq_false c4] at hx
        have hx : X = false := by rw [hx]; rfl
        simp -implicitDefEqProofs [-indexAddrP_some, hlt, hlt', lc, CL_ret r2, CH_at r2, c2, CL_ret r4, CH_at r4, c4, c4', hx]
    · have hlt' : ¬ (i : Int) < cs.length := by omega
      rw [List.drop_eq_nil_of_le (by omega), List.all_nil, Bool.true_and] at hx
      have N0 : Ints h' (.slice none 0 0) ([] : List Int) := ⟨by simp, none, 0, rfl, .inl ⟨rfl, rfl, rfl⟩⟩
      simp -implicitDefEqProofs [hlt, hlt']
      refine CL_post (l5Covers_run hn8 (k := js.length) Js N0 Ns (by omega) hb (by simp) (fun x hx => by cases hx) List.nodup_nil) fun v7 h7 ⟨hp7, w, wa, wn, wc, ew, ev, hr⟩ => ?_
      subst ew
      subst ev
      unfold endB at hE
      cases e7 : cov js.length js.length [] cs with
      | none =>
        rw [e7] at hE
        have hE : X = false := by rw [hx]; exact hE.symm
        simp -implicitDefEqProofs [hE]
        exact gcP hp7 rfl
      | some rest =>
        obtain ⟨rfl, ws, Nw⟩ := hr rest e7
        rw [e7] at hE
        have hE : X = ((rest.length : Int) == 0) := by
          rw [hx, ← hE]
          cases rest with
          | nil => rfl
          | cons a r =>
            have : (((a :: r).length : Int) == 0) = false := nb (by rw [List.length_cons]; omega)
            rw [this]
        rw [hE]
        simp -implicitDefEqProofs
        exact gcP hp7 rfl
  · have c8' : (800 : Int) < cs.length := by omega
    have c8'' : 800 < cs.length := by omega
    rw [decide_eq_false c8, Bool.false_and]
    simp -implicitDefEqProofs [c8', c8'']
/-! ### both agree -/
theorem ic_iff {n : Nat} : ∀ {r : List (List Int)} {p : Option (List Int)} {tot : Nat}, n = js.length → (icGo js o best p tot r = true ↔ (∀ c, c ∈ r → oneB js o best c = true) ∧ (∀ a, p = some a → ∀ c, c ∈ r → ltB a c = true) ∧ r.Pairwise (fun a b => ltB a b = true) ∧ tot + sumF n r = fct n)
  | [], p, tot, hn => by
    subst hn
    rw [icGo, decide_eq_true_eq]
    simp [sumF]
  | c :: r, p, tot, hn => by
    subst hn
    rw [icGo, show (arGo js.length [] c && decide (best ≤ bdV o js c)) = oneB js o best c from rfl, Bool.and_eq_true, Bool.and_eq_true, ic_iff rfl]
    have es : sumF js.length (c :: r) = fct (js.length - c.length) + sumF js.length r := by unfold sumF; rw [List.map_cons, List.sum_cons]
    rw [es]
    constructor
    · rintro ⟨h1, h2, h3, h4, h5, h6⟩
      refine ⟨fun d hd => ?_, fun a ha d hd => ?_, List.pairwise_cons.2 ⟨fun d hd => h4 c rfl d hd, h5⟩, by omega⟩
      · rcases List.mem_cons.1 hd with rfl | g
        · exact h1
        · exact h3 d g
      · subst ha
        have h2 : ltB a c = true := h2
        rcases List.mem_cons.1 hd with rfl | g
        · exact h2
        · exact ltB_trans h2 (h4 c rfl d g)
    · rintro ⟨h1, h2, h3, h4⟩
      obtain ⟨p1, p2⟩ := List.pairwise_cons.1 h3
      refine ⟨h1 c (List.mem_cons_self ..), ?_, fun d hd => h1 d (List.mem_cons_of_mem _ hd), fun a ha d hd => ?_, p2, by omega⟩
      · cases p with
        | none => rfl
        | some a => exact h2 a rfl c (List.mem_cons_self ..)
      · cases ha; exact p1 d hd
theorem one_facts (hn8 : js.length ≤ 8) {c : List Int} (h : oneB js o best c = true) : (c.Nodup ∧ inN js.length c) ∧ best ≤ bdV o js c := by
  unfold oneB at h
  rw [Bool.and_eq_true, decide_eq_true_eq] at h
  obtain ⟨a, b, _⟩ := ar_facts hn8 h.1
  exact ⟨⟨b, a⟩, h.2⟩
theorem end_iff {n : Nat} : endB n cs = true ↔ cov n n [] cs = some [] := by
  unfold endB
  cases cov n n [] cs with
  | none => simp
  | some r => cases r with
    | nil => simp
    | cons a r => simp
theorem sc_ic (hn8 : js.length ≤ 8) : scB js o best cs = icB js o best cs := by
  unfold scB icB
  congr 1
  rw [Bool.eq_iff_iff, Bool.and_eq_true, List.all_eq_true, ic_iff rfl, end_iff]
  constructor
  · rintro ⟨h1, h2⟩
    obtain ⟨g1, g2⟩ := (cov_iff fun c hc => (one_facts hn8 (h1 c hc)).1).1 h2
    exact ⟨h1, fun a ha => (by cases ha), g1, by omega⟩
  · rintro ⟨h1, _, h3, h4⟩
    exact ⟨h1, (cov_iff fun c hc => (one_facts hn8 (h1 c hc)).1).2 ⟨h3, by omega⟩⟩
theorem specIsCases_run (J : Jobs h vj js) (hl : js.length ≤ 2 ^ 40) (N : Nest h vc encI 1 cs us) (hn : cs.length ≤ 2 ^ 40) (hb : ∀ x, x ∈ cs → x.length ≤ 2 ^ 30) : Ret P G n_spec_IsCases [vj, .int .i64 o, .int .i64 best, vc] h (.tuple #[.bool (icV js o best cs), .bool (okC js o)]) h := by
  refine enter_run e_spec_IsCases (by simp) ?_
  have r1 := l5Two_run (o := o) J hl
  unfold icV
  cases e : okC js o
  · simp -implicitDefEqProofs [CL_ret r1, CH_at r1, e]
  · obtain ⟨hn8, hg, ho⟩ := okC_facts e
    have r2 := l5Cases_run (best := best) J hg hn8 ho N hn hb
    rw [sc_ic hn8] at r2
    simp -implicitDefEqProofs [CL_ret r1, CH_at r1, e, CL_ret r2]
/-- What is accepted bounds every order. -/
theorem ic_le (h : icV js o best cs = true) : best ≤ bestV o js := by
  unfold icV at h
  rw [Bool.and_eq_true] at h
  obtain ⟨hn8, hg, ho⟩ := okC_facts h.1
  have h2 := h.2
  rw [← sc_ic hn8] at h2
  unfold scB at h2
  rw [Bool.and_eq_true, Bool.and_eq_true, List.all_eq_true, end_iff] at h2
  obtain ⟨L, a1, _, _, _, a5⟩ := cov_sound (B := []) (by simp) List.nodup_nil (fun x hx => by cases hx) h2.2.2
  rw [List.append_nil] at a1
  obtain ⟨b1, b2, b3, b4⟩ := best_facts (f := valX o js) hn8
  obtain ⟨c, hc, R, hR⟩ := a5 _ b3 List.nil_prefix
  have e := (one_facts hn8 (h2.2.1 c (a1 ▸ hc))).2
  have := pre_le (B := c) (R := R) hg hn8 ho (by rw [hR]; exact b3)
  rw [hR, b2] at this
  exact Int.le_trans e this
/-- The cases found are accepted. -/
theorem cas_ok (e : okC js o = true) (hl : (casA o js).length ≤ 800) : icV js o (bestV o js) (casA o js) = true := by
  obtain ⟨hn8, hg, ho⟩ := okC_facts e
  obtain ⟨b1, b2, b3, b4⟩ := best_facts (f := valX o js) hn8
  obtain ⟨_, c2, c3⟩ := cas_cov (f := bdB o js (bestV o js)) (n := js.length) (rest := []) (fun B oB => by
    have e1 : bdV o js B = valX o js B := by
      unfold bdV valX bdE
      have z : sumL (restL js B) ≤ 0 := by
        have all0 : ∀ x, x ∈ restL js B → x = 0 := fun x hx => by
          obtain ⟨i, hi⟩ := List.getElem?_of_mem hx
          have hil := (List.getElem?_eq_some_iff.1 hi).1
          rw [restL_len] at hil
          rw [restL_at hil, show inP B i = hasL (i : Int) B from rfl, if_pos (hasL_iff'.2 (oB.all hil))] at hi
          exact (Option.some.inj hi).symm
        generalize restL js B = l at all0
        induction l with
        | nil => exact Int.le_refl _
        | cons a l ih =>
          have h1 := all0 a (List.mem_cons_self ..)
          have h2 := ih fun x hx => all0 x (List.mem_cons_of_mem _ hx)
          show a + sumL l ≤ 0
          omega
      have : picks o js FU (nwGo js B 0) (restL js B) = [] := by
        show picks o js (999 + 1) _ _ = []
        rw [picks, if_pos z]
      rw [this]; rfl
    unfold bdB
    rw [decide_eq_true_eq, e1]
    exact b4 B oB) (k := js.length) (B := []) (by simp) List.nodup_nil (fun x hx => by cases hx)
  unfold icV
  rw [e, Bool.true_and, ← sc_ic hn8]
  unfold scB
  rw [decide_eq_true hl, Bool.true_and, Bool.and_eq_true, List.all_eq_true, end_iff]
  rw [List.append_nil] at c3
  refine ⟨fun c hc => ?_, c3⟩
  obtain ⟨_, g1, g2, g3⟩ := c2 c hc
  have w : w64 ((js.length : Int) - 1) = (js.length : Int) - 1 := by unfold w64; rw [wrap_ok] <;> omega
  unfold oneB
  rw [Bool.and_eq_true]
  exact ⟨(arGo_iff w).2 ⟨g3, g2, fun x hx => by simp⟩, g1⟩
end
end Go.Pm.PP

/- Draws of prefixes and gains. -/
set_option linter.unusedVariables false
set_option linter.unusedSimpArgs false
set_option maxRecDepth 4000
set_option maxHeartbeats 32000000
namespace Go.Pm.PP
open Go.Pm Go.Proofs Go.Pm.PE
section
variable {h0 h : Hp} {r n : Nat} {vc : Value} {L T : List Asn}
theorem Cur.frontI {u : Value} {xs : List Int} (C : Cur h0 h r vc n (L ++ [.own u 1 (xs.map encI)])) {j : Int} (h1 : 0 ≤ j) (h2 : j ≤ xs.length) : ∃ v', sliceP P h t_S_int u none (some (.int .i64 j)) = some v' ∧ Cur h0 h r vc n (L ++ [.own v' 1 ((xs.take j.toNat).map encI)]) := by
  obtain ⟨a, s, g1, g2, H⟩ := C
  have hi : (cu r vc a s :: (L ++ [.own u 1 (xs.map encI)]))[L.length + 1]? = some (.own u 1 (xs.map encI)) := by rw [List.getElem?_cons_succ]; exact snoc_get
  obtain ⟨v', e1, e2, e3⟩ := (H.own (L.length + 1) hi).front (P := P) u_S_int i_int (k := .i64) (j := j) h1 (by simpa using h2)
  rw [← List.map_take] at e2
  have H2 := H.upd hi (B := .own v' 1 ((xs.take j.toNat).map encI)) (.ofPre List.prefix_rfl) e2 fun q hq => .inl (by show rowV u = some q; rw [← e3]; exact hq)
  rw [List.set_cons_succ, List.set_append_right (h := Nat.le_refl _), Nat.sub_self] at H2
  exact ⟨v', e1, a, s, g1, g2, H2⟩
theorem one5_run (B : By h0 vc) (C : Cur h0 h r vc n L) (hn : n ≤ 2 ^ 30) : RunsC P G n_spec_l1Cur_one5 [.pointer (some ⟨r, 0, some 3⟩)] h fun v h' => ∃ x : Int, v = .int .i64 x ∧ Cur h0 h' r vc (n + 4) L := by
  refine hideC fun K hK => enter_run e_spec_l1Cur_one5 (by simp) ?_
  simp -implicitDefEqProofs
  refine CL_post (one_run B C (by omega) (by omega)) fun v h1 ⟨b, ev, C1⟩ => ?_
  subst ev
  cases b
  · have C2 := C1.lit [2, 4]
    simp -implicitDefEqProofs
    refine CL_post (among_run B C2 (by omega) snoc_get (by simp) (by simp)) fun v h2 ⟨x, ev, _, C3⟩ => ?_
    subst ev
    simp -implicitDefEqProofs
    exact onK hK ⟨_, rfl, C.gc (C3.weak.mono (by omega))⟩
  · have C2 := C1.lit [0, 1, 3, 5, -1]
    simp -implicitDefEqProofs
    refine CL_post (among_run B C2 (by omega) snoc_get (by simp) (by simp)) fun v h2 ⟨x, ev, _, C3⟩ => ?_
    subst ev
    simp -implicitDefEqProofs
    exact onK hK ⟨_, rfl, C.gc (C3.weak.mono (by omega))⟩
theorem prefix5_run (B : By h0 vc) (C : Cur h0 h r vc n L) (hn : n ≤ 2 ^ 18) {vj : Value} {js : List Job} (J : Jobs h vj js) (hl : js.length ≤ 20) : RunsC P G n_spec_l1Cur_prefix5 [.pointer (some ⟨r, 0, some 3⟩), vj] h fun v h' => ∃ xs : List Int, xs.length ≤ 21 ∧ Cur h0 h' r vc (n + 50) (L ++ [.own v 1 (xs.map encI)]) := by
  refine hideC fun K hK => enter_run e_spec_l1Cur_prefix5 (by simp) ?_
  obtain ⟨oj, cj, rfl⟩ := J.shapeT
  simp -implicitDefEqProofs
  refine CL_post (order_run B C (by omega) (N := js.length) (by omega)) fun v h1 ⟨xs, hx, C1⟩ => ?_
  obtain ⟨wa, wc, rfl⟩ : ∃ a c, v = .slice a xs.length c := C1.seesI.shapeT
  have w : IntKind.i64.wrap ((xs.length : Int) + 1) = (xs.length : Int) + 1 := by rw [wrap_ok] <;> omega
  simp -implicitDefEqProofs [w]
  refine CL_post (pick_run B C1 (by omega) (k := (xs.length : Int) + 1) (by omega)) fun v h2 ⟨x, ev, x0, _, x1, C2⟩ => ?_
  subst ev
  have x1 := x1 (by omega)
  obtain ⟨v', e1, C3⟩ := C2.frontI x0 (by omega)
  simp -implicitDefEqProofs [e1]
  exact onK hK ⟨_, by rw [List.length_take]; omega, C.gcO (C3.mono (by omega)) fun g => plS C3.seesI g⟩
end
theorem DrawPrefixBound_run {h : Hp} {vc : Value} (B : By h vc) : RunsC P G n_spec_DrawPrefixBound [vc] h fun v h' => h <+: h' ∧ ∃ (js : List Job) (xs : List Int) (o : Int) (u w : Value), v = .tuple #[u, w, .int .i64 o] ∧ js.length ≤ 9 ∧ xs.length ≤ 21 ∧ Jobs h' u js ∧ Ints h' w xs := by
  refine hideC fun K hK => enter_run e_spec_DrawPrefixBound (by simp) ?_
  have C0 : Cur h (h ++ [some ⟨[vc, .int .i64 0, .int .u64 0], 0, false⟩]) h.length vc 0 [] := ⟨0, 0, by omega, by omega, (Holds.start (h := h)).alloc _⟩
  obtain ⟨bs, Sb, hb, hbl⟩ := B
  have Bs : By h vc := ⟨bs, Sb, hb, hbl⟩
  obtain ⟨ob, cb, rfl⟩ := Sb.shapeT
  simp -implicitDefEqProofs
  refine CL_post (some5_run Bs C0 (by omega)) fun u h2 ⟨js, hl, C2⟩ => ?_
  obtain ⟨ua, uc, rfl⟩ : ∃ a c, u = .slice a js.length c := C2.seesJ.shapeT
  simp -implicitDefEqProofs
  refine CL_post (prefix5_run Bs C2 (by omega) C2.seesJ (by omega)) fun w h3 ⟨xs, hx, C3⟩ => ?_
  obtain ⟨wa, wc, rfl⟩ : ∃ a c, w = .slice a xs.length c := C3.seesI.shapeT
  simp -implicitDefEqProofs
  refine CL_post (one5_run Bs C3 (by omega)) fun v h4 ⟨o, ev, C4⟩ => ?_
  subst ev
  have J4 : Jobs h4 (.slice ua js.length uc) js := C4.seesAt (L := [_]) (i := 0) rfl
  have fin := gc_JX (r := [.int .i64 o]) C4.pre J4 C4.seesI
  simp -implicitDefEqProofs
  exact onK hK ⟨fin.1, js, xs, o, _, _, rfl, hl, hx, fin.2⟩
theorem DrawSplitGain_run {h : Hp} {vc : Value} (B : By h vc) : RunsC P G n_spec_DrawSplitGain [vc] h fun v h' => h <+: h' ∧ ∃ (js : List Job) (o : Int) (u : Value), v = .tuple #[u, .int .i64 o] ∧ js.length ≤ 9 ∧ Jobs h' u js := by
  refine hideC fun K hK => enter_run e_spec_DrawSplitGain (by simp) ?_
  have C0 : Cur h (h ++ [some ⟨[vc, .int .i64 0, .int .u64 0], 0, false⟩]) h.length vc 0 [] := ⟨0, 0, by omega, by omega, (Holds.start (h := h)).alloc _⟩
  obtain ⟨bs, Sb, hb, hbl⟩ := B
  have Bs : By h vc := ⟨bs, Sb, hb, hbl⟩
  obtain ⟨ob, cb, rfl⟩ := Sb.shapeT
  simp -implicitDefEqProofs
  refine CL_post (some5_run Bs C0 (by omega)) fun u h2 ⟨js, hl, C2⟩ => ?_
  obtain ⟨ua, uc, rfl⟩ : ∃ a c, u = .slice a js.length c := C2.seesJ.shapeT
  simp -implicitDefEqProofs
  refine CL_post (one5_run Bs C2 (by omega)) fun v h4 ⟨o, ev, C4⟩ => ?_
  subst ev
  have J4 : Jobs h4 (.slice ua js.length uc) js := C4.seesJ
  simp -implicitDefEqProofs
  exact onK hK ⟨pre_gcU C4.pre, js, o, _, rfl, hl, Sees.gcU J4 fun g => plainT (r := [_]) g⟩
theorem DrawFindCases_run {h : Hp} {vc : Value} (B : By h vc) : RunsC P G n_spec_DrawFindCases [vc] h fun v h' => h <+: h' ∧ ∃ (js : List Job) (o : Int) (u : Value), v = .tuple #[u, .int .i64 o] ∧ js.length ≤ 9 ∧ Jobs h' u js := by
  refine hideC fun K hK => enter_run e_spec_DrawFindCases (by simp) ?_
  obtain ⟨bs, Sb, hb, hbl⟩ := B
  have Bs : By h vc := ⟨bs, Sb, hb, hbl⟩
  obtain ⟨ob, cb, rfl⟩ := Sb.shapeT
  simp -implicitDefEqProofs
  refine CL_post (DrawSplitGain_run Bs) fun v h1 ⟨hp1, js, o, u, ev, hl, J1⟩ => ?_
  subst ev
  obtain ⟨ua, uc, rfl⟩ : ∃ a c, u = .slice a js.length c := J1.shapeT
  simp -implicitDefEqProofs
  exact onK hK ⟨pre_gcU hp1, js, o, _, rfl, hl, Sees.gcU J1 fun g => plainT (r := [_]) g⟩
end Go.Pm.PP

/- Draws of cases. -/
set_option linter.unusedVariables false
set_option linter.unusedSimpArgs false
set_option maxRecDepth 4000
set_option maxHeartbeats 64000000
namespace Go.Pm.PP
open Go.Pm Go.Proofs Go.Pm.PE
section
variable {h0 h h' : Hp} {r n : Nat} {vc : Value} {L T : List Asn}
theorem Cur.ext (C : Cur h0 h r vc n L) (hp : h <+: h') : Cur h0 h' r vc n L := by
  obtain ⟨a, s, g1, g2, H⟩ := C
  exact ⟨a, s, g1, g2, H.ext hp⟩
theorem Cur.frontJ {u : Value} {js : List Job} (C : Cur h0 h r vc n (L ++ [.own u 4 (js.map encJ)])) {j : Int} (h1 : 0 ≤ j) (h2 : j ≤ js.length) : ∃ v', sliceP P h t_S_impl_Job u none (some (.int .i64 j)) = some v' ∧ Cur h0 h r vc n (L ++ [.own v' 4 ((js.take j.toNat).map encJ)]) := by
  obtain ⟨a, s, g1, g2, H⟩ := C
  have hi : (cu r vc a s :: (L ++ [.own u 4 (js.map encJ)]))[L.length + 1]? = some (.own u 4 (js.map encJ)) := by rw [List.getElem?_cons_succ]; exact snoc_get
  obtain ⟨v', e1, e2, e3⟩ := (H.own (L.length + 1) hi).front (P := P) u_S_impl_Job i_impl_Job (k := .i64) (j := j) h1 (by simpa using h2)
  rw [← List.map_take] at e2
  have H2 := H.upd hi (B := .own v' 4 ((js.take j.toNat).map encJ)) (.ofPre List.prefix_rfl) e2 fun q hq => .inl (by show rowV u = some q; rw [← e3]; exact hq)
  rw [List.set_cons_succ, List.set_append_right (h := Nat.le_refl _), Nat.sub_self] at H2
  exact ⟨v', e1, a, s, g1, g2, H2⟩
end
theorem l1Least_run {h : Hp} {a b : Int} (hab : a ≤ b) : Ret P G n_spec_l1Least [.int .i64 a, .int .i64 b] h (.int .i64 a) h := by
  refine enter_run e_spec_l1Least (by simp) ?_
  by_cases c : a < b
  · simp -implicitDefEqProofs [c]
  · have e : a = b := by omega
    subst e
    simp -implicitDefEqProofs [c]
/-- One element is taken out of one's own list of lists, in place. -/
theorem cut_V {h0 h : Hp} {L : List Asn} (H : Holds h0 h L) (i : Nat) {v : Value} {xs : List Value} (hi : L[i]? = some (.own v 1 (xs.map encV))) {k : Nat} (hk : k < xs.length) (hn : xs.length ≤ 2 ^ 30) (hone : ∀ x ∈ xs, one x = true) :
    ∃ lo hi' v' h', sliceP P h t_S_S_int v none (some (.int .i64 k)) = some lo ∧ sliceP P h t_S_S_int v (some (.int .i64 ((k : Int) + 1))) none = some hi' ∧ appendP P h t_S_S_int lo hi' = some (v', h') ∧ Holds h0 h' (L.set i (.own v' 1 ((xs.eraseIdx k).map encV))) ∧ Keeps (rowV v) h h' := by
  have o := H.own i hi
  obtain ⟨lo, s1, o1, r1⟩ := o.front (P := P) u_S_S_int i_S_int (k := .i64) (j := (k : Int)) (by omega) (by simp; omega)
  rw [Int.toNat_natCast, ← List.map_take] at o1
  obtain ⟨hi', s2, f2, _⟩ := o.sees.back (P := P) u_S_S_int i_S_int (k := .i64) (j := (k : Int) + 1) (by omega) (by simp; omega)
  rw [show ((k : Int) + 1).toNat = k + 1 by omega, ← List.map_drop] at f2
  have hd : ((xs.drop (k + 1)).map encV).flatten.all one = true := ones_N _ fun x hx => hone x (List.mem_of_mem_drop hx)
  obtain ⟨v', h', e1, o2, k2, hr⟩ := o1.append (P := P) u_S_S_int e_t_S_int z_t_S_int s_t_S_int (by omega) (by rw [b_t_S_int]; omega) f2 hd H.pre.length_le (by rw [b_t_S_int]; simp; omega)
  rw [r1] at k2 hr
  refine ⟨lo, hi', v', h', s1, s2, e1, ?_, k2⟩
  rw [← List.map_append, ← List.eraseIdx_eq_take_drop_succ] at o2
  exact H.upd hi k2 o2 fun r hr' => by
    rcases hr with g | ⟨q, g, g2⟩
    · left; show rowV v = some r; rw [← g]; exact hr'
    · right; rw [show rowV v' = some r from hr'] at g; cases g; exact g2
theorem nest_holds {h0 h : Hp} {L : List Asn} {v : Value} {us : List Value} {zs : List (List Int)} (H : Holds h0 h L) (hv : Asn.own v 1 (us.map encV) ∈ L) (hl : us.length = zs.length) (hm : ∀ (j : Nat) u x, us[j]? = some u → zs[j]? = some x → Asn.own u 1 (x.map encI) ∈ L) : Nest h v encI 1 zs us := by
  have see : ∀ {u : Value} {els : List (List Value)}, Asn.own u 1 els ∈ L → Sees h u 1 els := fun {u els} g => by
    obtain ⟨i, hi⟩ := List.getElem?_of_mem g
    exact H.sees i hi
  exact ⟨see hv, hl, fun i u xs h1 h2 => see (hm i u xs h1 h2)⟩
theorem inL_mem {us : List Value} {zs : List (List Int)} {j : Nat} {u : Value} {x : List Int} (h1 : us[j]? = some u) (h2 : zs[j]? = some x) : Asn.own u 1 (x.map encI) ∈ inL encI 1 us zs := List.mem_of_getElem? (inL_get h1 h2)
theorem nest_gcU {h h' : Hp} {d u : Value} {xss : List (List Int)} {us : List Value} (N : Nest h' d encI 1 xss us) (hu : plain u = true → plainC d = true) : Nest (gc h h' u) d encI 1 xss us := by
  refine ⟨Sees.gcU N.out hu, N.len, fun i w xs h1 h2 => ?_⟩
  rcases gc_cases h h' u with g | ⟨hp, g⟩
  · rw [g]; exact N.inn i w xs h1 h2
  · exfalso
    have hd : plainC d = true := hu hp
    obtain ⟨oa, c, e⟩ := N.out.shapeT
    have hi := (List.getElem?_eq_some_iff.1 h1).1
    rw [e] at hd
    match oa, us.length, c, hd, hi with
    | none, 0, 0, _, hi => exact absurd hi (Nat.not_lt_zero _)
theorem plain4T {a b c d : Value} (h : plain (.tuple #[a, b, c, d]) = true) : plainC a = true ∧ plainC d = true := by
  have : (#[a, b, c, d] : Array Value).toList.all plainC = true := h
  simp only [List.all_cons, Bool.and_eq_true] at this
  exact ⟨this.1, this.2.2.2.1⟩
def icD (h : Hp) (v : Value) (h' : Hp) : Prop := h <+: h' ∧ ∃ (js : List Job) (o best : Int) (cs : List (List Int)) (u w : Value) (us : List Value), v = .tuple #[u, .int .i64 o, .int .i64 best, w] ∧ js.length ≤ 9 ∧ cs.length ≤ 2 ^ 20 ∧ (∀ c, c ∈ cs → c.length ≤ 2 ^ 20) ∧ Jobs h' u js ∧ Nest h' w encI 1 cs us
theorem icD.mk' {h h' : Hp} {js : List Job} {o best : Int} {cs : List (List Int)} {u w : Value} {us : List Value} (hp : h <+: h') (hl : js.length ≤ 9) (hc : cs.length ≤ 2 ^ 20) (hb : ∀ c, c ∈ cs → c.length ≤ 2 ^ 20) (J : Jobs h' u js) (N : Nest h' w encI 1 cs us) : icD h (.tuple #[u, .int .i64 o, .int .i64 best, w]) (gc h h' (.tuple #[u, .int .i64 o, .int .i64 best, w])) :=
  ⟨pre_gcU hp, js, o, best, cs, u, w, us, rfl, hl, hc, hb, Sees.gcU J fun g => (plain4T g).1, nest_gcU N fun g => (plain4T g).2⟩
theorem casX_facts {o : Int} {js : List Job} {cs : List (List Int)} (h : casX o js = some cs) : okC js o = true ∧ 0 < cs.length ∧ cs.length ≤ 800 ∧ (∀ c, c ∈ cs → c.length ≤ 9) ∧ icV js o (bestV o js) cs = true := by
  unfold casX at h
  by_cases c : okC js o = true
  · rw [if_pos c] at h
    by_cases d : (casA o js).length ≤ 800
    · rw [if_pos d, Option.some.injEq] at h
      subst h
      obtain ⟨hn, _, _⟩ := okC_facts c
      have ok := cas_ok c d
      refine ⟨c, ?_, d, fun x hx => by have := casL_mem hx; rw [List.length_nil] at this; omega, ok⟩
      rcases Nat.eq_zero_or_pos (casA o js).length with z | z
      · exfalso
        have e : casA o js = [] := List.eq_nil_of_length_eq_zero z
        rw [e] at ok
        unfold icV icB at ok
        have := fct_pos (n := js.length)
        rw [icGo, decide_eq_false (show ¬ 0 = fct js.length by omega)] at ok
        simp at ok
      · exact z
    · rw [if_neg d] at h; cases h
  · rw [if_neg c] at h; cases h
theorem DrawIsCases_run {h : Hp} {vc : Value} (B : By h vc) : RunsC P G n_spec_DrawIsCases [vc] h fun v h' => icD h v h' := by
  refine hideC fun K hK => enter_run e_spec_DrawIsCases (by simp) ?_
  have C0 : Cur h (h ++ [some ⟨[vc, .int .i64 0, .int .u64 0], 0, false⟩]) h.length vc 0 [] := ⟨0, 0, by omega, by omega, (Holds.start (h := h)).alloc _⟩
  obtain ⟨bs, Sb, hb, hbl⟩ := B
  have Bs : By h vc := ⟨bs, Sb, hb, hbl⟩
  obtain ⟨ob, cb, rfl⟩ := Sb.shapeT
  simp -implicitDefEqProofs
  refine CL_post (some5_run Bs C0 (by omega)) fun u h1 ⟨js0, hl0, C1⟩ => ?_
  obtain ⟨ua, uc, rfl⟩ : ∃ a c, u = .slice a js0.length c := C1.seesJ.shapeT
  simp -implicitDefEqProofs
  refine CL_post (one5_run Bs C1 (by omega)) fun v h2 ⟨o, ev, C2⟩ => ?_
  subst ev
  by_cases c5 : 5 < js0.length
  · have c5' : (5 : Int) < js0.length := by omega
    obtain ⟨vj, e1, C3⟩ := C2.frontJ (j := 5) (by omega) (by omega)
    have hjl : (js0.take (5 : Int).toNat).length ≤ 9 := by rw [List.length_take]; omega
    generalize js0.take (5 : Int).toNat = js at hjl C3
    obtain ⟨ja, jc, rfl⟩ : ∃ a c, vj = .slice a js.length c := C3.seesJ.shapeT
    simp -implicitDefEqProofs [c5, c5', e1]
    refine CL_post (specFindCases_run C3.seesJ (by omega)) fun v3 h3 ⟨hp3, uu, ev, us, hul, O⟩ => ?_
    subst ev
    cases ex : casX o js with
    | none =>
      obtain ⟨qa, qn, qc, rfl⟩ : ∃ a n c, uu = .slice a n c := by obtain ⟨a, c, e⟩ := (O.sees 0 rfl).shapeT; exact ⟨_, _, _, e⟩
      simp -implicitDefEqProofs
      refine CL_post (pick_run Bs (C3.ext hp3) (by omega) (k := 9) (by omega)) fun v4 h4 ⟨x, ev, _, _, _, C4⟩ => ?_
      subst ev
      simp -implicitDefEqProofs
      refine CL_post (prefix5_run Bs C4 (by omega) C4.seesJ (by omega)) fun w h5 ⟨xs, hxl, C5⟩ => ?_
      obtain ⟨wa, wc, rfl⟩ : ∃ a c, w = .slice a xs.length c := C5.seesI.shapeT
      obtain ⟨a, s, _, _, H5⟩ := C5
      have H6 := H5.lit (sz := 1) (n := 1) (els := ([.slice wa xs.length wc] : List Value).map encV) (by simp [encV]) (by simp)
      have J6 := H6.sees 1 rfl
      have N6 := nest_holds (v := .slice (some ⟨h5.length, 0, some 1⟩) 1 1) (us := [.slice wa xs.length wc]) (zs := [xs]) H6 (by simp [encV]) rfl fun j u y g1 g2 => by
        cases j with
        | zero => cases g1; cases g2; simp
        | succ j => simp at g1
      simp -implicitDefEqProofs
      exact onK hK (icD.mk' H6.pre hjl (by simp) (fun c hc => by rw [List.mem_singleton.1 hc]; omega) J6 N6)
    | some cs =>
      obtain ⟨ok, cl0, cl1, cb9, _⟩ := casX_facts ex
      obtain ⟨hn8, hg, ho⟩ := okC_facts ok
      rw [ex] at hul O
      have hul : us.length = cs.length := hul
      have O : Holds h2 h3 (.own uu 1 (us.map encV) :: inL encI 1 us cs) := O
      have C4 : Cur h h3 h.length (.slice ob bs.length cb) (0 + 400 + 4) (.own (.slice ja js.length jc) 4 (js.map encJ) :: .own uu 1 (us.map encV) :: inL encI 1 us cs) := by
        obtain ⟨a, s, g1, g2, H⟩ := C3
        exact ⟨a, s, g1, by omega, H.join O⟩
      obtain ⟨qa, qc, rfl⟩ : ∃ a c, uu = .slice a cs.length c := by obtain ⟨a, c, e⟩ := (O.sees 0 rfl).shapeT; exact ⟨_, _, by rw [e, hul]⟩
      simp -implicitDefEqProofs
      refine CL_post (l2Best_run (C3.ext hp3).seesJ hg hn8 (by omega)) fun v5 h5 ⟨hp5, vo, ev, Sv⟩ => ?_
      subst ev
      obtain ⟨za, zn, zc, rfl⟩ : ∃ a n c, vo = .slice a n c := by obtain ⟨a, c, e⟩ := Sv.shape; exact ⟨_, _, _, e⟩
      have rm : ∀ {h : Hp}, Ret P G n_spec_l1Most [.int .i64 cs.length, .int .i64 1] h (.int .i64 cs.length) h := fun {h} => by
        have := @l1Most_run h cs.length 1
        rwa [show max (cs.length : Int) 1 = cs.length by omega] at this
      simp -implicitDefEqProofs [CL_ret rm, CH_at rm]
      refine CL_post (pick_run Bs (C4.ext hp5) (by omega) (k := cs.length) (by omega)) fun v6 h6 ⟨q', ev, q0, _, q1, C6⟩ => ?_
      subst ev
      have q1 := q1 (by omega)
      obtain ⟨q, rfl⟩ : ∃ q : Nat, q' = q := ⟨q'.toNat, by omega⟩
      simp -implicitDefEqProofs
      refine CL_post (pick_run Bs C6 (by omega) (k := 8) (by omega)) fun v7 h7 ⟨p, ev, p0, _, _, C7⟩ => ?_
      subst ev
      have unch : ∀ {h8 : Hp} {m : Nat}, Cur h h8 h.length (.slice ob bs.length cb) m (.own (.slice ja js.length jc) 4 (js.map encJ) :: .own (.slice qa cs.length qc) 1 (us.map encV) :: inL encI 1 us cs) → ∀ best : Int, icD h (.tuple #[.slice ja js.length jc, .int .i64 o, .int .i64 best, .slice qa cs.length qc]) (gc h h8 (.tuple #[.slice ja js.length jc, .int .i64 o, .int .i64 best, .slice qa cs.length qc])) := fun {h8 m} C best => by
        obtain ⟨a, s, _, _, H⟩ := C
        exact icD.mk' H.pre hjl (by omega) (fun c hc => by have := cb9 c hc; omega) (H.sees 1 rfl) (nest_holds H (by simp) hul fun j u x g1 g2 => by simp only [List.mem_cons]; exact .inr (.inr (.inr (inL_mem g1 g2))))
      have hone : ∀ x ∈ us, one x = true := by
        obtain ⟨a, s, _, _, H⟩ := C7
        exact inL_ones (L1 := [cu h.length (.slice ob bs.length cb) a s, .own (.slice ja js.length jc) 4 (js.map encJ), .own (.slice qa cs.length qc) 1 (us.map encV)]) (L2 := []) (xss := cs) (enc := encI) (sz := 1) (by rw [List.append_nil]; exact H) hul
      by_cases p0' : p = 0
      · subst p0'
        simp -implicitDefEqProofs
        refine CL_post (pick_run Bs C7 (by omega) (k := 5) (by omega)) fun v8 h8 ⟨y, ev, _, _, _, C8⟩ => ?_
        subst ev
        simp -implicitDefEqProofs
        exact onK hK (unch C8 _)
      have n0 : (p == 0) = false := nb p0'
      by_cases p1' : p = 1
      · subst p1'
        obtain ⟨a, s, _, _, H⟩ := C7
        obtain ⟨lo, hi', v', h8, s1, s2, e1, H8, _⟩ := cut_V H 2 rfl (k := q) (by omega) (by omega) hone
        have wq : IntKind.i64.wrap ((q : Int) + 1) = (q : Int) + 1 := by rw [wrap_ok] <;> omega
        have rl : ∀ {h : Hp}, Ret P G n_spec_l1Least [.int .i64 ((q : Int) + 1), .int .i64 cs.length] h (.int .i64 ((q : Int) + 1)) h := fun {h} => l1Least_run (by omega)
        have J8 := H8.sees 1 rfl
        have le : (us.eraseIdx q).length = (cs.eraseIdx q).length := by rw [List.length_eraseIdx_of_lt (by omega), List.length_eraseIdx_of_lt (by omega), hul]
        have N8 := nest_holds (v := v') (us := us.eraseIdx q) (zs := cs.eraseIdx q) H8 (by simp) le fun j u x g1 g2 => by
          have g : ∃ k : Nat, us[k]? = some u ∧ cs[k]? = some x := by
            rw [List.getElem?_eraseIdx] at g1 g2
            by_cases c : j < q
            · rw [if_pos c] at g1 g2; exact ⟨j, g1, g2⟩
            · rw [if_neg c] at g1 g2; exact ⟨j + 1, g1, g2⟩
          obtain ⟨k, k1, k2⟩ := g
          simp only [List.set_cons_succ, List.set_cons_zero, List.mem_cons]
          exact .inr (.inr (.inr (inL_mem k1 k2)))
        have lc8 : (cs.eraseIdx q).length ≤ 2 ^ 20 := by rw [List.length_eraseIdx_of_lt (by omega)]; omega
        have lb8 : ∀ c, c ∈ cs.eraseIdx q → c.length ≤ 2 ^ 20 := fun c hc => by have := cb9 c (List.mem_of_mem_eraseIdx hc); omega
        obtain ⟨va, vn, vcc, rfl⟩ : ∃ a n c, v' = .slice a n c := by obtain ⟨a, c, e⟩ := N8.shape; exact ⟨_, _, _, e⟩
        simp -implicitDefEqProofs [n0, s1, wq, CL_ret rl, CH_at rl, CH_ret rl, s2, e1]
        exact onK hK (icD.mk' H8.pre hjl lc8 lb8 J8 N8)
      have n1 : (p == 1) = false := nb p1'
      by_cases p2' : p = 2
      · subst p2'
        have J7 : Jobs h7 (.slice ja js.length jc) js := by obtain ⟨a, s, _, _, H⟩ := C7; exact H.sees 1 rfl
        simp -implicitDefEqProofs [n0, n1]
        refine CL_post (prefix5_run Bs C7 (by omega) J7 (by omega)) fun w h8 ⟨xs, hxl, C8⟩ => ?_
        obtain ⟨wa, wc, rfl⟩ : ∃ a c, w = .slice a xs.length c := C8.seesI.shapeT
        obtain ⟨a, s, _, _, H⟩ := C8
        obtain ⟨v', h9, e1, H9, _⟩ := push_N0 H 2 rfl (.slice wa xs.length wc) rfl (by omega)
        have J9 := H9.sees 1 rfl
        have N9 := nest_holds (v := v') (us := us ++ [.slice wa xs.length wc]) (zs := cs ++ [xs]) H9 (by simp) (by simp [hul]) fun j u x g1 g2 => by
          by_cases c : j < us.length
          · rw [List.getElem?_append_left c] at g1
            rw [List.getElem?_append_left (by omega)] at g2
            have := inL_mem g1 g2
            simp [this]
          · rw [List.getElem?_append_right (by omega)] at g1
            rw [List.getElem?_append_right (by omega)] at g2
            rw [hul] at g1
            cases hz : j - cs.length with
            | zero => rw [hz] at g1 g2; cases g1; cases g2; simp
            | succ z => rw [hz] at g1; simp at g1
        obtain ⟨va, vn, vcc, rfl⟩ : ∃ a n c, v' = .slice a n c := by obtain ⟨a, c, e⟩ := N9.shape; exact ⟨_, _, _, e⟩
        simp -implicitDefEqProofs [e1]
        exact onK hK (icD.mk' H9.pre hjl (by rw [List.length_append, List.length_singleton]; omega) (fun c hc => by
          rcases List.mem_append.1 hc with g | g
          · have := cb9 c g; omega
          · rw [List.mem_singleton.1 g]; omega) J9 N9)
      have n2 : (p == 2) = false := nb p2'
      by_cases p3' : p = 3
      · subst p3'
        have C7s := C7
        obtain ⟨a, s, _, _, H⟩ := C7
        have N7 : Nest h7 (.slice qa cs.length qc) encI 1 cs us := nest_holds H (by simp) hul fun j u x g1 g2 => by simp only [List.mem_cons]; exact .inr (.inr (.inr (inL_mem g1 g2)))
        obtain ⟨x, hx, _⟩ := drop_at (show q < cs.length by omega)
        obtain ⟨uq, huq, Sq⟩ := N7.at hx
        have lq := load_N (N7.out : Sees h7 _ 1 (us.map encV)) huq
        have Sq : Ints h7 uq x := Sq
        have bx := cb9 x (List.mem_of_getElem? hx)
        obtain ⟨xa, xc, rfl⟩ : ∃ a c, uq = .slice a x.length c := Sq.shapeT
        have lp : (0 : Int) < cs.length := by omega
        by_cases cx : 0 < x.length
        · have cx' : (0 : Int) < x.length := by omega
          have wx : IntKind.i64.wrap ((x.length : Int) - 1) = (x.length : Int) - 1 := by rw [wrap_ok] <;> omega
          have iq : (inL encI 1 us cs)[q]? = some (.own (.slice xa x.length xc) 1 (x.map encI)) := inL_get huq hx
          obtain ⟨LL, hLL⟩ : ∃ LL, LL = (cu h.length (.slice ob bs.length cb) a s :: .own (.slice ja js.length jc) 4 (js.map encJ) :: .own (.slice qa cs.length qc) 1 (us.map encV) :: inL encI 1 us cs) := ⟨_, rfl⟩
          have iq' : LL[q + 3]? = some (.own (.slice xa x.length xc) 1 (x.map encI)) := by rw [hLL]; exact iq
          have i1 : LL[1]? = some (.own (.slice ja js.length jc) 4 (js.map encJ)) := by rw [hLL]; rfl
          have i2 : LL[2]? = some (.own (.slice qa cs.length qc) 1 (us.map encV)) := by rw [hLL]; rfl
          have i3 : ∀ j : Nat, LL[j + 3]? = (inL encI 1 us cs)[j]? := fun j => by rw [hLL]; rfl
          rw [← hLL] at H
          obtain ⟨vq, sq, oq, rq⟩ := (H.own (q + 3) iq').front (P := P) u_S_int i_int (k := .i64) (j := (x.length : Int) - 1) (by omega) (by simp; omega)
          rw [← List.map_take] at oq
          have hyl : (x.take ((x.length : Int) - 1).toNat).length ≤ 9 := by rw [List.length_take]; omega
          generalize x.take ((x.length : Int) - 1).toNat = y at oq hyl
          have H' := H.upd iq' (B := .own vq 1 (y.map encI)) (.ofPre List.prefix_rfl) oq fun r hr => .inl (by show rowV (.slice xa x.length xc) = some r; rw [← rq]; exact hr)
          have llen : LL.length = cs.length + 3 := by rw [hLL]; simp [inL_len hul, hul]
          obtain ⟨fa, fn, fc, rfl⟩ : ∃ a n c, vq = .slice a n c := by obtain ⟨a, c, e⟩ := (H'.sees (q + 3) (List.getElem?_set_self (by omega))).shape; exact ⟨_, _, _, e⟩
          obtain ⟨h8, e1, H8, k8⟩ := put_N H' 2 (by rw [List.getElem?_set_ne (by omega)]; exact i2) (j := q) (by omega) (.slice fa fn fc) rfl
          have J8 := H8.sees 1 (by rw [List.getElem?_set_ne (by omega), List.getElem?_set_ne (by omega)]; exact i1)
          have N8 := nest_holds (v := .slice qa cs.length qc) (us := us.set q (.slice fa fn fc)) (zs := cs.set q y) H8 (List.mem_of_getElem? (i := 2) (List.getElem?_set_self (by rw [List.length_set]; omega))) (by simp [hul]) fun j u z g1 g2 => by
            refine List.mem_of_getElem? (i := j + 3) ?_
            rw [List.getElem?_set_ne (by omega)]
            by_cases c : q = j
            · subst c
              rw [List.getElem?_set_self (by omega)] at g1 g2
              cases g1; cases g2
              exact List.getElem?_set_self (by omega)
            · rw [List.getElem?_set_ne c] at g1 g2
              rw [List.getElem?_set_ne (by omega), i3]
              exact inL_get g1 g2
          simp -implicitDefEqProofs [-indexAddrP_some, n0, n1, n2, cl0, lp, lq, cx, cx', wx, sq, e1]
          exact onK hK (icD.mk' H8.pre hjl (by rw [List.length_set]; omega) (fun c hc => by
            rcases List.mem_or_eq_of_mem_set hc with g | g
            · have := cb9 c g; omega
            · rw [g]; omega) J8 N8)
        · have cx' : ¬ (0 : Int) < x.length := by omega
          have hxn : x = [] := List.eq_nil_of_length_eq_zero (by omega)
          simp -implicitDefEqProofs [-indexAddrP_some, n0, n1, n2, cl0, lp, lq, cx, cx']
          exact onK hK (unch C7s _)
      have n3 : (p == 3) = false := nb p3'
      simp -implicitDefEqProofs [n0, n1, n2, n3]
      exact onK hK (unch C7 _)
  · have c5' : ¬ (5 : Int) < js0.length := by omega
    obtain ⟨js, hjs⟩ : ∃ js, js = js0 := ⟨_, rfl⟩
    subst hjs
    obtain ⟨ja, hja⟩ : ∃ ja, ja = ua := ⟨_, rfl⟩
    subst hja
    obtain ⟨jc, hjc⟩ : ∃ jc, jc = uc := ⟨_, rfl⟩
    subst hjc
    have C3 := C2
    have hjl : js.length ≤ 9 := hl0
    simp -implicitDefEqProofs [c5, c5']
    refine CL_post (specFindCases_run C3.seesJ (by omega)) fun v3 h3 ⟨hp3, uu, ev, us, hul, O⟩ => ?_
    subst ev
    cases ex : casX o js with
    | none =>
      obtain ⟨qa, qn, qc, rfl⟩ : ∃ a n c, uu = .slice a n c := by obtain ⟨a, c, e⟩ := (O.sees 0 rfl).shapeT; exact ⟨_, _, _, e⟩
      simp -implicitDefEqProofs
      refine CL_post (pick_run Bs (C3.ext hp3) (by omega) (k := 9) (by omega)) fun v4 h4 ⟨x, ev, _, _, _, C4⟩ => ?_
      subst ev
      simp -implicitDefEqProofs
      refine CL_post (prefix5_run Bs C4 (by omega) C4.seesJ (by omega)) fun w h5 ⟨xs, hxl, C5⟩ => ?_
      obtain ⟨wa, wc, rfl⟩ : ∃ a c, w = .slice a xs.length c := C5.seesI.shapeT
      obtain ⟨a, s, _, _, H5⟩ := C5
      have H6 := H5.lit (sz := 1) (n := 1) (els := ([.slice wa xs.length wc] : List Value).map encV) (by simp [encV]) (by simp)
      have J6 := H6.sees 1 rfl
      have N6 := nest_holds (v := .slice (some ⟨h5.length, 0, some 1⟩) 1 1) (us := [.slice wa xs.length wc]) (zs := [xs]) H6 (by simp [encV]) rfl fun j u y g1 g2 => by
        cases j with
        | zero => cases g1; cases g2; simp
        | succ j => simp at g1
      simp -implicitDefEqProofs
      exact onK hK (icD.mk' H6.pre hjl (by simp) (fun c hc => by rw [List.mem_singleton.1 hc]; omega) J6 N6)
    | some cs =>
      obtain ⟨ok, cl0, cl1, cb9, _⟩ := casX_facts ex
      obtain ⟨hn8, hg, ho⟩ := okC_facts ok
      rw [ex] at hul O
      have hul : us.length = cs.length := hul
      have O : Holds h2 h3 (.own uu 1 (us.map encV) :: inL encI 1 us cs) := O
      have C4 : Cur h h3 h.length (.slice ob bs.length cb) (0 + 400 + 4) (.own (.slice ja js.length jc) 4 (js.map encJ) :: .own uu 1 (us.map encV) :: inL encI 1 us cs) := by
        obtain ⟨a, s, g1, g2, H⟩ := C3
        exact ⟨a, s, g1, by omega, H.join O⟩
      obtain ⟨qa, qc, rfl⟩ : ∃ a c, uu = .slice a cs.length c := by obtain ⟨a, c, e⟩ := (O.sees 0 rfl).shapeT; exact ⟨_, _, by rw [e, hul]⟩
      simp -implicitDefEqProofs
      refine CL_post (l2Best_run (C3.ext hp3).seesJ hg hn8 (by omega)) fun v5 h5 ⟨hp5, vo, ev, Sv⟩ => ?_
      subst ev
      obtain ⟨za, zn, zc, rfl⟩ : ∃ a n c, vo = .slice a n c := by obtain ⟨a, c, e⟩ := Sv.shape; exact ⟨_, _, _, e⟩
      have rm : ∀ {h : Hp}, Ret P G n_spec_l1Most [.int .i64 cs.length, .int .i64 1] h (.int .i64 cs.length) h := fun {h} => by
        have := @l1Most_run h cs.length 1
        rwa [show max (cs.length : Int) 1 = cs.length by omega] at this
      simp -implicitDefEqProofs [CL_ret rm, CH_at rm]
      refine CL_post (pick_run Bs (C4.ext hp5) (by omega) (k := cs.length) (by omega)) fun v6 h6 ⟨q', ev, q0, _, q1, C6⟩ => ?_
      subst ev
      have q1 := q1 (by omega)
      obtain ⟨q, rfl⟩ : ∃ q : Nat, q' = q := ⟨q'.toNat, by omega⟩
      simp -implicitDefEqProofs
      refine CL_post (pick_run Bs C6 (by omega) (k := 8) (by omega)) fun v7 h7 ⟨p, ev, p0, _, _, C7⟩ => ?_
      subst ev
      have unch : ∀ {h8 : Hp} {m : Nat}, Cur h h8 h.length (.slice ob bs.length cb) m (.own (.slice ja js.length jc) 4 (js.map encJ) :: .own (.slice qa cs.length qc) 1 (us.map encV) :: inL encI 1 us cs) → ∀ best : Int, icD h (.tuple #[.slice ja js.length jc, .int .i64 o, .int .i64 best, .slice qa cs.length qc]) (gc h h8 (.tuple #[.slice ja js.length jc, .int .i64 o, .int .i64 best, .slice qa cs.length qc])) := fun {h8 m} C best => by
        obtain ⟨a, s, _, _, H⟩ := C
        exact icD.mk' H.pre hjl (by omega) (fun c hc => by have := cb9 c hc; omega) (H.sees 1 rfl) (nest_holds H (by simp) hul fun j u x g1 g2 => by simp only [List.mem_cons]; exact .inr (.inr (.inr (inL_mem g1 g2))))
      have hone : ∀ x ∈ us, one x = true := by
        obtain ⟨a, s, _, _, H⟩ := C7
        exact inL_ones (L1 := [cu h.length (.slice ob bs.length cb) a s, .own (.slice ja js.length jc) 4 (js.map encJ), .own (.slice qa cs.length qc) 1 (us.map encV)]) (L2 := []) (xss := cs) (enc := encI) (sz := 1) (by rw [List.append_nil]; exact H) hul
      by_cases p0' : p = 0
      · subst p0'
        simp -implicitDefEqProofs
        refine CL_post (pick_run Bs C7 (by omega) (k := 5) (by omega)) fun v8 h8 ⟨y, ev, _, _, _, C8⟩ => ?_
        subst ev
        simp -implicitDefEqProofs
        exact onK hK (unch C8 _)
      have n0 : (p == 0) = false := nb p0'
      by_cases p1' : p = 1
      · subst p1'
        obtain ⟨a, s, _, _, H⟩ := C7
        obtain ⟨lo, hi', v', h8, s1, s2, e1, H8, _⟩ := cut_V H 2 rfl (k := q) (by omega) (by omega) hone
        have wq : IntKind.i64.wrap ((q : Int) + 1) = (q : Int) + 1 := by rw [wrap_ok] <;> omega
        have rl : ∀ {h : Hp}, Ret P G n_spec_l1Least [.int .i64 ((q : Int) + 1), .int .i64 cs.length] h (.int .i64 ((q : Int) + 1)) h := fun {h} => l1Least_run (by omega)
        have J8 := H8.sees 1 rfl
        have le : (us.eraseIdx q).length = (cs.eraseIdx q).length := by rw [List.length_eraseIdx_of_lt (by omega), List.length_eraseIdx_of_lt (by omega), hul]
        have N8 := nest_holds (v := v') (us := us.eraseIdx q) (zs := cs.eraseIdx q) H8 (by simp) le fun j u x g1 g2 => by
          have g : ∃ k : Nat, us[k]? = some u ∧ cs[k]? = some x := by
            rw [List.getElem?_eraseIdx] at g1 g2
            by_cases c : j < q
            · rw [if_pos c] at g1 g2; exact ⟨j, g1, g2⟩
            · rw [if_neg c] at g1 g2; exact ⟨j + 1, g1, g2⟩
          obtain ⟨k, k1, k2⟩ := g
          simp only [List.set_cons_succ, List.set_cons_zero, List.mem_cons]
          exact .inr (.inr (.inr (inL_mem k1 k2)))
        have lc8 : (cs.eraseIdx q).length ≤ 2 ^ 20 := by rw [List.length_eraseIdx_of_lt (by omega)]; omega
        have lb8 : ∀ c, c ∈ cs.eraseIdx q → c.length ≤ 2 ^ 20 := fun c hc => by have := cb9 c (List.mem_of_mem_eraseIdx hc); omega
        obtain ⟨va, vn, vcc, rfl⟩ : ∃ a n c, v' = .slice a n c := by obtain ⟨a, c, e⟩ := N8.shape; exact ⟨_, _, _, e⟩
        simp -implicitDefEqProofs [n0, s1, wq, CL_ret rl, CH_at rl, CH_ret rl, s2, e1]
        exact onK hK (icD.mk' H8.pre hjl lc8 lb8 J8 N8)
      have n1 : (p == 1) = false := nb p1'
      by_cases p2' : p = 2
      · subst p2'
        have J7 : Jobs h7 (.slice ja js.length jc) js := by obtain ⟨a, s, _, _, H⟩ := C7; exact H.sees 1 rfl
        simp -implicitDefEqProofs [n0, n1]
        refine CL_post (prefix5_run Bs C7 (by omega) J7 (by omega)) fun w h8 ⟨xs, hxl, C8⟩ => ?_
        obtain ⟨wa, wc, rfl⟩ : ∃ a c, w = .slice a xs.length c := C8.seesI.shapeT
        obtain ⟨a, s, _, _, H⟩ := C8
        obtain ⟨v', h9, e1, H9, _⟩ := push_N0 H 2 rfl (.slice wa xs.length wc) rfl (by omega)
        have J9 := H9.sees 1 rfl
        have N9 := nest_holds (v := v') (us := us ++ [.slice wa xs.length wc]) (zs := cs ++ [xs]) H9 (by simp) (by simp [hul]) fun j u x g1 g2 => by
          by_cases c : j < us.length
          · rw [List.getElem?_append_left c] at g1
            rw [List.getElem?_append_left (by omega)] at g2
            have := inL_mem g1 g2
            simp [this]
          · rw [List.getElem?_append_right (by omega)] at g1
            rw [List.getElem?_append_right (by omega)] at g2
            rw [hul] at g1
            cases hz : j - cs.length with
            | zero => rw [hz] at g1 g2; cases g1; cases g2; simp
            | succ z => rw [hz] at g1; simp at g1
        obtain ⟨va, vn, vcc, rfl⟩ : ∃ a n c, v' = .slice a n c := by obtain ⟨a, c, e⟩ := N9.shape; exact ⟨_, _, _, e⟩
        simp -implicitDefEqProofs [e1]
        exact onK hK (icD.mk' H9.pre hjl (by rw [List.length_append, List.length_singleton]; omega) (fun c hc => by
          rcases List.mem_append.1 hc with g | g
          · have := cb9 c g; omega
          · rw [List.mem_singleton.1 g]; omega) J9 N9)
      have n2 : (p == 2) = false := nb p2'
      by_cases p3' : p = 3
      · subst p3'
        have C7s := C7
        obtain ⟨a, s, _, _, H⟩ := C7
        have N7 : Nest h7 (.slice qa cs.length qc) encI 1 cs us := nest_holds H (by simp) hul fun j u x g1 g2 => by simp only [List.mem_cons]; exact .inr (.inr (.inr (inL_mem g1 g2)))
        obtain ⟨x, hx, _⟩ := drop_at (show q < cs.length by omega)
        obtain ⟨uq, huq, Sq⟩ := N7.at hx
        have lq := load_N (N7.out : Sees h7 _ 1 (us.map encV)) huq
        have Sq : Ints h7 uq x := Sq
        have bx := cb9 x (List.mem_of_getElem? hx)
        obtain ⟨xa, xc, rfl⟩ : ∃ a c, uq = .slice a x.length c := Sq.shapeT
        have lp : (0 : Int) < cs.length := by omega
        by_cases cx : 0 < x.length
        · have cx' : (0 : Int) < x.length := by omega
          have wx : IntKind.i64.wrap ((x.length : Int) - 1) = (x.length : Int) - 1 := by rw [wrap_ok] <;> omega
          have iq : (inL encI 1 us cs)[q]? = some (.own (.slice xa x.length xc) 1 (x.map encI)) := inL_get huq hx
          obtain ⟨LL, hLL⟩ : ∃ LL, LL = (cu h.length (.slice ob bs.length cb) a s :: .own (.slice ja js.length jc) 4 (js.map encJ) :: .own (.slice qa cs.length qc) 1 (us.map encV) :: inL encI 1 us cs) := ⟨_, rfl⟩
          have iq' : LL[q + 3]? = some (.own (.slice xa x.length xc) 1 (x.map encI)) := by rw [hLL]; exact iq
          have i1 : LL[1]? = some (.own (.slice ja js.length jc) 4 (js.map encJ)) := by rw [hLL]; rfl
          have i2 : LL[2]? = some (.own (.slice qa cs.length qc) 1 (us.map encV)) := by rw [hLL]; rfl
          have i3 : ∀ j : Nat, LL[j + 3]? = (inL encI 1 us cs)[j]? := fun j => by rw [hLL]; rfl
          rw [← hLL] at H
          obtain ⟨vq, sq, oq, rq⟩ := (H.own (q + 3) iq').front (P := P) u_S_int i_int (k := .i64) (j := (x.length : Int) - 1) (by omega) (by simp; omega)
          rw [← List.map_take] at oq
          have hyl : (x.take ((x.length : Int) - 1).toNat).length ≤ 9 := by rw [List.length_take]; omega
          generalize x.take ((x.length : Int) - 1).toNat = y at oq hyl
          have H' := H.upd iq' (B := .own vq 1 (y.map encI)) (.ofPre List.prefix_rfl) oq fun r hr => .inl (by show rowV (.slice xa x.length xc) = some r; rw [← rq]; exact hr)
          have llen : LL.length = cs.length + 3 := by rw [hLL]; simp [inL_len hul, hul]
          obtain ⟨fa, fn, fc, rfl⟩ : ∃ a n c, vq = .slice a n c := by obtain ⟨a, c, e⟩ := (H'.sees (q + 3) (List.getElem?_set_self (by omega))).shape; exact ⟨_, _, _, e⟩
          obtain ⟨h8, e1, H8, k8⟩ := put_N H' 2 (by rw [List.getElem?_set_ne (by omega)]; exact i2) (j := q) (by omega) (.slice fa fn fc) rfl
          have J8 := H8.sees 1 (by rw [List.getElem?_set_ne (by omega), List.getElem?_set_ne (by omega)]; exact i1)
          have N8 := nest_holds (v := .slice qa cs.length qc) (us := us.set q (.slice fa fn fc)) (zs := cs.set q y) H8 (List.mem_of_getElem? (i := 2) (List.getElem?_set_self (by rw [List.length_set]; omega))) (by simp [hul]) fun j u z g1 g2 => by
            refine List.mem_of_getElem? (i := j + 3) ?_
            rw [List.getElem?_set_ne (by omega)]
            by_cases c : q = j
            · subst c
              rw [List.getElem?_set_self (by omega)] at g1 g2
              cases g1; cases g2
              exact List.getElem?_set_self (by omega)
            · rw [List.getElem?_set_ne c] at g1 g2
              rw [List.getElem?_set_ne (by omega), i3]
              exact inL_get g1 g2
          simp -implicitDefEqProofs [-indexAddrP_some, n0, n1, n2, cl0, lp, lq, cx, cx', wx, sq, e1]
          exact onK hK (icD.mk' H8.pre hjl (by rw [List.length_set]; omega) (fun c hc => by
            rcases List.mem_or_eq_of_mem_set hc with g | g
            · have := cb9 c g; omega
            · rw [g]; omega) J8 N8)
        · have cx' : ¬ (0 : Int) < x.length := by omega
          have hxn : x = [] := List.eq_nil_of_length_eq_zero (by omega)
          simp -implicitDefEqProofs [-indexAddrP_some, n0, n1, n2, cl0, lp, lq, cx, cx']
          exact onK hK (unch C7s _)
      have n3 : (p == 3) = false := nb p3'
      simp -implicitDefEqProofs [n0, n1, n2, n3]
      exact onK hK (unch C7 _)
end Go.Pm.PP

/- FnCases in the small machine. -/
set_option linter.unusedVariables false
set_option linter.unusedSimpArgs false
set_option maxRecDepth 4000
set_option maxHeartbeats 64000000
namespace Go.Pm.PP
open Go.Pm Go.Proofs Go.Pm.PE
theorem vOwn_run {h : Hp} {v : Value} {xs : List Int} (hv : Ints h v xs) (hn : xs.length ≤ 2 ^ 40) : RunsC P G n_laws_vOwn [v] h fun v' h' => h <+: h' ∧ Own h.length h' v' 1 (xs.map encI) := by
  refine hideC fun K hK => enter_run e_laws_vOwn (by simp) ?_
  have H0 := own_nil (Holds.start (h := h)) Int encI 1
  obtain ⟨v', h', ha, H1, k⟩ := app_I H0 0 rfl hv (by simp; omega)
  simp -implicitDefEqProofs [ha]
  exact onK hK (H1.ret 0 rfl)
theorem rem_ord {n : Nat} {xs : List Int} (hin : inN n xs) (hnd : xs.Nodup) : Ord n (xs ++ rem n xs) :=
  ⟨by rw [List.length_append]; exact rem_card hnd hin, fun x hx => by
    rcases List.mem_append.1 hx with g | g
    · exact hin x g
    · exact (rem_mem g).1, List.nodup_append.2 ⟨hnd, rem_asc.imp fun h => by omega, fun a ha b hb e => (rem_mem hb).2 (e ▸ ha)⟩⟩
theorem own_nest {b h' : Hp} {v : Value} {xss : List (List Int)} (o : OwnN b h' v xss) : ∃ us, Nest h' v encI 1 xss us := by
  obtain ⟨us, hl, H⟩ := o
  exact ⟨us, nest_holds H (by simp) hl fun j u x g1 g2 => List.mem_cons_of_mem _ (inL_mem g1 g2)⟩
theorem okC_okB {js : List Job} {o : Int} (h : okC js o = true) : okB js o = true := by
  obtain ⟨hn, hg, ho⟩ := okC_facts h
  unfold okB jOk
  rw [hg, decide_eq_true hn]
  rcases ho with rfl | rfl <;> rfl
theorem law_Cases {h : Hp} {vc : Value} {bs : List Int} (Sb : Sees h vc 1 (bs.map encU)) (hb : ∀ b, b ∈ bs → 0 ≤ b ∧ b ≤ 255) : Ret P G n_laws_FnCases [vc] h (.bool true) h := by
  refine enter_run e_laws_FnCases (by simp) ?_
  have r0 := vBig_run Sb
  by_cases c0 : (65536 : Int) < bs.length
  · simp -implicitDefEqProofs [CL_ret r0, c0]
  have B : By h vc := ⟨bs, Sb, hb, by omega⟩
  have Sbs := Sb
  obtain ⟨ob, cb, rfl⟩ := Sb.shapeT
  simp -implicitDefEqProofs [CL_ret r0, c0]
  refine CL_post (DrawIsCases_run B) fun v h1 ⟨hp1, js, o, best, cs, u, w, us, ev, hjl, hcl, hcb, J, N⟩ => ?_
  subst ev
  have l1 : js.length ≤ 2 ^ 40 := by omega
  have Js := J
  have Ns := N
  obtain ⟨ja, jc, rfl⟩ := J.shapeT
  obtain ⟨ca, cc, rfl⟩ := N.shape
  have r1 := implIsCases_run (o := o) (best := best) Js l1 Ns (by omega) fun x hx => by have := hcb x hx; omega
  have r2 := specIsCases_run (o := o) (best := best) Js l1 Ns (by omega) fun x hx => by have := hcb x hx; omega
  simp -implicitDefEqProofs [CL_ret r1, CL_ret r2]
  refine CL_post (vCut_run (n := 1) (Sbs.pre hp1) hb (by omega) (by omega)) fun w2 h2 ⟨hp2, B2⟩ => ?_
  have B2' := B2
  obtain ⟨bs2, S2, hb2, hbl2⟩ := B2'
  obtain ⟨o2', c2', rfl⟩ : ∃ a c, w2 = .slice a bs2.length c := S2.shapeT
  simp -implicitDefEqProofs
  refine CL_post (DrawPrefixBound_run B2) fun v h3 ⟨hp3, ks, xs, p, u, w, ev, hkl, hxl, Jk, X⟩ => ?_
  subst ev
  have l2 : ks.length ≤ 2 ^ 40 := by omega
  have Jks := Jk
  have Xs := X
  obtain ⟨ka, kc, rfl⟩ := Jk.shapeT
  obtain ⟨xa, xc, rfl⟩ := X.shapeT
  have r3 := implPrefixBound_run (o := p) Jks l2 Xs (by omega)
  have r4 := specPrefixBound_run (o := p) Jks l2 Xs (by omega)
  simp -implicitDefEqProofs [CL_ret r3, CL_ret r4]
  have p13 := hp2.trans hp3
  have p03 := hp1.trans p13
  refine CL_post (vCut_run (n := 2) (Sbs.pre p03) hb (by omega) (by omega)) fun w4 h4 ⟨hp4, B4⟩ => ?_
  have B4' := B4
  obtain ⟨bs4, S4, hb4, hbl4⟩ := B4'
  obtain ⟨o4, c4, rfl⟩ : ∃ a c, w4 = .slice a bs4.length c := S4.shapeT
  simp -implicitDefEqProofs
  refine CL_post (DrawFindCases_run B4) fun v h5 ⟨hp5, ms, q, u, ev, hml, Jm⟩ => ?_
  subst ev
  have l3 : ms.length ≤ 2 ^ 40 := by omega
  have Jms := Jm
  obtain ⟨ma, mc, rfl⟩ := Jm.shapeT
  simp -implicitDefEqProofs
  refine CL_post (FindCases_run (o := q) Jms l3) fun v h6 ⟨hp6, d6, ev, O6⟩ => ?_
  subst ev
  obtain ⟨zs, hz⟩ : ∃ zs, zs = (casX q ms).getD [] := ⟨_, rfl⟩
  rw [← hz] at O6
  obtain ⟨us6, N6⟩ := own_nest O6
  have N6s := N6
  obtain ⟨fa, fc, rfl⟩ := N6.shape
  simp -implicitDefEqProofs
  refine CL_post (specFindCases_run (o := q) (Jms.pre hp6) l3) fun v h7 ⟨hp7, d7, ev, O7⟩ => ?_
  subst ev
  rw [← hz] at O7
  obtain ⟨us7, N7⟩ := own_nest O7
  have N7s := N7
  obtain ⟨ga, gc', rfl⟩ := N7.shape
  have zl : zs.length ≤ 800 ∧ ∀ x, x ∈ zs → x.length ≤ 9 := by
    cases e : casX q ms with
    | none => rw [e] at hz; rw [hz]; simp
    | some z =>
      rw [e] at hz
      obtain ⟨_, _, a, b, _⟩ := casX_facts e
      rw [hz]; exact ⟨a, b⟩
  have r7 := vTable_run (N6s.pre hp7) N7s (by omega) fun x hx => by have := zl.2 x hx; omega
  have J7 := Jms.pre (hp6.trans hp7)
  have r5 := implSplitGain_run (o := q) J7 l3
  have r6 := specSplitGain_run (o := q) J7 l3
  have p37 := hp4.trans (hp5.trans (hp6.trans hp7))
  have p07 := p03.trans p37
  have Jk7 := Jks.pre p37
  have X7 := Xs.pre p37
  have N67 := N6s.pre hp7
  have Jj7 := Js.pre (p13.trans p37)
  have r9 := implBestValue_run (o := o) Jj7 l1
  cases cV : icV js o best cs
  case' false => simp -implicitDefEqProofs [CL_ret r5, CL_ret r6, CL_ret r7, cV]
  case' true =>
    have k1 : okC js o = true := by unfold icV at cV; rw [Bool.and_eq_true] at cV; exact cV.1
    rw [bR_v (okC_okB k1)] at r9
    have k2 : ¬ bestV o js < best := by have := ic_le cV; omega
    simp -implicitDefEqProofs [CL_ret r5, CL_ret r6, CL_ret r7, cV, CL_ret r9, k2]
  all_goals
    cases cP : pbOk ks xs p
    · simp -implicitDefEqProofs [cP]
      cases eX : casX q ms with
      | none =>
        simp -implicitDefEqProofs
        first
          | exact gcP p07 rfl
          | done
      | some z =>
        rw [eX] at hz
        have hz : zs = z := hz
        subst hz
        obtain ⟨ok, _, z1, z9, icT⟩ := casX_facts eX
        obtain ⟨hnM, hgM, hoM⟩ := okC_facts ok
        have JM := J7.pre (List.prefix_rfl)
        have r10 := implBestValue_run (o := q) JM l3
        rw [bR_v (okC_okB ok)] at r10
        have r11 := implIsCases_run (o := q) (best := bestV q ms) JM l3 (N67.pre (List.prefix_rfl)) (by omega) fun x hx => by have := z9 x hx; omega
        rw [icT, ok] at r11
        have sg : 0 ≤ sgV ms q := by
          unfold sgV; rw [if_pos ok]
          have := bdV_nil_bd hgM hnM hoM
          omega
        simp -implicitDefEqProofs [CL_ret r10, CL_ret r11, sg]
        first
          | exact gcP p07 rfl
          | done
    · obtain ⟨pj, px, hn8, hg, ho⟩ : jOk ks = true ∧ arGo ks.length [] xs = true ∧ ks.length ≤ 8 ∧ goodL ks = true ∧ (p = 2 ∨ p = 4) := by
        have cP2 := cP
        unfold pbOk at cP2
        rw [Bool.and_eq_true, Bool.and_eq_true] at cP2
        have k : okC ks p = true := by unfold okC; rw [Bool.and_eq_true]; exact ⟨cP2.1.1, cP2.2⟩
        obtain ⟨a, b, c⟩ := okC_facts k
        exact ⟨cP2.1.1, cP2.1.2, a, b, c⟩
      obtain ⟨a1, a2, a3⟩ := ar_facts hn8 px
      simp -implicitDefEqProofs [cP]
      refine CL_post (vOwn_run X7 (by omega)) fun v8 h8 ⟨hp8, ho8⟩ => ?_
      have H8 : Holds h7 h8 [.own v8 1 (xs.map encI)] := (Holds.start (h := h7)).call hp8 ho8
      obtain ⟨va, vn, vc8, rfl⟩ : ∃ a n c, v8 = .slice a n c := by obtain ⟨a, c, e⟩ := (H8.sees 0 rfl).shape; exact ⟨_, _, _, e⟩
      simp -implicitDefEqProofs
      refine R_loopO (fun m s h' => ∃ (i : Nat) (u : Value), i + m = ks.length ∧ s = [(11, .slice ka ks.length kc), (12, .slice xa xs.length xc), (13, .int .i64 p), (14, .int .i64 (pbV ks xs p)), (18, .slice ma ms.length mc), (19, .int .i64 q), (20, .slice fa zs.length fc), (21, .bool (casX q ms).isSome), (24, .int .i64 (sgV ms q)), (30, u), (31, .int .i64 i)] ∧ Holds h7 h' [.own u 1 ((xs ++ remT i xs).map encI)]) (fun I hI m s h' => ?_) (n := ks.length) ⟨0, .slice va vn vc8, Nat.zero_add _, by simp, by simpa [remT] using H8⟩
      rintro ⟨i, u, hi, rfl, H⟩
      by_cases hlt : i < ks.length
      · have hlt' : (i : Int) < ks.length := by omega
        have rh := vHas_run (x := (i : Int)) (X7.pre H.pre) (by omega)
        have e := @remT_succ i xs
        have wi := winc hlt (show ks.length ≤ 2 ^ 40 by omega)
        cases c1 : hasL (i : Int) xs
        · rw [c1, if_neg (by simp)] at e
          have hle : (remT i xs).length ≤ i := rem_len' (n := i)
          obtain ⟨v', h9, ha, H9, _⟩ := push_I0 H 0 rfl (i : Int) (by rw [List.length_append]; omega)
          have H9 : Holds h7 h9 [.own v' 1 ((xs ++ remT (i + 1) xs).map encI)] := by
            rw [e, ← List.append_assoc]; exact H9
          simp -implicitDefEqProofs [hlt, hlt', CL_ret rh, CH_at rh, c1, ha, wi]
          exact ⟨m - 1, by omega, on hI ⟨i + 1, v', by omega, rfl, H9⟩⟩
        · rw [c1, if_pos rfl] at e
          rw [← e] at H
          simp -implicitDefEqProofs [hlt, hlt', CL_ret rh, CH_at rh, c1, wi]
          exact ⟨m - 1, by omega, on hI ⟨i + 1, u, by omega, rfl, H⟩⟩
      · have hlt' : ¬ (i : Int) < ks.length := by omega
        have ei : i = ks.length := by omega
        subst ei
        have oR : Ord ks.length (xs ++ rem ks.length xs) := rem_ord a1 a2
        have H : Holds h7 h' [.own u 1 ((xs ++ rem ks.length xs).map encI)] := H
        have Y := H.sees 0 rfl
        have rv := implValueOf_run (o := p) (Jk7.pre H.pre) Y l2 (by have := oR.len; omega)
        have ov : okV ks (xs ++ rem ks.length xs) p = true := by
          unfold okV; rw [pj, ord_ok hn8 oR]
          rcases ho with rfl | rfl <;> rfl
        have le := pre_le hg hn8 ho oR
        have nl : ¬ vOf ks (xs ++ rem ks.length xs) p < pbV ks xs p := by
          unfold vOf pbV; rw [if_pos ov, if_pos cP]; omega
        simp -implicitDefEqProofs [hlt, hlt', CL_ret rv, nl]
        cases eX : casX q ms with
        | none =>
          simp -implicitDefEqProofs
          first
            | exact gcP (p07.trans H.pre) rfl
            | done
        | some z =>
          rw [eX] at hz
          have hz : zs = z := hz
          subst hz
          obtain ⟨ok, _, z1, z9, icT⟩ := casX_facts eX
          obtain ⟨hnM, hgM, hoM⟩ := okC_facts ok
          have JM := J7.pre (H.pre)
          have r10 := implBestValue_run (o := q) JM l3
          rw [bR_v (okC_okB ok)] at r10
          have r11 := implIsCases_run (o := q) (best := bestV q ms) JM l3 (N67.pre (H.pre)) (by omega) fun x hx => by have := z9 x hx; omega
          rw [icT, ok] at r11
          have sg : 0 ≤ sgV ms q := by
            unfold sgV; rw [if_pos ok]
            have := bdV_nil_bd hgM hnM hoM
            omega
          simp -implicitDefEqProofs [CL_ret r10, CL_ret r11, sg]
          first
            | exact gcP (p07.trans H.pre) rfl
            | done
end Go.Pm.PP

/- A code of bytes as an argument, opened as a row. -/
set_option linter.unusedVariables false
set_option linter.unusedSimpArgs false
set_option maxRecDepth 4000
namespace Go.Pm
open Go.ChangeShapes Go.WideShapes
section
variable {P : Program} {H : Type} {enc : TypeId × Value → H} {w : World} {base : Nat} {held : Bool}
theorem flat_encU (xs : List Int) : (xs.map PP.encU).flatten = xs.map fun x => .int .u8 x := by
  induction xs with
  | nil => rfl
  | cons x xs ih => rw [List.map_cons, List.flatten_cons, ih]; rfl
/-- A slice of bytes. -/
theorem shows_bytes {t e : TypeId} {fuel : Nat} {v : Value} {x : DataW H × List MemPlace} (ht : P.underlying t = some (.slice e)) (he : P.underlying e = some (.int .u8)) (hc : P.cellsOf e = 1)
    (hd : DataW.trod enc P w base (fun _ => true) held fuel t [v] = some x) : ∃ xs : List Int, xs.length ≤ maxLen ∧ (∀ b, b ∈ xs → (Lit.int .u8 b).wf = true) ∧ ∀ (ρ : Mp) (h : Hp), Shows ρ h w 1 (xs.map PP.encU) v := by
  rcases open_ints ht he hc hd with ⟨h1, _⟩ | ⟨a, len, cap, zs, h1, _, hl, hm, hz, _, hcell, hwf⟩
  · cases h1
    exact ⟨[], by simp, by simp, fun ρ h => .inl ⟨rfl, rfl⟩⟩
  · cases h1
    simp only [if_true] at hz
    have hlen : (zs.take len).length = len := by rw [List.length_take]; omega
    refine ⟨zs.take len, by omega, fun b hb => hwf b (List.mem_of_mem_take hb), fun ρ h => .inr ⟨a, cap, by rw [List.length_map, hlen], by rw [List.length_map, hlen]; exact hl, ?_, fun k c hk => ?_⟩⟩
    · rcases Nat.eq_zero_or_pos cap with h0 | h0
      · exact .inl h0
      · right
        have := hcell 0 (by omega)
        unfold World.cell? at this
        simp only [Addr.add, if_true] at this
        cases hs : a.spot with
        | none => rfl
        | some s =>
          rw [hs] at this
          split at this <;> simp at this
    · rw [flat_encU, List.getElem?_map] at hk
      obtain ⟨z, hz2, rfl⟩ := Option.map_eq_some_iff.1 hk
      have hk1 := (List.getElem?_eq_some_iff.1 hz2).1
      rw [List.getElem?_take, if_pos (by omega)] at hz2
      refine ⟨_, hcell k (by omega), ?_⟩
      rw [List.getD_eq_getElem?_getD, hz2]
      exact .int _ _
end
end Go.Pm
namespace Go.Pm.PP
open Go.Pm Go.Proofs
theorem follows : P.follows .mixedOrders = true := by kernel_rfl
theorem cells_u8 : P.cellsOf t_u8 = 1 := by kernel_rfl
theorem byte_of {b : Int} (h : (Lit.int .u8 b).wf = true) : 0 ≤ b ∧ b ≤ 255 := by
  simp [Lit.wf, IntKind.min, IntKind.max, IntKind.signed, IntKind.bits] at h
  omega
section
variable {H : Type} {enc : TypeId × Value → H} {W : World} {ρ : Mp} {h : Hp} {v : Value} {n0 : Nat} {x0 : DataW H × List MemPlace}
theorem open_bytes (R : Rel ρ h W) (ha : AllRo h) (d0 : DataW.trod enc P W 0 (fun _ => true) true n0 t_S_u8 [v] = some x0) :
    ∃ (h2 : Hp) (ρ2 : Mp) (p : Value) (xs : List Int), h <+: h2 ∧ Rel ρ2 h2 W ∧ AllRo h2 ∧ Step ρ h ρ2 h2 ∧ VR ρ2 h2 p v ∧ Sees h2 p 1 (xs.map encU) ∧ ∀ b, b ∈ xs → 0 ≤ b ∧ b ≤ 255 := by
  obtain ⟨xs, l0, hw, s0⟩ := shows_bytes (P := P) (v := v) u_S_u8 u_u8 cells_u8 d0
  obtain ⟨h2, ρ2, p, q, R2, a2, t, r, N⟩ := add_slice (w := W) (len_U xs) R ha (s0 ρ h)
  exact ⟨h2, ρ2, p, xs, q, R2, a2, t, r, N, fun b hb => byte_of (hw b hb)⟩
end
end Go.Pm.PP
