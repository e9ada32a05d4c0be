/- The texts PwZa, PwZb, PwZn, PwZc, PwZd, PwZp, PwZe, PwZf, PwZg, PwZh, PwZi, PwZj of this work: Cases, in plain Lean (from another seat's text). -/
import Derived.Test.YtjjjalkfpajckaaP8
/- Cases, in plain Lean (from another seat's text). -/
set_option linter.unusedVariables false
set_option maxHeartbeats 4000000
namespace Go.Pm.PP
open Go.Pm Go.Pm.PE
theorem picks_j {o : Int} {js : List Job} : ∀ {m : Nat} {now : Int} {rs : List Int}, ∀ p, p ∈ picks o js m now rs → 0 ≤ p.1 ∧ p.1 < js.length
  | 0, now, rs, p, hp => by simp [picks] at hp
  | m + 1, now, rs, p, hp => by
    rw [picks] at hp
    split at hp
    · cases hp
    · split at hp
      · exact picks_j p hp
      · rcases List.mem_cons.1 hp with rfl | hp
        · rcases pick_cases (o := o) (js := js) (rs := rs) (now := now) with ⟨g, _⟩ | ⟨b, g, gb, _⟩
          · omega
          · dsimp only; omega
        · exact picks_j p hp
theorem mgs_j {n : Int} : ∀ {ps : List (Int × Int)} {S : List Sp}, (∀ s, s ∈ S → 0 ≤ s.j ∧ s.j < n) → (∀ p, p ∈ ps → 0 ≤ p.1 ∧ p.1 < n) → ∀ s, s ∈ ps.foldl mgS S → 0 ≤ s.j ∧ s.j < n
  | [], S, hS, _ => hS
  | p :: ps, S, hS, hp => by
    rw [List.foldl_cons]
    refine mgs_j (fun s hs => ?_) (fun q hq => hp q (List.mem_cons_of_mem _ hq))
    have hpp := hp p (List.mem_cons_self ..)
    rcases List.eq_nil_or_concat S with rfl | ⟨S1, l, rfl⟩
    · rw [mgS_nil] at hs
      rw [List.mem_singleton.1 hs]; exact hpp
    · rw [List.concat_eq_append] at hs hS
      by_cases c : l.j = p.1 ∧ l.b = p.2
      · rw [mgS_eq c.1 c.2] at hs
        rcases List.mem_append.1 hs with g | g
        · exact hS s (List.mem_append_left _ g)
        · rw [List.mem_singleton.1 g]; exact hS l (List.mem_append_right _ (List.mem_singleton.2 rfl))
      · rw [mgS_ne c] at hs
        rcases List.mem_append.1 hs with g | g
        · exact hS s g
        · rw [List.mem_singleton.1 g]; exact hpp
theorem spanL_j {o : Int} {js : List Job} {now : Int} {rs : List Int} : ∀ s, s ∈ spanL o js now rs → 0 ≤ s.j ∧ s.j < js.length := mgs_j (fun s hs => by cases hs) picks_j
/-! ### cases -/
def casL (f : List Int → Bool) (n : Nat) : Nat → List Int → List (List Int)
  | 0, B => if f B = true then [B] else []
  | k + 1, B => if f B = true then [B] else (rem n B).flatMap fun x => casL f n k (B ++ [x])
def stepS (S : Nat → Int → List (List Int)) (B : List Int) (most : Int) (out : List (List Int)) (i : Nat) : List (List Int) := if (out.length : Int) ≤ most then (if inP B i = true then out else out ++ S i (most - out.length)) else out
def findS (f : List Int → Bool) (n : Nat) : Nat → List Int → Int → List (List Int)
  | 0, B, most => if f B = true then [B] else []
  | k + 1, B, most => if f B = true then [B] else (List.range' 0 n).foldl (stepS (fun i q => findS f n k (B ++ [(i : Int)]) q) B most) []
def findI (f : List Int → Bool) (n : Nat) : Nat → List Int → List (List Int) → Option (List (List Int))
  | 0, B, cs => if f B = true then (if cs.length < 800 then some (cs ++ [B]) else none) else some cs
  | k + 1, B, cs => if f B = true then (if cs.length < 800 then some (cs ++ [B]) else none) else (rem n B).foldl (fun o x => o.bind fun cs => findI f n k (B ++ [x]) cs) (some cs)
theorem stay {S : Nat → Int → List (List Int)} {B : List Int} {most : Int} {out : List (List Int)} (h : most < out.length) : ∀ {l : List Nat}, l.foldl (stepS S B most) out = out
  | [] => rfl
  | i :: l => by
    have e : stepS S B most out i = out := by unfold stepS; rw [if_neg (by omega)]
    rw [List.foldl_cons, e]; exact stay h
theorem steps_law {S : Nat → Int → List (List Int)} {g : Nat → List (List Int)} {B : List Int} {most : Int} (hS : ∀ (i : Nat) (q : Int), 0 ≤ q → (((g i).length : Int) ≤ q → S i q = g i) ∧ (q < ((g i).length : Int) → q < ((S i q).length : Int))) : ∀ {l : List Nat} {out : List (List Int)},
    ((out ++ l.flatMap fun i => if inP B i = true then [] else g i).length ≤ most → l.foldl (stepS S B most) out = out ++ l.flatMap fun i => if inP B i = true then [] else g i) ∧ (most < (out ++ l.flatMap fun i => if inP B i = true then [] else g i).length → most < (l.foldl (stepS S B most) out).length)
  | [], out => by simp
  | i :: l, out => by
    rw [List.flatMap_cons, List.foldl_cons]
    by_cases c : (out.length : Int) ≤ most
    · cases hp : inP B i
      · have e : stepS S B most out i = out ++ S i (most - out.length) := by unfold stepS; rw [if_pos c, hp]; rfl
        obtain ⟨h1, h2⟩ := hS i (most - out.length) (by omega)
        rw [e]
        simp only [Bool.false_eq_true, if_false]
        by_cases c2 : ((g i).length : Int) ≤ most - out.length
        · rw [h1 c2]
          have := @steps_law S g B most hS l (out ++ g i)
          rw [← List.append_assoc]
          exact this
        · have h3 := h2 (by omega)
          rw [stay (by rw [List.length_append]; omega)]
          refine ⟨fun h => ?_, fun _ => by rw [List.length_append]; omega⟩
          simp only [List.length_append] at h
          omega
      · have e : stepS S B most out i = out := by unfold stepS; rw [if_pos c, hp]; rfl
        rw [e]
        simp only [if_true, List.nil_append]
        exact steps_law hS
    · have e : stepS S B most out i = out := by unfold stepS; rw [if_neg c]
      rw [e, stay (by omega)]
      refine ⟨fun h => ?_, fun _ => by omega⟩
      simp only [List.length_append] at h
      omega
theorem flat_filter {g : Int → List (List Int)} {B : List Int} : ∀ {l : List Nat}, (l.flatMap fun i => if inP B i = true then [] else g (i : Int)) = ((l.map fun i : Nat => (i : Int)).filter fun x => !B.any (· == x)).flatMap g
  | [] => rfl
  | i :: l => by
    rw [List.flatMap_cons, flat_filter, List.map_cons, List.filter_cons]
    cases hp : inP B i
    · rw [inP] at hp
      rw [hp]; simp
    · rw [inP] at hp
      rw [hp]; simp
theorem findS_law {f : List Int → Bool} {n : Nat} : ∀ {k : Nat} {B : List Int} {most : Int}, 0 ≤ most → ((casL f n k B).length ≤ most → findS f n k B most = casL f n k B) ∧ (most < (casL f n k B).length → most < (findS f n k B most).length)
  | 0, B, most, h0 => by
    rw [casL, findS]; exact ⟨fun _ => rfl, fun h => h⟩
  | k + 1, B, most, h0 => by
    rw [casL, findS]
    split
    · exact ⟨fun _ => rfl, fun h => h⟩
    · have := @steps_law (fun i q => findS f n k (B ++ [(i : Int)]) q) (fun i => casL f n k (B ++ [(i : Int)])) B most (fun i q hq => findS_law hq) (List.range' 0 n) []
      rw [List.nil_append, flat_filter (g := fun x => casL f n k (B ++ [x]))] at this
      exact this
theorem findI_law {f : List Int → Bool} {n : Nat} : ∀ {k : Nat} {B : List Int} {cs : List (List Int)}, cs.length ≤ 800 → findI f n k B cs = if (cs ++ casL f n k B).length ≤ 800 then some (cs ++ casL f n k B) else none
  | 0, B, cs, h => by
    rw [findI, casL]
    split
    · rw [List.length_append, List.length_singleton]
      by_cases c : cs.length < 800
      · rw [if_pos c, if_pos (by omega)]
      · rw [if_neg c, if_neg (by omega)]
    · rw [List.append_nil, if_pos h]
  | k + 1, B, cs, h => by
    rw [findI, casL]
    split
    · rw [List.length_append, List.length_singleton]
      by_cases c : cs.length < 800
      · rw [if_pos c, if_pos (by omega)]
      · rw [if_neg c, if_neg (by omega)]
    · have none_stay : ∀ l : List Int, l.foldl (fun (o : Option (List (List Int))) x => o.bind fun cs => findI f n k (B ++ [x]) cs) none = none := fun l => by
        induction l with
        | nil => rfl
        | cons x l ih => rw [List.foldl_cons]; exact ih
      have go : ∀ (l : List Int) (cs : List (List Int)), cs.length ≤ 800 → l.foldl (fun (o : Option (List (List Int))) x => o.bind fun cs => findI f n k (B ++ [x]) cs) (some cs) = if (cs ++ l.flatMap fun x => casL f n k (B ++ [x])).length ≤ 800 then some (cs ++ l.flatMap fun x => casL f n k (B ++ [x])) else none := fun l => by
        induction l with
        | nil => intro cs hc; rw [List.flatMap_nil, List.append_nil, if_pos hc]; rfl
        | cons x l ih =>
          intro cs hc
          rw [List.foldl_cons, Option.bind_some, findI_law hc, List.flatMap_cons]
          by_cases c : (cs ++ casL f n k (B ++ [x])).length ≤ 800
          · rw [if_pos c, ih _ c, List.append_assoc]
          · rw [if_neg c, none_stay, if_neg]
            simp only [List.length_append] at c ⊢
            omega
      exact go _ cs h
theorem findS_len {f : List Int → Bool} {n : Nat} (hn : n ≤ 8) : ∀ {k : Nat} {B : List Int} {most : Int}, (findS f n k B most).length ≤ 9 ^ k
  | 0, B, most => by
    rw [findS]; split <;> simp
  | k + 1, B, most => by
    have p : 1 ≤ 9 ^ k := Nat.one_le_pow _ _ (by omega)
    rw [findS]
    split
    · simp only [List.length_singleton]; rw [Nat.pow_succ]; omega
    · have go : ∀ (l : List Nat) (out : List (List Int)), (l.foldl (stepS (fun i q => findS f n k (B ++ [(i : Int)]) q) B most) out).length ≤ out.length + l.length * 9 ^ k := fun l => by
        induction l with
        | nil => intro out; simp
        | cons i l ih =>
          intro out
          rw [List.foldl_cons]
          refine Nat.le_trans (ih _) ?_
          have s : (stepS (fun i q => findS f n k (B ++ [(i : Int)]) q) B most out i).length ≤ out.length + 9 ^ k := by
            unfold stepS
            split
            · split
              · omega
              · have := @findS_len f n hn k (B ++ [(i : Int)]) (most - out.length)
                rw [List.length_append]; dsimp only; omega
            · omega
          rw [List.length_cons, Nat.add_mul]; omega
      have := go (List.range' 0 n) []
      rw [List.length_range', List.length_nil, Nat.zero_add] at this
      have h8 : n * 9 ^ k ≤ 8 * 9 ^ k := Nat.mul_le_mul_right _ hn
      rw [Nat.pow_succ]; omega
end Go.Pm.PP

/- Cases: turned from the texts of another seat (Pl5). -/
set_option linter.unusedVariables false
set_option linter.unusedSimpArgs false
set_option maxRecDepth 4000
set_option maxHeartbeats 8000000
namespace Go.Pm.PP
open Go.Pm Go.Proofs Go.Pm.PE
section
variable {h : Hp} {vj vr : Value} {js : List Job} {rs B : List Int} {o now : Int}
theorem l5Bound_run (hj : Jobs h vj js) (hr : Ints h vr B) (hg : goodL js = true) (hn : js.length ≤ 8) (hB : B.length ≤ 8) (hin : inN js.length B) (ho : o = 2 ∨ o = 4) : Ret P G n_spec_l5Bound [vj, vr, .int .i64 o] h (.int .i64 (bdV o js B)) h := by
  refine enter_run e_spec_l5Bound (by simp) ?_
  have hjs := hj
  have hrs := hr
  obtain ⟨oj, cj, rfl⟩ := hj.shapeT
  obtain ⟨oa, c, rfl⟩ := hr.shapeT
  simp -implicitDefEqProofs
  refine CL_post (l5Rests_run hjs hn) fun v1 h1 ⟨hp1, ho1⟩ => ?_
  have H1 := (Holds.start (h := h)).call hp1 ho1
  obtain ⟨ox, cx, rfl⟩ : ∃ a c, v1 = .slice a js.length c := by obtain ⟨a, c, e⟩ := ho1.sees.shapeT; exact ⟨a, c, by rw [e, restL_len]⟩
  obtain ⟨vz, h2, mk, H2, hp2, oz, rfl⟩ := make_I H1 (n := js.length) (by omega)
  have bE := bdE_bd (o := o) hg hB hin
  have bC := bd_ch hg hn hin
  have bN := @nwGo_bd js hg B 0 0 hin (by omega) (by omega)
  unfold bdV
  have eE : bdE o js B = apS (endsL js B) (picks o js FU (nwGo js B 0) (restL js B)) := rfl
  have lE : (bdE o js B).length = js.length := by rw [eE, apS_len, endsL_len]
  generalize bdE o js B = X at bE eE lE
  simp -implicitDefEqProofs [mk]
  refine R_loopO (fun m s h' => ∃ (i : Nat) (now : Int) (E : List Int), i + m = B.length ∧ s = [(0, .slice oj js.length cj), (1, .slice oa B.length c), (2, .int .i64 o), (7, .slice ox js.length cx), (8, .int .i64 now), (9, .slice oz js.length js.length), (10, .int .i64 i)] ∧
    Holds h h' [.own (.slice ox js.length cx) 1 ((restL js (B.take i)).map encI), .own (.slice oz js.length js.length) 1 (E.map encI)] ∧ endsL js B = endGo js (B.drop i) now E ∧ nwGo js B 0 = nwGo js (B.drop i) now ∧ E.length = js.length ∧ 0 ≤ now ∧ now ≤ 550 * i) (fun I hI m s h' => ?_) ⟨0, 0, List.replicate js.length 0, Nat.zero_add _, by simp, H2, rfl, rfl, by simp, by omega, by omega⟩
  rintro ⟨i, nw, E, hi, rfl, H, hx, hw, hE, n0, n1⟩
  by_cases hlt : i < B.length
  · obtain ⟨x, hxx, hd⟩ := drop_at hlt
    rw [hd, endGo] at hx
    rw [hd, nwGo] at hw
    obtain ⟨k, hk, hkl, hky⟩ := jA_get rfl (hin x (List.mem_of_getElem? hxx))
    have jb := job_of (job_at hg hky)
    have et : B.take i ++ [x] = B.take (i + 1) := (take_succ' hxx).symm
    generalize hJ : jA js x = y at hx hw hky jb
    subst hk
    rw [Int.toNat_natCast] at hx
    have lx := load_I (hrs.pre H.pre) hxx
    have ly := load_J (hjs.pre H.pre) hky
    obtain ⟨M, hM⟩ : ∃ M, M = max nw y.r := ⟨_, rfl⟩
    rw [← hM] at hx hw
    have lm : ∀ {h : Hp}, Ret P G n_spec_l1Most [.int .i64 nw, .int .i64 y.r] h (.int .i64 M) h := fun {h} => by rw [hM]; exact l1Most_run
    have wM : IntKind.i64.wrap (M + y.t) = M + y.t := by rw [wrap_ok] <;> omega
    have ix := (load_I (H.sees 1 rfl) (gE_get (l := E) (i := k) (by omega))).1
    obtain ⟨h3, s3, H3, _⟩ := put_I H 1 rfl (j := k) (by omega) (M + y.t)
    have ix2 := (load_I (H3.sees 0 rfl) (gE_get (l := restL js (B.take i)) (i := k) (by rw [restL_len]; omega))).1
    obtain ⟨h4, s4, H4, _⟩ := put_I H3 0 rfl (j := k) (by rw [restL_len]; omega) 0
    rw [restL_snoc hkl, et] at H4
    simp -implicitDefEqProofs [-indexAddrP_some, hlt, lx, ly, CL_ret lm, CH_at lm, CH_ret lm, wM, ix, s3, ix2, s4, winc hlt (by omega)]
    exact ⟨m - 1, by omega, on hI ⟨i + 1, M + y.t, E.set k (M + y.t), by omega, rfl, H4, hx, hw, by rw [List.length_set]; exact hE, by omega, by omega⟩⟩
  · rw [List.drop_eq_nil_of_le (by omega)] at hx hw
    rw [endGo] at hx
    rw [nwGo] at hw
    rw [List.take_of_length_le (by omega)] at H
    rw [hx, hw] at eE
    rw [hw] at bC bN
    simp -implicitDefEqProofs [hlt]
    refine CL_post (l5Choose_run (hjs.pre H.pre) (H.sees 0 rfl) hg hn bC (by omega) ho) fun v5 h5 ⟨hp5, ho5⟩ => ?_
    have hSl := @spanL_len o js nw (restL js B)
    have hSj := spanL_j (o := o) (js := js) (now := nw) (rs := restL js B)
    rw [← foldS_span (E := E)] at eE
    generalize spanL o js nw (restL js B) = S at ho5 hSl hSj eE
    have H5 := H.call hp5 ho5
    have hF : FU = 1000 := rfl
    obtain ⟨os, cs, rfl⟩ := ho5.sees.shapeT
    simp -implicitDefEqProofs
    refine R_loopO (fun m s h' => ∃ (i : Nat) (E' : List Int), i + m = S.length ∧ s = [(0, .slice oj js.length cj), (2, .int .i64 o), (9, .slice oz js.length js.length), (12, .slice os S.length cs), (13, .int .i64 i)] ∧
      Holds h h' [.own (.slice ox js.length cx) 1 ((restL js B).map encI), .own (.slice oz js.length js.length) 1 (E'.map encI), .own (.slice os S.length cs) 3 (S.map encS)] ∧ X = foldS E' (S.drop i) ∧ E'.length = js.length) (fun I2 hI2 m2 s h' => ?_) (n := S.length) ⟨0, E, Nat.zero_add _, by simp, H5, by simpa using eE, hE⟩
    rintro ⟨i2, E', hi2, rfl, H', hx', hE'⟩
    by_cases hlt2 : i2 < S.length
    · obtain ⟨p, hpp, hd⟩ := drop_at hlt2
      have hpj := hSj p (List.mem_of_getElem? hpp)
      rw [hd] at hx'
      obtain ⟨k, hk⟩ : ∃ k : Nat, p.j = k := ⟨p.j.toNat, by omega⟩
      have lp := load_S (H'.sees 2 rfl) hpp
      rw [hk] at lp
      have ix := (load_I (H'.sees 1 rfl) (gE_get (l := E') (i := k) (by omega))).1
      obtain ⟨h6, s6, H6, _⟩ := put_I H' 1 rfl (j := k) (by omega) p.b
      have hx2 : X = foldS (E'.set k p.b) (S.drop (i2 + 1)) := by rw [hx']; show foldS (E'.set p.j.toNat p.b) _ = _; rw [hk, Int.toNat_natCast]
      simp -implicitDefEqProofs [-indexAddrP_some, hlt2, lp, ix, s6, winc hlt2 (by omega)]
      exact ⟨m2 - 1, by omega, on hI2 ⟨i2 + 1, _, by omega, rfl, H6, hx2, by rw [List.length_set]; exact hE'⟩⟩
    · rw [List.drop_eq_nil_of_le (by omega)] at hx'
      have hx2 : X = E' := hx'
      subst hx2
      have ro := l2Of_run (o := o) (hjs.pre H'.pre) (H'.sees 1 rfl) hg hn lE bE (by omega)
      simp -implicitDefEqProofs [hlt2, CL_ret ro]
      exact gcP H'.pre rfl
end
end Go.Pm.PP

/- Typed rules for slices: printed by a program of this work (wrap.py). -/
set_option linter.unusedVariables false
set_option linter.unusedSimpArgs false
set_option maxRecDepth 4000
namespace Go.Pm.PP
open Go.Pm Go.Proofs
theorem load_N {h : Hp} {v : Value} {xs : List (Value)} {i : Nat} {x : Value} (hv : Sees h v 1 (xs.map encV)) (hx : xs[i]? = some x) :
    indexAddrP P h t_S_S_int v (.int .i64 i) = some (.pointer (some (addP (base v) (i)))) ∧ loadP P h t_S_int (.pointer (some (addP (base v) (i)))) = some (x) := by
  have hi := (List.getElem?_eq_some_iff.1 hx).1
  have h1 := hv.indexT (P := P) u_S_S_int i_S_int (k := .i64) (j := i) (by omega) (by omega)
  rw [Int.toNat_natCast] at h1
  have h2 := hv.cellT (P := P) (ty := t_S_int) a_S_int i_S_int hx (k := 0) (by omega)
  exact ⟨by simpa using h1, by simpa [encV] using h2⟩
theorem ones_N (xs : List (Value)) (hone : ∀ x ∈ xs, one x = true) : (xs.map encV).flatten.all one = true := by
  induction xs with
  | nil => rfl
  | cons x xs ih => rw [List.map_cons, List.flatten_cons, List.all_append, ih fun y hy => hone y (List.mem_cons_of_mem _ hy)]; simp [encV, -one, hone x (List.mem_cons_self ..)]
theorem push_N0 {h0 h : Hp} {L : List Asn} (H : Holds h0 h L) (i : Nat) {v : Value} {xs : List (Value)} (hi : L[i]? = some (.own v 1 (xs.map encV))) (x : Value) (hone : one x = true) (hn : xs.length ≤ 2 ^ 40) :
    ∃ v' h', appendP P (h ++ [some ⟨[x], 1, false⟩]) t_S_S_int v (.slice (some ⟨h.length, 0, some 1⟩) 1 1) = some (v', h') ∧ Holds h0 h' (L.set i (.own v' 1 ((xs ++ [x]).map encV))) ∧ Keeps (rowV v) h h' ∧ (rowV v = none → newOk (h ++ [some ⟨[x], 1, false⟩]) h') := by
  obtain ⟨v', h', g1, g2, g3, g4⟩ := (H.ext (List.prefix_append h [])).push (P := P) i (y := encV x) (n := 1) hi u_S_S_int e_t_S_int z_t_S_int s_t_S_int (by omega) (by rw [b_t_S_int]; omega) rfl rfl (by simp [encV, -one, hone]) (by rw [b_t_S_int]; simp; omega)
  rw [show xs.map encV ++ [encV x] = (xs ++ [x]).map encV by simp] at g2
  exact ⟨v', h', by simpa [encV] using g1, g2, Keeps.app.trans g3, by simpa [encV] using g4⟩
theorem app_N {h0 h : Hp} {L : List Asn} (H : Holds h0 h L) (i : Nat) {v u : Value} {xs ys : List (Value)} (hi : L[i]? = some (.own v 1 (xs.map encV))) (s : Sees h u 1 (ys.map encV)) (hone : ∀ x ∈ ys, one x = true) (hn : xs.length + ys.length ≤ 2 ^ 40) :
    ∃ v' h', appendP P h t_S_S_int v u = some (v', h') ∧ Holds h0 h' (L.set i (.own v' 1 ((xs ++ ys).map encV))) ∧ Keeps (rowV v) h h' := by
  obtain ⟨v', h', g1, g2, g3⟩ := H.app (P := P) i hi u_S_S_int e_t_S_int z_t_S_int s_t_S_int (by omega) (by rw [b_t_S_int]; omega) s (ones_N ys hone) (by rw [b_t_S_int]; simp; omega)
  rw [← List.map_append] at g2
  exact ⟨v', h', g1, g2, g3⟩
theorem put_N {h0 h : Hp} {L : List Asn} (H : Holds h0 h L) (i : Nat) {v : Value} {xs : List (Value)} (hi : L[i]? = some (.own v 1 (xs.map encV))) {j : Nat} (hj : j < xs.length) (x : Value) (hone : one x = true) :
    ∃ h', storeP P h t_S_int (x) (.pointer (some (addP (base v) (j)))) = some h' ∧ Holds h0 h' (L.set i (.own v 1 ((xs.set j x).map encV))) ∧ Keeps (rowV v) h h' := by
  have := H.put (P := P) i (t := t_S_int) (w := x) (j := j) hi i_S_int (by simpa using hj) (by cases x <;> first | rfl | cases hone) (by cases x <;> first | rfl | cases hone)
  rw [show (x : Value).cells.toList = [x] by cases x <;> first | rfl | cases hone] at this
  simpa [List.map_set, encV] using this
end Go.Pm.PP

/- Cases: turned from the texts of another seat (Pl7 Pl8). -/
set_option linter.unusedVariables false
set_option linter.unusedSimpArgs false
set_option maxRecDepth 4000
set_option maxHeartbeats 8000000
namespace Go.Pm
theorem inL_append {α : Type} {enc : α → List Value} {sz : Nat} : ∀ {us vs : List Value} {xs ys : List (List α)}, us.length = xs.length → inL enc sz (us ++ vs) (xs ++ ys) = inL enc sz us xs ++ inL enc sz vs ys
  | [], vs, [], ys, _ => by simp [inL]
  | u :: us, vs, x :: xs, ys, h => by rw [List.cons_append, List.cons_append, inL, inL, List.cons_append, inL_append (by simpa using h)]
  | [], _, x :: xs, _, h => by simp at h
  | u :: us, _, [], _, h => by simp at h
theorem inL_ones {α : Type} {enc : α → List Value} {sz : Nat} {h0 h : Hp} {L1 L2 : List Asn} {us : List Value} {xss : List (List α)} (H : Holds h0 h (L1 ++ (inL enc sz us xss ++ L2))) (hl : us.length = xss.length) : ∀ x ∈ us, one x = true := by
  intro x hx
  obtain ⟨i, hi⟩ := List.getElem?_of_mem hx
  have hil := (List.getElem?_eq_some_iff.1 hi).1
  have s := H.sees (L1.length + i) (v := x) (sz := sz) (els := (xss[i]).map enc) (by
    rw [List.getElem?_append_right (by omega), Nat.add_sub_cancel_left, List.getElem?_append_left (by rw [inL_len hl]; exact hil)]
    exact inL_get hi (List.getElem?_eq_getElem (by omega)))
  obtain ⟨a, c, e⟩ := s.shape
  rw [e]; rfl
end Go.Pm
namespace Go.Pm.PP
open Go.Pm Go.Proofs Go.Pm.PE
/-- What is returned: a list of lists of one's own. -/
def OwnN (b h : Hp) (v : Value) (xss : List (List Int)) : Prop := ∃ us : List Value, us.length = xss.length ∧ Holds b h (.own v 1 (us.map encV) :: inL encI 1 us xss)
/-- What is returned with whether there is one. -/
def retN (x : Option (List (List Int))) (v : Value) (b h' : Hp) : Prop := ∃ u, v = .tuple #[u, .bool x.isSome] ∧ OwnN b h' u (x.getD [])
theorem OwnN.nil {b h' : Hp} (hp : b <+: h') : OwnN b h' nilV [] := ⟨[], rfl, own_nil (Holds.none hp) _ _ _⟩
theorem retN.none {b h' : Hp} (hp : b <+: h') : b <+: gc b h' (.tuple #[nilV, .bool false]) ∧ retN none (.tuple #[nilV, .bool false]) b (gc b h' (.tuple #[nilV, .bool false])) :=
  ⟨pre_gcU hp, nilV, rfl, OwnN.nil (pre_gcU hp)⟩
theorem retN.some {b h' : Hp} {u : Value} {xss : List (List Int)} (o : OwnN b h' u xss) : b <+: gc b h' (.tuple #[u, .bool true]) ∧ retN (some xss) (.tuple #[u, .bool true]) b (gc b h' (.tuple #[u, .bool true])) := by
  obtain ⟨us, hl, H⟩ := o
  have G := H.gcN (u := .tuple #[u, .bool true]) hl (fun h => by
    have : (#[u, .bool true] : Array Value).toList.all plainC = true := h
    simp only [List.all_cons, Bool.and_eq_true] at this
    exact this.1)
  exact ⟨G.pre, u, rfl, us, hl, G⟩
theorem OwnN.shape {b h : Hp} {v : Value} {xss : List (List Int)} (o : OwnN b h v xss) : ∃ a c, v = .slice a xss.length c := by
  obtain ⟨us, hl, H⟩ := o
  obtain ⟨a, c, e⟩ := (H.sees 0 rfl).shapeT
  exact ⟨a, c, by rw [e, hl]⟩
theorem OwnN.pre {b h : Hp} {v : Value} {xss : List (List Int)} (o : OwnN b h v xss) : b <+: h := by obtain ⟨us, hl, H⟩ := o; exact H.pre
/-- A list of lists of one's own is put behind another. -/
theorem app_lists {h0 h h6 h7 : Hp} {L1 : List Asn} {v w : Value} {us : List Value} {xss R : List (List Int)} (hl : us.length = xss.length) (H : Holds h0 h (L1 ++ (inL encI 1 us xss ++ []))) (o : Nat) (ho : L1[o]? = some (.own v 1 (us.map encV))) (hp : h <+: h6) (C : OwnN h6 h7 w R) (hn : us.length + R.length ≤ 2 ^ 40) :
    ∃ us7 v' h8, appendP P h7 t_S_S_int v w = some (v', h8) ∧ us7.length = R.length ∧ Holds h0 h8 (L1.set o (.own v' 1 ((us ++ us7).map encV)) ++ (inL encI 1 (us ++ us7) (xss ++ R) ++ [])) := by
  obtain ⟨us7, hl7, H7⟩ := C
  have HJ := Holds.joinT (A := [.own w 1 (us7.map encV)]) (M := inL encI 1 us7 R) (H.ext hp) H7
  have hol := (List.getElem?_eq_some_iff.1 ho).1
  have hone := inL_ones (L1 := [.own w 1 (us7.map encV)]) (L2 := []) (by simpa using H7) hl7
  obtain ⟨v', h8, ha, H8, _⟩ := app_N HJ o (by rw [List.getElem?_append_left (by simp; omega), List.getElem?_append_left hol]; exact ho) (u := w) (ys := us7) (HJ.sees L1.length (by rw [List.getElem?_append_left (by simp), List.getElem?_append_right (Nat.le_refl _), Nat.sub_self]; rfl)) hone (by omega)
  refine ⟨us7, v', h8, ha, hl7, ?_⟩
  rw [List.set_append_left _ _ (by simp; omega), List.set_append_left _ _ hol] at H8
  have H9 := H8.cut.swap
  rw [inL_append hl, List.append_assoc]
  exact H9
theorem nodup_len {n : Nat} {B : List Int} (hnd : B.Nodup) (hin : inN n B) : B.length ≤ n := by
  rcases Nat.lt_or_ge n B.length with g | g
  · have := pigeon B (upTo (n + 1)) hnd (fun x hx => mem_upTo.2 (by have := hin x hx; omega)) (by rw [upTo_len]; omega) n (mem_upTo.2 (by omega))
    have := hin _ this
    omega
  · exact g
theorem in_snoc {n : Nat} {B : List Int} {i : Nat} (hin : inN n B) (hi : i < n) : inN n (B ++ [(i : Int)]) := fun x hx => by
  rcases List.mem_append.1 hx with g | g
  · exact hin x g
  · rw [List.mem_singleton.1 g]; omega
theorem nd_snoc {B : List Int} {x : Int} (hnd : B.Nodup) (hx : x ∉ B) : (B ++ [x]).Nodup := List.nodup_append.2 ⟨hnd, by simp, fun a ha c hc => by rw [List.mem_singleton.1 hc]; intro e; exact hx (e ▸ ha)⟩
def bdB (o : Int) (js : List Job) (val : Int) (B : List Int) : Bool := decide (val ≤ bdV o js B)
theorem l5Find_run {js : List Job} {o val : Int} (hg : goodL js = true) (hn : js.length ≤ 8) (ho : o = 2 ∨ o = 4) : ∀ {k : Nat} {h : Hp} {vj vb : Value} {B : List Int} {most : Int}, Jobs h vj js → Ints h vb B → B.length + k = js.length + 1 → inN js.length B → B.Nodup → 0 ≤ most → most ≤ 2 ^ 20 →
    RunsC P G n_spec_l5Find [vj, vb, .int .i64 o, .int .i64 val, .int .i64 most] h fun v h' => h <+: h' ∧ OwnN h h' v (findS (bdB o js val) js.length k B most)
  | 0, h, vj, vb, B, most, J, Bv, hk, hin, hnd, m0, m1 => by
    have := nodup_len hnd hin
    omega
  | k + 1, h, vj, vb, B, most, J, Bv, hk, hin, hnd, m0, m1 => by
    refine hideC fun K hK => enter_run e_spec_l5Find (by simp) ?_
    have Js := J
    have Bs := Bv
    obtain ⟨oj, cj, rfl⟩ := J.shapeT
    obtain ⟨ob, cb, rfl⟩ := Bv.shapeT
    have rb := l5Bound_run (o := o) Js Bs hg hn (by omega) hin ho
    rw [findS] at hK
    by_cases c1 : val ≤ bdV o js B
    · rw [if_pos (by simpa [bdB] using c1)] at hK
      simp -implicitDefEqProofs [CL_ret rb, c1]
      refine CL_post (l1Own_run Bs (by omega)) fun v1 h1 ⟨hp1, ho1⟩ => ?_
      have H1 := (Holds.start (h := h)).call hp1 ho1
      obtain ⟨a1, n1, c1, rfl⟩ : ∃ a n c, v1 = .slice a n c := by obtain ⟨a, c, e⟩ := ho1.sees.shapeT; exact ⟨_, _, _, e⟩
      have H2 : Holds h (h1 ++ [some ⟨[.slice a1 n1 c1], 1, false⟩]) ([] ++ [.own (.slice a1 n1 c1) 1 (B.map encI)] ++ [.own (.slice (some ⟨h1.length, 0, some 1⟩) 1 1) 1 (([.slice a1 n1 c1] : List Value).map encV)]) := by
        have := H1.lit (sz := 1) (n := 1) (els := [[Value.slice a1 n1 c1]]) (by simp) (by simp)
        simpa [encV] using this
      have H3 : Holds h (h1 ++ [some ⟨[.slice a1 n1 c1], 1, false⟩]) (.own (.slice (some ⟨h1.length, 0, some 1⟩) 1 1) 1 (([.slice a1 n1 c1] : List Value).map fun u => [u]) :: inL encI 1 [.slice a1 n1 c1] [B]) := H2.perm (List.Perm.swap _ _ _)
      simp -implicitDefEqProofs
      exact onK hK ⟨pre_gcU H3.pre, [.slice a1 n1 c1], rfl, H3.gcN rfl (by simp [plain])⟩
    · rw [if_neg (by simpa [bdB] using c1)] at hK
      have p9 : ∀ B' most', (findS (bdB o js val) js.length k B' most').length ≤ 9 ^ 8 := fun B' most' => Nat.le_trans (findS_len hn) (Nat.pow_le_pow_right (by omega) (by omega))
      have e9 : (9 : Nat) ^ 8 = 43046721 := by decide
      rw [e9] at p9
      generalize hX : (List.range' 0 js.length).foldl (stepS (fun i q => findS (bdB o js val) js.length k (B ++ [(i : Int)]) q) B most) [] = X at hK
      have H0 := own_nil (Holds.start (h := h)) Value encV 1
      simp -implicitDefEqProofs [CL_ret rb, c1]
      refine R_loopO (fun m st h' => ∃ (i : Nat) (u : Value) (us : List Value) (acc : List (List Int)), i + m = js.length ∧ st = [(0, .slice oj js.length cj), (1, .slice ob B.length cb), (2, .int .i64 o), (3, .int .i64 val), (4, .int .i64 most), (11, u), (12, .int .i64 i)] ∧ us.length = acc.length ∧ acc.length ≤ 2 ^ 30 ∧
        X = (List.range' i m).foldl (stepS (fun i q => findS (bdB o js val) js.length k (B ++ [(i : Int)]) q) B most) acc ∧ Holds h h' ([.own u 1 (us.map encV)] ++ (inL encI 1 us acc ++ []))) (fun I hI m st h' => ?_) (n := js.length)
        ⟨0, .slice none 0 0, [], [], Nat.zero_add _, by simp, rfl, by simp, hX.symm, H0⟩
      rintro ⟨i, u, us, acc, hi, rfl, hul, hal, hx, H⟩
      obtain ⟨ua, uc, rfl⟩ : ∃ a c, u = .slice a acc.length c := by obtain ⟨a, c, e⟩ := (H.sees 0 rfl).shapeT; exact ⟨a, c, by rw [e, hul]⟩
      have ret : X = acc → K (.slice ua acc.length uc) (gc h h' (.slice ua acc.length uc)) := fun e => by
        rw [List.append_nil] at H
        have G := Holds.gcN (u := .slice ua acc.length uc) H hul (fun h => h)
        exact onK hK ⟨G.pre, us, by rw [e]; exact hul, by rw [e]; exact G⟩
      by_cases hlt : i < js.length
      · by_cases c2 : (acc.length : Int) ≤ most
        · obtain ⟨m', rfl⟩ : ∃ m', m = m' + 1 := ⟨m - 1, by omega⟩
          rw [List.range'_succ, List.foldl_cons] at hx
          have rh := l1Has_run (x := (i : Int)) (Bs.pre H.pre) (by omega)
          have wi := winc hlt (show js.length ≤ 2 ^ 40 by omega)
          cases c3 : hasL (i : Int) B
          · have hni : (i : Int) ∉ B := fun g => by rw [hasL_iff'.2 g] at c3; cases c3
            have e : stepS (fun i q => findS (bdB o js val) js.length k (B ++ [(i : Int)]) q) B most acc i = acc ++ findS (bdB o js val) js.length k (B ++ [(i : Int)]) (most - acc.length) := by
              unfold stepS; rw [if_pos c2, show inP B i = false from c3]; rfl
            rw [e] at hx
            have wm : IntKind.i64.wrap (most - acc.length) = most - acc.length := by rw [wrap_ok] <;> omega
            simp -implicitDefEqProofs [hlt, c2, CL_ret rh, c3]
            refine CL_post (l1Own_run (Bs.pre H.pre) (by omega)) fun v5 h5 ⟨hp5, ho5⟩ => ?_
            have H5 : Holds h' h5 [.own v5 1 (B.map encI)] := (Holds.start (h := h')).call hp5 ho5
            obtain ⟨v6, h6, ha6, H6, k6, _⟩ := push_I0 H5 0 rfl (i : Int) (by omega)
            have H6' : Holds h' h6 [.own v6 1 ((B ++ [(i : Int)]).map encI)] := H6
            have ih := l5Find_run (val := val) hg hn ho (k := k) (most := most - acc.length) (Js.pre (H.pre.trans H6'.pre)) (H6'.sees 0 rfl) (by simp; omega) (in_snoc hin hlt) (nd_snoc hnd hni) (by omega) (by omega)
            simp -implicitDefEqProofs [ha6, wm]
            refine CL_post ih fun v7 h7 ⟨hp7, o7⟩ => ?_
            have l7 := p9 (B ++ [(i : Int)]) (most - acc.length)
            obtain ⟨us7, v8, h8, ha8, hl8, H8⟩ := app_lists hul H 0 rfl H6'.pre o7 (by omega)
            obtain ⟨s7, t7, rfl⟩ := o7.shape
            simp -implicitDefEqProofs [ha8, wi]
            exact ⟨m', by omega, on hI ⟨i + 1, v8, us ++ us7, _, by omega, rfl, by simp only [List.length_append]; omega, by simp only [List.length_append]; omega, hx, H8⟩⟩
          · have e : stepS (fun i q => findS (bdB o js val) js.length k (B ++ [(i : Int)]) q) B most acc i = acc := by
              unfold stepS; rw [if_pos c2, show inP B i = true from c3]; rfl
            rw [e] at hx
            simp -implicitDefEqProofs [hlt, c2, CL_ret rh, c3, wi]
            exact ⟨m', by omega, on hI ⟨i + 1, _, us, acc, by omega, rfl, hul, hal, hx, H⟩⟩
        · rw [stay (by omega)] at hx
          simp -implicitDefEqProofs [hlt, c2]
          exact ret hx
      · have hm : m = 0 := by omega
        subst hm
        rw [List.range'_zero, List.foldl_nil] at hx
        simp -implicitDefEqProofs [hlt]
        exact ret hx
end Go.Pm.PP
namespace Go.Pm.PP
open Go.Pm Go.Proofs Go.Pm.PE
theorem OwnN.base {b c h : Hp} {v : Value} {xss : List (List Int)} (hp : b <+: c) (o : OwnN c h v xss) : OwnN b h v xss := by
  obtain ⟨us, hl, H⟩ := o
  exact ⟨us, hl, ((Holds.start (h := b)).ext hp).join H⟩
def twoB (o : Int) : Bool := (o == 2) || (o == 4)
def okC (js : List Job) (o : Int) : Bool := (decide (js.length ≤ 8) && goodL js) && twoB o
def casA (o : Int) (js : List Job) : List (List Int) := casL (bdB o js (bestV o js)) js.length (js.length + 1) []
def casX (o : Int) (js : List Job) : Option (List (List Int)) := if okC js o = true then (if (casA o js).length ≤ 800 then some (casA o js) else none) else none
theorem l5Two_run {h : Hp} {vj : Value} {js : List Job} {o : Int} (J : Jobs h vj js) (hl : js.length ≤ 2 ^ 40) : Ret P G n_spec_l5Two [vj, .int .i64 o] h (.bool (okC js o)) h := by
  refine enter_run e_spec_l5Two (by simp) ?_
  have r := l2Good_run J hl
  cases c1 : (decide (js.length ≤ 8) && goodL js)
  · simp -implicitDefEqProofs [CL_ret r, c1, okC]
  · cases c2 : (o == 2)
    · simp -implicitDefEqProofs [CL_ret r, c1, okC, twoB, c2]
    · simp -implicitDefEqProofs [CL_ret r, c1, okC, twoB, c2]
theorem isSplitObjective_run {h : Hp} {o : Int} : Ret P G n_impl_isSplitObjective [.int .i64 o] h (.bool (twoB o)) h := by
  refine enter_run e_impl_isSplitObjective (by simp) ?_
  cases c2 : (o == 2) <;> simp -implicitDefEqProofs [twoB, c2]
theorem okC_facts {js : List Job} {o : Int} (h : okC js o = true) : js.length ≤ 8 ∧ goodL js = true ∧ (o = 2 ∨ o = 4) := by
  rw [okC, Bool.and_eq_true, Bool.and_eq_true, decide_eq_true_eq, twoB, Bool.or_eq_true, beq_iff_eq, beq_iff_eq] at h
  exact ⟨h.1.1, h.1.2, h.2⟩
theorem specFindCases_run {h : Hp} {vj : Value} {js : List Job} {o : Int} (J : Jobs h vj js) (hl : js.length ≤ 2 ^ 40) : RunsC P G n_spec_FindCases [vj, .int .i64 o] h fun v h' => h <+: h' ∧ retN (casX o js) v h h' := by
  refine hideC fun K hK => enter_run e_spec_FindCases (by simp) ?_
  have Js := J
  have r := l5Two_run (o := o) Js hl
  obtain ⟨oj, cj, rfl⟩ := J.shapeT
  cases c1 : okC js o
  · rw [casX, c1, if_neg (by simp)] at hK
    simp -implicitDefEqProofs [CL_ret r, c1]
    exact onK hK ⟨List.prefix_rfl, nilV, rfl, OwnN.nil List.prefix_rfl⟩
  · obtain ⟨hn, hg, ho⟩ := okC_facts c1
    rw [casX, c1, if_pos rfl] at hK
    simp -implicitDefEqProofs [CL_ret r, c1]
    refine CL_post (l2Best_run Js hg hn (by omega)) fun v1 h1 ⟨hp1, vo, ev, _⟩ => ?_
    subst ev
    have N0 : Ints h1 (.slice none 0 0) ([] : List Int) := ⟨by simp, none, 0, rfl, .inl ⟨rfl, rfl, rfl⟩⟩
    simp -implicitDefEqProofs
    refine CL_post (l5Find_run (val := bestV o js) hg hn ho (k := js.length + 1) (most := 800) (Js.pre hp1) N0 (by simp) (fun x hx => by cases hx) List.nodup_nil (by omega) (by omega)) fun v2 h2 ⟨hp2, o2⟩ => ?_
    obtain ⟨l1, l2⟩ := @findS_law (bdB o js (bestV o js)) js.length (js.length + 1) [] 800 (by omega)
    change (((casA o js).length : Int) ≤ 800 → _ = casA o js) at l1
    change ((800 : Int) < (casA o js).length → _) at l2
    obtain ⟨s2, t2, rfl⟩ := o2.shape
    by_cases c2 : (casA o js).length ≤ 800
    · rw [if_pos c2] at hK
      rw [l1 (by omega)] at o2 ⊢
      have c3 : ¬ (800 : Int) < (casA o js).length := by omega
      have c3' : ¬ 800 < (casA o js).length := by omega
      simp -implicitDefEqProofs [c3, c3']
      exact onK hK (retN.some (o2.base hp1))
    · rw [if_neg c2] at hK
      have l2' := l2 (by omega)
      generalize findS (bdB o js (bestV o js)) js.length (js.length + 1) [] 800 = R at l2'
      have c3' : 800 < R.length := by omega
      simp -implicitDefEqProofs [l2', c3']
      exact onK hK (retN.none (hp1.trans hp2))
end Go.Pm.PP

/- Cases: turned from the texts of another seat (Pl9 PlI). -/
set_option linter.unusedVariables false
set_option linter.unusedSimpArgs false
set_option maxRecDepth 4000
set_option maxHeartbeats 8000000
namespace Go.Pm.PP
open Go.Pm Go.Proofs Go.Pm.PE
theorem rem_len' {n : Nat} {B : List Int} : (rem n B).length ≤ n := by
  unfold rem
  refine Nat.le_trans (List.length_filter_le _ _) ?_
  simp
theorem rem_mem {n : Nat} {B : List Int} {x : Int} (h : x ∈ rem n B) : (0 ≤ x ∧ x < n) ∧ x ∉ B := by
  unfold rem at h
  obtain ⟨h1, h2⟩ := List.mem_filter.1 h
  obtain ⟨i, hi, rfl⟩ := List.mem_map.1 h1
  have hi : i < n := by simpa [List.mem_range'_1] using hi
  refine ⟨by omega, fun g => ?_⟩
  have : hasL (i : Int) B = true := hasL_iff'.2 g
  rw [hasL] at this
  rw [this] at h2
  cases h2
def remT (i : Nat) (B : List Int) : List Int := ((List.range' 0 i).map fun i : Nat => (i : Int)).filter fun x => !B.any (· == x)
theorem remT_succ {i : Nat} {B : List Int} : remT (i + 1) B = if hasL (i : Int) B = true then remT i B else remT i B ++ [(i : Int)] := by
  have e : List.range' 0 (i + 1) = List.range' 0 i ++ [i] := by rw [List.range'_concat]; simp
  unfold remT
  rw [e, List.map_append, List.filter_append]
  cases c : hasL (i : Int) B
  · rw [hasL] at c
    simp [c]
  · rw [hasL] at c
    simp [c]
theorem others_run {h : Hp} {vp : Value} {B : List Int} {n : Nat} (hv : Ints h vp B) (hn : n ≤ 8) (hB : B.length ≤ 2 ^ 40) : RunsC P G n_impl_others [.int .i64 n, vp] h fun v h' => h <+: h' ∧ Own h.length h' v 1 ((rem n B).map encI) := by
  refine hideC fun K hK => enter_run e_impl_others (by simp) ?_
  have hvs := hv
  obtain ⟨oa, c, rfl⟩ := hv.shapeT
  have H0 := own_nil (Holds.start (h := h)) Int encI 1
  simp -implicitDefEqProofs
  refine R_loopO (fun m s h' => ∃ (i : Nat) (u : Value), i + m = n ∧ s = [(0, .int .i64 n), (1, .slice oa B.length c), (5, u), (6, .int .i64 i)] ∧ Holds h h' [.own u 1 ((remT i B).map encI)]) (fun I hI m s h' => ?_) (n := n) ⟨0, .slice none 0 0, Nat.zero_add _, by simp, by simpa [remT] using H0⟩
  rintro ⟨i, u, hi, rfl, H⟩
  by_cases hlt : i < n
  · have hlt' : (i : Int) < n := by omega
    have rh := has_run (x := (i : Int)) (hvs.pre H.pre) hB
    have e := @remT_succ i B
    cases c1 : hasL (i : Int) B
    · rw [c1, if_neg (by simp)] at e
      have hle : (remT i B).length ≤ i := rem_len' (n := i)
      obtain ⟨v', h2, ha, H2, _⟩ := push_I0 H 0 rfl (i : Int) (by omega)
      rw [← e] at H2
      simp -implicitDefEqProofs [hlt, hlt', CL_ret rh, c1, ha, winc hlt (by omega)]
      exact ⟨m - 1, by omega, on hI ⟨i + 1, v', by omega, rfl, H2⟩⟩
    · rw [c1, if_pos rfl] at e
      rw [← e] at H
      simp -implicitDefEqProofs [hlt, hlt', CL_ret rh, c1, winc hlt (by omega)]
      exact ⟨m - 1, by omega, on hI ⟨i + 1, u, by omega, rfl, H⟩⟩
  · have hlt' : ¬ (i : Int) < n := by omega
    have e : i = n := by omega
    subst e
    simp -implicitDefEqProofs [hlt, hlt']
    exact onK hK (H.ret 0 rfl)
/-- Lists of one's own that are returned, among others. -/
theorem Holds.gcL {hb h h' : Hp} {A L : List Asn} {u w : Value} {us : List Value} {xss : List (List Int)} (HL : Holds hb h (A ++ L)) (H' : Holds hb h' ([.own w 1 (us.map encV)] ++ (inL encI 1 us xss ++ L))) (hl : us.length = xss.length) (hu : plain u = true → plainC w = true) : Holds hb (gc h h' u) ([.own w 1 (us.map encV)] ++ (inL encI 1 us xss ++ L)) := by
  rcases gc_cases h h' u with g | ⟨hp, g⟩ <;> rw [g]
  · exact H'
  · have hw := hu hp
    have hus : us = [] := by
      have ho := H'.own 0 rfl
      rcases ho.2 with ⟨_, h2⟩ | ⟨_, _, _, _, _, h2, _⟩
      · simpa using h2
      · rw [h2] at hw; cases hw
    subst hus
    have hx : xss = [] := List.eq_nil_of_length_eq_zero (by simpa using hl.symm)
    subst hx
    have hw2 : w = nilV := by
      obtain ⟨a, c, e⟩ := (H'.sees 0 rfl).shape
      rw [e] at hw ⊢
      simp only [List.map_nil, List.length_nil] at hw ⊢
      match a, c, hw with
      | none, 0, _ => rfl
    subst hw2
    have H2 : Holds hb h L := Holds.weak (T := A) (HL.perm List.perm_append_comm)
    have H3 := own_nil H2 Value encV 1
    refine H3.perm ?_
    simp only [inL, List.nil_append]
    exact List.perm_append_comm
def frm (vc vp : Value) (us : List Value) (cs : List (List Int)) (B : List Int) (L : List Asn) : List Asn := [.own vc 1 (us.map encV)] ++ (inL encI 1 us cs ++ ([.own vp 1 (B.map encI)] ++ L))
def outc (hb h h' : Hp) (vc vp : Value) (us : List Value) (cs : List (List Int)) (B : List Int) : Option (List (List Int)) → Value → Prop
  | some cs', v => ∃ w us', v = .tuple #[w, .bool true] ∧ us'.length = cs'.length ∧ ∀ L, Holds hb h (frm vc vp us cs B L) → Holds hb h' ([.own w 1 (us'.map encV)] ++ (inL encI 1 us' cs' ++ L))
  | none, v => ∃ w, v = .tuple #[w, .bool false] ∧ ∀ L, Holds hb h (frm vc vp us cs B L) → Holds hb h' L
theorem frm_eq {vc vp : Value} {us : List Value} {cs : List (List Int)} {B : List Int} {L : List Asn} : frm vc vp us cs B L = ([.own vc 1 (us.map encV)] ++ (inL encI 1 us cs ++ [.own vp 1 (B.map encI)])) ++ L := by simp [frm]
theorem frm_vp {vc vp : Value} {us : List Value} {cs : List (List Int)} {B : List Int} {L : List Asn} : (frm vc vp us cs B L)[1 + (inL encI 1 us cs).length]? = some (.own vp 1 (B.map encI)) := by
  unfold frm
  rw [List.getElem?_append_right (by simp), List.length_singleton, Nat.add_sub_cancel_left, List.getElem?_append_right (Nat.le_refl _), Nat.sub_self]; rfl
theorem frm_at {vc vp : Value} {us : List Value} {cs : List (List Int)} {B : List Int} {L : List Asn} {A : Asn} : (frm vc vp us cs B ([A] ++ L))[1 + ((inL encI 1 us cs).length + 1)]? = some A := by
  unfold frm
  rw [List.getElem?_append_right (by simp), List.length_singleton, Nat.add_sub_cancel_left, List.getElem?_append_right (by omega), Nat.add_sub_cancel_left]; rfl
theorem plain2 {w : Value} {b : Bool} (h : plain (.tuple #[w, .bool b]) = true) : plainC w = true := by
  have : (#[w, .bool b] : Array Value).toList.all plainC = true := h
  simp only [List.all_cons, Bool.and_eq_true] at this
  exact this.1
theorem frm_weak {hb h : Hp} {vc vp : Value} {us : List Value} {cs : List (List Int)} {B : List Int} {L : List Asn} (H : Holds hb h (frm vc vp us cs B L)) : Holds hb h L := by
  unfold frm at H
  refine Holds.weak (T := [.own vc 1 (us.map encV)] ++ (inL encI 1 us cs ++ [.own vp 1 (B.map encI)])) (H.perm ?_)
  have e : [Asn.own vc 1 (us.map encV)] ++ (inL encI 1 us cs ++ ([.own vp 1 (B.map encI)] ++ L)) = ([Asn.own vc 1 (us.map encV)] ++ (inL encI 1 us cs ++ [.own vp 1 (B.map encI)])) ++ L := by simp
  rw [e]
  exact List.perm_append_comm
theorem findI_len {f : List Int → Bool} {n k : Nat} {B : List Int} {cs cs' : List (List Int)} (h : cs.length ≤ 800) (e : findI f n k B cs = some cs') : cs'.length ≤ 800 := by
  rw [findI_law h] at e
  split at e
  · rename_i g; cases e; exact g
  · cases e
theorem findCases_run {hb : Hp} {vj : Value} {js : List Job} {o val : Int} (J : Jobs hb vj js) (hg : goodL js = true) (hn : js.length ≤ 8) (ho : o = 2 ∨ o = 4) : ∀ {k : Nat} {h : Hp} {vc vp : Value} {us : List Value} {cs : List (List Int)} {B : List Int} {L0 : List Asn},
    Holds hb h (frm vc vp us cs B L0) → us.length = cs.length → cs.length ≤ 800 → B.length + k = js.length + 1 → inN js.length B → B.Nodup →
    RunsC P G n_impl_findCases [vj, .int .i64 o, .int .i64 val, vp, vc] h fun v h' => outc hb h h' vc vp us cs B (findI (bdB o js val) js.length k B cs) v
  | 0, h, vc, vp, us, cs, B, L0, H, hul, hcl, hk, hin, hnd => by
    have := nodup_len hnd hin
    omega
  | k + 1, h, vc, vp, us, cs, B, L0, H, hul, hcl, hk, hin, hnd => by
    refine hideC fun K hK => enter_run e_impl_findCases (by simp) ?_
    have Js := J
    obtain ⟨oj, cj, rfl⟩ := J.shapeT
    have Bs : Ints h vp B := H.sees (1 + (inL encI 1 us cs).length) (by
      unfold frm
      rw [List.getElem?_append_right (by simp), List.length_singleton, Nat.add_sub_cancel_left, List.getElem?_append_right (Nat.le_refl _), Nat.sub_self]; rfl)
    obtain ⟨ob, cb, rfl⟩ := Bs.shapeT
    have rb := prefixBound_run (o := o) (Js.pre H.pre) Bs hg hn (by omega) hin ho
    rw [findI] at hK
    by_cases c1 : val ≤ bdV o js B
    · rw [if_pos (by simpa [bdB] using c1)] at hK
      obtain ⟨ua, uc, rfl⟩ : ∃ a c, vc = .slice a cs.length c := by obtain ⟨a, c, e⟩ := (H.sees 0 (v := vc) (sz := 1) (els := us.map encV) rfl).shapeT; exact ⟨a, c, by rw [e, hul]⟩
      have push : ∀ L, Holds hb h (frm (.slice ua cs.length uc) (.slice ob B.length cb) us cs B L) → ∃ v' h', appendP P (h ++ [some ⟨[.slice ob B.length cb], 1, false⟩]) t_S_S_int (.slice ua cs.length uc) (.slice (some ⟨h.length, 0, some 1⟩) 1 1) = some (v', h') ∧
          Holds hb h' ([.own v' 1 ((us ++ [(.slice ob B.length cb : Value)]).map encV)] ++ (inL encI 1 (us ++ [(.slice ob B.length cb : Value)]) (cs ++ [B]) ++ L)) := fun L HL => by
        obtain ⟨v', h', ha, H', _⟩ := push_N0 HL 0 (v := .slice ua cs.length uc) (xs := us) rfl (.slice ob B.length cb) (by simp) (by omega)
        refine ⟨v', h', ha, ?_⟩
        rw [inL_snoc hul, List.append_assoc]
        exact H'
      obtain ⟨v', h', ha, H'⟩ := push L0 H
      have s' := H'.sees 0 (v := v') (sz := 1) (els := (us ++ [Value.slice ob B.length cb]).map encV) rfl
      obtain ⟨wa, wc, rfl⟩ : ∃ a c, v' = .slice a (cs.length + 1) c := by obtain ⟨a, c, e⟩ := s'.shapeT; exact ⟨a, c, by rw [e]; simp [hul]⟩
      by_cases c2 : cs.length < 800
      · have c2' : (cs.length : Int) < 800 := by omega
        rw [if_pos c2] at hK
        simp -implicitDefEqProofs [CL_ret rb, c1, ha, c2, c2']
        refine onK hK ⟨_, us ++ [(.slice ob B.length cb : Value)], rfl, by simp [hul], fun L HL => ?_⟩
        obtain ⟨v2, h2, ha2, H2⟩ := push L HL
        rw [ha] at ha2; cases ha2
        have HL2 : Holds hb h (([.own (.slice ua cs.length uc) 1 (us.map encV)] ++ (inL encI 1 us cs ++ [.own (.slice ob B.length cb) 1 (B.map encI)])) ++ L) := by
          unfold frm at HL; simpa [List.append_assoc] using HL
        exact Holds.gcL HL2 H2 (by simp [hul]) plain2
      · have c2' : ¬ (cs.length : Int) < 800 := by omega
        rw [if_neg c2] at hK
        simp -implicitDefEqProofs [CL_ret rb, c1, ha, c2, c2']
        refine onK hK ⟨_, rfl, fun L HL => ?_⟩
        obtain ⟨v2, h2, ha2, H2⟩ := push L HL
        rw [ha] at ha2; cases ha2
        refine (frm_weak HL).gcR (Holds.weak (T := [.own (.slice wa (cs.length + 1) wc) 1 ((us ++ [(.slice ob B.length cb : Value)]).map encV)] ++ inL encI 1 (us ++ [(.slice ob B.length cb : Value)]) (cs ++ [B])) (H2.perm ?_)) rfl
        rw [← List.append_assoc]
        exact List.perm_append_comm
    · rw [if_neg (by simpa [bdB] using c1)] at hK
      obtain ⟨R, hR⟩ : ∃ R, R = rem js.length B := ⟨_, rfl⟩
      have hrl := @rem_len' js.length B
      have hrm := fun x => @rem_mem js.length B x
      rw [← hR] at hK hrl
      simp only [← hR] at hrm
      generalize hF : R.foldl (fun (o' : Option (List (List Int))) x => o'.bind fun cs => findI (bdB o js val) js.length k (B ++ [x]) cs) (some cs) = F at hK
      simp -implicitDefEqProofs [CL_ret rb, c1]
      refine CL_post (others_run (n := js.length) Bs hn (by omega)) fun vo h1 ⟨hp1, oo1⟩ => ?_
      rw [← hR] at oo1
      obtain ⟨oo, oc, rfl⟩ := oo1.sees.shapeT
      have first : ∀ L, Holds hb h (frm vc (.slice ob B.length cb) us cs B L) → Holds hb h1 (frm vc (.slice ob B.length cb) us cs B ([.own (.slice oo R.length oc) 1 (R.map encI)] ++ L)) := fun L HL => by
        rw [frm_eq] at HL ⊢
        have := Holds.joinT (A := [.own (.slice oo R.length oc) 1 (R.map encI)]) (M := []) HL ((Holds.start (h := h)).call hp1 oo1)
        simpa [List.append_assoc] using this
      simp -implicitDefEqProofs
      refine R_loopO (fun m st h' => ∃ (i : Nat) (vck : Value) (usk : List Value) (csk : List (List Int)), i + m = R.length ∧ st = [(0, .slice oj js.length cj), (1, .int .i64 o), (2, .int .i64 val), (3, .slice ob B.length cb), (4, vck), (31, .slice oo R.length oc), (32, .int .i64 R.length), (33, .int .i64 i)] ∧
        usk.length = csk.length ∧ csk.length ≤ 800 ∧ F = (R.drop i).foldl (fun (o' : Option (List (List Int))) x => o'.bind fun cs => findI (bdB o js val) js.length k (B ++ [x]) cs) (some csk) ∧
        ∀ L, Holds hb h (frm vc (.slice ob B.length cb) us cs B L) → Holds hb h' (frm vck (.slice ob B.length cb) usk csk B ([.own (.slice oo R.length oc) 1 (R.map encI)] ++ L))) (fun I hI m st h' => ?_) (n := R.length)
        ⟨0, vc, us, cs, Nat.zero_add _, by simp, hul, hcl, hF.symm, first⟩
      rintro ⟨i, vck, usk, csk, hi, rfl, hul', hcl', hx, inv⟩
      have HA := inv L0 H
      by_cases hlt : i < R.length
      · have hlt' : (i : Int) < R.length := by omega
        obtain ⟨x, hxx, hd⟩ := drop_at hlt
        rw [hd, List.foldl_cons, Option.bind_some] at hx
        obtain ⟨⟨x0, x1⟩, hxB⟩ := hrm x (List.mem_of_getElem? hxx)
        obtain ⟨j, rfl⟩ : ∃ j : Nat, x = j := ⟨x.toNat, by omega⟩
        have lx := load_I (HA.sees _ (frm_at (A := .own (.slice oo R.length oc) 1 (R.map encI)))) hxx
        have Bk : Ints h' (.slice ob B.length cb) B := HA.sees _ frm_vp
        simp -implicitDefEqProofs [-indexAddrP_some, hlt, hlt', lx]
        refine CL_post (copyInts_run Bk (by omega)) fun v5 h5 ⟨hp5, ho5⟩ => ?_
        have H5 : Holds h' h5 [.own v5 1 (B.map encI)] := (Holds.start (h := h')).call hp5 ho5
        obtain ⟨v6, h6, ha6, H6, k6, _⟩ := push_I0 H5 0 rfl (j : Int) (by omega)
        have H6' : Holds h' h6 [.own v6 1 ((B ++ [(j : Int)]).map encI)] := H6
        have fr6 : ∀ L, Holds hb h' (frm vck (.slice ob B.length cb) usk csk B ([.own (.slice oo R.length oc) 1 (R.map encI)] ++ L)) → Holds hb h6 (frm vck v6 usk csk (B ++ [(j : Int)]) ([.own (.slice ob B.length cb) 1 (B.map encI)] ++ ([.own (.slice oo R.length oc) 1 (R.map encI)] ++ L))) := fun L HL => by
          have HL2 : Holds hb h' (([.own vck 1 (usk.map encV)] ++ inL encI 1 usk csk) ++ ([.own (.slice ob B.length cb) 1 (B.map encI)] ++ ([.own (.slice oo R.length oc) 1 (R.map encI)] ++ L))) := by
            unfold frm at HL; simpa [List.append_assoc] using HL
          have := Holds.joinT (A := [.own v6 1 ((B ++ [(j : Int)]).map encI)]) (M := []) HL2 H6'
          unfold frm
          simpa [List.append_assoc] using this
        have ih := findCases_run (val := val) J hg hn ho (k := k) (fr6 L0 HA) hul' hcl' (by simp; omega) (in_snoc hin (by omega)) (nd_snoc hnd hxB)
        simp -implicitDefEqProofs [ha6]
        refine CL_post ih fun v h7 O7 => ?_
        cases hf : findI (bdB o js val) js.length k (B ++ [(j : Int)]) csk with
        | none =>
          rw [hf] at O7 hx
          have none_stay : ∀ l : List Int, l.foldl (fun (o' : Option (List (List Int))) x => o'.bind fun cs => findI (bdB o js val) js.length k (B ++ [x]) cs) none = none := fun l => by
            induction l with
            | nil => rfl
            | cons x l ih => rw [List.foldl_cons]; exact ih
          rw [none_stay] at hx
          rw [hx] at hK
          obtain ⟨w, ev, F7⟩ := O7
          subst ev
          simp -implicitDefEqProofs
          refine onK hK ⟨nilV, rfl, fun L HL => ?_⟩
          have := F7 _ (fr6 L (inv L HL))
          refine (frm_weak HL).gcR (Holds.weak (T := [.own (.slice ob B.length cb) 1 (B.map encI)] ++ [.own (.slice oo R.length oc) 1 (R.map encI)]) (this.perm ?_)) rfl
          rw [← List.append_assoc]
          exact List.perm_append_comm
        | some cs' =>
          rw [hf] at O7 hx
          obtain ⟨w, us', ev, hl', F7⟩ := O7
          subst ev
          simp -implicitDefEqProofs [winc hlt (show R.length ≤ 2 ^ 40 by omega)]
          exact ⟨m - 1, by omega, on hI ⟨i + 1, w, us', cs', by omega, rfl, hl', findI_len hcl' hf, hx, fun L HL => F7 _ (fr6 L (inv L HL))⟩⟩
      · have hlt' : ¬ (i : Int) < R.length := by omega
        rw [List.drop_eq_nil_of_le (by omega), List.foldl_nil] at hx
        rw [hx] at hK
        simp -implicitDefEqProofs [hlt, hlt']
        refine onK hK ⟨vck, usk, rfl, hul', fun L HL => ?_⟩
        have h1 := inv L HL
        rw [frm_eq] at HL
        refine Holds.gcL HL ?_ hul' plain2
        have h2 : Holds hb h' ((([.own vck 1 (usk.map encV)] ++ inL encI 1 usk csk) ++ ([.own (.slice ob B.length cb) 1 (B.map encI)] ++ [.own (.slice oo R.length oc) 1 (R.map encI)])) ++ L) := by
          unfold frm at h1; simpa [List.append_assoc] using h1
        rw [← List.append_assoc]
        exact h2.cut
end Go.Pm.PP
namespace Go.Pm.PP
open Go.Pm Go.Proofs Go.Pm.PE
theorem FindCases_run {h : Hp} {vj : Value} {js : List Job} {o : Int} (J : Jobs h vj js) (hl : js.length ≤ 2 ^ 40) : RunsC P G n_impl_FindCases [vj, .int .i64 o] h fun v h' => h <+: h' ∧ retN (casX o js) v h h' := by
  refine hideC fun K hK => enter_run e_impl_FindCases (by simp) ?_
  have Js := J
  have r := IsJobs_run Js hl
  have r2 := fun h : Hp => isSplitObjective_run (h := h) (o := o)
  obtain ⟨oj, cj, rfl⟩ := J.shapeT
  have bad : okC js o = false → K (.tuple #[.slice none 0 0, .bool false]) h := fun e => by
    rw [casX, e, if_neg (by simp)] at hK
    exact onK hK ⟨List.prefix_rfl, nilV, rfl, OwnN.nil List.prefix_rfl⟩
  cases c0 : (decide (js.length ≤ 8) && goodL js)
  · simp -implicitDefEqProofs [CL_ret r, CH_at r, c0]
    exact bad (by rw [okC, c0, Bool.false_and])
  · cases c1 : twoB o
    · simp -implicitDefEqProofs [CL_ret r, CH_at r, c0, CL_ret (r2 _), CH_at (r2 _), c1]
      exact bad (by rw [okC, c1, Bool.and_false])
    · have c2 : okC js o = true := by rw [okC, c0, c1]; rfl
      obtain ⟨hn, hg, ho⟩ := okC_facts c2
      rw [casX, c2, if_pos rfl] at hK
      simp -implicitDefEqProofs [CL_ret r, CH_at r, c0, CL_ret (r2 _), CH_at (r2 _), c1]
      refine CL_post (best_run Js hg hn (by omega)) fun v1 h1 ⟨hp1, vf, ev, _⟩ => ?_
      subst ev
      have E0 : Holds h1 h1 (frm nilV nilV [] [] [] []) := own_nil (own_nil (Holds.start (h := h1)) Value encV 1) Int encI 1
      simp -implicitDefEqProofs
      refine CL_post (findCases_run (val := bestV o js) (Js.pre hp1) hg hn ho (k := js.length + 1) E0 rfl (by simp) (by simp) (fun x hx => by cases hx) List.nodup_nil) fun v2 h2 O2 => ?_
      rw [findI_law (by simp), List.nil_append] at O2
      change outc h1 h1 h2 nilV nilV [] [] [] (if (casA o js).length ≤ 800 then some (casA o js) else none) v2 at O2
      by_cases c3 : (casA o js).length ≤ 800
      · rw [if_pos c3] at O2 hK
        obtain ⟨w, us', ev, hl', F⟩ := O2
        subst ev
        have F0 := F [] E0
        rw [List.append_nil] at F0
        have o2 : OwnN h1 h2 w (casA o js) := ⟨us', hl', F0⟩
        simp -implicitDefEqProofs
        exact onK hK (retN.some (o2.base hp1))
      · rw [if_neg c3] at O2 hK
        obtain ⟨w, ev, F⟩ := O2
        subst ev
        have F0 := F [] E0
        simp -implicitDefEqProofs
        exact onK hK (retN.none (hp1.trans F0.pre))
theorem casL_mem {f : List Int → Bool} {n : Nat} : ∀ {k : Nat} {B x : List Int}, x ∈ casL f n k B → x.length ≤ B.length + k
  | 0, B, x, h => by
    rw [casL] at h
    split at h
    · rw [List.mem_singleton.1 h]; omega
    · cases h
  | k + 1, B, x, h => by
    rw [casL] at h
    split at h
    · rw [List.mem_singleton.1 h]; omega
    · obtain ⟨y, _, hx⟩ := List.mem_flatMap.1 h
      have := casL_mem hx
      rw [List.length_append, List.length_singleton] at this
      omega
end Go.Pm.PP

/- The bound of a prefix is at most the value of each order with it, in plain Lean. -/
set_option linter.unusedVariables false
set_option linter.unusedSimpArgs false
set_option maxHeartbeats 4000000
namespace Go.Pm.PP
open Go.Pm Go.Pm.PE
def qR (js : List Job) : Int → List Int → List (Int × Int)
  | _, [] => []
  | now, x :: r => blk x (max now (jA js x).r) (jA js x).t.toNat ++ qR js (max now (jA js x).r + (jA js x).t) r
theorem qR_ends {js : List Job} (hg : goodL js = true) : ∀ {R : List Int} {now : Int} {E : List Int}, inN js.length R → apS E (qR js now R) = endGo js R now E
  | [], now, E, _ => by rw [endGo]; rfl
  | x :: r, now, E, hin => by
    have hx := jA_b hg (hin x (List.mem_cons_self ..))
    obtain ⟨k, hk⟩ : ∃ k, (jA js x).t.toNat = k + 1 := ⟨(jA js x).t.toNat - 1, by omega⟩
    rw [qR, endGo, hk, apS_app, apS_blk, qR_ends hg fun y hy => hin y (List.mem_cons_of_mem _ hy)]
    rw [show max now (jA js x).r + (k : Int) + 1 = max now (jA js x).r + (jA js x).t by omega]
theorem qR_vq {js : List Job} (hg : goodL js = true) : ∀ {R : List Int} {now : Int} {rs : List Int}, inN js.length R → R.Nodup → rs.length = js.length → (∀ i : Nat, i < js.length → gE rs i = if (i : Int) ∈ R then (jA js i).t else 0) → vq js (qR js now R) now rs
  | [], now, rs, _, _, hl, h => fun i hi => by rw [h i hi, if_neg (by simp)]
  | x :: r, now, rs, hin, hnd, hl, h => by
    have hx0 := hin x (List.mem_cons_self ..)
    have hx := jA_b hg hx0
    obtain ⟨b, rfl⟩ : ∃ b : Nat, x = b := ⟨x.toNat, by omega⟩
    obtain ⟨k, hk⟩ : ∃ k : Nat, (jA js b).t = (k : Int) := ⟨(jA js b).t.toNat, by omega⟩
    have hb : b < js.length := by omega
    have hv := h b hb
    rw [if_pos (List.mem_cons_self ..)] at hv
    obtain ⟨n1, n2⟩ := List.nodup_cons.1 hnd
    rw [qR, hk, Int.toNat_natCast]
    refine vq_blk hx0 hl (by omega) (by omega) (by rw [Int.toNat_natCast]; omega) ?_
    rw [Int.toNat_natCast]
    refine qR_vq hg (fun y hy => hin y (List.mem_cons_of_mem _ hy)) n2 (by rw [List.length_set]; exact hl) fun i hi => ?_
    rw [gE_set (by omega)]
    by_cases c : i = b
    · subst c
      rw [if_pos rfl, if_neg n1]; omega
    · rw [if_neg c, h i hi]
      by_cases c2 : (i : Int) ∈ r
      · rw [if_pos c2, if_pos (List.mem_cons_of_mem _ c2)]
      · rw [if_neg c2, if_neg fun g => by rcases List.mem_cons.1 g with g | g; · omega
                                          · exact c2 g]
theorem qR_time {js : List Job} (hg : goodL js = true) : ∀ {R : List Int} {now : Int}, inN js.length R → ∀ p, p ∈ qR js now R → p.2 < max now 500 + 50 * R.length
  | [], now, _, p, hp => by cases hp
  | x :: r, now, hin, p, hp => by
    have hx := jA_b hg (hin x (List.mem_cons_self ..))
    rw [List.length_cons]
    rw [qR] at hp
    rcases List.mem_append.1 hp with g | g
    · have := blk_mem p g; omega
    · have := qR_time hg (fun y hy => hin y (List.mem_cons_of_mem _ hy)) p g; omega
theorem endGo_app {js : List Job} {R : List Int} : ∀ {B : List Int} {now : Int} {E : List Int}, endGo js (B ++ R) now E = endGo js R (nwGo js B now) (endGo js B now E)
  | [], now, E => by rw [List.nil_append, nwGo, endGo]
  | x :: B, now, E => by rw [List.cons_append, endGo, endGo_app, nwGo, endGo]
theorem rest_app {js : List Job} {B R : List Int} (ho : Ord js.length (B ++ R)) {i : Nat} (hi : i < js.length) : gE (restL js B) i = if (i : Int) ∈ R then (jA js i).t else 0 := by
  have hnd := List.nodup_append.1 ho.nd
  have hm := ho.all hi
  have e : gE (restL js B) i = if inP B i = true then 0 else (jA js i).t := by unfold gE; rw [restL_at hi]; rfl
  rw [show inP B i = hasL (i : Int) B from rfl] at e
  rw [e]
  by_cases c : (i : Int) ∈ R
  · rw [if_pos c, if_neg fun g => hnd.2.2 _ (hasL_iff'.1 g) _ c rfl]
  · rw [if_neg c, if_pos (hasL_iff'.2 ((List.mem_append.1 hm).resolve_right c))]
theorem pre_le {js : List Job} {B R : List Int} {o : Int} (hg : goodL js = true) (hn : js.length ≤ 8) (ho : o = 2 ∨ o = 4) (h : Ord js.length (B ++ R)) : bdV o js B ≤ valX o js (B ++ R) := by
  have hin : inN js.length B := fun x hx => h.inn x (List.mem_append_left _ hx)
  have hinR : inN js.length R := fun x hx => h.inn x (List.mem_append_right _ hx)
  have hnd := List.nodup_append.1 h.nd
  have hlen : B.length + R.length = js.length := by have := h.len; rw [List.length_append] at this; exact this
  have nb := @nwGo_bd js hg B 0 0 hin (by omega) (by omega)
  have eE : endsL js (B ++ R) = apS (endsL js B) (qR js (nwGo js B 0) R) := by
    rw [qR_ends hg hinR]
    show endGo js (B ++ R) 0 _ = endGo js R (nwGo js B 0) (endGo js B 0 _)
    exact endGo_app
  have C := bd_ch hg hn hin
  have V : vq js (qR js (nwGo js B 0) R) (nwGo js B 0) (restL js B) := qR_vq hg hinR hnd.2.1 restL_len fun i hi => rest_app h hi
  have hT : ∀ p, p ∈ qR js (nwGo js B 0) R → p.2 < nwGo js B 0 + FU := fun p hp => by have := qR_time hg hinR p hp; unfold FU; omega
  have hE : (endsL js B).length = js.length := endsL_len
  have nn : ∀ i, i < js.length → 0 ≤ gE (restL js B) i := fun i hi => by
    have := restL_bd (B := B) hg _ (gE_mem (l := restL js B) (i := i) (by rw [restL_len]; exact hi)); omega
  unfold bdV valX
  rw [eE]
  have eB : bdE o js B = apS (endsL js B) (picks o js FU (nwGo js B 0) (restL js B)) := rfl
  rw [eB]
  generalize qR js (nwGo js B 0) R = Q at *
  generalize nwGo js B 0 = now at *
  generalize restL js B = rs at *
  generalize endsL js B = E at *
  have hl : rs.length = js.length := C.l
  have pv := picks_vq (o := o) hg C
  rcases ho with rfl | rfl
  · have e1 := cost_eq (m := FU) (E := E) pv hl hE (fun p hp => by have := picks_mem p hp; omega) nn
    have e2 := cost_eq (m := FU) (E := E) V hl hE hT nn
    have e3 := cost_le hg C V hl nn ahead_refl
    have full : ∀ {P : List (Int × Int)}, vq js P now rs → sN js.length (gE (apS E P)) = sN js.length (fun i => if 0 < gE rs i then gE (apS E P) i - now else 0) + sN js.length (fun i => if 0 < gE rs i then now else gE E i) := fun {P} v => by
      rw [← sN_add]
      refine sN_congr fun i hi => ?_
      by_cases c : 0 < gE rs i
      · simp only [if_pos c]; omega
      · simp only [if_neg c]
        rw [vq_done hi v hl hE (by have := nn i hi; omega)]; omega
    rw [val2_sum (by rw [apS_len, hE]), val2_sum (by rw [apS_len, hE]), full pv, full V, e1, e2]
    omega
  · by_cases h0 : js = []
    · subst h0
      have e1 : ∀ es, valE 4 [] es = 0 := fun es => by unfold valE valGo; cases es <;> rfl
      rw [e1, e1]; exact Int.le_refl _
    · obtain ⟨_, k, hk, ek⟩ := val4_facts (js := js) (es := apS E (picks 4 js FU now rs)) (by rw [apS_len, hE]) h0
      have vf := (val4_facts (js := js) (es := apS E Q) (by rw [apS_len, hE]) h0).1
      rw [ek]
      by_cases c : 0 < gE rs k
      · obtain ⟨S, ρ, s1, s2, s3, s4⟩ := edd_upper (E := E) hg C hE k hk c
        obtain ⟨y, hy, ey⟩ := vq_lower (E := E) (ρ := ρ) V hl hE s1 s2 fun x hx => ⟨(s3 x hx).1, (s3 x hx).2.1, (s3 x hx).2.2.2⟩
        have by' := s3 y hy
        have v := vf y.toNat (by omega)
        rw [show ((y.toNat : Nat) : Int) = y by omega] at v
        omega
      · have z : gE rs k = 0 := by have := nn k hk; omega
        have v := vf k hk
        rw [vq_done hk V hl hE z] at v
        rw [vq_done hk pv hl hE z]
        exact v
end Go.Pm.PP

/- Bounds of prefixes and gains of both; lists compared. -/
set_option linter.unusedVariables false
set_option linter.unusedSimpArgs false
set_option maxRecDepth 4000
set_option maxHeartbeats 16000000
namespace Go.Pm.PP
open Go.Pm Go.Proofs Go.Pm.PE
section
variable {h : Hp} {vj v u : Value} {js : List Job} {xs ys B : List Int} {o : Int}
theorem l5Prefix_run (J : Jobs h vj js) (hl : js.length ≤ 2 ^ 40) (X : Ints h v xs) (hx : xs.length ≤ 2 ^ 40) : Ret P G n_spec_l5Prefix [vj, v] h (.bool (arGo js.length [] xs)) h := by
  refine enter_run e_spec_l5Prefix (by simp) ?_
  have Js := J
  have hvs := X
  obtain ⟨oj, cj, rfl⟩ := J.shapeT
  obtain ⟨oa, c, rfl⟩ := X.shapeT
  have w : w64 ((js.length : Int) - 1) = (js.length : Int) - 1 := by unfold w64; rw [wrap_ok] <;> omega
  simp -implicitDefEqProofs
  refine R_loopO (fun m s h' => ∃ i : Nat, i + m = xs.length ∧ s = [(0, .slice oj js.length cj), (1, .slice oa xs.length c), (5, .int .i64 i)] ∧ h' = h ∧ arGo js.length [] xs = arGo js.length (xs.take i) (xs.drop i)) (fun I hI m s h' => ?_) (n := xs.length) ⟨0, Nat.zero_add _, by simp, rfl, by simp⟩
  rintro ⟨i, hi, rfl, rfl, hxx⟩
  by_cases hlt : i < xs.length
  · obtain ⟨y, hy, hd⟩ := drop_at hlt
    rw [hd, arGo, ← take_succ' hy, w] at hxx
    obtain ⟨v', hs, hu⟩ := hvs.front (P := P) u_S_int i_int (k := .i64) (j := (i : Int)) (by omega) (by simp; omega)
    rw [Int.toNat_natCast, ← List.map_take] at hu
    have rh := l1Has_run (x := y) hu (by simp; omega)
    have rj := l3Job_run (x := y) Js hl
    cases c1 : inB y 0 ((js.length : Int) - 1)
    · rw [c1, Bool.false_and, Bool.false_and] at hxx
      simp -implicitDefEqProofs [-indexAddrP_some, hlt, load_I hvs hy, CL_ret rj, CH_at rj, c1, hxx]
    · cases c2 : hasL y (xs.take i)
      · rw [c1, c2] at hxx
        simp -implicitDefEqProofs [-indexAddrP_some, hlt, load_I hvs hy, CL_ret rj, CH_at rj, c1, hs, CL_ret rh, CH_at rh, c2, winc hlt hx]
        exact ⟨m - 1, by omega, on hI ⟨i + 1, by omega, rfl, rfl, by simpa using hxx⟩⟩
      · rw [c1, c2] at hxx
        simp -implicitDefEqProofs [-indexAddrP_some, hlt, load_I hvs hy, CL_ret rj, CH_at rj, c1, hs, CL_ret rh, CH_at rh, c2]
        simpa using hxx
  · rw [List.drop_eq_nil_of_le (by omega), arGo] at hxx
    simp -implicitDefEqProofs [hlt, hxx]
theorem ar_facts (hl : js.length ≤ 8) (h : arGo js.length [] xs = true) : inN js.length xs ∧ xs.Nodup ∧ xs.length ≤ js.length := by
  have w : w64 ((js.length : Int) - 1) = (js.length : Int) - 1 := by unfold w64; rw [wrap_ok] <;> omega
  obtain ⟨a, b, _⟩ := (arGo_iff w).1 h
  exact ⟨a, b, nodup_len b a⟩
def pbOk (js : List Job) (xs : List Int) (o : Int) : Bool := (jOk js && arGo js.length [] xs) && twoB o
def pbV (js : List Job) (xs : List Int) (o : Int) : Int := if pbOk js xs o = true then bdV o js xs else 0
theorem implPrefixBound_run (J : Jobs h vj js) (hl : js.length ≤ 2 ^ 40) (X : Ints h v xs) (hx : xs.length ≤ 2 ^ 40) : Ret P G n_impl_PrefixBound [vj, v, .int .i64 o] h (.tuple #[.int .i64 (pbV js xs o), .bool (pbOk js xs o)]) h := by
  refine enter_run e_impl_PrefixBound (by simp) ?_
  have Js := J
  have Xs := X
  obtain ⟨oj, cj, rfl⟩ := J.shapeT
  obtain ⟨oa, ca, rfl⟩ := X.shapeT
  have r1 := IsJobs_run Js hl
  have r2 := areDifferent_run (n := js.length) Xs hx
  have r3 := @isSplitObjective_run h o
  cases c1 : (decide (js.length ≤ 8) && goodL js)
  · have e : pbOk js xs o = false := by unfold pbOk jOk; rw [c1]; rfl
    simp -implicitDefEqProofs [CL_ret r1, CH_at r1, c1, pbV, e]
  · cases c2 : arGo js.length [] xs
    · have e : pbOk js xs o = false := by unfold pbOk jOk; rw [c1, c2]; rfl
      simp -implicitDefEqProofs [CL_ret r1, CH_at r1, c1, CL_ret r2, CH_at r2, c2, pbV, e]
    · cases c3 : twoB o
      · have e : pbOk js xs o = false := by unfold pbOk; rw [c3, Bool.and_false]
        simp -implicitDefEqProofs [CL_ret r1, CH_at r1, c1, CL_ret r2, CH_at r2, c2, CL_ret r3, CH_at r3, c3, pbV, e]
      · have e : pbOk js xs o = true := by unfold pbOk jOk; rw [c1, c2, c3]; rfl
        have k : okC js o = true := by unfold okC; rw [c1, c3]; rfl
        obtain ⟨hn, hg, ho⟩ := okC_facts k
        obtain ⟨a1, a2, a3⟩ := ar_facts hn c2
        have r4 := prefixBound_run Js Xs hg hn (by omega) a1 ho
        simp -implicitDefEqProofs [CL_ret r1, CH_at r1, c1, CL_ret r2, CH_at r2, c2, CL_ret r3, CH_at r3, c3, CL_ret r4, pbV, e]
theorem specPrefixBound_run (J : Jobs h vj js) (hl : js.length ≤ 2 ^ 40) (X : Ints h v xs) (hx : xs.length ≤ 2 ^ 40) : Ret P G n_spec_PrefixBound [vj, v, .int .i64 o] h (.tuple #[.int .i64 (pbV js xs o), .bool (pbOk js xs o)]) h := by
  refine enter_run e_spec_PrefixBound (by simp) ?_
  have Js := J
  have Xs := X
  obtain ⟨oj, cj, rfl⟩ := J.shapeT
  obtain ⟨oa, ca, rfl⟩ := X.shapeT
  have r1 := l5Two_run (o := o) Js hl
  have r2 := l5Prefix_run Js hl Xs hx
  have ek : pbOk js xs o = (okC js o && arGo js.length [] xs) := by
    unfold pbOk okC jOk
    cases (decide (js.length ≤ 8) && goodL js) <;> cases arGo js.length [] xs <;> cases twoB o <;> rfl
  cases c1 : okC js o
  · have e : pbOk js xs o = false := by rw [ek, c1]; rfl
    simp -implicitDefEqProofs [CL_ret r1, CH_at r1, c1, pbV, e]
  · cases c2 : arGo js.length [] xs
    · have e : pbOk js xs o = false := by rw [ek, c1, c2]; rfl
      simp -implicitDefEqProofs [CL_ret r1, CH_at r1, c1, CL_ret r2, CH_at r2, c2, pbV, e]
    · have e : pbOk js xs o = true := by rw [ek, c1, c2]; rfl
      obtain ⟨hn, hg, ho⟩ := okC_facts c1
      obtain ⟨a1, a2, a3⟩ := ar_facts hn c2
      have r4 := l5Bound_run Js Xs hg hn (by omega) a1 ho
      simp -implicitDefEqProofs [CL_ret r1, CH_at r1, c1, CL_ret r2, CH_at r2, c2, CL_ret r4, pbV, e]
theorem bdV_nil_bd (hg : goodL js = true) (hn : js.length ≤ 8) (ho : o = 2 ∨ o = 4) : bdV o js [] ≤ bestV o js := by
  obtain ⟨b1, b2, b3, b4⟩ := best_facts (f := valX o js) hn
  have := pre_le (B := []) (R := (bestR (valX o js) js.length).o) hg hn ho (by rw [List.nil_append]; exact b3)
  rw [List.nil_append, b2] at this
  exact this
end
end Go.Pm.PP

/- Gains of split schedules of both; lists and tables compared. -/
set_option linter.unusedVariables false
set_option linter.unusedSimpArgs false
set_option maxRecDepth 4000
set_option maxHeartbeats 16000000
namespace Go.Pm.PP
open Go.Pm Go.Proofs Go.Pm.PE
section
variable {h : Hp} {vj v u : Value} {js : List Job} {xs ys B : List Int} {o : Int}
theorem valE_bd {es : List Int} (hg : goodL js = true) (hn : js.length ≤ 8) (he : ∀ e, e ∈ es → 0 ≤ e ∧ e ≤ 2 ^ 20) : -(2 ^ 40) ≤ valE o js es ∧ valE o js es ≤ 2 ^ 40 := by
  unfold valE
  first
    | (have := val_bd (o := o) (f := decide (o = 4)) (a := 0) (B := 0) hg he (by omega) (by omega) (by omega); omega)
    | (have := val_bd (o := o) (f := true) (a := 0) (B := 0) hg he (by omega) (by omega) (by omega); omega)
    | (have := val_bd (o := o) (f := false) (a := 0) (B := 0) hg he (by omega) (by omega) (by omega); omega)
theorem ends_bd (hg : goodL js = true) (hn : js.length ≤ 8) (hx : Ord js.length xs) : ∀ e, e ∈ endsL js xs → 0 ≤ e ∧ e ≤ 2 ^ 20 := fun e he => by
  have := endGo_bd hg (k := 0) hx.inn (Int.le_refl 0) (by omega) (fun e he => by rw [List.eq_of_mem_replicate he]; omega) e he
  have := hx.len
  omega
theorem bestV_bd (hg : goodL js = true) (hn : js.length ≤ 8) : -(2 ^ 40) ≤ bestV o js ∧ bestV o js ≤ 2 ^ 40 := by
  obtain ⟨b1, b2, b3, b4⟩ := best_facts (f := valX o js) hn
  have := valE_bd (o := o) hg hn (ends_bd hg hn b3)
  unfold bestV
  rw [← b2]; exact this
theorem bdV_bd (hg : goodL js = true) (hn : js.length ≤ 8) (hB : B.length ≤ 8) (hin : inN js.length B) : -(2 ^ 40) ≤ bdV o js B ∧ bdV o js B ≤ 2 ^ 40 := valE_bd hg hn (bdE_bd hg hB hin)
def sgV (js : List Job) (o : Int) : Int := if okC js o = true then bestV o js - bdV o js [] else 0
theorem implSplitGain_run (J : Jobs h vj js) (hl : js.length ≤ 2 ^ 40) : Ret P G n_impl_SplitGain [vj, .int .i64 o] h (.tuple #[.int .i64 (sgV js o), .bool (okC js o)]) h := by
  refine enter_run e_impl_SplitGain (by simp) ?_
  have Js := J
  obtain ⟨oj, cj, rfl⟩ := J.shapeT
  have r1 := IsJobs_run Js hl
  have r3 := @isSplitObjective_run h o
  cases c1 : (decide (js.length ≤ 8) && goodL js)
  · have e : okC js o = false := by unfold okC; rw [c1]; rfl
    simp -implicitDefEqProofs [CL_ret r1, CH_at r1, c1, sgV, e]
  · cases c3 : twoB o
    · have e : okC js o = false := by unfold okC; rw [c3, Bool.and_false]
      simp -implicitDefEqProofs [CL_ret r1, CH_at r1, c1, CL_ret r3, CH_at r3, c3, sgV, e]
    · have e : okC js o = true := by unfold okC; rw [c1, c3]; rfl
      obtain ⟨hn, hg, ho⟩ := okC_facts e
      simp -implicitDefEqProofs [CL_ret r1, CH_at r1, c1, CL_ret r3, CH_at r3, c3]
      refine CL_post (best_run Js hg hn (by omega)) fun v1 h1 ⟨hp1, vf, ev, _⟩ => ?_
      subst ev
      have N0 : Ints h1 (.slice none 0 0) ([] : List Int) := ⟨by simp, none, 0, rfl, .inl ⟨rfl, rfl, rfl⟩⟩
      have r4 := prefixBound_run (Js.pre hp1) N0 hg hn (by simp) (fun x hx => by cases hx) ho
      have b1 := bestV_bd (o := o) hg hn
      have b2 := bdV_bd (o := o) (B := []) hg hn (by simp) (fun x hx => by cases hx)
      have w : IntKind.i64.wrap (bestV o js - bdV o js []) = bestV o js - bdV o js [] := by rw [wrap_ok] <;> omega
      simp -implicitDefEqProofs [CL_ret r4, w, sgV, e]
      exact gcP hp1 rfl
theorem specSplitGain_run (J : Jobs h vj js) (hl : js.length ≤ 2 ^ 40) : Ret P G n_spec_SplitGain [vj, .int .i64 o] h (.tuple #[.int .i64 (sgV js o), .bool (okC js o)]) h := by
  refine enter_run e_spec_SplitGain (by simp) ?_
  have Js := J
  obtain ⟨oj, cj, rfl⟩ := J.shapeT
  have r1 := l5Two_run (o := o) Js hl
  cases e : okC js o
  · simp -implicitDefEqProofs [CL_ret r1, CH_at r1, sgV, e]
  · obtain ⟨hn, hg, ho⟩ := okC_facts e
    simp -implicitDefEqProofs [CL_ret r1, CH_at r1, e]
    refine CL_post (l2Best_run Js hg hn (by omega)) fun v1 h1 ⟨hp1, vf, ev, _⟩ => ?_
    subst ev
    have N0 : Ints h1 (.slice none 0 0) ([] : List Int) := ⟨by simp, none, 0, rfl, .inl ⟨rfl, rfl, rfl⟩⟩
    have r4 := l5Bound_run (Js.pre hp1) N0 hg hn (by simp) (fun x hx => by cases hx) ho
    have b1 := bestV_bd (o := o) hg hn
    have b2 := bdV_bd (o := o) (B := []) hg hn (by simp) (fun x hx => by cases hx)
    have w : IntKind.i64.wrap (bestV o js - bdV o js []) = bestV o js - bdV o js [] := by rw [wrap_ok] <;> omega
    simp -implicitDefEqProofs [CL_ret r4, w, sgV, e]
    exact gcP hp1 rfl
theorem vTable_run {xss : List (List Int)} {us ws : List Value} (N : Nest h v encI 1 xss us) (M : Nest h u encI 1 xss ws) (hn : xss.length ≤ 2 ^ 40) (hb : ∀ x, x ∈ xss → x.length ≤ 2 ^ 40) : Ret P G n_laws_vTable [v, u] h (.bool true) h := by
  refine enter_run e_laws_vTable (by simp) ?_
  have Ns := N
  have Ms := M
  obtain ⟨oa, ca, rfl⟩ := N.shape
  obtain ⟨ob, cb, rfl⟩ := M.shape
  simp -implicitDefEqProofs
  refine R_loopO (fun m s h' => ∃ (i : Nat), i + m = xss.length ∧ s = [(0, .slice oa xss.length ca), (1, .slice ob xss.length cb), (5, .int .i64 i)] ∧ h' = h) (fun I hI m s h' => ?_) (n := xss.length) ⟨0, Nat.zero_add _, by simp, rfl⟩
  rintro ⟨i, hi, rfl, rfl⟩
  by_cases hlt : i < xss.length
  · have hlt' : (i : Int) < xss.length := by omega
    obtain ⟨x, hx, _⟩ := drop_at hlt
    obtain ⟨ux, hux, Sx⟩ := Ns.at hx
    obtain ⟨wx, hwx, Tx⟩ := Ms.at hx
    have l1 := load_N (Ns.out : Sees h' _ 1 (us.map encV)) hux
    have l2 := load_N (Ms.out : Sees h' _ 1 (ws.map encV)) hwx
    have rr := vInts_run Sx Tx (hb x (List.mem_of_getElem? hx))
    obtain ⟨xa, xn, xc, rfl⟩ : ∃ a n c, ux = .slice a n c := by obtain ⟨a, c, e⟩ := Sx.shape; exact ⟨_, _, _, e⟩
    obtain ⟨ya, yn, yc, rfl⟩ : ∃ a n c, wx = .slice a n c := by obtain ⟨a, c, e⟩ := Tx.shape; exact ⟨_, _, _, e⟩
    simp -implicitDefEqProofs [-indexAddrP_some, hlt, hlt', l1, l2, CL_ret rr, CH_at rr, winc hlt (by omega)]
    exact ⟨m - 1, by omega, on hI ⟨i + 1, by omega, rfl, rfl⟩⟩
  · have hlt' : ¬ (i : Int) < xss.length := by omega
    simp -implicitDefEqProofs [hlt, hlt']
theorem vHas_run {x : Int} (X : Ints h v xs) (hx : xs.length ≤ 2 ^ 40) : Ret P G n_laws_vHas [v, .int .i64 x] h (.bool (hasL x xs)) h := by
  refine enter_run e_laws_vHas (by simp) ?_
  have hvs := X
  obtain ⟨oa, c, rfl⟩ := X.shapeT
  simp -implicitDefEqProofs
  refine R_loopO (fun n s h' => ∃ i : Nat, i + n = xs.length ∧ s = [(0, .slice oa xs.length c), (1, .int .i64 x), (5, .int .i64 i)] ∧ h' = h ∧ hasL x xs = hasL x (xs.drop i)) (fun I hI n s h' => ?_) ⟨0, Nat.zero_add _, by simp, rfl, by simp⟩
  rintro ⟨i, hi, rfl, rfl, hxx⟩
  by_cases hlt : i < xs.length
  · obtain ⟨y, hy, hd⟩ := drop_at hlt
    rw [hd, hasL_cons] at hxx
    simp -implicitDefEqProofs [-indexAddrP_some, hlt, load_I hvs hy]
    refine CB_split (fun h => ?_) (fun h => ?_)
    · simp -implicitDefEqProofs [hxx, h]
    · rw [h, Bool.false_or] at hxx
      simp -implicitDefEqProofs [winc hlt hx]
      exact ⟨n - 1, by omega, on hI ⟨i + 1, by omega, rfl, rfl, hxx⟩⟩
  · rw [List.drop_eq_nil_of_le (by omega), hasL_nil] at hxx
    simp -implicitDefEqProofs [hlt, hxx]
end
end Go.Pm.PP

/- Lists compared, begun; factorials. -/
set_option linter.unusedVariables false
set_option linter.unusedSimpArgs false
set_option maxRecDepth 4000
set_option maxHeartbeats 16000000
namespace Go.Pm.PP
open Go.Pm Go.Proofs Go.Pm.PE
def cmpL : List Int → List Int → Int
  | x :: xs, y :: ys => if x = y then cmpL xs ys else x - y
  | xs, ys => (xs.length : Int) - ys.length
theorem cmpL_zero : ∀ {xs ys : List Int}, cmpL xs ys = 0 ↔ xs = ys
  | [], [] => by simp [cmpL]
  | [], y :: ys => by simp [cmpL]; omega
  | x :: xs, [] => by simp [cmpL]; omega
  | x :: xs, y :: ys => by
    rw [cmpL]
    split
    · rename_i h; subst h; rw [cmpL_zero]; simp
    · rename_i h; simp [h]; omega
theorem compareLists_run {h : Hp} {v u : Value} {xs ys : List Int} (hv : Ints h v xs) (hu : Ints h u ys) (hn : xs.length ≤ 2 ^ 40) (hm : ys.length ≤ 2 ^ 40) (h1 : ∀ x ∈ xs, 0 ≤ x ∧ x ≤ 2 ^ 40) (h2 : ∀ x ∈ ys, 0 ≤ x ∧ x ≤ 2 ^ 40) :
    Ret P G n_impl_compareLists [v, u] h (.int .i64 (cmpL xs ys)) h := by
  refine enter_run e_impl_compareLists (by simp) ?_
  have hvs := hv
  have hus := hu
  obtain ⟨oa, c, rfl⟩ := hv.shapeT
  obtain ⟨ob, d, rfl⟩ := hu.shapeT
  simp -implicitDefEqProofs
  refine R_loopO (fun m s h' => ∃ i : Nat, i + m = xs.length ∧ s = [(0, .slice oa xs.length c), (1, .slice ob ys.length d), (5, .int .i64 i)] ∧ h' = h ∧ i ≤ ys.length ∧ cmpL xs ys = cmpL (xs.drop i) (ys.drop i)) (fun I hI m s h' => ?_) ⟨0, Nat.zero_add _, by simp, rfl, by omega, by simp⟩
  rintro ⟨i, hi, rfl, rfl, hy0, hx⟩
  have w : IntKind.i64.wrap ((xs.length : Int) - ys.length) = (xs.length : Int) - ys.length := by rw [wrap_ok] <;> omega
  by_cases hlt : i < xs.length
  · by_cases hlt2 : i < ys.length
    · obtain ⟨x, hx1, hd⟩ := drop_at hlt
      obtain ⟨y, hy1, hdy⟩ := drop_at hlt2
      rw [hd, hdy, cmpL] at hx
      have g1 := h1 x (List.mem_of_getElem? hx1)
      have g2 := h2 y (List.mem_of_getElem? hy1)
      by_cases c1 : x = y
      · rw [if_pos c1] at hx
        have c1' : (x != y) = false := by simpa using c1
        simp -implicitDefEqProofs [-indexAddrP_some, hlt, hlt2, load_I hvs hx1, load_I hus hy1, c1', winc hlt hn]
        exact ⟨m - 1, by omega, on hI ⟨i + 1, by omega, rfl, rfl, by omega, hx⟩⟩
      · rw [if_neg c1] at hx
        have w1 : IntKind.i64.wrap (x - y) = x - y := by rw [wrap_ok] <;> omega
        simp -implicitDefEqProofs [-indexAddrP_some, hlt, hlt2, load_I hvs hx1, load_I hus hy1, nt c1, w1, hx]
    · have : cmpL (xs.drop i) (ys.drop i) = (xs.length : Int) - ys.length := by
        rw [List.drop_eq_nil_of_le (show ys.length ≤ i by omega)]
        cases hq : xs.drop i with
        | nil => have := congrArg List.length hq; simp at this; omega
        | cons a r => have := congrArg List.length hq; simp at this; simp [cmpL]; omega
      rw [this] at hx
      simp -implicitDefEqProofs [hlt, hlt2, w, hx]
  · have : cmpL (xs.drop i) (ys.drop i) = (xs.length : Int) - ys.length := by
      rw [List.drop_eq_nil_of_le (show xs.length ≤ i by omega)]
      cases hq : ys.drop i with
      | nil => have := congrArg List.length hq; simp at this; simp [cmpL]; omega
      | cons a r => have := congrArg List.length hq; simp at this; simp [cmpL]; omega
    rw [this] at hx
    simp -implicitDefEqProofs [hlt, w, hx]
def fct : Nat → Nat
  | 0 => 1
  | n + 1 => (n + 1) * fct n
theorem fct_pos : ∀ {n : Nat}, 1 ≤ fct n
  | 0 => Nat.le_refl _
  | n + 1 => by rw [fct]; exact Nat.mul_pos (by omega) fct_pos
theorem fct_mono {n m : Nat} (h : n ≤ m) : fct n ≤ fct m := by
  induction h with
  | refl => exact Nat.le_refl _
  | step _ ih => rw [fct]; exact Nat.le_trans ih (Nat.le_mul_of_pos_left _ (by omega))
theorem factorial_run {h : Hp} {n : Nat} (hn : n ≤ 12) : Ret P G n_impl_factorial [.int .i64 n] h (.int .i64 (fct n : Nat)) h := by
  refine enter_run e_impl_factorial (by simp) ?_
  simp -implicitDefEqProofs
  refine R_loopO (fun m st h' => ∃ a : Nat, m ≤ 12 ∧ st = [(0, .int .i64 m), (3, .int .i64 a)] ∧ h' = h ∧ a * fct m = fct n) (fun I hI m st h' => ?_) (n := n) ⟨1, hn, by simp, rfl, Nat.one_mul _⟩
  rintro ⟨a, hm, rfl, rfl, ha⟩
  have hb : fct n ≤ 479001600 := Nat.le_trans (fct_mono hn) (by decide)
  by_cases c : 1 < m
  · have c' : (1 : Int) < m := by omega
    obtain ⟨q, rfl⟩ : ∃ q, m = q + 1 := ⟨m - 1, by omega⟩
    have hq : 1 ≤ fct q := by have := fct_mono (Nat.zero_le q); exact this
    rw [fct, ← Nat.mul_assoc] at ha
    have hle : a * (q + 1) ≤ fct n := by rw [← ha]; exact Nat.le_mul_of_pos_right _ hq
    have w1 : IntKind.i64.wrap ((a : Int) * ((q : Int) + 1)) = ((a * (q + 1) : Nat) : Int) := by
      rw [Int.natCast_mul, Int.natCast_add]
      have h3 : ((a * (q + 1) : Nat) : Int) = (a : Int) * ((q : Int) + 1) := by rw [Int.natCast_mul, Int.natCast_add]; rfl
      rw [wrap_ok] <;> first | rfl | omega
    have w2 : IntKind.i64.wrap (q : Int) = (q : Int) := by rw [wrap_ok] <;> omega
    have c2 : (1 : Int) < (q : Int) + 1 := by omega
    simp -implicitDefEqProofs [c, c2, w1, w2]
    refine ⟨q, by omega, on hI ⟨a * (q + 1), by omega, ?_, rfl, ha⟩⟩
    simp
  · have c' : ¬ (1 : Int) < m := by omega
    have e : a = fct n := by
      have : fct m = 1 := by
        match m, c with
        | 0, _ => rfl
        | 1, _ => rfl
        | m + 2, c => omega
      rw [this, Nat.mul_one] at ha; exact ha
    simp -implicitDefEqProofs [c, c', e]
section
variable {h : Hp} {vj v u : Value} {js : List Job} {xs ys B : List Int} {o : Int}
theorem l1SameLen_run (X : Ints h v xs) (Y : Ints h u ys) (hl : xs.length = ys.length) (hb : ys.length ≤ 2 ^ 40) : Ret P G n_spec_l1Same [v, u] h (.bool (xs == ys)) h := by
  refine enter_run e_spec_l1Same (by simp) ?_
  have Xs := X
  have Ys := Y
  obtain ⟨ox, cx, rfl⟩ := X.shapeT
  obtain ⟨oy, cy, rfl⟩ := Y.shapeT
  simp -implicitDefEqProofs [hl]
  refine R_loopO (fun m s h' => ∃ (i : Nat), i + m = ys.length ∧ s = [(0, .slice ox ys.length cx), (1, .slice oy ys.length cy), (5, .int .i64 i)] ∧ (xs == ys) = (xs.drop i == ys.drop i) ∧ h' = h) (fun I hI m s h' => ?_) (n := ys.length) ⟨0, Nat.zero_add _, by simp [hl], rfl, rfl⟩
  rintro ⟨i, hi, rfl, hx, rfl⟩
  rw [hl] at Xs
  by_cases hlt : i < ys.length
  · have hlx : i < xs.length := by omega
    have hlt' : (i : Int) < ys.length := by omega
    obtain ⟨a, ha, hda⟩ := drop_at hlx
    obtain ⟨b, hb', hdb⟩ := drop_at hlt
    rw [hda, hdb] at hx
    by_cases c : a = b
    · subst c
      have hx : (xs == ys) = (xs.drop (i + 1) == ys.drop (i + 1)) := by rw [hx]; simp
      simp -implicitDefEqProofs [-indexAddrP_some, hlt, hlt', load_I Xs ha, load_I Ys hb', winc hlt (by omega)]
      exact ⟨m - 1, by omega, on hI ⟨i + 1, by omega, rfl, hx, rfl⟩⟩
    · have hx : (xs == ys) = false := by rw [hx]; simp [c]
      simp -implicitDefEqProofs [-indexAddrP_some, hlt, hlt', load_I Xs ha, load_I Ys hb', nb c, nt c]
      simpa using hx
  · have hlt' : ¬ (i : Int) < ys.length := by omega
    rw [List.drop_eq_nil_of_le (by omega), List.drop_eq_nil_of_le (by omega)] at hx
    have hx : (xs == ys) = true := hx
    simp -implicitDefEqProofs [hlt, hlt']
    simpa using hx
theorem l1Same_run (X : Ints h v xs) (Y : Ints h u ys) (ha : xs.length ≤ 2 ^ 40) (hb : ys.length ≤ 2 ^ 40) : Ret P G n_spec_l1Same [v, u] h (.bool (xs == ys)) h := by
  by_cases hl : xs.length = ys.length
  · exact l1SameLen_run X Y hl hb
  · have e : (xs == ys) = false := by rw [beq_eq_false_iff_ne]; intro g; exact hl (by rw [g])
    rw [e]
    refine enter_run e_spec_l1Same (by simp) ?_
    obtain ⟨ox, cx, rfl⟩ := X.shapeT
    obtain ⟨oy, cy, rfl⟩ := Y.shapeT
    have n : ((xs.length : Int) != ys.length) = true := nt (by omega)
    simp -implicitDefEqProofs [n, hl]
def begB (xs p : List Int) : Bool := decide (p.length ≤ xs.length) && (xs.take p.length == p)
theorem begB_iff {xs p : List Int} : begB xs p = true ↔ p <+: xs := by
  unfold begB
  rw [Bool.and_eq_true, decide_eq_true_eq, beq_iff_eq]
  constructor
  · rintro ⟨_, h⟩; rw [← h]; exact List.take_prefix _ _
  · intro h; exact ⟨h.length_le, (List.prefix_iff_eq_take.1 h).symm⟩
theorem l5Begins_run (X : Ints h v xs) (Y : Ints h u ys) (ha : xs.length ≤ 2 ^ 40) (hb : ys.length ≤ 2 ^ 40) : Ret P G n_spec_l5Begins [v, u] h (.bool (begB xs ys)) h := by
  refine enter_run e_spec_l5Begins (by simp) ?_
  have Xs := X
  have Ys := Y
  obtain ⟨ox, cx, rfl⟩ := X.shapeT
  obtain ⟨oy, cy, rfl⟩ := Y.shapeT
  by_cases c : ys.length ≤ xs.length
  · obtain ⟨v', hs, hu⟩ := Xs.front (P := P) u_S_int i_int (k := .i64) (j := (ys.length : Int)) (by omega) (by simp; omega)
    rw [Int.toNat_natCast, ← List.map_take] at hu
    have r := l1Same_run hu Ys (by simp; omega) hb
    have e : begB xs ys = (xs.take ys.length == ys) := by unfold begB; rw [decide_eq_true c]; rfl
    simp -implicitDefEqProofs [c, hs, CL_ret r, CH_at r, e]
  · have e : begB xs ys = false := by unfold begB; rw [decide_eq_false c]; rfl
    simp -implicitDefEqProofs [c, e]
theorem beginsWith_run (X : Ints h v xs) (Y : Ints h u ys) (ha : xs.length ≤ 2 ^ 40) (hb : ys.length ≤ 2 ^ 40) (h1 : ∀ x ∈ xs, 0 ≤ x ∧ x ≤ 2 ^ 40) (h2 : ∀ x ∈ ys, 0 ≤ x ∧ x ≤ 2 ^ 40) : Ret P G n_impl_beginsWith [v, u] h (.bool (begB xs ys)) h := by
  refine enter_run e_impl_beginsWith (by simp) ?_
  have Xs := X
  have Ys := Y
  obtain ⟨ox, cx, rfl⟩ := X.shapeT
  obtain ⟨oy, cy, rfl⟩ := Y.shapeT
  by_cases c : ys.length ≤ xs.length
  · obtain ⟨v', hs, hu⟩ := Xs.front (P := P) u_S_int i_int (k := .i64) (j := (ys.length : Int)) (by omega) (by simp; omega)
    rw [Int.toNat_natCast, ← List.map_take] at hu
    have r := compareLists_run hu Ys (by simp; omega) hb (fun x hx => h1 x (List.mem_of_mem_take hx)) h2
    have e : begB xs ys = (cmpL (xs.take ys.length) ys == 0) := by
      unfold begB; rw [decide_eq_true c, Bool.true_and, Bool.eq_iff_iff, beq_iff_eq, beq_iff_eq]; exact cmpL_zero.symm
    simp -implicitDefEqProofs [c, hs, CL_ret r, CH_at r, e]
  · have e : begB xs ys = false := by unfold begB; rw [decide_eq_false c]; rfl
    simp -implicitDefEqProofs [c, e]
end
end Go.Pm.PP

/- Cases cover all orders: the sum over an ascending antichain of prefixes, and the recursion of the reference, in plain Lean. -/
set_option linter.unusedVariables false
set_option linter.unusedSimpArgs false
set_option maxHeartbeats 4000000
namespace Go.Pm.PP
open Go.Pm Go.Pm.PE
/-! ### ascending without beginnings -/
def ltB : List Int → List Int → Bool
  | x :: xs, y :: ys => if x = y then ltB xs ys else decide (x < y)
  | _, _ => false
theorem ltB_eq : ∀ {a b : List Int}, (decide (0 ≤ cmpL a b) || begB b a) = !ltB a b
  | [], b => by
    have : begB b [] = true := begB_iff.2 List.nil_prefix
    rw [this, Bool.or_true]; simp [ltB]
  | x :: xs, [] => by
    have : (0 : Int) ≤ cmpL (x :: xs) [] := by simp only [cmpL, List.length_cons, List.length_nil]; omega
    rw [decide_eq_true this]; simp [ltB]
  | x :: xs, y :: ys => by
    by_cases c : x = y
    · subst c
      have e : begB (x :: ys) (x :: xs) = begB ys xs := by
        rw [Bool.eq_iff_iff, begB_iff, begB_iff, List.cons_prefix_cons]; simp
      rw [cmpL, if_pos rfl, e, ltB_eq, ltB, if_pos rfl]
    · have e : begB (y :: ys) (x :: xs) = false := by
        rw [← Bool.not_eq_true, begB_iff, List.cons_prefix_cons]
        exact fun g => c g.1
      rw [cmpL, if_neg c, e, Bool.or_false, ltB, if_neg c]
      by_cases d : x < y
      · rw [decide_eq_true d, decide_eq_false (by omega)]; rfl
      · rw [decide_eq_false d, decide_eq_true (by omega)]; rfl
theorem ltB_trans : ∀ {a b c : List Int}, ltB a b = true → ltB b c = true → ltB a c = true
  | [], b, c, h, _ => by simp [ltB] at h
  | x :: xs, [], c, h, _ => by simp [ltB] at h
  | x :: xs, y :: ys, [], _, h => by simp [ltB] at h
  | x :: xs, y :: ys, z :: zs, h1, h2 => by
    rw [ltB] at h1 h2 ⊢
    by_cases c1 : x = y
    · subst c1
      rw [if_pos rfl] at h1
      by_cases c2 : x = z
      · subst c2
        rw [if_pos rfl] at h2 ⊢
        exact ltB_trans h1 h2
      · rw [if_neg c2] at h2 ⊢; exact h2
    · rw [if_neg c1, decide_eq_true_eq] at h1
      by_cases c2 : y = z
      · subst c2
        rw [if_neg c1, decide_eq_true_eq]; exact h1
      · rw [if_neg c2, decide_eq_true_eq] at h2
        rw [if_neg (by omega), decide_eq_true_eq]; omega
theorem ltB_app {B : List Int} {a b : List Int} : ltB (B ++ a) (B ++ b) = ltB a b := by
  induction B with
  | nil => rfl
  | cons x B ih => rw [List.cons_append, List.cons_append, ltB, if_pos rfl, ih]
theorem ltB_ext {B a b : List Int} {x y : Int} (ha : B ++ [x] <+: a) (hb : B ++ [y] <+: b) : (x < y → ltB a b = true) ∧ (ltB a b = true → x ≤ y) := by
  obtain ⟨u, rfl⟩ := ha
  obtain ⟨w, rfl⟩ := hb
  rw [List.append_assoc, List.append_assoc, ltB_app, List.singleton_append, List.singleton_append, ltB]
  constructor
  · intro h; rw [if_neg (by omega), decide_eq_true_eq]; exact h
  · intro h
    by_cases c : x = y
    · omega
    · rw [if_neg c, decide_eq_true_eq] at h; omega
theorem ltB_l {B c : List Int} (h : B <+: c) : ltB B c = false ∧ ltB c B = false := by
  obtain ⟨u, rfl⟩ := h
  have e1 := @ltB_app B [] u
  have e2 := @ltB_app B u []
  rw [List.append_nil] at e1 e2
  rw [e1, e2]
  exact ⟨by cases u <;> rfl, by cases u <;> rfl⟩
/-! ### the reference's recursion -/
def cov (n : Nat) : Nat → List Int → List (List Int) → Option (List (List Int))
  | 0, B, cs => if cs.head? = some B then some cs.tail else none
  | k + 1, B, cs => if cs.head? = some B then some cs.tail else (rem n B).foldl (fun o x => o.bind fun cs => cov n k (B ++ [x]) cs) (some cs)
def sumF (n : Nat) (L : List (List Int)) : Nat := (L.map fun c => fct (n - c.length)).sum
theorem sumF_app {n : Nat} {L M : List (List Int)} : sumF n (L ++ M) = sumF n L + sumF n M := by unfold sumF; rw [List.map_append, List.sum_append_nat]
theorem sumF_one {n : Nat} {B : List Int} {k : Nat} (h : B.length + k = n) : sumF n [B] = fct k := by
  unfold sumF; rw [List.map_singleton, List.sum_singleton, show n - B.length = k by omega]
theorem fold_none {f : Int → List (List Int) → Option (List (List Int))} : ∀ {l : List Int}, l.foldl (fun o x => o.bind fun cs => f x cs) none = none
  | [] => rfl
  | x :: l => by rw [List.foldl_cons]; exact fold_none
theorem head_split {cs : List (List Int)} {B : List Int} (h : cs.head? = some B) : cs = [B] ++ cs.tail := by
  cases cs with
  | nil => cases h
  | cons c r => simp only [List.head?_cons, Option.some.injEq] at h; rw [h]; rfl
theorem rem_asc {n : Nat} {B : List Int} : (rem n B).Pairwise (· < ·) := by
  unfold rem
  refine List.Pairwise.filter _ ?_
  rw [List.pairwise_map]
  exact List.Pairwise.imp (fun h => by omega) (List.pairwise_lt_range' (s := 0) (n := n))
theorem rem_in {n : Nat} {B : List Int} {x : Int} (h1 : 0 ≤ x ∧ x < n) (h2 : x ∉ B) : x ∈ rem n B := by
  unfold rem
  refine List.mem_filter.2 ⟨List.mem_map.2 ⟨x.toNat, by simp [List.mem_range'_1]; omega, by omega⟩, ?_⟩
  have : hasL x B = false := by rw [← Bool.not_eq_true, hasL_iff']; exact h2
  rw [hasL] at this
  rw [this]; rfl
theorem rem_card {n : Nat} {B : List Int} (hnd : B.Nodup) (hin : inN n B) : B.length + (rem n B).length = n := by
  have nd : (B ++ rem n B).Nodup := List.nodup_append.2 ⟨hnd, rem_asc.imp fun h => by omega, fun a ha b hb e => (rem_mem hb).2 (e ▸ ha)⟩
  have h1 : (B ++ rem n B).length ≤ n := nodup_len nd fun x hx => by
    rcases List.mem_append.1 hx with g | g
    · exact hin x g
    · exact (rem_mem g).1
  have h2 : (upTo n).length ≤ (B ++ rem n B).length := nd_le (up_asc.imp fun h => by omega) fun x hx => by
    have hx := mem_upTo.1 hx
    by_cases c : x ∈ B
    · exact List.mem_append_left _ c
    · exact List.mem_append_right _ (rem_in hx c)
  rw [upTo_len] at h2
  rw [List.length_append] at h1 h2
  omega
theorem cov_sound {n : Nat} : ∀ {k : Nat} {B : List Int} {cs rest : List (List Int)}, B.length + k = n → B.Nodup → inN n B → cov n k B cs = some rest →
    ∃ L, cs = L ++ rest ∧ (∀ c, c ∈ L → B <+: c) ∧ L.Pairwise (fun a b => ltB a b = true) ∧ sumF n L = fct k ∧ ∀ y, Ord n y → B <+: y → ∃ c, c ∈ L ∧ c <+: y
  | 0, B, cs, rest, hk, hnd, hin, h => by
    rw [cov] at h
    by_cases c : cs.head? = some B
    · rw [if_pos c, Option.some.injEq] at h
      refine ⟨[B], by rw [← h]; exact head_split c, fun c hc => (by rw [List.mem_singleton.1 hc]; exact List.prefix_rfl), List.pairwise_singleton .., sumF_one hk, fun y _ hy => ⟨B, List.mem_singleton.2 rfl, hy⟩⟩
    · rw [if_neg c] at h; cases h
  | k + 1, B, cs, rest, hk, hnd, hin, h => by
    rw [cov] at h
    by_cases c : cs.head? = some B
    · rw [if_pos c, Option.some.injEq] at h
      refine ⟨[B], by rw [← h]; exact head_split c, fun c hc => (by rw [List.mem_singleton.1 hc]; exact List.prefix_rfl), List.pairwise_singleton .., sumF_one hk, fun y _ hy => ⟨B, List.mem_singleton.2 rfl, hy⟩⟩
    · rw [if_neg c] at h
      have go : ∀ (l : List Int) (cs : List (List Int)), (∀ x, x ∈ l → x ∈ rem n B) → l.Pairwise (· < ·) → l.foldl (fun o x => o.bind fun cs => cov n k (B ++ [x]) cs) (some cs) = some rest →
          ∃ L, cs = L ++ rest ∧ (∀ c, c ∈ L → ∃ x, x ∈ l ∧ B ++ [x] <+: c) ∧ L.Pairwise (fun a b => ltB a b = true) ∧ sumF n L = l.length * fct k ∧ ∀ x, x ∈ l → ∀ y, Ord n y → B ++ [x] <+: y → ∃ c, c ∈ L ∧ c <+: y := fun l => by
        induction l with
        | nil =>
          intro cs _ _ h
          rw [List.foldl_nil, Option.some.injEq] at h
          exact ⟨[], by rw [h]; rfl, (fun c hc => by cases hc), List.Pairwise.nil, by simp [sumF], (fun x hx => by cases hx)⟩
        | cons x l ih =>
          intro cs hm hp h
          rw [List.foldl_cons, Option.bind_some] at h
          cases e : cov n k (B ++ [x]) cs with
          | none => rw [e, fold_none] at h; cases h
          | some r1 =>
            rw [e] at h
            have hx := rem_mem (hm x (List.mem_cons_self ..))
            obtain ⟨p1, p2⟩ := List.pairwise_cons.1 hp
            obtain ⟨L1, a1, a2, a3, a4, a5⟩ := cov_sound (by rw [List.length_append, List.length_singleton]; omega) (nd_snoc hnd hx.2) (fun y hy => by
              rcases List.mem_append.1 hy with g | g
              · exact hin y g
              · rw [List.mem_singleton.1 g]; exact hx.1) e
            obtain ⟨L2, b1, b2, b3, b4, b5⟩ := ih r1 (fun y hy => hm y (List.mem_cons_of_mem _ hy)) p2 h
            refine ⟨L1 ++ L2, by rw [a1, b1, List.append_assoc], fun c hc => ?_, List.pairwise_append.2 ⟨a3, b3, fun a ha b hb => ?_⟩, ?_, fun z hz y oy hy => ?_⟩
            · rcases List.mem_append.1 hc with g | g
              · exact ⟨x, List.mem_cons_self .., a2 c g⟩
              · obtain ⟨z, hz, g2⟩ := b2 c g
                exact ⟨z, List.mem_cons_of_mem _ hz, g2⟩
            · obtain ⟨z, hz, g2⟩ := b2 b hb
              exact (ltB_ext (a2 a ha) g2).1 (p1 z hz)
            · rw [sumF_app, a4, b4, List.length_cons, Nat.add_mul]; omega
            · rcases List.mem_cons.1 hz with rfl | g
              · obtain ⟨c, hc, g2⟩ := a5 y oy hy
                exact ⟨c, List.mem_append_left _ hc, g2⟩
              · obtain ⟨c, hc, g2⟩ := b5 z g y oy hy
                exact ⟨c, List.mem_append_right _ hc, g2⟩
      obtain ⟨L, a1, a2, a3, a4, a5⟩ := go (rem n B) cs (fun x hx => hx) rem_asc h
      have card := rem_card hnd hin
      refine ⟨L, a1, fun c hc => ?_, a3, by rw [a4, show (rem n B).length = k + 1 by omega, fct], fun y oy hy => ?_⟩
      · obtain ⟨x, _, g⟩ := a2 c hc
        exact (List.prefix_append B [x]).trans g
      · obtain ⟨r, rfl⟩ := hy
        have hl := oy.len
        rw [List.length_append] at hl
        cases r with
        | nil => simp at hl; omega
        | cons x r =>
          have hnd2 := List.nodup_append.1 oy.nd
          have hx := oy.inn x (List.mem_append_right _ (List.mem_cons_self ..))
          exact a5 x (rem_in hx fun g => hnd2.2.2 x g x (List.mem_cons_self ..) rfl) _ oy (by rw [show B ++ x :: r = (B ++ [x]) ++ r by simp]; exact List.prefix_append _ _)
end Go.Pm.PP

/- Cases: the program's sum and the reference's recursion agree; the cases found are accepted. -/
set_option linter.unusedVariables false
set_option linter.unusedSimpArgs false
set_option maxHeartbeats 4000000
namespace Go.Pm.PP
open Go.Pm Go.Pm.PE
theorem split_filter {R : List Int → List Int → Prop} {p : List Int → Bool} : ∀ {l : List (List Int)}, l.Pairwise R → (∀ a, a ∈ l → ∀ b, b ∈ l → R a b → p b = true → p a = true) → l = l.filter p ++ l.filter fun c => !p c
  | [], _, _ => rfl
  | a :: l, hp, h => by
    obtain ⟨h1, h2⟩ := List.pairwise_cons.1 hp
    have ih := split_filter (p := p) h2 fun x hx y hy => h x (List.mem_cons_of_mem _ hx) y (List.mem_cons_of_mem _ hy)
    cases c : p a
    · have none : l.filter p = [] := List.filter_eq_nil_iff.2 fun b hb g => by
        have := h a (List.mem_cons_self ..) b (List.mem_cons_of_mem _ hb) (h1 b hb) g
        rw [c] at this; cases this
      rw [none, List.nil_append] at ih
      rw [List.filter_cons, List.filter_cons, c, none]
      simp only [Bool.false_eq_true, if_false, Bool.not_false, if_true, List.nil_append]
      rw [← ih]
    · rw [List.filter_cons, List.filter_cons, c]
      simp only [if_true, Bool.not_true, Bool.false_eq_true, if_false, List.cons_append]
      rw [← ih]
theorem cov_full {n : Nat} : ∀ {k : Nat} {B : List Int} {L rest : List (List Int)}, B.length + k = n → B.Nodup → inN n B → (∀ c, c ∈ L → B <+: c ∧ c.Nodup ∧ inN n c) → L.Pairwise (fun a b => ltB a b = true) →
    sumF n L ≤ fct k ∧ (sumF n L = fct k → cov n k B (L ++ rest) = some rest) := by
  intro k
  have leaf : ∀ {k : Nat} {B : List Int} {L rest : List (List Int)}, B.length + k = n → B.Nodup → inN n B → (∀ c, c ∈ L → B <+: c ∧ c.Nodup ∧ inN n c) → L.Pairwise (fun a b => ltB a b = true) → B ∈ L → L = [B] := fun {k B L rest} hk hnd hin hL hp hB => by
    obtain ⟨L1, L2, rfl⟩ := List.append_of_mem hB
    obtain ⟨_, p2, p3⟩ := List.pairwise_append.1 hp
    have e1 : L1 = [] := List.eq_nil_iff_forall_not_mem.2 fun c hc => by
      have := p3 c hc B (List.mem_cons_self ..)
      rw [(ltB_l (hL c (List.mem_append_left _ hc)).1).2] at this; cases this
    have e2 : L2 = [] := List.eq_nil_iff_forall_not_mem.2 fun c hc => by
      have := (List.pairwise_cons.1 p2).1 c hc
      rw [(ltB_l (hL c (List.mem_append_right _ (List.mem_cons_of_mem _ hc))).1).1] at this; cases this
    rw [e1, e2]; rfl
  have done : ∀ {k : Nat} {B : List Int} {L rest : List (List Int)}, B.length + k = n → L = [B] → sumF n L ≤ fct k ∧ (sumF n L = fct k → cov n k B (L ++ rest) = some rest) := fun {k B L rest} hk e => by
    subst e
    refine ⟨by rw [sumF_one hk]; exact Nat.le_refl _, fun _ => ?_⟩
    cases k <;> (rw [cov, if_pos (by rfl)]; rfl)
  induction k with
  | zero =>
    intro B L rest hk hnd hin hL hp
    by_cases hB : B ∈ L
    · exact done hk (leaf (rest := rest) hk hnd hin hL hp hB)
    · have e : L = [] := List.eq_nil_iff_forall_not_mem.2 fun c hc => by
        obtain ⟨h1, h2, h3⟩ := hL c hc
        have hl := nodup_len h2 h3
        have hb := h1.length_le
        have : B = c := h1.eq_of_length (by omega)
        exact hB (this ▸ hc)
      subst e
      exact ⟨by simp [sumF], fun g => by simp [sumF, fct] at g⟩
  | succ k ihk =>
    intro B L rest hk hnd hin hL hp
    by_cases hB : B ∈ L
    · exact done hk (leaf (rest := rest) hk hnd hin hL hp hB)
    · have go : ∀ (l : List Int) (L rest : List (List Int)), (∀ x, x ∈ l → x ∈ rem n B) → l.Pairwise (· < ·) → (∀ c, c ∈ L → (∃ x, x ∈ l ∧ B ++ [x] <+: c) ∧ c.Nodup ∧ inN n c) → L.Pairwise (fun a b => ltB a b = true) →
          sumF n L ≤ l.length * fct k ∧ (sumF n L = l.length * fct k → l.foldl (fun o x => o.bind fun cs => cov n k (B ++ [x]) cs) (some (L ++ rest)) = some rest) := fun l => by
        induction l with
        | nil =>
          intro L rest _ _ hL _
          have e : L = [] := List.eq_nil_iff_forall_not_mem.2 fun c hc => by
            obtain ⟨⟨x, hx, _⟩, _⟩ := hL c hc
            cases hx
          subst e
          exact ⟨by simp [sumF], fun _ => rfl⟩
        | cons x l ih =>
          intro L rest hm hl hL hp
          have hx := rem_mem (hm x (List.mem_cons_self ..))
          obtain ⟨l1, l2⟩ := List.pairwise_cons.1 hl
          have sp := split_filter (p := fun c => begB c (B ++ [x])) hp fun a ha b hb hab pb => by
            obtain ⟨⟨z, hz, ga⟩, _⟩ := hL a ha
            have le := (ltB_ext ga (begB_iff.1 pb)).2 hab
            rcases List.mem_cons.1 hz with rfl | hz
            · exact begB_iff.2 ga
            · have := l1 z hz; omega
          generalize hL1 : (L.filter fun c => begB c (B ++ [x])) = L1 at sp
          generalize hL2 : (L.filter fun c => !begB c (B ++ [x])) = L2 at sp
          have m1 : ∀ c, c ∈ L1 → c ∈ L ∧ B ++ [x] <+: c := fun c hc => by
            rw [← hL1] at hc
            obtain ⟨a, b⟩ := List.mem_filter.1 hc
            exact ⟨a, begB_iff.1 b⟩
          have m2 : ∀ c, c ∈ L2 → c ∈ L ∧ ¬ B ++ [x] <+: c := fun c hc => by
            rw [← hL2] at hc
            obtain ⟨a, b⟩ := List.mem_filter.1 hc
            refine ⟨a, fun g => ?_⟩
            rw [begB_iff.2 g] at b; cases b
          rw [sp] at hp
          obtain ⟨q1, q2, _⟩ := List.pairwise_append.1 hp
          obtain ⟨u1, u2⟩ := ihk (B := B ++ [x]) (L := L1) (rest := L2 ++ rest) (by rw [List.length_append, List.length_singleton]; omega) (nd_snoc hnd hx.2) (fun y hy => by
              rcases List.mem_append.1 hy with g | g
              · exact hin y g
              · rw [List.mem_singleton.1 g]; exact hx.1) (fun c hc => ⟨(m1 c hc).2, (hL c (m1 c hc).1).2⟩) q1
          obtain ⟨w1, w2⟩ := ih L2 rest (fun y hy => hm y (List.mem_cons_of_mem _ hy)) l2 (fun c hc => by
              obtain ⟨⟨z, hz, gz⟩, r⟩ := hL c (m2 c hc).1
              refine ⟨⟨z, ?_, gz⟩, r⟩
              rcases List.mem_cons.1 hz with rfl | hz
              · exact absurd gz (m2 c hc).2
              · exact hz) q2
          rw [sp, sumF_app, List.length_cons, Nat.add_mul, Nat.one_mul]
          refine ⟨by omega, fun g => ?_⟩
          rw [List.foldl_cons, Option.bind_some, List.append_assoc, u2 (by omega), w2 (by omega)]
      obtain ⟨g1, g2⟩ := go (rem n B) L rest (fun x hx => hx) rem_asc (fun c hc => by
        obtain ⟨h1, h2, h3⟩ := hL c hc
        refine ⟨?_, h2, h3⟩
        obtain ⟨r, rfl⟩ := h1
        cases r with
        | nil => rw [List.append_nil] at hc; exact absurd hc hB
        | cons x r =>
          have hnd2 := List.nodup_append.1 h2
          exact ⟨x, rem_in (h3 x (List.mem_append_right _ (List.mem_cons_self ..))) fun g => hnd2.2.2 x g x (List.mem_cons_self ..) rfl, by rw [show B ++ x :: r = (B ++ [x]) ++ r by simp]; exact List.prefix_append _ _⟩) hp
      have card := rem_card hnd hin
      rw [show (rem n B).length = k + 1 by omega, ← fct] at g1 g2
      refine ⟨g1, fun e => ?_⟩
      have hd : ¬ (L ++ rest).head? = some B := fun h => by
        cases L with
        | nil =>
          have := fct_pos (n := k + 1)
          simp [sumF] at e; omega
        | cons c L =>
          simp only [List.cons_append, List.head?_cons, Option.some.injEq] at h
          exact hB (h ▸ List.mem_cons_self ..)
      rw [cov, if_neg hd]
      exact g2 e
theorem cov_iff {n : Nat} {cs : List (List Int)} (h : ∀ c, c ∈ cs → c.Nodup ∧ inN n c) : cov n n [] cs = some [] ↔ cs.Pairwise (fun a b => ltB a b = true) ∧ sumF n cs = fct n := by
  constructor
  · intro g
    obtain ⟨L, a1, a2, a3, a4, _⟩ := cov_sound (B := []) (by simp) List.nodup_nil (fun x hx => by cases hx) g
    rw [List.append_nil] at a1
    rw [a1]; exact ⟨a3, a4⟩
  · rintro ⟨g1, g2⟩
    have := (cov_full (B := []) (rest := []) (by simp) List.nodup_nil (fun x hx => by cases hx) (fun c hc => ⟨List.nil_prefix, h c hc⟩) g1).2 g2
    rwa [List.append_nil] at this
/-- The cases that are found. -/
theorem cas_cov {f : List Int → Bool} {n : Nat} (hf : ∀ B, Ord n B → f B = true) : ∀ {k : Nat} {B : List Int} {rest : List (List Int)}, B.length + k = n → B.Nodup → inN n B →
    casL f n (k + 1) B ≠ [] ∧ (∀ c, c ∈ casL f n (k + 1) B → B <+: c ∧ f c = true ∧ c.Nodup ∧ inN n c) ∧ cov n k B (casL f n (k + 1) B ++ rest) = some rest := by
  intro k
  induction k with
  | zero =>
    intro B rest hk hnd hin
    have fB := hf B ⟨by omega, hin, hnd⟩
    rw [casL, if_pos fB]
    refine ⟨by simp, fun c hc => by rw [List.mem_singleton.1 hc]; exact ⟨List.prefix_rfl, fB, hnd, hin⟩, ?_⟩
    rw [cov, if_pos (by rfl)]; rfl
  | succ k ih =>
    intro B rest hk hnd hin
    by_cases fB : f B = true
    · rw [casL, if_pos fB]
      refine ⟨by simp, fun c hc => by rw [List.mem_singleton.1 hc]; exact ⟨List.prefix_rfl, fB, hnd, hin⟩, ?_⟩
      rw [cov, if_pos (by rfl)]; rfl
    · rw [casL, if_neg fB]
      have sub : ∀ x, x ∈ rem n B → ∀ rest, casL f n (k + 1) (B ++ [x]) ≠ [] ∧ (∀ c, c ∈ casL f n (k + 1) (B ++ [x]) → B ++ [x] <+: c ∧ f c = true ∧ c.Nodup ∧ inN n c) ∧ cov n k (B ++ [x]) (casL f n (k + 1) (B ++ [x]) ++ rest) = some rest := fun x hx rest => by
        have hx := rem_mem hx
        exact ih (by rw [List.length_append, List.length_singleton]; omega) (nd_snoc hnd hx.2) (fun y hy => by
          rcases List.mem_append.1 hy with g | g
          · exact hin y g
          · rw [List.mem_singleton.1 g]; exact hx.1)
      have mem : ∀ c, c ∈ (rem n B).flatMap (fun x => casL f n (k + 1) (B ++ [x])) → (∃ x, B ++ [x] <+: c) ∧ f c = true ∧ c.Nodup ∧ inN n c := fun c hc => by
        obtain ⟨x, hx, g⟩ := List.mem_flatMap.1 hc
        have := (sub x hx []).2.1 c g
        exact ⟨⟨x, this.1⟩, this.2⟩
      have card := rem_card hnd hin
      have ne : (rem n B).flatMap (fun x => casL f n (k + 1) (B ++ [x])) ≠ [] := by
        cases hr : rem n B with
        | nil => rw [hr] at card; simp at card; omega
        | cons x l =>
          rw [List.flatMap_cons]
          intro g
          exact (sub x (by rw [hr]; exact List.mem_cons_self ..) []).1 (List.append_eq_nil_iff.1 g).1
      refine ⟨ne, fun c hc => ?_, ?_⟩
      · obtain ⟨⟨x, g⟩, r⟩ := mem c hc
        exact ⟨(List.prefix_append B [x]).trans g, r⟩
      · have hd : ¬ ((rem n B).flatMap (fun x => casL f n (k + 1) (B ++ [x])) ++ rest).head? = some B := fun h => by
          obtain ⟨c, T, hT⟩ := List.exists_cons_of_ne_nil ne
          rw [hT, List.cons_append, List.head?_cons, Option.some.injEq] at h
          obtain ⟨⟨x, g⟩, _⟩ := mem c (by rw [hT]; exact List.mem_cons_self ..)
          have := g.length_le
          rw [h, List.length_append, List.length_singleton] at this
          omega
        rw [cov, if_neg hd]
        have go : ∀ (l : List Int), (∀ x, x ∈ l → x ∈ rem n B) → l.foldl (fun o x => o.bind fun cs => cov n k (B ++ [x]) cs) (some (l.flatMap (fun x => casL f n (k + 1) (B ++ [x])) ++ rest)) = some rest := fun l => by
          induction l with
          | nil => intro _; rfl
          | cons x l ihl =>
            intro hm
            rw [List.foldl_cons, Option.bind_some, List.flatMap_cons, List.append_assoc, (sub x (hm x (List.mem_cons_self ..)) _).2.2]
            exact ihl fun y hy => hm y (List.mem_cons_of_mem _ hy)
        exact go _ fun x hx => hx
end Go.Pm.PP

/- Cases accepted: both. -/
set_option linter.unusedVariables false
set_option linter.unusedSimpArgs false
set_option maxRecDepth 4000
set_option maxHeartbeats 32000000
namespace Go.Pm.PP
open Go.Pm Go.Proofs Go.Pm.PE
theorem nest_gc {h h' : Hp} {d : Value} {r : List Value} {xss : List (List Int)} {us : List Value} (N : Nest h' d encI 1 xss us) : Nest (gc h h' (.tuple (d :: r).toArray)) d encI 1 xss us := by
  refine ⟨Sees.gcU N.out fun g => plainT (r := r) g, N.len, fun i u xs h1 h2 => ?_⟩
  rcases gc_cases h h' (.tuple (d :: r).toArray) with g | ⟨hp, g⟩
  · rw [g]; exact N.inn i u xs h1 h2
  · exfalso
    have hd : plainC d = true := plainT (r := r) hp
    obtain ⟨oa, c, e⟩ := N.out.shapeT
    have hi := (List.getElem?_eq_some_iff.1 h1).1
    rw [e] at hd
    match oa, us.length, c, hd, hi with
    | none, 0, 0, _, hi => exact absurd hi (Nat.not_lt_zero _)
theorem Nest.tail {h : Hp} {v w : Value} {c : List Int} {cs : List (List Int)} {us : List Value} (N : Nest h v encI 1 (c :: cs) us) (hs : Sees h w 1 ((us.map encV).drop 1)) : Nest h w encI 1 cs (us.drop 1) := by
  refine ⟨by rw [List.map_drop]; exact hs, by have := N.len; rw [List.length_drop]; simp at this; omega, fun i u xs h1 h2 => ?_⟩
  rw [List.getElem?_drop, Nat.add_comm] at h1
  exact N.inn (i + 1) u xs h1 (by simpa using h2)
def icGo (js : List Job) (o best : Int) : Option (List Int) → Nat → List (List Int) → Bool
  | _, tot, [] => decide (tot = fct js.length)
  | p, tot, c :: r => (arGo js.length [] c && decide (best ≤ bdV o js c)) && ((p.all fun b => ltB b c) && icGo js o best (some c) (tot + fct (js.length - c.length)) r)
def icB (js : List Job) (o best : Int) (cs : List (List Int)) : Bool := decide (cs.length ≤ 800) && icGo js o best none 0 cs
def icV (js : List Job) (o best : Int) (cs : List (List Int)) : Bool := okC js o && icB js o best cs
section
variable {h : Hp} {vj v vc : Value} {js : List Job} {cs : List (List Int)} {us : List Value} {o best : Int}
theorem implIsCases_run (J : Jobs h vj js) (hl : js.length ≤ 2 ^ 40) (N : Nest h vc encI 1 cs us) (hn : cs.length ≤ 2 ^ 40) (hb : ∀ x, x ∈ cs → x.length ≤ 2 ^ 40) : Ret P G n_impl_IsCases [vj, .int .i64 o, .int .i64 best, vc] h (.tuple #[.bool (icV js o best cs), .bool (okC js o)]) h := by
  refine enter_run e_impl_IsCases (by simp) ?_
  have Js := J
  have Ns := N
  obtain ⟨oj, cj, rfl⟩ := J.shapeT
  obtain ⟨oc, cc, rfl⟩ := N.shape
  have r1 := IsJobs_run Js hl
  have r3 := @isSplitObjective_run h o
  unfold icV
  cases c1 : (decide (js.length ≤ 8) && goodL js)
  · have e : okC js o = false := by unfold okC; rw [c1]; rfl
    simp -implicitDefEqProofs [CL_ret r1, CH_at r1, c1, e]
  cases c3 : twoB o
  · have e : okC js o = false := by unfold okC; rw [c3, Bool.and_false]
    simp -implicitDefEqProofs [CL_ret r1, CH_at r1, c1, CL_ret r3, CH_at r3, c3, e]
  have e : okC js o = true := by unfold okC; rw [c1, c3]; rfl
  obtain ⟨hn8, hg, ho⟩ := okC_facts e
  rw [e, Bool.true_and]
  unfold icB
  by_cases c8 : cs.length ≤ 800
  · have c8' : ¬ (800 : Int) < cs.length := by omega
    have c8'' : ¬ 800 < cs.length := by omega
    rw [decide_eq_true c8, Bool.true_and]
    generalize hX : icGo js o best none 0 cs = X
    simp -implicitDefEqProofs [CL_ret r1, CH_at r1, c1, CL_ret r3, CH_at r3, c3, c8', c8'']
    refine R_loopO (fun m s h' => ∃ (i tot : Nat), i + m = cs.length ∧ s = [(0, .slice oj js.length cj), (1, .int .i64 o), (2, .int .i64 best), (3, .slice oc cs.length cc), (10, .int .i64 tot), (24, .slice oc cs.length cc), (25, .int .i64 cs.length), (26, .int .i64 i)] ∧ h' = h ∧ tot ≤ i * 40320 ∧
      (∀ c, c ∈ cs.take i → arGo js.length [] c = true) ∧ X = icGo js o best (if 0 < i then cs[i - 1]? else none) tot (cs.drop i)) (fun I hI m s h' => ?_) (n := cs.length) ⟨0, 0, Nat.zero_add _, by simp, rfl, by omega, fun c hc => by simp at hc, hX.symm⟩
    rintro ⟨i, tot, hi, rfl, rfl, ht, hv, hx⟩
    by_cases hlt : i < cs.length
    · have hlt' : (i : Int) < cs.length := by omega
      obtain ⟨c, hc, hd⟩ := drop_at hlt
      rw [hd, icGo] at hx
      obtain ⟨uc, huc, Sc⟩ := Ns.at hc
      have lc := load_N (Ns.out : Sees h' _ 1 (us.map encV)) huc
      have bc := hb c (List.mem_of_getElem? hc)
      have Sc : Ints h' uc c := Sc
      obtain ⟨xa, xc, rfl⟩ : ∃ a k, uc = .slice a c.length k := Sc.shapeT
      have r2 := areDifferent_run (n := js.length) Sc bc
      cases c2 : arGo js.length [] c
      · rw [c2, Bool.false_and, Bool.false_and] at hx
        simp -implicitDefEqProofs [-indexAddrP_some, hlt, hlt', lc, CL_ret r2, CH_at r2, c2, hx]
      obtain ⟨a1, a2, a3⟩ := ar_facts hn8 c2
      have r4 := prefixBound_run Js Sc hg hn8 (by omega) a1 ho
      by_cases c4 : best ≤ bdV o js c
      · have c4' : ¬ bdV o js c < best := by omega
        rw [c2, decide_eq_true c4, Bool.true_and, Bool.true_and] at hx
        have f1 := @fct_mono (js.length - c.length) 8 (by omega)
        have f8 : fct 8 = 40320 := by decide
        have w0 : IntKind.i64.wrap ((js.length : Int) - c.length) = ((js.length - c.length : Nat) : Int) := by rw [wrap_ok] <;> omega
        have rf := @factorial_run h' (js.length - c.length) (by omega)
        have w1 : IntKind.i64.wrap ((tot : Int) + (fct (js.length - c.length) : Nat)) = ((tot + fct (js.length - c.length) : Nat) : Int) := by rw [wrap_ok] <;> omega
        have wi := winc hlt (show cs.length ≤ 2 ^ 40 by omega)
        have hv2 : ∀ d, d ∈ cs.take (i + 1) → arGo js.length [] d = true := fun d hd2 => by
          rw [take_succ' hc] at hd2
          rcases List.mem_append.1 hd2 with g | g
          · exact hv d g
          · rw [List.mem_singleton.1 g]; exact c2
        rcases Nat.eq_zero_or_pos i with hz | hp
        · rw [if_neg (by omega)] at hx
          have hx : X = icGo js o best (some c) (tot + fct (js.length - c.length)) (cs.drop (i + 1)) := by rw [hx]; rfl
          have ip : ¬ (0 : Int) < (i : Int) := by omega
          have ip' : ¬ 0 < i := by omega
          have hx2 : ∀ T : Nat, icGo js o best (if 0 < i + 1 then cs[i + 1 - 1]? else none) T (cs.drop (i + 1)) = icGo js o best (some c) T (cs.drop (i + 1)) := fun T => by rw [if_pos (by omega), show i + 1 - 1 = i by omega, hc]
          generalize fct (js.length - c.length) = F at *
          simp -implicitDefEqProofs [-indexAddrP_some, hlt, hlt', lc, CL_ret r2, CH_at r2, c2, CL_ret r4, CH_at r4, c4, c4', ip, ip', w0, CL_ret rf, CH_at rf, w1, wi]
          exact ⟨m - 1, by omega, on hI ⟨i + 1, tot + F, by omega, by simp, rfl, by omega, hv2, by rw [hx2]; exact hx⟩⟩
        · obtain ⟨q, hq⟩ : ∃ q, q + 1 = i := ⟨i - 1, by omega⟩
          obtain ⟨p, hpp, _⟩ := drop_at (show q < cs.length by omega)
          obtain ⟨up, hup, Sp⟩ := Ns.at hpp
          have lp := load_N (Ns.out : Sees h' _ 1 (us.map encV)) hup
          have bp := hb p (List.mem_of_getElem? hpp)
          have Sp : Ints h' up p := Sp
          obtain ⟨ya, yc, rfl⟩ : ∃ a k, up = .slice a p.length k := Sp.shapeT
          have vp := hv p (List.mem_take_iff_getElem.2 ⟨q, by omega, by rw [List.getElem?_eq_getElem (by omega)] at hpp; exact Option.some.inj hpp⟩)
          obtain ⟨d1, d2, d3⟩ := ar_facts hn8 vp
          rw [if_pos (by omega), show i - 1 = q by omega, hpp] at hx
          have hx : X = (ltB p c && icGo js o best (some c) (tot + fct (js.length - c.length)) (cs.drop (i + 1))) := hx
          have rc := compareLists_run Sp Sc bp bc (fun x hx => by have := d1 x hx; omega) (fun x hx => by have := a1 x hx; omega)
          have rb := beginsWith_run Sc Sp bc bp (fun x hx => by have := a1 x hx; omega) (fun x hx => by have := d1 x hx; omega)
          have le := @ltB_eq p c
          have wp : IntKind.i64.wrap ((i : Int) - 1) = (q : Int) := by rw [wrap_ok] <;> omega
          have ip : (0 : Int) < (i : Int) := by omega
          have ip' : 0 < i := by omega
          have hx2 : ∀ T : Nat, icGo js o best (if 0 < i + 1 then cs[i + 1 - 1]? else none) T (cs.drop (i + 1)) = icGo js o best (some c) T (cs.drop (i + 1)) := fun T => by rw [if_pos (by omega), show i + 1 - 1 = i by omega, hc]
          generalize fct (js.length - c.length) = F at *
          by_cases c5 : 0 ≤ cmpL p c
          · rw [decide_eq_true c5, Bool.true_or] at le
            have le : ltB p c = false := by simpa using le.symm
            rw [le, Bool.false_and] at hx
            simp -implicitDefEqProofs [-indexAddrP_some, hlt, hlt', lc, CL_ret r2, CH_at r2, c2, CL_ret r4, CH_at r4, c4, c4', ip, ip', wp, lp, CL_ret rc, CH_at rc, c5, hx]
          · cases c6 : begB c p
            · rw [decide_eq_false c5, c6] at le
              have le : ltB p c = true := by simpa using le.symm
              rw [le, Bool.true_and] at hx
              simp -implicitDefEqProofs [-indexAddrP_some, hlt, hlt', lc, CL_ret r2, CH_at r2, c2, CL_ret r4, CH_at r4, c4, c4', ip, ip', wp, lp, CL_ret rc, CH_at rc, c5, CL_ret rb, CH_at rb, c6, w0, CL_ret rf, CH_at rf, w1, wi]
              exact ⟨m - 1, by omega, on hI ⟨i + 1, tot + F, by omega, by simp, rfl, by omega, hv2, by rw [hx2]; exact hx⟩⟩
            · rw [decide_eq_false c5, c6] at le
              have le : ltB p c = false := by simpa using le.symm
              rw [le, Bool.false_and] at hx
              simp -implicitDefEqProofs [-indexAddrP_some, hlt, hlt', lc, CL_ret r2, CH_at r2, c2, CL_ret r4, CH_at r4, c4, c4', ip, ip', wp, lp, CL_ret rc, CH_at rc, c5, CL_ret rb, CH_at rb, c6, hx]
      · have c4' : bdV o js c < best := by omega
        rw [c2, decide_eq_false c4] at hx
        have hx : X = false := by rw [hx]; rfl
        simp -implicitDefEqProofs [-indexAddrP_some, hlt, hlt', lc, CL_ret r2, CH_at r2, c2, CL_ret r4, CH_at r4, c4, c4', hx]
    · have hlt' : ¬ (i : Int) < cs.length := by omega
      rw [List.drop_eq_nil_of_le (by omega), icGo] at hx
      have rf := @factorial_run h' js.length (by omega)
      have eq : ((tot : Int) == (fct js.length : Nat)) = decide (tot = fct js.length) := by rw [Bool.eq_iff_iff, beq_iff_eq, decide_eq_true_eq]; omega
      simp -implicitDefEqProofs [hlt, hlt', CL_ret rf, CH_at rf, eq, hx]
  · have c8' : (800 : Int) < cs.length := by omega
    have c8'' : 800 < cs.length := by omega
    rw [decide_eq_false c8, Bool.false_and]
    simp -implicitDefEqProofs [CL_ret r1, CH_at r1, c1, CL_ret r3, CH_at r3, c3, c8', c8'']
end
end Go.Pm.PP
