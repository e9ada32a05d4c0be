/- The texts PqG, PqH, PqI of this work: The first best selection of a job shop: the program's search through all selections. -/
import Derived.Test.YtlieeolnnehncaaP12
import Derived.Test.YtlieeolnnehncaaP8
import Derived.Test.YtlieeolnnehncaaP9
/- The first best selection of a job shop: the program's search through all selections. -/
set_option linter.unusedVariables false
set_option linter.unusedSimpArgs false
set_option maxRecDepth 4000
set_option maxHeartbeats 8000000
namespace Go.Pm
theorem Holds.one {h0 h : Hp} {L : List Asn} {A : Asn} (H : Holds h0 h L) (i : Nat) (hi : L[i]? = some A) : Holds h0 h [A] :=
  H.sub (fun _ => i) (fun j B hB => by
    match j, hB with
    | 0, hB => cases hB; exact hi
    | j + 1, hB => cases hB) fun j k B C hB hC _ => by
    match j, k, hB, hC with
    | 0, 0, _, _ => rfl
    | j + 1, _, hB, _ => cases hB
    | _, k + 1, _, hC => cases hC
theorem Holds.lose {h0 h : Hp} {A B C : List Asn} (H : Holds h0 h (A ++ (B ++ C))) : Holds h0 h (A ++ (B ++ [])) := by
  rw [List.append_nil]
  rw [← List.append_assoc] at H
  exact H.weak
theorem NR.ext {L : Nat} {h h' : Hp} (n : NR L h) (m : newOk h h') : NR L h' := by
  refine ⟨Nat.le_trans n.1 m.1.length_le, fun r x hr hx => ?_⟩
  rcases Nat.lt_or_ge r h.length with g | g
  · obtain ⟨t, rfl⟩ := m.1
    rw [List.getElem?_append_left g] at hx
    exact n.2 r x hr hx
  · exact m.nr.2 r x g hx
end Go.Pm
namespace Go.Pm.PP
open Go.Pm Go.Proofs Go.Pm.PE Go.Pm.JS
theorem onGo_asc {m : Int} : ∀ {xs : List OpR} {i : Nat}, (∀ x, x ∈ onGo m xs i → (i : Int) ≤ x) ∧ (onGo m xs i).Pairwise (· < ·)
  | [], i => by simp [onGo]
  | y :: r, i => by
    obtain ⟨h1, h2⟩ := @onGo_asc m r (i + 1)
    rw [onGo]
    split
    · refine ⟨fun x hx => ?_, List.pairwise_cons.2 ⟨fun x hx => ?_, h2⟩⟩
      · rcases List.mem_cons.1 hx with rfl | hx
        · exact Int.le_refl _
        · have := h1 x hx; omega
      · have := h1 x hx; omega
    · exact ⟨fun x hx => by have := h1 x hx; omega, h2⟩
theorem asc_nodup {l : List Int} (h : l.Pairwise (· < ·)) : l.Nodup := h.imp fun {a b} hab => by omega
def rsL (r : Nat) (s : Shop) (vr vo vt vi v1 : Value) (xs : List Int) : List Asn := [.box r [.int .i64 s.m, vr], .box (r + 1) [vo, vt, vi], .own v1 1 (xs.map encI)]
theorem own_rowE {b : Nat} {h : Hp} {v : Value} {sz : Nat} {els : List (List Value)} (o : Own b h v sz els) (hne : els ≠ []) : ∃ r, rowV v = some r ∧ b ≤ r := by
  rcases o.2 with ⟨_, h2⟩ | ⟨r, rest, k, hbr, _, rfl, _⟩
  · exact absurd h2 hne
  · exact ⟨r, rfl, hbr⟩
abbrev tellV (r5 q p : Nat) : Value := .func (.func n_impl_bestSelection_1) #[] #[.pointer (some ⟨r5, 0, some 3⟩), .pointer (some ⟨q, 0, some 1⟩), .pointer (some ⟨p, 0, some 1⟩)]
theorem eachSel_run {hb : Hp} {p q r5 : Nat} {vr vo vt vi : Value} {s : Shop} (C : Ctx hb r5 vr vo vt vi s) : ∀ {k : Nat} {h : Hp} {vb vg : Value} {us usg : List Value} {begun : List (List Int)} {b : BO},
    us.length = (bO b).length → usg.length = begun.length → Holds hb h (bxL p q vb (lI b) ++ (liA vg usg begun ++ [])) → Holds hb h (bxL p q vb (lI b) ++ (liA vb us (bO b) ++ [])) →
    ((begun.length + k : Nat) : Int) = s.m → SelUp s begun → (∀ x, b = some x → 0 ≤ x.2) →
    RunsC P G n_impl_eachSelection [sv s vr, fv vo vt vi, vg, tellV r5 q p] h fun v h' =>
      (∀ x, tryL s k begun b = some x → 0 ≤ x.2) ∧ ∃ vb' us', us'.length = (bO (tryL s k begun b)).length ∧ Fr hb h h' p q vb (lI b) vb' (lI (tryL s k begun b)) ∧
        (∀ L, Holds hb h (bxL p q vb (lI b) ++ (liA vg usg begun ++ L)) → Holds hb h (bxL p q vb (lI b) ++ (liA vb us (bO b) ++ L)) → Holds hb h' (bxL p q vb' (lI (tryL s k begun b)) ++ (liA vb' us' (bO (tryL s k begun b)) ++ L))) ∧
        ((tryL s k begun b = b ∧ vb' = vb ∧ us' = us) ∨ ∃ r, rowV vb' = some r ∧ (rowV vg = some r ∨ h.length ≤ r))
  | 0, h, vb, vg, us, usg, begun, b, hul, hugl, HG, HB, hk, hsu, hlb => by
    refine hideC fun K hK => enter_run e_impl_eachSelection (by simp) ?_
    have hm : (begun.length : Int) = s.m := by simpa using hk
    have hm4 := good_n C.g
    obtain ⟨oa, ca, rfl⟩ := C.S.shape
    obtain ⟨f1, f2, f3, rfl⟩ : ∃ a n c, vo = .slice a n c := by obtain ⟨a, c, e⟩ := C.F.o.shape; exact ⟨_, _, _, e⟩
    obtain ⟨f4, f5, f6, rfl⟩ : ∃ a n c, vt = .slice a n c := by obtain ⟨a, c, e⟩ := C.F.r.shape; exact ⟨_, _, _, e⟩
    obtain ⟨f7, f8, f9, rfl⟩ : ∃ a n c, vi = .slice a n c := by obtain ⟨a, c, e⟩ := C.F.i.shape; exact ⟨_, _, _, e⟩
    obtain ⟨og, cg, rfl⟩ := (liA_at HG hugl).shape
    have hvb : ∃ a n c, vb = .slice a n c := by obtain ⟨oa, c, e⟩ := (liA_at HB hul).shape; exact ⟨_, _, _, e⟩
    have hp1 := List.prefix_append h [some (⟨[.int .i64 s.m, .slice oa s.routes.length ca], 0, false⟩ : Row), some ⟨[.slice f1 f2 f3, .slice f4 f5 f6, .slice f7 f8 f9], 0, false⟩]
    have tr := tell_run C (HG.ext hp1) hugl hm hsu hlb hvb
    simp -implicitDefEqProofs [hm]
    refine CL_post tr fun v h2 ⟨hlb2, hor⟩ => ?_
    simp -implicitDefEqProofs
    have ht : tryL s 0 begun b = updB s b begun := rfl
    rw [ht] at hK
    rcases hor with ⟨e, F1⟩ | ⟨e, F1⟩
    · refine onK hK ⟨hlb2, vb, us, by rw [e]; exact hul, fun L HL => ?_, fun L hg hB => ?_, .inl ⟨e, rfl, rfl⟩⟩
      · rw [e]; exact HL.gcR (L' := bxL p q vb (lI b) ++ L) (F1 L (HL.ext hp1)) rfl
      · rw [e]; exact hB.gcR (L' := bxL p q vb (lI b) ++ (liA vb us (bO b) ++ L)) (F1 _ (hB.ext hp1)) rfl
    · refine onK hK ⟨hlb2, .slice og begun.length cg, usg, by rw [e]; exact hugl, fun L HL => ?_, fun L hg hB => ?_, .inr ?_⟩
      · exact HL.gcR (L' := bxL p q (.slice og begun.length cg) (lI (updB s b begun)) ++ L) (F1 L (HL.ext hp1)) rfl
      · rw [e]; exact hg.gcR (L' := bxL p q (.slice og begun.length cg) (lI (updB s b begun)) ++ (liA (.slice og begun.length cg) usg begun ++ L)) (F1 _ (hg.ext hp1)) rfl
      · obtain ⟨r, hr, _⟩ := own_rowE (HG.own 2 rfl) (by
          intro e0
          have := congrArg List.length e0
          simp at this
          rw [this] at hugl
          simp at hugl
          omega)
        exact ⟨r, hr, .inl hr⟩
  | k + 1, h, vb, vg, us, usg, begun, b, hul, hugl, HG, HB, hkM, hsu, hlb => by
    refine hideC fun K hK => enter_run e_impl_eachSelection (by simp) ?_
    have hm4 := good_n C.g
    have hmne : ((begun.length : Int) == s.m) = false := nb (by omega)
    obtain ⟨oa, ca, rfl⟩ := C.S.shape
    obtain ⟨f1, f2, f3, rfl⟩ : ∃ a n c, vo = .slice a n c := by obtain ⟨a, c, e⟩ := C.F.o.shape; exact ⟨_, _, _, e⟩
    obtain ⟨f4, f5, f6, rfl⟩ : ∃ a n c, vt = .slice a n c := by obtain ⟨a, c, e⟩ := C.F.r.shape; exact ⟨_, _, _, e⟩
    obtain ⟨f7, f8, f9, rfl⟩ : ∃ a n c, vi = .slice a n c := by obtain ⟨a, c, e⟩ := C.F.i.shape; exact ⟨_, _, _, e⟩
    obtain ⟨og, cg, rfl⟩ := (liA_at HG hugl).shape
    have C1 := (Holds.start.alloc [.int .i64 s.m, .slice oa s.routes.length ca] (h := h)).alloc [.slice f1 f2 f3, .slice f4 f5 f6, .slice f7 f8 f9]
    simp only [List.append_assoc, List.cons_append, List.nil_append, List.length_append, List.length_cons, List.length_nil, Nat.zero_add] at C1
    have hN : (opsL s).length ≤ 12 := by rw [ops_len]; exact hm4.1
    simp -implicitDefEqProofs [hmne]
    refine CL_post (on_run (m := (begun.length : Int)) (C.F.pre (HG.pre.trans C1.pre)) (by show (opsL s).length ≤ 2 ^ 40; omega)) fun v1 h2 ⟨hp2, ho2⟩ => ?_
    have ho2 : Own _ h2 v1 1 ((onL s begun.length).map encI) := ho2
    have C2 := C1.call hp2 ho2
    -- all orders of the machine
    have asc : (onL s begun.length).Pairwise (· < ·) := onGo_asc.2
    have hol := on_len C.g (m := (begun.length : Int))
    obtain ⟨pm1, pm2, pm3⟩ := perms_main (n := (onL s begun.length).length) rfl asc
    have hperm : ∀ p, p ∈ perms (onL s begun.length) (onL s begun.length).length → (onL s begun.length).Perm p := fun p hp => (perms_perm rfl hp).symm
    generalize hX : tryL s (k + 1) begun b = X at hK
    rw [tryL] at hX
    have first : ∀ L, Holds hb h (bxL p q vb (lI b) ++ L) → Holds hb h2 (bxL p q vb (lI b) ++ (rsL h.length s (.slice oa s.routes.length ca) (.slice f1 f2 f3) (.slice f4 f5 f6) (.slice f7 f8 f9) v1 (onL s begun.length) ++ L)) := fun L HL => by
      have := Holds.joinT (L := bxL p q vb (lI b)) (T := L) (A := rsL h.length s (.slice oa s.routes.length ca) (.slice f1 f2 f3) (.slice f4 f5 f6) (.slice f7 f8 f9) v1 (onL s begun.length)) (M := []) HL C2
      simpa [List.append_assoc] using this
    obtain ⟨o1, n1, c1, rfl⟩ : ∃ a n c, v1 = .slice a n c := by obtain ⟨a, c, e⟩ := ho2.sees.shape; exact ⟨_, _, _, e⟩
    generalize hOn : onL s begun.length = on0 at *
    generalize perms on0 on0.length = PL at hX pm1 pm2 pm3 hperm
    simp -implicitDefEqProofs
    refine R_loopO (fun m st hk => ∃ (i : Nat) (xs : List Int) (b' : BO) (vbk : Value) (usk : List Value), PL[i]? = some xs ∧ i + m = PL.length ∧ st = [(2, .slice og begun.length cg), (3, tellV r5 q p), (4, .pointer (some ⟨h.length, 0, some 2⟩)), (5, .pointer (some ⟨h.length + 1, 0, some 3⟩)), (8, .slice o1 n1 c1)] ∧
      X = (PL.drop i).foldl (fun b o => tryL s k (begun ++ [o]) b) b' ∧ (∀ x, b' = some x → 0 ≤ x.2) ∧ usk.length = (bO b').length ∧
      (∀ L, Holds hb h (bxL p q vb (lI b) ++ L) → Holds hb hk (bxL p q vbk (lI b') ++ (rsL h.length s (.slice oa s.routes.length ca) (.slice f1 f2 f3) (.slice f4 f5 f6) (.slice f7 f8 f9) (.slice o1 n1 c1) xs ++ L))) ∧
      (∀ L, Holds hb h (bxL p q vb (lI b) ++ (liA (.slice og begun.length cg) usg begun ++ L)) → Holds hb h (bxL p q vb (lI b) ++ (liA vb us (bO b) ++ L)) → Holds hb hk (bxL p q vbk (lI b') ++ (rsL h.length s (.slice oa s.routes.length ca) (.slice f1 f2 f3) (.slice f4 f5 f6) (.slice f7 f8 f9) (.slice o1 n1 c1) xs ++ (liA vbk usk (bO b') ++ L)))) ∧
      ((b' = b ∧ vbk = vb ∧ usk = us) ∨ ∃ r, rowV vbk = some r ∧ h.length ≤ r)) (fun I hI m st hk => ?_) (n := PL.length)
      ⟨0, on0, b, vb, us, pm1, Nat.zero_add _, by simp, hX.symm, hlb, hul, first, fun L _ hB => first _ hB, .inl ⟨rfl, rfl, rfl⟩⟩
    rintro ⟨i, xs, b', vbk, usk, hxs, him, rfl, hx, hlk, hukl, I1, I2, I3⟩
    have HA := I1 _ HG
    have hkl : h.length ≤ hk.length := by have := (HA.ok 3 _ rfl).lt rfl; omega
    have hil := (List.getElem?_eq_some_iff.1 hxs).1
    obtain ⟨xs0, hxs0, hdr⟩ := drop_at hil
    rw [hxs] at hxs0
    cases hxs0
    rw [hdr, List.foldl_cons] at hx
    have hxp := hperm xs (List.mem_of_getElem? hxs)
    have hxl : xs.length ≤ 12 := by rw [← hxp.length_eq]; exact hol
    have hnd : xs.Nodup := hxp.nodup_iff.1 (asc_nodup asc)
    have Nb : Nest hk (.slice og begun.length cg) encI 1 begun usg := liA_at (A := bxL p q vbk (lI b') ++ rsL h.length s (.slice oa s.routes.length ca) (.slice f1 f2 f3) (.slice f4 f5 f6) (.slice f7 f8 f9) (.slice o1 n1 c1) xs) (by rw [List.append_assoc]; exact HA) hugl
    have one_b : ∀ x, x ∈ usg → one x = true := fun x hx => by
      obtain ⟨j, hj⟩ := List.getElem?_of_mem hx
      obtain ⟨z, hz, _⟩ := drop_at (show j < begun.length by rw [← hugl]; exact (List.getElem?_eq_some_iff.1 hj).1)
      obtain ⟨a, c, e⟩ := (Nb.inn j x z hj hz).shape
      rw [e]; rfl
    -- begun and one more
    have E0 : Holds hk hk [.own (.slice none 0 0) 1 (([] : List Value).map encV)] := own_nil (Holds.start (h := hk)) Value encV 1
    obtain ⟨v5, h5, ha5, H5, k5⟩ := app_N E0 0 rfl (ys := usg) Nb.out one_b (by simp; omega)
    have nr5 : NR hk.length h5 := append_nr nr_self ha5
    have n5 : newOk hk h5 := by
      refine ⟨H5.pre, ?_⟩
      rw [List.all_eq_true]
      intro x hx
      cases x with
      | none => rfl
      | some x =>
        obtain ⟨j, hj⟩ := List.getElem?_of_mem hx
        rw [List.getElem?_drop] at hj
        simp [nr5.2 _ x (by omega) hj]
    have H5' : Holds hk h5 [.own v5 1 (usg.map encV)] := by simpa using H5
    obtain ⟨d1, d2, d3, rfl⟩ : ∃ a n c, v5 = .slice a n c := by obtain ⟨a, c, e⟩ := (H5.sees 0 rfl).shape; exact ⟨_, _, _, e⟩
    have lS : Ints h5 (.slice o1 n1 c1) xs := (HA.ext H5.pre).sees 4 rfl
    simp -implicitDefEqProofs [HA.bl 2 2 rfl rfl, HA.bl 3 3 rfl rfl, ha5, n5]
    refine CG_post (copyInts_run lS (by omega)).new fun vu h6 ⟨⟨hpu, hou⟩, hnu⟩ => ⟨hnu hpu, ?_⟩
    have H6 := H5'.call hpu hou
    obtain ⟨u1, u2, u3, rfl⟩ : ∃ a n c, vu = .slice a n c := by obtain ⟨a, c, e⟩ := hou.sees.shape; exact ⟨_, _, _, e⟩
    obtain ⟨v7, h7, ha7, H7, k7, _⟩ := push_N0 H6 0 rfl (Value.slice u1 u2 u3) rfl (by omega)
    have H7' : Holds hk h7 ([.own v7 1 ((usg ++ [Value.slice u1 u2 u3]).map encV)] ++ [.own (Value.slice u1 u2 u3) 1 (xs.map encI)]) := H7
    have n6 : NR hk.length (h6 ++ [some ⟨[Value.slice u1 u2 u3], 1, false⟩]) := (nr5.ext (hnu hpu)).new [Value.slice u1 u2 u3] 1
    have md := app_mod (b := hk.length) rfl n6 ha7 (H5.pre.trans (hpu.trans (List.prefix_append ..))) H7'.pre
    obtain ⟨e1, e2, e3, rfl⟩ : ∃ a n c, v7 = .slice a n c := by obtain ⟨a, c, e⟩ := (H7'.sees 0 rfl).shape; exact ⟨_, _, _, e⟩
    have newG : ∀ L, Holds hb hk (bxL p q vbk (lI b') ++ (rsL h.length s (.slice oa s.routes.length ca) (.slice f1 f2 f3) (.slice f4 f5 f6) (.slice f7 f8 f9) (.slice o1 n1 c1) xs ++ (liA (.slice og begun.length cg) usg begun ++ L))) →
        Holds hb h7 (bxL p q vbk (lI b') ++ (liA (.slice e1 e2 e3) (usg ++ [Value.slice u1 u2 u3]) (begun ++ [xs]) ++ (rsL h.length s (.slice oa s.routes.length ca) (.slice f1 f2 f3) (.slice f4 f5 f6) (.slice f7 f8 f9) (.slice o1 n1 c1) xs ++ L))) := fun L HL => by
      have h1 := HL.join H7'
      have h2 := (Holds.perm (M := (bxL p q vbk (lI b') ++ ([.own (.slice e1 e2 e3) 1 ((usg ++ [Value.slice u1 u2 u3]).map encV)] ++ (inL encI 1 usg begun ++ ([.own (Value.slice u1 u2 u3) 1 (xs.map encI)] ++ (rsL h.length s (.slice oa s.routes.length ca) (.slice f1 f2 f3) (.slice f4 f5 f6) (.slice f7 f8 f9) (.slice o1 n1 c1) xs ++ L))))) ++ [.own (.slice og begun.length cg) 1 (usg.map encV)])
        (by
          have := h1
          unfold liA at this
          simp only [List.append_assoc] at this
          exact this) perm_new).weak
      unfold liA
      rw [inL_snoc hugl]
      simp only [List.append_assoc]
      exact h2
    have up7 : SelUp s (begun ++ [xs]) := selUp_snoc hsu (by rw [hOn]; exact hxp)
    have ih := eachSel_run C (k := k) (us := usk) (usg := usg ++ [Value.slice u1 u2 u3]) (begun := begun ++ [xs]) (b := b') hukl (by simp [hugl]) (newG [] HA).lose ((I2 [] HG HB).ext H7'.pre).swap.lose (by rw [← hkM]; simp; omega) up7 hlk
    simp -implicitDefEqProofs [ha7, md]
    refine CL_post ih fun v h8 ⟨hl8, vb8, us8, hul8, F8, P8, G8⟩ => ?_
    have HA8 := F8 _ (HA.ext H7'.pre)
    have H9 := HA8.one 4 rfl
    simp -implicitDefEqProofs
    refine CL_post (nextOrder_run H9 (by omega) hnd) fun r h9 ⟨er, ow9, k9⟩ => ?_
    subst er
    have nxt : ∀ L, Holds hb h8 (bxL p q vb8 (lI (tryL s k (begun ++ [xs]) b')) ++ (rsL h.length s (.slice oa s.routes.length ca) (.slice f1 f2 f3) (.slice f4 f5 f6) (.slice f7 f8 f9) (.slice o1 n1 c1) xs ++ L)) →
        Holds hb h9 (bxL p q vb8 (lI (tryL s k (begun ++ [xs]) b')) ++ (rsL h.length s (.slice oa s.routes.length ca) (.slice f1 f2 f3) (.slice f4 f5 f6) (.slice f7 f8 f9) (.slice o1 n1 c1) ((nextP xs).getD xs) ++ L)) := fun L HL =>
      HL.upd (i := 4) (A := .own (.slice o1 n1 c1) 1 (xs.map encI)) (B := .own (.slice o1 n1 c1) 1 (((nextP xs).getD xs).map encI)) rfl k9 ow9 fun r hr => .inl hr
    have J1 : ∀ L, Holds hb h (bxL p q vb (lI b) ++ L) → Holds hb h9 (bxL p q vb8 (lI (tryL s k (begun ++ [xs]) b')) ++ (rsL h.length s (.slice oa s.routes.length ca) (.slice f1 f2 f3) (.slice f4 f5 f6) (.slice f7 f8 f9) (.slice o1 n1 c1) ((nextP xs).getD xs) ++ L)) := fun L HL =>
      nxt L (F8 _ ((I1 L HL).ext H7'.pre))
    have J2 : ∀ L, Holds hb h (bxL p q vb (lI b) ++ (liA (.slice og begun.length cg) usg begun ++ L)) → Holds hb h (bxL p q vb (lI b) ++ (liA vb us (bO b) ++ L)) → Holds hb h9 (bxL p q vb8 (lI (tryL s k (begun ++ [xs]) b')) ++ (rsL h.length s (.slice oa s.routes.length ca) (.slice f1 f2 f3) (.slice f4 f5 f6) (.slice f7 f8 f9) (.slice o1 n1 c1) ((nextP xs).getD xs) ++ (liA vb8 us8 (bO (tryL s k (begun ++ [xs]) b')) ++ L))) := fun L hg hB =>
      nxt _ (P8 _ (newG L (I1 _ hg)) ((I2 L hg hB).ext H7'.pre).swap).swap
    have J3 : (tryL s k (begun ++ [xs]) b' = b ∧ vb8 = vb ∧ us8 = us) ∨ ∃ r, rowV vb8 = some r ∧ h.length ≤ r := by
      rcases G8 with ⟨g1, g2, g3⟩ | ⟨r, g1, g2⟩
      · rw [g1, g2, g3]; exact I3
      · refine .inr ⟨r, g1, ?_⟩
        rcases g2 with g2 | g2
        · have := (H7'.ok 0 _ rfl).ge g2
          omega
        · have := H7'.pre.length_le
          omega
    cases hnx : nextP xs with
    | some xs' =>
      rw [hnx] at J1 J2
      have hi1 : PL[i + 1]? = some xs' := by rw [← pm2 i xs hxs]; exact hnx
      simp -implicitDefEqProofs
      exact ⟨m - 1, by omega, on hI ⟨i + 1, xs', _, vb8, us8, hi1, by omega, rfl, hx, hl8, hul8, J1, J2, J3⟩⟩
    | none =>
      rw [hnx] at J1 J2
      have hi1 : PL[i + 1]? = none := by rw [← pm2 i xs hxs]; exact hnx
      rw [List.drop_eq_nil_of_le (List.getElem?_eq_none_iff.1 hi1), List.foldl_nil] at hx
      simp -implicitDefEqProofs
      rw [hx] at hK
      refine onK hK ⟨hl8, vb8, us8, hul8, fun L HL => ?_, fun L hg hB => ?_, ?_⟩
      · have := J1 L HL
        rw [← List.append_assoc] at this
        exact HL.gcR (L' := bxL p q vb8 (lI (tryL s k (begun ++ [xs]) b')) ++ L) this.cut rfl
      · have h1 := J2 L hg hB
        rw [← List.append_assoc] at h1
        have h2 := h1.cut
        rcases gc_cases' h h9 (.tuple #[]) with e | ⟨hp, e⟩
        · rw [e]; exact h2
        · rw [e]
          rcases J3 with ⟨g1, g2, g3⟩ | ⟨r, g1, g2⟩
          · rw [g1, g2, g3]; exact hB
          · exfalso
            have x1 := hB.box 0 rfl
            have x2 := h2.box 0 rfl
            obtain ⟨t, rfl⟩ := hp
            rw [List.getElem?_append_left (List.getElem?_eq_some_iff.1 x1).1, x1] at x2
            simp at x2
            have := (hB.ok 2 _ rfl).lt (by rw [x2]; exact g1)
            omega
      · rcases J3 with g | ⟨r, g1, g2⟩
        · exact .inl g
        · exact .inr ⟨r, g1, .inr g2⟩
end Go.Pm.PP

/- The first best selection of a job shop: the program. -/
set_option linter.unusedVariables false
set_option linter.unusedSimpArgs false
set_option maxRecDepth 4000
set_option maxHeartbeats 8000000
namespace Go.Pm.PP
open Go.Pm Go.Proofs Go.Pm.PE Go.Pm.JS
noncomputable def bestB (s : Shop) : BO := tryL s s.m.toNat [] none
theorem bestSelection_run {h : Hp} {vr : Value} {s : Shop} (S : SAt h vr s) (hg : goodS s = true) : RunsC P G n_impl_bestSelection [sv s vr] h fun v h' => h <+: h' ∧
    ((fewB s = false ∧ v = .tuple #[nilV, .int .i64 0, .bool false]) ∨ (fewB s = true ∧ ∃ w, v = .tuple #[w, .int .i64 (lI (bestB s)), .bool true] ∧ OwnN h h' w (bO (bestB s)))) := by
  refine hideC fun K hK => enter_run e_impl_bestSelection (by simp) ?_
  have Ss := S
  obtain ⟨oa, ca, rfl⟩ := S.shape
  have hm := good_n hg
  obtain ⟨M, hM⟩ : ∃ M : Nat, s.m = M := ⟨s.m.toNat, by omega⟩
  have fe : fewB s = decide (IntKind.i64.wrap (prodF s M : Int) ≤ 14000) := by unfold fewB w64; rw [hM, Int.toNat_natCast]
  have hN : (opsL s).length ≤ 12 := by rw [ops_len]; exact hm.1
  have H0 := Holds.start.alloc [.int .i64 s.m, .slice oa s.routes.length ca] (h := h)
  simp -implicitDefEqProofs
  refine CL_post (flatOf_run (Ss.pre H0.pre)) fun v h1 ⟨vo, vt, vi, ev, C1⟩ => ?_
  subst ev
  obtain ⟨f1, f2, f3, rfl⟩ : ∃ a n c, vo = .slice a n c := by obtain ⟨a, c, e⟩ := (C1.sees 0 rfl).shape; exact ⟨_, _, _, e⟩
  obtain ⟨f4, f5, f6, rfl⟩ : ∃ a n c, vt = .slice a n c := by obtain ⟨a, c, e⟩ := (C1.sees 1 rfl).shape; exact ⟨_, _, _, e⟩
  obtain ⟨f7, f8, f9, rfl⟩ : ∃ a n c, vi = .slice a n c := by obtain ⟨a, c, e⟩ := (C1.sees 2 rfl).shape; exact ⟨_, _, _, e⟩
  have H1 := (H0.join C1).alloc [.slice f1 f2 f3, .slice f4 f5 f6, .slice f7 f8 f9]
  simp -implicitDefEqProofs
  refine R_loopO (fun m st h' => ∃ k : Nat, k + m = M ∧ st = [(1, .pointer (some ⟨h.length, 0, some 2⟩)), (5, .pointer (some ⟨h1.length, 0, some 3⟩)), (6, .int .i64 (IntKind.i64.wrap (prodF s k : Int))), (7, .int .i64 k)] ∧
    Holds h h' [.box h.length [.int .i64 s.m, .slice oa s.routes.length ca], .own (.slice f1 f2 f3) 2 ((flatF s).ops.map encO), .own (.slice f4 f5 f6) 1 ((flatF s).rt.map encI), .own (.slice f7 f8 f9) 1 ((flatF s).ix.map encI), .box h1.length [.slice f1 f2 f3, .slice f4 f5 f6, .slice f7 f8 f9]]) (fun I hI m st h' => ?_) (n := M) ⟨0, Nat.zero_add _, by simp [prodF, wrap_ok], by simpa using H1⟩
  rintro ⟨k, hk, rfl, H⟩
  have F : FAt h' (.slice f1 f2 f3) (.slice f4 f5 f6) (.slice f7 f8 f9) (flatF s) := ⟨H.sees 1 rfl, H.sees 2 rfl, H.sees 3 rfl⟩
  by_cases hlt : k < M
  · have hlt' : (k : Int) < s.m := by omega
    have kw := winc hlt (show M ≤ 2 ^ 40 by omega)
    simp -implicitDefEqProofs [hlt', H.bl 0 2 rfl rfl, H.bl 4 3 rfl rfl]
    refine CL_post (on_run (m := (k : Int)) F (by show (opsL s).length ≤ 2 ^ 40; omega)) fun v3 h3 ⟨hp3, ho3⟩ => ?_
    have ho3 : Own _ h3 v3 1 ((onL s k).map encI) := ho3
    obtain ⟨o3, c3, rfl⟩ := ho3.sees.shapeT
    have rf := factorial_run (h := h3) (on_len hg (m := (k : Int)))
    have wm : IntKind.i64.wrap (IntKind.i64.wrap (prodF s k : Int) * (fact (onL s k).length : Int)) = IntKind.i64.wrap (prodF s (k + 1) : Int) := by
      rw [wrap_mul, prodF, Int.natCast_mul]
    simp -implicitDefEqProofs [CL_ret rf, wm, kw]
    exact ⟨m - 1, by omega, on hI ⟨k + 1, by omega, rfl, H.ext hp3⟩⟩
  · have hlt' : ¬ (k : Int) < s.m := by omega
    have hkM : k = M := by omega
    subst hkM
    by_cases c1 : 14000 < IntKind.i64.wrap (prodF s k : Int)
    · have e : fewB s = false := by rw [fe]; simpa using c1
      simp -implicitDefEqProofs [hlt', H.bl 0 2 rfl rfl, c1]
      exact onK hK ⟨pre_gcU H.pre, .inl ⟨e, rfl⟩⟩
    · have e : fewB s = true := by rw [fe]; simpa using c1
      have C : Ctx h' h1.length (.slice oa s.routes.length ca) (.slice f1 f2 f3) (.slice f4 f5 f6) (.slice f7 f8 f9) s := ⟨Ss.pre H.pre, F, H.box 4 rfl, hg⟩
      have E0 := ((Holds.start.alloc [nilV] (h := h')).alloc [.int .i64 (-1)]).call List.prefix_rfl (Own.nil (sz := 1))
      simp only [List.append_assoc, List.cons_append, List.nil_append, List.length_append, List.length_cons, List.length_nil, Nat.zero_add] at E0
      have E : Holds h' (h' ++ [some ⟨[nilV], 0, false⟩, some ⟨[.int .i64 (-1)], 0, false⟩]) (bxL h'.length (h'.length + 1) nilV (lI none) ++ (liA nilV [] (bO none) ++ [])) := E0
      have er := eachSel_run C (k := s.m.toNat) (us := []) (usg := []) (begun := []) (b := none) rfl rfl E E (by simp; omega) (fun i o h => by simp at h) (fun x hx => by cases hx)
      simp -implicitDefEqProofs [hlt', H.bl 0 2 rfl rfl, c1, (H.ext (List.prefix_append h' [some (⟨[nilV], 0, false⟩ : Row), some ⟨[.int .i64 (-1)], 0, false⟩])).bl 0 2 rfl rfl, (H.ext (List.prefix_append h' [some (⟨[nilV], 0, false⟩ : Row), some ⟨[.int .i64 (-1)], 0, false⟩])).bl 4 3 rfl rfl]
      refine CL_post er fun v h4 ⟨_, vb, us, hul, F4, P4, _⟩ => ?_
      have H4 := P4 [] E E
      have HR : Holds h h4 (.own vb 1 (us.map fun u => [u]) :: inL encI 1 us (bO (bestB s))) := by
        have := H4.tail.tail.low H.pre
        unfold liA at this
        rw [List.append_nil] at this
        exact this
      obtain ⟨b1, b2, b3, rfl⟩ : ∃ a n c, vb = .slice a n c := by obtain ⟨a, c, e⟩ := (HR.sees 0 rfl).shape; exact ⟨_, _, _, e⟩
      have bl0 : ∀ t, loadP P h4 t (.pointer (some ⟨h'.length, 0, some 1⟩)) = rowLoad P t ⟨[.slice b1 b2 b3], 0, false⟩ 0 := fun t => H4.bl 0 1 rfl rfl t 0
      have bl1 : ∀ t, loadP P h4 t (.pointer (some ⟨h'.length + 1, 0, some 1⟩)) = rowLoad P t ⟨[.int .i64 (lI (bestB s))], 0, false⟩ 0 := fun t => H4.bl 1 1 rfl rfl t 0
      simp -implicitDefEqProofs [bl0, bl1]
      refine onK hK ⟨pre_gcU HR.pre, .inr ⟨e, _, rfl, us, hul, HR.gcN hul fun hp => ?_⟩⟩
      have : (#[.slice b1 b2 b3, .int .i64 (lI (bestB s)), .bool true] : Array Value).toList.all plainC = true := hp
      simp only [List.all_cons, Bool.and_eq_true] at this
      exact this.1
theorem BestSelection_run {h : Hp} {vr : Value} {s : Shop} (S : SAt h vr s) : RunsC P G n_impl_BestSelection [sv s vr] h fun v h' => h <+: h' ∧ retN (bestO s) v h h' := by
  refine hideC fun K hK => enter_run e_impl_BestSelection (by simp) ?_
  have Ss := S
  obtain ⟨oa, ca, rfl⟩ := S.shape
  have H0 := Holds.start.alloc [.int .i64 s.m, .slice oa s.routes.length ca] (h := h)
  have r1 := IsJobShop_run (Ss.pre H0.pre)
  cases c1 : goodS s
  · have e : bestO s = none := by simp [bestO, c1]
    rw [e] at hK
    simp -implicitDefEqProofs [CL_ret r1, c1]
    exact onK hK (retN.none H0.pre)
  simp -implicitDefEqProofs [CL_ret r1, c1]
  refine CL_post (bestSelection_run (Ss.pre H0.pre) c1) fun v h1 ⟨hp1, hor⟩ => ?_
  rcases hor with ⟨e, rfl⟩ | ⟨e, w, rfl, us, hul, HW⟩
  · have e2 : bestO s = none := by simp [bestO, e]
    rw [e2] at hK
    simp -implicitDefEqProofs
    exact onK hK (retN.none (H0.pre.trans hp1))
  · have e2 : bestO s = some (bO (bestB s)) := by simp [bestO, c1, e, bestB]
    rw [e2] at hK
    obtain ⟨b1, b2, b3, rfl⟩ : ∃ a n c, w = .slice a n c := by obtain ⟨a, c, e⟩ := (HW.sees 0 rfl).shape; exact ⟨_, _, _, e⟩
    simp -implicitDefEqProofs
    exact onK hK (retN.some ⟨us, hul, HW.low H0.pre⟩)
end Go.Pm.PP

/- FnExactBestSelection in the small machine. -/
set_option linter.unusedVariables false
set_option linter.unusedSimpArgs false
set_option maxRecDepth 4000
set_option maxHeartbeats 4000000
namespace Go.Pm.PP
open Go.Pm Go.Proofs
theorem law_BestSelection {h : Hp} {vr : Value} {s : Shop} {vs : List Value} (NS : Nest h vr encO 2 s.routes vs) (l1 : s.routes.length < 2 ^ 63) (l2 : ∀ x ∈ s.routes, x.length < 2 ^ 63) :
    Ret P G n_laws_FnExactBestSelection [sv s vr] h (.bool true) h := by
  refine enter_run e_laws_FnExactBestSelection (by simp) ?_
  have NSs := NS
  obtain ⟨oa, ca, rfl⟩ := NS.shape
  have z1 := fun l => szJobShop_run (left := 1048576) (NSs.pre (List.prefix_append h l)) l1 l2 (by omega) (by omega)
  by_cases c1 : szN 1048576 s.routes < 0
  · simp -implicitDefEqProofs [CL_ret (z1 _), c1]
  have e1 := szN_ok c1
  have b1 : s.routes.length ≤ 2 ^ 20 := by omega
  have b2 : tot s.routes ≤ 2 ^ 20 := by omega
  have b5 : ∀ x ∈ s.routes, x.length ≤ 2 ^ 40 := fun x hx => by have := tot_mem hx; omega
  have toS : ∀ {h' : Hp}, h <+: h' → RunsC P G n_laws_toJobShop [sv s (.slice oa s.routes.length ca)] h' fun v h2 => ∃ vr' us, v = sv s vr' ∧ us.length = s.routes.length ∧ Holds h' h2 (.own vr' 1 (us.map encV) :: inL encO 2 us s.routes) := fun hp => toJobShop_run (NSs.pre hp) (by omega) b5
  have H0 := (Holds.start.alloc [.int .i64 s.m, .slice oa s.routes.length ca] (h := h))
  obtain ⟨X, hX⟩ : ∃ X, X = bestO s := ⟨_, rfl⟩
  obtain ⟨xs, hxs⟩ : ∃ xs, xs = X.getD [] := ⟨_, rfl⟩
  have xl : xs.length ≤ 2 ^ 40 := by rw [hxs, hX]; have := (@bestO_len s).1; omega
  have xt : tot xs ≤ 2 ^ 40 := by rw [hxs, hX, ← cnt_tot]; have := (@bestO_len s).2; omega
  have xi : ∀ x ∈ xs, x.length ≤ 2 ^ 40 := fun x hx => Nat.le_trans (tot_mem hx) xt
  -- the reference
  simp -implicitDefEqProofs [CL_ret (z1 _), c1]
  refine CL_post (toS H0.pre) fun v h1 ⟨r1, u1, ev, hu1, C1⟩ => ?_
  subst ev
  have S1 : SAt h1 r1 s := ⟨⟨u1, (Holds.nest (L1 := [_]) (L2 := []) (o := 0) C1.open rfl hu1)⟩, b1, by rw [cnt_tot]; exact b2⟩
  simp -implicitDefEqProofs
  refine CL_post (specBestSelection_run S1) fun v h3 ⟨p3, w, ev, Ow⟩ => ?_
  subst ev
  rw [← hX, ← hxs] at Ow
  rw [← hX]
  obtain ⟨uw, Nw⟩ := Ow.n
  have Nws := Nw
  obtain ⟨w1, w3, rfl⟩ := Nw.shape
  have Hb := H0.ext (C1.pre.trans p3)
  have hp3 : h <+: h3 := Hb.pre
  -- the copies
  simp -implicitDefEqProofs [Hb.bl 0 2 rfl rfl]
  refine CL_post (toS hp3) fun v h4 ⟨r3, u3, ev, hu3, C3⟩ => ?_
  subst ev
  obtain ⟨x1, x2, x3, rfl⟩ : ∃ a n c, r3 = .slice a n c := by obtain ⟨a, c, e⟩ := (C3.sees 0 rfl).shape; exact ⟨_, _, _, e⟩
  have H2 := (Holds.joinT (L := []) (T := []) (A := [_]) (M := inL encO 2 u3 s.routes) (Holds.start (h := h3)) C3).allocT [.int .i64 s.m, .slice x1 x2 x3]
  have N3 := Holds.nest (o := 0) H2 rfl hu3
  have S3 : SAt (h4 ++ [some ⟨[.int .i64 s.m, .slice x1 x2 x3], 0, false⟩]) (.slice x1 x2 x3) s := ⟨⟨u3, N3⟩, b1, by rw [cnt_tot]; exact b2⟩
  -- the program
  simp -implicitDefEqProofs [H2.bl 1 2 rfl rfl]
  refine CL_post (BestSelection_run S3) fun v h6 ⟨p6, g, ev, ug, lg, CG⟩ => ?_
  subst ev
  rw [← hX, ← hxs] at CG lg
  rw [← hX]
  obtain ⟨g1, g2, g3, rfl⟩ : ∃ a n c, g = .slice a n c := by obtain ⟨a, c, e⟩ := (CG.sees 0 rfl).shape; exact ⟨_, _, _, e⟩
  have H4 := Holds.joinT (A := [_]) (M := inL encI 1 ug xs) H2 CG
  have q1 := eqIntSS_run (Holds.nest (o := 2) H4 rfl lg) (Nws.pre H4.pre) xl xi
  simp -implicitDefEqProofs [CL_ret q1, H4.bl 1 2 rfl rfl, (Hb.ext H4.pre).bl 0 2 rfl rfl]
  -- the copies are as they were
  refine CH_post (toS (hp3.trans H4.pre)).new fun v h7 ⟨⟨r7, u7, ev, hu7, C7⟩, hn7⟩ => ⟨hn7 C7.pre, ?_⟩
  subst ev
  have H5 := H4.ext C7.pre
  have q2 := eqJobShop_run (N3.pre (p6.trans C7.pre)) (Holds.nest (L1 := [_]) (L2 := []) (o := 0) C7.open rfl hu7) (by omega) b5
  simp -implicitDefEqProofs [CL_ret q2, CH_at q2, H5.bl 1 2 rfl rfl]
  -- marks in the copies
  refine CL_post (markJobShop_run (k := 1) (o := 0) H5.swap rfl hu3 (by omega) (by omega) (by omega) (by omega)) fun r h9 ⟨er, H7⟩ => ?_
  subst er
  have H8 := H7.swap
  have q4 := eqIntSS_run (Holds.nest (o := 2) H8 rfl lg) (Nws.pre H8.pre) xl xi
  have hk0 : ¬ (1 + 2 * (tot s.routes : Int) < 0) := by omega
  simp -implicitDefEqProofs [hk0, CL_ret q4]
  -- marks in the result
  refine CL_post (markIntSS_run (k := 1) (o := 2) H8 rfl lg xl xt (by omega) (by omega)) fun r h11 ⟨er, H10⟩ => ?_
  subst er
  have lm : ug.length = (marksN mkI 1 1 xs).length := by rw [marksN_len]; exact lg
  have q5 := heldIntSS_run (k := 1) (Holds.nest (o := 2) H10 rfl lm) xl xt (by omega) (by omega)
  have hk1 : ¬ (1 + (tot xs : Int) < 0) := by omega
  simp -implicitDefEqProofs [CL_ret q5, hk1, (Hb.ext H10.pre).bl 0 2 rfl rfl]
  -- once more
  refine CL_post (toS (hp3.trans H10.pre)) fun v h12 ⟨r12, u12, ev, hu12, C12⟩ => ?_
  subst ev
  have S13 : SAt h12 r12 s := ⟨⟨u12, (Holds.nest (L1 := [_]) (L2 := []) (o := 0) C12.open rfl hu12)⟩, b1, by rw [cnt_tot]; exact b2⟩
  simp -implicitDefEqProofs
  refine CL_post (BestSelection_run S13) fun v h14 ⟨p14, t, ev, ut, lt, CT⟩ => ?_
  subst ev
  rw [← hX, ← hxs] at CT lt
  rw [← hX]
  have H11 := H10.ext (C12.pre.trans p14)
  have q6 := eqIntSS_run (Holds.nest (L1 := [_]) (L2 := []) (o := 0) CT.open rfl lt) (Nws.pre H11.pre) xl xi
  have q7 := heldIntSS_run (k := 1) (Holds.nest (o := 2) H11 rfl lm) xl xt (by omega) (by omega)
  simp -implicitDefEqProofs [CL_ret q6, CL_ret q7, hk1]
  exact gcP (hp3.trans H11.pre) rfl
end Go.Pm.PP
