/- The texts PjP, Pj7, Pj8, Pj5, Pj6, Pj9, Pj10, Pj11, PjQ, Pj12, Pj13 of this work: Job shops: selections, the plain law. -/
import Derived.Test.YtlieeolnnehncaaP6
import Derived.Test.YtlieeolnnehncaaM4
/- Job shops: selections, the plain law. -/
set_option linter.unusedVariables false
set_option linter.unusedSimpArgs false
namespace Go.Pm.PP
open Go.Pm Go.Proofs Go.Pm.JS
theorem perm_of_sub : ∀ {l o : List Int}, l.Nodup → (∀ x ∈ l, x ∈ o) → o.length ≤ l.length → l.Perm o
  | [], o, _, _, hl => by
    have : o = [] := List.eq_nil_of_length_eq_zero (by simpa using hl)
    rw [this]
  | x :: l, o, hn, hs, hl => by
    have hx : x ∈ o := hs x (List.mem_cons_self ..)
    have h1 := List.perm_cons_erase hx
    have hn' := List.nodup_cons.1 hn
    have h2 : l.Perm (o.erase x) := perm_of_sub hn'.2 (fun y hy => (List.mem_erase_of_ne (fun e => hn'.1 (by rw [← e]; exact hy))).2 (hs y (List.mem_cons_of_mem _ hy))) (by
      have := h1.length_eq
      simp at this hl ⊢
      omega)
    exact (h2.cons x).trans h1.symm
theorem hasL_mem {x : Int} {xs : List Int} : hasL x xs = true ↔ x ∈ xs := by
  unfold hasL
  rw [List.any_eq_true]
  constructor
  · rintro ⟨y, hy, h⟩
    have : y = x := by simpa using h
    exact this ▸ hy
  · intro h; exact ⟨x, h, by simp⟩
theorem onGo_mem {m : Int} : ∀ {xs : List OpR} {i : Nat} {x : Int}, x ∈ onGo m xs i → ∃ j : Nat, x = j ∧ i ≤ j ∧ j < i + xs.length
  | [], _, _, h => by cases h
  | y :: r, i, x, h => by
    rw [onGo] at h
    split at h
    · rcases List.mem_cons.1 h with rfl | h
      · exact ⟨i, rfl, Nat.le_refl _, by simp⟩
      · obtain ⟨j, h1, h2, h3⟩ := onGo_mem h
        exact ⟨j, h1, by omega, by simp; omega⟩
    · obtain ⟨j, h1, h2, h3⟩ := onGo_mem h
      exact ⟨j, h1, by omega, by simp; omega⟩
/-- Ascending, each one greater than the one before. -/
theorem onGo_sorted {m : Int} : ∀ {xs : List OpR} {i : Nat}, (onGo m xs i).Pairwise (· < ·)
  | [], _ => .nil
  | y :: r, i => by
    rw [onGo]
    split
    · refine List.Pairwise.cons (fun x hx => ?_) onGo_sorted
      obtain ⟨j, rfl, h1, _⟩ := onGo_mem hx
      omega
    · exact onGo_sorted
theorem sorted_nodup {l : List Int} (h : l.Pairwise (· < ·)) : l.Nodup := h.imp fun h => by omega
theorem onL_nodup {s : Shop} {m : Int} : (onL s m).Nodup := sorted_nodup onGo_sorted
theorem onL_mem {s : Shop} {m x : Int} (h : x ∈ onL s m) : ∃ j : Nat, x = j ∧ j < (opsL s).length := by
  obtain ⟨j, h1, _, h3⟩ := onGo_mem h
  exact ⟨j, h1, by omega⟩
/-- Lists are a selection. -/
def SelGo (s : Shop) : Nat → List (List Int) → Prop
  | _, [] => True
  | k, o :: r => (onL s k).Perm o ∧ SelGo s (k + 1) r
theorem selGo_iff {s : Shop} : ∀ {oss : List (List Int)} {k : Nat}, selGo s k oss = true ↔ SelGo s k oss
  | [], k => by simp [selGo, SelGo]
  | o :: r, k => by
    rw [selGo, SelGo, Bool.and_eq_true, Bool.and_eq_true, selGo_iff]
    constructor
    · rintro ⟨⟨h1, h2⟩, h3⟩
      refine ⟨perm_of_sub onL_nodup (fun x hx => hasL_mem.1 (List.all_eq_true.1 h1 x hx)) (Nat.le_of_eq (by simpa using h2)), h3⟩
    · rintro ⟨h1, h3⟩
      refine ⟨⟨List.all_eq_true.2 fun x hx => hasL_mem.2 (h1.mem_iff.1 hx), by rw [h1.length_eq]; simp⟩, h3⟩
theorem SelGo.mem {s : Shop} : ∀ {oss : List (List Int)} {k : Nat}, SelGo s k oss → ∀ o ∈ oss, ∀ x ∈ o, ∃ j : Nat, x = j ∧ j < (opsL s).length
  | [], _, _, o, ho, _, _ => by cases ho
  | p :: r, k, h, o, ho, x, hx => by
    rcases List.mem_cons.1 ho with rfl | ho
    · exact onL_mem (h.1.mem_iff.2 hx)
    · exact SelGo.mem h.2 o ho x hx
theorem nbr_mem : ∀ {xs : List Int} {p : Int × Int}, p ∈ nbr xs → p.1 ∈ xs ∧ p.2 ∈ xs
  | [], _, h => by cases h
  | [a], _, h => by cases h
  | a :: b :: r, p, h => by
    rw [nbr] at h
    rcases List.mem_cons.1 h with rfl | h
    · simp
    · have := nbr_mem h
      exact ⟨List.mem_cons_of_mem _ this.1, List.mem_cons_of_mem _ this.2⟩
theorem nxGo_mem : ∀ {xs : List Int} {i : Nat} {p : Int × Int}, p ∈ nxGo i xs → ∃ j : Nat, p = ((j : Int), (j : Int) + 1) ∧ i ≤ j ∧ j + 1 < i + xs.length ∧ xs[j - i]? = xs[j + 1 - i]?
  | [], _, _, h => by cases h
  | [a], _, _, h => by cases h
  | a :: b :: r, i, p, h => by
    rw [nxGo] at h
    have rc : p ∈ nxGo (i + 1) (b :: r) → ∃ j : Nat, p = ((j : Int), (j : Int) + 1) ∧ i ≤ j ∧ j + 1 < i + (a :: b :: r).length ∧ (a :: b :: r)[j - i]? = (a :: b :: r)[j + 1 - i]? := fun h => by
      obtain ⟨j, h1, h2, h3, h4⟩ := nxGo_mem h
      refine ⟨j, h1, by omega, by simp at h3 ⊢; omega, ?_⟩
      rw [show j - i = (j - (i + 1)) + 1 by omega, show j + 1 - i = (j + 1 - (i + 1)) + 1 by omega]
      exact h4
    split at h
    · rename_i hab
      rcases List.mem_cons.1 h with rfl | h
      · have : a = b := by simpa using hab
        exact ⟨i, rfl, Nat.le_refl _, by simp, by simp [this]⟩
      · exact rc h
    · exact rc h
def natP (p : Int × Int) : Nat × Nat := (p.1.toNat, p.2.toNat)
/-- The arcs of routes and orders. -/
def psL (s : Shop) (oss : List (List Int)) : List (Nat × Nat) := (nxL s ++ arcsL oss).map natP
theorem psL_all {s : Shop} {oss : List (List Int)} (hs : SelGo s 0 oss) : ∀ p ∈ nxL s ++ arcsL oss, ∃ a b : Nat, p = ((a : Int), (b : Int)) ∧ a < (opsL s).length ∧ b < (opsL s).length := by
  intro p hp
  rcases List.mem_append.1 hp with hp | hp
  · obtain ⟨j, rfl, _, h2, _⟩ := nxGo_mem hp
    rw [rt_len, ← ops_len] at h2
    exact ⟨j, j + 1, rfl, by omega, by omega⟩
  · rw [arcsL] at hp
    obtain ⟨l, hl, hp⟩ := List.mem_flatten.1 hp
    obtain ⟨o, ho, rfl⟩ := List.mem_map.1 hl
    obtain ⟨h1, h2⟩ := nbr_mem hp
    obtain ⟨a, ha, ha2⟩ := hs.mem o ho _ h1
    obtain ⟨b, hb, hb2⟩ := hs.mem o ho _ h2
    exact ⟨a, b, by obtain ⟨x, y⟩ := p; simp only at ha hb; rw [ha, hb], ha2, hb2⟩
theorem rtOk_t {M : Int} : ∀ {xs : List OpR} {us : List Int}, rtOk M us xs = true → ∀ x ∈ xs, 1 ≤ x.t ∧ x.t ≤ 20
  | [], _, _, x, hx => by cases hx
  | y :: r, us, h, x, hx => by
    rw [rtOk, Bool.and_eq_true, Bool.and_eq_true, Bool.and_eq_true] at h
    rcases List.mem_cons.1 hx with rfl | hx
    · have := h.1.1.2
      simp only [inB, Bool.and_eq_true, decide_eq_true_eq] at this
      exact this
    · exact rtOk_t h.2 x hx
theorem good_t {s : Shop} (h : goodS s = true) : ∀ x ∈ opsL s, 1 ≤ x.t ∧ x.t ≤ 20 := by
  rw [goodS, Bool.and_eq_true, Bool.and_eq_true, Bool.and_eq_true] at h
  intro x hx
  obtain ⟨l, hl, hx⟩ := List.mem_flatten.1 hx
  exact rtOk_t (List.all_eq_true.1 h.1.2 l hl) x hx
theorem good_n {s : Shop} (h : goodS s = true) : cntN s.routes ≤ 12 ∧ 1 ≤ s.m ∧ s.m ≤ 4 ∧ s.routes.length ≤ 4 := by
  rw [goodS, Bool.and_eq_true, Bool.and_eq_true, Bool.and_eq_true] at h
  have h1 := h.1.1.1
  have h2 := h.1.1.2
  have h3 := h.2
  simp only [inB, Bool.and_eq_true, decide_eq_true_eq] at h1 h2 h3
  exact ⟨h3, h1.1, h1.2, h2⟩
end Go.Pm.PP

/- Job shops by the program: operations by their numbers, sorting, comparing. -/
set_option linter.unusedVariables false
set_option linter.unusedSimpArgs false
set_option maxRecDepth 4000
set_option maxHeartbeats 2000000
namespace Go.Pm.PP
open Go.Pm Go.Proofs Go.Pm.JS
/-! ### operations by their numbers -/
structure Flat where
  ops : List OpR
  rt : List Int
  ix : List Int
def flatF (s : Shop) : Flat := ⟨opsL s, (idxL s).map (·.1), (idxL s).map (·.2)⟩
abbrev fv (vo vr vi : Value) : Value := .agg #[vo, vr, vi]
structure FAt (h : Hp) (vo vr vi : Value) (f : Flat) : Prop where
  o : Ops h vo f.ops
  r : Ints h vr f.rt
  i : Ints h vi f.ix
theorem FAt.pre {h h' : Hp} {vo vr vi : Value} {f : Flat} (F : FAt h vo vr vi f) (hp : h <+: h') : FAt h' vo vr vi f := ⟨F.o.pre hp, F.r.pre hp, F.i.pre hp⟩
theorem FAt.ext {h : Hp} {vo vr vi : Value} {f : Flat} (F : FAt h vo vr vi f) (l : Hp) : FAt (h ++ l) vo vr vi f := F.pre (List.prefix_append ..)
theorem FAt.shapes {h : Hp} {vo vr vi : Value} {f : Flat} (F : FAt h vo vr vi f) : (∃ oa c, vo = .slice oa f.ops.length c) ∧ (∃ oa c, vr = .slice oa f.rt.length c) ∧ ∃ oa c, vi = .slice oa f.ix.length c := ⟨F.o.shapeT, F.r.shapeT, F.i.shapeT⟩
theorem flatOf_run {h : Hp} {vr : Value} {s : Shop} (S : SAt h vr s) :
    RunsC P G n_impl_flatOf [sv s vr] h fun v h' => ∃ vo vt vi, v = fv vo vt vi ∧ Holds h h' [.own vo 2 ((flatF s).ops.map encO), .own vt 1 ((flatF s).rt.map encI), .own vi 1 ((flatF s).ix.map encI)] := by
  refine hideC fun K hK => enter_run e_impl_flatOf (by simp) ?_
  have Ss := S
  obtain ⟨oa, c, rfl⟩ := S.shape
  have rn := Ss.rn
  have tot := Ss.tot
  have il : (idxL s).length = cntN s.routes := idxGo_len
  have ol := ops_len (s := s)
  have H0 := ((Holds.start.alloc [.int .i64 s.m, .slice oa s.routes.length c] (h := h)).alloc [.slice none 0 0, .slice none 0 0, .slice none 0 0]).alloc [.slice none 0 0, .slice none 0 0, .slice none 0 0]
  have H1 := own_nil (own_nil (own_nil H0 OpR encO 2) Int encI 1) Int encI 1
  simp only [List.append_assoc, List.cons_append, List.nil_append, List.length_append, List.length_cons, List.length_nil, Nat.zero_add] at H1
  simp -implicitDefEqProofs
  refine R_loopO (fun n st h' => ∃ (i : Nat) (vo vt vi : Value) (xs : List OpR) (ps : List (Int × Int)), i + n = s.routes.length ∧ st = [(2, .pointer (some ⟨h.length + 1, 0, some 3⟩)), (3, .pointer (some ⟨h.length + 2, 0, some 3⟩)), (9, .slice oa s.routes.length c), (10, .int .i64 s.routes.length), (11, .int .i64 i)] ∧
    Holds h h' [.box h.length [.int .i64 s.m, .slice oa s.routes.length c], .box (h.length + 1) [.slice none 0 0, .slice none 0 0, .slice none 0 0], .box (h.length + 2) [vo, vt, vi], .own vo 2 (xs.map encO), .own vt 1 ((ps.map (·.1)).map encI), .own vi 1 ((ps.map (·.2)).map encI)] ∧
    opsL s = xs ++ (s.routes.drop i).flatten ∧ idxL s = ps ++ idxGo i (s.routes.drop i)) (fun I hI n st h' => ?_) ⟨0, _, _, _, [], [], Nat.zero_add _, by simp, H1, by simp [opsL], by simp [idxL]⟩
  rintro ⟨i, vo, vt, vi, xs, ps, hi, rfl, H, hx, hq⟩
  by_cases hlt : i < s.routes.length
  · obtain ⟨y, hy, hd⟩ := drop_at hlt
    rw [hd, List.flatten_cons] at hx
    rw [hd, idxGo] at hq
    obtain ⟨ob, d, ho, hn, g⟩ := Ss.at hy
    simp -implicitDefEqProofs [-indexAddrP_some, hlt, g h' H.pre]
    refine R_loopO (fun n st h' => ∃ (j : Nat) (vo vt vi : Value) (xs : List OpR) (ps : List (Int × Int)), j + n = y.length ∧ st = [(2, .pointer (some ⟨h.length + 1, 0, some 3⟩)), (3, .pointer (some ⟨h.length + 2, 0, some 3⟩)), (4, .int .i64 i), (9, .slice oa s.routes.length c), (10, .int .i64 s.routes.length), (11, .int .i64 i), (16, .slice ob y.length d), (17, .int .i64 y.length), (18, .int .i64 j)] ∧
      Holds h h' [.box h.length [.int .i64 s.m, .slice oa s.routes.length c], .box (h.length + 1) [.slice none 0 0, .slice none 0 0, .slice none 0 0], .box (h.length + 2) [vo, vt, vi], .own vo 2 (xs.map encO), .own vt 1 ((ps.map (·.1)).map encI), .own vi 1 ((ps.map (·.2)).map encI)] ∧
      opsL s = xs ++ (y.drop j ++ (s.routes.drop (i + 1)).flatten) ∧ idxL s = ps ++ (rowP i j (y.length - j) ++ idxGo (i + 1) (s.routes.drop (i + 1)))) (fun I2 hI2 m st h2 => ?_) ⟨0, vo, vt, vi, xs, ps, Nat.zero_add _, by simp, H, by simpa using hx, by simpa using hq⟩
    rintro ⟨j, vo, vt, vi, xs, ps, hj, rfl, H, hx, hq⟩
    by_cases hlt2 : j < y.length
    · obtain ⟨z, hz, hdz⟩ := drop_at hlt2
      rw [hdz] at hx
      rw [show y.length - j = (y.length - (j + 1)) + 1 by omega, rowP] at hq
      have hxl := congrArg List.length hx
      have hql := congrArg List.length hq
      rw [ol] at hxl
      rw [il] at hql
      simp only [List.length_append] at hxl hql
      obtain ⟨ovo, nvo, cvo, rfl⟩ : ∃ a n c, vo = .slice a n c := by obtain ⟨a, c, e⟩ := (H.sees 3 rfl).shape; exact ⟨_, _, _, e⟩
      obtain ⟨ovt, nvt, cvt, rfl⟩ : ∃ a n c, vt = .slice a n c := by obtain ⟨a, c, e⟩ := (H.sees 4 rfl).shape; exact ⟨_, _, _, e⟩
      obtain ⟨ovi, nvi, cvi, rfl⟩ : ∃ a n c, vi = .slice a n c := by obtain ⟨a, c, e⟩ := (H.sees 5 rfl).shape; exact ⟨_, _, _, e⟩
      obtain ⟨v1, h3, ha1, H3, k1, _⟩ := push_O1 H 3 rfl z (a1 := some ⟨[.int .i64 z.m, .int .i64 z.t], 0, false⟩) (by omega)
      obtain ⟨a1, n1, c1, rfl⟩ : ∃ a n c, v1 = .slice a n c := by obtain ⟨a, c, e⟩ := (H3.sees 3 rfl).shape; exact ⟨_, _, _, e⟩
      obtain ⟨h4, hs1, H4, k2⟩ := H3.set (P := P) 2 (n := 3) (o := 0) (ty := t_S_impl_Op) (w := .slice a1 n1 c1) rfl rfl e_t_S_impl_Op (by simp) (by simp) (by simp)
      obtain ⟨v2, h5, ha2, H5, k3, _⟩ := push_I0 H4 4 rfl (i : Int) (by simp; omega)
      obtain ⟨a2, n2, c2, rfl⟩ : ∃ a n c, v2 = .slice a n c := by obtain ⟨a, c, e⟩ := (H5.sees 4 rfl).shape; exact ⟨_, _, _, e⟩
      obtain ⟨h6, hs2, H6, k4⟩ := H5.set (P := P) 2 (n := 3) (o := 1) (ty := t_S_int) (w := .slice a2 n2 c2) rfl rfl e_t_S_int (by simp) (by simp) (by simp)
      obtain ⟨v3, h7, ha3, H7, k5, _⟩ := push_I0 H6 5 rfl (j : Int) (by simp; omega)
      obtain ⟨a3, n3, c3, rfl⟩ : ∃ a n c, v3 = .slice a n c := by obtain ⟨a, c, e⟩ := (H7.sees 5 rfl).shape; exact ⟨_, _, _, e⟩
      obtain ⟨h8, hs3, H8, k6⟩ := H7.set (P := P) 2 (n := 3) (o := 2) (ty := t_S_int) (w := .slice a3 n3 c3) rfl rfl e_t_S_int (by simp) (by simp) (by simp)
      simp -implicitDefEqProofs [-indexAddrP_some, hlt2, load_O (ho.pre H.pre) hz, H.bl 2 3 rfl rfl, H.blx 2 3 rfl rfl, ha1, hs1, H4.bl 2 3 rfl rfl, H4.blx 2 3 rfl rfl, ha2, hs2, H6.bl 2 3 rfl rfl, H6.blx 2 3 rfl rfl, ha3, hs3, winc hlt2 (by omega)]
      refine ⟨m - 1, by omega, on hI2 ⟨j + 1, .slice a1 n1 c1, .slice a2 n2 c2, .slice a3 n3 c3, xs ++ [z], ps ++ [((i : Int), (j : Int))], by omega, rfl, ?_, by simpa using hx, by simpa using hq⟩⟩
      simpa using H8
    · rw [List.drop_eq_nil_of_le (by omega), List.nil_append] at hx
      rw [show y.length - j = 0 by omega, rowP, List.nil_append] at hq
      simp -implicitDefEqProofs [hlt2, winc hlt (by omega)]
      exact ⟨n - 1, by omega, on hI ⟨i + 1, vo, vt, vi, xs, ps, by omega, rfl, H, hx, hq⟩⟩
  · rw [List.drop_eq_nil_of_le (by omega), List.flatten_nil, List.append_nil] at hx
    rw [List.drop_eq_nil_of_le (by omega), idxGo, List.append_nil] at hq
    obtain ⟨ovo, nvo, cvo, rfl⟩ : ∃ a n c, vo = .slice a n c := by obtain ⟨a, c, e⟩ := (H.sees 3 rfl).shape; exact ⟨_, _, _, e⟩
    obtain ⟨ovt, nvt, cvt, rfl⟩ : ∃ a n c, vt = .slice a n c := by obtain ⟨a, c, e⟩ := (H.sees 4 rfl).shape; exact ⟨_, _, _, e⟩
    obtain ⟨ovi, nvi, cvi, rfl⟩ : ∃ a n c, vi = .slice a n c := by obtain ⟨a, c, e⟩ := (H.sees 5 rfl).shape; exact ⟨_, _, _, e⟩
    obtain ⟨h6, hs, H6, k⟩ := H.set (P := P) 1 (n := 3) (o := 0) (ty := t_impl_flat) (w := .agg #[.slice ovo nvo cvo, .slice ovt nvt cvt, .slice ovi nvi cvi]) rfl rfl e_t_impl_flat (by simp) (by simp) (by simp)
    simp -implicitDefEqProofs [hlt, H.bl 2 3 rfl rfl, hs, H6.bl 1 3 rfl rfl]
    have H7 := ((H6.drop 0).drop 0).drop 0
    refine onK hK ⟨_, _, _, rfl, ?_⟩
    rw [flatF, hx, hq]
    refine Holds.gcO H7 fun hp i A hA => ?_
    match i, hA with
    | 0, hA => cases hA; exact ⟨_, _, _, rfl, by simp [plain] at hp; exact hp.1⟩
    | 1, hA => cases hA; exact ⟨_, _, _, rfl, by simp [plain] at hp; exact hp.2.1⟩
    | 2, hA => cases hA; exact ⟨_, _, _, rfl, by simp [plain] at hp; exact hp.2.2⟩
    | k + 3, hA => cases hA
end Go.Pm.PP

/- Job shops by the program: the next operation, those of a machine, sorting, comparing, selections. -/
set_option linter.unusedVariables false
set_option linter.unusedSimpArgs false
set_option maxRecDepth 4000
set_option maxHeartbeats 2000000
namespace Go.Pm.PP
open Go.Pm Go.Proofs Go.Pm.JS
/-- The operation behind one in its route, or -1. -/
def nextI (f : Flat) (i : Nat) : Int := if i + 1 < f.ops.length ∧ gN f.rt (i + 1) = gN f.rt i then (i : Int) + 1 else -1
theorem next_run {h : Hp} {vo vr vi : Value} {f : Flat} {i : Nat} (F : FAt h vo vr vi f) (hl : f.rt.length = f.ops.length) (hn : f.ops.length ≤ 2 ^ 40) (hi : i < f.ops.length) : Ret P G n_impl_flat_next [fv vo vr vi, .int .i64 i] h (.int .i64 (nextI f i)) h := by
  refine enter_run e_impl_flat_next (by simp) ?_
  have Fs := F
  obtain ⟨⟨oa, c, rfl⟩, ⟨ob, d, rfl⟩, oc, e, rfl⟩ := F.shapes
  have hw : IntKind.i64.wrap ((i : Int) + 1) = (i : Int) + 1 := by rw [wrap_ok] <;> omega
  have F1 := Fs.ext [some ⟨[.slice oa f.ops.length c, .slice ob f.rt.length d, .slice oc f.ix.length e], 0, false⟩]
  have hb := load_I F1.r (gN_get (v := f.rt) (i := i) (by omega))
  by_cases h1 : i + 1 < f.ops.length
  · have h1' : (i : Int) + 1 < f.ops.length := by omega
    have ha := load_I F1.r (gN_get (v := f.rt) (i := i + 1) (by omega))
    rw [show ((i + 1 : Nat) : Int) = (i : Int) + 1 from rfl] at ha
    cases h2 : (gN f.rt (i + 1) == gN f.rt i)
    · have h2' : ¬ gN f.rt (i + 1) = gN f.rt i := by simpa using h2
      simp -implicitDefEqProofs [-indexAddrP_some, hw, h1', ha, hb, h2, nextI, h1, h2']
    · have h2' : gN f.rt (i + 1) = gN f.rt i := by simpa using h2
      simp -implicitDefEqProofs [-indexAddrP_some, hw, h1', ha, hb, h2, nextI, h1, h2']
  · have h1' : ¬ (i : Int) + 1 < f.ops.length := by omega
    simp -implicitDefEqProofs [-indexAddrP_some, hw, h1', nextI, h1]
theorem on_run {h : Hp} {vo vr vi : Value} {f : Flat} {m : Int} (F : FAt h vo vr vi f) (hn : f.ops.length ≤ 2 ^ 40) :
    RunsC P G n_impl_flat_on [fv vo vr vi, .int .i64 m] h fun v h' => h <+: h' ∧ Own h.length h' v 1 ((onGo m f.ops 0).map encI) := by
  refine hideC fun K hK => enter_run e_impl_flat_on (by simp) ?_
  have Fs := F
  obtain ⟨⟨oa, c, rfl⟩, ⟨ob, d, rfl⟩, oc, e, rfl⟩ := F.shapes
  have H0 := own_nil (Holds.start.alloc [.slice oa f.ops.length c, .slice ob f.rt.length d, .slice oc f.ix.length e] (h := h)) Int encI 1
  simp -implicitDefEqProofs
  refine R_loopO (fun n st h' => ∃ (i : Nat) (u : Value) (us : List Int), i + n = f.ops.length ∧ st = [(1, .int .i64 m), (5, u), (9, .slice oa f.ops.length c), (10, .int .i64 f.ops.length), (11, .int .i64 i)] ∧
    Holds h h' [.box h.length [.slice oa f.ops.length c, .slice ob f.rt.length d, .slice oc f.ix.length e], .own u 1 (us.map encI)] ∧ onGo m f.ops 0 = us ++ onGo m (f.ops.drop i) i ∧ us.length ≤ i) (fun I hI n st h' => ?_) ⟨0, _, [], Nat.zero_add _, by simp, H0, by simp, by simp⟩
  rintro ⟨i, u, us, hi, rfl, H, hx, hu⟩
  by_cases hlt : i < f.ops.length
  · obtain ⟨y, hy, hd⟩ := drop_at hlt
    rw [hd, onGo] at hx
    have ly := load_O (Fs.o.pre H.pre) hy
    cases c1 : (y.m == m)
    · rw [c1] at hx
      simp -implicitDefEqProofs [-indexAddrP_some, hlt, ly, c1, winc hlt (by omega)]
      exact ⟨n - 1, by omega, on hI ⟨i + 1, _, us, by omega, rfl, H.ext (List.prefix_append ..), by simpa using hx, by omega⟩⟩
    · rw [c1] at hx
      obtain ⟨v', h2, ha, H2, k, _⟩ := push_I1 H 1 rfl (i : Int) (a1 := some ⟨[.int .i64 y.m, .int .i64 y.t], 0, false⟩) (by omega)
      simp -implicitDefEqProofs [-indexAddrP_some, hlt, ly, c1, ha, winc hlt (by omega)]
      exact ⟨n - 1, by omega, on hI ⟨i + 1, _, us ++ [(i : Int)], by omega, rfl, H2, by simpa using hx, by simp; omega⟩⟩
  · rw [List.drop_eq_nil_of_le (by omega), onGo, List.append_nil] at hx
    subst hx
    simp -implicitDefEqProofs [hlt]
    exact onK hK (H.ret 1 rfl)
/-! ### different numbers -/
def arGo (n : Int) : List Int → List Int → Bool
  | _, [] => true
  | us, x :: r => inB x 0 (w64 (n - 1)) && !hasL x us && arGo n (us ++ [x]) r
theorem areDifferent_run {h : Hp} {v : Value} {xs : List Int} {n : Int} (hv : Ints h v xs) (hn : xs.length ≤ 2 ^ 40) : Ret P G n_impl_areDifferent [.int .i64 n, v] h (.bool (arGo n [] xs)) h := by
  refine enter_run e_impl_areDifferent (by simp) ?_
  have hvs := hv
  obtain ⟨oa, c, rfl⟩ := hv.shapeT
  simp -implicitDefEqProofs
  refine R_loopO (fun m s h' => ∃ i : Nat, i + m = xs.length ∧ s = [(0, .int .i64 n), (1, .slice oa xs.length c), (7, .slice oa xs.length c), (8, .int .i64 xs.length), (9, .int .i64 i)] ∧ h' = h ∧ arGo n [] xs = arGo n (xs.take i) (xs.drop i)) (fun I hI m s h' => ?_) ⟨0, Nat.zero_add _, by simp, rfl, by simp⟩
  rintro ⟨i, hi, rfl, rfl, hx⟩
  by_cases hlt : i < xs.length
  · obtain ⟨y, hy, hd⟩ := drop_at hlt
    rw [hd, arGo, ← take_succ' hy] at hx
    obtain ⟨v', hs, hu⟩ := hvs.front (P := P) u_S_int i_int (k := .i64) (j := (i : Int)) (by omega) (by simp; omega)
    rw [Int.toNat_natCast, ← List.map_take] at hu
    have rh := has_run (x := y) hu (by simp; omega)
    cases c1 : inB y 0 (w64 (n - 1))
    · rw [c1, Bool.false_and, Bool.false_and] at hx
      simp -implicitDefEqProofs [-indexAddrP_some, hlt, load_I hvs hy, CL_ret isNumber_run, c1, hx]
    · cases c2 : hasL y (xs.take i)
      · rw [c1, c2] at hx
        simp -implicitDefEqProofs [-indexAddrP_some, hlt, load_I hvs hy, CL_ret isNumber_run, c1, hs, CL_ret rh, c2, winc hlt hn]
        exact ⟨m - 1, by omega, on hI ⟨i + 1, by omega, rfl, rfl, by simpa using hx⟩⟩
      · rw [c1, c2] at hx
        simp -implicitDefEqProofs [-indexAddrP_some, hlt, load_I hvs hy, CL_ret isNumber_run, c1, hs, CL_ret rh, c2]
        simpa using hx
  · rw [List.drop_eq_nil_of_le (by omega), arGo] at hx
    simp -implicitDefEqProofs [hlt, hx]
/-! ### comparing -/
def cmpL : List Int → List Int → Int
  | x :: xs, y :: ys => if x = y then cmpL xs ys else x - y
  | xs, ys => (xs.length : Int) - ys.length
theorem cmpL_zero : ∀ {xs ys : List Int}, cmpL xs ys = 0 ↔ xs = ys
  | [], [] => by simp [cmpL]
  | [], y :: ys => by simp [cmpL]; omega
  | x :: xs, [] => by simp [cmpL]; omega
  | x :: xs, y :: ys => by
    rw [cmpL]
    split
    · rename_i h; subst h; rw [cmpL_zero]; simp
    · rename_i h; simp [h]; omega
theorem compareLists_run {h : Hp} {v u : Value} {xs ys : List Int} (hv : Ints h v xs) (hu : Ints h u ys) (hn : xs.length ≤ 2 ^ 40) (hm : ys.length ≤ 2 ^ 40) (h1 : ∀ x ∈ xs, 0 ≤ x ∧ x ≤ 2 ^ 40) (h2 : ∀ x ∈ ys, 0 ≤ x ∧ x ≤ 2 ^ 40) :
    Ret P G n_impl_compareLists [v, u] h (.int .i64 (cmpL xs ys)) h := by
  refine enter_run e_impl_compareLists (by simp) ?_
  have hvs := hv
  have hus := hu
  obtain ⟨oa, c, rfl⟩ := hv.shapeT
  obtain ⟨ob, d, rfl⟩ := hu.shapeT
  simp -implicitDefEqProofs
  refine R_loopO (fun m s h' => ∃ i : Nat, i + m = xs.length ∧ s = [(0, .slice oa xs.length c), (1, .slice ob ys.length d), (5, .int .i64 i)] ∧ h' = h ∧ i ≤ ys.length ∧ cmpL xs ys = cmpL (xs.drop i) (ys.drop i)) (fun I hI m s h' => ?_) ⟨0, Nat.zero_add _, by simp, rfl, by omega, by simp⟩
  rintro ⟨i, hi, rfl, rfl, hy0, hx⟩
  have w : IntKind.i64.wrap ((xs.length : Int) - ys.length) = (xs.length : Int) - ys.length := by rw [wrap_ok] <;> omega
  by_cases hlt : i < xs.length
  · by_cases hlt2 : i < ys.length
    · obtain ⟨x, hx1, hd⟩ := drop_at hlt
      obtain ⟨y, hy1, hdy⟩ := drop_at hlt2
      rw [hd, hdy, cmpL] at hx
      have g1 := h1 x (List.mem_of_getElem? hx1)
      have g2 := h2 y (List.mem_of_getElem? hy1)
      by_cases c1 : x = y
      · rw [if_pos c1] at hx
        have c1' : (x != y) = false := by simpa using c1
        simp -implicitDefEqProofs [-indexAddrP_some, hlt, hlt2, load_I hvs hx1, load_I hus hy1, c1', winc hlt hn]
        exact ⟨m - 1, by omega, on hI ⟨i + 1, by omega, rfl, rfl, by omega, hx⟩⟩
      · rw [if_neg c1] at hx
        have w1 : IntKind.i64.wrap (x - y) = x - y := by rw [wrap_ok] <;> omega
        simp -implicitDefEqProofs [-indexAddrP_some, hlt, hlt2, load_I hvs hx1, load_I hus hy1, nt c1, w1, hx]
    · have : cmpL (xs.drop i) (ys.drop i) = (xs.length : Int) - ys.length := by
        rw [List.drop_eq_nil_of_le (show ys.length ≤ i by omega)]
        cases hq : xs.drop i with
        | nil => have := congrArg List.length hq; simp at this; omega
        | cons a r => have := congrArg List.length hq; simp at this; simp [cmpL]; omega
      rw [this] at hx
      simp -implicitDefEqProofs [hlt, hlt2, w, hx]
  · have : cmpL (xs.drop i) (ys.drop i) = (xs.length : Int) - ys.length := by
      rw [List.drop_eq_nil_of_le (show xs.length ≤ i by omega)]
      cases hq : ys.drop i with
      | nil => have := congrArg List.length hq; simp at this; simp [cmpL]; omega
      | cons a r => have := congrArg List.length hq; simp at this; simp [cmpL]; omega
    rw [this] at hx
    simp -implicitDefEqProofs [hlt, w, hx]
/-! ### ascending numbers -/
theorem asc1_run {h : Hp} {a b : Int} : Ret P G n_impl_ascending_1 [.int .i64 a, .int .i64 b] h (.bool (decide (a < b))) h := by
  refine enter_run e_impl_ascending_1 (by simp) ?_
  simp -implicitDefEqProofs
theorem ins_sorted {us : List Int} {x : Int} {j : Nat} (hs : us.Pairwise (· ≤ ·)) (hj : j ≤ us.length) (h1 : ∀ t z, j ≤ t → us[t]? = some z → x < z) (h2 : ∀ z, 0 < j → us[j - 1]? = some z → z ≤ x) : (us.take j ++ x :: us.drop j).Pairwise (· ≤ ·) := by
  rw [List.pairwise_append, List.pairwise_cons]
  have hle : ∀ z ∈ us.take j, z ≤ x := fun z hz => by
    obtain ⟨i, hi⟩ := List.getElem?_of_mem hz
    rw [List.getElem?_take] at hi
    split at hi
    · rename_i hij
      obtain ⟨w, hw, _⟩ := drop_at (show j - 1 < us.length by omega)
      have h3 := h2 w (by omega) hw
      rcases Nat.lt_or_ge i (j - 1) with g | g
      · have h4 := List.pairwise_iff_getElem.1 hs i (j - 1) (List.getElem?_eq_some_iff.1 hi).1 (List.getElem?_eq_some_iff.1 hw).1 g
        rw [(List.getElem?_eq_some_iff.1 hi).2, (List.getElem?_eq_some_iff.1 hw).2] at h4
        omega
      · have : i = j - 1 := by omega
        subst this
        rw [hi] at hw; cases hw; exact h3
    · cases hi
  have hge : ∀ z ∈ us.drop j, x < z := fun z hz => by
    obtain ⟨i, hi⟩ := List.getElem?_of_mem hz
    rw [List.getElem?_drop] at hi
    exact h1 _ z (by omega) hi
  refine ⟨hs.sublist (List.take_sublist ..), ⟨fun z hz => Int.le_of_lt (hge z hz), hs.sublist (List.drop_sublist ..)⟩, fun a ha b hb => ?_⟩
  have := hle a ha
  rcases List.mem_cons.1 hb with rfl | hb
  · exact this
  · have := hge b hb; omega
theorem shift_set {us : List Int} {x : Int} {j : Nat} (hj : j ≤ us.length) : (((us ++ [0]).take (j + 1) ++ ((us ++ [0]).drop j).take ((us ++ [0]).length - (j + 1))).set j x) = us.take j ++ x :: us.drop j := by
  apply List.ext_getElem?
  intro i
  have hl : ((us ++ [0]).take (j + 1)).length = j + 1 := by simp; omega
  rw [List.getElem?_set]
  have htl : (us.take j).length = j := by simp; omega
  split
  · rename_i e
    subst e
    rw [if_pos (by simp; omega), List.getElem?_append_right (by omega), htl, Nat.sub_self]; rfl
  · rename_i hne
    rcases Nat.lt_or_ge i j with g | g
    · rw [List.getElem?_append_left (by omega), List.getElem?_append_left (by omega), List.getElem?_take, List.getElem?_take, if_pos (by omega), if_pos g, List.getElem?_append_left (by omega)]
    · rw [List.getElem?_append_right (by omega), List.getElem?_append_right (by omega), hl, htl, List.getElem?_take, List.getElem?_drop]
      rw [show i - j = (i - (j + 1)) + 1 by omega, List.getElem?_cons_succ, List.getElem?_drop]
      simp only [List.length_append, List.length_cons, List.length_nil]
      split
      · rw [List.getElem?_append_left (by omega)]
      · rw [List.getElem?_eq_none (by omega)]
theorem ascending_run {h : Hp} {v : Value} {xs : List Int} (hv : Ints h v xs) (hn : xs.length ≤ 2 ^ 20) :
    RunsC P G n_impl_ascending [v] h fun v' h' => h <+: h' ∧ ∃ ys : List Int, Own h.length h' v' 1 (ys.map encI) ∧ ys.Perm xs ∧ ys.Pairwise (· ≤ ·) := by
  have main : RunsC P G n_impl_sortedBy [v, .func (.func n_impl_ascending_1) #[] #[]] h fun v' h' => h <+: h' ∧ ∃ ys : List Int, Own h.length h' v' 1 (ys.map encI) ∧ ys.Perm xs ∧ ys.Pairwise (· ≤ ·) := by
    refine hideC fun K hK => enter_run e_impl_sortedBy (by simp) ?_
    have hvs := hv
    obtain ⟨oa, c, rfl⟩ := hv.shapeT
    simp -implicitDefEqProofs
    refine R_loopO (fun n st h' => ∃ (i : Nat) (u : Value) (us : List Int), i + n = xs.length ∧ st = [(1, .func (.func n_impl_ascending_1) #[] #[]), (5, u), (9, .slice oa xs.length c), (10, .int .i64 xs.length), (11, .int .i64 i)] ∧
      Holds h h' [.own u 1 (us.map encI)] ∧ us.Perm (xs.take i) ∧ us.Pairwise (· ≤ ·)) (fun I hI n st h' => ?_) ⟨0, _, [], Nat.zero_add _, by simp, own_nil Holds.start _ _ _, by simp, .nil⟩
    rintro ⟨i, u, us, hi, rfl, H, hp, hs⟩
    by_cases hlt : i < xs.length
    · obtain ⟨y, hy, hd⟩ := drop_at hlt
      have hul : us.length = i := by have := hp.length_eq; simp at this; omega
      have hus := H.sees 0 rfl
      obtain ⟨ou, cu, rfl⟩ : ∃ a c, u = .slice a i c := by obtain ⟨a, c, e⟩ := hus.shapeT; exact ⟨a, c, by rw [e, hul]⟩
      simp -implicitDefEqProofs [-indexAddrP_some, hlt, load_I (hvs.pre H.pre) hy]
      refine R_loopO (fun n st h2 => ∃ (j : Nat), j = n ∧ st = [(1, .func (.func n_impl_ascending_1) #[] #[]), (5, .slice ou i cu), (7, .int .i64 y), (8, .int .i64 j), (9, .slice oa xs.length c), (10, .int .i64 xs.length), (11, .int .i64 i)] ∧
        h2 = h' ∧ j ≤ us.length ∧ ∀ t z, j ≤ t → us[t]? = some z → y < z) (fun I2 hI2 m st h2 => ?_) ⟨i, rfl, by simp, rfl, by omega, fun t z ht hz => by have := (List.getElem?_eq_some_iff.1 hz).1; omega⟩
      rintro ⟨j, rfl, rfl, rfl, hj, hgt⟩
      have fin : (∀ z, 0 < j → us[j - 1]? = some z → z ≤ y) → ∃ v2 h3 dv mv nn h4 h5, appendP P (h2 ++ [some ⟨[.int .i64 0], 1, false⟩]) t_S_int (.slice ou i cu) (.slice (some ⟨h2.length, 0, some 1⟩) 1 1) = some (v2, h3) ∧
          sliceP P h3 t_S_int v2 (some (.int .i64 ((j : Int) + 1))) none = some dv ∧ sliceP P h3 t_S_int v2 (some (.int .i64 j)) none = some mv ∧ copyP P h3 t_S_int dv mv = some (.int .i64 nn, h4) ∧
          indexAddrP P h4 t_S_int v2 (.int .i64 j) = some (.pointer (some (addP (base v2) j))) ∧ storeP P h4 t_int (.int .i64 y) (.pointer (some (addP (base v2) j))) = some h5 ∧ Holds h h5 [.own v2 1 ((us.take j ++ y :: us.drop j).map encI)] ∧ (us.take j ++ y :: us.drop j).Perm (xs.take (i + 1)) ∧ (us.take j ++ y :: us.drop j).Pairwise (· ≤ ·) := fun hle => by
        obtain ⟨v2, h3, ha, H3, k3, _⟩ := push_I0 H 0 rfl (0 : Int) (by omega)
        obtain ⟨dv, mv, nn, h4, s1, s2, s3, H4, k4⟩ := H3.shift (P := P) 0 rfl (k := j) u_S_int i_int (ones_I _) (by simp; omega)
        have e1 : (((us ++ [0]).map encI).take (j + 1) ++ (((us ++ [0]).map encI).drop j).take (((us ++ [0]).map encI).length - (j + 1))) = ((us ++ [0]).take (j + 1) ++ ((us ++ [0]).drop j).take ((us ++ [0]).length - (j + 1))).map encI := by
          generalize us ++ [0] = ws
          rw [List.map_append, List.map_take, List.map_take, List.map_drop, List.length_map]
        rw [e1] at H4
        have hlen : ((us ++ [0]).take (j + 1) ++ ((us ++ [0]).drop j).take ((us ++ [0]).length - (j + 1))).length = i + 1 := by simp; omega
        obtain ⟨h5, s5, H5, k5⟩ := put_I H4 0 rfl (j := j) (by rw [hlen]; omega) y
        rw [shift_set hj] at H5
        obtain ⟨z, hz, _⟩ := drop_at (show j < ((us ++ [0]).take (j + 1) ++ ((us ++ [0]).drop j).take ((us ++ [0]).length - (j + 1))).length by rw [hlen]; omega)
        have ix := (load_I (H4.sees 0 rfl) hz).1
        refine ⟨v2, h3, dv, mv, nn, h4, h5, ha, s1, s2, s3, ix, s5, H5, ?_, ins_sorted hs hj hgt hle⟩
        rw [take_succ' hy]
        have p1 : (us.take j ++ y :: us.drop j).Perm (y :: (us.take j ++ us.drop j)) := List.perm_middle
        rw [List.take_append_drop] at p1
        exact p1.trans ((List.perm_append_comm (l₁ := [y]) (l₂ := us)).trans (hp.append_right [y]))
      have wj : IntKind.i64.wrap ((j : Int) + 1) = (j : Int) + 1 := by rw [wrap_ok] <;> omega
      by_cases h0 : 0 < j
      · obtain ⟨z, hz, _⟩ := drop_at (show j - 1 < us.length by omega)
        have w1 : IntKind.i64.wrap ((j : Int) - 1) = ((j - 1 : Nat) : Int) := by rw [wrap_ok] <;> omega
        have lz := load_I hus hz
        have h0' : (0 : Int) < j := by omega
        by_cases c1 : y < z
        · simp -implicitDefEqProofs [-indexAddrP_some, h0, h0', w1, lz, CL_ret asc1_run, c1]
          refine ⟨j - 1, by omega, on hI2 ⟨j - 1, rfl, rfl, rfl, by omega, fun t x ht hx => ?_⟩⟩
          rcases Nat.eq_or_lt_of_le ht with g | g
          · rw [← g, hz] at hx; cases hx; exact c1
          · exact hgt t x (by omega) hx
        · obtain ⟨v2, h3, dv, mv, nn, h4, h5, ha, s1, s2, s3, ix, s5, H5, hp5, hs5⟩ := fin (fun x _ hx => by rw [hz] at hx; cases hx; omega)
          simp -implicitDefEqProofs [-indexAddrP_some, h0, h0', w1, lz, CL_ret asc1_run, c1, ha, wj, s1, s2, s3, ix, s5, winc hlt (by omega)]
          exact ⟨n - 1, by omega, on hI ⟨i + 1, v2, _, by omega, rfl, H5, hp5, hs5⟩⟩
      · obtain ⟨v2, h3, dv, mv, nn, h4, h5, ha, s1, s2, s3, ix, s5, H5, hp5, hs5⟩ := fin (fun x h => absurd h h0)
        have h0' : ¬ (0 : Int) < j := by omega
        simp -implicitDefEqProofs [-indexAddrP_some, h0, h0', ha, wj, s1, s2, s3, ix, s5, winc hlt (by omega)]
        exact ⟨n - 1, by omega, on hI ⟨i + 1, v2, _, by omega, rfl, H5, hp5, hs5⟩⟩
    · rw [List.take_of_length_le (by omega)] at hp
      simp -implicitDefEqProofs [hlt]
      exact onK hK ⟨(H.ret 0 rfl).1, us, (H.ret 0 rfl).2, hp, hs⟩
  refine hideC fun K hK => enter_run e_impl_ascending (by simp) ?_
  simp -implicitDefEqProofs
  refine CL_post main fun v' h1 ⟨hp1, ys, ho, h2, h3⟩ => ?_
  simp -implicitDefEqProofs
  exact onK hK ⟨((Holds.start (h := h)).call hp1 ho).ret 0 rfl |>.1, ys, (((Holds.start (h := h)).call hp1 ho).ret 0 rfl).2, h2, h3⟩
end Go.Pm.PP

/- Job shops by the reference: tails. -/
set_option linter.unusedVariables false
set_option linter.unusedSimpArgs false
set_option maxRecDepth 4000
set_option maxHeartbeats 2000000
namespace Go.Pm.PP
open Go.Pm Go.Proofs Go.Pm.JS
/-! ### tails -/
theorem gstep_max {v : List Int} {e : Arc} (hx : e.x < v.length) : v.set e.x (max (gN v e.x) (e.w + gN v e.y)) = gstep v e := by
  unfold gstep
  split
  · rw [Int.add_comm e.w, Int.max_eq_right (by omega)]
  · rw [Int.max_eq_left (by omega)]
    apply list_eq (by simp)
    intro j
    rw [gN_set hx]; split
    · rename_i h; rw [h]
    · rfl
theorem gpass_cons {e : Arc} {A : List Arc} {v : List Int} : gpass (e :: A) v = gpass A (gstep v e) := rfl
/-- Tails, whatever the arcs are. -/
def tailsL (s : Shop) (ps : List (Nat × Nat)) : List Int := gpasses (tArcs (tsL s) ps) (opsL s).length (tsL s)
theorem l9Tails_run {h : Hp} {vr va : Value} {s : Shop} {ps : List (Nat × Nat)} (S : SAt h vr s) (A : Prs h va (ps.map cP)) (o : AsOk s ps) :
    RunsC P G n_spec_l9Tails [sv s vr, va] h fun v h' => h <+: h' ∧ Own h.length h' v 1 ((tailsL s ps).map encI) := by
  refine hideC fun K hK => enter_run e_spec_l9Tails (by simp) ?_
  have Ss := S
  have Ass := A
  obtain ⟨oa, c, rfl⟩ := S.shape
  obtain ⟨ob, d, rfl⟩ := A.shapeT
  rw [List.length_map] at *
  have on1 := o.n
  have ol := o.len
  have tl := ts_len (s := s)
  simp -implicitDefEqProofs
  refine CL_post (l9All_run (Ss.ext _)) fun v h1 ⟨hp1, ho⟩ => ?_
  have H1 := (Holds.start.alloc [.int .i64 s.m, .slice oa s.routes.length c] (h := h)).call hp1 ho
  obtain ⟨oc, e, rfl⟩ := ho.sees.shapeT
  obtain ⟨T, hT⟩ : ∃ T, T = tailsL s ps := ⟨_, rfl⟩
  rw [← hT] at hK
  rw [tailsL] at hT
  generalize hN : (opsL s).length = N at *
  simp -implicitDefEqProofs
  refine R_loopO (fun n st h' => ∃ (i : Nat) (u : Value), i + n = N ∧ st = [(1, .slice ob ps.length d), (5, .slice oc N e), (6, u), (7, .int .i64 i)] ∧
    Holds h h' [.box h.length [.int .i64 s.m, .slice oa s.routes.length c], .own (.slice oc N e) 2 ((opsL s).map encO), .own u 1 (((tsL s).take i).map encI)]) (fun I hI n st h' => ?_) ⟨0, _, Nat.zero_add _, by simp, own_nil H1 _ _ _⟩
  rintro ⟨i, u, hi, rfl, H⟩
  by_cases hlt : i < N
  · obtain ⟨y, hy, hty, ht1, ht2⟩ := o.time (i := i) (by rw [hN]; exact hlt)
    have hti : (tsL s)[i]? = some y.t := by rw [← hty]; exact gN_get (by rw [tl]; exact hlt)
    obtain ⟨v', h2, ha, H2, k, _⟩ := push_I0 H 2 rfl y.t (by simp; omega)
    rw [← take_succ' hti] at H2
    simp -implicitDefEqProofs [-indexAddrP_some, hlt, load_O (H.sees 1 rfl) hy, ha, winc hlt (by omega)]
    exact ⟨n - 1, by omega, on hI ⟨i + 1, _, by omega, rfl, H2⟩⟩
  · rw [List.take_of_length_le (by omega)] at H
    have hz := H.sees 2 rfl
    obtain ⟨oz, cz, rfl⟩ : ∃ oa c, u = .slice oa N c := by obtain ⟨a, b, e⟩ := hz.shapeT; exact ⟨a, b, by rw [e, tl]⟩
    simp -implicitDefEqProofs [hlt]
    refine R_loopO (fun n st h' => ∃ (r : Nat) (v : List Int), r + n = N ∧ st = [(1, .slice ob ps.length d), (5, .slice oc N e), (6, .slice oz N cz), (8, .int .i64 r)] ∧
      Holds h h' [.box h.length [.int .i64 s.m, .slice oa s.routes.length c], .own (.slice oc N e) 2 ((opsL s).map encO), .own (.slice oz N cz) 1 (v.map encI)] ∧ v.length = N ∧ Bd (r * ps.length + 1) v ∧ T = gpasses (tArcs (tsL s) ps) n v) (fun I hI n st h' => ?_) ⟨0, tsL s, Nat.zero_add _, by simp, H, tl, ?_, hT⟩
    · rintro ⟨r, v, hr, rfl, H, hvl, hb, hx⟩
      by_cases hlt : r < N
      · obtain ⟨m0, rfl⟩ : ∃ m0, n = m0 + 1 := ⟨n - 1, by omega⟩
        rw [gpasses] at hx
        have hrk : r * ps.length ≤ 2 ^ 20 * 2 ^ 22 := Nat.mul_le_mul (by omega) ol
        simp -implicitDefEqProofs [hlt]
        refine R_loopO (fun n st h' => ∃ (i : Nat) (v' : List Int), i + n = ps.length ∧ st = [(1, .slice ob ps.length d), (5, .slice oc N e), (6, .slice oz N cz), (8, .int .i64 r), (9, .int .i64 i)] ∧
          Holds h h' [.box h.length [.int .i64 s.m, .slice oa s.routes.length c], .own (.slice oc N e) 2 ((opsL s).map encO), .own (.slice oz N cz) 1 (v'.map encI)] ∧ v'.length = N ∧ Bd (r * ps.length + i + 1) v' ∧ gpass (tArcs (tsL s) ps) v = gpass (tArcs (tsL s) (ps.drop i)) v') (fun I2 hI2 n st h' => ?_) ⟨0, v, Nat.zero_add _, by simp, H, hvl, hb, by simp⟩
        rintro ⟨i, v', hi, rfl, H3, hvl', hb', hf⟩
        by_cases hlt2 : i < ps.length
        · obtain ⟨p, hp, hd⟩ := drop_at hlt2
          obtain ⟨a, b⟩ := p
          have hab := o.lt (a, b) (List.mem_of_getElem? hp)
          simp only [] at hab
          rw [hN] at hab
          obtain ⟨y, hy, hty, ht1, ht2⟩ := o.time (i := a) (by rw [hN]; exact hab.1)
          have hQ := load_Q (Ass.pre H3.pre) (x := ((a : Int), (b : Int))) (i := i) (by simp [hp, cP])
          have hA1 := load_I (H3.sees 2 rfl) (gN_get (v := v') (i := a) (by omega))
          have hB1 := load_I (H3.sees 2 rfl) (gN_get (v := v') (i := b) (by omega))
          have hT1 := load_O (H3.sees 1 rfl) hy
          have bb := hb' b
          have wA : IntKind.i64.wrap (y.t + gN v' b) = y.t + gN v' b := by rw [wrap_ok] <;> omega
          rw [hd, tArcs_cons, gpass_cons, hty, ← gstep_max (by rw [hvl']; exact hab.1)] at hf
          have hst := hb'.step (e := ⟨a, b, y.t⟩) (by rw [hvl']; exact hab.1) ht1 ht2
          rw [← gstep_max (by rw [hvl']; exact hab.1)] at hst
          obtain ⟨h4, hs4, H4, k4⟩ := put_I H3 2 rfl (j := a) (by omega) (max (gN v' a) (y.t + gN v' b))
          simp -implicitDefEqProofs [-indexAddrP_some, hlt2, hQ, hA1, hB1, hT1, wA, CL_ret l1Most_run, CH_at l1Most_run, hs4, winc hlt2 (by omega)]
          exact ⟨n - 1, by omega, on hI2 ⟨i + 1, _, by omega, rfl, H4, by simp [hvl'], hst.mono (by omega), hf⟩⟩
        · rw [List.drop_eq_nil_of_le (by omega)] at hf
          have hf' : gpass (tArcs (tsL s) ps) v = v' := hf
          rw [hf'] at hx
          have hrn := hb'.mono (d := (r + 1) * ps.length + 1) (by rw [Nat.succ_mul]; omega)
          simp -implicitDefEqProofs [hlt2, winc hlt (by omega)]
          exact ⟨m0, by omega, on hI ⟨r + 1, v', by omega, rfl, H3, hvl', hrn, hx⟩⟩
      · have hn0 : n = 0 := by omega
        subst hn0
        rw [gpasses] at hx
        subst hx
        simp -implicitDefEqProofs [hlt]
        exact onK hK (H.ret 2 rfl)
    · intro j
      rw [Nat.zero_mul]
      rcases Nat.lt_or_ge j (tsL s).length with g | g
      · have := o.t _ (gN_mem g); omega
      · rw [gN_out g]; omega
theorem l2Last_run {h : Hp} {v : Value} {xs : List Int} (hv : Ints h v xs) (hn : xs.length ≤ 2 ^ 40) : Ret P G n_spec_l2Last [v] h (.int .i64 (mx xs)) h := by
  refine enter_run e_spec_l2Last (by simp) ?_
  have hvs := hv
  obtain ⟨oa, c, rfl⟩ := hv.shapeT
  simp -implicitDefEqProofs
  refine R_loopO (fun n st h' => ∃ (i : Nat) (a : Int), i + n = xs.length ∧ st = [(0, .slice oa xs.length c), (3, .int .i64 a), (4, .int .i64 i)] ∧ h' = h ∧ mx xs = (xs.drop i).foldl max a) (fun I hI n st h' => ?_) ⟨0, 0, Nat.zero_add _, by simp, rfl, by simp [mx]⟩
  rintro ⟨i, a, hi, rfl, rfl, hx⟩
  by_cases hlt : i < xs.length
  · obtain ⟨y, hy, hd⟩ := drop_at hlt
    rw [hd, List.foldl_cons] at hx
    simp -implicitDefEqProofs [-indexAddrP_some, hlt, load_I hvs hy, CL_ret l1Most_run, winc hlt hn]
    exact ⟨n - 1, by omega, on hI ⟨i + 1, _, by omega, rfl, rfl, hx⟩⟩
  · rw [List.drop_eq_nil_of_le (by omega), List.foldl_nil] at hx
    simp -implicitDefEqProofs [hlt, hx]
theorem l9Length_run {h : Hp} {vr va : Value} {s : Shop} {ps : List (Nat × Nat)} (S : SAt h vr s) (A : Prs h va (ps.map cP)) (o : AsOk s ps) :
    Ret P G n_spec_l9Length [sv s vr, va] h (.int .i64 (mx (tailsL s ps))) h := by
  refine enter_run e_spec_l9Length (by simp) ?_
  have Ss := S
  have Ass := A
  obtain ⟨oa, c, rfl⟩ := S.shape
  have on1 := o.n
  have tl : (tailsL s ps).length = (opsL s).length := by rw [tailsL, gpasses_len, ts_len]
  obtain ⟨ob, d, rfl⟩ := A.shapeT
  rw [List.length_map] at *
  simp -implicitDefEqProofs
  refine CL_post (l9Tails_run (Ss.ext _) (Ass.ext _) o) fun v h1 ⟨hp1, ho⟩ => ?_
  have r := l2Last_run ho.sees (by omega)
  simp -implicitDefEqProofs [CL_ret r]
  exact gcI ((List.prefix_append ..).trans hp1)
end Go.Pm.PP

/- Job shops by the reference: heads, tails and lengths of selections. -/
set_option linter.unusedVariables false
set_option linter.unusedSimpArgs false
set_option maxRecDepth 4000
set_option maxHeartbeats 2000000
namespace Go.Pm.PP
open Go.Pm Go.Proofs Go.Pm.JS
theorem psL_map {s : Shop} {oss : List (List Int)} (hs : SelGo s 0 oss) : (psL s oss).map cP = nxL s ++ arcsL oss := by
  rw [psL, List.map_map]
  conv => rhs; rw [← List.map_id (nxL s ++ arcsL oss)]
  refine List.map_congr_left fun p hp => ?_
  obtain ⟨a, b, rfl, _, _⟩ := psL_all hs p hp
  rfl
theorem AsOk.of {s : Shop} {oss : List (List Int)} (hg : goodS s = true) (hs : SelGo s 0 oss) (ho : cntN oss ≤ 2 ^ 20) : AsOk s (psL s oss) := by
  have hn := (good_n hg).1
  refine ⟨by rw [ops_len]; omega, fun x hx => ?_, fun p hp => ?_, ?_⟩
  · obtain ⟨y, hy, rfl⟩ := List.mem_map.1 hx
    exact good_t hg y hy
  · obtain ⟨q, hq, rfl⟩ := List.mem_map.1 hp
    obtain ⟨a, b, rfl, h1, h2⟩ := psL_all hs q hq
    exact ⟨by simpa [natP] using h1, by simpa [natP] using h2⟩
  · rw [psL, List.length_map, List.length_append]
    have h1 := nx_len (s := s)
    have h2 : (arcsL oss).length ≤ cntN oss := arcs_len
    omega
theorem sel2_iff {s : Shop} {oss : List (List Int)} : sel2 s oss = true ↔ goodS s = true ∧ (oss.length : Int) = s.m ∧ SelGo s 0 oss := by
  rw [sel2, selS, Bool.and_eq_true, Bool.and_eq_true, selGo_iff, decide_eq_true_eq]
/-- The heads of an acyclic selection. -/
noncomputable def headsO (s : Shop) (oss : List (List Int)) : Option (List Int) :=
  if sel2 s oss = true then rounds (hArcs (tsL s) (psL s oss)) ((opsL s).length + 1) (zerosN (opsL s).length) else none
section
variable {h : Hp} {vr vo : Value} {s : Shop} {oss : List (List Int)}
theorem IsAcyclic_run (S : SAt h vr s) (O : OAt h vo oss) : Ret P G n_spec_IsAcyclic [sv s vr, vo] h (.tuple #[.bool (headsO s oss).isSome, .bool (sel2 s oss)]) h := by
  refine enter_run e_spec_IsAcyclic (by simp) ?_
  have Ss := S
  have Os := O
  obtain ⟨oa, c, rfl⟩ := S.shape
  obtain ⟨ob, d, rfl⟩ := O.shape
  have r1 := fun l => l9Selected_run (Ss.ext l) (Os.ext l)
  cases c1 : sel2 s oss
  · simp -implicitDefEqProofs [CL_ret (r1 _), c1, headsO]
  · obtain ⟨hg, hm, hs⟩ := sel2_iff.1 c1
    have ao := AsOk.of hg hs Os.tot
    simp -implicitDefEqProofs [CL_ret (r1 _), c1]
    refine CH_post (l9Arcs_run (Ss.ext _) (Os.ext _)).new fun v h1 ⟨⟨hp1, ho⟩, hn⟩ => ⟨hn hp1, ?_⟩
    rw [← psL_map hs] at ho
    have p1 : h <+: h1 := (List.prefix_append ..).trans hp1
    simp -implicitDefEqProofs
    refine CH_post (l9Starts_run (Ss.pre p1) ho.sees ao).new fun v h2 ⟨⟨hp2, vs, us, hv, _⟩, hn2⟩ => ⟨hn2 hp2, ?_⟩
    subst hv
    simp -implicitDefEqProofs [headsO, c1]
    exact gcP (p1.trans hp2) rfl
theorem l9Open_run (S : SAt h vr s) (O : OAt h vo oss) : Ret P G n_spec_l9Open [sv s vr, vo] h (.bool (headsO s oss).isSome) h := by
  refine enter_run e_spec_l9Open (by simp) ?_
  have Ss := S
  have Os := O
  obtain ⟨oa, c, rfl⟩ := S.shape
  obtain ⟨ob, d, rfl⟩ := O.shape
  have r1 := fun l => IsAcyclic_run (Ss.ext l) (Os.ext l)
  cases c1 : sel2 s oss
  · simp -implicitDefEqProofs [CL_ret (r1 _), c1, headsO]
  · cases c2 : (headsO s oss).isSome <;> simp -implicitDefEqProofs [CL_ret (r1 _), c1, c2]
/-- What is returned with a list. -/
def retL (x : Option (List Int)) (v : Value) (b : Nat) (h' : Hp) : Prop := ∃ u, v = .tuple #[u, .bool x.isSome] ∧ Own b h' u 1 ((x.getD []).map encI)
theorem l9Heads_run (S : SAt h vr s) (O : OAt h vo oss) {us : List Int} (hs : headsO s oss = some us) : RunsC P G n_spec_l9Heads [sv s vr, vo] h fun v h' => h <+: h' ∧ Own h.length h' v 1 (us.map encI) := by
  refine hideC fun K hK => enter_run e_spec_l9Heads (by simp) ?_
  have Ss := S
  have Os := O
  obtain ⟨oa, c, rfl⟩ := S.shape
  obtain ⟨ob, d, rfl⟩ := O.shape
  have c1 : sel2 s oss = true := by
    unfold headsO at hs; split at hs
    · assumption
    · cases hs
  obtain ⟨hg, hm, hsl⟩ := sel2_iff.1 c1
  have ao := AsOk.of hg hsl Os.tot
  rw [headsO, if_pos c1] at hs
  have H0 := Holds.start.alloc [.int .i64 s.m, .slice oa s.routes.length c] (h := h)
  simp -implicitDefEqProofs
  refine CH_post (l9Arcs_run (Ss.ext _) (Os.ext _)).new fun v h1 ⟨⟨hp1, ho⟩, hn⟩ => ⟨hn hp1, ?_⟩
  rw [← psL_map hsl] at ho
  have H1 := H0.ext hp1
  simp -implicitDefEqProofs
  refine CH_post (l9Starts_run (Ss.pre H1.pre) ho.sees ao).new fun v h2 ⟨⟨hp2, vs, us', hv, hw, _, hu⟩, hn2⟩ => ⟨hn2 hp2, ?_⟩
  subst hv
  have e := hu us hs
  subst e
  have H2 := H1.call hp2 hw
  simp -implicitDefEqProofs
  exact onK hK (H2.ret 1 rfl)
theorem specHeadsOf_run (S : SAt h vr s) (O : OAt h vo oss) : RunsC P G n_spec_HeadsOf [sv s vr, vo] h fun v h' => h <+: h' ∧ retL (headsO s oss) v h.length h' := by
  refine hideC fun K hK => enter_run e_spec_HeadsOf (by simp) ?_
  have Ss := S
  have Os := O
  obtain ⟨oa, c, rfl⟩ := S.shape
  obtain ⟨ob, d, rfl⟩ := O.shape
  have r1 := fun l => l9Open_run (Ss.ext l) (Os.ext l)
  have H0 := Holds.start.alloc [.int .i64 s.m, .slice oa s.routes.length c] (h := h)
  cases c2 : headsO s oss with
  | none =>
    simp -implicitDefEqProofs [CL_ret (r1 _), c2]
    exact onK hK ⟨pre_gcU H0.pre, _, by rw [c2]; rfl, by rw [c2]; exact Own.nil⟩
  | some us =>
    simp -implicitDefEqProofs [CL_ret (r1 _), c2]
    refine CL_post (l9Heads_run (Ss.ext _) (Os.ext _) c2) fun v h1 ⟨hp1, ho⟩ => ?_
    have H1 := H0.call hp1 ho
    simp -implicitDefEqProofs
    exact onK hK ⟨(H1.ret2 1 rfl).1, _, by rw [c2]; rfl, by rw [c2]; exact (H1.ret2 1 rfl).2⟩
noncomputable def tailsO (s : Shop) (oss : List (List Int)) : Option (List Int) := (headsO s oss).map fun _ => tailsL s (psL s oss)
theorem specOpTails_run (S : SAt h vr s) (O : OAt h vo oss) : RunsC P G n_spec_OpTails [sv s vr, vo] h fun v h' => h <+: h' ∧ retL (tailsO s oss) v h.length h' := by
  refine hideC fun K hK => enter_run e_spec_OpTails (by simp) ?_
  have Ss := S
  have Os := O
  obtain ⟨oa, c, rfl⟩ := S.shape
  obtain ⟨ob, d, rfl⟩ := O.shape
  have r1 := fun l => l9Open_run (Ss.ext l) (Os.ext l)
  have H0 := Holds.start.alloc [.int .i64 s.m, .slice oa s.routes.length c] (h := h)
  cases c2 : headsO s oss with
  | none =>
    simp -implicitDefEqProofs [CL_ret (r1 _), c2]
    exact onK hK ⟨pre_gcU H0.pre, _, by rw [tailsO, c2]; rfl, by rw [tailsO, c2]; exact Own.nil⟩
  | some us =>
    have c1 : sel2 s oss = true := by
      unfold headsO at c2; split at c2
      · assumption
      · cases c2
    obtain ⟨hg, hm, hsl⟩ := sel2_iff.1 c1
    have ao := AsOk.of hg hsl Os.tot
    simp -implicitDefEqProofs [CL_ret (r1 _), c2]
    refine CH_post (l9Arcs_run (Ss.ext _) (Os.ext _)).new fun v h1 ⟨⟨hp1, ho⟩, hn⟩ => ⟨hn hp1, ?_⟩
    rw [← psL_map hsl] at ho
    have H1 := H0.ext hp1
    simp -implicitDefEqProofs
    refine CL_post (l9Tails_run (Ss.pre H1.pre) ho.sees ao) fun v h2 ⟨hp2, hw⟩ => ?_
    have H2 := H1.call hp2 hw
    simp -implicitDefEqProofs
    exact onK hK ⟨(H2.ret2 1 rfl).1, _, by rw [tailsO, c2]; rfl, by rw [tailsO, c2]; exact (H2.ret2 1 rfl).2⟩
noncomputable def lenO (s : Shop) (oss : List (List Int)) : Int := match tailsO s oss with | some T => mx T | none => 0
theorem specShopLength_run (S : SAt h vr s) (O : OAt h vo oss) : Ret P G n_spec_ShopLength [sv s vr, vo] h (.tuple #[.int .i64 (lenO s oss), .bool (tailsO s oss).isSome]) h := by
  refine enter_run e_spec_ShopLength (by simp) ?_
  have Ss := S
  have Os := O
  obtain ⟨oa, c, rfl⟩ := S.shape
  obtain ⟨ob, d, rfl⟩ := O.shape
  have r1 := fun l => l9Open_run (Ss.ext l) (Os.ext l)
  cases c2 : headsO s oss with
  | none => simp -implicitDefEqProofs [CL_ret (r1 _), c2, tailsO, lenO]
  | some us =>
    have c1 : sel2 s oss = true := by
      unfold headsO at c2; split at c2
      · assumption
      · cases c2
    obtain ⟨hg, hm, hsl⟩ := sel2_iff.1 c1
    have ao := AsOk.of hg hsl Os.tot
    simp -implicitDefEqProofs [CL_ret (r1 _), c2]
    refine CH_post (l9Arcs_run (Ss.ext _) (Os.ext _)).new fun v h1 ⟨⟨hp1, ho⟩, hn⟩ => ⟨hn hp1, ?_⟩
    rw [← psL_map hsl] at ho
    have p1 : h <+: h1 := (List.prefix_append ..).trans hp1
    have r2 := l9Length_run (Ss.pre p1) ho.sees ao
    simp -implicitDefEqProofs [CL_ret r2, CH_at r2, tailsO, c2, lenO]
    exact gcP p1 rfl
end
end Go.Pm.PP

/- Job shops by the program: selections, arcs, ends. -/
set_option linter.unusedVariables false
set_option linter.unusedSimpArgs false
set_option maxRecDepth 4000
set_option maxHeartbeats 2000000
namespace Go.Pm.PP
open Go.Pm Go.Proofs Go.Pm.JS
theorem sorted_perm_eq : ∀ {l m : List Int}, l.Pairwise (· ≤ ·) → m.Pairwise (· ≤ ·) → l.Perm m → l = m
  | [], m, _, _, hp => hp.nil_eq
  | x :: l, [], _, _, hp => by have := hp.length_eq; simp at this
  | x :: l, y :: m, hl, hm, hp => by
    have h1 := List.pairwise_cons.1 hl
    have h2 := List.pairwise_cons.1 hm
    have e : x = y := by
      have g1 : x ∈ y :: m := hp.mem_iff.1 (List.mem_cons_self ..)
      have g2 : y ∈ x :: l := hp.mem_iff.2 (List.mem_cons_self ..)
      rcases List.mem_cons.1 g1 with h | h
      · exact h
      · rcases List.mem_cons.1 g2 with h' | h'
        · exact h'.symm
        · have := h2.1 x h; have := h1.1 y h'; omega
    subst e
    rw [sorted_perm_eq h1.2 h2.2 ((List.perm_cons x).1 hp)]
theorem arGo_iff {n : Int} (hn : w64 (n - 1) = n - 1) : ∀ {xs us : List Int}, arGo n us xs = true ↔ (∀ x ∈ xs, 0 ≤ x ∧ x < n) ∧ xs.Nodup ∧ ∀ x ∈ xs, x ∉ us
  | [], us => by simp [arGo]
  | x :: r, us => by
    rw [arGo, Bool.and_eq_true, Bool.and_eq_true, arGo_iff hn, hn]
    simp only [inB, Bool.and_eq_true, decide_eq_true_eq, Bool.not_eq_true', List.mem_cons, List.nodup_cons, List.mem_append, List.not_mem_nil, or_false, not_or]
    have hh : hasL x us = false ↔ x ∉ us := by rw [← hasL_mem]; simp
    rw [hh]
    constructor
    · rintro ⟨⟨h1, h2⟩, h3, h4, h5⟩
      refine ⟨fun y hy => ?_, ⟨fun hx => (h5 x hx).2 rfl, h4⟩, fun y hy => ?_⟩
      · rcases hy with rfl | hy
        · omega
        · exact h3 y hy
      · rcases hy with rfl | hy
        · exact h2
        · exact (h5 y hy).1
    · rintro ⟨h1, ⟨h2, h3⟩, h4⟩
      refine ⟨⟨by have := h1 x (.inl rfl); omega, h4 x (.inl rfl)⟩, fun y hy => h1 y (.inr hy), h3, fun y hy => ⟨h4 y (.inr hy), fun e => h2 (by rw [← e]; exact hy)⟩⟩
/-- What the program asks of the list of a machine is what the reference asks. -/
theorem sel_same {s : Shop} {k : Nat} {o : List Int} (hN : (opsL s).length ≤ 2 ^ 20) : ((onL s k).Perm o → arGo (opsL s).length [] o = true) ∧
    ∀ ys : List Int, ys.Perm o → ys.Pairwise (· ≤ ·) → ((onL s k).Perm o ↔ ys = onL s k) := by
  refine ⟨fun hp => ?_, fun ys hy hs => ⟨fun hp => ?_, fun e => ?_⟩⟩
  · rw [arGo_iff (by unfold w64; rw [wrap_ok] <;> omega)]
    refine ⟨fun x hx => ?_, hp.nodup_iff.1 onL_nodup, fun x _ => by simp⟩
    obtain ⟨j, rfl, h⟩ := onL_mem (hp.mem_iff.2 hx)
    omega
  · exact sorted_perm_eq hs (onGo_sorted.imp fun h => Int.le_of_lt h) (hy.trans hp.symm)
  · rw [← e]; exact hy
theorem isSelection_run {h : Hp} {vr vo : Value} {s : Shop} {oss : List (List Int)} (S : SAt h vr s) (O : OAt h vo oss) (hg : goodS s = true) : Ret P G n_impl_isSelection [sv s vr, vo] h (.bool (selS s oss)) h := by
  refine enter_run e_impl_isSelection (by simp) ?_
  have Ss := S
  have Os := O
  obtain ⟨oa, c, rfl⟩ := S.shape
  obtain ⟨ob, d, rfl⟩ := O.shape
  have rn := Os.rn
  have hN : (opsL s).length ≤ 12 := by rw [ops_len]; exact (good_n hg).1
  by_cases c1 : (oss.length : Int) = s.m
  · have hsel : selS s oss = selGo s 0 oss := by simp [selS, c1]
    rw [hsel]
    have rf := flatOf_run (Ss.ext [some ⟨[.int .i64 s.m, .slice oa s.routes.length c], 0, false⟩])
    rw [sv, ← c1] at rf
    simp -implicitDefEqProofs [c1]
    rw [← c1]
    refine CL_post rf fun v h1 ⟨fo, ft, fi, hv, C1⟩ => ?_
    have hp1 := C1.pre
    subst hv
    have H1 := ((((Holds.start.alloc [.int .i64 oss.length, .slice oa s.routes.length c] (h := h)).ext hp1).alloc [fo, ft, fi]))
    have F1 : FAt h1 fo ft fi (flatF s) := ⟨C1.sees 0 rfl, C1.sees 1 rfl, C1.sees 2 rfl⟩
    obtain ⟨⟨oo, co, rfl⟩, ⟨ot, ct, rfl⟩, oi, ci, rfl⟩ := F1.shapes
    rw [show (flatF s).ops.length = (opsL s).length from rfl] at *
    have hr1 := hp1.length_le
    simp -implicitDefEqProofs
    refine R_loopO (fun n st h' => ∃ i : Nat, i + n = oss.length ∧ st = [(5, .pointer (some ⟨h1.length, 0, some 3⟩)), (15, .slice ob oss.length d), (16, .int .i64 oss.length), (17, .int .i64 i)] ∧
      Holds h h' [.box h.length [.int .i64 oss.length, .slice oa s.routes.length c], .box h1.length [.slice oo (opsL s).length co, .slice ot (flatF s).rt.length ct, .slice oi (flatF s).ix.length ci]] ∧ h1 <+: h' ∧ selGo s 0 oss = selGo s i (oss.drop i)) (fun I hI n st h' => ?_) ⟨0, Nat.zero_add _, by simp, H1, List.prefix_append .., by simp⟩
    rintro ⟨i, hi, rfl, H, hp, hx⟩
    by_cases hlt : i < oss.length
    · obtain ⟨y, hy, hd⟩ := drop_at hlt
      rw [hd] at hx
      obtain ⟨oc, e, hY, hyn, g⟩ := Os.at hy
      have hY2 := hY.pre H.pre
      have ra := areDifferent_run (n := (opsL s).length) hY2 (by omega)
      obtain ⟨s1, s2⟩ := sel_same (s := s) (k := i) (o := y) (by omega)
      have hsg : selGo s 0 oss = true ↔ (onL s i).Perm y ∧ selGo s (i + 1) (oss.drop (i + 1)) = true := by
        rw [hx, selGo_iff, SelGo, ← selGo_iff]
      have hw := winc hlt (show oss.length ≤ 2 ^ 40 by omega)
      cases c2 : arGo (opsL s).length [] y
      · have hf : selGo s 0 oss = false := by
          rw [← Bool.not_eq_true]; intro h
          have := s1 (hsg.1 h).1
          rw [c2] at this; cases this
        simp -implicitDefEqProofs [-indexAddrP_some, hlt, g h' H.pre, H.bl 1 3 rfl rfl, CH_at ra, c2, hf, gcB H.pre]
      · simp -implicitDefEqProofs [-indexAddrP_some, hlt, g h' H.pre, H.bl 1 3 rfl rfl, CH_at ra, c2]
        refine CH_post (ascending_run hY2 hyn).new fun v h2 ⟨⟨hp2, ys, hO, hys, hso⟩, hn2⟩ => ⟨hn2 hp2, ?_⟩
        have H2 := H.call hp2 hO
        have F2 : FAt h2 _ _ _ (flatF s) := F1.pre (hp.trans hp2)
        simp -implicitDefEqProofs [H2.bl 1 3 rfl rfl]
        refine CL_post (on_run (m := (i : Int)) F2 (by show (opsL s).length ≤ _; omega)) fun v3 h3 ⟨hp3, hO3⟩ => ?_
        have H3 := H2.call hp3 hO3
        have hyl := hys.length_eq
        have hall := (arGo_iff (by unfold w64; rw [wrap_ok] <;> omega)).1 c2
        have rc := compareLists_run (H3.sees 2 rfl) (H3.sees 3 rfl) (by omega) (Nat.le_trans onGo_len (by show (opsL s).length ≤ _; omega))
          (fun x hx => by have := hall.1 x (hys.mem_iff.1 hx); omega) (fun x hx => by
            obtain ⟨j, rfl, h⟩ := onL_mem (s := s) hx
            omega)
        cases c3 : (cmpL ys (onGo (i : Int) (flatF s).ops 0) != 0)
        · have he0 : cmpL ys (onGo (i : Int) (flatF s).ops 0) = 0 := by simpa using c3
          have he : ys = onL s i := cmpL_zero.1 he0
          have hx2 : selGo s 0 oss = selGo s (i + 1) (oss.drop (i + 1)) := by
            rw [Bool.eq_iff_iff, hsg]
            exact ⟨fun h => h.2, fun h => ⟨(s2 ys hys hso).2 he, h⟩⟩
          simp -implicitDefEqProofs [CL_ret rc, c3, hw]
          exact ⟨n - 1, by omega, on hI ⟨i + 1, by omega, rfl, H3.take 2, hp.trans (hp2.trans hp3), hx2⟩⟩
        · have hf : selGo s 0 oss = false := by
            rw [← Bool.not_eq_true]; intro h
            have := cmpL_zero.2 ((s2 ys hys hso).1 (hsg.1 h).1)
            rw [show cmpL ys (onGo (i : Int) (flatF s).ops 0) = 0 from this] at c3
            simp at c3
          simp -implicitDefEqProofs [CL_ret rc, c3, hf, gcB H3.pre]
    · rw [List.drop_eq_nil_of_le (by omega), selGo] at hx
      simp -implicitDefEqProofs [hlt, hx, gcB H.pre]
  · simp -implicitDefEqProofs [c1, nt c1, selS]
/-! ### arcs -/
theorem arcsOf_run {h : Hp} {vo : Value} {oss : List (List Int)} (O : OAt h vo oss) : RunsC P G n_impl_arcsOf [vo] h fun v h' => h <+: h' ∧ Own h.length h' v 2 ((arcsL oss).map encQ) := by
  refine hideC fun K hK => enter_run e_impl_arcsOf (by simp) ?_
  have Os := O
  obtain ⟨ob, d, rfl⟩ := O.shape
  have rn := Os.rn
  have otot := Os.tot
  have al : (arcsL oss).length ≤ cntN oss := arcs_len
  obtain ⟨R, hR⟩ : ∃ R, R = arcsL oss := ⟨_, rfl⟩
  have hRl : R.length ≤ 2 ^ 40 := by rw [hR]; omega
  rw [← hR] at hK
  simp -implicitDefEqProofs
  refine R_loopO (fun n st h' => ∃ (i : Nat) (u : Value) (us : List (Int × Int)), i + n = oss.length ∧ st = [(3, u), (7, .slice ob oss.length d), (8, .int .i64 oss.length), (9, .int .i64 i)] ∧ Holds h h' [.own u 2 (us.map encQ)] ∧ R = us ++ arcsL (oss.drop i)) (fun I hI n st h' => ?_) ⟨0, _, [], Nat.zero_add _, by simp, own_nil Holds.start _ _ _, by simpa using hR⟩
  rintro ⟨i, u, us, hi, rfl, H, hx⟩
  by_cases hlt : i < oss.length
  · obtain ⟨y, hy, hd⟩ := drop_at hlt
    rw [hd, arcsL, List.map_cons, List.flatten_cons] at hx
    obtain ⟨oc, e, hY, hyn, g⟩ := Os.at hy
    simp -implicitDefEqProofs [-indexAddrP_some, hlt, g h' H.pre]
    refine R_loopO (fun m st h2 => ∃ (j : Nat) (u : Value) (us : List (Int × Int)), j + m = y.length ∧ st = [(3, u), (5, .slice oc y.length e), (6, .int .i64 ((j : Int) + 1)), (7, .slice ob oss.length d), (8, .int .i64 oss.length), (9, .int .i64 i)] ∧ Holds h h2 [.own u 2 (us.map encQ)] ∧ R = us ++ (nbr (y.drop j) ++ arcsL (oss.drop (i + 1)))) (fun I2 hI2 m st h2 => ?_) (n := y.length) ⟨0, _, us, Nat.zero_add _, by simp, H, by rw [arcsL]; simpa using hx⟩
    rintro ⟨j, u, us, hj, rfl, H, hx⟩
    have hus : us.length ≤ 2 ^ 40 := by
      have := congrArg List.length hx
      rw [List.length_append] at this; omega
    have hY2 := hY.pre H.pre
    by_cases hlt2 : j + 1 < y.length
    · obtain ⟨a, ha, hda⟩ := drop_at (show j < y.length by omega)
      obtain ⟨b, hb, hdb⟩ := drop_at hlt2
      rw [hda, hdb, nbr, ← hdb] at hx
      have lb := load_I hY2 hb
      rw [show ((j + 1 : Nat) : Int) = (j : Int) + 1 from rfl] at lb
      have hlt' : (j : Int) + 1 < y.length := by omega
      have w1 : IntKind.i64.wrap ((j : Int) + 1 - 1) = (j : Int) := by rw [wrap_ok] <;> omega
      have w2 : IntKind.i64.wrap ((j : Int) + 1 + 1) = (j : Int) + 1 + 1 := by rw [wrap_ok] <;> omega
      have w1' : IntKind.i64.wrap (j : Int) = (j : Int) := by rw [wrap_ok] <;> omega
      obtain ⟨v', h3, hap, H2, k, _⟩ := push_Q0 H 0 rfl (a, b) hus
      simp -implicitDefEqProofs [-indexAddrP_some, hlt', load_I hY2 ha, lb, hap, w1, w1', w2]
      exact ⟨m - 1, by omega, on hI2 ⟨j + 1, v', us ++ [(a, b)], by omega, rfl, H2, by simpa using hx⟩⟩
    · have hlt' : ¬ (j : Int) + 1 < y.length := by omega
      have hn : nbr (y.drop j) = [] := by
        have : (y.drop j).length ≤ 1 := by rw [List.length_drop]; omega
        match y.drop j, this with
        | [], _ => rfl
        | [a], _ => rfl
        | a :: b :: r, h => simp at h
      rw [hn, List.nil_append] at hx
      simp -implicitDefEqProofs [-indexAddrP_some, hlt', winc hlt (by omega)]
      exact ⟨n - 1, by omega, on hI ⟨i + 1, u, us, by omega, rfl, H, hx⟩⟩
  · rw [List.drop_eq_nil_of_le (by omega), show arcsL [] = [] from rfl, List.append_nil] at hx
    subst hx
    simp -implicitDefEqProofs [hlt]
    exact onK hK (H.ret 0 rfl)
theorem ite_max {a b : Int} : (if a < b then b else a) = max a b := by rw [Int.max_def]; split <;> split <;> omega
theorem boundOf_run {h : Hp} {vo vr vi vh : Value} {f : Flat} {us : List Int} (F : FAt h vo vr vi f) (U : Ints h vh us) (hl : us.length = f.ops.length) (hn : us.length ≤ 2 ^ 40) (hb : ∀ x ∈ us, 0 ≤ x ∧ x ≤ 2 ^ 60) (ht : ∀ y ∈ f.ops, 0 ≤ y.t ∧ y.t ≤ 20) :
    Ret P G n_impl_flat_boundOf [fv vo vr vi, vh] h (.int .i64 (mx (JS.ends us (f.ops.map (·.t))))) h := by
  refine enter_run e_impl_flat_boundOf (by simp) ?_
  have Fs := F
  have Us := U
  obtain ⟨⟨oa, c, rfl⟩, ⟨ob, d, rfl⟩, oc, e, rfl⟩ := F.shapes
  obtain ⟨ou, cu, rfl⟩ := U.shapeT
  simp -implicitDefEqProofs
  refine R_loopO (fun n st h' => ∃ (i : Nat) (a : Int), i + n = us.length ∧ st = [(2, .pointer (some ⟨h.length, 0, some 3⟩)), (5, .int .i64 a), (8, .slice ou us.length cu), (9, .int .i64 us.length), (10, .int .i64 i)] ∧
    h' = h ++ [some ⟨[.slice oa f.ops.length c, .slice ob f.rt.length d, .slice oc f.ix.length e], 0, false⟩] ∧ mx (JS.ends us (f.ops.map (·.t))) = ((JS.ends us (f.ops.map (·.t))).drop i).foldl max a) (fun I hI n st h' => ?_) ⟨0, 0, Nat.zero_add _, by simp, rfl, by simp [mx]⟩
  rintro ⟨i, a, hi, rfl, rfl, hx⟩
  by_cases hlt : i < us.length
  · obtain ⟨x, hx1, _⟩ := drop_at hlt
    obtain ⟨y, hy1, _⟩ := drop_at (show i < f.ops.length by omega)
    have he : (JS.ends us (f.ops.map (·.t)))[i]? = some (x + y.t) := by simp [JS.ends, List.getElem?_zipWith, hx1, hy1]
    obtain ⟨z, hz, hdz⟩ := drop_at (List.getElem?_eq_some_iff.1 he).1
    rw [he] at hz; cases hz
    rw [hdz, List.foldl_cons] at hx
    have b1 := hb x (List.mem_of_getElem? hx1)
    have b2 := ht y (List.mem_of_getElem? hy1)
    have w : IntKind.i64.wrap (x + y.t) = x + y.t := by rw [wrap_ok] <;> omega
    have F1 := Fs.ext [some ⟨[.slice oa f.ops.length c, .slice ob f.rt.length d, .slice oc f.ix.length e], 0, false⟩]
    simp -implicitDefEqProofs [-indexAddrP_some, hlt, load_I (Us.ext _) hx1, load_O F1.o hy1, w, foldI, ite_max, winc hlt hn]
    exact ⟨n - 1, by omega, on hI ⟨i + 1, _, by omega, rfl, rfl, hx⟩⟩
  · have he : ((JS.ends us (f.ops.map (·.t))).drop i) = [] := List.drop_eq_nil_of_le (by simp [JS.ends]; omega)
    rw [he, List.foldl_nil] at hx
    simp -implicitDefEqProofs [hlt, hx]
end Go.Pm.PP

/- Job shops by the program: heads with arcs. -/
set_option linter.unusedVariables false
set_option linter.unusedSimpArgs false
set_option maxRecDepth 4000
set_option maxHeartbeats 2000000
namespace Go.Pm.PP
open Go.Pm Go.Proofs Go.Pm.JS
/-- The arcs of all routes, by numbers. -/
def nxN (s : Shop) : List (Nat × Nat) := (nxL s).map natP
theorem nxN_map {s : Shop} : (nxN s).map cP = nxL s := by
  rw [nxN, List.map_map]
  conv => rhs; rw [← List.map_id (nxL s)]
  refine List.map_congr_left fun p hp => ?_
  obtain ⟨j, rfl, _⟩ := nxGo_mem hp
  simp only [Function.comp, natP, cP, id]
  congr 1
theorem nextI_some {f : Flat} {i : Nat} : nextI f i = (i : Int) + 1 ∨ nextI f i = -1 := by unfold nextI; split <;> simp
theorem nx_step {f : Flat} {i : Nat} (hl : f.rt.length = f.ops.length) (hi : i < f.ops.length) : nxGo i (f.rt.drop i) = (if nextI f i ≥ 0 then [((i : Int), nextI f i)] else []) ++ nxGo (i + 1) (f.rt.drop (i + 1)) := by
  obtain ⟨a, ha, hda⟩ := drop_at (show i < f.rt.length by omega)
  have e1 : gN f.rt i = a := by have := gN_get (v := f.rt) (i := i) (by omega); rw [ha] at this; cases this; rfl
  by_cases h1 : i + 1 < f.ops.length
  · obtain ⟨b, hb, hdb⟩ := drop_at (show i + 1 < f.rt.length by omega)
    have e2 : gN f.rt (i + 1) = b := by have := gN_get (v := f.rt) (i := i + 1) (by omega); rw [hb] at this; cases this; rfl
    have hn : nextI f i = if b = a then (i : Int) + 1 else -1 := by unfold nextI; rw [e1, e2]; simp [h1]
    rw [hda, hdb, nxGo, hn]
    by_cases h2 : b = a
    · subst h2
      simp only [beq_self_eq_true, if_true]
      rw [if_pos (show (i : Int) + 1 ≥ 0 by omega)]
      rfl
    · have h3 : (a == b) = false := by simpa using fun h : a = b => h2 h.symm
      simp only [h2, h3, if_false, Bool.false_eq_true]
      rw [if_neg (by omega)]
      rfl
  · have hn : nextI f i = -1 := by unfold nextI; simp [h1]
    rw [hda, List.drop_eq_nil_of_le (show f.rt.length ≤ i + 1 by omega), hn, if_neg (by omega)]
    rfl
theorem rt_eq {s : Shop} : (flatF s).rt = rtL s := rfl
theorem headsWith_run {h : Hp} {vo vr vi va : Value} {s : Shop} {qs : List (Nat × Nat)} (F : FAt h vo vr vi (flatF s)) (A : Prs h va (qs.map cP)) (o : AsOk s (qs ++ nxN s)) (hq : qs.length ≤ 2 ^ 21) :
    RunsC P G n_impl_flat_headsWith [fv vo vr vi, va] h fun v h' => h <+: h' ∧ ∃ vs, v = .tuple #[vs, .bool (rounds (hArcs (tsL s) (qs ++ nxN s)) ((opsL s).length + 1) (zerosN (opsL s).length)).isSome] ∧
      Own h.length h' vs 1 (((rounds (hArcs (tsL s) (qs ++ nxN s)) ((opsL s).length + 1) (zerosN (opsL s).length)).getD []).map encI) := by
  refine hideC fun K hK => enter_run e_impl_flat_headsWith (by simp) ?_
  have Fs := F
  have Ass := A
  have rl : (flatF s).rt.length = (flatF s).ops.length := by rw [rt_eq, rt_len, ← ops_len]; rfl
  obtain ⟨⟨oa, c, rfl⟩, ⟨ob, d, rfl⟩, oc, e, rfl⟩ := F.shapes
  obtain ⟨ov, cv, rfl⟩ := A.shapeT
  rw [List.length_map] at *
  have on1 := o.n
  have ol := o.len
  have nl := nx_len (s := s)
  rw [← ops_len] at nl
  rw [show (flatF s).ops = opsL s from rfl] at *
  have H0 := own_nil (Holds.start.alloc [.slice oa (opsL s).length c, .slice ob (flatF s).rt.length d, .slice oc (flatF s).ix.length e] (h := h)) (Int × Int) encQ 2
  have A1 := Ass.ext [some ⟨[.slice oa (opsL s).length c, .slice ob (flatF s).rt.length d, .slice oc (flatF s).ix.length e], 0, false⟩]
  obtain ⟨v1, h1, ha1, H1, k1⟩ := app_Q H0 1 rfl A1 (by simp; omega)
  rw [List.nil_append] at H1
  generalize hR : rounds (hArcs (tsL s) (qs ++ nxN s)) ((opsL s).length + 1) (zerosN (opsL s).length) = R at *
  simp -implicitDefEqProofs [ha1, H1.bl 0 3 rfl rfl]
  refine R_loopO (fun n st h' => ∃ (i : Nat) (u : Value) (us : List (Int × Int)), i + n = (opsL s).length ∧ st = [(2, .pointer (some ⟨h.length, 0, some 3⟩)), (6, u), (19, .int .i64 (opsL s).length), (20, .int .i64 i)] ∧
    Holds h h' [.box h.length [.slice oa (opsL s).length c, .slice ob (flatF s).rt.length d, .slice oc (flatF s).ix.length e], .own u 2 (us.map encQ)] ∧ qs.map cP ++ nxL s = us ++ nxGo i ((rtL s).drop i)) (fun I hI n st h' => ?_) ⟨0, v1, _, Nat.zero_add _, by simp, H1, by rw [List.drop_zero]; rfl⟩
  rintro ⟨i, u, us, hi, rfl, H, hx⟩
  have hus : us.length ≤ 2 ^ 40 := by
    have := congrArg List.length hx
    rw [List.length_append, List.length_append, List.length_map] at this; omega
  by_cases hlt : i < (opsL s).length
  · have rn := next_run (i := i) (Fs.pre H.pre) rl (by show (opsL s).length ≤ _; omega) hlt
    have nx := nx_step (f := flatF s) (i := i) rl hlt
    rw [rt_eq] at nx
    rw [nx] at hx
    rcases nextI_some (f := flatF s) (i := i) with e1 | e1
    · rw [e1] at hx rn
      rw [if_pos (by omega)] at hx
      obtain ⟨v', h3, hap, H2, k, _⟩ := push_Q0 H 1 rfl ((i : Int), (i : Int) + 1) hus
      have g0 : (0 : Int) ≤ (i : Int) + 1 := by omega
      simp -implicitDefEqProofs [-indexAddrP_some, hlt, H.bl 0 3 rfl rfl, CL_ret rn, g0, hap, winc hlt (by omega)]
      exact ⟨n - 1, by omega, on hI ⟨i + 1, v', us ++ [((i : Int), (i : Int) + 1)], by omega, rfl, H2, by simpa using hx⟩⟩
    · rw [e1] at hx rn
      rw [if_neg (by omega), List.nil_append] at hx
      simp -implicitDefEqProofs [-indexAddrP_some, hlt, H.bl 0 3 rfl rfl, CL_ret rn, winc hlt (by omega)]
      exact ⟨n - 1, by omega, on hI ⟨i + 1, u, us, by omega, rfl, H, hx⟩⟩
  · have hdn : (rtL s).drop i = [] := List.drop_eq_nil_of_le (by rw [rt_len, ← ops_len]; omega)
    rw [hdn, nxGo, List.append_nil] at hx
    · rw [← hx, ← nxN_map, ← List.map_append] at H
      have hpl : (qs ++ nxN s).length ≤ 2 ^ 22 := ol
      obtain ⟨ou, cu, rfl⟩ : ∃ a c, u = .slice a (qs ++ nxN s).length c := by obtain ⟨a, c, e⟩ := (H.sees 1 rfl).shapeT; exact ⟨a, c, by rw [e, List.length_map]⟩
      generalize hps : qs ++ nxN s = ps at *
      obtain ⟨vz, h2, mk, H2, hp2, oz, rfl⟩ := make_I H (n := (opsL s).length) (by omega)
      have wN : IntKind.i64.wrap (((opsL s).length : Int) + 1) = (((opsL s).length + 1 : Nat) : Int) := by rw [wrap_ok] <;> omega
      generalize hN : (opsL s).length = N at *
      simp -implicitDefEqProofs [hlt, H.bl 0 3 rfl rfl, mk, H2.bl 0 3 rfl rfl, wN]
      refine R_loopO (fun n st h' => ∃ (r : Nat) (v : List Int), r + n = N + 1 ∧ st = [(2, .pointer (some ⟨h.length, 0, some 3⟩)), (6, .slice ou ps.length cu), (9, .slice oz N N), (42, .int .i64 ((N : Int) + 1)), (43, .int .i64 r)] ∧
        Holds h h' [.box h.length [.slice oa N c, .slice ob (flatF s).rt.length d, .slice oc (flatF s).ix.length e], .own (.slice ou ps.length cu) 2 ((ps.map cP).map encQ), .own (.slice oz N N) 1 (v.map encI)] ∧ v.length = N ∧ Bd (r * ps.length) v ∧ R = rounds (hArcs (tsL s) ps) n v) (fun I hI n st h' => ?_) ⟨0, zerosN N, Nat.zero_add _, by simp, H2, by simp [zerosN], by rw [Nat.zero_mul]; exact Bd_zeros, hR.symm⟩
      rintro ⟨r, v, hr, rfl, H, hvl, hb, hx⟩
      by_cases hlt : r < N + 1
      · obtain ⟨m0, rfl⟩ : ∃ m0, n = m0 + 1 := ⟨n - 1, by omega⟩
        have hlt' : (r : Int) < (N : Int) + 1 := by omega
        rw [rounds] at hx
        have hrk : r * ps.length ≤ 2 ^ 20 * 2 ^ 22 := Nat.mul_le_mul (by omega) hpl
        simp -implicitDefEqProofs [hlt']
        refine R_loopO (fun n st h' => ∃ (i : Nat) (v' : List Int) (ch : Bool), i + n = ps.length ∧ st = [(2, .pointer (some ⟨h.length, 0, some 3⟩)), (6, .slice ou ps.length cu), (9, .slice oz N N), (10, .bool ch), (42, .int .i64 ((N : Int) + 1)), (43, .int .i64 r), (45, .slice ou ps.length cu), (46, .int .i64 ps.length), (47, .int .i64 i)] ∧
          Holds h h' [.box h.length [.slice oa N c, .slice ob (flatF s).rt.length d, .slice oc (flatF s).ix.length e], .own (.slice ou ps.length cu) 2 ((ps.map cP).map encQ), .own (.slice oz N N) 1 (v'.map encI)] ∧ v'.length = N ∧ Bd (r * ps.length + i) v' ∧ fpass (hArcs (tsL s) ps) (v, false) = fpass (hArcs (tsL s) (ps.drop i)) (v', ch)) (fun I2 hI2 n st h' => ?_) ⟨0, v, false, Nat.zero_add _, by simp, H, hvl, hb, by simp⟩
        rintro ⟨i, v', ch, hi, rfl, H3, hvl', hb', hf⟩
        by_cases hlt2 : i < ps.length
        · obtain ⟨p, hp, hd⟩ := drop_at hlt2
          obtain ⟨a, b⟩ := p
          have hab := o.lt (a, b) (List.mem_of_getElem? hp)
          simp only [] at hab
          rw [hN] at hab
          obtain ⟨y, hy, hty, ht1, ht2⟩ := o.time (i := a) (by rw [hN]; exact hab.1)
          have hQ := load_Q (H3.sees 1 rfl) (x := ((a : Int), (b : Int))) (i := i) (by simp [hp, cP])
          have H4 := H3.alloc [.int .i64 (a : Int), .int .i64 (b : Int)]
          have hA1 := load_I (H4.sees 2 rfl) (gN_get (v := v') (i := a) (by omega))
          have hB1 := load_I (H4.sees 2 rfl) (gN_get (v := v') (i := b) (by omega))
          have hT1 := load_O (Fs.o.pre H4.pre) hy
          have ba := hb' a
          have wA : IntKind.i64.wrap (gN v' a + y.t) = gN v' a + y.t := by rw [wrap_ok] <;> omega
          rw [hd, hArcs_cons, fpass_cons, fstep_eq] at hf
          simp only [hty] at hf
          by_cases c1 : gN v' a + y.t > gN v' b
          · rw [if_pos c1] at hf
            obtain ⟨h5, hs5, H5, k5⟩ := put_I H4 2 rfl (j := b) (by omega) (gN v' a + y.t)
            have c1' : gN v' b < gN v' a + y.t := c1
            simp -implicitDefEqProofs [-indexAddrP_some, hlt2, hQ, H3.blx 0 3 rfl rfl, hA1, hB1, hT1, wA, c1', hs5, winc hlt2 (by omega)]
            refine ⟨n - 1, by omega, on hI2 ⟨i + 1, v'.set b (gN v' a + y.t), true, by omega, rfl, H5.take 3, by simp [hvl'], ?_, hf⟩⟩
            have := hb'.step (e := ⟨b, a, y.t⟩) (by rw [hvl']; exact hab.2) ht1 ht2
            unfold gstep at this
            rw [if_pos c1] at this
            exact this
          · rw [if_neg c1] at hf
            have c1' : ¬ gN v' b < gN v' a + y.t := c1
            simp -implicitDefEqProofs [-indexAddrP_some, hlt2, hQ, H3.blx 0 3 rfl rfl, hA1, hB1, hT1, wA, c1', winc hlt2 (by omega)]
            exact ⟨n - 1, by omega, on hI2 ⟨i + 1, v', ch, by omega, rfl, H4.take 3, hvl', hb'.mono (by omega), hf⟩⟩
        · rw [List.drop_eq_nil_of_le (by omega)] at hf
          have hf' : fpass (hArcs (tsL s) ps) (v, false) = (v', ch) := hf
          rw [hf'] at hx
          have hrn := hb'.mono (d := (r + 1) * ps.length) (by rw [Nat.succ_mul]; omega)
          cases ch
          · simp only [Bool.false_eq_true, if_false] at hx
            simp -implicitDefEqProofs [hlt2]
            exact onK hK ⟨(H3.ret2 2 rfl).1, _, by rw [hx]; rfl, by rw [hx]; exact (H3.ret2 2 rfl).2⟩
          · simp only [if_true] at hx
            have hw : IntKind.i64.wrap ((r : Int) + 1) = ((r + 1 : Nat) : Int) := by rw [wrap_ok] <;> omega
            simp -implicitDefEqProofs [hlt2, hw]
            exact ⟨m0, by omega, on hI ⟨r + 1, v', by omega, rfl, H3, hvl', hrn, hx⟩⟩
      · have hn0 : n = 0 := by omega
        subst hn0
        have hlt' : ¬ (r : Int) < (N : Int) + 1 := by omega
        rw [rounds] at hx
        simp -implicitDefEqProofs [hlt']
        exact onK hK ⟨pre_gcU H.pre, _, by rw [hx]; rfl, by rw [hx]; exact Own.nil⟩
    · intro a b r h; cases h
end Go.Pm.PP

/- Job shops by the program: tails with arcs. -/
set_option linter.unusedVariables false
set_option linter.unusedSimpArgs false
set_option maxRecDepth 4000
set_option maxHeartbeats 2000000
namespace Go.Pm.PP
open Go.Pm Go.Proofs Go.Pm.JS
def nx1 (s : Shop) (i : Nat) : List (Nat × Nat) := if nextI (flatF s) i ≥ 0 then [(i, i + 1)] else []
def tlI (s : Shop) (qs : List (Nat × Nat)) (i : Nat) : List (Nat × Nat) := nx1 s i ++ qs.filter fun p => p.1 == i
def tlFrom (s : Shop) (qs : List (Nat × Nat)) (i : Nat) : List (Nat × Nat) := (((List.range (opsL s).length).drop i).map (tlI s qs)).flatten
theorem tlFrom_step {s : Shop} {qs : List (Nat × Nat)} {i : Nat} (hi : i < (opsL s).length) : tlFrom s qs i = tlI s qs i ++ tlFrom s qs (i + 1) := by
  obtain ⟨y, hy, hd⟩ := drop_at (show i < (List.range (opsL s).length).length by simpa using hi)
  have : y = i := by
    have := (List.getElem?_eq_some_iff.1 hy).2
    simpa using this.symm
  subst this
  rw [tlFrom, hd, List.map_cons, List.flatten_cons]; rfl
theorem tlFrom_end {s : Shop} {qs : List (Nat × Nat)} {i : Nat} (hi : (opsL s).length ≤ i) : tlFrom s qs i = [] := by
  rw [tlFrom, List.drop_eq_nil_of_le (by simpa using hi)]; rfl
theorem tArcs_append {t : List Int} {ps qs : List (Nat × Nat)} : tArcs t (ps ++ qs) = tArcs t ps ++ tArcs t qs := by simp [tArcs]
theorem gpass_append {A B : List Arc} {v : List Int} : gpass (A ++ B) v = gpass B (gpass A v) := by simp [gpass, List.foldl_append]
theorem tailsWith_run {h : Hp} {vo vr vi va : Value} {s : Shop} {qs : List (Nat × Nat)} (F : FAt h vo vr vi (flatF s)) (A : Prs h va (qs.map cP)) (o : AsOk s (qs ++ nxN s)) (hq : qs.length ≤ 2 ^ 21) (hN : (opsL s).length ≤ 12) :
    RunsC P G n_impl_flat_tailsWith [fv vo vr vi, va] h fun v h' => h <+: h' ∧ Own h.length h' v 1 ((gpasses (tArcs (tsL s) (tlFrom s qs 0)) (opsL s).length (tsL s)).map encI) := by
  refine hideC fun K hK => enter_run e_impl_flat_tailsWith (by simp) ?_
  have Fs := F
  have Ass := A
  have rl : (flatF s).rt.length = (flatF s).ops.length := by rw [rt_eq, rt_len, ← ops_len]; rfl
  obtain ⟨⟨oa, c, rfl⟩, ⟨ob, d, rfl⟩, oc, e, rfl⟩ := F.shapes
  obtain ⟨ov, cv, rfl⟩ := A.shapeT
  rw [List.length_map] at *
  rw [show (flatF s).ops = opsL s from rfl] at *
  have tl := ts_len (s := s)
  have H0 := Holds.start.alloc [.slice oa (opsL s).length c, .slice ob (flatF s).rt.length d, .slice oc (flatF s).ix.length e] (h := h)
  obtain ⟨vz, h1, mk, H1, hp1, oz, rfl⟩ := make_I H0 (n := (opsL s).length) (by omega)
  obtain ⟨T, hT⟩ : ∃ T, T = gpasses (tArcs (tsL s) (tlFrom s qs 0)) (opsL s).length (tsL s) := ⟨_, rfl⟩
  rw [← hT] at hK
  simp -implicitDefEqProofs [mk, H1.bl 0 3 rfl rfl]
  refine R_loopO (fun n st h' => ∃ (i : Nat), i + n = (opsL s).length ∧ st = [(1, .slice ov qs.length cv), (2, .pointer (some ⟨h.length, 0, some 3⟩)), (5, .slice oz (opsL s).length (opsL s).length), (18, .slice oa (opsL s).length c), (19, .int .i64 (opsL s).length), (20, .int .i64 i)] ∧
    Holds h h' [.box h.length [.slice oa (opsL s).length c, .slice ob (flatF s).rt.length d, .slice oc (flatF s).ix.length e], .own (.slice oz (opsL s).length (opsL s).length) 1 (((tsL s).take i ++ List.replicate ((tsL s).length - i) 0).map encI)]) (fun I hI n st h' => ?_) ⟨0, Nat.zero_add _, by simp, by rw [List.take_zero, List.nil_append, tl]; exact H1⟩
  rintro ⟨i, hi, rfl, H⟩
  by_cases hlt : i < (opsL s).length
  · obtain ⟨y, hy, hty, ht1, ht2⟩ := o.time (i := i) hlt
    have hti : (tsL s)[i]? = some y.t := by rw [← hty]; exact gN_get (by rw [tl]; exact hlt)
    have H4 := H.alloc [.int .i64 y.m, .int .i64 y.t]
    have hll : ((tsL s).take i ++ List.replicate ((tsL s).length - i) 0).length = (opsL s).length := by simp; omega
    obtain ⟨z, hz, _⟩ := drop_at (show i < ((tsL s).take i ++ List.replicate ((tsL s).length - i) 0).length by omega)
    have ix := (load_I (H4.sees 1 rfl) hz).1
    obtain ⟨h5, hs5, H5, k5⟩ := put_I H4 1 rfl (j := i) (by omega) y.t
    rw [set_next hti] at H5
    simp -implicitDefEqProofs [-indexAddrP_some, hlt, load_O (Fs.o.pre H.pre) hy, ix, hs5, winc hlt (by omega)]
    exact ⟨n - 1, by omega, on hI ⟨i + 1, by omega, rfl, H5.take 2⟩⟩
  · have hll : ((tsL s).take i ++ List.replicate ((tsL s).length - i) 0) = tsL s := by
      rw [List.take_of_length_le (by omega), show (tsL s).length - i = 0 by omega]; simp
    rw [hll] at H
    simp -implicitDefEqProofs [hlt, H.bl 0 3 rfl rfl]
    refine R_loopO (fun n st h' => ∃ (r : Nat) (v : List Int), r + n = (opsL s).length ∧ st = [(1, .slice ov qs.length cv), (2, .pointer (some ⟨h.length, 0, some 3⟩)), (5, .slice oz (opsL s).length (opsL s).length), (33, .int .i64 (opsL s).length), (34, .int .i64 r)] ∧
      Holds h h' [.box h.length [.slice oa (opsL s).length c, .slice ob (flatF s).rt.length d, .slice oc (flatF s).ix.length e], .own (.slice oz (opsL s).length (opsL s).length) 1 (v.map encI)] ∧ v.length = (opsL s).length ∧ Bd ((r * (opsL s).length + 0) * (qs.length + 1) + 1) v ∧ T = gpasses (tArcs (tsL s) (tlFrom s qs 0)) n v) (fun I1 hI1 n st h' => ?_) ⟨0, tsL s, Nat.zero_add _, by simp, H, tl, ?_, hT⟩
    · rintro ⟨r, v, hr, rfl, H, hvl, hb, hx⟩
      by_cases hltr : r < (opsL s).length
      · obtain ⟨m0, rfl⟩ : ∃ m0, n = m0 + 1 := ⟨n - 1, by omega⟩
        rw [gpasses] at hx
        simp -implicitDefEqProofs [hltr, H.bl 0 3 rfl rfl]
        refine R_loopO (fun n st h' => ∃ (i : Nat) (v' : List Int), i + n = (opsL s).length ∧ st = [(1, .slice ov qs.length cv), (2, .pointer (some ⟨h.length, 0, some 3⟩)), (5, .slice oz (opsL s).length (opsL s).length), (33, .int .i64 (opsL s).length), (34, .int .i64 r), (37, .slice oa (opsL s).length c), (38, .int .i64 (opsL s).length), (39, .int .i64 i)] ∧
          Holds h h' [.box h.length [.slice oa (opsL s).length c, .slice ob (flatF s).rt.length d, .slice oc (flatF s).ix.length e], .own (.slice oz (opsL s).length (opsL s).length) 1 (v'.map encI)] ∧ v'.length = (opsL s).length ∧ Bd ((r * (opsL s).length + i) * (qs.length + 1) + 1) v' ∧ gpass (tArcs (tsL s) (tlFrom s qs 0)) v = gpass (tArcs (tsL s) (tlFrom s qs i)) v') (fun I2 hI2 n st h' => ?_) ⟨0, v, Nat.zero_add _, by simp, H, hvl, hb, rfl⟩
        rintro ⟨i, v', hi, rfl, H2, hvl2, hb2, hf⟩
        have hg1 : r * (opsL s).length + i ≤ 12 * 12 + 12 := Nat.add_le_add (Nat.mul_le_mul (by omega) hN) (by omega)
        have hg2 : (r * (opsL s).length + i) * (qs.length + 1) ≤ 156 * (2 ^ 21 + 1) := Nat.mul_le_mul hg1 (by omega)
        by_cases hlt2 : i < (opsL s).length
        · obtain ⟨y, hy, hty, ht1, ht2⟩ := o.time (i := i) hlt2
          have H4 := H2.alloc [.int .i64 y.m, .int .i64 y.t]
          have rn := next_run (i := i) (Fs.pre H4.pre) rl (by show (opsL s).length ≤ _; omega) hlt2
          rw [tlFrom_step hlt2, tlI, tArcs_append, tArcs_append, gpass_append, gpass_append] at hf
          have hA1 := load_I (H4.sees 1 rfl) (gN_get (v := v') (i := i) (by omega))
          -- with the next one
          obtain ⟨h3, v3, H3, hv3, hb3, hf3, hcase⟩ : ∃ (h3 : Hp) (v3 : List Int), Holds h h3 [.box h.length [.slice oa (opsL s).length c, .slice ob (flatF s).rt.length d, .slice oc (flatF s).ix.length e], .own (.slice oz (opsL s).length (opsL s).length) 1 (v3.map encI), .box h'.length [.int .i64 y.m, .int .i64 y.t]] ∧ v3.length = (opsL s).length ∧
              Bd ((r * (opsL s).length + i) * (qs.length + 1) + 2) v3 ∧ gpass (tArcs (tsL s) (nx1 s i)) v' = v3 ∧
              ((nextI (flatF s) i = (i : Int) + 1 ∧ i + 1 < (opsL s).length ∧ IntKind.i64.wrap (y.t + gN v' (i + 1)) = y.t + gN v' (i + 1) ∧ storeP P (h' ++ [some ⟨[.int .i64 y.m, .int .i64 y.t], 0, false⟩]) t_int (.int .i64 (max (gN v' i) (y.t + gN v' (i + 1)))) (.pointer (some (addP (base (.slice oz (opsL s).length (opsL s).length)) i))) = some h3) ∨
               (nextI (flatF s) i = -1 ∧ h3 = h' ++ [some ⟨[.int .i64 y.m, .int .i64 y.t], 0, false⟩])) := by
            by_cases hc : i + 1 < (flatF s).ops.length ∧ gN (flatF s).rt (i + 1) = gN (flatF s).rt i
            · have hn : nextI (flatF s) i = (i : Int) + 1 := by unfold nextI; rw [if_pos hc]
              have hc1 : i + 1 < (opsL s).length := hc.1
              obtain ⟨h3, hs3, H3, k3⟩ := put_I H4 1 rfl (j := i) (by omega) (max (gN v' i) (y.t + gN v' (i + 1)))
              have bb := hb2 (i + 1)
              have hst := hb2.step (e := ⟨i, i + 1, y.t⟩) (by rw [hvl2]; exact hlt2) ht1 ht2
              have e1 : gpass (tArcs (tsL s) (nx1 s i)) v' = v'.set i (max (gN v' i) (y.t + gN v' (i + 1))) := by
                rw [nx1, hn, if_pos (by omega), tArcs_cons, hty]
                exact (gstep_max (e := ⟨i, i + 1, y.t⟩) (by rw [hvl2]; exact hlt2)).symm
              rw [← gstep_max (by rw [hvl2]; exact hlt2)] at hst
              exact ⟨h3, _, H3, by simp [hvl2], hst, e1, .inl ⟨hn, hc1, by rw [wrap_ok] <;> omega, hs3⟩⟩
            · have hn : nextI (flatF s) i = -1 := by unfold nextI; rw [if_neg hc]
              exact ⟨_, v', H4, hvl2, hb2.mono (by omega), by rw [nx1, hn, if_neg (by omega)]; rfl, .inr ⟨hn, rfl⟩⟩
          rw [hf3] at hf
          rcases hcase with ⟨hn, hc1, wA, hs3⟩ | ⟨hn, rfl⟩
          all_goals first
            | (have hB1 := load_I (H4.sees 1 rfl) (gN_get (v := v') (i := i + 1) (by omega))
               rw [show ((i + 1 : Nat) : Int) = (i : Int) + 1 from rfl] at hB1
               rw [hn] at rn
               have g0 : (0 : Int) ≤ (i : Int) + 1 := by omega
               simp -implicitDefEqProofs [-indexAddrP_some, hlt2, load_O (Fs.o.pre H2.pre) hy, H2.blx 0 3 rfl rfl, CL_ret rn, g0, hA1, hB1, wA, foldI, ite_max, hs3])
            | (rw [hn] at rn
               simp -implicitDefEqProofs [-indexAddrP_some, hlt2, load_O (Fs.o.pre H2.pre) hy, H2.blx 0 3 rfl rfl, CL_ret rn])
          all_goals
            refine R_loopO (fun n st h4 => ∃ (k : Nat) (v4 : List Int), k + n = qs.length ∧ st = [(1, .slice ov qs.length cv), (2, .pointer (some ⟨h.length, 0, some 3⟩)), (5, .slice oz (opsL s).length (opsL s).length), (8, .int .i64 i), (9, .pointer (some ⟨h'.length, 0, some 2⟩)), (33, .int .i64 (opsL s).length), (34, .int .i64 r), (37, .slice oa (opsL s).length c), (38, .int .i64 (opsL s).length), (39, .int .i64 i), (64, .slice ov qs.length cv), (65, .int .i64 qs.length), (66, .int .i64 k)] ∧
              Holds h h4 [.box h.length [.slice oa (opsL s).length c, .slice ob (flatF s).rt.length d, .slice oc (flatF s).ix.length e], .own (.slice oz (opsL s).length (opsL s).length) 1 (v4.map encI), .box h'.length [.int .i64 y.m, .int .i64 y.t]] ∧ v4.length = (opsL s).length ∧ Bd ((r * (opsL s).length + i) * (qs.length + 1) + 2 + k) v4 ∧
              gpass (tArcs (tsL s) (qs.filter fun p => p.1 == i)) v3 = gpass (tArcs (tsL s) ((qs.drop k).filter fun p => p.1 == i)) v4) (fun I3 hI3 m st h4 => ?_) ⟨0, v3, Nat.zero_add _, by simp, H3, hv3, hb3, by simp⟩
            rintro ⟨k, v4, hk, rfl, H5, hvl4, hb4, hf4⟩
            by_cases hlt3 : k < qs.length
            · obtain ⟨p, hp, hdp⟩ := drop_at hlt3
              obtain ⟨a, b⟩ := p
              have hab := o.lt (a, b) (List.mem_append_left _ (List.mem_of_getElem? hp))
              simp only [] at hab
              have hQ := load_Q (Ass.pre H5.pre) (x := ((a : Int), (b : Int))) (i := k) (by simp [hp, cP])
              rw [hdp, List.filter_cons] at hf4
              have H6 := H5.alloc [.int .i64 (a : Int), .int .i64 (b : Int)]
              by_cases hai : a = i
              · subst hai
                simp only [beq_self_eq_true, if_true] at hf4
                rw [tArcs_cons, gpass_cons, hty, ← gstep_max (by rw [hvl4]; exact hlt2)] at hf4
                have hA2 := load_I (H6.sees 1 rfl) (gN_get (v := v4) (i := a) (by omega))
                have hB2 := load_I (H6.sees 1 rfl) (gN_get (v := v4) (i := b) (by omega))
                have bb := hb4 b
                have wB : IntKind.i64.wrap (y.t + gN v4 b) = y.t + gN v4 b := by rw [wrap_ok] <;> omega
                have hst := hb4.step (e := ⟨a, b, y.t⟩) (by rw [hvl4]; exact hlt2) ht1 ht2
                rw [← gstep_max (by rw [hvl4]; exact hlt2)] at hst
                obtain ⟨h7, hs7, H7, k7⟩ := put_I H6 1 rfl (j := a) (by omega) (max (gN v4 a) (y.t + gN v4 b))
                simp -implicitDefEqProofs [-indexAddrP_some, hlt3, hQ, hA2, hB2, H5.blx 2 2 rfl rfl, wB, foldI, ite_max, hs7, winc hlt3 (by omega)]
                exact ⟨m - 1, by omega, on hI3 ⟨k + 1, _, by omega, rfl, H7.take 3, by simp [hvl4], hst, hf4⟩⟩
              · have hai' : ¬ (a : Int) = (i : Int) := by omega
                have hbe : (a == i) = false := by simpa using hai
                simp only [hbe, Bool.false_eq_true, if_false] at hf4
                simp -implicitDefEqProofs [-indexAddrP_some, hlt3, hQ, hai', nb hai', winc hlt3 (by omega)]
                exact ⟨m - 1, by omega, on hI3 ⟨k + 1, _, by omega, rfl, H6.take 3, hvl4, hb4.mono (by omega), hf4⟩⟩
            · rw [List.drop_eq_nil_of_le (by omega)] at hf4
              have hf5 : gpass (tArcs (tsL s) (qs.filter fun p => p.1 == i)) v3 = v4 := hf4
              rw [hf5] at hf
              have hrn := hb4.mono (d := (r * (opsL s).length + (i + 1)) * (qs.length + 1) + 1) (by rw [show r * (opsL s).length + (i + 1) = (r * (opsL s).length + i) + 1 by omega, Nat.succ_mul (r * (opsL s).length + i)]; omega)
              simp -implicitDefEqProofs [hlt3, winc hlt2 (by omega)]
              exact ⟨n - 1, by omega, on hI2 ⟨i + 1, v4, by omega, rfl, H5.take 2, hvl4, hrn, hf⟩⟩
        · rw [tlFrom_end (s := s) (qs := qs) (i := i) (by omega)] at hf
          have hf5 : gpass (tArcs (tsL s) (tlFrom s qs 0)) v = v' := hf
          rw [hf5] at hx
          have hin : i = (opsL s).length := by omega
          subst hin
          have hrn := hb2.mono (d := ((r + 1) * (opsL s).length + 0) * (qs.length + 1) + 1) (by rw [Nat.succ_mul r, Nat.add_zero (r * (opsL s).length + (opsL s).length)]; omega)
          simp -implicitDefEqProofs [hlt2, winc hltr (by omega)]
          exact ⟨m0, by omega, on hI1 ⟨r + 1, v', by omega, rfl, H2, hvl2, hrn, hx⟩⟩
      · have hn0 : n = 0 := by omega
        subst hn0
        rw [gpasses] at hx
        subst hx
        simp -implicitDefEqProofs [hltr]
        exact onK hK (H.ret 1 rfl)
    · intro j
      rw [Nat.zero_mul, Nat.zero_add, Nat.zero_mul]
      rcases Nat.lt_or_ge j (tsL s).length with g | g
      · have := o.t _ (gN_mem g); omega
      · rw [gN_out g]; omega
end Go.Pm.PP

/- Job shops: the arcs of both, the plain law. -/
set_option linter.unusedVariables false
set_option linter.unusedSimpArgs false
set_option maxRecDepth 4000
namespace Go.Pm.PP
open Go.Pm Go.Proofs Go.Pm.JS
/-- The arcs of orders, by numbers. -/
def qsL (oss : List (List Int)) : List (Nat × Nat) := (arcsL oss).map natP
theorem psL_eq {s : Shop} {oss : List (List Int)} : psL s oss = nxN s ++ qsL oss := by simp [psL, nxN, qsL]
theorem nx_all {s : Shop} : ∀ (n i : Nat), i + n = (opsL s).length → nxGo i ((rtL s).drop i) = ((((List.range (opsL s).length).drop i).map fun j => if nextI (flatF s) j ≥ 0 then [((j : Int), nextI (flatF s) j)] else [])).flatten
  | 0, i, h => by
    rw [List.drop_eq_nil_of_le (show (rtL s).length ≤ i by rw [rt_len, ← ops_len]; omega), List.drop_eq_nil_of_le (show (List.range (opsL s).length).length ≤ i by simp; omega)]
    rfl
  | n + 1, i, h => by
    have rl : (flatF s).rt.length = (flatF s).ops.length := by rw [rt_eq, rt_len, ← ops_len]; rfl
    have hs := nx_step (f := flatF s) (i := i) rl (by show i < (opsL s).length; omega)
    rw [rt_eq] at hs
    obtain ⟨y, hy, hd⟩ := drop_at (show i < (List.range (opsL s).length).length by simp; omega)
    have : y = i := by
      have := (List.getElem?_eq_some_iff.1 hy).2
      simpa using this.symm
    subst this
    rw [hs, hd, List.map_cons, List.flatten_cons, nx_all n (y + 1) (by omega)]
theorem nxN_mem {s : Shop} {p : Nat × Nat} : p ∈ nxN s ↔ ∃ i, i < (opsL s).length ∧ p ∈ nx1 s i := by
  have h := nx_all (s := s) (opsL s).length 0 (Nat.zero_add _)
  rw [List.drop_zero, List.drop_zero] at h
  rw [nxN, nxL, h]
  constructor
  · intro hp
    obtain ⟨q, hq, rfl⟩ := List.mem_map.1 hp
    obtain ⟨l, hl, hq⟩ := List.mem_flatten.1 hq
    obtain ⟨j, hj, rfl⟩ := List.mem_map.1 hl
    refine ⟨j, by simpa using hj, ?_⟩
    split at hq
    · rename_i hn
      rcases nextI_some (f := flatF s) (i := j) with e | e
      · rw [nx1, if_pos hn]
        rw [e] at hq
        have : q = ((j : Int), (j : Int) + 1) := by simpa using hq
        rw [this]
        simp [natP]
      · rw [e] at hn; omega
    · cases hq
  · rintro ⟨i, hi, hp⟩
    rw [nx1] at hp
    split at hp
    · rename_i hn
      have hp' : p = (i, i + 1) := by simpa using hp
      refine List.mem_map.2 ⟨((i : Int), (i : Int) + 1), List.mem_flatten.2 ⟨[((i : Int), (i : Int) + 1)], List.mem_map.2 ⟨i, by simpa using hi, ?_⟩, by simp⟩, ?_⟩
      · rcases nextI_some (f := flatF s) (i := i) with e | e
        · rw [if_pos hn, e]
        · rw [e] at hn; omega
      · rw [hp']; simp [natP]
    · cases hp
theorem tl_mem {s : Shop} {oss : List (List Int)} (hs : SelGo s 0 oss) {p : Nat × Nat} : p ∈ tlFrom s (qsL oss) 0 ↔ p ∈ psL s oss := by
  rw [tlFrom, List.drop_zero, psL_eq, List.mem_append, nxN_mem]
  constructor
  · intro h
    obtain ⟨l, hl, hp⟩ := List.mem_flatten.1 h
    obtain ⟨i, hi, rfl⟩ := List.mem_map.1 hl
    rw [tlI] at hp
    rcases List.mem_append.1 hp with hp | hp
    · exact .inl ⟨i, by simpa using hi, hp⟩
    · exact .inr (List.mem_filter.1 hp).1
  · rintro (⟨i, hi, hp⟩ | hp)
    · exact List.mem_flatten.2 ⟨_, List.mem_map.2 ⟨i, by simpa using hi, rfl⟩, List.mem_append_left _ hp⟩
    · have hlt : p.1 < (opsL s).length := by
        obtain ⟨q, hq, rfl⟩ := List.mem_map.1 hp
        obtain ⟨a, b, rfl, h1, h2⟩ := psL_all hs q (List.mem_append_right _ hq)
        simpa [natP] using h1
      exact List.mem_flatten.2 ⟨_, List.mem_map.2 ⟨p.1, by simpa using hlt, rfl⟩, List.mem_append_right _ (List.mem_filter.2 ⟨hp, by simp⟩)⟩
theorem hArcs_mem {t : List Int} {ps qs : List (Nat × Nat)} (h : ∀ p, p ∈ ps ↔ p ∈ qs) (e : Arc) : e ∈ hArcs t ps ↔ e ∈ hArcs t qs := by
  simp only [hArcs, List.mem_map]
  exact ⟨fun ⟨p, hp, g⟩ => ⟨p, (h p).1 hp, g⟩, fun ⟨p, hp, g⟩ => ⟨p, (h p).2 hp, g⟩⟩
theorem tArcs_mem {t : List Int} {ps qs : List (Nat × Nat)} (h : ∀ p, p ∈ ps ↔ p ∈ qs) (e : Arc) : e ∈ tArcs t ps ↔ e ∈ tArcs t qs := by
  simp only [tArcs, List.mem_map]
  exact ⟨fun ⟨p, hp, g⟩ => ⟨p, (h p).1 hp, g⟩, fun ⟨p, hp, g⟩ => ⟨p, (h p).2 hp, g⟩⟩
section
variable {s : Shop} {oss : List (List Int)}
theorem heads_same (o : AsOk s (psL s oss)) : rounds (hArcs (tsL s) (qsL oss ++ nxN s)) ((opsL s).length + 1) (zerosN (opsL s).length) = rounds (hArcs (tsL s) (psL s oss)) ((opsL s).length + 1) (zerosN (opsL s).length) := by
  have hm : ∀ p, p ∈ psL s oss ↔ p ∈ qsL oss ++ nxN s := fun p => by rw [psL_eq, List.mem_append, List.mem_append]; exact Or.comm
  exact (rounds_eq o.pok.hIn (hArcs_mem hm) (by simp [zerosN])).symm
theorem AsOk.swap (o : AsOk s (psL s oss)) : AsOk s (qsL oss ++ nxN s) := ⟨o.n, o.t, fun p hp => o.lt p (by rw [psL_eq]; exact List.mem_append.2 (List.mem_append.1 hp).symm), by have := o.len; rw [psL_eq, List.length_append] at this; rw [List.length_append]; omega⟩
theorem heads_at (o : AsOk s (psL s oss)) {us : List Int} (h : rounds (hArcs (tsL s) (psL s oss)) ((opsL s).length + 1) (zerosN (opsL s).length) = some us) : Heads (opsL s).length (tsL s) (psL s oss) us := heads_of o.pok h
theorem tails_at (o : AsOk s (psL s oss)) {us : List Int} (h : Heads (opsL s).length (tsL s) (psL s oss) us) : Tails (opsL s).length (tsL s) (psL s oss) (tailsL s (psL s oss)) := tails_of o.pok h.back (by omega)
theorem tails_same (hs : SelGo s 0 oss) (o : AsOk s (psL s oss)) {us : List Int} (h : Heads (opsL s).length (tsL s) (psL s oss) us) : gpasses (tArcs (tsL s) (tlFrom s (qsL oss) 0)) (opsL s).length (tsL s) = tailsL s (psL s oss) :=
  (passes_eq o.pok.tIn (tArcs_mem fun p => (tl_mem hs).symm) h.back ts_len _ _ (by omega) (by omega)).symm
theorem length_same (o : AsOk s (psL s oss)) {us : List Int} (h : Heads (opsL s).length (tsL s) (psL s oss) us) : mx (JS.ends us (tsL s)) = mx (tailsL s (psL s oss)) := length_eq o.pok h (tails_at o h)
end
end Go.Pm.PP

/- Job shops by the program: what belongs to a selection. -/
set_option linter.unusedVariables false
set_option linter.unusedSimpArgs false
set_option maxRecDepth 4000
set_option maxHeartbeats 2000000
namespace Go.Pm.PP
open Go.Pm Go.Proofs Go.Pm.JS
theorem qsL_map {s : Shop} {oss : List (List Int)} (hs : SelGo s 0 oss) : (qsL oss).map cP = arcsL oss := by
  have := psL_map hs
  rw [psL_eq, List.map_append, nxN_map] at this
  exact List.append_cancel_left this
abbrev selv (vo vt vi va vh vT : Value) (n : Int) : Value := .agg #[vo, vt, vi, va, vh, vT, .int .i64 n]
structure SelOwn (b : Nat) (h : Hp) (vo vt vi va vh vT : Value) (s : Shop) (oss : List (List Int)) (us : List Int) : Prop where
  o : Own b h vo 2 ((opsL s).map encO)
  t : Own b h vt 1 ((flatF s).rt.map encI)
  i : Own b h vi 1 ((flatF s).ix.map encI)
  a : Own b h va 2 ((arcsL oss).map encQ)
  hd : Own b h vh 1 (us.map encI)
  tl : Own b h vT 1 ((tailsL s (psL s oss)).map encI)
theorem SelOwn.pre {b : Nat} {h h' : Hp} {vo vt vi va vh vT : Value} {s : Shop} {oss : List (List Int)} {us : List Int} (o : SelOwn b h vo vt vi va vh vT s oss us) (hp : h <+: h') : SelOwn b h' vo vt vi va vh vT s oss us :=
  ⟨o.o.pre hp, o.t.pre hp, o.i.pre hp, o.a.pre hp, o.hd.pre hp, o.tl.pre hp⟩
abbrev nilV : Value := .slice none 0 0
def SelRet (s : Shop) (oss : List (List Int)) (b : Nat) (v : Value) (h : Hp) : Prop :=
  (headsO s oss = none ∧ v = .tuple #[selv nilV nilV nilV nilV nilV nilV 0, .bool false]) ∨
  ∃ us vo vt vi va vh vT, headsO s oss = some us ∧ v = .tuple #[selv vo vt vi va vh vT (mx (tailsL s (psL s oss))), .bool true] ∧ SelOwn b h vo vt vi va vh vT s oss us
theorem gpass_bd : ∀ {A : List Arc} {c n : Nat} {v : List Int}, v.length = n → (∀ e ∈ A, e.x < n ∧ 1 ≤ e.w ∧ e.w ≤ 20) → Bd c v → Bd (c + A.length) (gpass A v)
  | [], c, n, v, hn, hA, hb => hb
  | e :: A, c, n, v, hn, hA, hb => by
    have h1 := hA e (List.mem_cons_self ..)
    have := gpass_bd (A := A) (v := gstep v e) (by rw [gstep_len]; exact hn) (fun f hf => hA f (List.mem_cons_of_mem _ hf)) (hb.step (by omega) h1.2.1 h1.2.2)
    rw [gpass_cons, List.length_cons]
    exact this.mono (by omega)
theorem gpasses_bd {A : List Arc} {n : Nat} (hA : ∀ e ∈ A, e.x < n ∧ 1 ≤ e.w ∧ e.w ≤ 20) : ∀ {k c : Nat} {v : List Int}, v.length = n → Bd c v → Bd (c + k * A.length) (gpasses A k v)
  | 0, c, v, hn, hb => by rw [Nat.zero_mul]; exact hb
  | k + 1, c, v, hn, hb => by
    have := gpasses_bd hA (k := k) (v := gpass A v) (by rw [gpass_len]; exact hn) (gpass_bd hn hA hb)
    rw [gpasses, Nat.succ_mul]
    exact this.mono (by omega)
theorem tails_bd {s : Shop} {ps : List (Nat × Nat)} (o : AsOk s ps) : mx (tailsL s ps) ≤ 20 * (2 ^ 43 : Int) := by
  have hk : (opsL s).length * (tArcs (tsL s) ps).length ≤ 2 ^ 20 * 2 ^ 22 := Nat.mul_le_mul o.n (by rw [tArcs, List.length_map]; exact o.len)
  have hA : ∀ e ∈ tArcs (tsL s) ps, e.x < (opsL s).length ∧ 1 ≤ e.w ∧ e.w ≤ 20 := fun e he => by
    have h1 := o.pok.tIn e he
    obtain ⟨p, hp, rfl⟩ := List.mem_map.1 he
    have := o.t _ (gN_mem (show p.1 < (tsL s).length by rw [ts_len]; exact (o.lt p hp).1))
    exact ⟨h1.1, h1.2.2, this.2⟩
  have h0 : Bd 1 (tsL s) := fun j => by
    rcases Nat.lt_or_ge j (tsL s).length with g | g
    · have := o.t _ (gN_mem g); omega
    · rw [gN_out g]; omega
  have hb := gpasses_bd hA (k := (opsL s).length) ts_len h0
  refine mx_le (by omega) fun z hz => ?_
  obtain ⟨i, _, rfl⟩ := mem_gN hz
  have := (hb i).2
  show gN (gpasses _ _ _) i ≤ _
  omega
theorem selectedBy_run {h : Hp} {vr vo : Value} {s : Shop} {oss : List (List Int)} (S : SAt h vr s) (O : OAt h vo oss) :
    RunsC P G n_impl_selectedBy [sv s vr, vo] h fun v h' => h <+: h' ∧ SelRet s oss h.length v h' := by
  refine hideC fun K hK => enter_run e_impl_selectedBy (by simp) ?_
  have Ss := S
  have Os := O
  obtain ⟨oa, c, rfl⟩ := S.shape
  obtain ⟨ob, d, rfl⟩ := O.shape
  have r1 := fun l => IsJobShop_run (Ss.ext l)
  have bad : headsO s oss = none → ∀ h', h <+: h' → K (.tuple #[selv nilV nilV nilV nilV nilV nilV 0, .bool false]) (gc h h' (.tuple #[selv nilV nilV nilV nilV nilV nilV 0, .bool false])) :=
    fun hn h' hp => onK hK ⟨pre_gcU hp, .inl ⟨hn, rfl⟩⟩
  cases c1 : goodS s
  · simp -implicitDefEqProofs [CL_ret (r1 _), c1]
    exact bad (by simp [headsO, sel2, c1]) _ (List.prefix_append ..)
  · have r2 := fun l => isSelection_run (Ss.ext l) (Os.ext l) c1
    cases c2 : selS s oss
    · simp -implicitDefEqProofs [CL_ret (r1 _), c1, CL_ret (r2 _), c2]
      exact bad (by simp [headsO, sel2, c2]) _ (List.prefix_append ..)
    · have c3 : sel2 s oss = true := by rw [sel2, c1, c2]; rfl
      obtain ⟨_, hm, hs⟩ := sel2_iff.1 c3
      have ao := AsOk.of c1 hs Os.tot
      have hN : (opsL s).length ≤ 12 := by rw [ops_len]; exact (good_n c1).1
      have ql : (qsL oss).length ≤ 2 ^ 20 := by
        rw [qsL, List.length_map]
        exact Nat.le_trans arcs_len Os.tot
      have hO : headsO s oss = rounds (hArcs (tsL s) (qsL oss ++ nxN s)) ((opsL s).length + 1) (zerosN (opsL s).length) := by rw [headsO, if_pos c3, heads_same ao]
      have H0 := (Holds.start.alloc [.int .i64 s.m, .slice oa s.routes.length c] (h := h)).alloc [nilV, nilV, nilV, nilV, nilV, nilV, .int .i64 0]
      simp only [List.append_assoc, List.cons_append, List.nil_append, List.length_append, List.length_cons, List.length_nil, Nat.zero_add] at H0
      simp -implicitDefEqProofs [CL_ret (r1 _), c1, CL_ret (r2 _), c2]
      refine CL_post (flatOf_run (Ss.ext _)) fun v h1 ⟨fo, ft, fi, hv, C1⟩ => ?_
      subst hv
      have H1 := H0.join C1
      obtain ⟨f1, f2, f3, rfl⟩ : ∃ a n c, fo = .slice a n c := by obtain ⟨a, c, e⟩ := (C1.sees 0 rfl).shape; exact ⟨_, _, _, e⟩
      obtain ⟨f4, f5, f6, rfl⟩ : ∃ a n c, ft = .slice a n c := by obtain ⟨a, c, e⟩ := (C1.sees 1 rfl).shape; exact ⟨_, _, _, e⟩
      obtain ⟨f7, f8, f9, rfl⟩ : ∃ a n c, fi = .slice a n c := by obtain ⟨a, c, e⟩ := (C1.sees 2 rfl).shape; exact ⟨_, _, _, e⟩
      simp -implicitDefEqProofs
      refine CL_post (arcsOf_run (Os.pre H1.pre)) fun va h2 ⟨hp2, oa2⟩ => ?_
      obtain ⟨a1, a2, a3, rfl⟩ : ∃ a n c, va = .slice a n c := by obtain ⟨a, c, e⟩ := oa2.sees.shape; exact ⟨_, _, _, e⟩
      have H3 := (H1.call hp2 oa2).alloc [.slice f1 f2 f3, .slice f4 f5 f6, .slice f7 f8 f9, .slice a1 a2 a3, nilV, nilV, .int .i64 0]
      have F3 : FAt (h2 ++ [some ⟨[.slice f1 f2 f3, .slice f4 f5 f6, .slice f7 f8 f9, .slice a1 a2 a3, nilV, nilV, .int .i64 0], 0, false⟩]) (.slice f1 f2 f3) (.slice f4 f5 f6) (.slice f7 f8 f9) (flatF s) := ⟨H3.sees 2 rfl, H3.sees 3 rfl, H3.sees 4 rfl⟩
      have A3 : Prs (h2 ++ [some ⟨[.slice f1 f2 f3, .slice f4 f5 f6, .slice f7 f8 f9, .slice a1 a2 a3, nilV, nilV, .int .i64 0], 0, false⟩]) (.slice a1 a2 a3) ((qsL oss).map cP) := by rw [qsL_map hs]; exact H3.sees 5 rfl
      simp -implicitDefEqProofs
      refine CL_post (headsWith_run F3 A3 ao.swap (by omega)) fun v h4 ⟨hp4, vs, hv, ow⟩ => ?_
      subst hv
      rw [← hO] at ow ⊢
      obtain ⟨e1, e2, e3, rfl⟩ : ∃ a n c, vs = .slice a n c := by obtain ⟨a, c, e⟩ := ow.sees.shape; exact ⟨_, _, _, e⟩
      have H4 := H3.call hp4 ow
      cases hh : headsO s oss with
      | none =>
        obtain ⟨h5, s5, H5, k5⟩ := H4.set (P := P) 1 (n := 7) (o := 0) (ty := t_impl_selected) (w := selv nilV nilV nilV nilV nilV nilV 0) rfl rfl e_t_impl_selected (by simp) (by simp) (by simp)
        simp -implicitDefEqProofs [s5, H5.bl 1 7 rfl rfl]
        exact bad hh _ H5.pre
      | some us =>
        rw [hh] at H4
        have hhd := heads_at ao (by rw [← heads_same ao, ← hO]; exact hh)
        have htl := tails_same hs ao hhd
        have hln := length_same ao hhd
        simp -implicitDefEqProofs [H4.bl 6 7 rfl rfl]
        refine CL_post (tailsWith_run (F3.pre hp4) (A3.pre hp4) ao.swap (by omega) hN) fun vT h5 ⟨hp5, oT⟩ => ?_
        rw [htl] at oT
        obtain ⟨t1, t2, t3, rfl⟩ : ∃ a n c, vT = .slice a n c := by obtain ⟨a, c, e⟩ := oT.sees.shape; exact ⟨_, _, _, e⟩
        have H5 := H4.call hp5 oT
        obtain ⟨h6, s6, H6, k6⟩ := H5.set (P := P) 6 (n := 7) (o := 4) (ty := t_S_int) (w := .slice e1 e2 e3) rfl rfl e_t_S_int (by simp) (by simp) (by simp)
        obtain ⟨h7, s7, H7, k7⟩ := H6.set (P := P) 6 (n := 7) (o := 5) (ty := t_S_int) (w := .slice t1 t2 t3) rfl rfl e_t_S_int (by simp) (by simp) (by simp)
        have F7 : FAt h7 (.slice f1 f2 f3) (.slice f4 f5 f6) (.slice f7 f8 f9) (flatF s) := ⟨H7.sees 2 rfl, H7.sees 3 rfl, H7.sees 4 rfl⟩
        have rb := boundOf_run (us := us) F7 (H7.sees 7 rfl) (by show us.length = (opsL s).length; exact hhd.len) (by rw [hhd.len]; omega) (fun x hx => by
          obtain ⟨i, hi, rfl⟩ := mem_gN hx
          refine ⟨hhd.pos i, ?_⟩
          have h1 := hhd.sum (tails_at ao hhd) i
          have h2 := (tails_at ao hhd).up i
          have h3 := ao.pok.nonneg i
          have h4 : mx (tailsL s (psL s oss)) ≤ 2 ^ 60 := by
            have := tails_bd ao
            omega
          omega) (fun y hy => by have := good_t c1 y hy; omega)
        rw [show (flatF s).ops.map (·.t) = tsL s from rfl, hln] at rb
        obtain ⟨h8, s8, H8, k8⟩ := H7.set (P := P) 6 (n := 7) (o := 6) (ty := t_int) (w := .int .i64 (mx (tailsL s (psL s oss)))) rfl rfl e_t_int (by simp) (by simp) (by simp)
        obtain ⟨h9, s9, H9, k9⟩ := H8.set (P := P) 1 (n := 7) (o := 0) (ty := t_impl_selected) (w := selv (.slice f1 f2 f3) (.slice f4 f5 f6) (.slice f7 f8 f9) (.slice a1 a2 a3) (.slice e1 e2 e3) (.slice t1 t2 t3) (mx (tailsL s (psL s oss)))) rfl rfl e_t_impl_selected (by simp) (by simp) (by simp)
        simp -implicitDefEqProofs [H5.bl 6 7 rfl rfl, s6, s7, H7.bl 6 7 rfl rfl, CL_ret rb, s8, H8.bl 6 7 rfl rfl, s9, H9.bl 1 7 rfl rfl]
        refine onK hK ⟨pre_gcU H9.pre, .inr ⟨us, _, _, _, _, _, _, hh, rfl, ?_⟩⟩
        exact ⟨(H9.own 2 rfl).gcU (by simp [plain]), (H9.own 3 rfl).gcU (by simp [plain]), (H9.own 4 rfl).gcU (by simp [plain]), (H9.own 5 rfl).gcU (by simp [plain]), (H9.own 7 rfl).gcU (by simp [plain]), (H9.own 8 rfl).gcU (by simp [plain])⟩
end Go.Pm.PP

/- Job shops by the program: heads, tails, lengths. -/
set_option linter.unusedVariables false
set_option linter.unusedSimpArgs false
set_option maxRecDepth 4000
set_option maxHeartbeats 2000000
namespace Go.Pm.PP
open Go.Pm Go.Proofs Go.Pm.JS
section
variable {h : Hp} {vr vo : Value} {s : Shop} {oss : List (List Int)}
theorem HeadsOf_run (S : SAt h vr s) (O : OAt h vo oss) : RunsC P G n_impl_HeadsOf [sv s vr, vo] h fun v h' => h <+: h' ∧ retL (headsO s oss) v h.length h' := by
  refine hideC fun K hK => enter_run e_impl_HeadsOf (by simp) ?_
  have Ss := S
  have Os := O
  obtain ⟨oa, c, rfl⟩ := S.shape
  obtain ⟨ob, d, rfl⟩ := O.shape
  simp -implicitDefEqProofs
  refine CL_post (selectedBy_run (Ss.ext _) (Os.ext _)) fun v h1 ⟨hp1, hs⟩ => ?_
  have hp := (List.prefix_append h [some (⟨[.int .i64 s.m, .slice oa s.routes.length c], 0, false⟩ : Row)]).trans hp1
  rcases hs with ⟨hn, rfl⟩ | ⟨us, wo, wt, wi, wa, wh, wT, hn, rfl, o⟩
  · simp -implicitDefEqProofs
    exact onK hK ⟨pre_gcU (hp.trans (List.prefix_append ..)), _, by rw [hn]; rfl, by rw [hn]; exact Own.nil⟩
  · obtain ⟨a, n, c, rfl⟩ : ∃ a n c, wo = .slice a n c := by obtain ⟨a, c, e⟩ := o.o.sees.shape; exact ⟨_, _, _, e⟩
    obtain ⟨a, n, c, rfl⟩ : ∃ a n c, wt = .slice a n c := by obtain ⟨a, c, e⟩ := o.t.sees.shape; exact ⟨_, _, _, e⟩
    obtain ⟨a, n, c, rfl⟩ : ∃ a n c, wi = .slice a n c := by obtain ⟨a, c, e⟩ := o.i.sees.shape; exact ⟨_, _, _, e⟩
    obtain ⟨a, n, c, rfl⟩ : ∃ a n c, wa = .slice a n c := by obtain ⟨a, c, e⟩ := o.a.sees.shape; exact ⟨_, _, _, e⟩
    obtain ⟨a, n, c, rfl⟩ : ∃ a n c, wh = .slice a n c := by obtain ⟨a, c, e⟩ := o.hd.sees.shape; exact ⟨_, _, _, e⟩
    obtain ⟨a, n, c, rfl⟩ : ∃ a n c, wT = .slice a n c := by obtain ⟨a, c, e⟩ := o.tl.sees.shape; exact ⟨_, _, _, e⟩
    simp -implicitDefEqProofs
    exact onK hK ⟨pre_gcU (hp.trans (List.prefix_append ..)), _, by rw [hn]; rfl, by rw [hn]; exact ((o.hd.low (by simp)).pre (List.prefix_append ..)).gcU plainT⟩
theorem OpTails_run (S : SAt h vr s) (O : OAt h vo oss) : RunsC P G n_impl_OpTails [sv s vr, vo] h fun v h' => h <+: h' ∧ retL (tailsO s oss) v h.length h' := by
  refine hideC fun K hK => enter_run e_impl_OpTails (by simp) ?_
  have Ss := S
  have Os := O
  obtain ⟨oa, c, rfl⟩ := S.shape
  obtain ⟨ob, d, rfl⟩ := O.shape
  simp -implicitDefEqProofs
  refine CL_post (selectedBy_run (Ss.ext _) (Os.ext _)) fun v h1 ⟨hp1, hs⟩ => ?_
  have hp := (List.prefix_append h [some (⟨[.int .i64 s.m, .slice oa s.routes.length c], 0, false⟩ : Row)]).trans hp1
  rcases hs with ⟨hn, rfl⟩ | ⟨us, wo, wt, wi, wa, wh, wT, hn, rfl, o⟩
  · simp -implicitDefEqProofs
    exact onK hK ⟨pre_gcU (hp.trans (List.prefix_append ..)), _, by rw [tailsO, hn]; rfl, by rw [tailsO, hn]; exact Own.nil⟩
  · obtain ⟨a, n, c, rfl⟩ : ∃ a n c, wo = .slice a n c := by obtain ⟨a, c, e⟩ := o.o.sees.shape; exact ⟨_, _, _, e⟩
    obtain ⟨a, n, c, rfl⟩ : ∃ a n c, wt = .slice a n c := by obtain ⟨a, c, e⟩ := o.t.sees.shape; exact ⟨_, _, _, e⟩
    obtain ⟨a, n, c, rfl⟩ : ∃ a n c, wi = .slice a n c := by obtain ⟨a, c, e⟩ := o.i.sees.shape; exact ⟨_, _, _, e⟩
    obtain ⟨a, n, c, rfl⟩ : ∃ a n c, wa = .slice a n c := by obtain ⟨a, c, e⟩ := o.a.sees.shape; exact ⟨_, _, _, e⟩
    obtain ⟨a, n, c, rfl⟩ : ∃ a n c, wh = .slice a n c := by obtain ⟨a, c, e⟩ := o.hd.sees.shape; exact ⟨_, _, _, e⟩
    obtain ⟨a, n, c, rfl⟩ : ∃ a n c, wT = .slice a n c := by obtain ⟨a, c, e⟩ := o.tl.sees.shape; exact ⟨_, _, _, e⟩
    simp -implicitDefEqProofs
    exact onK hK ⟨pre_gcU (hp.trans (List.prefix_append ..)), _, by rw [tailsO, hn]; rfl, by rw [tailsO, hn]; exact ((o.tl.low (by simp)).pre (List.prefix_append ..)).gcU plainT⟩
theorem ShopLength_run (S : SAt h vr s) (O : OAt h vo oss) : Ret P G n_impl_ShopLength [sv s vr, vo] h (.tuple #[.int .i64 (lenO s oss), .bool (tailsO s oss).isSome]) h := by
  refine enter_run e_impl_ShopLength (by simp) ?_
  have Ss := S
  have Os := O
  obtain ⟨oa, c, rfl⟩ := S.shape
  obtain ⟨ob, d, rfl⟩ := O.shape
  simp -implicitDefEqProofs
  refine CL_post (selectedBy_run (Ss.ext _) (Os.ext _)) fun v h1 ⟨hp1, hs⟩ => ?_
  have hp := (List.prefix_append h [some (⟨[.int .i64 s.m, .slice oa s.routes.length c], 0, false⟩ : Row)]).trans hp1
  rcases hs with ⟨hn, rfl⟩ | ⟨us, wo, wt, wi, wa, wh, wT, hn, rfl, o⟩
  · simp -implicitDefEqProofs [tailsO, hn, lenO]
    exact gcP (hp.trans (List.prefix_append ..)) rfl
  · obtain ⟨a, n, c, rfl⟩ : ∃ a n c, wo = .slice a n c := by obtain ⟨a, c, e⟩ := o.o.sees.shape; exact ⟨_, _, _, e⟩
    obtain ⟨a, n, c, rfl⟩ : ∃ a n c, wt = .slice a n c := by obtain ⟨a, c, e⟩ := o.t.sees.shape; exact ⟨_, _, _, e⟩
    obtain ⟨a, n, c, rfl⟩ : ∃ a n c, wi = .slice a n c := by obtain ⟨a, c, e⟩ := o.i.sees.shape; exact ⟨_, _, _, e⟩
    obtain ⟨a, n, c, rfl⟩ : ∃ a n c, wa = .slice a n c := by obtain ⟨a, c, e⟩ := o.a.sees.shape; exact ⟨_, _, _, e⟩
    obtain ⟨a, n, c, rfl⟩ : ∃ a n c, wh = .slice a n c := by obtain ⟨a, c, e⟩ := o.hd.sees.shape; exact ⟨_, _, _, e⟩
    obtain ⟨a, n, c, rfl⟩ : ∃ a n c, wT = .slice a n c := by obtain ⟨a, c, e⟩ := o.tl.sees.shape; exact ⟨_, _, _, e⟩
    simp -implicitDefEqProofs [tailsO, hn, lenO]
    exact gcP (hp.trans (List.prefix_append ..)) rfl
end
end Go.Pm.PP
