/- The texts Ps9, PvFa, PvFb, PvFc, PvFd, PvFe, PvFh, PvFi, PvFk, PvFl, PvFj of this work: Fronts of points, in plain terms. -/
import Derived.Test.YtcmbjbddjlamaaaP7
/- Fronts of points, in plain terms. -/
set_option linter.unusedVariables false
set_option linter.unusedSimpArgs false
namespace Go.Pm.PE
abbrev Pt := Int × Int
def domB (p q : Pt) : Bool := !(p.1 == q.1 && p.2 == q.2) && decide (p.1 ≤ q.1) && decide (p.2 ≤ q.2)
def sameB (p q : Pt) : Bool := p.1 == q.1 && p.2 == q.2
theorem sameB_iff {p q : Pt} : sameB p q = true ↔ p = q := by
  unfold sameB; rw [Bool.and_eq_true, beq_iff_eq, beq_iff_eq]
  constructor
  · rintro ⟨h1, h2⟩; exact Prod.ext h1 h2
  · rintro rfl; exact ⟨rfl, rfl⟩
theorem domB_iff {p q : Pt} : domB p q = true ↔ p ≠ q ∧ p.1 ≤ q.1 ∧ p.2 ≤ q.2 := by
  have := @sameB_iff p q
  unfold sameB at this
  unfold domB
  rw [Bool.and_eq_true, Bool.and_eq_true, Bool.not_eq_true', decide_eq_true_eq, decide_eq_true_eq, ← Bool.not_eq_true, this, and_assoc]
def insP (p : Pt) : List Pt → List Pt
  | [] => [p]
  | q :: l => if p.1 < q.1 then p :: q :: l else q :: insP p l
theorem insP_perm {p : Pt} : ∀ {l : List Pt}, (insP p l).Perm (p :: l)
  | [] => List.Perm.refl _
  | q :: l => by
    rw [insP]; split
    · exact List.Perm.refl _
    · exact (List.Perm.cons q insP_perm).trans (List.Perm.swap ..)
/-- A point or one that dominates it is there. -/
def coverB (F : List Pt) (p : Pt) : Bool := F.any fun q => sameB q p || domB q p
def restF (F : List Pt) (p : Pt) : List Pt := F.filter fun q => !domB p q
def putF (F : List Pt) (p : Pt) : List Pt := if coverB F p = true then F else insP p (restF F p)
def Srt (F : List Pt) : Prop := F.Pairwise fun a b => a.1 < b.1 ∧ b.2 < a.2
theorem insP_split {p : Pt} : ∀ {l : List Pt} {k : Nat}, k ≤ l.length → (∀ i q, i < k → l[i]? = some q → q.1 ≤ p.1) → (∀ q, l[k]? = some q → p.1 < q.1) → insP p l = l.take k ++ p :: l.drop k
  | [], k, hk, _, _ => by
    have : k = 0 := by simpa using hk
    subst this; rfl
  | q :: l, 0, _, _, h2 => by rw [insP, if_pos (h2 q rfl)]; rfl
  | q :: l, k + 1, hk, h1, h2 => by
    have := h1 0 q (by omega) rfl
    rw [insP, if_neg (by omega), insP_split (k := k) (by simpa using hk) (fun i z hi hz => h1 (i + 1) z (by omega) (by simpa using hz)) (fun z hz => h2 z (by simpa using hz))]
    rfl
theorem rest_srt {F : List Pt} {p : Pt} (h : Srt F) : Srt (restF F p) := h.sublist List.filter_sublist
theorem rest_mem {F : List Pt} {p q : Pt} : q ∈ restF F p ↔ q ∈ F ∧ domB p q = false := by
  unfold restF; rw [List.mem_filter]; simp
theorem cover_iff {F : List Pt} {p : Pt} : coverB F p = true ↔ ∃ q, q ∈ F ∧ q.1 ≤ p.1 ∧ q.2 ≤ p.2 := by
  unfold coverB
  rw [List.any_eq_true]
  constructor
  · rintro ⟨q, hq, h⟩
    rw [Bool.or_eq_true, sameB_iff, domB_iff] at h
    refine ⟨q, hq, ?_⟩
    rcases h with rfl | h
    · exact ⟨Int.le_refl _, Int.le_refl _⟩
    · exact h.2
  · rintro ⟨q, hq, h1, h2⟩
    refine ⟨q, hq, ?_⟩
    rw [Bool.or_eq_true, sameB_iff, domB_iff]
    by_cases e : q = p
    · exact .inl e
    · exact .inr ⟨e, h1, h2⟩
/-- What is left and the new point part in both numbers. -/
theorem rest_part {F : List Pt} {p q : Pt} (hc : coverB F p = false) (hq : q ∈ restF F p) : (q.1 < p.1 ∧ p.2 < q.2) ∨ (p.1 < q.1 ∧ q.2 < p.2) := by
  obtain ⟨h1, h2⟩ := rest_mem.1 hq
  have h3 : ¬ (q.1 ≤ p.1 ∧ q.2 ≤ p.2) := fun g => by
    have := cover_iff.2 ⟨q, h1, g⟩
    rw [this] at hc; cases hc
  have h4 : ¬ (p ≠ q ∧ p.1 ≤ q.1 ∧ p.2 ≤ q.2) := fun g => by
    rw [domB_iff.2 g] at h2; cases h2
  have h5 : ¬ (p.1 ≤ q.1 ∧ p.2 ≤ q.2) := fun g => h4 ⟨fun e => h3 (by rw [e]; exact ⟨Int.le_refl _, Int.le_refl _⟩), g⟩
  omega
theorem insP_srt {p : Pt} : ∀ {l : List Pt}, Srt l → (∀ q, q ∈ l → (q.1 < p.1 ∧ p.2 < q.2) ∨ (p.1 < q.1 ∧ q.2 < p.2)) → Srt (insP p l)
  | [], _, _ => by rw [insP]; exact List.pairwise_singleton ..
  | q :: l, h, hp => by
    have h := List.pairwise_cons.1 h
    have hq := hp q (List.mem_cons_self ..)
    rw [insP]; split
    · rename_i g
      refine List.pairwise_cons.2 ⟨fun z hz => ?_, List.pairwise_cons.2 h⟩
      rcases List.mem_cons.1 hz with rfl | hz
      · omega
      · have := h.1 z hz; omega
    · rename_i g
      refine List.pairwise_cons.2 ⟨fun z hz => ?_, insP_srt h.2 fun z hz => hp z (List.mem_cons_of_mem _ hz)⟩
      rcases List.mem_cons.1 (insP_perm.mem_iff.1 hz) with rfl | hz
      · omega
      · exact h.1 z hz
theorem putF_srt {F : List Pt} {p : Pt} (h : Srt F) : Srt (putF F p) := by
  unfold putF; split
  · exact h
  · rename_i hc
    exact insP_srt (rest_srt h) fun q hq => rest_part (by simpa using hc) hq
theorem putF_mem {F : List Pt} {p q : Pt} (h : q ∈ putF F p) : q = p ∨ q ∈ F := by
  unfold putF at h; split at h
  · exact .inr h
  · rcases List.mem_cons.1 (insP_perm.mem_iff.1 h) with g | g
    · exact .inl g
    · exact .inr (rest_mem.1 g).1
theorem putF_cover {F : List Pt} {p r : Pt} (h : r = p ∨ ∃ q, q ∈ F ∧ q.1 ≤ r.1 ∧ q.2 ≤ r.2) : ∃ q, q ∈ putF F p ∧ q.1 ≤ r.1 ∧ q.2 ≤ r.2 := by
  unfold putF; split
  · rename_i hc
    rcases h with rfl | h
    · exact cover_iff.1 hc
    · exact h
  · have hp : p ∈ insP p (restF F p) := insP_perm.mem_iff.2 (List.mem_cons_self ..)
    rcases h with rfl | ⟨q, hq, h1, h2⟩
    · exact ⟨r, hp, Int.le_refl _, Int.le_refl _⟩
    · cases hd : domB p q with
      | true =>
        have := domB_iff.1 hd
        exact ⟨p, hp, by omega, by omega⟩
      | false => exact ⟨q, insP_perm.mem_iff.2 (List.mem_cons_of_mem _ (rest_mem.2 ⟨hq, hd⟩)), h1, h2⟩
/-- A front of the points of some things. -/
theorem front_fold {α : Type} {pt : α → Pt} : ∀ {l : List α} {F : List Pt} {S : Pt → Prop}, Srt F → (∀ q, q ∈ F → S q) → (∀ x, x ∈ l → S (pt x)) →
    Srt (l.foldl (fun F x => putF F (pt x)) F) ∧ (∀ q, q ∈ l.foldl (fun F x => putF F (pt x)) F → S q) ∧ ∀ r, ((∃ x, x ∈ l ∧ r = pt x) ∨ ∃ q, q ∈ F ∧ q.1 ≤ r.1 ∧ q.2 ≤ r.2) → ∃ q, q ∈ l.foldl (fun F x => putF F (pt x)) F ∧ q.1 ≤ r.1 ∧ q.2 ≤ r.2
  | [], F, S, h, hS, _ => ⟨h, hS, fun r hr => by
      rcases hr with ⟨x, hx, _⟩ | g
      · cases hx
      · exact g⟩
  | x :: l, F, S, h, hS, hl => by
    rw [List.foldl_cons]
    obtain ⟨h1, h2, h3⟩ := front_fold (l := l) (F := putF F (pt x)) (S := S) (putF_srt h) (fun q hq => by
      rcases putF_mem hq with rfl | g
      · exact hl x (List.mem_cons_self ..)
      · exact hS q g) fun y hy => hl y (List.mem_cons_of_mem _ hy)
    refine ⟨h1, h2, fun r hr => h3 r ?_⟩
    rcases hr with ⟨y, hy, e⟩ | g
    · rcases List.mem_cons.1 hy with rfl | hy
      · exact .inr (putF_cover (.inl e))
      · exact .inl ⟨y, hy, e⟩
    · exact .inr (putF_cover (.inr g))
/-! ### the first one that fits -/
end Go.Pm.PE
namespace Go.Pm.PP
open Go.Pm Go.Pm.PE
end Go.Pm.PP
namespace Go.Pm.PE
theorem take_snoc {α : Type} {xs : List α} {i : Nat} {x : α} (h : xs[i]? = some x) : xs.take (i + 1) = xs.take i ++ [x] := by
  rw [List.take_add_one, h]; rfl
theorem insP_placed {p : Pt} {m : List Pt} : ∀ {l : List Pt}, (∃ q, q ∈ l ∧ p.1 < q.1) → insP p (l ++ m) = insP p l ++ m
  | [], h => by obtain ⟨q, hq, _⟩ := h; cases hq
  | a :: l, h => by
    rw [List.cons_append, insP, insP]
    split
    · rfl
    · rename_i g
      rw [insP_placed (l := l) (by
        obtain ⟨q, hq, hl⟩ := h
        rcases List.mem_cons.1 hq with rfl | hq
        · exact absurd hl g
        · exact ⟨q, hq, hl⟩)]; rfl
theorem insP_none {p : Pt} {m : List Pt} : ∀ {l : List Pt}, (∀ q, q ∈ l → ¬ p.1 < q.1) → insP p (l ++ m) = l ++ insP p m
  | [], _ => rfl
  | a :: l, h => by
    rw [List.cons_append, insP, if_neg (h a (List.mem_cons_self ..)), insP_none fun q hq => h q (List.mem_cons_of_mem _ hq)]; rfl
theorem rest_snoc {F : List Pt} {p q : Pt} {i : Nat} (hq : F[i]? = some q) : restF (F.take (i + 1)) p = restF (F.take i) p ++ if domB p q = true then [] else [q] := by
  unfold restF
  rw [take_snoc hq, List.filter_append]
  congr 1
  rw [List.filter_cons]
  cases domB p q <;> rfl
theorem cover_snoc {F : List Pt} {p q : Pt} {i : Nat} (hq : F[i]? = some q) : coverB (F.take (i + 1)) p = (coverB (F.take i) p || (sameB q p || domB q p)) := by
  unfold coverB; rw [take_snoc hq, List.any_append]; simp
theorem cover_mono {F : List Pt} {p q : Pt} {i : Nat} (hq : F[i]? = some q) (h : (sameB q p || domB q p) = true) : coverB F p = true := by
  unfold coverB; exact List.any_eq_true.2 ⟨q, List.mem_of_getElem? hq, h⟩
/-- A front with bounded first numbers is not long. -/
def FOk (F : List Pt) : Prop := Srt F ∧ ∀ q, q ∈ F → -(2 ^ 30) ≤ q.1 ∧ q.1 ≤ 2 ^ 30
theorem srt_len : ∀ {F : List Pt} {a : Int}, Srt F → (∀ q, q ∈ F → a ≤ q.1 ∧ q.1 ≤ 2 ^ 30) → a ≤ 2 ^ 30 + 1 → (F.length : Int) ≤ 2 ^ 30 + 1 - a
  | [], a, _, _, ha => by simp; omega
  | q :: F, a, h, hb, ha => by
    have h := List.pairwise_cons.1 h
    have hq := hb q (List.mem_cons_self ..)
    have := srt_len (F := F) (a := q.1 + 1) h.2 (fun z hz => by have := h.1 z hz; have := hb z (List.mem_cons_of_mem _ hz); omega) (by omega)
    rw [List.length_cons]; omega
theorem FOk.len {F : List Pt} (h : FOk F) : F.length ≤ 2 ^ 32 := by
  have := srt_len h.1 h.2 (by omega); omega
theorem FOk.put {F : List Pt} (h : FOk F) {p : Pt} (hp : -(2 ^ 30) ≤ p.1 ∧ p.1 ≤ 2 ^ 30) : FOk (putF F p) := ⟨putF_srt h.1, fun q hq => by
  rcases putF_mem hq with rfl | g
  · exact hp
  · exact h.2 q g⟩
theorem FOk.nil : FOk [] := ⟨List.Pairwise.nil, fun q hq => by cases hq⟩
theorem rest_len {F : List Pt} {p : Pt} {i : Nat} : (restF (F.take i) p).length ≤ F.length := by
  unfold restF
  refine Nat.le_trans (List.length_filter_le ..) ?_
  rw [List.length_take]; omega
/-- The place from behind in a front that is sorted. -/
theorem insP_back {p : Pt} {l : List Pt} (h : Srt l) {k : Nat} (hk : k ≤ l.length) (h1 : ∀ i q, k ≤ i → l[i]? = some q → p.1 < q.1) (h2 : ∀ q, 0 < k → l[k - 1]? = some q → ¬ p.1 < q.1) : insP p l = l.take k ++ p :: l.drop k := by
  refine insP_split hk (fun i q hi hq => ?_) fun q hq => h1 k q (Nat.le_refl _) hq
  rcases Nat.eq_or_lt_of_le (show i ≤ k - 1 by omega) with e | g
  · have := h2 q (by omega) (by rw [← e]; exact hq); omega
  · obtain ⟨z, hz, _⟩ := drop_at (show k - 1 < l.length by omega)
    have h3 := h2 z (by omega) hz
    have := List.pairwise_iff_getElem.1 h i (k - 1) (List.getElem?_eq_some_iff.1 hq).1 (List.getElem?_eq_some_iff.1 hz).1 g
    rw [(List.getElem?_eq_some_iff.1 hq).2, (List.getElem?_eq_some_iff.1 hz).2] at this
    omega
theorem shift_setP {us : List Pt} {z x : Pt} {j : Nat} (hj : j ≤ us.length) : (((us ++ [z]).take (j + 1) ++ ((us ++ [z]).drop j).take ((us ++ [z]).length - (j + 1))).set j x) = us.take j ++ x :: us.drop j := by
  apply List.ext_getElem?
  intro i
  have hl : ((us ++ [z]).take (j + 1)).length = j + 1 := by simp; omega
  rw [List.getElem?_set]
  have htl : (us.take j).length = j := by simp; omega
  split
  · rename_i e
    subst e
    rw [if_pos (by simp; omega), List.getElem?_append_right (by omega), htl, Nat.sub_self]; rfl
  · rename_i hne
    rcases Nat.lt_or_ge i j with g | g
    · rw [List.getElem?_append_left (by omega), List.getElem?_append_left (by omega), List.getElem?_take, List.getElem?_take, if_pos (by omega), if_pos g, List.getElem?_append_left (by omega)]
    · rw [List.getElem?_append_right (by omega), List.getElem?_append_right (by omega), hl, htl, List.getElem?_take, List.getElem?_drop]
      rw [show i - j = (i - (j + 1)) + 1 by omega, List.getElem?_cons_succ, List.getElem?_drop]
      simp only [List.length_append, List.length_cons, List.length_nil]
      split
      · rw [List.getElem?_append_left (by omega)]
      · rw [List.getElem?_eq_none (by omega)]
end Go.Pm.PE

/- Points of orders, by both. -/
set_option linter.unusedVariables false
set_option linter.unusedSimpArgs false
set_option maxRecDepth 4000
set_option maxHeartbeats 8000000
namespace Go.Pm.PP
open Go.Pm Go.Proofs Go.Pm.PE
abbrev ptv (p : Pt) : Value := .agg #[.int .i64 p.1, .int .i64 p.2]
def ptX (f g : Int) (js : List Job) (xs : List Int) : Pt := (valX f js xs, valX g js xs)
def aTwo (js : List Job) (f g : Int) : Bool := jOk js && inB f 1 8 && inB g 1 8
theorem aTwo_of {js : List Job} {f g : Int} (h : aTwo js f g = true) : js.length ≤ 8 ∧ goodL js = true ∧ (1 ≤ f ∧ f ≤ 8) ∧ 1 ≤ g ∧ g ≤ 8 := by
  rw [aTwo, Bool.and_eq_true, Bool.and_eq_true] at h
  exact ⟨(jOk_of h.1.1).1, (jOk_of h.1.1).2, inB_of h.1.2, inB_of h.2⟩
theorem ia2 {h : Hp} {a : Addr} {j : Nat} (hj : j < 2) : indexAddrP P h t_A2_int (.pointer (some a)) (.int .i64 j) = some (.pointer (some (addP a j))) := ix_arr u_A2_int e_t_int rfl hj
theorem ia20 {h : Hp} {a : Addr} : indexAddrP P h t_A2_int (.pointer (some a)) (.int .i64 0) = some (.pointer (some (addP a 0))) := ia2 (j := 0) (by omega)
theorem ia21 {h : Hp} {a : Addr} : indexAddrP P h t_A2_int (.pointer (some a)) (.int .i64 1) = some (.pointer (some (addP a 1))) := ia2 (j := 1) (by omega)
section
variable {h : Hp} {vj v u : Value} {js : List Job} {xs : List Int} {f g : Int}
theorem areTwo_run (J : Jobs h vj js) (hl : js.length ≤ 2 ^ 40) : Ret P G n_impl_areTwo [vj, .int .i64 f, .int .i64 g] h (.bool (aTwo js f g)) h := by
  refine enter_run e_impl_areTwo (by simp) ?_
  have r1 := isJobs_run J hl
  obtain ⟨oj, cj, rfl⟩ := J.shapeT
  cases c1 : jOk js
  · simp -implicitDefEqProofs [CL_ret r1, c1, aTwo]
  cases c2 : inB f 1 8
  · simp -implicitDefEqProofs [CL_ret r1, c1, aTwo, CL_ret isObjective_run, c2]
  · simp -implicitDefEqProofs [CL_ret r1, c1, aTwo, CL_ret isObjective_run, c2]
theorem l11Two_run : Ret P G n_spec_l11Two [.int .i64 f, .int .i64 g] h (.bool (inB f 1 8 && inB g 1 8)) h := by
  refine enter_run e_spec_l11Two (by simp) ?_
  cases c2 : inB f 1 8
  · simp -implicitDefEqProofs [CL_ret l2Objective_run, c2]
  · simp -implicitDefEqProofs [CL_ret l2Objective_run, c2]
theorem pointOf_run (J : Jobs h vj js) (X : Ints h v xs) (hg : goodL js = true) (hn : js.length ≤ 8) (hf : 1 ≤ f ∧ f ≤ 8) (hg8 : 1 ≤ g ∧ g ≤ 8) (ox : Ord js.length xs) : Ret P G n_impl_pointOf [vj, v, .int .i64 f, .int .i64 g] h (ptv (ptX f g js xs)) h := by
  refine enter_run e_impl_pointOf (by simp) ?_
  have Js := J
  have Xs := X
  obtain ⟨oj, cj, rfl⟩ := J.shapeT
  obtain ⟨oa, ca, rfl⟩ := X.shapeT
  have H0 := (Holds.start (h := h)).alloc [.int .i64 0, .int .i64 0]
  simp -implicitDefEqProofs
  refine CL_post (endsOf_run (Js.pre H0.pre) (Xs.pre H0.pre) hg hn (by rw [ox.len]; exact hn) ox.inn) fun v1 h1 ⟨hp1, ho1, hb1⟩ => ?_
  have H1 := H0.ext hp1
  have rf := valueOfEnds_run (o := f) (Js.pre H1.pre) ho1.sees hg hn endsL_len (fun e he => by have := hb1 e he; omega) hf
  have rg := valueOfEnds_run (o := g) (Js.pre H1.pre) ho1.sees hg hn endsL_len (fun e he => by have := hb1 e he; omega) hg8
  obtain ⟨h2, s2, H2, _⟩ := H1.set (P := P) 0 (n := 2) (o := 0) (ty := t_A2_int) (w := ptv (ptX f g js xs)) rfl rfl e_t_A2_int (by simp) (by simp) (by simp)
  have l2 := H2.bl (P := P) 0 2 rfl rfl
  have s2' : storeP P h1 t_A2_int (.agg #[.int .i64 (valE f js (endsL js xs)), .int .i64 (valE g js (endsL js xs))]) (.pointer (some ⟨h.length, 0, some 2⟩)) = some h2 := s2
  simp -implicitDefEqProofs [CL_ret rf, CL_ret rg, s2', l2]
  exact gcP H2.pre (by simp)
theorem l11Point_run (J : Jobs h vj js) (X : Ints h v xs) (hg : goodL js = true) (hn : js.length ≤ 8) (hf : 1 ≤ f ∧ f ≤ 8) (hg8 : 1 ≤ g ∧ g ≤ 8) (ox : Ord js.length xs) : Ret P G n_spec_l11Point [vj, v, .int .i64 f, .int .i64 g] h (ptv (ptX f g js xs)) h := by
  refine enter_run e_spec_l11Point (by simp) ?_
  have Js := J
  have Xs := X
  obtain ⟨oj, cj, rfl⟩ := J.shapeT
  obtain ⟨oa, ca, rfl⟩ := X.shapeT
  have H0 := (Holds.start (h := h)).alloc [.int .i64 0, .int .i64 0]
  simp -implicitDefEqProofs
  refine CL_post (l2Ends_run (Js.pre H0.pre) (Xs.pre H0.pre) hg hn (by rw [ox.len]; exact hn) ox.inn ox.nd fun i hi => ox.all hi) fun v1 h1 ⟨hp1, ho1, hb1⟩ => ?_
  have H1 := H0.ext hp1
  have rf := l2Of_run (o := f) (Js.pre H1.pre) ho1.sees hg hn endsL_len (fun e he => by have := hb1 e he; omega) hf
  have rg := l2Of_run (o := g) (Js.pre H1.pre) ho1.sees hg hn endsL_len (fun e he => by have := hb1 e he; omega) hg8
  obtain ⟨h2, s2, H2, _⟩ := H1.set (P := P) 0 (n := 2) (o := 0) (ty := t_A2_int) (w := ptv (ptX f g js xs)) rfl rfl e_t_A2_int (by simp) (by simp) (by simp)
  have l2 := H2.bl (P := P) 0 2 rfl rfl
  have s2' : storeP P h1 t_A2_int (.agg #[.int .i64 (valE f js (endsL js xs)), .int .i64 (valE g js (endsL js xs))]) (.pointer (some ⟨h.length, 0, some 2⟩)) = some h2 := s2
  simp -implicitDefEqProofs [CL_ret rf, CL_ret rg, s2', l2]
  exact gcP H2.pre (by simp)
theorem dominates_run {p q : Pt} : Ret P G n_impl_dominates [ptv p, ptv q] h (.bool (domB p q)) h := by
  refine enter_run e_impl_dominates (by simp) ?_
  have H := ((Holds.start (h := h)).alloc [.int .i64 p.1, .int .i64 p.2]).alloc [.int .i64 q.1, .int .i64 q.2]
  simp only [List.append_assoc, List.cons_append, List.nil_append, List.length_append, List.length_cons, List.length_nil, Nat.zero_add] at H
  have l1 := H.bl (P := P) 0 2 rfl rfl
  have l2 := H.bl (P := P) 1 2 rfl rfl
  unfold domB
  cases c1 : (p.1 == q.1 && p.2 == q.2)
  · by_cases c2 : p.1 ≤ q.1
    · simp -implicitDefEqProofs [l1, l2, eqA2, c1, ia20, ia21, c2]
    · simp -implicitDefEqProofs [l1, l2, eqA2, c1, ia20, ia21, c2]
  · simp -implicitDefEqProofs [l1, l2, eqA2, c1]
theorem l11Dominates_run {p q : Pt} : Ret P G n_spec_l11Dominates [ptv p, ptv q] h (.bool (domB p q)) h := by
  refine enter_run e_spec_l11Dominates (by simp) ?_
  have H := ((Holds.start (h := h)).alloc [.int .i64 p.1, .int .i64 p.2]).alloc [.int .i64 q.1, .int .i64 q.2]
  simp only [List.append_assoc, List.cons_append, List.nil_append, List.length_append, List.length_cons, List.length_nil, Nat.zero_add] at H
  have l1 := H.bl (P := P) 0 2 rfl rfl
  have l2 := H.bl (P := P) 1 2 rfl rfl
  unfold domB
  by_cases c2 : p.1 ≤ q.1
  · by_cases c3 : p.2 ≤ q.2
    · cases c1 : (p.1 == q.1 && p.2 == q.2) <;>
        simp -implicitDefEqProofs [l1, l2, eqA2, c1, ia20, ia21, c2, c3]
    · simp -implicitDefEqProofs [l1, l2, eqA2, ia20, ia21, c2, c3]
  · simp -implicitDefEqProofs [l1, l2, eqA2, ia20, ia21, c2]
def ptV (js : List Job) (xs : List Int) (f g : Int) : Pt := if (aTwo js f g && l2OrderL js.length xs) = true then ptX f g js xs else (0, 0)
theorem implPointOf_run (J : Jobs h vj js) (X : Ints h v xs) (hl : js.length ≤ 2 ^ 40) (hx : xs.length ≤ 2 ^ 40) : RunsC P G n_impl_PointOf [vj, v, .int .i64 f, .int .i64 g] h fun w h' => h <+: h' ∧ w = .tuple #[ptv (ptV js xs f g), .bool (aTwo js f g && l2OrderL js.length xs)] := by
  refine hideC fun K hK => enter_run e_impl_PointOf (by simp) ?_
  have H0 := (Holds.start (h := h)).alloc [.int .i64 0, .int .i64 0]
  have r1 := areTwo_run (f := f) (g := g) (J.pre H0.pre) hl
  have r2 := isOrder_run (n := js.length) (X.pre H0.pre) hx
  have Js := J
  have Xs := X
  obtain ⟨oj, cj, rfl⟩ := J.shapeT
  obtain ⟨oa, ca, rfl⟩ := X.shapeT
  have zz : ∃ h2, storeP P (h ++ [some ⟨[.int .i64 0, .int .i64 0], 0, false⟩]) t_A2_int (ptv (0, 0)) (.pointer (some ⟨h.length, 0, some 2⟩)) = some h2 ∧ loadP P h2 t_A2_int (.pointer (some ⟨h.length, 0, some 2⟩)) = some (ptv (0, 0)) ∧ h <+: h2 := by
    obtain ⟨h2, s2, H2, _⟩ := H0.set (P := P) 0 (n := 2) (o := 0) (ty := t_A2_int) (w := ptv (0, 0)) rfl rfl e_t_A2_int (by simp) (by simp) (by simp)
    exact ⟨h2, s2, by rw [H2.bl (P := P) 0 2 rfl rfl]; simp, H2.pre⟩
  obtain ⟨hz, sz, lz, pz⟩ := zz
  cases c1 : aTwo js f g
  · rw [c1] at r1
    simp -implicitDefEqProofs [CL_ret r1, c1, sz, lz]
    exact onK hK ⟨pre_gcU pz, by simp [ptV, *]⟩
  obtain ⟨hn, hg, hf, hg8⟩ := aTwo_of c1
  have e : (((xs.length : Int) == (js.length : Nat)) && arGo js.length [] xs) = l2OrderL js.length xs := by
    rw [order_eq hn, l2OrderL, show inB js.length 0 8 = true by simp [inB]; omega, Bool.true_and]
  rw [e] at r2
  rw [c1] at r1
  cases c2 : l2OrderL js.length xs
  · rw [c2] at r2
    simp -implicitDefEqProofs [CL_ret r1, CL_ret r2, c1, c2, sz, lz]
    exact onK hK ⟨pre_gcU pz, by simp [ptV, *]⟩
  · rw [c2] at r2
    have rp := pointOf_run (f := f) (g := g) (Js.pre H0.pre) (Xs.pre H0.pre) hg hn hf hg8 (ord_of c2)
    obtain ⟨h2, s2, H2, _⟩ := H0.set (P := P) 0 (n := 2) (o := 0) (ty := t_A2_int) (w := ptv (ptX f g js xs)) rfl rfl e_t_A2_int (by simp) (by simp) (by simp)
    have l2 := H2.bl (P := P) 0 2 rfl rfl
    simp -implicitDefEqProofs [-storeP_app0, CL_ret r1, CL_ret r2, c1, c2, CL_ret rp, s2, l2]
    exact onK hK ⟨pre_gcU H2.pre, by simp [ptV, *]⟩
end
end Go.Pm.PP

/- Fronts by the reference. -/
set_option linter.unusedVariables false
set_option linter.unusedSimpArgs false
set_option maxRecDepth 4000
set_option maxHeartbeats 8000000
namespace Go.Pm.PP
open Go.Pm Go.Proofs Go.Pm.PE
theorem Sees.pl {h : Hp} {v : Value} {sz : Nat} {els : List (List Value)} (s : Sees h v sz els) (g : plain v = true) : plainC v = true := by
  obtain ⟨_, oa, c, rfl, _⟩ := s
  exact g
theorem eqPt {p q : Pt} : eqAgg P t_A2_int (ptv p) (ptv q) = some (sameB p q) := eqA2
section
variable {h : Hp} {vj v u : Value} {js : List Job} {xs : List Int} {f g : Int}
theorem l11Put_run {vf : Value} {F : List Pt} {p : Pt} (S : Prs h vf F) (hF : FOk F) : RunsC P G n_spec_l11Put [vf, ptv p] h fun w h' => h <+: h' ∧ Prs h' w (putF F p) := by
  refine hideC fun K hK => enter_run e_spec_l11Put (by simp) ?_
  have Ss := S
  have hFl := hF.len
  obtain ⟨oa, ca, rfl⟩ := S.shapeT
  have H0 := own_nil ((Holds.start (h := h)).alloc [.int .i64 p.1, .int .i64 p.2]) Pt encQ 2
  simp -implicitDefEqProofs
  refine R_loopO (fun m s h' => ∃ i : Nat, i + m = F.length ∧ s = [(0, .slice oa F.length ca), (3, .pointer (some ⟨h.length, 0, some 2⟩)), (5, .slice none 0 0), (6, .int .i64 i)] ∧ coverB (F.take i) p = false ∧ Holds h h' [.box h.length [.int .i64 p.1, .int .i64 p.2], .own (.slice none 0 0) 2 (([] : List Pt).map encQ)]) (fun I hI m s h' => ?_) (n := F.length)
    ⟨0, Nat.zero_add _, by simp, rfl, H0⟩
  rintro ⟨i, hi, rfl, hc, H⟩
  have lp := H.bl (P := P) 0 2 rfl rfl t_A2_int 0
  have Sp := Ss.pre H.pre
  by_cases hlt : i < F.length
  · obtain ⟨q, hq, _⟩ := drop_at hlt
    have lq := load_Q Sp hq
    have rd := fun {hh : Hp} => l11Dominates_run (h := hh) (p := q) (q := p)
    have cs := cover_snoc (p := p) hq
    rw [hc, Bool.false_or] at cs
    cases c1 : sameB q p
    · cases c2 : domB q p
      · rw [c1, c2] at cs
        rw [c2] at rd
        simp -implicitDefEqProofs [-indexAddrP_some, hlt, lq, lp, eqPt, c1, CL_ret rd, CH_at rd, winc hlt (by omega)]
        exact ⟨m - 1, by omega, on hI ⟨i + 1, by omega, rfl, cs, H⟩⟩
      · rw [c2] at rd
        have cm := cover_mono hq (by rw [c2, Bool.or_true] : (sameB q p || domB q p) = true)
        rw [putF, if_pos cm] at hK
        simp -implicitDefEqProofs [-indexAddrP_some, hlt, lq, lp, eqPt, c1, CL_ret rd, CH_at rd]
        exact onK hK ⟨pre_gcU H.pre, Sees.gcU Sp fun g => g⟩
    · have cm := cover_mono hq (by rw [c1]; rfl : (sameB q p || domB q p) = true)
      rw [putF, if_pos cm] at hK
      simp -implicitDefEqProofs [-indexAddrP_some, hlt, lq, lp, eqPt, c1]
      exact onK hK ⟨pre_gcU H.pre, Sees.gcU Sp fun g => g⟩
  · rw [List.take_of_length_le (by omega)] at hc
    rw [putF, if_neg (by rw [hc]; simp)] at hK
    simp -implicitDefEqProofs [hlt]
    refine R_loopO (fun m2 s h2 => ∃ (k : Nat) (b : Bool) (u : Value) (out : List Pt), k + m2 = F.length ∧ s = [(0, .slice oa F.length ca), (3, .pointer (some ⟨h.length, 0, some 2⟩)), (5, u), (7, .bool b), (8, .int .i64 k)] ∧
      (b = true → (∃ q, q ∈ restF (F.take k) p ∧ p.1 < q.1) ∧ out = insP p (restF (F.take k) p)) ∧ (b = false → (∀ q, q ∈ restF (F.take k) p → ¬ p.1 < q.1) ∧ out = restF (F.take k) p) ∧
      Holds h h2 [.box h.length [.int .i64 p.1, .int .i64 p.2], .own u 2 (out.map encQ)]) (fun I2 hI2 m2 s h2 => ?_) (n := F.length)
      ⟨0, false, _, [], Nat.zero_add _, by simp, (fun g => by cases g), (fun _ => ⟨fun q hq => absurd hq List.not_mem_nil, rfl⟩), H⟩
    rintro ⟨k, b, u, out, hk, rfl, hb1, hb2, H2⟩
    have lp := H2.bl (P := P) 0 2 rfl rfl
    have Sp := Ss.pre H2.pre
    have hrl := @rest_len F p k
    have hol : out.length ≤ F.length + 1 := by
      cases b
      · rw [(hb2 rfl).2]; omega
      · rw [(hb1 rfl).2, insP_perm.length_eq, List.length_cons]; omega
    by_cases hlk : k < F.length
    · obtain ⟨q, hq, _⟩ := drop_at hlk
      have lq := load_Q Sp hq
      have rs := rest_snoc (p := p) hq
      have rd := fun {hh : Hp} => l11Dominates_run (h := hh) (p := p) (q := q)
      cases c1 : domB p q
      · rw [c1] at rd rs
        simp only [Bool.false_eq_true, if_false] at rs
        obtain ⟨v3, h3, a3, H3, _⟩ := push_Q0 H2 1 rfl q (by omega)
        have a3' : appendP P (h2 ++ [some ⟨[.int .i64 q.1, .int .i64 q.2], 2, false⟩]) t_S_A2_int u (.slice (some ⟨h2.length, 0, some 2⟩) 1 1) = some (v3, h3) := a3
        cases b
        · by_cases c2 : p.1 < q.1
          · obtain ⟨v4, h4, a4, H4, _⟩ := push_Q0 H2 1 rfl p (by omega)
            have H4' : Holds h h4 [.box h.length [.int .i64 p.1, .int .i64 p.2], .own v4 2 ((out ++ [p]).map encQ)] := H4
            have lq4 := load_Q (Ss.pre H4'.pre) hq
            obtain ⟨v5, h5, a5, H5, _⟩ := push_Q0 H4' 1 rfl q (by simp; omega)
            have lp4 := H4'.bl (P := P) 0 2 rfl rfl
            simp -implicitDefEqProofs [-indexAddrP_some, hlk, lq, lp, CL_ret rd, CH_at rd, ia20, c2, a4, lq4, a5, winc hlk (by omega)]
            refine ⟨m2 - 1, by omega, on hI2 ⟨k + 1, true, v5, out ++ [p] ++ [q], by omega, rfl, fun _ => ⟨⟨q, by rw [rs]; simp, c2⟩, ?_⟩, (fun g => by cases g), H5⟩⟩
            rw [rs, insP_none (hb2 rfl).1, (hb2 rfl).2, insP, if_pos c2]; simp
          · simp -implicitDefEqProofs [-indexAddrP_some, hlk, lq, lp, CL_ret rd, CH_at rd, ia20, c2, a3', winc hlk (by omega)]
            refine ⟨m2 - 1, by omega, on hI2 ⟨k + 1, false, v3, out ++ [q], by omega, rfl, (fun g => by cases g), fun _ => ⟨fun z hz => ?_, by rw [rs, (hb2 rfl).2]⟩, H3⟩⟩
            rw [rs] at hz
            rcases List.mem_append.1 hz with g | g
            · exact (hb2 rfl).1 z g
            · rw [List.mem_singleton.1 g]; exact c2
        · simp -implicitDefEqProofs [-indexAddrP_some, hlk, lq, lp, CL_ret rd, CH_at rd, a3', winc hlk (by omega)]
          refine ⟨m2 - 1, by omega, on hI2 ⟨k + 1, true, v3, out ++ [q], by omega, rfl, fun _ => ⟨?_, by rw [rs, insP_placed (hb1 rfl).1, (hb1 rfl).2]⟩, (fun g => by cases g), H3⟩⟩
          obtain ⟨z, hz, hl⟩ := (hb1 rfl).1
          exact ⟨z, by rw [rs]; exact List.mem_append_left _ hz, hl⟩
      · rw [c1] at rd rs
        simp only [if_true, List.append_nil] at rs
        simp -implicitDefEqProofs [-indexAddrP_some, hlk, lq, lp, CL_ret rd, CH_at rd, winc hlk (by omega)]
        exact ⟨m2 - 1, by omega, on hI2 ⟨k + 1, b, u, out, by omega, rfl, fun g => by rw [rs]; exact hb1 g, fun g => by rw [rs]; exact hb2 g, H2⟩⟩
    · rw [List.take_of_length_le (by omega)] at hb1 hb2
      cases b
      · obtain ⟨v4, h4, a4, H4, _⟩ := push_Q0 H2 1 rfl p (by omega)
        have e : out ++ [p] = insP p (restF F p) := by
          have := insP_none (p := p) (m := []) (hb2 rfl).1
          rw [List.append_nil] at this
          rw [this, (hb2 rfl).2]; rfl
        rw [e] at H4
        simp -implicitDefEqProofs [hlk, lp, a4]
        exact onK hK ⟨pre_gcU H4.pre, Sees.gcU (H4.sees 1 rfl) fun g => Sees.pl (H4.sees 1 rfl) g⟩
      · rw [(hb1 rfl).2] at H2
        simp -implicitDefEqProofs [hlk]
        exact onK hK ⟨pre_gcU H2.pre, Sees.gcU (H2.sees 1 rfl) fun g => Sees.pl (H2.sees 1 rfl) g⟩
def upF (f g : Int) (js : List Job) (F : List Pt) (xs : List Int) : List Pt := putF F (ptX f g js xs)
theorem l11Try_run {js : List Job} {f g : Int} (hg : goodL js = true) (hn : js.length ≤ 8) (hf : 1 ≤ f ∧ f ≤ 8) (hg8 : 1 ≤ g ∧ g ≤ 8) : ∀ {k : Nat} {h : Hp} {vj vb vf : Value} {begun : List Int} {F : List Pt}, Jobs h vj js → Ints h vb begun → Prs h vf F → FOk F → begun.length + k = js.length → inN js.length begun → begun.Nodup →
    RunsC P G n_spec_l11Try [vj, vb, .int .i64 f, .int .i64 g, vf] h fun w h' => h <+: h' ∧ FOk (dfs (upF f g js) js.length k begun F) ∧ Prs h' w (dfs (upF f g js) js.length k begun F)
  | 0, h, vj, vb, vf, begun, F, J, B, S, hF, hk, hin, hnd => by
    refine hideC fun K hK => enter_run e_spec_l11Try (by simp) ?_
    have Js := J
    have Bs := B
    obtain ⟨oj, cj, rfl⟩ := J.shapeT
    obtain ⟨ob, cb, rfl⟩ : ∃ a c, vb = .slice a js.length c := by obtain ⟨a, c, e⟩ := B.shapeT; exact ⟨a, c, by rw [e]; congr 1⟩
    have hx : Ord js.length begun := ⟨by omega, hin, hnd⟩
    have rp := l11Point_run (f := f) (g := g) Js Bs hg hn hf hg8 hx
    have bd := valX_bd (o := f) hg hn hx
    rw [dfs] at hK
    simp -implicitDefEqProofs [CL_ret rp]
    refine CL_post (l11Put_run (p := ptX f g js begun) S hF) fun w h1 ⟨hp1, S1⟩ => ?_
    simp -implicitDefEqProofs
    exact onK hK ⟨pre_gcU hp1, hF.put bd, Sees.gcU S1 fun g => Sees.pl S1 g⟩
  | k + 1, h, vj, vb, vf, begun, F, J, B, S, hF, hk, hin, hnd => by
    refine hideC fun K hK => enter_run e_spec_l11Try (by simp) ?_
    have Js := J
    have Bs := B
    obtain ⟨oj, cj, rfl⟩ := J.shapeT
    obtain ⟨ob, cb, rfl⟩ := B.shapeT
    have hne : ((begun.length : Int) == (js.length : Int)) = false := nb (by omega)
    have hne' : ¬ begun.length = js.length := by omega
    generalize hX : dfs (upF f g js) js.length (k + 1) begun F = X at hK
    rw [dfs] at hX
    simp -implicitDefEqProofs [hne, hne']
    refine R_loopO (fun m st h' => ∃ (i : Nat) (F' : List Pt) (vf' : Value), i + m = js.length ∧ st = [(0, .slice oj js.length cj), (1, .slice ob begun.length cb), (2, .int .i64 f), (3, .int .i64 g), (4, vf'), (11, .int .i64 i)] ∧
      X = (List.range' i m).foldl (fun b (j : Nat) => if begun.any (· == (j : Int)) = true then b else dfs (upF f g js) js.length k (begun ++ [(j : Int)]) b) F' ∧ FOk F' ∧ Prs h' vf' F' ∧ h <+: h') (fun I hI m st h' => ?_) (n := js.length)
      ⟨0, F, vf, Nat.zero_add _, by simp, hX.symm, hF, S, List.prefix_rfl⟩
    rintro ⟨i, F', vf', hi, rfl, hx, hF', S', hp⟩
    by_cases hlt : i < js.length
    · obtain ⟨m', rfl⟩ : ∃ m', m = m' + 1 := ⟨m - 1, by omega⟩
      rw [List.range'_succ, List.foldl_cons] at hx
      have rh := l1Has_run (x := (i : Int)) (Bs.pre hp) (by omega)
      have wi := winc hlt (show js.length ≤ 2 ^ 40 by omega)
      cases c1 : hasL (i : Int) begun
      · have hx' : X = (List.range' (i + 1) m').foldl (fun b (j : Nat) => if begun.any (· == (j : Int)) = true then b else dfs (upF f g js) js.length k (begun ++ [(j : Int)]) b) (dfs (upF f g js) js.length k (begun ++ [(i : Int)]) F') := by
          rw [hx, show begun.any (· == (i : Int)) = false from c1]; rfl
        have hni : (i : Int) ∉ begun := fun g => by rw [hasL_iff'.2 g] at c1; cases c1
        simp -implicitDefEqProofs [hlt, CL_ret rh, c1]
        refine CL_post (l1Own_run (Bs.pre hp) (by omega)) fun v5 h5 ⟨hp5, ho5⟩ => ?_
        have H5 : Holds h' h5 [.own v5 1 (begun.map encI)] := (Holds.start (h := h')).call hp5 ho5
        obtain ⟨v6, h6, ha6, H6, k6, _⟩ := push_I0 H5 0 rfl (i : Int) (by omega)
        have H6' : Holds h' h6 [.own v6 1 ((begun ++ [(i : Int)]).map encI)] := H6
        have ih := l11Try_run hg hn hf hg8 (k := k) (Js.pre (hp.trans H6'.pre)) (H6'.sees 0 rfl) (S'.pre H6'.pre) hF' (by simp; omega) (fun x hx => by
          rcases List.mem_append.1 hx with g | g
          · exact hin x g
          · rw [List.mem_singleton.1 g]; omega) (List.nodup_append.2 ⟨hnd, by simp, fun a ha c hc => by rw [List.mem_singleton.1 hc]; intro e; exact hni (e ▸ ha)⟩)
        simp -implicitDefEqProofs [ha6]
        refine CL_post ih fun w h7 ⟨hp7, hF7, S7⟩ => ?_
        simp -implicitDefEqProofs [wi]
        exact ⟨m', by omega, on hI ⟨i + 1, _, w, by omega, rfl, hx', hF7, S7, hp.trans (H6'.pre.trans hp7)⟩⟩
      · have hx' : X = (List.range' (i + 1) m').foldl (fun b (j : Nat) => if begun.any (· == (j : Int)) = true then b else dfs (upF f g js) js.length k (begun ++ [(j : Int)]) b) F' := by
          rw [hx, show begun.any (· == (i : Int)) = true from c1]; rfl
        simp -implicitDefEqProofs [hlt, CL_ret rh, c1, wi]
        exact ⟨m', by omega, on hI ⟨i + 1, F', _, by omega, rfl, hx', hF', S', hp⟩⟩
    · have hm : m = 0 := by omega
      subst hm
      rw [List.range'_zero, List.foldl_nil] at hx
      subst hx
      simp -implicitDefEqProofs [hlt]
      exact onK hK ⟨pre_gcU hp, hF', Sees.gcU S' fun g => Sees.pl S' g⟩
def frontR (f g : Int) (js : List Job) : List Pt := (ordsL js.length).foldl (upF f g js) []
theorem front_dfs {f g : Int} {js : List Job} : dfs (upF f g js) js.length js.length [] [] = frontR f g js := by
  rw [dfs_perms (by rw [rem_nil]; simp), up_rem]
  rfl
theorem l11Front_run (J : Jobs h vj js) (hg : goodL js = true) (hn : js.length ≤ 8) (hf : 1 ≤ f ∧ f ≤ 8) (hg8 : 1 ≤ g ∧ g ≤ 8) : RunsC P G n_spec_l11Front [vj, .int .i64 f, .int .i64 g] h fun w h' => h <+: h' ∧ FOk (frontR f g js) ∧ Prs h' w (frontR f g js) := by
  refine hideC fun K hK => enter_run e_spec_l11Front (by simp) ?_
  have Js := J
  obtain ⟨oj, cj, rfl⟩ := J.shapeT
  have nilI : Ints h (.slice none 0 0) [] := ⟨by simp, none, 0, rfl, .inl ⟨rfl, rfl, rfl⟩⟩
  have nilQ : Prs h (.slice none 0 0) [] := ⟨by simp, none, 0, rfl, .inl ⟨rfl, rfl, rfl⟩⟩
  have r := l11Try_run hg hn hf hg8 (k := js.length) Js nilI nilQ FOk.nil (by simp) (fun x hx => by cases hx) List.nodup_nil
  rw [front_dfs] at r
  simp -implicitDefEqProofs
  refine CL_post r fun w h1 ⟨hp1, hF1, S1⟩ => ?_
  simp -implicitDefEqProofs
  exact onK hK ⟨pre_gcU hp1, hF1, Sees.gcU S1 fun g => Sees.pl S1 g⟩
end
end Go.Pm.PP

/- Fronts by the program; what both export. -/
set_option linter.unusedVariables false
set_option linter.unusedSimpArgs false
set_option maxRecDepth 4000
set_option maxHeartbeats 16000000
namespace Go.Pm.PP
open Go.Pm Go.Proofs Go.Pm.PE
def bxF (p : Nat) (vf : Value) (F : List Pt) : List Asn := [.box p [vf], .own vf 2 (F.map encQ)]
theorem gcF {hb h h' : Hp} {p : Nat} {vf vf' u : Value} {F F' : List Pt} {L : List Asn} (HL : Holds hb h (bxF p vf F ++ L)) (H' : Holds hb h' (bxF p vf' F' ++ L)) : Holds hb (gc h h' u) (bxF p vf' F' ++ L) := by
  rcases gc_cases' h h' u with g | ⟨hp, g⟩
  · rw [g]; exact H'
  · have e1 := HL.box (cs := [vf]) (r := p) 0 rfl
    have e2 := H'.box (cs := [vf']) (r := p) 0 rfl
    obtain ⟨t, rfl⟩ := hp
    rw [List.getElem?_append_left (List.getElem?_eq_some_iff.1 e1).1, e1] at e2
    cases e2
    exact HL.gcR H' rfl
section
variable {h : Hp} {vj v u : Value} {js : List Job} {xs : List Int} {f g : Int}
/-- The program's look at an order. -/
theorem tellF_run {hb h : Hp} {p rj rf rg : Nat} {vj vf vg : Value} {js : List Job} {f g : Int} {xs : List Int} {F : List Pt} (J : Jobs hb vj js) (bj : hb[rj]? = some (some ⟨[vj], 0, false⟩)) (bf : hb[rf]? = some (some ⟨[.int .i64 f], 0, false⟩)) (bg : hb[rg]? = some (some ⟨[.int .i64 g], 0, false⟩))
    (hgd : goodL js = true) (hn : js.length ≤ 8) (hf : 1 ≤ f ∧ f ≤ 8) (hg8 : 1 ≤ g ∧ g ≤ 8) (hx : Ord js.length xs) (hF : FOk F) (H : Holds hb h (bxF p vf F ++ [.own vg 1 (xs.map encI)])) :
    RunsC P G n_impl_frontOf_1 [vg, .pointer (some ⟨rj, 0, some 1⟩), .pointer (some ⟨rf, 0, some 1⟩), .pointer (some ⟨rg, 0, some 1⟩), .pointer (some ⟨p, 0, some 1⟩)] h fun v h' =>
      ∃ vf', ∀ L, Holds hb h (bxF p vf F ++ L) → Holds hb h' (bxF p vf' (upF f g js F xs) ++ L) := by
  refine hideC fun K hK => enter_run e_impl_frontOf_1 (by simp) ?_
  have SF : Prs h vf F := H.sees 1 rfl
  obtain ⟨f1, f3, rfl⟩ : ∃ a c, vf = .slice a F.length c := SF.shapeT
  have Js := J
  obtain ⟨oj, cj, rfl⟩ := J.shapeT
  have Sg : Ints h vg xs := H.sees 2 rfl
  obtain ⟨g1, g3, rfl⟩ : ∃ a c, vg = .slice a xs.length c := Sg.shapeT
  have lj := load_pre H.pre bj (n := 1) rfl
  have lf := load_pre H.pre bf (n := 1) rfl
  have lg := load_pre H.pre bg (n := 1) rfl
  have rp := pointOf_run (f := f) (g := g) (Js.pre H.pre) Sg hgd hn hf hg8 hx
  have bd := valX_bd (o := f) hgd hn hx
  have hFl := hF.len
  obtain ⟨P0, hP0⟩ : ∃ P0, P0 = ptX f g js xs := ⟨_, rfl⟩
  have eU : upF f g js F xs = putF F P0 := by rw [hP0]; rfl
  rw [← hP0] at rp
  rw [eU] at hK
  have bd : -(2 ^ 30) ≤ P0.1 ∧ P0.1 ≤ 2 ^ 30 := by rw [hP0]; exact bd
  -- what this call makes is its own
  have N0 := (Holds.start (h := h)).alloc [.int .i64 P0.1, .int .i64 P0.2]
  have N1 := own_nil N0 Pt encQ 2
  have lb0 := (H.ext N0.pre).bl (P := P) 0 1 rfl rfl t_S_A2_int 0
  simp -implicitDefEqProofs [lj, lf, lg, CL_ret rp, lb0]
  refine R_loopO (fun m s h' => ∃ (i : Nat) (w : Value), i + m = F.length ∧ s = [(4, .pointer (some ⟨p, 0, some 1⟩)), (6, .pointer (some ⟨h.length, 0, some 2⟩)), (7, w), (16, .slice f1 F.length f3), (17, .int .i64 F.length), (18, .int .i64 i)] ∧ coverB (F.take i) P0 = false ∧
    Holds h h' [.box h.length [.int .i64 P0.1, .int .i64 P0.2], .own w 2 ((restF (F.take i) P0).map encQ)]) (fun I hI m s h' => ?_) (n := F.length)
    ⟨0, _, Nat.zero_add _, by simp, rfl, N1⟩
  rintro ⟨i, w, hi, rfl, hc, N⟩
  have lp := fun {l : Hp} => N.blx (P := P) 0 2 rfl rfl l t_A2_int 0
  have SFn := SF.pre N.pre
  have hrl := @rest_len F P0 i
  by_cases hlt : i < F.length
  · obtain ⟨q, hq, _⟩ := drop_at hlt
    have lq := load_Q SFn hq
    have r1 := fun {hh : Hp} => dominates_run (h := hh) (p := q) (q := P0)
    have r2 := fun {hh : Hp} => dominates_run (h := hh) (p := P0) (q := q)
    have cs := cover_snoc (p := P0) hq
    rw [hc, Bool.false_or] at cs
    have rs := rest_snoc (p := P0) hq
    have covered : (sameB q P0 || domB q P0) = true → ∀ u l, K u (gc h (h' ++ l) u) := fun hcv u l => by
      have cm := cover_mono hq hcv
      rw [putF, if_pos cm] at hK
      exact onK hK ⟨_, fun L HL => gcF HL (HL.ext (N.pre.trans (List.prefix_append ..)))⟩
    cases c1 : sameB q P0
    · cases c2 : domB q P0
      · rw [c1, c2] at cs
        rw [c2] at r1
        cases c3 : domB P0 q
        · rw [c3] at r2 rs
          simp only [Bool.false_eq_true, if_false] at rs
          obtain ⟨v3, h3, a3, N3, _⟩ := push_Q1 N 1 rfl q (a1 := some ⟨[.int .i64 q.1, .int .i64 q.2], 0, false⟩) (by omega)
          have N3 : Holds h h3 [.box h.length [.int .i64 P0.1, .int .i64 P0.2], .own v3 2 ((restF (F.take i) P0 ++ [q]).map encQ)] := N3
          simp -implicitDefEqProofs [-indexAddrP_some, hlt, lq, lp, eqPt, c1, CL_ret r1, CL_ret r2, a3, winc hlt (by omega)]
          exact ⟨m - 1, by omega, on hI ⟨i + 1, v3, by omega, rfl, cs, by rw [rs]; exact N3⟩⟩
        · rw [c3] at r2 rs
          simp only [if_true, List.append_nil] at rs
          simp -implicitDefEqProofs [-indexAddrP_some, hlt, lq, lp, eqPt, c1, CL_ret r1, CL_ret r2, winc hlt (by omega)]
          exact ⟨m - 1, by omega, on hI ⟨i + 1, w, by omega, rfl, cs, by rw [rs]; exact N.ext (List.prefix_append ..)⟩⟩
      · rw [c2] at r1
        simp -implicitDefEqProofs [-indexAddrP_some, hlt, lq, lp, eqPt, c1, CL_ret r1]
        exact covered (by rw [c2, Bool.or_true]) _ _
    · simp -implicitDefEqProofs [-indexAddrP_some, hlt, lq, lp, eqPt, c1]
      exact covered (by rw [c1]; rfl) _ _
  · rw [List.take_of_length_le (by omega)] at hc N hrl
    rw [putF, if_neg (by rw [hc]; simp)] at hK
    have hst : Srt (restF F P0) := rest_srt hF.1
    generalize hR : restF F P0 = R0 at *
    have SW : Prs h' w R0 := N.sees 1 rfl
    obtain ⟨w1, w3, rfl⟩ : ∃ a c, w = .slice a R0.length c := SW.shapeT
    have lpp := N.bl (P := P) 0 2 rfl rfl
    simp -implicitDefEqProofs [hlt]
    refine R_loopO (fun m2 s h2 => ∃ k : Nat, k = m2 ∧ s = [(4, .pointer (some ⟨p, 0, some 1⟩)), (6, .pointer (some ⟨h.length, 0, some 2⟩)), (7, .slice w1 R0.length w3), (10, .int .i64 k)] ∧ h2 = h' ∧ k ≤ R0.length ∧ ∀ i q, k ≤ i → R0[i]? = some q → P0.1 < q.1) (fun I2 hI2 m2 s h2 => ?_) (n := R0.length)
      ⟨R0.length, rfl, by simp, rfl, Nat.le_refl _, fun i q h1 h2 => by have := (List.getElem?_eq_some_iff.1 h2).1; omega⟩
    rintro ⟨k, rfl, rfl, rfl, hk, hgt⟩
    have fin : (∀ q, 0 < k → R0[k - 1]? = some q → ¬ P0.1 < q.1) → ∃ va vb vc h3 dv mv nn h4 h5 h6, appendP P (h2 ++ [some ⟨[.int .i64 P0.1, .int .i64 P0.2], 2, false⟩]) t_S_A2_int (.slice w1 R0.length w3) (.slice (some ⟨h2.length, 0, some 2⟩) 1 1) = some (.slice va vb vc, h3) ∧
        sliceP P h3 t_S_A2_int (.slice va vb vc) (some (.int .i64 ((k : Int) + 1))) none = some dv ∧ sliceP P h3 t_S_A2_int (.slice va vb vc) (some (.int .i64 k)) none = some mv ∧ copyP P h3 t_S_A2_int dv mv = some (.int .i64 nn, h4) ∧
        loadP P h4 t_A2_int (.pointer (some ⟨h.length, 0, some 2⟩)) = some (ptv P0) ∧
        indexAddrP P h4 t_S_A2_int (.slice va vb vc) (.int .i64 k) = some (.pointer (some (addP (base (.slice va vb vc)) (k * 2)))) ∧ storeP P h4 t_A2_int (ptv P0) (.pointer (some (addP (base (.slice va vb vc)) (k * 2)))) = some h5 ∧ storeP P h5 t_S_A2_int (.slice va vb vc) (.pointer (some ⟨p, 0, some 1⟩)) = some h6 ∧ ∀ u, K u (gc h h6 u) := fun hlo => by
      obtain ⟨v2, h3, ha, N3, _⟩ := push_Q0 N 1 rfl P0 (by omega)
      have N3 : Holds h h3 [.box h.length [.int .i64 P0.1, .int .i64 P0.2], .own v2 2 ((R0 ++ [P0]).map encQ)] := N3
      obtain ⟨dv, mv, nn, h4, s1, s2, s3, N4, _⟩ := N3.shift (P := P) 1 rfl (k := k) u_S_A2_int i_A2_int (ones_Q _) (by simp; omega)
      have e1 : (((R0 ++ [P0]).map encQ).take (k + 1) ++ (((R0 ++ [P0]).map encQ).drop k).take (((R0 ++ [P0]).map encQ).length - (k + 1))) = ((R0 ++ [P0]).take (k + 1) ++ ((R0 ++ [P0]).drop k).take ((R0 ++ [P0]).length - (k + 1))).map encQ := by
        generalize R0 ++ [P0] = ws
        rw [List.map_append, List.map_take, List.map_take, List.map_drop, List.length_map]
      rw [e1] at N4
      have hlen : ((R0 ++ [P0]).take (k + 1) ++ ((R0 ++ [P0]).drop k).take ((R0 ++ [P0]).length - (k + 1))).length = R0.length + 1 := by simp; omega
      obtain ⟨h5, s5, N5, _⟩ := put_Q N4 1 rfl (j := k) (by rw [hlen]; omega) P0
      rw [shift_setP hk, ← insP_back hst hk hgt hlo] at N5
      have N5 : Holds h h5 [.box h.length [.int .i64 P0.1, .int .i64 P0.2], .own v2 2 ((insP P0 R0).map encQ)] := N5
      have N4' : Holds h h4 [.box h.length [.int .i64 P0.1, .int .i64 P0.2], .own v2 2 (((R0 ++ [P0]).take (k + 1) ++ ((R0 ++ [P0]).drop k).take ((R0 ++ [P0]).length - (k + 1))).map encQ)] := N4
      obtain ⟨z, hz, _⟩ := drop_at (show k < ((R0 ++ [P0]).take (k + 1) ++ ((R0 ++ [P0]).drop k).take ((R0 ++ [P0]).length - (k + 1))).length by rw [hlen]; omega)
      have ix := (load_Q (N4'.sees 1 rfl) hz).1
      have lp4 := N4'.bl (P := P) 0 2 rfl rfl t_A2_int 0
      have sv2 : Prs h5 v2 (insP P0 R0) := N5.sees 1 rfl
      obtain ⟨va, vc, rfl⟩ : ∃ a c, v2 = .slice a (insP P0 R0).length c := sv2.shapeT
      obtain ⟨h6, s6, H6, _⟩ := (H.ext N5.pre).set (P := P) 0 (n := 1) (o := 0) (ty := t_S_A2_int) (w := .slice va (insP P0 R0).length vc) rfl rfl e_t_S_A2_int (by simp) (by simp) (by simp)
      refine ⟨_, _, _, h3, dv, mv, nn, h4, h5, h6, ha, s1, s2, s3, by rw [lp4]; simp, ix, s5, s6, fun u => onK hK ⟨.slice va (insP P0 R0).length vc, fun L HL => ?_⟩⟩
      have HJ := Holds.joinT (L := bxF p (.slice f1 F.length f3) F) (T := L) (A := [.own (.slice va (insP P0 R0).length vc) 2 ((insP P0 R0).map encQ)]) (M := []) HL (N5.one 1 rfl)
      obtain ⟨h6', s6', H6', _⟩ := HJ.set (P := P) 0 (n := 1) (o := 0) (ty := t_S_A2_int) (w := .slice va (insP P0 R0).length vc) rfl rfl e_t_S_A2_int (by simp) (by simp) (by simp)
      rw [s6] at s6'; cases s6'
      have H7 : Holds hb h6 (([.box p [.slice va (insP P0 R0).length vc]] ++ [.own (.slice f1 F.length f3) 2 (F.map encQ)]) ++ ([.own (.slice va (insP P0 R0).length vc) 2 ((insP P0 R0).map encQ)] ++ L)) := H6'
      have H8 : Holds hb h6 (bxF p (.slice va (insP P0 R0).length vc) (insP P0 R0) ++ L) := H7.cut
      exact gcF HL H8
    have wk : IntKind.i64.wrap ((k : Int) + 1) = (k : Int) + 1 := by rw [wrap_ok] <;> omega
    by_cases h0 : 0 < k
    · obtain ⟨q, hq, _⟩ := drop_at (show k - 1 < R0.length by omega)
      have w1' : IntKind.i64.wrap ((k : Int) - 1) = ((k - 1 : Nat) : Int) := by rw [wrap_ok] <;> omega
      have lq := load_Q SW hq
      have h0' : (0 : Int) < k := by omega
      by_cases c1 : P0.1 < q.1
      · simp -implicitDefEqProofs [-indexAddrP_some, h0, h0', w1', lq, ia20, lpp, c1]
        refine ⟨k - 1, by omega, on hI2 ⟨k - 1, rfl, rfl, rfl, by omega, fun t x ht hx => ?_⟩⟩
        rcases Nat.eq_or_lt_of_le ht with g | g
        · rw [← g, hq] at hx; cases hx; exact c1
        · exact hgt t x (by omega) hx
      · obtain ⟨va, vb, vc, h3, dv, mv, nn, h4, h5, h6, ha, s1, s2, s3, lp4, ix, s5, s6, fK⟩ := fin (fun x _ hx => by rw [hq] at hx; cases hx; exact c1)
        simp -implicitDefEqProofs [-indexAddrP_some, h0, h0', w1', lq, ia20, lpp, c1, ha, wk, s1, s2, s3, lp4, ix, s5, s6]
        exact fK _
    · obtain ⟨va, vb, vc, h3, dv, mv, nn, h4, h5, h6, ha, s1, s2, s3, lp4, ix, s5, s6, fK⟩ := fin (fun x h => absurd h h0)
      have h0' : ¬ (0 : Int) < k := by omega
      simp -implicitDefEqProofs [-indexAddrP_some, h0, h0', lpp, ha, wk, s1, s2, s3, lp4, ix, s5, s6]
      exact fK _
theorem frontOf_run (J : Jobs h vj js) (hg : goodL js = true) (hn : js.length ≤ 8) (hf : 1 ≤ f ∧ f ≤ 8) (hg8 : 1 ≤ g ∧ g ≤ 8) : RunsC P G n_impl_frontOf [vj, .int .i64 f, .int .i64 g] h fun w h' => h <+: h' ∧ FOk (frontR f g js) ∧ Prs h' w (frontR f g js) := by
  refine hideC fun K hK => enter_run e_impl_frontOf (by simp) ?_
  have Js := J
  obtain ⟨oj, cj, rfl⟩ := J.shapeT
  have H0 := ((Holds.start.alloc [.slice oj js.length cj] (h := h)).alloc [.int .i64 f]).alloc [.int .i64 g]
  simp only [List.append_assoc, List.cons_append, List.nil_append, List.length_append, List.length_cons, List.length_nil, Nat.zero_add] at H0
  generalize hHb : h ++ [some ⟨[.slice oj js.length cj], 0, false⟩, some ⟨[.int .i64 f], 0, false⟩, some ⟨[.int .i64 g], 0, false⟩] = hb at H0
  have hbl : hb.length = h.length + 1 + 1 + 1 := by rw [← hHb]; simp
  have E : Holds hb (hb ++ [some ⟨[.slice none 0 0], 0, false⟩]) (bxF hb.length (.slice none 0 0) [] ++ []) := own_nil ((Holds.start (h := hb)).alloc [.slice none 0 0]) Pt encQ 2
  have er := eachOrder_run (hb := hb) (g := n_impl_frontOf_1) (c := #[.pointer (some ⟨h.length, 0, some 1⟩), .pointer (some ⟨h.length + 1, 0, some 1⟩), .pointer (some ⟨h.length + 1 + 1, 0, some 1⟩), .pointer (some ⟨hb.length, 0, some 1⟩)]) hn
    (Q := fun i BX => ∃ vf, BX = bxF hb.length vf (((ordsL js.length).take i).foldl (upF f g js) []) ∧ FOk (((ordsL js.length).take i).foldl (upF f g js) []))
    (fun i BX i' BX' h h' L u ⟨vf, e, k1⟩ ⟨vf', e', k2⟩ HL H' => by
      subst e; subst e'
      exact gcF HL H')
    (fun i xs h BX vg ⟨vf, eBX, kf⟩ hxs HB => by
      subst eBX
      have ox := ords_ord (List.mem_of_getElem? hxs)
      refine RunsC.mono (tellF_run (Js.pre H0.pre) (H0.box 0 rfl) (H0.box 1 rfl) (H0.box 2 rfl) hg hn hf hg8 ox kf HB) fun v h' ⟨vf', F⟩ => ?_
      have es : ((ordsL js.length).take (i + 1)).foldl (upF f g js) [] = upF f g js (((ordsL js.length).take i).foldl (upF f g js) []) xs := by
        rw [take_succ' hxs, List.foldl_append, List.foldl_cons, List.foldl_nil]
      refine ⟨_, ⟨vf', rfl, by rw [es]; exact kf.put (valX_bd hg hn ox)⟩, fun L HL => ?_⟩
      rw [es]
      exact F L HL) ⟨_, rfl, FOk.nil⟩ E
  have hcount : hb ++ [some ⟨[.slice none 0 0], 0, false⟩] = h ++ [some ⟨[.slice oj js.length cj], 0, false⟩, some ⟨[.int .i64 f], 0, false⟩, some ⟨[.int .i64 g], 0, false⟩, some ⟨[.slice none 0 0], 0, false⟩] := by rw [← hHb]; simp
  rw [hcount, hbl] at er
  rw [hcount, hbl] at E
  simp -implicitDefEqProofs
  refine CL_post er fun v h4 ⟨BX', ⟨vf, eBX, kF⟩, F⟩ => ?_
  subst eBX
  have H4 := F [] E
  rw [List.take_length] at H4 kF
  have s4 : Prs h4 vf (frontR f g js) := H4.sees 1 rfl
  obtain ⟨a, c, rfl⟩ : ∃ a c, vf = .slice a (frontR f g js).length c := s4.shapeT
  have l0 := H4.bl (P := P) 0 1 rfl rfl
  simp only [Nat.add_assoc, Nat.reduceAdd] at l0
  simp -implicitDefEqProofs [l0]
  exact onK hK ⟨pre_gcU (H0.pre.trans H4.pre), kF, Sees.gcU s4 fun g => g⟩
end
end Go.Pm.PP

/- Fronts: what both export. -/
set_option linter.unusedVariables false
set_option linter.unusedSimpArgs false
set_option maxRecDepth 4000
set_option maxHeartbeats 16000000
namespace Go.Pm.PP
open Go.Pm Go.Proofs Go.Pm.PE
def frV (js : List Job) (f g : Int) : List Pt := if aTwo js f g = true then frontR f g js else []
section
variable {h : Hp} {vj v u : Value} {js : List Job} {xs : List Int} {f g : Int}
theorem implFrontOf_run (J : Jobs h vj js) (hl : js.length ≤ 2 ^ 40) : RunsC P G n_impl_FrontOf [vj, .int .i64 f, .int .i64 g] h fun w h' => h <+: h' ∧ ∃ d, w = .tuple #[d, .bool (aTwo js f g)] ∧ Prs h' d (frV js f g) ∧ FOk (frV js f g) := by
  refine hideC fun K hK => enter_run e_impl_FrontOf (by simp) ?_
  have r1 := areTwo_run (f := f) (g := g) J hl
  have Js := J
  obtain ⟨oj, cj, rfl⟩ := J.shapeT
  cases c1 : aTwo js f g
  · rw [frV, c1] at hK
    simp -implicitDefEqProofs [CL_ret r1, c1]
    exact onK hK ⟨List.prefix_rfl, _, rfl, ⟨by simp, none, 0, rfl, .inl ⟨rfl, rfl, rfl⟩⟩, FOk.nil⟩
  · obtain ⟨hn, hg, hf, hg8⟩ := aTwo_of c1
    rw [frV, c1, if_pos rfl] at hK
    simp -implicitDefEqProofs [CL_ret r1, c1]
    refine CL_post (frontOf_run (f := f) (g := g) Js hg hn hf hg8) fun w h1 ⟨hp1, hF, S1⟩ => ?_
    simp -implicitDefEqProofs
    exact onK hK ⟨pre_gcU hp1, _, rfl, Sees.gcU S1 fun g => plainT (r := [_]) g, hF⟩
theorem aTwo_eq {js : List Job} {f g : Int} : aTwo js f g = (jOk js && (inB f 1 8 && inB g 1 8)) := by unfold aTwo; rw [Bool.and_assoc]
theorem specFrontOf_run (J : Jobs h vj js) (hl : js.length ≤ 2 ^ 40) : RunsC P G n_spec_FrontOf [vj, .int .i64 f, .int .i64 g] h fun w h' => h <+: h' ∧ ∃ d, w = .tuple #[d, .bool (aTwo js f g)] ∧ Prs h' d (frV js f g) ∧ FOk (frV js f g) := by
  refine hideC fun K hK => enter_run e_spec_FrontOf (by simp) ?_
  have r1 := good_run J hl
  have Js := J
  obtain ⟨oj, cj, rfl⟩ := J.shapeT
  have bad : aTwo js f g = false → K (.tuple #[.slice none 0 0, .bool false]) h := fun e => by
    rw [frV, e] at hK
    exact onK hK ⟨List.prefix_rfl, _, rfl, ⟨by simp, none, 0, rfl, .inl ⟨rfl, rfl, rfl⟩⟩, FOk.nil⟩
  cases c1 : jOk js
  · simp -implicitDefEqProofs [CL_ret r1, c1]
    exact bad (by rw [aTwo_eq, c1]; rfl)
  cases c2 : (inB f 1 8 && inB g 1 8)
  · simp -implicitDefEqProofs [CL_ret r1, c1, CL_ret l11Two_run, c2]
    exact bad (by rw [aTwo_eq, c2, Bool.and_false])
  · have c3 : aTwo js f g = true := by rw [aTwo_eq, c1, c2]; rfl
    obtain ⟨hn, hg, hf, hg8⟩ := aTwo_of c3
    rw [frV, c3, if_pos rfl] at hK
    simp -implicitDefEqProofs [CL_ret r1, c1, CL_ret l11Two_run, c2]
    refine CL_post (l11Front_run (f := f) (g := g) Js hg hn hf hg8) fun w h1 ⟨hp1, hF, S1⟩ => ?_
    simp -implicitDefEqProofs
    exact onK hK ⟨pre_gcU hp1, _, rfl, Sees.gcU S1 fun g => plainT (r := [_]) g, hF⟩
/-! ### the first order with a point -/
end
end Go.Pm.PP

/- The first order with a point of a front, by both; the draw. -/
set_option linter.unusedVariables false
set_option linter.unusedSimpArgs false
set_option maxRecDepth 4000
set_option maxHeartbeats 16000000
namespace Go.Pm.PP
open Go.Pm Go.Proofs Go.Pm.PE
/-! ### a search for the first one -/
section
variable {h : Hp} {vj v u : Value} {js : List Job} {xs : List Int} {f g : Int}
end
/-! ### in plain terms -/
theorem front_facts {f g : Int} {js : List Job} (hn : js.length ≤ 8) : Srt (frontR f g js) ∧ (∀ q, q ∈ frontR f g js → ∃ xs, Ord js.length xs ∧ ptX f g js xs = q) ∧ (∀ xs, Ord js.length xs → ∃ q, q ∈ frontR f g js ∧ q.1 ≤ valX f js xs ∧ q.2 ≤ valX g js xs) := by
  obtain ⟨h1, h2, h3⟩ := front_fold (pt := ptX f g js) (l := ordsL js.length) (F := []) (S := fun q => ∃ xs, Ord js.length xs ∧ ptX f g js xs = q) List.Pairwise.nil (fun q hq => by cases hq) fun xs hx => ⟨xs, ords_ord hx, rfl⟩
  exact ⟨h1, h2, fun xs ox => h3 (ptX f g js xs) (.inl ⟨xs, ord_mem ox, rfl⟩)⟩
end Go.Pm.PP

/- Searches of least mixtures and under limits, by the reference. -/
set_option linter.unusedVariables false
set_option linter.unusedSimpArgs false
set_option maxRecDepth 4000
set_option maxHeartbeats 16000000
namespace Go.Pm.PP
open Go.Pm Go.Proofs Go.Pm.PE
/-- The first of the least ones of those that pass. -/
def updG (ok : List Int → Bool) (V : List Int → Int) (b : Sr) (xs : List Int) : Sr := if ok xs = true ∧ (b.c = 0 ∨ V xs < b.v) then ⟨xs, V xs, 1⟩ else b
def mixV (f g x y : Int) (js : List Job) (xs : List Int) : Int := x * valX f js xs + y * valX g js xs
def bestG (ok : List Int → Bool) (V : List Int → Int) (n : Nat) : Sr := (ordsL n).foldl (updG ok V) sr0
theorem bestG_dfs {ok : List Int → Bool} {V : List Int → Int} {n : Nat} : dfs (updG ok V) n n [] sr0 = bestG ok V n := by
  rw [dfs_perms (by rw [up_rem, upTo_len]), up_rem]; rfl
theorem mul99 {x p : Int} (hx : 0 ≤ x ∧ x ≤ 99) (hp : -(2 ^ 30) ≤ p ∧ p ≤ 2 ^ 30) : -(99 * 2 ^ 30) ≤ x * p ∧ x * p ≤ 99 * 2 ^ 30 := by
  have h1 := Int.mul_le_mul_of_nonneg_left hp.2 hx.1
  have h2 := Int.mul_le_mul_of_nonneg_left hp.1 hx.1
  constructor <;> omega
theorem upd_fold {ok : List Int → Bool} {V : List Int → Int} : ∀ {l : List (List Int)} {b : Sr} {S : List Int → Prop}, (∀ x, x ∈ l → S x) → (b = sr0 ∨ (b.c = 1 ∧ ok b.o = true ∧ V b.o = b.v ∧ S b.o)) →
    ((l.foldl (updG ok V) b = sr0 ∧ b = sr0 ∧ ∀ x, x ∈ l → ok x = false) ∨ ((l.foldl (updG ok V) b).c = 1 ∧ ok (l.foldl (updG ok V) b).o = true ∧ V (l.foldl (updG ok V) b).o = (l.foldl (updG ok V) b).v ∧ S (l.foldl (updG ok V) b).o ∧ (b.c = 1 → (l.foldl (updG ok V) b).v ≤ b.v) ∧ ∀ x, x ∈ l → ok x = true → (l.foldl (updG ok V) b).v ≤ V x))
  | [], b, S, _, hb => by
    rcases hb with rfl | ⟨h1, h2, h3, h4⟩
    · exact .inl ⟨rfl, rfl, fun x hx => by cases hx⟩
    · exact .inr ⟨h1, h2, h3, h4, fun _ => Int.le_refl _, fun x hx => by cases hx⟩
  | x :: l, b, S, hl, hb => by
    rw [List.foldl_cons]
    by_cases c : ok x = true ∧ (b.c = 0 ∨ V x < b.v)
    · have e : updG ok V b x = ⟨x, V x, 1⟩ := by unfold updG; rw [if_pos c]
      rw [e]
      rcases upd_fold (b := ⟨x, V x, 1⟩) (fun y hy => hl y (List.mem_cons_of_mem _ hy)) (.inr ⟨rfl, c.1, rfl, hl x (List.mem_cons_self ..)⟩) with h | ⟨h1, h2, h3, h4, h5, h6⟩
      · exact absurd h.2.1 (fun g => by have : (1 : Int) = 0 := congrArg Sr.c g; omega)
      · have h5 := h5 rfl
        refine .inr ⟨h1, h2, h3, h4, fun g => ?_, fun y hy hok => ?_⟩
        · rcases c.2 with g' | g'
          · omega
          · exact Int.le_trans h5 (Int.le_of_lt g')
        · rcases List.mem_cons.1 hy with rfl | hy
          · exact h5
          · exact h6 y hy hok
    · have e : updG ok V b x = b := by unfold updG; rw [if_neg c]
      rw [e]
      rcases upd_fold (b := b) (fun y hy => hl y (List.mem_cons_of_mem _ hy)) hb with ⟨h1, h2, h3⟩ | ⟨h1, h2, h3, h4, h5, h6⟩
      · refine .inl ⟨h1, h2, fun y hy => ?_⟩
        rcases List.mem_cons.1 hy with rfl | hy
        · subst h2
          cases ho : ok y
          · rfl
          · exact absurd ⟨ho, .inl rfl⟩ c
        · exact h3 y hy
      · refine .inr ⟨h1, h2, h3, h4, h5, fun y hy hok => ?_⟩
        rcases List.mem_cons.1 hy with rfl | hy
        · rcases hb with rfl | ⟨g1, _⟩
          · exact absurd ⟨hok, .inl rfl⟩ c
          · have := h5 g1
            have : ¬ V y < b.v := fun g => c ⟨hok, .inr g⟩
            omega
        · exact h6 y hy hok
theorem bestG_facts {ok : List Int → Bool} {V : List Int → Int} {n : Nat} : (bestG ok V n = sr0 ∧ ∀ xs, Ord n xs → ok xs = false) ∨ ((bestG ok V n).c = 1 ∧ ok (bestG ok V n).o = true ∧ V (bestG ok V n).o = (bestG ok V n).v ∧ Ord n (bestG ok V n).o ∧ ∀ xs, Ord n xs → ok xs = true → (bestG ok V n).v ≤ V xs) := by
  rcases upd_fold (ok := ok) (V := V) (l := ordsL n) (b := sr0) (S := Ord n) (fun x hx => ords_ord hx) (.inl rfl) with ⟨h1, _, h3⟩ | ⟨h1, h2, h3, h4, _, h6⟩
  · exact .inl ⟨h1, fun xs ox => h3 xs (ord_mem ox)⟩
  · exact .inr ⟨h1, h2, h3, h4, fun xs ox => h6 xs (ord_mem ox)⟩

theorem l11Mix_run {js : List Job} {f g x y : Int} (hg : goodL js = true) (hn : js.length ≤ 8) (hf : 1 ≤ f ∧ f ≤ 8) (hg8 : 1 ≤ g ∧ g ≤ 8) (hx0 : 0 ≤ x ∧ x ≤ 99) (hy0 : 0 ≤ y ∧ y ≤ 99) : ∀ {k : Nat} {h : Hp} {vj vb vo : Value} {begun : List Int} {b : Sr}, Jobs h vj js → Ints h vb begun → Ints h vo b.o → begun.length + k = js.length → inN js.length begun → begun.Nodup → b.o.length ≤ 8 →
    RunsC P G n_spec_l11Mix [vj, vb, .int .i64 f, .int .i64 g, .int .i64 x, .int .i64 y, sv3 vo b] h fun v h' => h <+: h' ∧ (dfs (updG (fun _ => true) (mixV f g x y js)) js.length k begun b).o.length ≤ 8 ∧ ∃ vo', v = sv3 vo' (dfs (updG (fun _ => true) (mixV f g x y js)) js.length k begun b) ∧ Ints h' vo' (dfs (updG (fun _ => true) (mixV f g x y js)) js.length k begun b).o
  | 0, h, vj, vb, vo, begun, b, J, B, O, hk, hin, hnd, hol => by
    refine hideC fun K hK => enter_run e_spec_l11Mix (by simp) ?_
    have Js := J
    have Bs := B
    have Os := O
    obtain ⟨oj, cj, rfl⟩ := J.shapeT
    obtain ⟨ob, cb, rfl⟩ : ∃ a c, vb = .slice a js.length c := by obtain ⟨a, c, e⟩ := B.shapeT; exact ⟨a, c, by rw [e]; congr 1⟩
    obtain ⟨od, cd, rfl⟩ := O.shapeT
    have hx : Ord js.length begun := ⟨by omega, hin, hnd⟩
    have hl : begun.length = js.length := hx.len
    have H0 := (Holds.start.alloc [.slice od b.o.length cd, .int .i64 b.v, .int .i64 b.c] (h := h)).alloc [.slice none 0 0, .int .i64 0, .int .i64 0]
    simp only [List.append_assoc, List.cons_append, List.nil_append, List.length_append, List.length_cons, List.length_nil, Nat.zero_add] at H0
    have rp := l11Point_run (f := f) (g := g) (Js.pre H0.pre) (Bs.pre H0.pre) hg hn hf hg8 hx
    have b1 := valX_bd (o := f) hg hn hx
    have b2 := valX_bd (o := g) hg hn hx
    have e1 : (ptX f g js begun).1 = valX f js begun := rfl
    have e2 : (ptX f g js begun).2 = valX g js begun := rfl
    rw [← e1] at b1
    rw [← e2] at b2
    rw [dfs] at hK
    generalize hP : ptX f g js begun = p at *
    have hV : mixV f g x y js begun = x * p.1 + y * p.2 := by rw [← hP]; rfl
    have m1 := mul99 hx0 b1
    have m2 := mul99 hy0 b2
    have w1 : IntKind.i64.wrap (x * p.1) = x * p.1 := by rw [wrap_ok] <;> omega
    have w2 : IntKind.i64.wrap (y * p.2) = y * p.2 := by rw [wrap_ok] <;> omega
    have w3 : IntKind.i64.wrap (x * p.1 + y * p.2) = x * p.1 + y * p.2 := by rw [wrap_ok] <;> omega
    have H1 := H0.alloc [.int .i64 p.1, .int .i64 p.2]
    simp only [List.append_assoc, List.cons_append, List.nil_append, List.length_append, List.length_cons, List.length_nil, Nat.zero_add, Nat.add_assoc, Nat.reduceAdd] at H1
    have lp := H1.bl (P := P) 2 2 rfl rfl
    have lb := H1.bl (P := P) 0 3 rfl rfl
    by_cases c1 : b.c = 0 ∨ x * p.1 + y * p.2 < b.v
    · have e : updG (fun _ => true) (mixV f g x y js) b begun = ⟨begun, x * p.1 + y * p.2, 1⟩ := by unfold updG; rw [hV, if_pos ⟨rfl, c1⟩]
      rw [e] at hK
      obtain ⟨h2, s2, H2, _⟩ := H1.set (P := P) 1 (n := 3) (o := 0) (ty := t_spec_l2Search) (w := sv3 (.slice ob js.length cb) ⟨begun, x * p.1 + y * p.2, 1⟩) rfl rfl e_t_spec_l2Search (by simp) (by simp) (by simp)
      have l2 := H2.bl (P := P) 1 3 rfl rfl
      have fin : K (sv3 (.slice ob js.length cb) ⟨begun, x * p.1 + y * p.2, 1⟩) (gc h h2 (sv3 (.slice ob js.length cb) ⟨begun, x * p.1 + y * p.2, 1⟩)) := onK hK ⟨pre_gcU H2.pre, by rw [hl]; exact hn, _, rfl, Sees.gcU (Bs.pre H2.pre) plain3⟩
      rcases Classical.em (b.c = 0) with c2 | c2
      · simp -implicitDefEqProofs [-storeP_app0, CL_ret rp, ia20, ia21, lp, lb, w1, w2, w3, show (b.c == 0) = true by simpa using c2, s2, l2]
        exact fin
      · have c3 : x * p.1 + y * p.2 < b.v := by rcases c1 with g | g; exact absurd g c2; exact g
        simp -implicitDefEqProofs [-storeP_app0, CL_ret rp, ia20, ia21, lp, lb, w1, w2, w3, nb c2, c3, s2, l2]
        exact fin
    · have e : updG (fun _ => true) (mixV f g x y js) b begun = b := by unfold updG; rw [hV, if_neg (fun q => c1 q.2)]
      rw [e] at hK
      have c2 : ¬ b.c = 0 := fun g => c1 (.inl g)
      have c3 : ¬ x * p.1 + y * p.2 < b.v := fun g => c1 (.inr g)
      obtain ⟨h2, s2, H2, k2⟩ := H1.set (P := P) 1 (n := 3) (o := 0) (ty := t_spec_l2Search) (w := sv3 (.slice od b.o.length cd) b) rfl rfl e_t_spec_l2Search (by simp) (by simp) (by simp)
      have l2 := H2.bl (P := P) 1 3 rfl rfl
      simp -implicitDefEqProofs [-storeP_app0, CL_ret rp, ia20, ia21, lp, lb, w1, w2, w3, nb c2, c3, s2, l2]
      exact onK hK ⟨pre_gcU H2.pre, hol, _, rfl, Sees.gcU (Os.pre H2.pre) plain3⟩
  | k + 1, h, vj, vb, vo, begun, b, J, B, O, hk, hin, hnd, hol => by
    refine hideC fun K hK => enter_run e_spec_l11Mix (by simp) ?_
    have Js := J
    have Bs := B
    have Os := O
    obtain ⟨oj, cj, rfl⟩ := J.shapeT
    obtain ⟨ob, cb, rfl⟩ := B.shapeT
    obtain ⟨od, cd, rfl⟩ := O.shapeT
    have hne : ((begun.length : Int) == (js.length : Int)) = false := nb (by omega)
    have H0 := (Holds.start.alloc [.slice od b.o.length cd, .int .i64 b.v, .int .i64 b.c] (h := h)).alloc [.slice none 0 0, .int .i64 0, .int .i64 0]
    simp only [List.append_assoc, List.cons_append, List.nil_append, List.length_append, List.length_cons, List.length_nil, Nat.zero_add] at H0
    generalize hX : dfs (updG (fun _ => true) (mixV f g x y js)) js.length (k + 1) begun b = X at hK
    rw [dfs] at hX
    have hne' : ¬ begun.length = js.length := by omega
    simp -implicitDefEqProofs [hne, hne']
    refine R_loopO (fun m st h' => ∃ (i : Nat) (b' : Sr) (vo' : Value), i + m = js.length ∧ st = [(0, .slice oj js.length cj), (1, .slice ob begun.length cb), (2, .int .i64 f), (3, .int .i64 g), (4, .int .i64 x), (5, .int .i64 y), (13, .pointer (some ⟨h.length, 0, some 3⟩)), (14, .pointer (some ⟨h.length + 1, 0, some 3⟩)), (17, .int .i64 i)] ∧
      X = (List.range' i m).foldl (fun b (j : Nat) => if begun.any (· == (j : Int)) = true then b else dfs (updG (fun _ => true) (mixV f g x y js)) js.length k (begun ++ [(j : Int)]) b) b' ∧ b'.o.length ≤ 8 ∧ Ints h' vo' b'.o ∧
      Holds h h' [.box h.length [vo', .int .i64 b'.v, .int .i64 b'.c], .box (h.length + 1) [.slice none 0 0, .int .i64 0, .int .i64 0]]) (fun I hI m st h' => ?_) (n := js.length)
      ⟨0, b, .slice od b.o.length cd, Nat.zero_add _, by simp, hX.symm, hol, Os.pre H0.pre, H0⟩
    rintro ⟨i, b', vo', hi, rfl, hx, hbl, O', H⟩
    have Ons := O'
    obtain ⟨oq, cn, rfl⟩ := O'.shapeT
    by_cases hlt : i < js.length
    · obtain ⟨m', rfl⟩ : ∃ m', m = m' + 1 := ⟨m - 1, by omega⟩
      rw [List.range'_succ, List.foldl_cons] at hx
      have rh := l1Has_run (x := (i : Int)) (Bs.pre H.pre) (by omega)
      have wi := winc hlt (show js.length ≤ 2 ^ 40 by omega)
      cases c1 : hasL (i : Int) begun
      · have hx' : X = (List.range' (i + 1) m').foldl (fun b (j : Nat) => if begun.any (· == (j : Int)) = true then b else dfs (updG (fun _ => true) (mixV f g x y js)) js.length k (begun ++ [(j : Int)]) b) (dfs (updG (fun _ => true) (mixV f g x y js)) js.length k (begun ++ [(i : Int)]) b') := by
          rw [hx, show begun.any (· == (i : Int)) = false from c1]; rfl
        have hni : (i : Int) ∉ begun := fun g => by rw [hasL_iff'.2 g] at c1; cases c1
        simp -implicitDefEqProofs [hlt, CL_ret rh, c1]
        refine CG_post (l1Own_run (Bs.pre H.pre) (by omega)).new fun v5 h5 ⟨⟨hp5, ho5⟩, hn5⟩ => ⟨hn5 hp5, ?_⟩
        have H5 : Holds h' h5 [.own v5 1 (begun.map encI)] := (Holds.start (h := h')).call hp5 ho5
        obtain ⟨v6, h6, ha6, H6, k6, _⟩ := push_I0 H5 0 rfl (i : Int) (by omega)
        have H6' : Holds h' h6 [.own v6 1 ((begun ++ [(i : Int)]).map encI)] := H6
        have n6 : NR h'.length (h5 ++ [some ⟨[.int .i64 (i : Int)], 1, false⟩]) := (hn5 hp5).nr.new [.int .i64 (i : Int)] 1
        have md := app_mod (b := h'.length) rfl n6 ha6 (hp5.trans (List.prefix_append ..)) H6'.pre
        have HH6 := H.ext H6'.pre
        have ih := l11Mix_run hg hn hf hg8 hx0 hy0 (k := k) (Js.pre HH6.pre) (H6'.sees 0 rfl) (Ons.pre H6'.pre) (by simp; omega) (fun x hx => by
          rcases List.mem_append.1 hx with g | g
          · exact hin x g
          · rw [List.mem_singleton.1 g]; omega) (List.nodup_append.2 ⟨hnd, by simp, fun a ha c hc => by rw [List.mem_singleton.1 hc]; intro e; exact hni (e ▸ ha)⟩) hbl
        obtain ⟨d1, d2, d3, rfl⟩ : ∃ a n c, v5 = .slice a n c := by obtain ⟨a, c, e⟩ := ho5.sees.shape; exact ⟨_, _, _, e⟩
        obtain ⟨e1, e2, e3, rfl⟩ : ∃ a n c, v6 = .slice a n c := by obtain ⟨a, c, e⟩ := (H6'.sees 0 rfl).shape; exact ⟨_, _, _, e⟩
        simp -implicitDefEqProofs [ha6, md, HH6.bl 0 3 rfl rfl]
        refine CL_post ih fun v h7 ⟨hp7, hb7, vo7, ev7, O7⟩ => ?_
        subst ev7
        generalize dfs (updG (fun _ => true) (mixV f g x y js)) js.length k (begun ++ [(i : Int)]) b' = b7 at hx' hb7 O7
        have O7s := O7
        obtain ⟨f1, f2, rfl⟩ := O7.shapeT
        have H7 := HH6.ext hp7
        obtain ⟨h8, s8, H8, k8⟩ := H7.set (P := P) 0 (n := 3) (o := 0) (ty := t_spec_l2Search) (w := sv3 (.slice f1 b7.o.length f2) b7) rfl rfl e_t_spec_l2Search (by simp) (by simp) (by simp)
        have bx := H7.box 0 rfl
        simp -implicitDefEqProofs [s8, wi]
        exact ⟨m', by omega, on hI ⟨i + 1, b7, _, by omega, rfl, hx', hb7, Sees.boxK O7s (by omega) bx k8, by simpa using H8⟩⟩
      · have hx' : X = (List.range' (i + 1) m').foldl (fun b (j : Nat) => if begun.any (· == (j : Int)) = true then b else dfs (updG (fun _ => true) (mixV f g x y js)) js.length k (begun ++ [(j : Int)]) b) b' := by
          rw [hx, show begun.any (· == (i : Int)) = true from c1]; rfl
        simp -implicitDefEqProofs [hlt, CL_ret rh, c1, wi]
        exact ⟨m', by omega, on hI ⟨i + 1, b', _, by omega, rfl, hx', hbl, Ons, H⟩⟩
    · have hm : m = 0 := by omega
      subst hm
      have hx' : X = b' := by simpa using hx
      subst hx'
      obtain ⟨h8, s8, H8, k8⟩ := H.set (P := P) 1 (n := 3) (o := 0) (ty := t_spec_l2Search) (w := sv3 (.slice oq X.o.length cn) X) rfl rfl e_t_spec_l2Search (by simp) (by simp) (by simp)
      simp -implicitDefEqProofs [hlt, H.bl 0 3 rfl rfl, s8, H8.bl 1 3 rfl rfl]
      exact onK hK ⟨pre_gcU H8.pre, hbl, _, rfl, Sees.gcU (Sees.boxK Ons (by omega) (H.box 1 rfl) k8) plain3⟩

theorem l11Under_run {js : List Job} {f g lim : Int} (hg : goodL js = true) (hn : js.length ≤ 8) (hf : 1 ≤ f ∧ f ≤ 8) (hg8 : 1 ≤ g ∧ g ≤ 8) : ∀ {k : Nat} {h : Hp} {vj vb vo : Value} {begun : List Int} {b : Sr}, Jobs h vj js → Ints h vb begun → Ints h vo b.o → begun.length + k = js.length → inN js.length begun → begun.Nodup → b.o.length ≤ 8 →
    RunsC P G n_spec_l11Under [vj, vb, .int .i64 f, .int .i64 g, .int .i64 lim, sv3 vo b] h fun v h' => h <+: h' ∧ (dfs (updG (fun xs => decide (valX g js xs ≤ lim)) (valX f js)) js.length k begun b).o.length ≤ 8 ∧ ∃ vo', v = sv3 vo' (dfs (updG (fun xs => decide (valX g js xs ≤ lim)) (valX f js)) js.length k begun b) ∧ Ints h' vo' (dfs (updG (fun xs => decide (valX g js xs ≤ lim)) (valX f js)) js.length k begun b).o
  | 0, h, vj, vb, vo, begun, b, J, B, O, hk, hin, hnd, hol => by
    refine hideC fun K hK => enter_run e_spec_l11Under (by simp) ?_
    have Js := J
    have Bs := B
    have Os := O
    obtain ⟨oj, cj, rfl⟩ := J.shapeT
    obtain ⟨ob, cb, rfl⟩ : ∃ a c, vb = .slice a js.length c := by obtain ⟨a, c, e⟩ := B.shapeT; exact ⟨a, c, by rw [e]; congr 1⟩
    obtain ⟨od, cd, rfl⟩ := O.shapeT
    have hx : Ord js.length begun := ⟨by omega, hin, hnd⟩
    have hl : begun.length = js.length := hx.len
    have H0 := (Holds.start.alloc [.slice od b.o.length cd, .int .i64 b.v, .int .i64 b.c] (h := h)).alloc [.slice none 0 0, .int .i64 0, .int .i64 0]
    simp only [List.append_assoc, List.cons_append, List.nil_append, List.length_append, List.length_cons, List.length_nil, Nat.zero_add] at H0
    have rp := l11Point_run (f := f) (g := g) (Js.pre H0.pre) (Bs.pre H0.pre) hg hn hf hg8 hx
    have b1 := valX_bd (o := f) hg hn hx
    have b2 := valX_bd (o := g) hg hn hx
    have e1 : (ptX f g js begun).1 = valX f js begun := rfl
    have e2 : (ptX f g js begun).2 = valX g js begun := rfl
    rw [← e1] at b1
    rw [← e2] at b2
    rw [dfs] at hK
    generalize hP : ptX f g js begun = p at *
    have hV : valX f js begun = p.1 := by rw [← hP]; rfl
    have hW : valX g js begun = p.2 := by rw [← hP]; rfl
    have H1 := H0.alloc [.int .i64 p.1, .int .i64 p.2]
    simp only [List.append_assoc, List.cons_append, List.nil_append, List.length_append, List.length_cons, List.length_nil, Nat.zero_add, Nat.add_assoc, Nat.reduceAdd] at H1
    have lp := H1.bl (P := P) 2 2 rfl rfl
    have lb := H1.bl (P := P) 0 3 rfl rfl
    have other : ¬ (p.2 ≤ lim ∧ (b.c = 0 ∨ p.1 < b.v)) → ∃ h2, storeP P (h ++ [some ⟨[.slice od b.o.length cd, .int .i64 b.v, .int .i64 b.c], 0, false⟩, some ⟨[.slice none 0 0, .int .i64 0, .int .i64 0], 0, false⟩, some ⟨[.int .i64 p.1, .int .i64 p.2], 0, false⟩]) t_spec_l2Search (sv3 (.slice od b.o.length cd) b) (.pointer (some ⟨h.length + 1, 0, some 3⟩)) = some h2 ∧
        loadP P h2 t_spec_l2Search (.pointer (some ⟨h.length + 1, 0, some 3⟩)) = some (sv3 (.slice od b.o.length cd) b) ∧ K (sv3 (.slice od b.o.length cd) b) (gc h h2 (sv3 (.slice od b.o.length cd) b)) := fun c1 => by
      have e : updG (fun xs => decide (valX g js xs ≤ lim)) (valX f js) b begun = b := by unfold updG; simp only [hV, hW, decide_eq_true_eq]; rw [if_neg c1]
      rw [e] at hK
      obtain ⟨h2, s2, H2, k2⟩ := H1.set (P := P) 1 (n := 3) (o := 0) (ty := t_spec_l2Search) (w := sv3 (.slice od b.o.length cd) b) rfl rfl e_t_spec_l2Search (by simp) (by simp) (by simp)
      have l2 := H2.bl (P := P) 1 3 rfl rfl
      exact ⟨h2, s2, by rw [l2]; simp, onK hK ⟨pre_gcU H2.pre, hol, _, rfl, Sees.gcU (Os.pre H2.pre) plain3⟩⟩
    have self : p.2 ≤ lim ∧ (b.c = 0 ∨ p.1 < b.v) → ∃ h2, storeP P (h ++ [some ⟨[.slice od b.o.length cd, .int .i64 b.v, .int .i64 b.c], 0, false⟩, some ⟨[.slice none 0 0, .int .i64 0, .int .i64 0], 0, false⟩, some ⟨[.int .i64 p.1, .int .i64 p.2], 0, false⟩]) t_spec_l2Search (sv3 (.slice ob js.length cb) ⟨begun, p.1, 1⟩) (.pointer (some ⟨h.length + 1, 0, some 3⟩)) = some h2 ∧
        loadP P h2 t_spec_l2Search (.pointer (some ⟨h.length + 1, 0, some 3⟩)) = some (sv3 (.slice ob js.length cb) ⟨begun, p.1, 1⟩) ∧ K (sv3 (.slice ob js.length cb) ⟨begun, p.1, 1⟩) (gc h h2 (sv3 (.slice ob js.length cb) ⟨begun, p.1, 1⟩)) := fun c1 => by
      have e : updG (fun xs => decide (valX g js xs ≤ lim)) (valX f js) b begun = ⟨begun, p.1, 1⟩ := by unfold updG; simp only [hV, hW, decide_eq_true_eq]; rw [if_pos c1]
      rw [e] at hK
      obtain ⟨h2, s2, H2, _⟩ := H1.set (P := P) 1 (n := 3) (o := 0) (ty := t_spec_l2Search) (w := sv3 (.slice ob js.length cb) ⟨begun, p.1, 1⟩) rfl rfl e_t_spec_l2Search (by simp) (by simp) (by simp)
      have l2 := H2.bl (P := P) 1 3 rfl rfl
      exact ⟨h2, s2, by rw [l2]; simp, onK hK ⟨pre_gcU H2.pre, by rw [hl]; exact hn, _, rfl, Sees.gcU (Bs.pre H2.pre) plain3⟩⟩
    by_cases c0 : p.2 ≤ lim
    · rcases Classical.em (b.c = 0) with c2 | c2
      · obtain ⟨h2, s2, l2, fin⟩ := self ⟨c0, .inl c2⟩
        simp -implicitDefEqProofs [-storeP_app0, CL_ret rp, ia20, ia21, lp, lb, c0, show (b.c == 0) = true by simpa using c2, s2, l2]
        exact fin
      · by_cases c3 : p.1 < b.v
        · obtain ⟨h2, s2, l2, fin⟩ := self ⟨c0, .inr c3⟩
          simp -implicitDefEqProofs [-storeP_app0, CL_ret rp, ia20, ia21, lp, lb, c0, nb c2, c3, s2, l2]
          exact fin
        · obtain ⟨h2, s2, l2, fin⟩ := other (fun q => by rcases q.2 with g | g; exact c2 g; exact c3 g)
          simp -implicitDefEqProofs [-storeP_app0, CL_ret rp, ia20, ia21, lp, lb, c0, nb c2, c3, s2, l2]
          exact fin
    · obtain ⟨h2, s2, l2, fin⟩ := other (fun q => c0 q.1)
      simp -implicitDefEqProofs [-storeP_app0, CL_ret rp, ia20, ia21, lp, lb, c0, s2, l2]
      exact fin
  | k + 1, h, vj, vb, vo, begun, b, J, B, O, hk, hin, hnd, hol => by
    refine hideC fun K hK => enter_run e_spec_l11Under (by simp) ?_
    have Js := J
    have Bs := B
    have Os := O
    obtain ⟨oj, cj, rfl⟩ := J.shapeT
    obtain ⟨ob, cb, rfl⟩ := B.shapeT
    obtain ⟨od, cd, rfl⟩ := O.shapeT
    have hne : ((begun.length : Int) == (js.length : Int)) = false := nb (by omega)
    have H0 := (Holds.start.alloc [.slice od b.o.length cd, .int .i64 b.v, .int .i64 b.c] (h := h)).alloc [.slice none 0 0, .int .i64 0, .int .i64 0]
    simp only [List.append_assoc, List.cons_append, List.nil_append, List.length_append, List.length_cons, List.length_nil, Nat.zero_add] at H0
    generalize hX : dfs (updG (fun xs => decide (valX g js xs ≤ lim)) (valX f js)) js.length (k + 1) begun b = X at hK
    rw [dfs] at hX
    have hne' : ¬ begun.length = js.length := by omega
    simp -implicitDefEqProofs [hne, hne']
    refine R_loopO (fun m st h' => ∃ (i : Nat) (b' : Sr) (vo' : Value), i + m = js.length ∧ st = [(0, .slice oj js.length cj), (1, .slice ob begun.length cb), (2, .int .i64 f), (3, .int .i64 g), (4, .int .i64 lim), (11, .pointer (some ⟨h.length, 0, some 3⟩)), (12, .pointer (some ⟨h.length + 1, 0, some 3⟩)), (14, .int .i64 i)] ∧
      X = (List.range' i m).foldl (fun b (j : Nat) => if begun.any (· == (j : Int)) = true then b else dfs (updG (fun xs => decide (valX g js xs ≤ lim)) (valX f js)) js.length k (begun ++ [(j : Int)]) b) b' ∧ b'.o.length ≤ 8 ∧ Ints h' vo' b'.o ∧
      Holds h h' [.box h.length [vo', .int .i64 b'.v, .int .i64 b'.c], .box (h.length + 1) [.slice none 0 0, .int .i64 0, .int .i64 0]]) (fun I hI m st h' => ?_) (n := js.length)
      ⟨0, b, .slice od b.o.length cd, Nat.zero_add _, by simp, hX.symm, hol, Os.pre H0.pre, H0⟩
    rintro ⟨i, b', vo', hi, rfl, hx, hbl, O', H⟩
    have Ons := O'
    obtain ⟨oq, cn, rfl⟩ := O'.shapeT
    by_cases hlt : i < js.length
    · obtain ⟨m', rfl⟩ : ∃ m', m = m' + 1 := ⟨m - 1, by omega⟩
      rw [List.range'_succ, List.foldl_cons] at hx
      have rh := l1Has_run (x := (i : Int)) (Bs.pre H.pre) (by omega)
      have wi := winc hlt (show js.length ≤ 2 ^ 40 by omega)
      cases c1 : hasL (i : Int) begun
      · have hx' : X = (List.range' (i + 1) m').foldl (fun b (j : Nat) => if begun.any (· == (j : Int)) = true then b else dfs (updG (fun xs => decide (valX g js xs ≤ lim)) (valX f js)) js.length k (begun ++ [(j : Int)]) b) (dfs (updG (fun xs => decide (valX g js xs ≤ lim)) (valX f js)) js.length k (begun ++ [(i : Int)]) b') := by
          rw [hx, show begun.any (· == (i : Int)) = false from c1]; rfl
        have hni : (i : Int) ∉ begun := fun g => by rw [hasL_iff'.2 g] at c1; cases c1
        simp -implicitDefEqProofs [hlt, CL_ret rh, c1]
        refine CG_post (l1Own_run (Bs.pre H.pre) (by omega)).new fun v5 h5 ⟨⟨hp5, ho5⟩, hn5⟩ => ⟨hn5 hp5, ?_⟩
        have H5 : Holds h' h5 [.own v5 1 (begun.map encI)] := (Holds.start (h := h')).call hp5 ho5
        obtain ⟨v6, h6, ha6, H6, k6, _⟩ := push_I0 H5 0 rfl (i : Int) (by omega)
        have H6' : Holds h' h6 [.own v6 1 ((begun ++ [(i : Int)]).map encI)] := H6
        have n6 : NR h'.length (h5 ++ [some ⟨[.int .i64 (i : Int)], 1, false⟩]) := (hn5 hp5).nr.new [.int .i64 (i : Int)] 1
        have md := app_mod (b := h'.length) rfl n6 ha6 (hp5.trans (List.prefix_append ..)) H6'.pre
        have HH6 := H.ext H6'.pre
        have ih := l11Under_run hg hn hf hg8 (lim := lim) (k := k) (Js.pre HH6.pre) (H6'.sees 0 rfl) (Ons.pre H6'.pre) (by simp; omega) (fun x hx => by
          rcases List.mem_append.1 hx with g | g
          · exact hin x g
          · rw [List.mem_singleton.1 g]; omega) (List.nodup_append.2 ⟨hnd, by simp, fun a ha c hc => by rw [List.mem_singleton.1 hc]; intro e; exact hni (e ▸ ha)⟩) hbl
        obtain ⟨d1, d2, d3, rfl⟩ : ∃ a n c, v5 = .slice a n c := by obtain ⟨a, c, e⟩ := ho5.sees.shape; exact ⟨_, _, _, e⟩
        obtain ⟨e1, e2, e3, rfl⟩ : ∃ a n c, v6 = .slice a n c := by obtain ⟨a, c, e⟩ := (H6'.sees 0 rfl).shape; exact ⟨_, _, _, e⟩
        simp -implicitDefEqProofs [ha6, md, HH6.bl 0 3 rfl rfl]
        refine CL_post ih fun v h7 ⟨hp7, hb7, vo7, ev7, O7⟩ => ?_
        subst ev7
        generalize dfs (updG (fun xs => decide (valX g js xs ≤ lim)) (valX f js)) js.length k (begun ++ [(i : Int)]) b' = b7 at hx' hb7 O7
        have O7s := O7
        obtain ⟨f1, f2, rfl⟩ := O7.shapeT
        have H7 := HH6.ext hp7
        obtain ⟨h8, s8, H8, k8⟩ := H7.set (P := P) 0 (n := 3) (o := 0) (ty := t_spec_l2Search) (w := sv3 (.slice f1 b7.o.length f2) b7) rfl rfl e_t_spec_l2Search (by simp) (by simp) (by simp)
        have bx := H7.box 0 rfl
        simp -implicitDefEqProofs [s8, wi]
        exact ⟨m', by omega, on hI ⟨i + 1, b7, _, by omega, rfl, hx', hb7, Sees.boxK O7s (by omega) bx k8, by simpa using H8⟩⟩
      · have hx' : X = (List.range' (i + 1) m').foldl (fun b (j : Nat) => if begun.any (· == (j : Int)) = true then b else dfs (updG (fun xs => decide (valX g js xs ≤ lim)) (valX f js)) js.length k (begun ++ [(j : Int)]) b) b' := by
          rw [hx, show begun.any (· == (i : Int)) = true from c1]; rfl
        simp -implicitDefEqProofs [hlt, CL_ret rh, c1, wi]
        exact ⟨m', by omega, on hI ⟨i + 1, b', _, by omega, rfl, hx', hbl, Ons, H⟩⟩
    · have hm : m = 0 := by omega
      subst hm
      have hx' : X = b' := by simpa using hx
      subst hx'
      obtain ⟨h8, s8, H8, k8⟩ := H.set (P := P) 1 (n := 3) (o := 0) (ty := t_spec_l2Search) (w := sv3 (.slice oq X.o.length cn) X) rfl rfl e_t_spec_l2Search (by simp) (by simp) (by simp)
      simp -implicitDefEqProofs [hlt, H.bl 0 3 rfl rfl, s8, H8.bl 1 3 rfl rfl]
      exact onK hK ⟨pre_gcU H8.pre, hbl, _, rfl, Sees.gcU (Sees.boxK Ons (by omega) (H.box 1 rfl) k8) plain3⟩

end Go.Pm.PP

/- Least mixtures, by both. -/
set_option linter.unusedVariables false
set_option linter.unusedSimpArgs false
set_option maxRecDepth 4000
set_option maxHeartbeats 16000000
namespace Go.Pm.PP
open Go.Pm Go.Proofs Go.Pm.PE
def bxM (p q : Nat) (b : Sr) : List Asn := [.box p [.int .i64 b.v], .box q [.bool !(b.c == 0)]]
theorem gcM {hb h h' : Hp} {p q : Nat} {u : Value} {b b' : Sr} {L : List Asn} (HL : Holds hb h (bxM p q b ++ L)) (H' : Holds hb h' (bxM p q b' ++ L)) : Holds hb (gc h h' u) (bxM p q b' ++ L) := by
  rcases gc_cases' h h' u with g | ⟨hp, g⟩
  · rw [g]; exact H'
  · have e1 := HL.box (cs := [.int .i64 b.v]) (r := p) 0 rfl
    have e2 := H'.box (cs := [.int .i64 b'.v]) (r := p) 0 rfl
    have e3 := HL.box (cs := [.bool !(b.c == 0)]) (r := q) 1 rfl
    have e4 := H'.box (cs := [.bool !(b'.c == 0)]) (r := q) 1 rfl
    obtain ⟨t, rfl⟩ := hp
    rw [List.getElem?_append_left (List.getElem?_eq_some_iff.1 e1).1, e1] at e2
    rw [List.getElem?_append_left (List.getElem?_eq_some_iff.1 e3).1, e3] at e4
    have q1 : b.v = b'.v := by cases b; cases b'; cases e2; rfl
    have q2 : (b.c == 0) = (b'.c == 0) := by
      have e5 : (!(b.c == 0)) = !(b'.c == 0) := by
        injection e4 with e4; injection e4 with e4; injection e4 with e4; injection e4 with e4; injection e4 with e4
      cases g1 : b.c == 0 <;> cases g2 : b'.c == 0 <;> simp [g1, g2] at e5 ⊢
    rw [g, bxM, ← q1, ← q2]
    exact HL
theorem tellM_run {hb h : Hp} {p q rj rf rg rx ry : Nat} {vj vg : Value} {js : List Job} {f g x y : Int} {xs : List Int} {b : Sr} (J : Jobs hb vj js)
    (bj : hb[rj]? = some (some ⟨[vj], 0, false⟩)) (bf : hb[rf]? = some (some ⟨[.int .i64 f], 0, false⟩)) (bg : hb[rg]? = some (some ⟨[.int .i64 g], 0, false⟩)) (bx : hb[rx]? = some (some ⟨[.int .i64 x], 0, false⟩)) (by' : hb[ry]? = some (some ⟨[.int .i64 y], 0, false⟩))
    (hgd : goodL js = true) (hn : js.length ≤ 8) (hf : 1 ≤ f ∧ f ≤ 8) (hg8 : 1 ≤ g ∧ g ≤ 8) (hx0 : 0 ≤ x ∧ x ≤ 99) (hy0 : 0 ≤ y ∧ y ≤ 99) (hx : Ord js.length xs) (H : Holds hb h (bxM p q b ++ [.own vg 1 (xs.map encI)])) :
    RunsC P G n_impl_LeastMix_1 [vg, .pointer (some ⟨rj, 0, some 1⟩), .pointer (some ⟨rf, 0, some 1⟩), .pointer (some ⟨rg, 0, some 1⟩), .pointer (some ⟨rx, 0, some 1⟩), .pointer (some ⟨ry, 0, some 1⟩), .pointer (some ⟨q, 0, some 1⟩), .pointer (some ⟨p, 0, some 1⟩)] h fun v h' =>
      ∀ L, Holds hb h (bxM p q b ++ L) → Holds hb h' (bxM p q (updG (fun _ => true) (mixV f g x y js) b xs) ++ L) := by
  refine hideC fun K hK => enter_run e_impl_LeastMix_1 (by simp) ?_
  have Js := J
  obtain ⟨oj, cj, rfl⟩ := J.shapeT
  have Sg : Ints h vg xs := H.sees 2 rfl
  obtain ⟨g1, g3, rfl⟩ : ∃ a c, vg = .slice a xs.length c := Sg.shapeT
  have lj := load_pre H.pre bj (n := 1) rfl
  have lf := load_pre H.pre bf (n := 1) rfl
  have lg := load_pre H.pre bg (n := 1) rfl
  have rp := pointOf_run (f := f) (g := g) (Js.pre H.pre) Sg hgd hn hf hg8 hx
  have b1 := valX_bd (o := f) hgd hn hx
  have b2 := valX_bd (o := g) hgd hn hx
  have e1 : (ptX f g js xs).1 = valX f js xs := rfl
  have e2 : (ptX f g js xs).2 = valX g js xs := rfl
  rw [← e1] at b1
  rw [← e2] at b2
  generalize hP : ptX f g js xs = pt at *
  have hV : mixV f g x y js xs = x * pt.1 + y * pt.2 := by rw [← hP]; rfl
  have m1 := mul99 hx0 b1
  have m2 := mul99 hy0 b2
  have w1 : IntKind.i64.wrap (x * pt.1) = x * pt.1 := by rw [wrap_ok] <;> omega
  have w2 : IntKind.i64.wrap (y * pt.2) = y * pt.2 := by rw [wrap_ok] <;> omega
  have w3 : IntKind.i64.wrap (x * pt.1 + y * pt.2) = x * pt.1 + y * pt.2 := by rw [wrap_ok] <;> omega
  have N1 := (Holds.start (h := h)).alloc [.int .i64 pt.1, .int .i64 pt.2]
  have pN : h <+: h ++ [some ⟨[.int .i64 pt.1, .int .i64 pt.2], 0, false⟩] := List.prefix_append ..
  have lp := N1.bl (P := P) 0 2 rfl rfl
  have lx := load_pre (H.pre.trans pN) bx (n := 1) rfl
  have ly := load_pre (H.pre.trans pN) by' (n := 1) rfl
  have HN := H.ext pN
  have lv := HN.bl (P := P) 0 1 rfl rfl
  have lc := HN.bl (P := P) 1 1 rfl rfl
  by_cases c1 : b.c = 0 ∨ x * pt.1 + y * pt.2 < b.v
  · have e : updG (fun _ => true) (mixV f g x y js) b xs = ⟨xs, x * pt.1 + y * pt.2, 1⟩ := by unfold updG; rw [hV, if_pos ⟨rfl, c1⟩]
    rw [e] at hK
    obtain ⟨h2, s2, H2, _⟩ := HN.set (P := P) 0 (n := 1) (o := 0) (ty := t_int) (w := .int .i64 (x * pt.1 + y * pt.2)) rfl rfl e_t_int (by simp) (by simp) (by simp)
    obtain ⟨h3, s3, H3, _⟩ := H2.set (P := P) 1 (n := 1) (o := 0) (ty := t_bool) (w := .bool true) rfl rfl e_t_bool (by simp) (by simp) (by simp)
    have fin : ∀ u, K u (gc h h3 u) := fun u => onK hK fun L HL => by
      obtain ⟨h2', s2', H2', _⟩ := (HL.ext pN).set (P := P) 0 (n := 1) (o := 0) (ty := t_int) (w := .int .i64 (x * pt.1 + y * pt.2)) rfl rfl e_t_int (by simp) (by simp) (by simp)
      rw [s2] at s2'; cases s2'
      obtain ⟨h3', s3', H3', _⟩ := H2'.set (P := P) 1 (n := 1) (o := 0) (ty := t_bool) (w := .bool true) rfl rfl e_t_bool (by simp) (by simp) (by simp)
      rw [s3] at s3'; cases s3'
      exact gcM (b' := ⟨xs, x * pt.1 + y * pt.2, 1⟩) HL H3'
    rcases Classical.em (b.c = 0) with c2 | c2
    · simp -implicitDefEqProofs [lj, lf, lg, CL_ret rp, ia20, ia21, lp, lx, ly, lv, lc, w1, w2, w3, show (b.c == 0) = true by simpa using c2, s2, s3]
      exact fin _
    · have c3 : x * pt.1 + y * pt.2 < b.v := by rcases c1 with g | g; exact absurd g c2; exact g
      simp -implicitDefEqProofs [lj, lf, lg, CL_ret rp, ia20, ia21, lp, lx, ly, lv, lc, w1, w2, w3, nb c2, c3, s2, s3]
      exact fin _
  · have e : updG (fun _ => true) (mixV f g x y js) b xs = b := by unfold updG; rw [hV, if_neg (fun q => c1 q.2)]
    rw [e] at hK
    have c2 : ¬ b.c = 0 := fun g => c1 (.inl g)
    have c3 : ¬ x * pt.1 + y * pt.2 < b.v := fun g => c1 (.inr g)
    simp -implicitDefEqProofs [lj, lf, lg, CL_ret rp, ia20, ia21, lp, lx, ly, lv, lc, w1, w2, w3, nb c2, c3]
    exact onK hK fun L HL => gcM HL (HL.ext pN)
def mixOk (js : List Job) (f g x y : Int) : Bool := aTwo js f g && inB x 0 99 && inB y 0 99
def mixB (js : List Job) (f g x y : Int) : Sr := bestG (fun _ => true) (mixV f g x y js) js.length
def mixR (js : List Job) (f g x y : Int) : Int := if mixOk js f g x y = true then (mixB js f g x y).v else 0
section
variable {h : Hp} {vj v u : Value} {js : List Job} {xs : List Int} {f g x y : Int}
theorem in99 (h : inB x 0 99 = true) : 0 ≤ x ∧ x ≤ 99 := by simpa [inB] using h
theorem implLeastMix_run (J : Jobs h vj js) (hl : js.length ≤ 2 ^ 40) : RunsC P G n_impl_LeastMix [vj, .int .i64 f, .int .i64 g, .int .i64 x, .int .i64 y] h fun w h' => h <+: h' ∧ w = .tuple #[.int .i64 (mixR js f g x y), .bool (mixOk js f g x y)] := by
  refine hideC fun K hK => enter_run e_impl_LeastMix (by simp) ?_
  have Js := J
  obtain ⟨oj, cj, rfl⟩ := J.shapeT
  have H0 := (((((Holds.start (h := h)).alloc [.slice oj js.length cj]).alloc [.int .i64 f]).alloc [.int .i64 g]).alloc [.int .i64 x]).alloc [.int .i64 y]
  simp only [List.append_assoc, List.cons_append, List.nil_append, List.length_append, List.length_cons, List.length_nil, Nat.zero_add] at H0
  have r1 := areTwo_run (f := f) (g := g) (Js.pre H0.pre) hl
  have bad : mixOk js f g x y = false → K (.tuple #[.int .i64 0, .bool false]) h := fun e => onK hK ⟨List.prefix_rfl, by rw [mixR, e]; rfl⟩
  have bad' : mixOk js f g x y = false → ∀ l, K (.tuple #[.int .i64 0, .bool false]) (gc h (h ++ l) (.tuple #[.int .i64 0, .bool false])) := fun e l => onK hK ⟨pre_gcU (List.prefix_append ..), by rw [mixR, e]; rfl⟩
  cases c1 : aTwo js f g
  · rw [c1] at r1
    simp -implicitDefEqProofs [CL_ret r1]
    exact bad (by rw [mixOk, c1]; rfl)
  cases c2 : inB x 0 99
  · rw [c1] at r1
    simp -implicitDefEqProofs [CL_ret r1, CL_ret within_run, c2]
    exact bad (by rw [mixOk, c1, c2]; rfl)
  cases c3 : inB y 0 99
  · rw [c1] at r1
    simp -implicitDefEqProofs [CL_ret r1, CL_ret within_run, c2, c3]
    exact bad (by rw [mixOk, c1, c2, c3]; rfl)
  have cm : mixOk js f g x y = true := by rw [mixOk, c1, c2, c3]; rfl
  rw [mixR, cm, if_pos rfl] at hK
  rw [c1] at r1
  obtain ⟨hn, hg, hf, hg8⟩ := aTwo_of c1
  generalize hHb : h ++ [some ⟨[.slice oj js.length cj], 0, false⟩, some ⟨[.int .i64 f], 0, false⟩, some ⟨[.int .i64 g], 0, false⟩, some ⟨[.int .i64 x], 0, false⟩, some ⟨[.int .i64 y], 0, false⟩] = hb at H0
  have hbl : hb.length = h.length + 1 + 1 + 1 + 1 + 1 := by rw [← hHb]; simp
  have E : Holds hb (hb ++ [some ⟨[.int .i64 0], 0, false⟩, some ⟨[.bool false], 0, false⟩]) (bxM hb.length (hb.length + 1) sr0 ++ []) := by
    have := ((Holds.start (h := hb)).alloc [.int .i64 0]).alloc [.bool false]
    simp only [List.append_assoc, List.cons_append, List.nil_append, List.length_append, List.length_cons, List.length_nil, Nat.zero_add] at this
    exact this
  have er := eachOrder_run (hb := hb) (g := n_impl_LeastMix_1) (c := #[.pointer (some ⟨h.length, 0, some 1⟩), .pointer (some ⟨h.length + 1, 0, some 1⟩), .pointer (some ⟨h.length + 1 + 1, 0, some 1⟩), .pointer (some ⟨h.length + 1 + 1 + 1, 0, some 1⟩), .pointer (some ⟨h.length + 1 + 1 + 1 + 1, 0, some 1⟩), .pointer (some ⟨hb.length + 1, 0, some 1⟩), .pointer (some ⟨hb.length, 0, some 1⟩)]) hn
    (Q := fun i BX => BX = bxM hb.length (hb.length + 1) (((ordsL js.length).take i).foldl (updG (fun _ => true) (mixV f g x y js)) sr0))
    (fun i BX i' BX' h h' L u e e' HL H' => by
      subst e; subst e'
      exact gcM HL H')
    (fun i xs h BX vg eBX hxs HB => by
      subst eBX
      have ox := ords_ord (List.mem_of_getElem? hxs)
      refine RunsC.mono (tellM_run (Js.pre H0.pre) (H0.box 0 rfl) (H0.box 1 rfl) (H0.box 2 rfl) (H0.box 3 rfl) (H0.box 4 rfl) hg hn hf hg8 (in99 c2) (in99 c3) ox HB) fun v h' Fx => ?_
      refine ⟨_, rfl, fun L HL => ?_⟩
      rw [take_succ' hxs, List.foldl_append, List.foldl_cons, List.foldl_nil]
      exact Fx L HL) rfl E
  have hcount : hb ++ [some ⟨[.int .i64 0], 0, false⟩, some ⟨[.bool false], 0, false⟩] = h ++ [some ⟨[.slice oj js.length cj], 0, false⟩, some ⟨[.int .i64 f], 0, false⟩, some ⟨[.int .i64 g], 0, false⟩, some ⟨[.int .i64 x], 0, false⟩, some ⟨[.int .i64 y], 0, false⟩, some ⟨[.int .i64 0], 0, false⟩, some ⟨[.bool false], 0, false⟩] := by rw [← hHb]; simp
  rw [hcount, hbl] at er
  rw [hcount, hbl] at E
  simp -implicitDefEqProofs [CL_ret r1, CL_ret within_run, c2, c3]
  refine CL_post er fun v h4 ⟨BX', eBX, Fx⟩ => ?_
  subst eBX
  have H4 := Fx [] E
  rw [List.take_length] at H4
  have l0 := H4.bl (P := P) 0 1 rfl rfl
  simp -implicitDefEqProofs [l0]
  exact onK hK ⟨pre_gcU (H0.pre.trans H4.pre), rfl⟩
theorem specLeastMix_run (J : Jobs h vj js) (hl : js.length ≤ 2 ^ 40) : RunsC P G n_spec_LeastMix [vj, .int .i64 f, .int .i64 g, .int .i64 x, .int .i64 y] h fun w h' => h <+: h' ∧ w = .tuple #[.int .i64 (mixR js f g x y), .bool (mixOk js f g x y)] := by
  refine hideC fun K hK => enter_run e_spec_LeastMix (by simp) ?_
  have Js := J
  obtain ⟨oj, cj, rfl⟩ := J.shapeT
  have r1 := good_run Js hl
  have bad : mixOk js f g x y = false → K (.tuple #[.int .i64 0, .bool false]) h := fun e => onK hK ⟨List.prefix_rfl, by rw [mixR, e]; rfl⟩
  cases c1 : jOk js
  · simp -implicitDefEqProofs [CL_ret r1, c1]
    exact bad (by rw [mixOk, aTwo_eq, c1]; rfl)
  cases c0 : (inB f 1 8 && inB g 1 8)
  · simp -implicitDefEqProofs [CL_ret r1, c1, CL_ret l11Two_run, c0]
    exact bad (by rw [mixOk, aTwo_eq, c1, c0]; rfl)
  cases c2 : inB x 0 99
  · simp -implicitDefEqProofs [CL_ret r1, c1, CL_ret l11Two_run, c0, CL_ret l1In_run, c2]
    exact bad (by rw [mixOk, c2, Bool.and_false, Bool.false_and])
  cases c3 : inB y 0 99
  · simp -implicitDefEqProofs [CL_ret r1, c1, CL_ret l11Two_run, c0, CL_ret l1In_run, c2, c3]
    exact bad (by rw [mixOk, c3, Bool.and_false])
  have ca : aTwo js f g = true := by rw [aTwo_eq, c1, c0]; rfl
  have cm : mixOk js f g x y = true := by rw [mixOk, ca, c2, c3]; rfl
  rw [mixR, cm, if_pos rfl] at hK
  obtain ⟨hn, hg, hf, hg8⟩ := aTwo_of ca
  have N0 : Ints h (.slice none 0 0) ([] : List Int) := ⟨by simp, none, 0, rfl, .inl ⟨rfl, rfl, rfl⟩⟩
  have r := l11Mix_run hg hn hf hg8 (in99 c2) (in99 c3) (k := js.length) (b := sr0) Js N0 N0 (by simp) (fun x hx => by cases hx) List.nodup_nil (by simp [sr0])
  rw [bestG_dfs] at r
  simp -implicitDefEqProofs [CL_ret r1, c1, CL_ret l11Two_run, c0, CL_ret l1In_run, c2, c3]
  refine CL_post r fun v h1 ⟨hp1, _, vo, ev, O1⟩ => ?_
  subst ev
  simp -implicitDefEqProofs
  exact onK hK ⟨pre_gcU hp1, rfl⟩
end
end Go.Pm.PP

/- Supported points, by both. -/
set_option linter.unusedVariables false
set_option linter.unusedSimpArgs false
set_option maxRecDepth 4000
set_option maxHeartbeats 16000000
namespace Go.Pm.PP
open Go.Pm Go.Proofs Go.Pm.PE
def belV (r p q : Pt) : Bool := decide ((p.2 - q.2) * (p.1 - r.1) ≤ (r.2 - p.2) * (q.1 - p.1))
theorem belV_eq {r p q : Pt} : decide ((p.2 - r.2) * (q.1 - r.1) ≤ (q.2 - r.2) * (p.1 - r.1)) = belV r p q := by
  unfold belV
  rw [Bool.eq_iff_iff, decide_eq_true_eq, decide_eq_true_eq]
  simp only [Int.sub_mul, Int.mul_sub]
  omega
def PBd (q : Pt) : Prop := (-(2 ^ 30) ≤ q.1 ∧ q.1 ≤ 2 ^ 30) ∧ -(2 ^ 30) ≤ q.2 ∧ q.2 ≤ 2 ^ 30
theorem mul_ab {a b : Int} (ha : -(2 ^ 31) ≤ a ∧ a ≤ 2 ^ 31) (hb : -(2 ^ 31) ≤ b ∧ b ≤ 2 ^ 31) : -(2 ^ 62) ≤ a * b ∧ a * b ≤ 2 ^ 62 := by
  have key : ∀ {a b : Int}, 0 ≤ a → a ≤ 2 ^ 31 → -(2 ^ 31) ≤ b → b ≤ 2 ^ 31 → -(2 ^ 62) ≤ a * b ∧ a * b ≤ 2 ^ 62 := fun {a b} h1 h2 h3 h4 => by
    have u := Int.mul_le_mul_of_nonneg_left h4 h1
    have l := Int.mul_le_mul_of_nonneg_left h3 h1
    constructor <;> omega
  rcases Int.le_total 0 a with h | h
  · exact key h ha.2 hb.1 hb.2
  · have := key (a := -a) (b := b) (by omega) (by omega) hb.1 hb.2
    rw [Int.neg_mul] at this
    omega
theorem wsub {a b : Int} (ha : -(2 ^ 30) ≤ a ∧ a ≤ 2 ^ 30) (hb : -(2 ^ 30) ≤ b ∧ b ≤ 2 ^ 30) : IntKind.i64.wrap (a - b) = a - b ∧ -(2 ^ 31) ≤ a - b ∧ a - b ≤ 2 ^ 31 := ⟨by rw [wrap_ok] <;> omega, by omega, by omega⟩
theorem wmul {a b : Int} (ha : -(2 ^ 31) ≤ a ∧ a ≤ 2 ^ 31) (hb : -(2 ^ 31) ≤ b ∧ b ≤ 2 ^ 31) : IntKind.i64.wrap (a * b) = a * b := by
  have := mul_ab ha hb
  rw [wrap_ok] <;> omega
def supAt (F : List Pt) (k : Nat) (p : Pt) : Bool := (F.take k).all fun r => (F.drop (k + 1)).all fun q => belV r p q
def supP (F : List Pt) : Nat → List Pt → List Pt
  | _, [] => []
  | k, p :: l => if supAt F k p = true then p :: supP F (k + 1) l else supP F (k + 1) l
section
variable {h : Hp} {vj v u vf : Value} {js : List Job} {F : List Pt} {f g : Int}
theorem l11Below_run {r p q : Pt} (hr : PBd r) (hp : PBd p) (hq : PBd q) : Ret P G n_spec_l11Below [ptv r, ptv p, ptv q] h (.bool (belV r p q)) h := by
  refine enter_run e_spec_l11Below (by simp) ?_
  have H := (((Holds.start (h := h)).alloc [.int .i64 r.1, .int .i64 r.2]).alloc [.int .i64 p.1, .int .i64 p.2]).alloc [.int .i64 q.1, .int .i64 q.2]
  simp only [List.append_assoc, List.cons_append, List.nil_append, List.length_append, List.length_cons, List.length_nil, Nat.zero_add] at H
  have l1 := H.bl (P := P) 0 2 rfl rfl
  have l2 := H.bl (P := P) 1 2 rfl rfl
  have l3 := H.bl (P := P) 2 2 rfl rfl
  have w1 := wsub hp.2 hr.2
  have w2 := wsub hq.1 hr.1
  have w3 := wsub hq.2 hr.2
  have w4 := wsub hp.1 hr.1
  rw [← belV_eq]
  simp -implicitDefEqProofs [l1, l2, l3, ia20, ia21, w1.1, w2.1, w3.1, w4.1, wmul w1.2 w2.2, wmul w3.2 w4.2]
theorem l11Supported_run (S : Prs h vf F) (hF : FOk F) (hb : ∀ q, q ∈ F → PBd q) {k : Nat} {p : Pt} (hk : F[k]? = some p) : Ret P G n_spec_l11Supported [vf, .int .i64 k] h (.bool (supAt F k p)) h := by
  refine enter_run e_spec_l11Supported (by simp) ?_
  have Ss := S
  have hFl := hF.len
  obtain ⟨oa, ca, rfl⟩ := S.shapeT
  have hkl := (List.getElem?_eq_some_iff.1 hk).1
  have bp := hb p (List.mem_of_getElem? hk)
  have lk := load_Q Ss hk
  have wk : IntKind.i64.wrap ((k : Int) + 1) = ((k + 1 : Nat) : Int) := by rw [wrap_ok] <;> omega
  have wk' : IntKind.i64.wrap ((k : Int) + 1) = (k : Int) + 1 := by rw [wrap_ok] <;> omega
  simp -implicitDefEqProofs
  refine R_loopO (fun m s h' => ∃ i : Nat, i + m = k ∧ s = [(0, .slice oa F.length ca), (1, .int .i64 k), (5, .int .i64 i)] ∧ supAt F k p = (((F.take k).drop i).all fun r => (F.drop (k + 1)).all fun q => belV r p q) ∧ h' = h) (fun I hI m s h' => ?_) (n := k) ⟨0, Nat.zero_add _, by simp, rfl, rfl⟩
  rintro ⟨i, hi, rfl, hx, rfl⟩
  by_cases hlt : i < k
  · have hlt' : (i : Int) < k := by omega
    obtain ⟨r, hr, hd⟩ := drop_at (show i < (F.take k).length by rw [List.length_take]; omega)
    have hrF : F[i]? = some r := by rw [List.getElem?_take, if_pos hlt] at hr; exact hr
    have br := hb r (List.mem_of_getElem? hrF)
    have lr := load_Q Ss hrF
    rw [hd, List.all_cons] at hx
    simp -implicitDefEqProofs [hlt, hlt', wk']
    refine R_loopO (fun m2 s2 h2 => ∃ j : Nat, (k + 1) + j + m2 = F.length ∧ s2 = [(0, .slice oa F.length ca), (1, .int .i64 k), (5, .int .i64 i), (6, .int .i64 ((k + 1 + j : Nat) : Int))] ∧ supAt F k p = (((F.drop (k + 1 + j)).all fun q => belV r p q) && (((F.take k).drop (i + 1)).all fun r => (F.drop (k + 1)).all fun q => belV r p q)) ∧ h2 = h') (fun I2 hI2 m2 s2 h2 => ?_) (n := F.length - (k + 1))
      ⟨0, by omega, by simp, by simpa using hx, rfl⟩
    rintro ⟨j, hj, rfl, hx2, rfl⟩
    by_cases hlt2 : k + 1 + j < F.length
    · have hlt2' : ((k + 1 + j : Nat) : Int) < F.length := by omega
      have hlt2'' : (k : Int) + 1 + j < F.length := by omega
      obtain ⟨q, hq, hd2⟩ := drop_at hlt2
      have bq := hb q (List.mem_of_getElem? hq)
      have lq := load_Q Ss hq
      have rb := fun {hh : Hp} => l11Below_run (h := hh) br bp bq
      have wj : IntKind.i64.wrap ((k : Int) + 1 + j + 1) = (k : Int) + 1 + j + 1 := by rw [wrap_ok] <;> omega
      simp only [Int.natCast_add, Int.cast_ofNat_Int] at lq
      rw [hd2, List.all_cons] at hx2
      cases c : belV r p q
      · rw [c, Bool.false_and, Bool.false_and] at hx2
        rw [c] at rb
        simp -implicitDefEqProofs [-indexAddrP_some, hlt2, hlt2'', lr, lk, lq, CL_ret rb, CH_at rb, hx2]
      · rw [c, Bool.true_and] at hx2
        rw [c] at rb
        simp -implicitDefEqProofs [-indexAddrP_some, hlt2, hlt2'', lr, lk, lq, CL_ret rb, CH_at rb, wj]
        exact ⟨m2 - 1, by omega, on hI2 ⟨j + 1, by omega, by simp; omega, by rw [hx2]; congr 2, rfl⟩⟩
    · have hlt2'' : ¬ (k : Int) + 1 + j < F.length := by omega
      rw [List.drop_eq_nil_of_le (by omega), List.all_nil, Bool.true_and] at hx2
      simp -implicitDefEqProofs [hlt2, hlt2'', winc hlt (by omega)]
      exact ⟨m - 1, by omega, on hI ⟨i + 1, by omega, rfl, hx2, rfl⟩⟩
  · have hlt' : ¬ (i : Int) < k := by omega
    rw [List.drop_eq_nil_of_le (by rw [List.length_take]; omega), List.all_nil] at hx
    simp -implicitDefEqProofs [hlt, hlt', hx]
end
end Go.Pm.PP

/- Supported points: what both export. -/
set_option linter.unusedVariables false
set_option linter.unusedSimpArgs false
set_option maxRecDepth 4000
set_option maxHeartbeats 16000000
namespace Go.Pm.PP
open Go.Pm Go.Proofs Go.Pm.PE
def spV (js : List Job) (f g : Int) : List Pt := if aTwo js f g = true then supP (frontR f g js) 0 (frontR f g js) else []
theorem supP_len {F : List Pt} : ∀ {l : List Pt} {k : Nat}, (supP F k l).length ≤ l.length
  | [], _ => by simp [supP]
  | p :: l, k => by
    rw [supP]
    have := supP_len (F := F) (l := l) (k := k + 1)
    split <;> simp only [List.length_cons] <;> omega
theorem front_bd {f g : Int} {js : List Job} (hg : goodL js = true) (hn : js.length ≤ 8) : ∀ q, q ∈ frontR f g js → PBd q := fun q hq => by
  obtain ⟨xs, ox, e⟩ := (front_facts (f := f) (g := g) hn).2.1 q hq
  have b1 := valX_bd (o := f) hg hn ox
  have b2 := valX_bd (o := g) hg hn ox
  rw [← e]
  exact ⟨b1, b2⟩
section
variable {h : Hp} {vj v u vf : Value} {js : List Job} {F : List Pt} {f g : Int}
theorem specSupportedPoints_run (J : Jobs h vj js) (hl : js.length ≤ 2 ^ 40) : RunsC P G n_spec_SupportedPoints [vj, .int .i64 f, .int .i64 g] h fun w h' => h <+: h' ∧ ∃ d, w = .tuple #[d, .bool (aTwo js f g)] ∧ Prs h' d (spV js f g) := by
  refine hideC fun K hK => enter_run e_spec_SupportedPoints (by simp) ?_
  have Js := J
  obtain ⟨oj, cj, rfl⟩ := J.shapeT
  have r1 := good_run Js hl
  have bad : aTwo js f g = false → K (.tuple #[.slice none 0 0, .bool false]) h := fun e => by
    rw [spV, e] at hK
    exact onK hK ⟨List.prefix_rfl, _, rfl, ⟨by simp, none, 0, rfl, .inl ⟨rfl, rfl, rfl⟩⟩⟩
  cases c1 : jOk js
  · simp -implicitDefEqProofs [CL_ret r1, c1]
    exact bad (by rw [aTwo_eq, c1]; rfl)
  cases c0 : (inB f 1 8 && inB g 1 8)
  · simp -implicitDefEqProofs [CL_ret r1, c1, CL_ret l11Two_run, c0]
    exact bad (by rw [aTwo_eq, c1, c0]; rfl)
  have ca : aTwo js f g = true := by rw [aTwo_eq, c1, c0]; rfl
  obtain ⟨hn, hg, hf, hg8⟩ := aTwo_of ca
  rw [spV, ca, if_pos rfl] at hK
  have hbd := front_bd (f := f) (g := g) hg hn
  simp -implicitDefEqProofs [CL_ret r1, c1, CL_ret l11Two_run, c0]
  refine CL_post (l11Front_run (f := f) (g := g) Js hg hn hf hg8) fun w h1 ⟨hp1, hF, S1⟩ => ?_
  have hFl := hF.len
  generalize frontR f g js = F at *
  have S1s := S1
  obtain ⟨fa, fc, rfl⟩ : ∃ a c, w = .slice a F.length c := S1.shapeT
  have H0 := own_nil (Holds.start (h := h1)) Pt encQ 2
  generalize hX : supP F 0 F = X at hK
  simp -implicitDefEqProofs
  refine R_loopO (fun m s h' => ∃ (i : Nat) (u : Value) (out : List Pt), i + m = F.length ∧ s = [(8, u), (9, .slice fa F.length fc), (10, .int .i64 i)] ∧ X = out ++ supP F i (F.drop i) ∧ out.length ≤ i ∧ Holds h1 h' [.own u 2 (out.map encQ)]) (fun I hI m s h' => ?_) (n := F.length) ⟨0, .slice none 0 0, [], Nat.zero_add _, by simp, hX.symm, by simp, H0⟩
  rintro ⟨i, u, out, hi, rfl, hx, hol, H⟩
  by_cases hlt : i < F.length
  · obtain ⟨p, hp, hd⟩ := drop_at hlt
    have Sp := S1s.pre H.pre
    have rs := l11Supported_run Sp hF hbd hp
    have lq := load_Q Sp hp
    rw [hd, supP] at hx
    cases c : supAt F i p
    · rw [c, if_neg (show ¬ (false = true) by simp)] at hx
      rw [c] at rs
      simp -implicitDefEqProofs [-indexAddrP_some, hlt, CL_ret rs, winc hlt (by omega)]
      exact ⟨m - 1, by omega, on hI ⟨i + 1, u, out, by omega, rfl, hx, by omega, H⟩⟩
    · rw [c, if_pos rfl] at hx
      rw [c] at rs
      obtain ⟨u', h2, ha, H2, _⟩ := push_Q0 H 0 rfl p (by omega)
      have H2 : Holds h1 h2 [.own u' 2 ((out ++ [p]).map encQ)] := H2
      simp -implicitDefEqProofs [-indexAddrP_some, hlt, CL_ret rs, lq, ha, winc hlt (by omega)]
      exact ⟨m - 1, by omega, on hI ⟨i + 1, u', out ++ [p], by omega, rfl, by rw [hx]; simp, by simp; omega, H2⟩⟩
  · rw [List.drop_eq_nil_of_le (by omega)] at hx
    have hx : X = out := by rw [hx]; simp [supP]
    rw [hx] at hK
    have S : Prs h' u out := H.sees 0 rfl
    have Ss := S
    obtain ⟨ua, un, uc, rfl⟩ : ∃ a n c, u = .slice a n c := by obtain ⟨a, c, e⟩ := S.shape; exact ⟨_, _, _, e⟩
    simp -implicitDefEqProofs [hlt]
    exact onK hK ⟨pre_gcU (hp1.trans H.pre), _, rfl, Sees.gcU Ss fun g => plainT (r := [_]) g⟩
theorem implSupportedPoints_run (J : Jobs h vj js) (hl : js.length ≤ 2 ^ 40) : RunsC P G n_impl_SupportedPoints [vj, .int .i64 f, .int .i64 g] h fun w h' => h <+: h' ∧ ∃ d, w = .tuple #[d, .bool (aTwo js f g)] ∧ Prs h' d (spV js f g) := by
  refine hideC fun K hK => enter_run e_impl_SupportedPoints (by simp) ?_
  have Js := J
  obtain ⟨oj, cj, rfl⟩ := J.shapeT
  have r1 := areTwo_run (f := f) (g := g) Js hl
  cases ca : aTwo js f g
  · rw [spV, ca] at hK
    simp -implicitDefEqProofs [CL_ret r1, ca]
    exact onK hK ⟨List.prefix_rfl, _, rfl, ⟨by simp, none, 0, rfl, .inl ⟨rfl, rfl, rfl⟩⟩⟩
  obtain ⟨hn, hg, hf, hg8⟩ := aTwo_of ca
  rw [spV, ca, if_pos rfl] at hK
  have hbd := front_bd (f := f) (g := g) hg hn
  simp -implicitDefEqProofs [CL_ret r1, ca]
  refine CL_post (frontOf_run (f := f) (g := g) Js hg hn hf hg8) fun w h1 ⟨hp1, hF, S1⟩ => ?_
  have hFl := hF.len
  generalize frontR f g js = F at *
  have S1s := S1
  obtain ⟨fa, fc, rfl⟩ : ∃ a c, w = .slice a F.length c := S1.shapeT
  have H0 := own_nil (Holds.start (h := h1)) Pt encQ 2
  generalize hX : supP F 0 F = X at hK
  simp -implicitDefEqProofs
  refine R_loopO (fun m s h' => ∃ (i : Nat) (u : Value) (out : List Pt), i + m = F.length ∧ s = [(8, .slice fa F.length fc), (9, u), (26, .slice fa F.length fc), (27, .int .i64 F.length), (28, .int .i64 i)] ∧ X = out ++ supP F i (F.drop i) ∧ out.length ≤ i ∧ Holds h1 h' [.own u 2 (out.map encQ)]) (fun I hI m s h' => ?_) (n := F.length) ⟨0, .slice none 0 0, [], Nat.zero_add _, by simp, hX.symm, by simp, H0⟩
  rintro ⟨i, u, out, hi, rfl, hx, hol, H⟩
  by_cases hlt : i < F.length
  · obtain ⟨p, hp, hd⟩ := drop_at hlt
    have bp := hbd p (List.mem_of_getElem? hp)
    have Sp := S1s.pre H.pre
    have lq := load_Q Sp hp
    rw [hd, supP] at hx
    obtain ⟨v3, s3, f3⟩ := (Sp.pre (List.prefix_append h' [some ⟨[.int .i64 p.1, .int .i64 p.2], 0, false⟩])).front (P := P) u_S_A2_int i_A2_int (k := .i64) (j := (i : Int)) (by omega) (by simp; omega)
    rw [Int.toNat_natCast, ← List.map_take] at f3
    have fs := f3
    obtain ⟨f3a, f3c, rfl⟩ := f3.shapeT
    have tl : (F.take i).length = i := by rw [List.length_take]; omega
    rw [tl] at fs s3
    have HB := H.alloc [.int .i64 p.1, .int .i64 p.2]
    simp -implicitDefEqProofs [-indexAddrP_some, hlt, lq, s3]
    refine R_loopO (fun m2 s2 h2 => ∃ (j : Nat) (b : Bool), j + m2 = i ∧ s2 = [(8, .slice fa F.length fc), (9, u), (10, .int .i64 i), (11, .pointer (some ⟨h'.length, 0, some 2⟩)), (12, .bool b), (26, .slice fa F.length fc), (27, .int .i64 F.length), (28, .int .i64 i), (35, .slice f3a i f3c), (36, .int .i64 i), (37, .int .i64 j)] ∧
        supAt F i p = (b && (((F.take i).drop j).all fun r => (F.drop (i + 1)).all fun q => belV r p q)) ∧ Holds h1 h2 [.own u 2 (out.map encQ), .box h'.length [.int .i64 p.1, .int .i64 p.2]] ∧ h' ++ [some ⟨[.int .i64 p.1, .int .i64 p.2], 0, false⟩] <+: h2) (fun I2 hI2 m2 s2 h2 => ?_) (n := i)
      ⟨0, true, Nat.zero_add _, by simp, by simp [supAt], HB, List.prefix_rfl⟩
    rintro ⟨j, b, hj, rfl, hsup, H2, hp2⟩
    by_cases hltj : j < i
    · obtain ⟨r, hr, hdr⟩ := drop_at (show j < (F.take i).length by omega)
      have hrF : F[j]? = some r := by rw [List.getElem?_take, if_pos hltj] at hr; exact hr
      have br := hbd r (List.mem_of_getElem? hrF)
      have lr := load_Q (fs.pre hp2) hr
      rw [hdr, List.all_cons] at hsup
      generalize hrest : ((F.take i).drop (j + 1)).all (fun r => (F.drop (i + 1)).all fun q => belV r p q) = rest at hsup
      have H3 := H2.alloc [.int .i64 r.1, .int .i64 r.2]
      have wi : IntKind.i64.wrap ((i : Int) + 1) = (i : Int) + 1 := by rw [wrap_ok] <;> omega
      obtain ⟨v4, s4, f4, _⟩ := (S1s.pre H3.pre).back (P := P) u_S_A2_int i_A2_int (k := .i64) (j := ((i + 1 : Nat) : Int)) (by omega) (by simp; omega)
      rw [Int.toNat_natCast, ← List.map_drop] at f4
      have f4s := f4
      obtain ⟨f4a, f4c, rfl⟩ := f4.shapeT
      have dl : (F.drop (i + 1)).length = F.length - (i + 1) := by rw [List.length_drop]
      rw [dl] at f4s s4
      obtain ⟨D, hD⟩ : ∃ D : Nat, D = F.length - (i + 1) := ⟨_, rfl⟩
      rw [← hD] at f4s s4 dl
      simp only [Int.natCast_add, Int.cast_ofNat_Int] at s4
      simp -implicitDefEqProofs [-indexAddrP_some, hltj, lr, wi, s4]
      refine R_loopO (fun m3 s3 h3 => ∃ (l : Nat) (b2 : Bool), l + m3 = D ∧ s3 = [(8, .slice fa F.length fc), (9, u), (10, .int .i64 i), (11, .pointer (some ⟨h'.length, 0, some 2⟩)), (12, .bool b2), (14, .pointer (some ⟨h2.length, 0, some 2⟩)), (26, .slice fa F.length fc), (27, .int .i64 F.length), (28, .int .i64 i), (35, .slice f3a i f3c), (36, .int .i64 i), (37, .int .i64 j), (44, .slice f4a D f4c), (45, .int .i64 D), (46, .int .i64 l)] ∧
          supAt F i p = (b2 && ((((F.drop (i + 1)).drop l).all fun q => belV r p q) && rest)) ∧ Holds h1 h3 [.own u 2 (out.map encQ), .box h'.length [.int .i64 p.1, .int .i64 p.2], .box h2.length [.int .i64 r.1, .int .i64 r.2]] ∧ h2 ++ [some ⟨[.int .i64 r.1, .int .i64 r.2], 0, false⟩] <+: h3) (fun I3 hI3 m3 s3 h3 => ?_) (n := D)
        ⟨0, b, Nat.zero_add _, by simp, by simpa using hsup, H3, List.prefix_rfl⟩
      rintro ⟨l, b2, hl3, rfl, hsup3, H4, hp4⟩
      by_cases hltl : l < D
      · obtain ⟨q, hq, hdq⟩ := drop_at (show l < (F.drop (i + 1)).length by omega)
        have hqF : F[i + 1 + l]? = some q := by rw [List.getElem?_drop] at hq; exact hq
        have bq := hbd q (List.mem_of_getElem? hqF)
        have lq2 := load_Q (f4s.pre hp4) hq
        rw [hdq, List.all_cons] at hsup3
        have H5 := H4.alloc [.int .i64 q.1, .int .i64 q.2]
        have lp := H5.bl (P := P) 1 2 rfl rfl
        have lr2 := H5.bl (P := P) 2 2 rfl rfl
        have lq5 := H5.bl (P := P) 3 2 rfl rfl
        have w1 := wsub bp.2 bq.2
        have w2 := wsub bp.1 br.1
        have w3 := wsub br.2 bp.2
        have w4 := wsub bq.1 bp.1
        have H6 : Holds h1 (h3 ++ [some ⟨[.int .i64 q.1, .int .i64 q.2], 0, false⟩]) [.own u 2 (out.map encQ), .box h'.length [.int .i64 p.1, .int .i64 p.2], .box h2.length [.int .i64 r.1, .int .i64 r.2]] := H4.ext (List.prefix_append ..)
        cases b2
        · rw [Bool.false_and] at hsup3
          simp -implicitDefEqProofs [-indexAddrP_some, hltl, lq2, winc hltl (by omega)]
          exact ⟨m3 - 1, by omega, on hI3 ⟨l + 1, false, by omega, rfl, by rw [hsup3, Bool.false_and], H6, hp4.trans (List.prefix_append ..)⟩⟩
        · rw [Bool.true_and] at hsup3
          have fin : ∀ b3, belV r p q = b3 → ∃ m', m' < m3 ∧ I3 m' [(8, .slice fa F.length fc), (9, u), (10, .int .i64 i), (11, .pointer (some ⟨h'.length, 0, some 2⟩)), (12, .bool b3), (14, .pointer (some ⟨h2.length, 0, some 2⟩)), (26, .slice fa F.length fc), (27, .int .i64 F.length), (28, .int .i64 i), (35, .slice f3a i f3c), (36, .int .i64 i), (37, .int .i64 j), (44, .slice f4a D f4c), (45, .int .i64 D), (46, .int .i64 ((l + 1 : Nat) : Int))] (h3 ++ [some ⟨[.int .i64 q.1, .int .i64 q.2], 0, false⟩]) := fun b3 e =>
            ⟨m3 - 1, by omega, on hI3 ⟨l + 1, b3, by omega, rfl, by rw [hsup3, e, Bool.and_assoc], H6, hp4.trans (List.prefix_append ..)⟩⟩
          by_cases cb : (p.2 - q.2) * (p.1 - r.1) ≤ (r.2 - p.2) * (q.1 - p.1)
          · simp -implicitDefEqProofs [-indexAddrP_some, hltl, lq2, lp, lr2, lq5, ia20, ia21, w1.1, w2.1, w3.1, w4.1, wmul w1.2 w2.2, wmul w3.2 w4.2, cb, winc hltl (by omega)]
            exact fin true (by simp [belV, cb])
          · simp -implicitDefEqProofs [-indexAddrP_some, hltl, lq2, lp, lr2, lq5, ia20, ia21, w1.1, w2.1, w3.1, w4.1, wmul w1.2 w2.2, wmul w3.2 w4.2, cb, winc hltl (by omega)]
            exact fin false (by simp [belV, cb])
      · rw [List.drop_eq_nil_of_le (by omega), List.all_nil, Bool.true_and] at hsup3
        simp -implicitDefEqProofs [hltl, winc hltj (by omega)]
        have H6 : Holds h1 h3 ([.own u 2 (out.map encQ), .box h'.length [.int .i64 p.1, .int .i64 p.2]] ++ [.box h2.length [.int .i64 r.1, .int .i64 r.2]]) := H4
        exact ⟨m2 - 1, by omega, on hI2 ⟨j + 1, b2, by omega, rfl, by rw [hsup3, hrest], H6.weak, hp2.trans ((List.prefix_append ..).trans hp4)⟩⟩
    · rw [List.drop_eq_nil_of_le (by rw [tl]; omega), List.all_nil, Bool.and_true] at hsup
      rw [hsup] at hx
      have lp := H2.bl (P := P) 1 2 rfl rfl
      cases b
      · rw [if_neg (show ¬ (false = true) by simp)] at hx
        simp -implicitDefEqProofs [hltj, winc hlt (by omega)]
        exact ⟨m - 1, by omega, on hI ⟨i + 1, u, out, by omega, rfl, hx, by omega, H2.weak (T := [_])⟩⟩
      · rw [if_pos rfl] at hx
        obtain ⟨u', h4, ha, H4, _⟩ := push_Q0 H2 0 rfl p (by omega)
        have H4 : Holds h1 h4 ([.own u' 2 ((out ++ [p]).map encQ)] ++ [.box h'.length [.int .i64 p.1, .int .i64 p.2]]) := H4
        simp -implicitDefEqProofs [hltj, lp, ha, winc hlt (by omega)]
        exact ⟨m - 1, by omega, on hI ⟨i + 1, u', out ++ [p], by omega, rfl, by rw [hx]; simp, by simp; omega, H4.weak⟩⟩
  · rw [List.drop_eq_nil_of_le (by omega)] at hx
    have hx : X = out := by rw [hx]; simp [supP]
    rw [hx] at hK
    have S : Prs h' u out := H.sees 0 rfl
    have Ss := S
    obtain ⟨ua, un, uc, rfl⟩ : ∃ a n c, u = .slice a n c := by obtain ⟨a, c, e⟩ := S.shape; exact ⟨_, _, _, e⟩
    simp -implicitDefEqProofs [hlt]
    exact onK hK ⟨pre_gcU (hp1.trans H.pre), _, rfl, Sees.gcU Ss fun g => plainT (r := [_]) g⟩
end
end Go.Pm.PP

/- Best orders under a limit, by both. -/
set_option linter.unusedVariables false
set_option linter.unusedSimpArgs false
set_option maxRecDepth 4000
set_option maxHeartbeats 16000000
namespace Go.Pm.PP
open Go.Pm Go.Proofs Go.Pm.PE
def undG (js : List Job) (f g lim : Int) : Sr := bestG (fun xs => decide (valX g js xs ≤ lim)) (valX f js) js.length
def undO (js : List Job) (f g lim : Int) : Bool := aTwo js f g && !((undG js f g lim).c == 0)
def undF (js : List Job) (f g lim : Int) : List Int := if aTwo js f g = true then (undG js f g lim).o else []
theorem undG_facts {js : List Job} {f g lim : Int} : (undG js f g lim = sr0 ∧ ∀ xs, Ord js.length xs → lim < valX g js xs) ∨ ((undG js f g lim).c = 1 ∧ valX g js (undG js f g lim).o ≤ lim ∧ Ord js.length (undG js f g lim).o ∧ ∀ xs, Ord js.length xs → valX g js xs ≤ lim → valX f js (undG js f g lim).o ≤ valX f js xs) := by
  unfold undG
  rcases @bestG_facts (fun xs => decide (valX g js xs ≤ lim)) (valX f js) js.length with ⟨h1, h2⟩ | ⟨h1, h2, h3, h4, h5⟩
  · refine .inl ⟨h1, fun xs ox => ?_⟩
    have := h2 xs ox
    simp only [decide_eq_false_iff_not] at this
    omega
  · refine .inr ⟨h1, by simpa using h2, h4, fun xs ox hl => ?_⟩
    rw [h3]
    exact h5 xs ox (by simpa using hl)
/-- What is lacking: the program's BestUnder. -/
def IUnder : Prop := ∀ {h : Hp} {vj : Value} {js : List Job} {f g lim : Int}, Jobs h vj js → js.length ≤ 2 ^ 40 → RunsC P G n_impl_BestUnder [vj, .int .i64 f, .int .i64 g, .int .i64 lim] h fun w h' => h <+: h' ∧ ∃ d, w = .tuple #[d, .bool (undO js f g lim)] ∧ Ints h' d (undF js f g lim)
section
variable {h : Hp} {vj v u : Value} {js : List Job} {xs : List Int} {f g lim : Int}
theorem specBestUnder_run (J : Jobs h vj js) (hl : js.length ≤ 2 ^ 40) : RunsC P G n_spec_BestUnder [vj, .int .i64 f, .int .i64 g, .int .i64 lim] h fun w h' => h <+: h' ∧ ∃ d, w = .tuple #[d, .bool (undO js f g lim)] ∧ Ints h' d (undF js f g lim) := by
  refine hideC fun K hK => enter_run e_spec_BestUnder (by simp) ?_
  have Js := J
  obtain ⟨oj, cj, rfl⟩ := J.shapeT
  have r1 := good_run Js hl
  have bad : aTwo js f g = false → K (.tuple #[.slice none 0 0, .bool false]) h := fun e => by
    rw [undO, undF, e] at hK
    exact onK hK ⟨List.prefix_rfl, _, rfl, by simp, none, 0, rfl, .inl ⟨rfl, rfl, rfl⟩⟩
  cases c1 : jOk js
  · simp -implicitDefEqProofs [CL_ret r1, c1]
    exact bad (by rw [aTwo_eq, c1]; rfl)
  cases c0 : (inB f 1 8 && inB g 1 8)
  · simp -implicitDefEqProofs [CL_ret r1, c1, CL_ret l11Two_run, c0]
    exact bad (by rw [aTwo_eq, c1, c0]; rfl)
  have ca : aTwo js f g = true := by rw [aTwo_eq, c1, c0]; rfl
  rw [undO, undF, ca, if_pos rfl, Bool.true_and] at hK
  obtain ⟨hn, hg, hf, hg8⟩ := aTwo_of ca
  have N0 : Ints h (.slice none 0 0) ([] : List Int) := ⟨by simp, none, 0, rfl, .inl ⟨rfl, rfl, rfl⟩⟩
  have r := l11Under_run (lim := lim) hg hn hf hg8 (k := js.length) (b := sr0) Js N0 N0 (by simp) (fun x hx => by cases hx) List.nodup_nil (by simp [sr0])
  rw [bestG_dfs] at r
  have gt : ∀ b : Sr, (b = sr0 ∨ b.c = 1) → decide (0 < b.c) = !(b.c == 0) := fun b hb => by
    rcases hb with rfl | e
    · rfl
    · rw [e]; rfl
  have gt := gt (undG js f g lim) (by rcases @undG_facts js f g lim with q | q; exact .inl q.1; exact .inr q.1)
  have eB : bestG (fun xs => decide (valX g js xs ≤ lim)) (valX f js) js.length = undG js f g lim := rfl
  rw [eB] at r
  generalize undG js f g lim = b at *
  simp -implicitDefEqProofs [CL_ret r1, c1, CL_ret l11Two_run, c0]
  refine CL_post r fun v h1 ⟨hp1, hbl, vo, ev, O1⟩ => ?_
  subst ev
  have Os := O1
  obtain ⟨a, c, rfl⟩ := O1.shapeT
  have H1 := (Holds.start (h := h1)).alloc [.slice a b.o.length c, .int .i64 b.v, .int .i64 b.c]
  have lb := H1.bl (P := P) 0 3 rfl rfl
  simp -implicitDefEqProofs [lb]
  refine CH_post (l1Own_run (Os.pre H1.pre) (by omega)).new fun v2 h2 ⟨⟨hp2, ho2⟩, hn2⟩ => ⟨hn2 hp2, ?_⟩
  obtain ⟨a2, c2, rfl⟩ := ho2.sees.shapeT
  have lb2 := (H1.ext hp2).bl (P := P) 0 3 rfl rfl
  simp -implicitDefEqProofs [lb2, gt]
  exact onK hK ⟨pre_gcU (hp1.trans (H1.pre.trans hp2)), _, rfl, Sees.gcU ho2.sees fun g => plainT (r := [_]) g⟩
end
end Go.Pm.PP
