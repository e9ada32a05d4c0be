/- The texts PsD, PsE, PsF, PwYf, PwK of this work: Tables of the greatest weights of timely sets, in plain terms: by sets, and by jobs in due order. -/
import Derived.ProofKit
import Derived.OpenShut
import Derived.Carry
import Derived.Test.YtjjjalkfpajckaaP7
import Derived.Test.YtjjjalkfpajckaaP8
import Derived.Test.YtjjjalkfpajckaaM4
/- Tables of the greatest weights of timely sets, in plain terms: by sets, and by jobs in due order. -/
set_option linter.unusedVariables false
set_option linter.unusedSimpArgs false
namespace Go.Pm.PE
open Go.Pm.PP
/-- A table that tells for each sum of times the greatest weight of a class of sets, -1 where there is none. -/
structure TabK (t w : Int → Int) (N : Nat) (cls : List Int → Prop) (T : List Int) : Prop where
  len : T.length = N + 1
  low : ∀ k, k ≤ N → -1 ≤ gE T k
  up : ∀ S, cls S → ∀ k : Nat, k ≤ N → tsm t S = k → tsm w S ≤ gE T k
  att : ∀ k : Nat, k ≤ N → 0 ≤ gE T k → ∃ S, cls S ∧ tsm t S = k ∧ tsm w S = gE T k
section
variable {t w d : Int → Int} {N : Nat}
theorem tsm_nonneg (hw : ∀ x, 0 ≤ w x) : ∀ {S : List Int}, 0 ≤ tsm w S
  | [] => by simp [tsm]
  | x :: S => by rw [tsm_cons]; have := hw x; have := tsm_nonneg hw (S := S); omega
/-! ### by sets -/
def upT (T : List Int) (k : Int) (x : Int) : List Int := T.set k.toNat (max (gE T k.toNat) x)
theorem TabK.nil : TabK t w N (fun _ => False) (List.replicate (N + 1) (-1)) := by
  have e : ∀ k, k ≤ N → gE (List.replicate (N + 1) (-1 : Int)) k = -1 := fun k hk => by simp [gE, List.getElem?_replicate, show k < N + 1 by omega]
  exact ⟨by simp, fun k hk => by rw [e k hk]; omega, fun S h => h.elim, fun k hk h => by rw [e k hk] at h; omega⟩
theorem TabK.add {cls : List Int → Prop} {T S0 : List Int} (h : TabK t w N cls T) (hw : ∀ x, 0 ≤ w x) (h0 : 0 ≤ tsm t S0) (h1 : tsm t S0 ≤ N) : TabK t w N (fun S => cls S ∨ S = S0) (upT T (tsm t S0) (tsm w S0)) := by
  obtain ⟨m, hm⟩ : ∃ m : Nat, (m : Int) = tsm t S0 := ⟨(tsm t S0).toNat, by omega⟩
  have hl : m < T.length := by rw [h.len]; omega
  have e : ∀ k : Nat, gE (upT T (tsm t S0) (tsm w S0)) k = if k = m then max (gE T m) (tsm w S0) else gE T k := fun k => by
    unfold upT
    rw [← hm, Int.toNat_natCast, gE_set hl]
  have hw0 := tsm_nonneg hw (S := S0)
  refine ⟨by unfold upT; rw [List.length_set, h.len], fun k hk => ?_, fun S hS k hk hs => ?_, fun k hk hg => ?_⟩
  · have := h.low k hk
    rw [e]; split
    · have := h.low m (by omega); omega
    · exact this
  · rw [e]
    rcases hS with g | rfl
    · have := h.up S g k hk hs
      split
      · rename_i c; subst c; omega
      · exact this
    · rw [if_pos (by omega)]; omega
  · rw [e] at hg ⊢
    split
    · rename_i c
      subst c
      rw [if_pos rfl] at hg
      by_cases g : gE T k ≤ tsm w S0
      · exact ⟨S0, .inr rfl, hm.symm, by omega⟩
      · obtain ⟨S, hS, a1, a2⟩ := h.att k hk (by omega)
        exact ⟨S, .inl hS, a1, by omega⟩
    · rename_i c
      rw [if_neg c] at hg
      obtain ⟨S, hS, a1, a2⟩ := h.att k hk hg
      exact ⟨S, .inl hS, a1, a2⟩
theorem TabK.weak {cls cls' : List Int → Prop} {T : List Int} (h : TabK t w N cls T) (e : ∀ S, cls S ↔ cls' S) : TabK t w N cls' T :=
  ⟨h.len, h.low, fun S hS => h.up S ((e S).2 hS), fun k hk hg => by obtain ⟨S, hS, a⟩ := h.att k hk hg; exact ⟨S, (e S).1 hS, a⟩⟩
/-! ### by jobs -/
def clsP (t d : Int → Int) (D : List Int) (S : List Int) : Prop := S.Sublist D ∧ okG t d 0 0 S = true
theorem sub_snoc {D S : List Int} {x : Int} : S.Sublist (D ++ [x]) ↔ S.Sublist D ∨ ∃ S', S = S' ++ [x] ∧ S'.Sublist D := by
  constructor
  · intro h
    obtain ⟨A, B, rfl, hA, hB⟩ := List.sublist_append_iff.1 h
    rcases List.sublist_cons_iff.1 hB with g | ⟨r, rfl, g⟩
    · left; rw [List.sublist_nil.1 g, List.append_nil]; exact hA
    · right; rw [List.sublist_nil.1 g]; exact ⟨A, rfl, hA⟩
  · rintro (h | ⟨S', rfl, h⟩)
    · exact h.trans (List.sublist_append_left ..)
    · exact h.append (List.Sublist.refl _)
theorem TabK.one (hw : ∀ x, 0 ≤ w x) : TabK t w N (clsP t d []) (0 :: List.replicate N (-1)) := by
  have e : ∀ k : Nat, k ≤ N → gE ((0 : Int) :: List.replicate N (-1 : Int)) k = if k = 0 then 0 else -1 := fun k hk => by
    cases k with
    | zero => rfl
    | succ k => simp [gE, List.getElem?_replicate, show k < N by omega]
  have hn : ∀ {S}, clsP t d [] S → S = [] := fun h => List.sublist_nil.1 h.1
  refine ⟨by simp, fun k hk => by rw [e k hk]; split <;> omega, fun S hS k hk hs => ?_, fun k hk h => ?_⟩
  · rw [hn hS] at hs ⊢
    have hs : (0 : Int) = k := hs
    rw [e k hk, if_pos (by omega)]
    exact Int.le_refl _
  · rw [e k hk] at h ⊢
    split at h
    · rename_i c
      subst c
      exact ⟨[], ⟨List.Sublist.refl _, rfl⟩, rfl, rfl⟩
    · omega
end
end Go.Pm.PE

/- Sets ordered by their numbers of jobs and then lexicographically, in plain terms. -/
set_option linter.unusedVariables false
set_option linter.unusedSimpArgs false
namespace Go.Pm.PE
open Go.Pm.PP
end Go.Pm.PE

/- The late rule, in plain terms: what is left is a largest part of the jobs taken that can be on time, with the least sum of times. -/
set_option linter.unusedVariables false
set_option linter.unusedSimpArgs false
namespace Go.Pm.PE
open Go.Pm.PP
section
variable (t d : Int → Int)
/-- The index of the first one of the longest. -/
def lgS (l : List Int) (b i : Nat) : Nat := if t (gE l b) < t (gE l i) then i else b
def lgI (l : List Int) : Nat := (List.range' 0 l.length).foldl (lgS t l) 0
end
section
variable {t d : Int → Int}
theorem lg_go {l : List Int} : ∀ {m i b : Nat}, b < l.length → i + m ≤ l.length → let q := (List.range' i m).foldl (lgS t l) b
    q < l.length ∧ t (gE l b) ≤ t (gE l q) ∧ (∀ j, i ≤ j → j < i + m → t (gE l j) ≤ t (gE l q)) ∧ (q = b ∨ t (gE l b) < t (gE l q)) ∧ (q = b ∨ i ≤ q)
  | 0, i, b, hb, _ => ⟨hb, Int.le_refl _, fun j h1 h2 => by omega, .inl rfl, .inl rfl⟩
  | m + 1, i, b, hb, h => by
    rw [List.range'_succ, List.foldl_cons]
    by_cases c : t (gE l b) < t (gE l i)
    · have e : lgS t l b i = i := by unfold lgS; rw [if_pos c]
      rw [e]
      obtain ⟨h1, h2, h3, h4, h5⟩ := lg_go (l := l) (m := m) (i := i + 1) (b := i) (by omega) (by omega)
      refine ⟨h1, by omega, fun j j1 j2 => ?_, .inr (by omega), .inr (by omega)⟩
      rcases Nat.lt_or_ge i j with g | g
      · exact h3 j g (by omega)
      · have : j = i := by omega
        subst this; exact h2
    · have e : lgS t l b i = b := by unfold lgS; rw [if_neg c]
      rw [e]
      obtain ⟨h1, h2, h3, h4, h5⟩ := lg_go (l := l) (m := m) (i := i + 1) (b := b) hb (by omega)
      refine ⟨h1, h2, fun j j1 j2 => ?_, h4, by omega⟩
      rcases Nat.lt_or_ge i j with g | g
      · exact h3 j g (by omega)
      · have : j = i := by omega
        subst this; omega
theorem lg_spec {l : List Int} (h : l ≠ []) : lgI t l < l.length ∧ ∀ x, x ∈ l → t x ≤ t (gE l (lgI t l)) := by
  have hp : 0 < l.length := List.length_pos_iff.2 h
  obtain ⟨h1, h2, h3, _⟩ := lg_go (t := t) (l := l) (m := l.length) (i := 0) (b := 0) hp (by omega)
  refine ⟨h1, fun x hx => ?_⟩
  obtain ⟨j, hj⟩ := List.getElem?_of_mem hx
  have hjl := (List.getElem?_eq_some_iff.1 hj).1
  have := h3 j (by omega) (by omega)
  have e : gE l j = x := by unfold gE; rw [hj]; rfl
  rw [e] at this
  exact this
theorem erase_perm {l : List Int} {k : Nat} (h : k < l.length) : l.Perm (gE l k :: l.eraseIdx k) := by
  have e : l = l.take k ++ gE l k :: l.drop (k + 1) := by
    have h1 : l[k]? = some (gE l k) := gE_get h
    have := List.take_append_drop k l
    rw [List.drop_eq_getElem_cons h] at this
    have e2 : l[k] = gE l k := by have := List.getElem?_eq_some_iff.1 h1; exact this.2
    rw [e2] at this
    exact this.symm
  rw [List.eraseIdx_eq_take_drop_succ]
  conv => lhs; rw [e]
  exact List.perm_middle
theorem okG_drop {A B : List Int} {x : Int} (ht : ∀ x, 0 ≤ t x) {now : Int} (h : okG t d 0 now (A ++ x :: B) = true) : okG t d 0 now (A ++ B) = true := by
  rw [okG_app, Bool.and_eq_true] at h ⊢
  refine ⟨h.1, ?_⟩
  have h2 := h.2
  rw [okG, Bool.and_eq_true] at h2
  have := ht x
  exact okG_mono (by omega) h2.2
theorem okG_erase {l : List Int} {k : Nat} (ht : ∀ x, 0 ≤ t x) (hk : k < l.length) {now : Int} (h : okG t d 0 now l = true) : okG t d 0 now (l.eraseIdx k) = true := by
  have e : l = l.take k ++ l[k] :: l.drop (k + 1) := by
    have := List.take_append_drop k l
    rw [List.drop_eq_getElem_cons hk] at this
    exact this.symm
  rw [List.eraseIdx_eq_take_drop_succ]
  rw [e] at h
  exact okG_drop ht h
/-- The end of a list that is on time: its sum is no greater than the date of its last one. -/
theorem ok_last {l : List Int} {x : Int} (h : okG t d 0 0 (l ++ [x]) = true) : tsm t (l ++ [x]) ≤ d x := by
  rw [okG_app, Bool.and_eq_true] at h
  have h2 := h.2
  simp only [okG, Bool.and_true, decide_eq_true_eq] at h2
  rw [tsm_app, tsm_cons]
  simp only [show tsm t [] = 0 from rfl]
  omega
theorem nd_le {s l : List Int} (h : s.Nodup) (hm : ∀ x, x ∈ s → x ∈ l) : s.length ≤ l.length := by
  induction s generalizing l with
  | nil => simp
  | cons x s ih =>
    obtain ⟨h1, h2⟩ := List.nodup_cons.1 h
    have hx := hm x (List.mem_cons_self ..)
    have p := List.perm_cons_erase hx
    have := ih (l := l.erase x) h2 fun y hy => by
      have := p.mem_iff.1 (hm y (List.mem_cons_of_mem _ hy))
      rcases List.mem_cons.1 this with rfl | g
      · exact absurd hy h1
      · exact g
    have := p.length_eq
    simp only [List.length_cons] at this ⊢
    omega
theorem nd_perm {s l : List Int} (h : s.Nodup) (hm : ∀ x, x ∈ s → x ∈ l) (hl : l.length ≤ s.length) (hn : l.Nodup) : s.Perm l := by
  refine (List.perm_ext_iff_of_nodup h hn).2 fun x => ⟨hm x, fun hx => ?_⟩
  refine Classical.byContradiction fun g => ?_
  have := nd_le (s := x :: s) (l := l) (List.nodup_cons.2 ⟨g, h⟩) fun y hy => by
    rcases List.mem_cons.1 hy with rfl | k
    · exact hx
    · exact hm y k
  simp only [List.length_cons] at this
  omega
/-- What holds of the jobs that are left. -/
structure LRI (t d : Int → Int) (D E : List Int) : Prop where
  sub : E.Sublist D
  ok : okG t d 0 0 E = true
  dom : ∀ S, S.Sublist D → okG t d 0 0 S = true → ∃ S', S'.Nodup ∧ (∀ x, x ∈ S' → x ∈ E) ∧ S'.length = S.length ∧ tsm t S' ≤ tsm t S
theorem LRI.nil : LRI t d [] [] := ⟨List.Sublist.refl _, rfl, fun S hS _ => ⟨[], List.nodup_nil, fun x h => (by cases h), by rw [List.sublist_nil.1 hS], by rw [List.sublist_nil.1 hS]; exact Int.le_refl _⟩⟩
theorem LRI.step (ht : ∀ x, 0 ≤ t x) {D E : List Int} {x : Int} (I : LRI t d D E) (hnd : (D ++ [x]).Nodup) (hd : ∀ y, y ∈ D → d y ≤ d x) : LRI t d (D ++ [x]) (if tsm t (E ++ [x]) ≤ d x then E ++ [x] else (E ++ [x]).eraseIdx (lgI t (E ++ [x]))) := by
  have hxD : x ∉ D := fun g => by
    have := (List.nodup_append.1 hnd).2.2 x g x (List.mem_singleton.2 rfl)
    exact this rfl
  have hxE : x ∉ E := fun g => hxD (I.sub.subset g)
  have hsub : (E ++ [x]).Sublist (D ++ [x]) := I.sub.append (List.Sublist.refl _)
  have hndE : (E ++ [x]).Nodup := hnd.sublist hsub
  have last : ∀ S, S.Sublist (D ++ [x]) → okG t d 0 0 S = true → S ≠ [] → tsm t S ≤ d x := fun S hS ho hne => by
    obtain ⟨r, y, rfl⟩ := snoc_of hne
    have h1 := ok_last ho
    have hy : y ∈ D ++ [x] := hS.subset (by simp)
    rcases List.mem_append.1 hy with g | g
    · have := hd y g; omega
    · rw [List.mem_singleton.1 g] at h1 ⊢; exact h1
  -- some part of what was left, and of the one that is taken
  have wide : ∀ S, S.Sublist (D ++ [x]) → okG t d 0 0 S = true → ∃ S', S'.Nodup ∧ (∀ y, y ∈ S' → y ∈ E ++ [x]) ∧ S'.length = S.length ∧ tsm t S' ≤ tsm t S := fun S hS ho => by
    rcases sub_snoc.1 hS with g | ⟨S0, rfl, g⟩
    · obtain ⟨S', a, b, c, e⟩ := I.dom S g ho
      exact ⟨S', a, fun y hy => List.mem_append_left _ (b y hy), c, e⟩
    · rw [okG_app, Bool.and_eq_true] at ho
      obtain ⟨S', a, b, c, e⟩ := I.dom S0 g ho.1
      refine ⟨S' ++ [x], List.nodup_append.2 ⟨a, by simp, fun u hu v hv e => ?_⟩, fun y hy => ?_, by simp [c], ?_⟩
      · rw [List.mem_singleton.1 hv] at e
        exact hxE (e ▸ b u hu)
      · rcases List.mem_append.1 hy with g | g
        · exact List.mem_append_left _ (b y g)
        · exact List.mem_append_right _ g
      · rw [tsm_app, tsm_app]; omega
  by_cases c : tsm t (E ++ [x]) ≤ d x
  · rw [if_pos c]
    refine ⟨hsub, ?_, wide⟩
    rw [okG_app, I.ok]
    rw [tsm_app, tsm_cons] at c
    simp only [show tsm t [] = 0 from rfl] at c
    simp only [okG, Bool.and_true, Bool.true_and, decide_eq_true_eq]
    omega
  · rw [if_neg c]
    obtain ⟨k1, k2⟩ := lg_spec (t := t) (l := E ++ [x]) (by simp)
    generalize lgI t (E ++ [x]) = k at *
    have hp := erase_perm k1
    obtain ⟨l, hl⟩ : ∃ l, l = gE (E ++ [x]) k := ⟨_, rfl⟩
    rw [← hl] at hp k2
    have hndp := hp.nodup_iff.1 hndE
    obtain ⟨n1, n2⟩ := List.nodup_cons.1 hndp
    refine ⟨(List.eraseIdx_sublist ..).trans hsub, ?_, fun S hS ho => ?_⟩
    · -- still on time
      rcases Nat.lt_or_ge k E.length with g | g
      · rw [List.eraseIdx_append_of_lt_length g, okG_app, okG_erase ht g I.ok]
        have hpE := erase_perm g
        have e1 : gE E k = l := by
          rw [hl]; unfold gE; rw [List.getElem?_append_left g]
        rw [e1] at hpE
        have s1 := tsm_perm (t := t) hpE
        rw [tsm_cons] at s1
        have s2 := k2 x (by simp)
        have hne : E ≠ [] := List.length_pos_iff.1 (by omega)
        have s3 := last E (I.sub.trans (List.sublist_append_left ..)) I.ok hne
        simp only [okG, Bool.and_true, Bool.true_and, decide_eq_true_eq]
        omega
      · have : k = E.length := by simp at k1; omega
        subst this
        rw [List.eraseIdx_append_of_length_le (Nat.le_refl _), Nat.sub_self]
        simpa using I.ok
    · obtain ⟨S', a, b, c', e⟩ := wide S hS ho
      by_cases hlS : l ∈ S'
      · -- some one of them is not in it
        have : ∃ z, z ∈ E ++ [x] ∧ z ∉ S' := by
          refine Classical.byContradiction fun g => ?_
          have hall : ∀ z, z ∈ E ++ [x] → z ∈ S' := fun z hz => Classical.byContradiction fun k => g ⟨z, hz, k⟩
          have hpm := nd_perm a b (nd_le hndE hall) hndE
          have h1 := tsm_perm (t := t) hpm
          have h2 := last S hS ho (fun k => by
            rw [k] at c'
            have : S' = [] := List.length_eq_zero_iff.1 (by simpa using c')
            rw [this] at hlS; cases hlS)
          omega
        obtain ⟨z, hz, hzS⟩ := this
        have hpl := List.perm_cons_erase hlS
        have hne : z ≠ l := fun g => hzS (g ▸ hlS)
        have ndl := List.nodup_cons.1 (hpl.nodup_iff.1 a)
        refine ⟨z :: S'.erase l, List.nodup_cons.2 ⟨fun g => hzS (hpl.mem_iff.2 (List.mem_cons_of_mem _ g)), ndl.2⟩, fun y hy => ?_, ?_, ?_⟩
        · rcases List.mem_cons.1 hy with rfl | g
          · rcases List.mem_cons.1 (hp.mem_iff.1 hz) with g | g
            · exact absurd g hne
            · exact g
          · have h1 := b y (hpl.mem_iff.2 (List.mem_cons_of_mem _ g))
            rcases List.mem_cons.1 (hp.mem_iff.1 h1) with k | k
            · exact absurd (k ▸ g) ndl.1
            · exact k
        · have := hpl.length_eq
          simp only [List.length_cons] at this ⊢
          omega
        · have s1 := tsm_perm (t := t) hpl
          rw [tsm_cons] at s1 ⊢
          have := k2 z hz
          omega
      · refine ⟨S', a, fun y hy => ?_, c', e⟩
        rcases List.mem_cons.1 (hp.mem_iff.1 (b y hy)) with g | g
        · exact absurd (g ▸ hy) hlS
        · exact g
theorem LRI.most {D E S : List Int} (I : LRI t d D E) (hE : E.Nodup) (hS : S.Sublist D) (ho : okG t d 0 0 S = true) : S.length ≤ E.length ∧ (S.length = E.length → tsm t E ≤ tsm t S) := by
  obtain ⟨S', a, b, c, e⟩ := I.dom S hS ho
  have := nd_le a b
  refine ⟨by omega, fun h => ?_⟩
  have := tsm_perm (t := t) (nd_perm a b (by omega) hE)
  omega
/-! ### the steps -/
def gone (s : List (Int × Int)) : List Int := (s.map Prod.snd).filter fun x => decide (0 ≤ x)
end
end Go.Pm.PE

/- FnSplits in the small machine. -/
set_option linter.unusedVariables false
set_option linter.unusedSimpArgs false
set_option maxRecDepth 4000
set_option maxHeartbeats 32000000
namespace Go.Pm.PP
open Go.Pm Go.Proofs Go.Pm.PE
theorem DrawSplitValue_run {h : Hp} {vc : Value} (B : By h vc) : RunsC P G n_spec_DrawSplitValue [vc] h fun v h' => h <+: h' ∧ ∃ (js : List Job) (S : List Sp) (o : Int) (u w : Value), v = .tuple #[u, w, .int .i64 o] ∧ js.length ≤ 9 ∧ S.length ≤ 2000 ∧ Jobs h' u js ∧ Spns h' w S := by
  refine hideC fun K hK => enter_run e_spec_DrawSplitValue (by simp) ?_
  have C0 : Cur h (h ++ [some ⟨[vc, .int .i64 0, .int .u64 0], 0, false⟩]) h.length vc 0 [] := ⟨0, 0, by omega, by omega, (Holds.start (h := h)).alloc _⟩
  obtain ⟨bs, Sb, hb, hbl⟩ := B
  have Bs : By h vc := ⟨bs, Sb, hb, hbl⟩
  obtain ⟨ob, cb, rfl⟩ := Sb.shapeT
  simp -implicitDefEqProofs
  refine CL_post (some5_run Bs C0 (by omega)) fun u h2 ⟨js, hl, C2⟩ => ?_
  obtain ⟨ua, uc, rfl⟩ : ∃ a c, u = .slice a js.length c := C2.seesJ.shapeT
  simp -implicitDefEqProofs
  refine CL_post (spans_run Bs C2 (i := 0) rfl hl (by omega)) fun w h3 ⟨S, hS, C3⟩ => ?_
  obtain ⟨wa, wc, rfl⟩ : ∃ a c, w = .slice a S.length c := C3.seesS.shapeT
  simp -implicitDefEqProofs
  refine CL_post (objective_run Bs C3 (by omega)) fun v h4 ⟨o, ev, C4⟩ => ?_
  subst ev
  have J4 : Jobs h4 (.slice ua js.length uc) js := C4.seesAt (L := [_]) (i := 0) rfl
  have S4 : Spns h4 (.slice wa S.length wc) S := C4.seesS
  simp -implicitDefEqProofs
  exact onK hK ⟨pre_gcU C4.pre, js, S, o, _, _, rfl, hl, hS, Sees.gcU J4 fun g => plainT (r := [_, _]) g, Sees.gcU S4 fun g => plain2T (r := [_]) g⟩
theorem DrawSplitOf_run {h : Hp} {vc : Value} (B : By h vc) : RunsC P G n_spec_DrawSplitOf [vc] h fun v h' => h <+: h' ∧ ∃ (js : List Job) (xs : List Int) (u w : Value), v = .tuple #[u, w] ∧ js.length ≤ 9 ∧ xs.length ≤ 10 ∧ Jobs h' u js ∧ Ints h' w xs := by
  refine hideC fun K hK => enter_run e_spec_DrawSplitOf (by simp) ?_
  have C0 : Cur h (h ++ [some ⟨[vc, .int .i64 0, .int .u64 0], 0, false⟩]) h.length vc 0 [] := ⟨0, 0, by omega, by omega, (Holds.start (h := h)).alloc _⟩
  obtain ⟨bs, Sb, hb, hbl⟩ := B
  have Bs : By h vc := ⟨bs, Sb, hb, hbl⟩
  obtain ⟨ob, cb, rfl⟩ := Sb.shapeT
  simp -implicitDefEqProofs
  refine CL_post (some5_run Bs C0 (by omega)) fun u h2 ⟨js, hl, C2⟩ => ?_
  obtain ⟨ua, uc, rfl⟩ : ∃ a c, u = .slice a js.length c := C2.seesJ.shapeT
  simp -implicitDefEqProofs
  refine CL_post (order_run Bs C2 (by omega) (N := js.length) (by omega)) fun w h3 ⟨xs, hx, C3⟩ => ?_
  obtain ⟨wa, wc, rfl⟩ : ∃ a c, w = .slice a xs.length c := C3.seesI.shapeT
  have J3 : Jobs h3 (.slice ua js.length uc) js := C3.seesAt (L := [_]) (i := 0) rfl
  have fin := gc_JX (r := []) C3.pre J3 C3.seesI
  simp -implicitDefEqProofs
  exact onK hK ⟨fin.1, js, xs, _, _, rfl, hl, by omega, fin.2⟩
/-! ### in plain terms -/
theorem breaks_nn {js : List Job} {S : List Sp} (h : spO js S = true) : (js.length : Int) ≤ S.length := by
  obtain ⟨hn, hg, c2⟩ := spO_of h
  obtain ⟨v1, _, _⟩ := split_vq c2
  have d : doneL js S = js.map (·.t) := by
    unfold splB at c2
    rw [Bool.and_eq_true, decide_eq_true_eq] at c2
    exact c2.2
  have al := spl_all c2
  have hm : ∀ x, x ∈ upTo js.length → x ∈ S.map (·.j) := fun x hx => by
    have hx := mem_upTo.1 hx
    have e := done_dur (js := js) (S := S) (D := List.replicate js.length 0) (i := x.toNat) (by simp) (by omega) fun s hs => (al s hs).1
    have ed : S.foldl addD (List.replicate js.length 0) = doneL js S := rfl
    have z : gE (List.replicate js.length (0 : Int)) x.toNat = 0 := by unfold gE; simp [show x.toNat < js.length by omega]
    have jb := jA_b hg hx
    have et : gE (js.map (·.t)) x.toNat = (jA js x).t := by
      obtain ⟨y, hy, _⟩ := drop_at (show x.toNat < js.length by omega)
      have ey : jA js x = y := by unfold jA; rw [hy]; rfl
      unfold gE; rw [List.getElem?_map, hy, ey]; rfl
    rw [ed, d, z, et] at e
    refine Classical.byContradiction fun g => ?_
    have : dur S x.toNat = 0 := by
      have go : ∀ {T : List Sp}, (∀ s, s ∈ T → 0 ≤ s.j ∧ s.j ≠ x) → dur T x.toNat = 0 := fun {T} => by
        induction T with
        | nil => intro _; rfl
        | cons s T ih =>
          intro hT
          have hs := hT s (List.mem_cons_self ..)
          rw [dur, if_neg (by omega), ih fun t ht => hT t (List.mem_cons_of_mem _ ht)]; rfl
      exact go fun s hs => ⟨(al s hs).1.1, fun e => g (List.mem_map.2 ⟨s, hs, e⟩)⟩
    omega
  have un : (upTo js.length).Nodup := by
    unfold upTo
    exact List.Pairwise.map _ (fun a b h e => h (by omega)) List.nodup_range
  have := nd_le un hm
  simp [upTo] at this
  omega
theorem chL_len {o : Int} {js : List Job} : (chL o js).length ≤ 1000 := by
  unfold chL
  split
  · exact spanL_len
  · simp
theorem ch_val {o : Int} {js : List Job} (hJ : jOk js = true) (ho : 1 ≤ o ∧ o ≤ 8) : svV js (chL o js) o = valE o js (bdE o js []) := by
  obtain ⟨hn, hg⟩ := jOk_of hJ
  have e : chL o js = spanL o js 0 (restL js []) := by unfold chL; rw [if_pos hJ]
  have sp := split_span (o := o) hg hn
  have so : svOk js (spanL o js 0 (restL js [])) o = true := by
    unfold svOk; rw [hJ, sp]; simp [inB]; omega
  rw [e]; unfold svV; rw [if_pos so]; unfold spE; rw [foldS_span]; rfl
theorem sv_of {o : Int} {js : List Job} {S : List Sp} (h : spO js S = true) (ho : 1 ≤ o ∧ o ≤ 8) : svV js S o = valE o js (spE js S) := by
  have so : svOk js S o = true := by
    unfold spO at h
    unfold svOk; rw [h]; simp [inB]; omega
  unfold svV; rw [if_pos so]
theorem sf_val {o : Int} {js : List Job} {xs : List Int} (h : sfO js xs = true) (ho : 1 ≤ o ∧ o ≤ 8) : svV js (sfL js xs) o = vOf js xs o ∧ cbV js (sfL js xs) = 0 := by
  have e : sfL js xs = sofL js xs := by unfold sfL; rw [if_pos h]
  have h' := h
  unfold sfO at h'
  rw [Bool.and_eq_true] at h'
  obtain ⟨hn, hg⟩ := jOk_of h'.1
  obtain ⟨k1, k2, k3⟩ := sof_ok hg hn (ord_of h'.2)
  have so : spO js (sofL js xs) = true := by unfold spO; rw [h'.1, k1]; rfl
  have ov : okV js xs o = true := by
    have h2 : (jOk js && l2OrderL js.length xs) = true := h
    unfold okV; rw [h2]; simp [inB]; omega
  refine ⟨?_, ?_⟩
  · rw [e, sv_of so ho, k2]; unfold vOf; rw [if_pos ov]; rfl
  · rw [e]; unfold cbV; rw [if_pos so, k3]; omega
theorem law_Splits {h : Hp} {vc : Value} {bs : List Int} (Sb : Sees h vc 1 (bs.map encU)) (hb : ∀ b, b ∈ bs → 0 ≤ b ∧ b ≤ 255) : Ret P G n_laws_FnSplits [vc] h (.bool true) h := by
  refine enter_run e_laws_FnSplits (by simp) ?_
  have r0 := vBig_run Sb
  by_cases c0 : (65536 : Int) < bs.length
  · simp -implicitDefEqProofs [CL_ret r0, c0]
  have B : By h vc := ⟨bs, Sb, hb, by omega⟩
  have Sbs := Sb
  obtain ⟨ob, cb, rfl⟩ := Sb.shapeT
  simp -implicitDefEqProofs [CL_ret r0, c0]
  refine CL_post (DrawSplitValue_run B) fun v h1 ⟨hp1, js, S, o, u, w, ev, hjl, hSl, J, X⟩ => ?_
  subst ev
  have l1 : js.length ≤ 2 ^ 40 := by omega
  have Js := J
  have Xs := X
  obtain ⟨ja, jc, rfl⟩ := J.shapeT
  obtain ⟨xa, xc, rfl⟩ := X.shapeT
  have r1 := implIsSplit_run Js Xs l1 (by omega)
  have r2 := specIsSplit_run Js Xs l1 (by omega)
  have r3 := implSplitValue_run (o := o) Js Xs l1 (by omega)
  have r4 := specSplitValue_run (o := o) Js Xs l1 (by omega)
  simp -implicitDefEqProofs [CL_ret r1, CL_ret r2, CL_ret r3, CL_ret r4]
  refine CL_post (implSplitEnds_run Js Xs l1 (by omega)) fun v h2 ⟨hp2, d2, ev, D2⟩ => ?_
  subst ev
  obtain ⟨da, dc, e2⟩ : ∃ a c, d2 = .slice a (seO js S).length c := D2.shapeT
  subst e2
  simp -implicitDefEqProofs
  refine CL_post (specSplitEnds_run (Js.pre hp2) (Xs.pre hp2) l1 (by omega)) fun v h3 ⟨hp3, d3, ev, D3⟩ => ?_
  subst ev
  obtain ⟨ea, en, ec, rfl⟩ : ∃ a n c, d3 = .slice a n c := by obtain ⟨a, c, e⟩ := D3.shape; exact ⟨_, _, _, e⟩
  have p13 := hp2.trans hp3
  have J3 := Js.pre p13
  have X3 := Xs.pre p13
  have r5 := implCountBreaks_run J3 X3 l1 (by omega)
  have r6 := specCountBreaks_run J3 X3 l1 (by omega)
  have D2' : Ints h3 (.slice da (seO js S).length dc) (seO js S) := D2.pre hp3
  have sl : (seO js S).length ≤ 2 ^ 10 := by
    unfold seO
    split
    · rw [spE_len]; omega
    · simp
  have r7 := vInts_run D2' D3 (by omega)
  have p03 := hp1.trans p13
  cases cJ : jOk js
  case' false =>
    have cp : spO js S = false := by unfold spO; rw [cJ]; rfl
    simp -implicitDefEqProofs [CL_ret r5, CL_ret r6, CL_ret r7, cJ, cp]
  case' true =>
    cases cp : spO js S
    case' false => simp -implicitDefEqProofs [CL_ret r5, CL_ret r6, CL_ret r7, cJ, cp]
    case' true => simp -implicitDefEqProofs [CL_ret r5, CL_ret r6, CL_ret r7, cJ, cp]
  all_goals
    refine CL_post (vCut_run (n := 1) (Sbs.pre p03) hb (by omega) (by omega)) fun w4 h4 ⟨hp4, B4⟩ => ?_
    have B4' := B4
    obtain ⟨bs4, S4, hb4, hbl4⟩ := B4'
    obtain ⟨o4, c4, rfl⟩ : ∃ a c, w4 = .slice a bs4.length c := S4.shapeT
    simp -implicitDefEqProofs
    refine CL_post (DrawSplitOf_run B4) fun v h5 ⟨hp5, ks, xs, u, w, ev, hkl, hxl, Jk, Xk⟩ => ?_
    subst ev
    have l2 : ks.length ≤ 2 ^ 40 := by omega
    have Jks := Jk
    have Xks := Xk
    obtain ⟨ka, kc, rfl⟩ := Jk.shapeT
    obtain ⟨ya, yc, rfl⟩ := Xk.shapeT
    simp -implicitDefEqProofs
    refine CL_post (implSplitOf_run Jks Xks l2 (by omega)) fun v h6 ⟨hp6, d6, ev, D6⟩ => ?_
    subst ev
    obtain ⟨fa, fc, e6⟩ : ∃ a c, d6 = .slice a (sfL ks xs).length c := D6.shapeT
    subst e6
    simp -implicitDefEqProofs
    refine CL_post (specSplitOf_run (Jks.pre hp6) (Xks.pre hp6) l2 (by omega)) fun v h7 ⟨hp7, d7, ev, o7⟩ => ?_
    subst ev
    have D7 : Spns h7 d7 (sfL ks xs) := o7.sees
    obtain ⟨ga, gn, gc', rfl⟩ : ∃ a n c, d7 = .slice a n c := by obtain ⟨a, c, e⟩ := D7.shape; exact ⟨_, _, _, e⟩
    have D6' : Spns h7 (.slice fa (sfL ks xs).length fc) (sfL ks xs) := D6.pre hp7
    have fl : (sfL ks xs).length ≤ 10 := by
      unfold sfL
      split
      · unfold sofL; rw [List.length_map]; omega
      · simp
    have r8 := vSpans_run D6' D7 (by omega)
    have p57 := hp6.trans hp7
    have p37 := hp4.trans (hp5.trans p57)
    have p07 := p03.trans p37
    have J7 := Jks.pre p57
    have X7 := Xks.pre p57
    obtain ⟨q, hq, r9⟩ := vAt_run (i := 3) (Sbs.pre p07) hb (by omega) (by omega)
    have r9 : Ret P G n_laws_vAt [.slice ob bs.length cb, .int .i64 3] h7 (.int .i64 q) h7 := r9
    have m1 : q.tmod 8 = q % 8 := Int.tmod_eq_emod_of_nonneg (by omega)
    have w9 : IntKind.i64.wrap (1 + q % 8) = 1 + q % 8 := by rw [wrap_ok] <;> omega
    have r10 := implSplitValue_run (o := 1 + q % 8) J7 D6' l2 (by omega)
    have r11 := implValueOf_run (o := 1 + q % 8) J7 X7 l2 (by omega)
    have r12 := implCountBreaks_run J7 D6' l2 (by omega)
    cases cf : sfO ks xs
    case' false => simp -implicitDefEqProofs [CL_ret r8]
    case' true =>
      obtain ⟨sv, sc⟩ := sf_val (o := 1 + q % 8) cf (by omega)
      rw [sv] at r10
      rw [sc] at r12
      simp -implicitDefEqProofs [CL_ret r8, CL_ret r9, m1, w9, CL_ret r10, CL_ret r11, CL_ret r12]
    all_goals
      have J8 := J3.pre p37
      have X8 := X3.pre p37
      refine CL_post (implByLeastRest_run J8 l1) fun v h9 ⟨hp9, d9, ev, D9⟩ => ?_
      subst ev
      obtain ⟨ia, ic, e9⟩ : ∃ a c, d9 = .slice a (chL 2 js).length c := D9.shapeT
      subst e9
      simp -implicitDefEqProofs
      refine CL_post (specByLeastRest_run (J8.pre hp9) l1) fun v h10 ⟨hp10, d10, ev, D10⟩ => ?_
      subst ev
      obtain ⟨la, ln, lc, rfl⟩ : ∃ a n c, d10 = .slice a n c := by obtain ⟨a, c, e⟩ := D10.shape; exact ⟨_, _, _, e⟩
      simp -implicitDefEqProofs
      refine CL_post (implByEarliest_run (J8.pre (hp9.trans hp10)) l1) fun v h11 ⟨hp11, d11, ev, D11⟩ => ?_
      subst ev
      obtain ⟨ma, mc, e11⟩ : ∃ a c, d11 = .slice a (chL 4 js).length c := D11.shapeT
      subst e11
      simp -implicitDefEqProofs
      refine CL_post (specByEarliestDate_run (J8.pre ((hp9.trans hp10).trans hp11)) l1) fun v h12 ⟨hp12, d12, ev, D12⟩ => ?_
      subst ev
      obtain ⟨na, nn, nc, rfl⟩ : ∃ a n c, d12 = .slice a n c := by obtain ⟨a, c, e⟩ := D12.shape; exact ⟨_, _, _, e⟩
      have p8 := ((hp9.trans hp10).trans hp11).trans hp12
      have cl2 := @chL_len 2 js
      have cl4 := @chL_len 4 js
      have D9' : Spns h12 (.slice ia (chL 2 js).length ic) (chL 2 js) := D9.pre ((hp10.trans hp11).trans hp12)
      have D10' := D10.pre (hp11.trans hp12)
      have D11' : Spns h12 (.slice ma (chL 4 js).length mc) (chL 4 js) := D11.pre hp12
      have r13 := vSpans_run D9' D10' (by omega)
      have r14 := vSpans_run D11' D12 (by omega)
      have p012 := p07.trans p8
      first
        | (simp -implicitDefEqProofs [CL_ret r13, CL_ret r14]
           exact gcP p012 rfl)
        | (have J12 := J8.pre p8
           have X12 := X8.pre p8
           obtain ⟨hn, hg, c2⟩ := spO_of cp
           have hJ : jOk js = true := cJ
           have r15 := implSplitValue_run (o := 2) J12 D9' l1 (by omega)
           have r16 := implSplitValue_run (o := 4) J12 D11' l1 (by omega)
           have r17 := implSplitValue_run (o := 2) J12 X12 l1 (by omega)
           have r18 := implSplitValue_run (o := 4) J12 X12 l1 (by omega)
           rw [ch_val hJ (by omega)] at r15 r16
           rw [sv_of cp (by omega)] at r17 r18
           have bn := breaks_nn cp
           have bv : cbV js S = (S.length : Int) - js.length := by unfold cbV; rw [if_pos cp]
           have b0 : 0 ≤ cbV js S := by omega
           have s1 := split_sum hg hn c2
           have s1' : valE 2 js (bdE 2 js []) ≤ valE 2 js (spE js S) := s1
           have s2' : valE 4 js (bdE 4 js []) ≤ valE 4 js (spE js S) := by
             by_cases hne : js = []
             · have e1 : ∀ es, valE 4 [] es = 0 := fun es => by unfold valE valGo; cases es <;> rfl
               rw [hne, e1, e1]; exact Int.le_refl _
             · exact split_late hg hn hne c2
           simp -implicitDefEqProofs [CL_ret r13, CL_ret r14, CL_ret r15, CL_ret r16, CL_ret r17, CL_ret r18, s1', s2', b0]
           exact gcP p012 rfl)
end Go.Pm.PP

/- A code of bytes as an argument, opened as a row. -/
set_option linter.unusedVariables false
set_option linter.unusedSimpArgs false
set_option maxRecDepth 4000
namespace Go.Pm
open Go.ChangeShapes Go.WideShapes
section
variable {P : Program} {H : Type} {enc : TypeId × Value → H} {w : World} {base : Nat} {held : Bool}
theorem flat_encU (xs : List Int) : (xs.map PP.encU).flatten = xs.map fun x => .int .u8 x := by
  induction xs with
  | nil => rfl
  | cons x xs ih => rw [List.map_cons, List.flatten_cons, ih]; rfl
/-- A slice of bytes. -/
theorem shows_bytes {t e : TypeId} {fuel : Nat} {v : Value} {x : DataW H × List MemPlace} (ht : P.underlying t = some (.slice e)) (he : P.underlying e = some (.int .u8)) (hc : P.cellsOf e = 1)
    (hd : DataW.trod enc P w base (fun _ => true) held fuel t [v] = some x) : ∃ xs : List Int, xs.length ≤ maxLen ∧ (∀ b, b ∈ xs → (Lit.int .u8 b).wf = true) ∧ ∀ (ρ : Mp) (h : Hp), Shows ρ h w 1 (xs.map PP.encU) v := by
  rcases open_ints ht he hc hd with ⟨h1, _⟩ | ⟨a, len, cap, zs, h1, _, hl, hm, hz, _, hcell, hwf⟩
  · cases h1
    exact ⟨[], by simp, by simp, fun ρ h => .inl ⟨rfl, rfl⟩⟩
  · cases h1
    simp only [if_true] at hz
    have hlen : (zs.take len).length = len := by rw [List.length_take]; omega
    refine ⟨zs.take len, by omega, fun b hb => hwf b (List.mem_of_mem_take hb), fun ρ h => .inr ⟨a, cap, by rw [List.length_map, hlen], by rw [List.length_map, hlen]; exact hl, ?_, fun k c hk => ?_⟩⟩
    · rcases Nat.eq_zero_or_pos cap with h0 | h0
      · exact .inl h0
      · right
        have := hcell 0 (by omega)
        unfold World.cell? at this
        simp only [Addr.add, if_true] at this
        cases hs : a.spot with
        | none => rfl
        | some s =>
          rw [hs] at this
          split at this <;> simp at this
    · rw [flat_encU, List.getElem?_map] at hk
      obtain ⟨z, hz2, rfl⟩ := Option.map_eq_some_iff.1 hk
      have hk1 := (List.getElem?_eq_some_iff.1 hz2).1
      rw [List.getElem?_take, if_pos (by omega)] at hz2
      refine ⟨_, hcell k (by omega), ?_⟩
      rw [List.getD_eq_getElem?_getD, hz2]
      exact .int _ _
end
end Go.Pm
namespace Go.Pm.PP
open Go.Pm Go.Proofs
theorem follows : P.follows .mixedOrders = true := by kernel_rfl
theorem cells_u8 : P.cellsOf t_u8 = 1 := by kernel_rfl
theorem byte_of {b : Int} (h : (Lit.int .u8 b).wf = true) : 0 ≤ b ∧ b ≤ 255 := by
  simp [Lit.wf, IntKind.min, IntKind.max, IntKind.signed, IntKind.bits] at h
  omega
section
variable {H : Type} {enc : TypeId × Value → H} {W : World} {ρ : Mp} {h : Hp} {v : Value} {n0 : Nat} {x0 : DataW H × List MemPlace}
theorem open_bytes (R : Rel ρ h W) (ha : AllRo h) (d0 : DataW.trod enc P W 0 (fun _ => true) true n0 t_S_u8 [v] = some x0) :
    ∃ (h2 : Hp) (ρ2 : Mp) (p : Value) (xs : List Int), h <+: h2 ∧ Rel ρ2 h2 W ∧ AllRo h2 ∧ Step ρ h ρ2 h2 ∧ VR ρ2 h2 p v ∧ Sees h2 p 1 (xs.map encU) ∧ ∀ b, b ∈ xs → 0 ≤ b ∧ b ≤ 255 := by
  obtain ⟨xs, l0, hw, s0⟩ := shows_bytes (P := P) (v := v) u_S_u8 u_u8 cells_u8 d0
  obtain ⟨h2, ρ2, p, q, R2, a2, t, r, N⟩ := add_slice (w := W) (len_U xs) R ha (s0 ρ h)
  exact ⟨h2, ρ2, p, xs, q, R2, a2, t, r, N, fun b hb => byte_of (hw b hb)⟩
end
end Go.Pm.PP
