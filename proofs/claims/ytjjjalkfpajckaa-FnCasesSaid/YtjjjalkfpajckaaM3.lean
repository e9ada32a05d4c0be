/- The texts PnR0, PnR1, PmJ, PmN, PmO, PmQ, PmR of this work: Runs with a mark: what comes ahead of the writer, and behind it. -/
import Derived.Test.YtjjjalkfpajckaaM2
/- Runs with a mark: what comes ahead of the writer, and behind it. -/
set_option linter.unusedVariables false
set_option linter.unusedSimpArgs false
namespace Go.Pm
section
variable {F : Oper → St → Option (Value × Hp)} {N : Nat} {ops : Array Oper} {q : List (Nat × Nat)} {i : Nat}
theorem lateQ_pre (hq : lateQ q = some i) {l2 : List Oper} {st1 : St} : ∀ {l1 : List Oper} {Ls : List Nat} {st : St}, runG F N ops q Ls (l1 ++ l2) st = some st1 → Ls.length + l1.length ≤ i → ∃ stm Ls', runH F N ops l1 st = some stm ∧ Ls'.length = Ls.length + l1.length ∧ runG F N ops q Ls' l2 stm = some st1
  | [], Ls, st, e, _ => ⟨st, Ls, rfl, rfl, e⟩
  | o :: l1, Ls, st, e, hi => by
    rw [List.length_cons] at hi
    rw [List.cons_append] at e
    simp only [runG] at e
    simp only [runH]
    split at e
    case isFalse => cases e
    rename_i hd
    rw [if_pos hd]
    split at e
    · rename_i hw
      obtain ⟨stm, Ls', h1, h2, h3⟩ := lateQ_pre hq e (by simp; omega)
      exact ⟨stm, Ls', by simpa [hw] using h1, by rw [h2]; simp; omega, h3⟩
    · rename_i hw
      split at e
      · rename_i v h' ho
        split at e
        · rename_i hok
          obtain ⟨stm, Ls', h1, h2, h3⟩ := lateQ_pre hq e (by simp; omega)
          have hn : newOk st.h h' := by
            unfold okAt at hok
            rw [hq] at hok
            simp only at hok
            rw [if_pos (by omega)] at hok
            exact hok
          exact ⟨stm, Ls', by simp only [hw, ho, if_pos hn]; exact h1, by rw [h2]; simp; omega, h3⟩
        · cases e
      · cases e
    · cases e
/-- Behind the writer memory stays. -/
theorem lateQ_post (hq : lateQ q = some i) {st1 : St} : ∀ {l : List Oper} {Ls : List Nat} {st : St}, runG F N ops q Ls l st = some st1 → i < Ls.length → st1.h = st.h ∧ chkQ F ops st1 q ∧ ∃ (V : Nat → Value) (X : Nat → Slots), X 0 = st.s ∧ X l.length = st1.s ∧ ∀ j o, l[j]? = some o → dstOk N o.dst = true ∧ X (j + 1) = put (X j) o.dst (V j) ∧
      ((wantP ops (keep (o.looksAt ops) (X j)) o = some false ∧ V j = undef) ∨ (wantP ops (keep (o.looksAt ops) (X j)) o = some true ∧ F o ⟨keep (o.looksAt ops) (X j), st.h⟩ = some (V j, st.h)))
  | [], Ls, st, e, _ => by
    simp only [runG] at e
    split at e
    · rename_i hc
      cases e
      exact ⟨rfl, hc, fun _ => undef, fun _ => st1.s, rfl, rfl, fun j o hj => by simp at hj⟩
    · cases e
  | o :: l, Ls, st, e, hi => by
    simp only [runG] at e
    split at e
    case isFalse => cases e
    rename_i hd
    have build : ∀ (v : Value), runG F N ops q (Ls ++ [st.h.length]) l ⟨put st.s o.dst v, st.h⟩ = some st1 → ((wantP ops (keep (o.looksAt ops) st.s) o = some false ∧ v = undef) ∨ (wantP ops (keep (o.looksAt ops) st.s) o = some true ∧ F o ⟨keep (o.looksAt ops) st.s, st.h⟩ = some (v, st.h))) → st1.h = st.h ∧ chkQ F ops st1 q ∧ ∃ (V : Nat → Value) (X : Nat → Slots), X 0 = st.s ∧ X (o :: l).length = st1.s ∧ ∀ j o', (o :: l)[j]? = some o' → dstOk N o'.dst = true ∧ X (j + 1) = put (X j) o'.dst (V j) ∧
      ((wantP ops (keep (o'.looksAt ops) (X j)) o' = some false ∧ V j = undef) ∨ (wantP ops (keep (o'.looksAt ops) (X j)) o' = some true ∧ F o' ⟨keep (o'.looksAt ops) (X j), st.h⟩ = some (V j, st.h))) := fun v er hs => by
      obtain ⟨h1, h2, V, X, x0, xn, hX⟩ := lateQ_post hq er (by simp; omega)
      refine ⟨h1, h2, fun j => match j with | 0 => v | j + 1 => V j, fun j => match j with | 0 => st.s | j + 1 => X j, rfl, by simpa using xn, fun j o' hj => ?_⟩
      cases j with
      | zero =>
        simp only [List.getElem?_cons_zero, Option.some.injEq] at hj
        subst hj
        exact ⟨hd, x0, hs⟩
      | succ j => exact hX j o' (by simpa using hj)
    split at e
    · rename_i hw
      exact build undef e (.inl ⟨hw, rfl⟩)
    · rename_i hw
      split at e
      · rename_i v h' ho
        split at e
        · rename_i hok
          unfold okAt at hok
          rw [hq] at hok
          simp only at hok
          rw [if_neg (by omega), if_neg (by omega)] at hok
          subst hok
          exact build v e (.inr ⟨hw, ho⟩)
        · cases e
      · cases e
    · cases e
end
end Go.Pm

/- A region that draws its order, one of whose operations writes: the whole. -/
set_option linter.unusedVariables false
set_option linter.unusedSimpArgs false
namespace Go.Pm
variable {P : Program} {G : FuncId → GI}
theorem chkQ_at {F : Oper → St → Option (Value × Hp)} {ops : Array Oper} {st : St} {j : Nat} {o : Oper} : ∀ {q : List (Nat × Nat)}, chkQ F ops st q → (1001, j) ∈ q → ops[j]? = some o → F o ⟨keep (o.looksAt ops) st.s, st.h⟩ = some ((o.dst.bind (get st.s)).getD undef, st.h)
  | [], _, hm, _ => by cases hm
  | (k, j') :: r, h, hm, ho => by
    rcases List.mem_cons.1 hm with e | hm
    · cases e
      have h1 := h.1
      rw [if_pos rfl, ho] at h1
      exact h1
    · exact chkQ_at h.2 hm ho
theorem keep_ext {s s' : Slots} : ∀ {K : List Nat}, (∀ t, t ∈ K → get s t = get s' t) → keep K s = keep K s' := by
  intro K
  induction K with
  | nil => intro _; rfl
  | cons t K ih =>
    intro h
    have h1 := h t (List.mem_cons_self ..)
    have h2 := ih fun u hu => h u (List.mem_cons_of_mem _ hu)
    unfold keep at h2 ⊢
    simp only [List.filterMap_cons, h1, h2]
section
variable {f N : Nat} {ops : Array Oper} {n i : Nat} {st st1 : St} {q : List (Nat × Nat)}
theorem draw_okL (hm : P.follows .mixedOrders = true) (hql : lateQ q = some i) (hF : OpSound P (fun o st => execO P G f o st)) (hd : lateG ops n q i = true) (e : runG (fun o st => execO P G f o st) N ops q [] (ops.toList.take n) st = some st1) {ρ : Mp} {a : Act} {w : World} (R : Rel ρ st.h w) (S : SR ρ st.h st.s a.tmps) (hN : a.tmps.size = N) (hdf : a.defers = [])
    {Q : Exit → Act → World → Prop} (hQ : ∀ a' w', Beh ρ st.h w N st1 a' w' → wpList P ops Q (ops.toList.drop n) a' w') {id : Nat} : (Code.region id ops true).wp P Q a w := by
  unfold lateG at hd
  simp only [Bool.and_eq_true, decide_eq_true_eq] at hd
  obtain ⟨⟨⟨hdo, hin⟩, hgd0⟩, hall⟩ := hd
  have D := drawOk_spec hdo
  have hn := D.hn
  obtain ⟨m, rfl⟩ : ∃ m, n = m + 1 := ⟨n - 1, by omega⟩
  have hilt : i < ops.size := by omega
  have hos : ops[i]? = some ops[i] := by simp [hilt]
  generalize hosg : ops[i] = os at hos
  rw [hos] at hgd0
  have hgd : os.guard = none := by simpa using hgd0
  have hsplit : ops.toList.take (m + 1) = ops.toList.take i ++ os :: (ops.toList.drop (i + 1)).take (m - i) := by
    have e1 : ops.toList.take (m + 1) = (ops.toList.take (m + 1)).take i ++ (ops.toList.take (m + 1)).drop i := (List.take_append_drop ..).symm
    rw [e1, List.take_take, Nat.min_eq_left (by omega), List.drop_take]
    congr 1
    rw [List.drop_eq_getElem_cons (by simpa using hilt), show m + 1 - i = (m - i) + 1 by omega, List.take_succ_cons]
    congr 1
  rw [hsplit] at e
  obtain ⟨stm, Ls', h1, hL, h3⟩ := lateQ_pre hql e (by simp; omega)
  have hLi : Ls'.length = i := by rw [hL]; simp; omega
  simp only [runG] at h3
  split at h3
  case isFalse => cases h3
  rename_i hdn
  have hwant : ∀ s, wantP ops s os = some true := fun s => by simp [wantP, hgd]
  simp only [hwant] at h3
  split at h3
  case h_2 => cases h3
  rename_i vs hh hfs
  split at h3
  case isFalse => cases h3
  obtain ⟨hh1, hchk, V2, X2, x20, x2n, hX2⟩ := lateQ_post hql h3 (by simp; omega)
  have hh1 : st1.h = hh := hh1
  subst hh1
  obtain ⟨V1, L, X1, T⟩ := trace _ N ops _ st stm h1
  have hil : (ops.toList.take i).length = i := by simp; omega
  have hrl : ((ops.toList.drop (i + 1)).take (m - i)).length = m - i := by simp; omega
  have hpre : ∀ j o, j < i → ops[j]? = some o → (ops.toList.take i)[j]? = some o := fun j o hj ho => by
    rw [List.getElem?_take, if_pos hj]; simpa using ho
  have hpost : ∀ j o, i < j → j < m + 1 → ops[j]? = some o → ((ops.toList.drop (i + 1)).take (m - i))[j - (i + 1)]? = some o := fun j o h1 h2 ho => by
    rw [List.getElem?_take, if_pos (by omega), List.getElem?_drop, show i + 1 + (j - (i + 1)) = j by omega]; simpa using ho
  obtain ⟨V, hV⟩ : ∃ V : Nat → Value, V = fun j => if j < i then V1 j else if j = i then vs else V2 (j - (i + 1)) := ⟨_, rfl⟩
  obtain ⟨X, hX⟩ : ∃ X : Nat → Slots, X = fun j => if j ≤ i then X1 j else X2 (j - (i + 1)) := ⟨_, rfl⟩
  have hVV : ∀ j, j < i → V j = V1 j := fun j hj => by rw [hV]; simp [hj]
  have hVi : V i = vs := by rw [hV]; simp
  have hVp : ∀ j, i < j → V j = V2 (j - (i + 1)) := fun j hj => by rw [hV]; simp only; rw [if_neg (by omega), if_neg (by omega)]
  have hXp : ∀ j, j ≤ i → X j = X1 j := fun j hj => by rw [hX]; simp only; rw [if_pos hj]
  have hXq : ∀ j, i < j → X j = X2 (j - (i + 1)) := fun j hj => by rw [hX]; simp only; rw [if_neg (by omega)]
  have hXi : X i = stm.s := by rw [hXp i (Nat.le_refl _), ← T.xn, hil]
  have A : Along N ops (m + 1) st.s V X := by
    refine ⟨by rw [hXp 0 (by omega)]; exact T.x0, fun j o hj ho => ?_⟩
    rcases Nat.lt_trichotomy j i with g | g | g
    · obtain ⟨t1, t2, _⟩ := T.step j o (hpre j o g ho)
      exact ⟨t1, by rw [hXp (j + 1) (by omega), hXp j (by omega), hVV j g]; exact t2⟩
    · subst g
      rw [hos] at ho; cases ho
      refine ⟨hdn, ?_⟩
      rw [hXq (j + 1) (by omega), Nat.sub_self, x20, hXi, hVi]
    · obtain ⟨t1, t2, _⟩ := hX2 (j - (i + 1)) o (hpost j o g hj ho)
      refine ⟨t1, ?_⟩
      rw [hXq (j + 1) (by omega), hXq j g, hVp j g, show j + 1 - (i + 1) = j - (i + 1) + 1 by omega]
      exact t2
  have hXn : X (m + 1) = st1.s := by rw [hXq (m + 1) (by omega), show m + 1 - (i + 1) = m - i by omega, ← x2n, hrl]
  have hallk : ∀ k, k < m + 1 → k ≠ i → (k < i ∧ (waitsT ops (m + 1) i k = true ∨ pureAt ops k = true ∨ ((1001, k) ∈ q ∧ ∀ o, ops[k]? = some o → o.guard = none ∧ o.dst.isSome = true))) ∨ (i < k ∧ waitsT ops (m + 1) k i = true) := fun k hk hki => by
    have := List.all_eq_true.1 hall k (List.mem_range.2 hk)
    simp only [Bool.or_eq_true, decide_eq_true_eq] at this
    rcases this with g | g
    · exact absurd g hki
    · split at g
      · rename_i hlt
        refine .inl ⟨hlt, ?_⟩
        simp only [Bool.or_eq_true, Bool.and_eq_true] at g
        rcases g with (g | g) | ⟨g1, g2⟩
        · exact .inl g
        · exact .inr (.inl g)
        · refine .inr (.inr ⟨by simpa using g1, fun o ho => ?_⟩)
          rw [ho] at g2
          simpa using g2
      · exact .inr ⟨by omega, g⟩
  have hafter : ∀ j, i < j → j < m + 1 → waitsT ops (m + 1) j i = true := fun j h1 h2 => by
    rcases hallk j h2 (by omega) with g | g
    · omega
    · exact g.2
  have hrest : ∀ j o, j < m + 1 → j ≠ i → waitsT ops (m + 1) i j = false → ops[j]? = some o → (wantP ops (keep (o.looksAt ops) (X j)) o = some false ∧ V j = undef) ∨ (wantP ops (keep (o.looksAt ops) (X j)) o = some true ∧ execO P G f o ⟨keep (o.looksAt ops) (X j), st1.h⟩ = some (V j, st1.h)) := fun j o hj hji hw ho => by
    rcases hallk j hj hji with ⟨g, g2 | g2 | ⟨g2, g3⟩⟩ | ⟨g, _⟩
    · rw [hw] at g2; cases g2
    · obtain ⟨_, _, hs⟩ := T.step j o (hpre j o g ho)
      rw [hXp j (by omega), hVV j g]
      rcases hs with ⟨s1, s2, _⟩ | ⟨s1, s2⟩
      · exact .inl ⟨s1, s2⟩
      · refine .inr ⟨s1, (pure_runs (by simpa [pureAt, ho] using g2) s2).2 st1.h⟩
    · obtain ⟨hg, hds⟩ := g3 o ho
      have hc := chkQ_at hchk g2 ho
      obtain ⟨d, hd⟩ := Option.isSome_iff_exists.1 hds
      -- the slots that it looks at, and its own, are as they were
      have later : ∀ (t : Nat) (k0 : Nat), k0 ≤ m + 1 → (∀ j' o', k0 ≤ j' → j' < m + 1 → ops[j']? = some o' → o'.dst ≠ some t) → get (X (m + 1)) t = get (X k0) t := fun t k0 hk0 hno => by
        have key : ∀ r, k0 + r ≤ m + 1 → get (X (k0 + r)) t = get (X k0) t := fun r => by
          induction r with
          | zero => intro _; rfl
          | succ r ih =>
            intro hr
            have ho' : ops[k0 + r]? = some ops[k0 + r] := by simp [show k0 + r < ops.size by omega]
            obtain ⟨_, t2⟩ := A.step (k0 + r) _ (by omega) ho'
            rw [show k0 + (r + 1) = k0 + r + 1 by omega, t2, get_put, if_neg (hno (k0 + r) _ (by omega) (by omega) ho')]
            exact ih (by omega)
        have := key (m + 1 - k0) (by omega)
        rwa [show k0 + (m + 1 - k0) = m + 1 by omega] at this
      have ek : keep (o.looksAt ops) st1.s = keep (o.looksAt ops) (X j) := keep_ext fun t ht => by
        rw [← hXn]
        refine later t j (by omega) fun j' o' h1 h2 ho' hd' => ?_
        obtain ⟨h4, _⟩ := D.deps j o t j' t hj ho ht h2 (by rw [ho']; exact hd') rfl
        omega
      have ev : (o.dst.bind (get st1.s)).getD undef = V j := by
        rw [hd]
        have e1 : get (X (m + 1)) d = get (X (j + 1)) d := later d (j + 1) (by omega) fun j' o' h1 h2 ho' => D.dist j j' o o' d hj h2 (by omega) ho ho' hd
        have e2 : get (X (j + 1)) d = some (V j) := by
          rw [(A.step j o hj ho).2, get_put, if_pos hd]
        show (get st1.s d).getD undef = _
        rw [← hXn, e1, e2]; rfl
      rw [ek, ev] at hc
      exact .inr ⟨by simp [wantP, hg], hc⟩
    · obtain ⟨_, _, hs⟩ := hX2 (j - (i + 1)) o (hpost j o g hj ho)
      rw [hXq j g, hVp j g]
      exact hs
  have hnl := hil
  have hle : ∀ {i' j}, i' ≤ j → j ≤ i → L i' ≤ L j := fun h1 h2 => T.le h1 (by rw [hnl]; exact h2)
  have hLn : L i = stm.h.length := by have := T.hn; rwa [hnl] at this
  have hst0 : st.h = stm.h.take (L 0) := T.pre
  have hlen : st.h.length = L 0 := T.h0.symm
  have hL0 : L 0 ≤ stm.h.length := by rw [← hLn]; exact hle (Nat.zero_le _) (Nat.le_refl _)
  refine wp_region_any hm ?_
  have R' := R.drew (w.drawn + 1)
  have hlt : ∀ {r p}, ρ r = some p → r < L 0 := fun {r p} hp => by rw [← hlen]; exact R.dom r p hp
  have hcell : ∀ r x p, stm.h[r]? = some (some x) → ρ r = some p → ∀ v, v ∈ x.cells → Cl (L 0) v := by
    intro r x p hx hp v hv
    have hx' : st.h[r]? = some (some x) := by rw [hst0, take_get (hlt hp)]; exact hx
    obtain ⟨m, hm⟩ := List.getElem?_of_mem hv
    rw [← hlen]
    cases hro : x.ro with
    | false => obtain ⟨c, e, _, _, _, g4⟩ := R.own r x p hx' hp hro
               obtain ⟨u, _, k2⟩ := g4 m v hm
               exact k2.cl
    | true => obtain ⟨u, _, k2⟩ := R.ro r x p hx' hp hro m v hm
              exact k2.cl
  have stp : Step ρ st.h ρ stm.h := by rw [hst0]; exact step_ext hL0 fun _ _ _ _ _ hp => hp
  have I : Inv ρ { w with drawn := w.drawn + 1 } N ops i st stm V1 L (Array.replicate ops.size false) ρ a { w with drawn := w.drawn + 1 } :=
    ⟨Rel.ext hL0 (by rw [← hst0]; exact R'), fun r x p hx hp k hk hr v hv => (hcell r x p hx hp v hv).mono (T.le (by omega) (by omega)),
     fun j o d hj hlj => (by rw [getD_replicate_false] at hlj; cases hlj), fun t v hg _ => (S t v hg).step stp, fun r p hp => .inl (hlt hp), fun _ _ _ _ => rfl, fun _ _ h => h,
     fun r x p hr hx hp => (by have := hlt hp; omega), rfl, rfl, rfl, Nat.le_refl _, fun _ _ _ => rfl, hN, hdf⟩
  have inv0 : HeadInv .any ops (m + 1) (Array.replicate ops.size false) :=
    ⟨by simp, fun j oj _ hl => (by rw [getD_replicate_false] at hl; cases hl), fun t _ ht => getD_in (by simpa using ht) (getD_replicate_false _ _)⟩
  have hunl : unl (m + 1) (Array.replicate ops.size false) = m + 1 := by
    unfold unl
    rw [List.filter_eq_self.2]
    · simp
    · intro j hj
      rw [List.mem_range] at hj
      simp [show j < ops.size by omega]
  have := late2_pre (ρ0 := ρ) (w0 := { w with drawn := w.drawn + 1 }) hin hF T A hXn hVV hVi D hos hgd hrest hafter hfs hdn (fun t v hg => by rw [← hlen]; exact (S t v hg).cl) (Q := Q) (fun a' w' b => hQ a' w' (b.trans (Go1.drew ρ st.h w _))) (m + 1) _ ρ a _ hunl inv0 (getD_in (by simpa using (show i < ops.size by omega)) (getD_replicate_false _ _)) I
  rwa [show m + 1 + (ops.size - (m + 1)) = ops.size by omega] at this
end
end Go.Pm

/- What the small machine reckons, the model does: code, calls. -/
set_option linter.unusedVariables false
set_option linter.unusedSimpArgs false
namespace Go.Pm
variable {P : Program} {ρ : Mp} {h : Hp} {w : World}

theorem rounds_mono {c : Code} {Q Q' : Exit → Act → World → Prop} (hq : ∀ e a w, Q e a w → Q' e a w) : ∀ (n : Nat) (a : Act) (w : World), Code.rounds P c Q n a w → Code.rounds P c Q' n a w
  | 0, _, _, h => h
  | n + 1, a, w, h => by
    rw [rounds_succ] at *
    refine wp_mono h fun e a w hh => ?_
    cases e <;> first | exact rounds_mono hq n a w hh | exact hq _ _ _ hh

theorem enter_spec {g : FuncId} {c : Code} {N : Nat} {rs : Array ResultVar} (e : enterP P g = some (c, N, rs)) :
    ∃ fn, P.funcs[g]? = some fn ∧ (fn.name == "runtime.NumGoroutine") = false ∧ fn.body = some c ∧ fn.ntmps = N ∧ fn.results = rs := by
  unfold enterP at e
  split at e
  · rename_i fn hf
    split at e
    · cases e
    · rename_i hn
      split at e
      · rename_i c1 hc
        cases e
        exact ⟨fn, hf, by simpa using hn, hc, rfl, rfl⟩
      · cases e
  · cases e

theorem enterG_spec {gi : GI} {g : FuncId} {c : Code} {N : Nat} {rs : Array ResultVar} (e : enterG P gi g = some (c, N, rs)) : enterP P g = some (c, N, rs) ∧ codeOk gi c = true := by
  unfold enterG at e
  split at e
  · rename_i c' N' rs' h1
    split at e
    · rename_i h2
      cases e
      exact ⟨h1, h2⟩
    · cases e
  · cases e

theorem get_number : ∀ (l : List Value) (i t : Nat) (v : Value), get (number i l) t = some v → i ≤ t ∧ l[t - i]? = some v
  | [], i, t, v, e => by cases e
  | x :: l, i, t, v, e => by
    simp only [number, get] at e
    split at e
    · rename_i ht; subst ht; cases e; simp
    · rename_i ht
      obtain ⟨h1, h2⟩ := get_number l (i + 1) t v e
      refine ⟨by omega, ?_⟩
      rw [show t - i = (t - (i + 1)) + 1 by omega]
      simpa using h2

theorem sr_number {l l' : List Value} (hl : VL ρ h l l') (n : Nat) : SR ρ h (number 0 l) (l'.toArray ++ Array.replicate n undef) := by
  intro t v e
  obtain ⟨_, h1⟩ := get_number l 0 t v e
  simp only [Nat.sub_zero] at h1
  have hlt : t < l'.length := by have := (List.getElem?_eq_some_iff.1 h1).1; have := hl.1; omega
  have := hl.2 t v _ h1 (List.getElem?_eq_getElem hlt)
  rw [Array.getD_eq_getD_getElem?, Array.getElem?_append_left (by simpa using hlt)]
  simpa [hlt] using this

/-! ### results -/
def rf (tm : Array Value) : ResultVar → Sem Value
  | .tmp t => pure (tm.getD t undef)
  | .cell c t => do loadVar t (← asAddr (tm.getD c undef))
theorem results_eq (fn : Func) (tm : Array Value) : results fn tm = (fn.results.mapM (rf tm) >>= fun vs => pure (if h : vs.size = 1 then vs[0] else .tuple vs)) := rfl

theorem res1_ok {st : St} {a : Act} (R : Rel ρ st.h w) (S : SR ρ st.h st.s a.tmps) {x : ResultVar} {v : Value} (e : res1 P st x = some v) :
    ∃ v', (rf a.tmps x).run P w = .ok v' w ∧ VR ρ st.h v v' := by
  cases x with
  | tmp t => exact ⟨_, by simp [rf], S t v e⟩
  | cell c t =>
    simp only [res1] at e
    obtain ⟨u, hu, e⟩ := Option.bind_eq_some_iff.1 e
    have h1 := S c u hu
    obtain ⟨v', h2, h3⟩ := load_ok (P := P) R h1 e
    refine ⟨v', ?_, h3⟩
    cases u <;> simp only [loadP] at e <;> try (cases e; done)
    rename_i ad
    cases ad with
    | none => cases e
    | some ad =>
      obtain ⟨a', ha'⟩ : ∃ a', a.tmps.getD c undef = .pointer (some a') := by
        generalize a.tmps.getD c undef = q at h1
        cases h1 <;> exact ⟨_, rfl⟩
      rw [ha'] at h2
      simp only [rf, ha', asAddr, Sem.run_bind, Sem.run_pure, Result.andThen_ok]
      simpa [Instr.loadAt, Instr.sureAddr] using h2

theorem resL_ok {st : St} {a : Act} (R : Rel ρ st.h w) (S : SR ρ st.h st.s a.tmps) : ∀ (l : List ResultVar) (vs : List Value), resL P st l = some vs →
    ∃ vs', (l.mapM (rf a.tmps)).run P w = .ok vs' w ∧ VL ρ st.h vs vs'
  | [], vs, e => by cases e; exact ⟨[], by simp, VL.nil⟩
  | x :: l, vs, e => by
    simp only [resL] at e
    obtain ⟨v, hv, e⟩ := Option.bind_eq_some_iff.1 e
    obtain ⟨m, hm, rfl⟩ := Option.map_eq_some_iff.1 e
    obtain ⟨v', h1, h2⟩ := res1_ok R S hv
    obtain ⟨m', h3, h4⟩ := resL_ok R S l m hm
    refine ⟨v' :: m', ?_, VL.cons h2 h4⟩
    rw [List.mapM_cons, Sem.run_bind, h1, Result.andThen_ok, Sem.run_bind, h3, Result.andThen_ok, Sem.run_pure]

theorem resP_ok {st : St} {a : Act} (R : Rel ρ st.h w) (S : SR ρ st.h st.s a.tmps) {fn : Func} {v : Value} (e : resP P fn.results st = some v) :
    ∃ v', (results fn a.tmps).run P w = .ok v' w ∧ VR ρ st.h v v' := by
  unfold resP at e
  obtain ⟨vs, hvs, e⟩ := Option.map_eq_some_iff.1 e
  obtain ⟨vs', h1, h2⟩ := resL_ok R S fn.results.toList vs hvs
  have h3 : (fn.results.mapM (rf a.tmps)).run P w = .ok vs'.toArray w := by
    rw [← Array.toArray_toList (xs := fn.results), List.mapM_toArray]
    rw [Sem.run_map, h1]
    rfl
  refine ⟨_, by rw [results_eq, Sem.run_bind, h3, Result.andThen_ok, Sem.run_pure], ?_⟩
  split at e
  · rename_i u
    subst e
    obtain ⟨u', m', rfl, h4, h5⟩ := h2.head
    rw [h5.nil_left]
    simpa using h4
  · rename_i hne
    subst e
    have hlen := h2.1
    rw [dif_neg]
    · exact .tuple _ _ (by simpa using hlen) (fun i u u' g1 g2 => h2.2 i u u' (by simpa using g1) (by simpa using g2))
    · intro hsz
      have : vs.length = 1 := by simpa [hlen] using hsz
      match vs, this with
      | [u], _ => exact hne u rfl

/-! ### what a function leaves -/
theorem plainC_any {ρ ρ2 : Mp} {h h2 : Hp} {v v' : Value} (hp : plainC v = true) (hv : VR ρ h v v') : VR ρ2 h2 v v' := by
  cases hv <;> first | (simp [plainC] at hp; done) | constructor
theorem plain_any {ρ ρ2 : Mp} {h h2 : Hp} {v v' : Value} (hp : plain v = true) (hv : VR ρ h v v') : VR ρ2 h2 v v' := by
  unfold plain at hp
  split at hp
  · rename_i cs
    cases hv with
    | agg _ cs' e h1 => exact .agg _ _ e fun i u u' g1 g2 => plainC_any (List.all_eq_true.1 hp u (by simpa using Array.mem_of_getElem? g1)) (h1 i u u' g1 g2)
  · rename_i cs
    cases hv with
    | tuple _ cs' e h1 => exact .tuple _ _ e fun i u u' g1 g2 => plainC_any (List.all_eq_true.1 hp u (by simpa using Array.mem_of_getElem? g1)) (h1 i u u' g1 g2)
  · exact plainC_any hp hv
theorem gc_ok {ρ ρ' : Mp} {h h' : Hp} {w w' : World} {v v' : Value} (R : Rel ρ h w) (hv : VR ρ' h' v v') (R' : Rel ρ' h' w') (Gx : Go1 ρ h w ρ' h' w') :
    ∃ ρ2, VR ρ2 (gc h h' v) v v' ∧ Rel ρ2 (gc h h' v) w' ∧ Go1 ρ h w ρ2 (gc h h' v) w' := by
  unfold gc
  split
  · rename_i hc
    obtain ⟨hp, hpre⟩ := hc
    have hh : h = h'.take h.length := List.prefix_iff_eq_take.1 hpre
    have old : ∀ r x, r < h.length → h'[r]? = some (some x) → h[r]? = some (some x) := fun r x hr hx => by rw [hh, take_get hr]; exact hx
    refine ⟨Pm.res ρ' h.length, plain_any hp hv, ?_, Gx.os, Gx.tape, Gx.output, Gx.size, Gx.blk, fun r' x' p' g1 g2 g3 => ?_, ⟨fun r x p hx hp => ?_, fun _ h => h⟩, Nat.le_refl _, fun r hr hn => ?_⟩
    · have := R'.res (L := h.length) fun r x p hx hp hr v hv => by
        have hx' := old r x hr hx
        cases hρ : ρ r with
        | none => rw [Gx.keepn r hr hρ] at hp; cases hp
        | some q =>
          obtain ⟨m, hm⟩ := List.getElem?_of_mem hv
          cases hro : x.ro with
          | false => obtain ⟨c, e, _, _, _, g4⟩ := R.own r x q hx' hρ hro
                     obtain ⟨u, _, k2⟩ := g4 m v hm
                     exact k2.cl
          | true => obtain ⟨u, _, k2⟩ := R.ro r x q hx' hρ hro m v hm
                    exact k2.cl
      rwa [← hh] at this
    · obtain ⟨h1, h2⟩ := res_some g2
      exact Gx.orig r' x' p' (by rw [hh, take_get h1] at g1; exact g1) h2 g3
    · have hr := (List.getElem?_eq_some_iff.1 hx).1
      have hx' : h'[r]? = some (some x) := by rw [hh, take_get hr] at hx; exact hx
      rcases Gx.step.live r x p hx hp with ⟨x1, h1, h2, h3, h4, h5⟩ | ⟨_, h5⟩
      · exact .inl ⟨x, hx, rfl, rfl, rfl, by simp [Pm.res, hr, h5]⟩
      · have := h5 x hx'; omega
    · simp [Pm.res, hr, Gx.keepn r hr hn]
  · exact ⟨ρ', hv, R', Gx⟩

theorem nilDst_of {x : Option Nat} {ops : Array Oper} {t : Nat} (h : nilDst x ops = some t) : ∃ o, ops.toList = [o] ∧ o.op = .assign (.const (.slice none 0 0)) ∧ o.guard = none ∧ o.dst = some t := by
  unfold nilDst at h
  split at h
  · cases h
  · split at h
    · rename_i o ho
      split at h
      · rename_i c t' h1 h2 h3
        split at h
        · rename_i hc
          cases h
          exact ⟨o, ho, by rw [h1, nilC_eq hc], h2, h3⟩
        · cases h
      · cases h
    · cases h
/-! ### the whole -/
structure Sound (P : Program) (G : FuncId → GI) (f : Nat) : Prop where
  code : ∀ N K c st ex st', codeOk K c = true → exec P G f N K c st = some (ex, st') → ∀ ρ a w, Rel ρ st.h w → SR ρ st.h st.s a.tmps → a.tmps.size = N → a.defers = [] → c.wp P (Post ρ st.h w N ex st') a w
  loop : ∀ N K b st ex st', codeOk K b = true → exec P G f N K (.loop b) st = some (ex, st') → ∀ ρ a w, Rel ρ st.h w → SR ρ st.h st.s a.tmps → a.tmps.size = N → a.defers = [] → Code.rounds P b (Post ρ st.h w N ex st') f a w
  list : ∀ N ops l st st', execL P G f N ops l st = some st' → ∀ ρ a w, Rel ρ st.h w → SR ρ st.h st.s a.tmps → a.tmps.size = N → a.defers = [] →
    ∀ Q : Exit → Act → World → Prop, (∀ a' w', Beh ρ st.h w N st' a' w' → Q .normal a' w') → wpList P ops Q l a w
  oper : ∀ o st v h', execO P G f o st = some (v, h') → ∀ ρ a w, Rel ρ st.h w → SR ρ st.h st.s a.tmps →
    ∀ (K : Act → World → Prop) (Q : Exit → Act → World → Prop), (∀ v' w' ρ', VR ρ' h' v v' → Rel ρ' h' w' → Go1 ρ st.h w ρ' h' w' → K (a.put o.dst v') w') → o.wp P a w K Q
  call : ∀ g args h v h', callP P G f g args h = some (v, h') → ∀ ρ args' w, Rel ρ h w → VL ρ h args args' →
    Calls P g args'.toArray w fun e w' => ∃ v' ρ', e = .returned v' ∧ VR ρ' h' v v' ∧ Rel ρ' h' w' ∧ Go1 ρ h w ρ' h' w'

theorem sound (P : Program) (G : FuncId → GI) (hm : P.follows .mixedOrders = true) : ∀ f, Sound P G f
  | 0 => ⟨fun _ _ _ _ _ _ _ e => by simp [exec] at e, fun _ _ _ _ _ _ _ e => by simp [exec] at e, fun _ _ _ _ _ e => by simp [execL] at e, fun _ _ _ _ e => by simp [execO] at e, fun _ _ _ _ _ e => by simp [callP] at e⟩
  | f + 1 => by
    have ih := sound P G hm f
    have hloop : ∀ N K b st ex st', codeOk K b = true → exec P G (f + 1) N K (.loop b) st = some (ex, st') → ∀ ρ a w, Rel ρ st.h w → SR ρ st.h st.s a.tmps → a.tmps.size = N → a.defers = [] → Code.rounds P b (Post ρ st.h w N ex st') (f + 1) a w := by
      intro N K b st ex st' ck e ρ a w R S hN hd
      simp only [exec] at e
      rw [rounds_succ]
      split at e
      · rename_i st1 h1
        have h2 := ih.code N K b ⟨keep (keepAt K.keep (firstId b)) st.s, st.h⟩ .normal st1 ck h1 ρ a w R (S.keep (keepAt K.keep (firstId b))) hN hd
        refine wp_mono h2 fun e' a' w' hq => ?_
        obtain ⟨hm, ρ1, R1, S1, G1, hN1, hd1⟩ := hq
        cases e' <;> try (exact hm.elim)
        exact rounds_mono (fun e a w hh => hh.trans G1) _ _ _ (ih.loop N K b st1 ex st' ck e ρ1 a' w' R1 S1 hN1 hd1)
      · rename_i hne
        have h2 := ih.code N K b ⟨keep (keepAt K.keep (firstId b)) st.s, st.h⟩ ex st' ck e ρ a w R (S.keep (keepAt K.keep (firstId b))) hN hd
        refine wp_mono h2 fun e' a' w' hq => ?_
        cases e' with
        | normal =>
          obtain ⟨hm, _⟩ := hq
          cases ex with
          | normal => exact absurd e (hne st')
          | _ => exact hm.elim
        | _ => exact hq
    refine ⟨?_, hloop, ?_, ?_, ?_⟩
    · intro N K c st ex st' ck e ρ a w R S hN hd
      have here : Beh ρ st.h w N st a w := ⟨ρ, R, S, Go1.refl _ _ _, hN, hd⟩
      cases c <;> simp only [exec] at e
      case skip => cases e; exact wp_skip ⟨trivial, here⟩
      case region id ops draw =>
        split at e
        · rename_i hdr
          subst hdr
          split at e
          · rename_i n hn
            split at e
            · rename_i st1 h1
              obtain ⟨st2, h2, e⟩ := Option.map_eq_some_iff.1 e
              cases e
              simp only [codeOk, hn, Bool.or_eq_true, Bool.and_eq_true] at ck
              rcases ck with hdk | ⟨hdk, hek | hek⟩
              rotate_left
              rotate_left
              · exact draw_ok3 hm (fun o st v h' ho ρ a w R S K Q hK => ih.oper o st v h' ho ρ a w R S K Q hK) hdk hek h1 h2 R S hN hd fun st3 a' w' e3 b => by
                  obtain ⟨ρ1, R1, S1, G1, hN1, hd1⟩ := b
                  exact ih.list N ops _ st3 st' e3 ρ1 a' w' R1 S1 hN1 hd1 _ fun a'' w'' b2 => ⟨trivial, b2.trans G1⟩
              rotate_left
              · exact draw_ok2 hm (fun o st v h' ho ρ a w R S K Q hK => ih.oper o st v h' ho ρ a w R S K Q hK) hdk hek h1 h2 R S hN hd fun st3 a' w' e3 b => by
                  obtain ⟨ρ1, R1, S1, G1, hN1, hd1⟩ := b
                  exact ih.list N ops _ st3 st' e3 ρ1 a' w' R1 S1 hN1 hd1 _ fun a'' w'' b2 => ⟨trivial, b2.trans G1⟩
              exact draw_ok hm (fun o st v h' ho ρ a w R S K Q hK => ih.oper o st v h' ho ρ a w R S K Q hK) hdk h1 R S hN hd fun a' w' b => by
                obtain ⟨ρ1, R1, S1, G1, hN1, hd1⟩ := b
                exact ih.list N ops _ st1 st' h2 ρ1 a' w' R1 S1 hN1 hd1 _ fun a'' w'' b2 => ⟨trivial, b2.trans G1⟩
            · cases e
          · rename_i hnone
            split at e
            · rename_i n q hn
              split at e
              · rename_i st1 h1
                obtain ⟨st2, h2, e⟩ := Option.map_eq_some_iff.1 e
                cases e
                simp only [codeOk, hnone, hn] at ck
                cases hql : lateQ q with
                | none =>
                  rw [hql] at ck
                  exact draw_okG hm hql (fun o st v h' ho ρ a w R S K Q hK => ih.oper o st v h' ho ρ a w R S K Q hK) ck h1 R S hN hd fun a' w' b => by
                    obtain ⟨ρ1, R1, S1, G1, hN1, hd1⟩ := b
                    exact ih.list N ops _ st1 st' h2 ρ1 a' w' R1 S1 hN1 hd1 _ fun a'' w'' b2 => ⟨trivial, b2.trans G1⟩
                | some i =>
                  rw [hql] at ck
                  exact draw_okL hm hql (fun o st v h' ho ρ a w R S K Q hK => ih.oper o st v h' ho ρ a w R S K Q hK) ck h1 R S hN hd fun a' w' b => by
                    obtain ⟨ρ1, R1, S1, G1, hN1, hd1⟩ := b
                    exact ih.list N ops _ st1 st' h2 ρ1 a' w' R1 S1 hN1 hd1 _ fun a'' w'' b2 => ⟨trivial, b2.trans G1⟩
              · cases e
            · cases e
        · rename_i hdr
          have hdr' : draw = false := by simpa using hdr
          subst hdr'
          split at e
          · rename_i t ht
            split at e
            · rename_i htN
              cases e
              obtain ⟨o, hops, ho, hgd, hdst⟩ := nilDst_of ht
              refine wp_region_list ?_
              rw [hops]
              unfold wpList
              rw [if_pos (want_ok S (by simp [wantP, hgd]))]
              refine .inl ?_
              unfold Oper.wp
              have hr : (execOp a.eval o).run P w = .ok (.value (.slice none 0 0)) w := by simp [execOp, ho, Act.eval]
              rw [hr]
              simp only [Oper.upon]
              refine wpList_nil ⟨trivial, ρ, R, ?_, Go1.refl _ _ _, by rw [put_size]; exact hN, by rw [put_defers]; exact hd⟩
              rw [hdst]
              exact S.put (d := some t) (by rw [hN]; simpa [dstOk] using htN) .nilMk
            · cases e
          · obtain ⟨st1, h1, e⟩ := Option.map_eq_some_iff.1 e
            cases e
            exact wp_region_list (ih.list N ops _ st st' h1 ρ a w R S hN hd _ fun a' w' b => ⟨trivial, b⟩)
      case seq x y =>
        split at e
        · rename_i st1 h1
          refine wp_seq (wp_mono (ih.code N K x st .normal st1 (by simp only [codeOk, Bool.and_eq_true] at ck; exact ck.1) h1 ρ a w R S hN hd) fun e' a' w' hq => ?_)
          obtain ⟨hm, ρ1, R1, S1, G1, hN1, hd1⟩ := hq
          cases e' <;> try (exact hm.elim)
          exact wp_mono (ih.code N K y st1 ex st' (by simp only [codeOk, Bool.and_eq_true] at ck; exact ck.2) e ρ1 a' w' R1 S1 hN1 hd1) fun e a w hh => hh.trans G1
        · rename_i hne
          refine wp_seq (wp_mono (ih.code N K x st ex st' (by simp only [codeOk, Bool.and_eq_true] at ck; exact ck.1) e ρ a w R S hN hd) fun e' a' w' hq => ?_)
          cases e' with
          | normal =>
            obtain ⟨hm, _⟩ := hq
            cases ex with
            | normal => exact absurd e (hne st')
            | _ => exact hm.elim
          | _ => exact hq
      case cond c x y =>
        split at e
        · rename_i t hc
          have h1 := ev_vr S hc
          generalize hcv : a.eval c = cv at h1
          cases h1
          refine wp_cond hcv ?_
          cases t with
          | true => exact ih.code N K x st ex st' (by simp only [codeOk, Bool.and_eq_true] at ck; exact ck.1) (by simpa using e) ρ a w R S hN hd
          | false => exact ih.code N K y st ex st' (by simp only [codeOk, Bool.and_eq_true] at ck; exact ck.2) (by simpa using e) ρ a w R S hN hd
        · cases e
      case block id b =>
        split at e
        · rename_i id' st1 h1
          refine wp_block (wp_mono (ih.code N K b st (.exit id') st1 (by simpa only [codeOk] using ck) h1 ρ a w R S hN hd) fun e' a' w' hq => ?_)
          obtain ⟨hm, hb⟩ := hq
          cases e' <;> try (exact hm.elim)
          rename_i id2
          have hm' : id' = id2 := hm
          subst hm'
          simp only [Exit.inBlock]
          split at e
          · rename_i hid
            cases e
            rw [if_pos hid]
            exact ⟨trivial, hb⟩
          · rename_i hid
            cases e
            rw [if_neg hid]
            exact ⟨rfl, hb⟩
        · rename_i hne
          refine wp_block (wp_mono (ih.code N K b st ex st' (by simpa only [codeOk] using ck) e ρ a w R S hN hd) fun e' a' w' hq => ?_)
          cases e' with
          | exit id2 =>
            obtain ⟨hm, _⟩ := hq
            cases ex with
            | exit i => exact absurd e (hne i st')
            | _ => exact hm.elim
          | _ => exact hq
      case loop b => exact wp_loop_rounds _ (hloop N K b st ex st' (by simpa only [codeOk] using ck) (by simpa only [exec] using e) ρ a w R S hN hd)
      case exit id => cases e; exact wp_exit ⟨rfl, here⟩
      case ret => cases e; exact wp_ret ⟨trivial, here⟩
      all_goals (cases e)
    · intro N ops l st st' e ρ a w R S hN hd Q hQ
      simp only [execL] at e
      cases l with
      | nil => cases e; exact wpList_nil (hQ a w ⟨ρ, R, S, Go1.refl _ _ _, hN, hd⟩)
      | cons o r =>
        simp only at e
        split at e
        · rename_i hdst
          unfold wpList
          split at e
          · rename_i hw
            rw [if_neg (by rw [want_ok S hw]; simp)]
            exact ih.list N ops r ⟨put st.s o.dst undef, st.h⟩ st' e ρ (a.put o.dst undef) w R (S.put (by rw [hN]; exact hdst) undef_vr) (by rw [put_size]; exact hN) (by rw [put_defers]; exact hd) Q hQ
          · rename_i hw
            rw [if_pos (want_ok S hw)]
            split at e
            · rename_i v h1 ho
              refine .inl (ih.oper o st v h1 ho ρ a w R S _ Q fun v' w' ρ' hv R' G' => ?_)
              exact ih.list N ops r ⟨put st.s o.dst v, h1⟩ st' e ρ' (a.put o.dst v') w' R' ((S.step G'.step).put (by rw [hN]; exact hdst) hv) (by rw [put_size]; exact hN) (by rw [put_defers]; exact hd) Q fun a' w'' b => hQ a' w'' (b.trans G')
            · cases e
          · cases e
        · cases e
    · intro o st v h' e ρ a w R S K Q hK
      simp only [execO] at e
      have fin : Ok P ρ st.h w ((execOp a.eval o).run P w) v h' → o.wp P a w K Q := by
        rintro ⟨v', w', ρ', hr, hv, R', G⟩
        unfold Oper.wp
        rcases hr with hr | ⟨hr, rfl⟩
        · rw [hr]; exact hK v' w' ρ' hv R' G
        · rw [hr]; exact hK undef w' ρ' hv R' G
      split at e
      · rename_i c ho
        split at e
        · rename_i x hcal
          split at e
          · rename_i g first cap args hx hargs
            have h1 := ev_vr S hx
            have h2 := evs_vl S _ _ hargs
            generalize hxv : a.eval x = xv at h1
            cases h1 with
            | func _ _ first' _ cap' e1 e2 e3 e4 =>
              have hl : VL ρ st.h (first.toList ++ args ++ cap.toList) (first'.toList ++ c.args.toList.map a.eval ++ cap'.toList) :=
                VL.append (VL.append ⟨by simpa using e1, fun i u u' g1 g2 => e3 i u u' (by simpa using g1) (by simpa using g2)⟩ h2) ⟨by simpa using e2, fun i u u' g1 g2 => e4 i u u' (by simpa using g1) (by simpa using g2)⟩
              have hcalls := ih.call g _ st.h v h' e ρ _ w R hl
              have hent : ∃ c1 N1 r1, enterP P g = some (c1, N1, r1) := by
                cases f with
                | zero => simp [callP] at e
                | succ f =>
                  simp only [callP] at e
                  split at e
                  · rename_i c1 N1 r1 hh; exact ⟨c1, N1, r1, (enterG_spec hh).1⟩
                  · cases e
              obtain ⟨c1, N1, r1, hent⟩ := hent
              obtain ⟨fn, hf, hname, hbody, _, _⟩ := enter_spec hent
              have hrun : (execOp a.eval o).run P w = .ok (.enter g (first'.toList ++ c.args.toList.map a.eval ++ cap'.toList).toArray) w := by
                have harr : first' ++ c.args.map a.eval ++ cap' = (first'.toList ++ c.args.toList.map a.eval ++ cap'.toList).toArray := by apply Array.ext'; simp
                rw [← harr]
                have hname' : ¬ fn.name = "runtime.NumGoroutine" := by simpa using hname
                simp [execOp, ho, resolve, hcal, hxv, Deferred.ofValue, invoke, callFunc, hf, hname', hbody]
              unfold Oper.wp
              rw [hrun, Oper.upon_enter]
              refine hcalls.mono fun e' w' hh => ?_
              obtain ⟨v', ρ', rfl, hv, R', G⟩ := hh
              exact hK v' w' ρ' hv R' G
          · cases e
        · rename_i b hcal
          obtain ⟨args, hargs, e⟩ := Option.bind_eq_some_iff.1 e
          have h2 := evs_vl S _ _ hargs
          refine fin ?_
          obtain ⟨v', w', ρ', hr, hv, R', G⟩ := builtin_ok (P := P) R h2 e o.type (c.args.map fun | .const _ => true | _ => false)
          refine ⟨v', w', ρ', ?_, hv, R', G⟩
          have harr : c.args.map a.eval = (c.args.toList.map a.eval).toArray := by apply Array.ext'; simp
          have : (execOp a.eval o).run P w = (Go.builtin b c.argTypes.toList.toArray o.type (c.args.map fun | .const _ => true | _ => false) (c.args.toList.map a.eval).toArray).run P w := by
            simp only [execOp, ho, resolve, hcal, Sem.run_bind, Sem.run_pure, Result.andThen_ok, invoke, harr, Array.toArray_toList]
            rfl
          rw [this]
          exact hr
        · cases e
      · rename_i hnc
        exact fin (op1_ok R S e)
    · intro g args h v h' e ρ args' w R hl
      simp only [callP] at e
      split at e
      · rename_i c N rs hentG
        obtain ⟨hent, hck⟩ := enterG_spec hentG
        obtain ⟨fn, hf, hname, hbody, rfl, rfl⟩ := enter_spec hent
        split at e
        · rename_i hle
          have hsz : args'.toArray.size = args.length := by simpa using hl.1.symm
          have body : ∀ ex st1, exec P G f fn.ntmps (G g) c ⟨number 0 args, h⟩ = some (ex, st1) → (∀ i, ex ≠ .exit i) → (resP P fn.results st1).map (fun v => (v, gc h st1.h v)) = some (v, h') →
              Calls P g args'.toArray w fun e w' => ∃ v' ρ', e = .returned v' ∧ VR ρ' h' v v' ∧ Rel ρ' h' w' ∧ Go1 ρ h w ρ' h' w' := by
            intro ex st1 hex hne hres
            refine calls_of_wp hf hbody (wp_mono (ih.code fn.ntmps (G g) c ⟨number 0 args, h⟩ ex st1 hck hex ρ _ w R (sr_number hl _) (by have := hl.1; simp; omega) rfl) fun e' a' w' hq => ?_)
            obtain ⟨hm, ρ1, R1, S1, G1, hN1, hd1⟩ := hq
            obtain ⟨u, hu, hres⟩ := Option.map_eq_some_iff.1 hres
            cases hres
            obtain ⟨v', hr, hv⟩ := resP_ok R1 S1 hu
            obtain ⟨ρ2, hv2, R2, G2⟩ := gc_ok R hv R1 G1
            cases ex with
            | normal => cases e' <;> first | exact hm.elim | exact ⟨hd1, v', hr, v', ρ2, rfl, hv2, R2, G2⟩
            | ret => cases e' <;> first | exact hm.elim | exact ⟨hd1, v', hr, v', ρ2, rfl, hv2, R2, G2⟩
            | exit i => exact absurd rfl (hne i)
          split at e
          · cases e
          · rename_i ex st1 hne hex
            refine body ex st1 hex (fun i hi => ?_) e
            subst hi
            exact hne i rfl
          · cases e
        · cases e
      · cases e
end Go.Pm

/- Runs of the small machine without a count of steps: rules for proofs. -/
set_option linter.unusedVariables false
set_option linter.unusedSimpArgs false
namespace Go.Pm
variable {P : Program} {G : FuncId → GI}

/-! ### runs -/
def RunsC (P : Program) (G : FuncId → GI) (g : FuncId) (args : List Value) (h : Hp) (K : Value → Hp → Prop) : Prop :=
  ∃ f v h', callP P G f g args h = some (v, h') ∧ K v h'

def onR : Option (Value × Hp) → (Value → Hp → Prop) → Prop
  | some x, K => K x.1 x.2
  | none, _ => False
theorem onR.mono {x : Option (Value × Hp)} {K K' : Value → Hp → Prop} (r : onR x K) (hk : ∀ v h', K v h' → K' v h') : onR x K' := by
  cases x with
  | none => exact r.elim
  | some y => exact hk _ _ r
theorem onR.some {x : Option (Value × Hp)} {K : Value → Hp → Prop} (r : onR x K) : ∃ v h', x = some (v, h') ∧ K v h' := by
  cases x with
  | none => exact r.elim
  | some y => exact ⟨y.1, y.2, rfl, r⟩
def onW : Option Bool → (Unit → Prop) → (Unit → Prop) → Prop
  | some true, a, _ => a ()
  | some false, _, b => b ()
  | none, _, _ => False
theorem onW.cases {x : Option Bool} {a b : Unit → Prop} (r : onW x a b) : (x = some true ∧ a ()) ∨ (x = some false ∧ b ()) := by
  cases x with
  | none => exact r.elim
  | some t => cases t with
    | true => exact .inl ⟨rfl, r⟩
    | false => exact .inr ⟨rfl, r⟩
def onB : Option Value → (Unit → Prop) → (Unit → Prop) → Prop
  | some (.bool true), a, _ => a ()
  | some (.bool false), _, b => b ()
  | _, _, _ => False
theorem onB.cases {x : Option Value} {a b : Unit → Prop} (r : onB x a b) : (x = some (.bool true) ∧ a ()) ∨ (x = some (.bool false) ∧ b ()) := by
  unfold onB at r
  split at r
  · exact .inl ⟨rfl, r⟩
  · exact .inr ⟨rfl, r⟩
  · exact r.elim
def onF : Option Value → Option (List Value) → (FuncId → List Value → Prop) → Prop
  | some (.func (.func g) first cap), some args, K => K g (first.toList ++ args ++ cap.toList)
  | _, _, _ => False
theorem onF.some {x : Option Value} {y : Option (List Value)} {K : FuncId → List Value → Prop} (r : onF x y K) : ∃ g first cap args, x = some (.func (.func g) first cap) ∧ y = some args ∧ K g (first.toList ++ args ++ cap.toList) := by
  unfold onF at r
  split at r
  · exact ⟨_, _, _, _, rfl, rfl, r⟩
  · exact r.elim
def onN : Ex → (Unit → Prop) → (Unit → Prop) → Prop
  | .normal, a, _ => a ()
  | .exit _, _, b => b ()
  | .ret, _, b => b ()
def onV : Option Value → (Value → Prop) → Prop
  | some v, K => K v
  | none, _ => False
def onX : Ex → (Unit → Prop) → Prop
  | .exit _, _ => False
  | .normal, a => a ()
  | .ret, a => a ()
def onH : Option Nat → (Nat → Prop) → Prop
  | some n, K => K n
  | none, _ => False
theorem onH.some {x : Option Nat} {K : Nat → Prop} (r : onH x K) : ∃ n, x = some n ∧ K n := by
  cases x with
  | none => exact r.elim
  | some n => exact ⟨n, rfl, r⟩

def RunsO (P : Program) (G : FuncId → GI) (op : Op) (s : Slots) (h : Hp) (K : Value → Hp → Prop) : Prop :=
  match op with
  | .call c => match c.callee with
    | .value x => onF (ev s x) (evs s c.args.toList) fun g args => RunsC P G g args h K
    | .builtin b => onR ((evs s c.args.toList).bind fun args => builtinP P h b c.argTypes.toList args) K
    | .invoke _ _ => False
  | op => onR (op1 P s h op) K

def RunsL (P : Program) (G : FuncId → GI) (N : Nat) (ops : Array Oper) : List Oper → St → (St → Prop) → Prop
  | [], st, Q => Q st
  | o :: r, st, Q => dstOk N o.dst = true ∧ onW (wantP ops st.s o)
    (fun _ => RunsO P G o.op st.s st.h fun v h' => RunsL P G N ops r ⟨put st.s o.dst v, h'⟩ Q)
    (fun _ => RunsL P G N ops r ⟨put st.s o.dst undef, st.h⟩ Q)

def RunsH (P : Program) (G : FuncId → GI) (N : Nat) (ops : Array Oper) : List Oper → St → (St → Prop) → Prop
  | [], st, Q => Q st
  | o :: r, st, Q => dstOk N o.dst = true ∧ onW (wantP ops (keep (o.looksAt ops) st.s) o)
    (fun _ => RunsO P G o.op (keep (o.looksAt ops) st.s) st.h fun v h' => newOk st.h h' ∧ RunsH P G N ops r ⟨put st.s o.dst v, h'⟩ Q)
    (fun _ => RunsH P G N ops r ⟨put st.s o.dst undef, st.h⟩ Q)

/-- The marked loads, done again. -/
def ChkR (P : Program) (G : FuncId → GI) (ops : Array Oper) (st : St) : List (Nat × Nat) → Prop
  | [] => True
  | (k, j) :: r => (if k = 1001 then (match ops[j]? with
      | some o => RunsO P G o.op (keep (o.looksAt ops) st.s) st.h fun v h' => v = (o.dst.bind (get st.s)).getD undef ∧ h' = st.h
      | none => False) else True) ∧ ChkR P G ops st r
def RunsG (P : Program) (G : FuncId → GI) (N : Nat) (ops : Array Oper) (q : List (Nat × Nat)) : List Nat → List Oper → St → (St → Prop) → Prop
  | Ls, [], st, Q => ChkR P G ops st q ∧ Q st
  | Ls, o :: r, st, Q => dstOk N o.dst = true ∧ onW (wantP ops (keep (o.looksAt ops) st.s) o)
    (fun _ => RunsO P G o.op (keep (o.looksAt ops) st.s) st.h fun v h' => okAt q Ls st.h h' ∧ RunsG P G N ops q (Ls ++ [st.h.length]) r ⟨put st.s o.dst v, h'⟩ Q)
    (fun _ => RunsG P G N ops q (Ls ++ [st.h.length]) r ⟨put st.s o.dst undef, st.h⟩ Q)
def onD : Option Nat → Option (Nat × List (Nat × Nat)) → (Nat → Prop) → (Nat → List (Nat × Nat) → Prop) → Prop
  | some n, _, K, _ => K n
  | none, some (n, q), _, K => K n q
  | none, none, _, _ => False
theorem onD.cases {x : Option Nat} {y : Option (Nat × List (Nat × Nat))} {K : Nat → Prop} {K' : Nat → List (Nat × Nat) → Prop} (r : onD x y K K') : (∃ n, x = some n ∧ K n) ∨ (x = none ∧ ∃ n q, y = some (n, q) ∧ K' n q) := by
  cases x with
  | some n => exact .inl ⟨n, rfl, r⟩
  | none => cases y with
    | none => exact r.elim
    | some z => exact .inr ⟨rfl, z.1, z.2, rfl, r⟩

def unblock (id : Nat) : Ex → Ex
  | .exit i => if i = id then .normal else .exit i
  | .normal => .normal
  | .ret => .ret

/-- The least that a loop's body closes. -/
def LoopR (keepK : List Nat) (B : St → (Ex → St → Prop) → Prop) (Q : Ex → St → Prop) (st : St) : Prop :=
  ∀ X : St → Prop, (∀ st, B ⟨keep keepK st.s, st.h⟩ (fun ex st' => onN ex (fun _ => X st') (fun _ => Q ex st')) → X st) → X st

def onM : Option Nat → (Nat → Prop) → (Unit → Prop) → Prop
  | some t, a, _ => a t
  | none, _, b => b ()
theorem onM.cases {x : Option Nat} {a : Nat → Prop} {b : Unit → Prop} (r : onM x a b) : (∃ t, x = some t ∧ a t) ∨ (x = none ∧ b ()) := by
  cases x with
  | some t => exact .inl ⟨t, rfl, r⟩
  | none => exact .inr ⟨rfl, r⟩
def Runs (P : Program) (G : FuncId → GI) (N : Nat) (K : GI) : Code → St → (Ex → St → Prop) → Prop
  | .skip, st, Q => Q .normal st
  | .region id ops false, st, Q => onM (nilDst (headOf K.heads (id + 100000)) ops) (fun t => t < N ∧ Q .normal ⟨put st.s (some t) nilM, st.h⟩) fun _ => RunsL P G N ops ops.toList st fun st' => Q .normal st'
  | .region id ops true, st, Q => onD (headOf K.heads id) (headQ K.qs id) (fun n => RunsH P G N ops (ops.toList.take n) st fun st1 => RunsL P G N ops (ops.toList.drop n) st1 fun st' => Q .normal st') fun n q => RunsG P G N ops q [] (ops.toList.take n) st fun st1 => RunsL P G N ops (ops.toList.drop n) st1 fun st' => Q .normal st'
  | .seq a b, st, Q => Runs P G N K a st fun ex st' => onN ex (fun _ => Runs P G N K b st' Q) (fun _ => Q ex st')
  | .cond c a b, st, Q => onB (ev st.s c) (fun _ => Runs P G N K a st Q) (fun _ => Runs P G N K b st Q)
  | .block id b, st, Q => Runs P G N K b st fun ex st' => Q (unblock id ex) st'
  | .loop b, st, Q => LoopR (keepAt K.keep (firstId b)) (fun st Q => Runs P G N K b st Q) Q st
  | .exit id, st, Q => Q (.exit id) st
  | .ret, st, Q => Q .ret st
  | _, _, _ => False

theorem RunsC.mono {g : FuncId} {args : List Value} {h : Hp} {K K' : Value → Hp → Prop} (r : RunsC P G g args h K) (hk : ∀ v h', K v h' → K' v h') : RunsC P G g args h K' := by
  obtain ⟨f, v, h', e, k⟩ := r
  exact ⟨f, v, h', e, hk _ _ k⟩
theorem RunsO.mono {op : Op} {s : Slots} {h : Hp} {K K' : Value → Hp → Prop} (r : RunsO P G op s h K) (hk : ∀ v h', K v h' → K' v h') : RunsO P G op s h K' := by
  cases op with
  | call c =>
    simp only [RunsO] at r ⊢
    split at r
    · obtain ⟨g, first, cap, args, h1, h2, r⟩ := r.some
      rw [h1, h2]
      exact RunsC.mono r hk
    · exact r.mono hk
    · exact r.elim
  | _ => simp only [RunsO] at r ⊢; exact r.mono hk
theorem RunsL.mono {N : Nat} {ops : Array Oper} : ∀ {l : List Oper} {st : St} {Q Q' : St → Prop}, RunsL P G N ops l st Q → (∀ st', Q st' → Q' st') → RunsL P G N ops l st Q'
  | [], st, Q, Q', r, hq => hq _ r
  | o :: l, st, Q, Q', r, hq => by
    simp only [RunsL] at r ⊢
    refine ⟨r.1, ?_⟩
    rcases r.2.cases with ⟨h1, r2⟩ | ⟨h1, r2⟩
    · rw [h1]; exact RunsO.mono r2 fun v h' h => RunsL.mono h hq
    · rw [h1]; exact RunsL.mono r2 hq
theorem RunsH.mono {N : Nat} {ops : Array Oper} : ∀ {l : List Oper} {st : St} {Q Q' : St → Prop}, RunsH P G N ops l st Q → (∀ st', Q st' → Q' st') → RunsH P G N ops l st Q'
  | [], st, Q, Q', r, hq => hq _ r
  | o :: l, st, Q, Q', r, hq => by
    simp only [RunsH] at r ⊢
    refine ⟨r.1, ?_⟩
    rcases r.2.cases with ⟨h1, r2⟩ | ⟨h1, r2⟩
    · rw [h1]; exact RunsO.mono r2 fun v h' h => ⟨h.1, RunsH.mono h.2 hq⟩
    · rw [h1]; exact RunsH.mono r2 hq
theorem RunsG.mono {N : Nat} {ops : Array Oper} {q : List (Nat × Nat)} : ∀ {l : List Oper} {Ls : List Nat} {st : St} {Q Q' : St → Prop}, RunsG P G N ops q Ls l st Q → (∀ st', Q st' → Q' st') → RunsG P G N ops q Ls l st Q'
  | [], Ls, st, Q, Q', r, hq => ⟨r.1, hq _ r.2⟩
  | o :: l, Ls, st, Q, Q', r, hq => by
    simp only [RunsG] at r ⊢
    refine ⟨r.1, ?_⟩
    rcases r.2.cases with ⟨h1, r2⟩ | ⟨h1, r2⟩
    · rw [h1]; exact RunsO.mono r2 fun v h' h => ⟨h.1, RunsG.mono h.2 hq⟩
    · rw [h1]; exact RunsG.mono r2 hq
theorem onN.mono {ex : Ex} {a b a' b' : Unit → Prop} (r : onN ex a b) (ha : a () → a' ()) (hb : b () → b' ()) : onN ex a' b' := by
  cases ex <;> first | exact ha r | exact hb r
theorem Runs.mono {N : Nat} {K : GI} : ∀ {c : Code} {st : St} {Q Q' : Ex → St → Prop}, Runs P G N K c st Q → (∀ ex st', Q ex st' → Q' ex st') → Runs P G N K c st Q'
  | .skip, _, _, _, r, hq => hq _ _ r
  | .region id ops false, st, Q, Q', r, hq => by
    simp only [Runs] at r ⊢
    rcases onM.cases r with ⟨t, h1, h2, r⟩ | ⟨h1, r⟩
    · rw [h1]; exact ⟨h2, hq _ _ r⟩
    · rw [h1]; exact RunsL.mono r fun st' h => hq _ _ h
  | .region id ops true, st, Q, Q', r, hq => by
    simp only [Runs] at r ⊢
    rcases onD.cases r with ⟨n, hn, r⟩ | ⟨h0, n, q, hn, r⟩
    · rw [hn]
      exact RunsH.mono r fun st1 h => h.mono fun st' h => hq _ _ h
    · rw [h0, hn]
      exact RunsG.mono r fun st1 h => h.mono fun st' h => hq _ _ h
  | .seq a b, st, Q, Q', r, hq => by
    simp only [Runs] at r ⊢
    exact Runs.mono r fun ex st' h => h.mono (fun h => Runs.mono h hq) (hq _ _)
  | .cond c a b, st, Q, Q', r, hq => by
    simp only [Runs] at r ⊢
    rcases r.cases with ⟨h1, r⟩ | ⟨h1, r⟩
    · rw [h1]; exact Runs.mono r hq
    · rw [h1]; exact Runs.mono r hq
  | .block id b, st, Q, Q', r, hq => by
    simp only [Runs] at r ⊢
    exact Runs.mono r fun ex st' h => hq _ _ h
  | .loop b, st, Q, Q', r, hq => by
    simp only [Runs] at r ⊢
    intro X hX
    exact r X fun st hB => hX st (Runs.mono hB fun ex st' h => h.mono id (hq _ _))
  | .exit id, _, _, _, r, hq => hq _ _ r
  | .ret, _, _, _, r, hq => hq _ _ r
  | .rangeFunc .., _, _, _, r, _ => r.elim
  | .scope .., _, _, _, r, _ => r.elim
  | .label .., _, _, _, r, _ => r.elim
  | .goto .., _, _, _, r, _ => r.elim
  | .refuse .., _, _, _, r, _ => r.elim

theorem RunsO.sound {o : Oper} {st : St} {K : Value → Hp → Prop} (r : RunsO P G o.op st.s st.h K) : ∃ f v h', execO P G f o st = some (v, h') ∧ K v h' := by
  cases ho : o.op with
  | call c =>
    rw [ho] at r
    simp only [RunsO] at r
    split at r
    · rename_i x hx
      obtain ⟨g, first, cap, args, h1, h2, r⟩ := r.some
      obtain ⟨f, v, h', e, k⟩ := r
      exact ⟨f + 1, v, h', by simp only [execO, ho, hx, h1, h2]; exact e, k⟩
    · rename_i b hb
      obtain ⟨v, h', e, k⟩ := r.some
      exact ⟨1, v, h', by simp only [execO, ho, hb]; exact e, k⟩
    · exact r.elim
  | _ =>
    rw [ho] at r
    simp only [RunsO] at r
    obtain ⟨v, h', e, k⟩ := r.some
    exact ⟨1, v, h', by simp only [execO, ho]; exact e, k⟩

theorem RunsL.sound {N : Nat} {ops : Array Oper} : ∀ {l : List Oper} {st : St} {Q : St → Prop}, RunsL P G N ops l st Q → ∃ f st', execL P G f N ops l st = some st' ∧ Q st'
  | [], st, Q, r => ⟨1, st, by simp only [execL], r⟩
  | o :: l, st, Q, r => by
    simp only [RunsL] at r
    obtain ⟨hd, r⟩ := r
    rcases r.cases with ⟨hw, r⟩ | ⟨hw, r⟩
    · obtain ⟨f1, v, h', e1, r⟩ := RunsO.sound (o := o) r
      obtain ⟨f2, st', e2, q⟩ := RunsL.sound r
      exact ⟨max f1 f2 + 1, st', by simp only [execL, if_pos hd, hw, oper_le (Nat.le_max_left f1 f2) e1]; exact list_le (Nat.le_max_right f1 f2) e2, q⟩
    · obtain ⟨f, st', e, q⟩ := RunsL.sound r
      exact ⟨f + 1, st', by simp only [execL, if_pos hd, hw]; exact e, q⟩

theorem RunsH.sound {N : Nat} {ops : Array Oper} : ∀ {l : List Oper} {st : St} {Q : St → Prop}, RunsH P G N ops l st Q → ∃ f st', runH (fun o st => execO P G f o st) N ops l st = some st' ∧ Q st'
  | [], st, Q, r => ⟨1, st, by simp only [runH], r⟩
  | o :: l, st, Q, r => by
    simp only [RunsH] at r
    obtain ⟨hd, r⟩ := r
    rcases r.cases with ⟨hw, r⟩ | ⟨hw, r⟩
    · obtain ⟨f1, v, h', e1, hn, r⟩ := RunsO.sound (o := o) (st := ⟨keep (o.looksAt ops) st.s, st.h⟩) r
      obtain ⟨f2, st', e2, q⟩ := RunsH.sound r
      exact ⟨max f1 f2, st', by
        simp only [runH, if_pos hd, hw, oper_le (Nat.le_max_left f1 f2) e1, if_pos hn]
        exact runH_mono (fun o st r h => oper_le (Nat.le_max_right f1 f2) h) _ _ _ _ _ e2, q⟩
    · obtain ⟨f, st', e, q⟩ := RunsH.sound r
      exact ⟨f, st', by simp only [runH, if_pos hd, hw]; exact e, q⟩

theorem ChkR.sound {ops : Array Oper} {st : St} : ∀ {q : List (Nat × Nat)}, ChkR P G ops st q → ∃ f, chkQ (fun o st => execO P G f o st) ops st q
  | [], _ => ⟨0, trivial⟩
  | (k, j) :: r, h => by
    obtain ⟨f2, h2⟩ := ChkR.sound h.2
    have h1 := h.1
    by_cases hk : k = 1001
    · rw [if_pos hk] at h1
      cases ho : ops[j]? with
      | none => rw [ho] at h1; exact h1.elim
      | some o =>
        rw [ho] at h1
        obtain ⟨f1, v, h', e1, rfl, rfl⟩ := RunsO.sound (o := o) (st := ⟨keep (o.looksAt ops) st.s, st.h⟩) h1
        refine ⟨max f1 f2, ?_, chkQ_mono (fun o st r h => oper_le (Nat.le_max_right f1 f2) h) h2⟩
        rw [if_pos hk, ho]
        exact oper_le (Nat.le_max_left f1 f2) e1
    · exact ⟨f2, by rw [if_neg hk]; trivial, h2⟩
theorem RunsG.sound {N : Nat} {ops : Array Oper} {q : List (Nat × Nat)} : ∀ {l : List Oper} {Ls : List Nat} {st : St} {Q : St → Prop}, RunsG P G N ops q Ls l st Q → ∃ f st', runG (fun o st => execO P G f o st) N ops q Ls l st = some st' ∧ Q st'
  | [], Ls, st, Q, r => by
    obtain ⟨f, hc⟩ := ChkR.sound r.1
    exact ⟨f, st, by simp only [runG, if_pos hc], r.2⟩
  | o :: l, Ls, st, Q, r => by
    simp only [RunsG] at r
    obtain ⟨hd, r⟩ := r
    rcases r.cases with ⟨hw, r⟩ | ⟨hw, r⟩
    · obtain ⟨f1, v, h', e1, hn, r⟩ := RunsO.sound (o := o) (st := ⟨keep (o.looksAt ops) st.s, st.h⟩) r
      obtain ⟨f2, st', e2, q⟩ := RunsG.sound r
      exact ⟨max f1 f2, st', by
        simp only [runG, if_pos hd, hw, oper_le (Nat.le_max_left f1 f2) e1, if_pos hn]
        exact runG_mono (fun o st r h => oper_le (Nat.le_max_right f1 f2) h) _ _ _ _ _ _ _ e2, q⟩
    · obtain ⟨f, st', e, q⟩ := RunsG.sound r
      exact ⟨f, st', by simp only [runG, if_pos hd, hw]; exact e, q⟩

theorem Runs.sound {N : Nat} {K : GI} : ∀ {c : Code} {st : St} {Q : Ex → St → Prop}, Runs P G N K c st Q → ∃ f ex st', exec P G f N K c st = some (ex, st') ∧ Q ex st'
  | .skip, st, Q, r => ⟨1, .normal, st, by simp only [exec], r⟩
  | .region id ops true, st, Q, r => by
    simp only [Runs] at r
    rcases onD.cases r with ⟨n, hn, r⟩ | ⟨h0, n, q, hn, r⟩
    · obtain ⟨f1, st1, e1, r⟩ := RunsH.sound r
      obtain ⟨f2, st', e2, q⟩ := RunsL.sound r
      exact ⟨max f1 f2 + 1, .normal, st', by
        simp only [exec, if_true, hn, runH_mono (fun o st r h => oper_le (Nat.le_max_left f1 f2) h) _ _ _ _ _ e1, list_le (Nat.le_max_right f1 f2) e2, Option.map_some], q⟩
    · obtain ⟨f1, st1, e1, r⟩ := RunsG.sound r
      obtain ⟨f2, st', e2, q⟩ := RunsL.sound r
      exact ⟨max f1 f2 + 1, .normal, st', by
        simp only [exec, if_true, h0, hn, runG_mono (fun o st r h => oper_le (Nat.le_max_left f1 f2) h) _ _ _ _ _ _ _ e1, list_le (Nat.le_max_right f1 f2) e2, Option.map_some], q⟩
  | .region id ops false, st, Q, r => by
    simp only [Runs] at r
    rcases onM.cases r with ⟨t, h1, h2, r⟩ | ⟨h1, r⟩
    · exact ⟨1, .normal, _, by simp only [exec, Bool.false_eq_true, if_false, h1, if_pos h2], r⟩
    · obtain ⟨f, st', e, q⟩ := RunsL.sound (show RunsL P G N ops ops.toList st _ from r)
      exact ⟨f + 1, .normal, st', by simp only [exec, Bool.false_eq_true, if_false, h1, e, Option.map_some], q⟩
  | .seq a b, st, Q, r => by
    simp only [Runs] at r
    obtain ⟨f1, ex, st1, e1, r⟩ := Runs.sound r
    cases ex with
    | normal =>
      obtain ⟨f2, ex, st', e2, q⟩ := Runs.sound (show Runs P G N K b st1 Q from r)
      exact ⟨max f1 f2 + 1, ex, st', by simp only [exec, code_le (Nat.le_max_left f1 f2) e1]; exact code_le (Nat.le_max_right f1 f2) e2, q⟩
    | exit i => exact ⟨f1 + 1, _, _, by simp only [exec, e1], r⟩
    | ret => exact ⟨f1 + 1, _, _, by simp only [exec, e1], r⟩
  | .cond c a b, st, Q, r => by
    simp only [Runs] at r
    rcases r.cases with ⟨hc, r⟩ | ⟨hc, r⟩
    · obtain ⟨f, ex, st', e, q⟩ := Runs.sound r
      exact ⟨f + 1, ex, st', by simp only [exec, hc, if_true]; exact e, q⟩
    · obtain ⟨f, ex, st', e, q⟩ := Runs.sound r
      exact ⟨f + 1, ex, st', by simp only [exec, hc, Bool.false_eq_true, if_false]; exact e, q⟩
  | .block id b, st, Q, r => by
    simp only [Runs] at r
    obtain ⟨f, ex, st', e, q⟩ := Runs.sound r
    cases ex with
    | normal => exact ⟨f + 1, _, _, by simp only [exec, e]; rfl, q⟩
    | exit i =>
      by_cases hi : i = id
      · subst hi
        exact ⟨f + 1, .normal, st', by simp only [exec, e, if_pos], by simpa [unblock] using q⟩
      · exact ⟨f + 1, .exit i, st', by simp only [exec, e, if_neg hi], by simpa [unblock, hi] using q⟩
    | ret => exact ⟨f + 1, _, _, by simp only [exec, e]; rfl, q⟩
  | .loop b, st, Q, r => by
    simp only [Runs] at r
    refine r (fun st => ∃ f ex st', exec P G f N K (.loop b) st = some (ex, st') ∧ Q ex st') fun st r => ?_
    obtain ⟨f1, ex, st1, e1, r⟩ := Runs.sound r
    cases ex with
    | normal =>
      obtain ⟨f2, ex, st', e2, q⟩ := r
      exact ⟨max f1 f2 + 1, ex, st', by simp only [exec, code_le (Nat.le_max_left f1 f2) e1]; exact code_le (Nat.le_max_right f1 f2) e2, q⟩
    | exit i => exact ⟨f1 + 1, _, _, by simp only [exec, e1], r⟩
    | ret => exact ⟨f1 + 1, _, _, by simp only [exec, e1], r⟩
  | .exit id, st, Q, r => ⟨1, _, _, by simp only [exec], r⟩
  | .ret, st, Q, r => ⟨1, _, _, by simp only [exec], r⟩
  | .rangeFunc .., _, _, r => r.elim
  | .scope .., _, _, r => r.elim
  | .label .., _, _, r => r.elim
  | .goto .., _, _, r => r.elim
  | .refuse .., _, _, r => r.elim

/-- A function's run. -/
theorem RunsC.enter {g : FuncId} {args : List Value} {h : Hp} {K : Value → Hp → Prop} {c : Code} {N : Nat} {rs : Array ResultVar} (he : enterG P (G g) g = some (c, N, rs)) (hl : args.length ≤ N)
    (r : Runs P G N (G g) c ⟨number 0 args, h⟩ fun ex st => onX ex fun _ => onV (resP P rs st) fun v => K v (gc h st.h v)) : RunsC P G g args h K := by
  obtain ⟨f, ex, st, e, r⟩ := Runs.sound r
  have key : onV (resP P rs st) (fun v => K v (gc h st.h v)) → (∀ i, ex ≠ .exit i) → RunsC P G g args h K := by
    intro r hne
    cases hv : resP P rs st with
    | none => rw [hv] at r; exact r.elim
    | some v =>
      rw [hv] at r
      refine ⟨f + 1, v, _, ?_, r⟩
      simp only [callP, he, if_pos hl, e]
      cases ex with
      | exit i => exact absurd rfl (hne i)
      | _ => simp only [hv, Option.map_some]
  cases ex with
  | exit i => exact r.elim
  | normal => exact key r (by simp)
  | ret => exact key r (by simp)

theorem RunsC.iff {g : FuncId} {args : List Value} {h : Hp} {v : Value} {h1 : Hp} (r : RunsC P G g args h fun v' h' => v' = v ∧ h' = h1) (K : Value → Hp → Prop) : RunsC P G g args h K ↔ K v h1 := by
  obtain ⟨f, v', h', e, rfl, rfl⟩ := r
  constructor
  · rintro ⟨f2, v2, h2, e2, k⟩
    have a1 := call_le (Nat.le_max_left f f2) e
    have a2 := call_le (Nat.le_max_right f f2) e2
    rw [a1] at a2
    cases a2
    exact k
  · intro k; exact ⟨f, _, _, e, k⟩

/-- A loop, one round. -/
theorem Runs.loop1 {N : Nat} {K : GI} {b : Code} {Q : Ex → St → Prop} {st : St} (hb : Runs P G N K b ⟨keep (keepAt K.keep (firstId b)) st.s, st.h⟩ fun ex st' => onN ex (fun _ => Runs P G N K (.loop b) st' Q) (fun _ => Q ex st')) : Runs P G N K (.loop b) st Q := by
  intro X hX
  exact hX st (Runs.mono hb fun ex st' h => h.mono (fun h => h X hX) id)

/-- A loop with what holds at its head and a measure. -/
theorem Runs.loopK {N : Nat} {K : GI} {b : Code} {Q : Ex → St → Prop} (I : Nat → Slots → Hp → Prop) (hb : ∀ n s h, I n s h → Runs P G N K b ⟨s, h⟩ fun ex st' => onN ex (fun _ => ∃ m, m < n ∧ I m (keep (keepAt K.keep (firstId b)) st'.s) st'.h) (fun _ => Q ex st'))
    {n : Nat} {st : St} (hi : I n (keep (keepAt K.keep (firstId b)) st.s) st.h) : Runs P G N K (.loop b) st Q := by
  induction n using Nat.strongRecOn generalizing st with
  | _ n ih =>
    refine Runs.loop1 ((hb n _ _ hi).mono fun ex st' h => h.mono (fun h => ?_) id)
    obtain ⟨m, hm, hi⟩ := h
    exact ih m hm hi

/-! ### rules for simp: what stands behind is not looked into -/
@[congr] theorem onR_congr {x y : Option (Value × Hp)} {K : Value → Hp → Prop} (h : x = y) : onR x K = onR y K := by rw [h]
@[congr] theorem onW_congr {x y : Option Bool} {a b : Unit → Prop} (h : x = y) : onW x a b = onW y a b := by rw [h]
@[congr] theorem onB_congr {x y : Option Value} {a b : Unit → Prop} (h : x = y) : onB x a b = onB y a b := by rw [h]
@[congr] theorem onF_congr {x x' : Option Value} {y y' : Option (List Value)} {K : FuncId → List Value → Prop} (h : x = x') (h' : y = y') : onF x y K = onF x' y' K := by rw [h, h']
@[congr] theorem onN_congr {x y : Ex} {a b : Unit → Prop} (h : x = y) : onN x a b = onN y a b := by rw [h]
@[congr] theorem onX_congr {x y : Ex} {a : Unit → Prop} (h : x = y) : onX x a = onX y a := by rw [h]
@[congr] theorem onV_congr {x y : Option Value} {K : Value → Prop} (h : x = y) : onV x K = onV y K := by rw [h]
@[congr] theorem onH_congr {x y : Option Nat} {K : Nat → Prop} (h : x = y) : onH x K = onH y K := by rw [h]
@[congr] theorem RunsC_congr {g : FuncId} {args args' : List Value} {h h' : Hp} {K : Value → Hp → Prop} (e : args = args') (e' : h = h') : RunsC P G g args h K = RunsC P G g args' h' K := by rw [e, e']
@[congr] theorem RunsO_congr {op : Op} {s s' : Slots} {h h' : Hp} {K : Value → Hp → Prop} (e : s = s') (e' : h = h') : RunsO P G op s h K = RunsO P G op s' h' K := by rw [e, e']
@[congr] theorem RunsL_congr {N : Nat} {ops : Array Oper} {l l' : List Oper} {st st' : St} {Q : St → Prop} (e : l = l') (e' : st = st') : RunsL P G N ops l st Q = RunsL P G N ops l' st' Q := by rw [e, e']
@[congr] theorem RunsH_congr {N : Nat} {ops : Array Oper} {l l' : List Oper} {st st' : St} {Q : St → Prop} (e : l = l') (e' : st = st') : RunsH P G N ops l st Q = RunsH P G N ops l' st' Q := by rw [e, e']
@[congr] theorem Runs_congr {N : Nat} {K : GI} {c : Code} {st st' : St} {Q : Ex → St → Prop} (e : st = st') : Runs P G N K c st Q = Runs P G N K c st' Q := by rw [e]

section
variable {N : Nat} {K : GI} {st : St} {Q : Ex → St → Prop}
@[simp ↓] theorem onR_some {x : Value × Hp} {K : Value → Hp → Prop} : onR (some x) K = K x.1 x.2 := rfl
@[simp ↓] theorem onR_map {α : Type} {x : α} {f : α → Value × Hp} {K : Value → Hp → Prop} : onR (Option.map f (some x)) K = K (f x).1 (f x).2 := rfl
@[simp ↓] theorem onW_true {a b : Unit → Prop} : onW (some true) a b = a () := rfl
@[simp ↓] theorem onW_false {a b : Unit → Prop} : onW (some false) a b = b () := rfl
@[simp ↓] theorem onB_true {a b : Unit → Prop} : onB (some (.bool true)) a b = a () := rfl
@[simp ↓] theorem onB_false {a b : Unit → Prop} : onB (some (.bool false)) a b = b () := rfl
@[simp ↓] theorem onF_some {g : FuncId} {f c : Array Value} {args : List Value} {K : FuncId → List Value → Prop} : onF (some (.func (.func g) f c)) (some args) K = K g (f.toList ++ args ++ c.toList) := rfl
@[simp ↓] theorem onN_normal {a b : Unit → Prop} : onN .normal a b = a () := rfl
@[simp ↓] theorem onN_exit {i : Nat} {a b : Unit → Prop} : onN (.exit i) a b = b () := rfl
@[simp ↓] theorem onN_ret {a b : Unit → Prop} : onN .ret a b = b () := rfl
@[simp ↓] theorem onX_normal {a : Unit → Prop} : onX .normal a = a () := rfl
@[simp ↓] theorem onX_ret {a : Unit → Prop} : onX .ret a = a () := rfl
@[simp ↓] theorem onV_some {v : Value} {K : Value → Prop} : onV (some v) K = K v := rfl
@[simp ↓] theorem onH_some {n : Nat} {K : Nat → Prop} : onH (some n) K = K n := rfl
@[simp ↓] theorem Runs_skip : Runs P G N K .skip st Q = Q .normal st := rfl
@[simp ↓] theorem Runs_region {id : Nat} {ops : Array Oper} : Runs P G N K (.region id ops false) st Q = onM (nilDst (headOf K.heads (id + 100000)) ops) (fun t => t < N ∧ Q .normal ⟨put st.s (some t) nilM, st.h⟩) fun _ => RunsL P G N ops ops.toList st fun st' => Q .normal st' := rfl
@[simp ↓] theorem onM_none {a : Nat → Prop} {b : Unit → Prop} : onM none a b = b () := rfl
@[simp ↓] theorem onM_some {t : Nat} {a : Nat → Prop} {b : Unit → Prop} : onM (some t) a b = a t := rfl
@[simp ↓] theorem Runs_draw {id : Nat} {ops : Array Oper} : Runs P G N K (.region id ops true) st Q = onD (headOf K.heads id) (headQ K.qs id) (fun n => RunsH P G N ops (ops.toList.take n) st fun st1 => RunsL P G N ops (ops.toList.drop n) st1 fun st' => Q .normal st') fun n q => RunsG P G N ops q [] (ops.toList.take n) st fun st1 => RunsL P G N ops (ops.toList.drop n) st1 fun st' => Q .normal st' := rfl
@[simp ↓] theorem Runs_seq {a b : Code} : Runs P G N K (.seq a b) st Q = Runs P G N K a st fun ex st' => onN ex (fun _ => Runs P G N K b st' Q) (fun _ => Q ex st') := rfl
@[simp ↓] theorem Runs_cond {c : Operand} {a b : Code} : Runs P G N K (.cond c a b) st Q = onB (ev st.s c) (fun _ => Runs P G N K a st Q) (fun _ => Runs P G N K b st Q) := rfl
@[simp ↓] theorem Runs_block {id : Nat} {b : Code} : Runs P G N K (.block id b) st Q = Runs P G N K b st fun ex st' => Q (unblock id ex) st' := rfl
@[simp ↓] theorem Runs_exit {id : Nat} : Runs P G N K (.exit id) st Q = Q (.exit id) st := rfl
@[simp ↓] theorem Runs_ret : Runs P G N K .ret st Q = Q .ret st := rfl
@[simp ↓] theorem RunsL_nil {ops : Array Oper} {Q : St → Prop} : RunsL P G N ops [] st Q = Q st := rfl
@[simp ↓] theorem RunsL_cons {ops : Array Oper} {o : Oper} {r : List Oper} {Q : St → Prop} : RunsL P G N ops (o :: r) st Q = (dstOk N o.dst = true ∧ onW (wantP ops st.s o)
    (fun _ => RunsO P G o.op st.s st.h fun v h' => RunsL P G N ops r ⟨put st.s o.dst v, h'⟩ Q)
    (fun _ => RunsL P G N ops r ⟨put st.s o.dst undef, st.h⟩ Q)) := rfl
@[simp ↓] theorem RunsH_nil {ops : Array Oper} {Q : St → Prop} : RunsH P G N ops [] st Q = Q st := rfl
@[simp ↓] theorem RunsH_cons {ops : Array Oper} {o : Oper} {r : List Oper} {Q : St → Prop} : RunsH P G N ops (o :: r) st Q = (dstOk N o.dst = true ∧ onW (wantP ops (keep (o.looksAt ops) st.s) o)
    (fun _ => RunsO P G o.op (keep (o.looksAt ops) st.s) st.h fun v h' => newOk st.h h' ∧ RunsH P G N ops r ⟨put st.s o.dst v, h'⟩ Q)
    (fun _ => RunsH P G N ops r ⟨put st.s o.dst undef, st.h⟩ Q)) := rfl
@[simp] theorem unblock_normal {id : Nat} : unblock id .normal = .normal := rfl
@[simp] theorem unblock_ret {id : Nat} : unblock id .ret = .ret := rfl
@[simp] theorem unblock_exit {id i : Nat} : unblock id (.exit i) = if i = id then .normal else .exit i := rfl
end
end Go.Pm

/- Slices that are seen: rules for proofs about functions. -/
set_option linter.unusedVariables false
set_option linter.unusedSimpArgs false
namespace Go.Pm
variable {P : Program} {G : FuncId → GI}

theorem gc_self (h : Hp) (v : Value) : gc h h v = h := by unfold gc; split <;> rfl
theorem gc_app (h t : Hp) (v : Value) (hp : plain v = true) : gc h (h ++ t) v = h := by unfold gc; rw [if_pos ⟨hp, List.prefix_append ..⟩]

theorem wrap_ok {n : Int} (h1 : -9223372036854775808 ≤ n) (h2 : n ≤ 9223372036854775807) : IntKind.i64.wrap n = n := by
  unfold IntKind.wrap
  simp [IntKind.signed, IntKind.bits]
  omega

/-- Element i of a list, or something. -/
def base : Value → Addr
  | .slice (some a) _ _ => a
  | _ => ⟨0, 0, none⟩

/-- A slice's elements, as cells. -/
def Sees (h : Hp) (v : Value) (sz : Nat) (els : List (List Value)) : Prop :=
  (∀ e ∈ els, e.length = sz) ∧ ∃ oa c, v = .slice oa els.length c ∧ ((oa = none ∧ els = [] ∧ c = 0) ∨
    ∃ r o x, oa = some ⟨r, o, some x.cells.length⟩ ∧ h[r]? = some (some x) ∧ x.sz = sz ∧ o + els.length * sz ≤ x.cells.length ∧ (x.cells.drop o).take (els.length * sz) = els.flatten ∧ els.length ≤ c)

theorem Sees.ext {h : Hp} {v : Value} {sz : Nat} {els : List (List Value)} (s : Sees h v sz els) (t : Hp) : Sees (h ++ t) v sz els := by
  obtain ⟨h1, oa, c, h2, h3⟩ := s
  refine ⟨h1, oa, c, h2, ?_⟩
  rcases h3 with h3 | ⟨r, o, x, h4, h5, h6⟩
  · exact .inl h3
  · exact .inr ⟨r, o, x, h4, by rw [List.getElem?_append_left (List.getElem?_eq_some_iff.1 h5).1]; exact h5, h6⟩
theorem Sees.pre {h h' : Hp} {v : Value} {sz : Nat} {els : List (List Value)} (s : Sees h v sz els) (hp : h <+: h') : Sees h' v sz els := by
  obtain ⟨t, rfl⟩ := hp
  exact s.ext t
theorem Sees.shape {h : Hp} {v : Value} {sz : Nat} {els : List (List Value)} (s : Sees h v sz els) : ∃ oa c, v = .slice oa els.length c := by
  obtain ⟨_, oa, c, h2, _⟩ := s
  exact ⟨oa, c, h2⟩

theorem flat_get {sz : Nat} : ∀ {els : List (List Value)}, (∀ e ∈ els, e.length = sz) → ∀ {i k : Nat} {e : List Value}, els[i]? = some e → k < sz → els.flatten[i * sz + k]? = e[k]?
  | [], _, i, k, e, he, _ => by cases he
  | a :: els, hl, 0, k, e, he, hk => by
    simp at he; subst he
    have := hl a (List.mem_cons_self ..)
    simp [List.getElem?_append, show k < a.length by omega]
  | a :: els, hl, i + 1, k, e, he, hk => by
    have h1 := hl a (List.mem_cons_self ..)
    have := flat_get (fun e he => hl e (List.mem_cons_of_mem _ he)) (i := i) (k := k) (by simpa using he) hk
    rw [List.flatten_cons, List.getElem?_append_right (by rw [h1, Nat.succ_mul]; omega), h1, ← this]
    congr 1
    rw [Nat.succ_mul]; omega
theorem flat_len {sz : Nat} : ∀ {els : List (List Value)}, (∀ e ∈ els, e.length = sz) → els.flatten.length = els.length * sz
  | [], _ => by simp
  | a :: els, hl => by
    rw [List.flatten_cons, List.length_append, hl a (List.mem_cons_self ..), flat_len (fun e he => hl e (List.mem_cons_of_mem _ he)), List.length_cons, Nat.succ_mul]; omega
theorem flat_seg {sz : Nat} : ∀ {els : List (List Value)}, (∀ e ∈ els, e.length = sz) → ∀ {i : Nat} {e : List Value}, els[i]? = some e → (els.flatten.drop (i * sz)).take sz = e
  | [], _, i, e, he => by cases he
  | a :: els, hl, 0, e, he => by
    simp at he; subst he
    have := hl a (List.mem_cons_self ..)
    simp [← this]
  | a :: els, hl, i + 1, e, he => by
    have h1 := hl a (List.mem_cons_self ..)
    have := flat_seg (fun e he => hl e (List.mem_cons_of_mem _ he)) (i := i) (by simpa using he)
    rw [List.flatten_cons, ← this, Nat.succ_mul, Nat.add_comm, ← List.drop_drop]
    congr 2
    rw [← h1, List.drop_left]

section
variable {h : Hp} {v : Value} {sz : Nat} {els : List (List Value)}
theorem Sees.index (s : Sees h v sz els) {ty e : TypeId} (hu : P.underlying ty = some (.slice e)) (hq : (P.info? e).map (·.size) = some sz) {k : IntKind} {j : Int} (h0 : 0 ≤ j) (h1 : j < els.length) :
    indexAddrP P h ty v (.int k j) = some (.pointer (some (addP (base v) (j.toNat * sz)))) := by
  obtain ⟨h2, oa, c, rfl, h3⟩ := s
  obtain ⟨q, hq, hz⟩ := Option.map_eq_some_iff.1 hq
  rcases h3 with ⟨rfl, rfl, rfl⟩ | ⟨r, o, x, rfl, h5, h6, h7, h8, h9⟩
  · simp at h1; omega
  · have : h[r]? = some (some x) := h5
    simp only [indexAddrP, hu, hq, rowAt, this, if_true, base, h0, h1, and_self, hz]
theorem Sees.cell (s : Sees h v sz els) {ty : TypeId} (hu : (P.underlying ty).map aggD = some false) (hq : (P.info? ty).map (·.size) = some 1) {i k : Nat} {e : List Value} (he : els[i]? = some e) (hk : k < sz) :
    loadP P h ty (.pointer (some (addP (base v) (i * sz + k)))) = e[k]? := by
  obtain ⟨h2, oa, c, rfl, h3⟩ := s
  obtain ⟨q, hq, hz⟩ := Option.map_eq_some_iff.1 hq
  obtain ⟨d, hu, hd⟩ := Option.map_eq_some_iff.1 hu
  have hi := (List.getElem?_eq_some_iff.1 he).1
  rcases h3 with ⟨rfl, rfl, rfl⟩ | ⟨r, o, x, rfl, h5, h6, h7, h8, h9⟩
  · simp at hi
  · have hx : h[r]? = some (some x) := h5
    have hlt : i * sz + k < els.length * sz := by
      have : (i + 1) * sz ≤ els.length * sz := Nat.mul_le_mul_right _ hi
      rw [Nat.succ_mul] at this; omega
    have := flat_get h2 he hk
    rw [← h8, List.getElem?_take, if_pos hlt, List.getElem?_drop] at this
    simp only [loadP, rowAt, base, addP, hx, if_true, hu, hq, hd]
    simpa using this
theorem Sees.agg (s : Sees h v sz els) {ty : TypeId} (hu : (P.underlying ty).map aggD = some true) (hq : (P.info? ty).map (·.size) = some sz) {i : Nat} {e : List Value} (he : els[i]? = some e) :
    loadP P h ty (.pointer (some (addP (base v) (i * sz)))) = some (.agg e.toArray) := by
  obtain ⟨h2, oa, c, rfl, h3⟩ := s
  obtain ⟨q, hq, hz⟩ := Option.map_eq_some_iff.1 hq
  obtain ⟨d, hu, hd⟩ := Option.map_eq_some_iff.1 hu
  have hi := (List.getElem?_eq_some_iff.1 he).1
  rcases h3 with ⟨rfl, rfl, rfl⟩ | ⟨r, o, x, rfl, h5, h6, h7, h8, h9⟩
  · simp at hi
  · have hx : h[r]? = some (some x) := h5
    have hle : (i + 1) * sz ≤ els.length * sz := Nat.mul_le_mul_right _ hi
    rw [Nat.succ_mul] at hle
    have := flat_seg h2 he
    rw [← h8, List.drop_take, List.take_take, Nat.min_eq_left (by omega), List.drop_drop] at this
    simp only [loadP, rowAt, base, addP, hx, if_true, hu, hq, hd, hz]
    rw [if_pos (by omega), this]
end

theorem flat_take {sz : Nat} : ∀ {els : List (List Value)}, (∀ e ∈ els, e.length = sz) → ∀ (k : Nat), els.flatten.take (k * sz) = (els.take k).flatten
  | [], _, k => by simp
  | a :: els, hl, 0 => by simp
  | a :: els, hl, k + 1 => by
    have h1 := hl a (List.mem_cons_self ..)
    rw [List.take_succ_cons, List.flatten_cons, List.flatten_cons, ← flat_take (fun e he => hl e (List.mem_cons_of_mem _ he)) k, Nat.succ_mul, Nat.add_comm, ← h1]
    rw [List.take_length_add_append]
theorem Sees.front {h : Hp} {v : Value} {sz : Nat} {els : List (List Value)} (s : Sees h v sz els) {ty e : TypeId} (hu : P.underlying ty = some (.slice e)) (hq : (P.info? e).map (·.size) = some sz) {k : IntKind} {j : Int} (h0 : 0 ≤ j) (h1 : j ≤ els.length) :
    ∃ v', sliceP P h ty v none (some (.int k j)) = some v' ∧ Sees h v' sz (els.take j.toNat) := by
  obtain ⟨h2, oa, c, rfl, h3⟩ := s
  obtain ⟨q, hq, hz⟩ := Option.map_eq_some_iff.1 hq
  rcases h3 with ⟨rfl, rfl, rfl⟩ | ⟨r, o, x, rfl, h5, h6, h7, h8, h9⟩
  · have : j = 0 := by simp at h1; omega
    subst this
    refine ⟨.slice none 0 0, by simp [sliceP, hu, hq, hiP, loP, asI], ⟨by simp, none, 0, rfl, .inl ⟨rfl, rfl, rfl⟩⟩⟩
  · have hj : j.toNat ≤ els.length := by omega
    have hm : j.toNat * sz ≤ els.length * sz := Nat.mul_le_mul_right _ hj
    have hlen : (els.take j.toNat).length = j.toNat := by simp; omega
    refine ⟨.slice (some ⟨r, o, some x.cells.length⟩) j.toNat c, ?_, fun e he => h2 e (List.mem_of_mem_take he), some ⟨r, o, some x.cells.length⟩, c, by rw [hlen], .inr ⟨r, o, x, rfl, h5, h6, by rw [hlen]; omega, ?_, by rw [hlen]; omega⟩⟩
    · simp only [sliceP, hu, hq, rowAt, h5, if_true, hiP, loP, asI]
      rw [if_pos ⟨by omega, h0, by omega, by rw [h6, hz]⟩]
      simp [addP]
    · rw [hlen, ← flat_take h2, ← h8, List.take_take, Nat.min_eq_left hm]

/-! ### typed slices -/
section
variable {α : Type} {enc : α → List Value} {h : Hp} {v : Value} {sz : Nat} {xs : List α}
theorem Sees.indexT (s : Sees h v sz (xs.map enc)) {ty e : TypeId} (hu : P.underlying ty = some (.slice e)) (hq : (P.info? e).map (·.size) = some sz) {k : IntKind} {j : Int} (h0 : 0 ≤ j) (h1 : j < xs.length) :
    indexAddrP P h ty v (.int k j) = some (.pointer (some (addP (base v) (j.toNat * sz)))) := s.index hu hq h0 (by simpa using h1)
theorem Sees.cellT (s : Sees h v sz (xs.map enc)) {ty : TypeId} (hu : (P.underlying ty).map aggD = some false) (hq : (P.info? ty).map (·.size) = some 1) {i k : Nat} {x : α} (hx : xs[i]? = some x) (hk : k < sz) :
    loadP P h ty (.pointer (some (addP (base v) (i * sz + k)))) = (enc x)[k]? := s.cell hu hq (by simp [hx]) hk
theorem Sees.aggT (s : Sees h v sz (xs.map enc)) {ty : TypeId} (hu : (P.underlying ty).map aggD = some true) (hq : (P.info? ty).map (·.size) = some sz) {i : Nat} {x : α} (hx : xs[i]? = some x) :
    loadP P h ty (.pointer (some (addP (base v) (i * sz)))) = some (.agg (enc x).toArray) := s.agg hu hq (by simp [hx])
theorem Sees.shapeT (s : Sees h v sz (xs.map enc)) : ∃ oa c, v = .slice oa xs.length c := by simpa using s.shape
end

def encI (x : Int) : List Value := [.int .i64 x]
abbrev Ints (h : Hp) (v : Value) (xs : List Int) : Prop := Sees h v 1 (xs.map encI)

theorem drop_at {α : Type} {xs : List α} {i : Nat} (hi : i < xs.length) : ∃ x, xs[i]? = some x ∧ xs.drop i = x :: xs.drop (i + 1) :=
  ⟨xs[i], List.getElem?_eq_getElem hi, List.drop_eq_getElem_cons hi⟩

@[simp] theorem nilC_tmp {t : Tmp} : nilC (.tmp t) = false := rfl
@[simp] theorem nilC_const {v : Value} : nilC (.const v) = nilV v := rfl
@[simp] theorem nilV_int {k : IntKind} {n : Int} : nilV (.int k n) = false := rfl
@[simp] theorem nilV_bool {b : Bool} : nilV (.bool b) = false := rfl
@[simp] theorem nilV_string {s : ByteArray} : nilV (.string s) = false := rfl
@[simp] theorem nilV_agg {a : Array Value} : nilV (.agg a) = false := rfl
@[simp] theorem nilV_pointer {a : Option Addr} : nilV (.pointer a) = false := rfl
@[simp] theorem nilV_nil : nilV (.slice none 0 0) = true := rfl
@[simp] theorem binN_false {op : BinOp} {t : TypeId} {x y : Value} : binN P op t x y false = binP P op t x y := rfl
@[simp] theorem binN_true {op : BinOp} {t : TypeId} {x y : Value} : binN P op t x y true = nilP P op t x := rfl
attribute [simp] op1 ev evs get put wantP dstOk plain plainC number builtinP lenB binP isShift binI unP resP resL res1 gc_self keep asI headOf headQ qAt lateQ okAt
end Go.Pm

/- Runs with what is to come as data: rules for simp. -/
set_option linter.unusedVariables false
set_option linter.unusedSimpArgs false
namespace Go.Pm

/-- What is to come. -/
inductive Kont where
  | top
  | seq (b : Code) (k : Kont)
  | block (id : Nat) (k : Kont)

def Kq (P : Program) (G : FuncId → GI) (N : Nat) (K : GI) (Q : Ex → St → Prop) : Kont → Ex → St → Prop
  | .top, ex, st => Q ex st
  | .seq b k, ex, st => onN ex (fun _ => Runs P G N K b st (Kq P G N K Q k)) fun _ => Kq P G N K Q k ex st
  | .block id k, ex, st => Kq P G N K Q k (unblock id ex) st
def R (P : Program) (G : FuncId → GI) (N : Nat) (K : GI) (Q : Ex → St → Prop) (c : Code) (st : St) (k : Kont) : Prop := Runs P G N K c st (Kq P G N K Q k)
def RL (P : Program) (G : FuncId → GI) (N : Nat) (K : GI) (Q : Ex → St → Prop) (ops : Array Oper) (l : List Oper) (st : St) (k : Kont) : Prop := RunsL P G N ops l st fun st' => Kq P G N K Q k .normal st'
def OpL (P : Program) (G : FuncId → GI) (N : Nat) (K : GI) (Q : Ex → St → Prop) (op : Op) (d : Option Tmp) (ops : Array Oper) (l : List Oper) (st : St) (k : Kont) : Prop := RunsO P G op st.s st.h fun v h' => RL P G N K Q ops l ⟨put st.s d v, h'⟩ k
def WL (P : Program) (G : FuncId → GI) (N : Nat) (K : GI) (Q : Ex → St → Prop) (x : Option Bool) (o : Oper) (ops : Array Oper) (l : List Oper) (st : St) (k : Kont) : Prop :=
  onW x (fun _ => OpL P G N K Q o.op o.dst ops l st k) fun _ => RL P G N K Q ops l ⟨put st.s o.dst undef, st.h⟩ k
def OL (P : Program) (G : FuncId → GI) (N : Nat) (K : GI) (Q : Ex → St → Prop) (x : Option (Value × Hp)) (d : Option Tmp) (ops : Array Oper) (l : List Oper) (s : Slots) (k : Kont) : Prop := onR x fun v h' => RL P G N K Q ops l ⟨put s d v, h'⟩ k
def CL (P : Program) (G : FuncId → GI) (N : Nat) (K : GI) (Q : Ex → St → Prop) (g : FuncId) (args : List Value) (h : Hp) (d : Option Tmp) (ops : Array Oper) (l : List Oper) (s : Slots) (k : Kont) : Prop := RunsC P G g args h fun v h' => RL P G N K Q ops l ⟨put s d v, h'⟩ k
def FL (P : Program) (G : FuncId → GI) (N : Nat) (K : GI) (Q : Ex → St → Prop) (x : Option Value) (y : Option (List Value)) (d : Option Tmp) (ops : Array Oper) (l : List Oper) (st : St) (k : Kont) : Prop :=
  onF x y fun g args => CL P G N K Q g args st.h d ops l st.s k
def CB (P : Program) (G : FuncId → GI) (N : Nat) (K : GI) (Q : Ex → St → Prop) (x : Option Value) (a b : Code) (st : St) (k : Kont) : Prop := onB x (fun _ => R P G N K Q a st k) fun _ => R P G N K Q b st k
-- regions that draw their order
def RH (P : Program) (G : FuncId → GI) (N : Nat) (K : GI) (Q : Ex → St → Prop) (ops : Array Oper) (l tl : List Oper) (st : St) (k : Kont) : Prop := RunsH P G N ops l st fun st1 => RL P G N K Q ops tl st1 k
def OpH (P : Program) (G : FuncId → GI) (N : Nat) (K : GI) (Q : Ex → St → Prop) (op : Op) (d : Option Tmp) (s' : Slots) (ops : Array Oper) (l tl : List Oper) (st : St) (k : Kont) : Prop := RunsO P G op s' st.h fun v h' => newOk st.h h' ∧ RH P G N K Q ops l tl ⟨put st.s d v, h'⟩ k
def WH (P : Program) (G : FuncId → GI) (N : Nat) (K : GI) (Q : Ex → St → Prop) (x : Option Bool) (s' : Slots) (o : Oper) (ops : Array Oper) (l tl : List Oper) (st : St) (k : Kont) : Prop :=
  onW x (fun _ => OpH P G N K Q o.op o.dst s' ops l tl st k) fun _ => RH P G N K Q ops l tl ⟨put st.s o.dst undef, st.h⟩ k
def OH (P : Program) (G : FuncId → GI) (N : Nat) (K : GI) (Q : Ex → St → Prop) (x : Option (Value × Hp)) (d : Option Tmp) (ops : Array Oper) (l tl : List Oper) (st : St) (k : Kont) : Prop := onR x fun v h' => newOk st.h h' ∧ RH P G N K Q ops l tl ⟨put st.s d v, h'⟩ k
def CH (P : Program) (G : FuncId → GI) (N : Nat) (K : GI) (Q : Ex → St → Prop) (g : FuncId) (args : List Value) (d : Option Tmp) (ops : Array Oper) (l tl : List Oper) (st : St) (k : Kont) : Prop := RunsC P G g args st.h fun v h' => newOk st.h h' ∧ RH P G N K Q ops l tl ⟨put st.s d v, h'⟩ k
def FH (P : Program) (G : FuncId → GI) (N : Nat) (K : GI) (Q : Ex → St → Prop) (x : Option Value) (y : Option (List Value)) (d : Option Tmp) (ops : Array Oper) (l tl : List Oper) (st : St) (k : Kont) : Prop :=
  onF x y fun g args => CH P G N K Q g args d ops l tl st k
-- regions some of whose operations write rows of earlier ones
def RG (P : Program) (G : FuncId → GI) (N : Nat) (K : GI) (Q : Ex → St → Prop) (q : List (Nat × Nat)) (Ls : List Nat) (ops : Array Oper) (l tl : List Oper) (st : St) (k : Kont) : Prop := RunsG P G N ops q Ls l st fun st1 => RL P G N K Q ops tl st1 k
def OpG (P : Program) (G : FuncId → GI) (N : Nat) (K : GI) (Q : Ex → St → Prop) (op : Op) (d : Option Tmp) (s' : Slots) (q : List (Nat × Nat)) (Ls : List Nat) (ops : Array Oper) (l tl : List Oper) (st : St) (k : Kont) : Prop := RunsO P G op s' st.h fun v h' => okAt q Ls st.h h' ∧ RG P G N K Q q (Ls ++ [st.h.length]) ops l tl ⟨put st.s d v, h'⟩ k
def WG (P : Program) (G : FuncId → GI) (N : Nat) (K : GI) (Q : Ex → St → Prop) (x : Option Bool) (s' : Slots) (o : Oper) (q : List (Nat × Nat)) (Ls : List Nat) (ops : Array Oper) (l tl : List Oper) (st : St) (k : Kont) : Prop :=
  onW x (fun _ => OpG P G N K Q o.op o.dst s' q Ls ops l tl st k) fun _ => RG P G N K Q q (Ls ++ [st.h.length]) ops l tl ⟨put st.s o.dst undef, st.h⟩ k
def OG (P : Program) (G : FuncId → GI) (N : Nat) (K : GI) (Q : Ex → St → Prop) (x : Option (Value × Hp)) (d : Option Tmp) (q : List (Nat × Nat)) (Ls : List Nat) (ops : Array Oper) (l tl : List Oper) (st : St) (k : Kont) : Prop := onR x fun v h' => okAt q Ls st.h h' ∧ RG P G N K Q q (Ls ++ [st.h.length]) ops l tl ⟨put st.s d v, h'⟩ k
def CG (P : Program) (G : FuncId → GI) (N : Nat) (K : GI) (Q : Ex → St → Prop) (g : FuncId) (args : List Value) (d : Option Tmp) (q : List (Nat × Nat)) (Ls : List Nat) (ops : Array Oper) (l tl : List Oper) (st : St) (k : Kont) : Prop := RunsC P G g args st.h fun v h' => okAt q Ls st.h h' ∧ RG P G N K Q q (Ls ++ [st.h.length]) ops l tl ⟨put st.s d v, h'⟩ k
def FG (P : Program) (G : FuncId → GI) (N : Nat) (K : GI) (Q : Ex → St → Prop) (x : Option Value) (y : Option (List Value)) (d : Option Tmp) (q : List (Nat × Nat)) (Ls : List Nat) (ops : Array Oper) (l tl : List Oper) (st : St) (k : Kont) : Prop :=
  onF x y fun g args => CG P G N K Q g args d q Ls ops l tl st k
def MR (P : Program) (G : FuncId → GI) (N : Nat) (K : GI) (Q : Ex → St → Prop) (x : Option Nat) (ops : Array Oper) (st : St) (k : Kont) : Prop := onM x (fun t => t < N ∧ Kq P G N K Q k .normal ⟨put st.s (some t) nilM, st.h⟩) fun _ => RL P G N K Q ops ops.toList st k
def DH (P : Program) (G : FuncId → GI) (N : Nat) (K : GI) (Q : Ex → St → Prop) (x : Option Nat) (y : Option (Nat × List (Nat × Nat))) (ops : Array Oper) (st : St) (k : Kont) : Prop := onD x y (fun n => RH P G N K Q ops (ops.toList.take n) (ops.toList.drop n) st k) fun n q => RG P G N K Q q [] ops (ops.toList.take n) (ops.toList.drop n) st k

/-- What stands at a function's end. -/
def Fin (P : Program) (rs : Array ResultVar) (h : Hp) (K : Value → Hp → Prop) (ex : Ex) (st : St) : Prop := onX ex fun _ => onV (resP P rs st) fun v => K v (gc h st.h v)
def FinV (h h' : Hp) (K : Value → Hp → Prop) (x : Option Value) : Prop := onV x fun v => K v (gc h h' v)
/-- What stands at the end of a loop's round. -/
def LQ (P : Program) (G : FuncId → GI) (N : Nat) (K : GI) (Q : Ex → St → Prop) (kp : List Nat) (I : Nat → Slots → Hp → Prop) (n : Nat) (k : Kont) (ex : Ex) (st : St) : Prop := onN ex (fun _ => ∃ m, m < n ∧ I m (keep kp st.s) st.h) fun _ => Kq P G N K Q k ex st

section
variable {P : Program} {G : FuncId → GI} {N : Nat} {K : GI} {Q : Ex → St → Prop} {st : St} {k : Kont} {ops : Array Oper} {l tl : List Oper} {o : Oper} {d : Option Tmp} {s s' : Slots} {h : Hp}
@[simp] theorem R_skip : R P G N K Q .skip st k = Kq P G N K Q k .normal st := rfl
@[simp] theorem R_region {id : Nat} : R P G N K Q (.region id ops false) st k = MR P G N K Q (nilDst (headOf K.heads (id + 100000)) ops) ops st k := rfl
@[simp] theorem MR_none : MR P G N K Q none ops st k = RL P G N K Q ops ops.toList st k := rfl
@[simp] theorem MR_some {t : Nat} : MR P G N K Q (some t) ops st k = (t < N ∧ Kq P G N K Q k .normal ⟨put st.s (some t) nilM, st.h⟩) := rfl
@[simp] theorem nilDst_none : nilDst none ops = none := rfl
@[simp] theorem nilDst_some {j t : Nat} {c : Operand} {ty : TypeId} {ps : String} {af : Array Edge} : nilDst (some j) #[⟨some t, .assign c, ty, ps, af, none⟩] = if nilC c = true then some t else none := rfl
@[simp] theorem R_draw {id : Nat} : R P G N K Q (.region id ops true) st k = DH P G N K Q (headOf K.heads id) (headQ K.qs id) ops st k := rfl
@[simp] theorem R_seq {a b : Code} : R P G N K Q (.seq a b) st k = R P G N K Q a st (.seq b k) := rfl
@[simp] theorem R_cond {c : Operand} {a b : Code} : R P G N K Q (.cond c a b) st k = CB P G N K Q (ev st.s c) a b st k := rfl
@[simp] theorem R_block {id : Nat} {b : Code} : R P G N K Q (.block id b) st k = R P G N K Q b st (.block id k) := rfl
@[simp] theorem R_exit {id : Nat} : R P G N K Q (.exit id) st k = Kq P G N K Q k (.exit id) st := rfl
@[simp] theorem R_ret : R P G N K Q .ret st k = Kq P G N K Q k .ret st := rfl
@[simp] theorem Kq_top {ex : Ex} : Kq P G N K Q .top ex st = Q ex st := rfl
@[simp] theorem Kq_seq {b : Code} : Kq P G N K Q (.seq b k) .normal st = R P G N K Q b st k := rfl
@[simp] theorem Kq_seq_exit {b : Code} {i : Nat} : Kq P G N K Q (.seq b k) (.exit i) st = Kq P G N K Q k (.exit i) st := rfl
@[simp] theorem Kq_seq_ret {b : Code} : Kq P G N K Q (.seq b k) .ret st = Kq P G N K Q k .ret st := rfl
@[simp] theorem Kq_block {id : Nat} : Kq P G N K Q (.block id k) .normal st = Kq P G N K Q k .normal st := rfl
@[simp] theorem Kq_block_ret {id : Nat} : Kq P G N K Q (.block id k) .ret st = Kq P G N K Q k .ret st := rfl
@[simp] theorem Kq_block_exit {id i : Nat} : Kq P G N K Q (.block id k) (.exit i) st = Kq P G N K Q k (if i = id then .normal else .exit i) st := rfl
@[simp] theorem RL_nil : RL P G N K Q ops [] st k = Kq P G N K Q k .normal st := rfl
@[simp] theorem RL_cons : RL P G N K Q ops (o :: l) st k = (dstOk N o.dst = true ∧ WL P G N K Q (wantP ops st.s o) o ops l st k) := rfl
@[simp] theorem WL_true : WL P G N K Q (some true) o ops l st k = OpL P G N K Q o.op o.dst ops l st k := rfl
@[simp] theorem WL_false : WL P G N K Q (some false) o ops l st k = RL P G N K Q ops l ⟨put st.s o.dst undef, st.h⟩ k := rfl
@[simp] theorem OpL_value {x : Operand} {as : Array Operand} {ts : Array TypeId} : OpL P G N K Q (.call ⟨.value x, as, ts⟩) d ops l st k = FL P G N K Q (ev st.s x) (evs st.s as.toList) d ops l st k := rfl
@[simp] theorem OpL_builtin {b : Builtin} {as : Array Operand} {ts : Array TypeId} : OpL P G N K Q (.call ⟨.builtin b, as, ts⟩) d ops l st k = OL P G N K Q ((evs st.s as.toList).bind fun args => builtinP P st.h b ts.toList args) d ops l st.s k := rfl
@[simp] theorem OpL_move {x : Operand} : OpL P G N K Q (.move x) d ops l st k = OL P G N K Q (op1 P st.s st.h (.move x)) d ops l st.s k := rfl
@[simp] theorem OpL_assign {x : Operand} : OpL P G N K Q (.assign x) d ops l st k = OL P G N K Q (op1 P st.s st.h (.assign x)) d ops l st.s k := rfl
@[simp] theorem OpL_pick {c x y : Operand} : OpL P G N K Q (.pick c x y) d ops l st k = OL P G N K Q (op1 P st.s st.h (.pick c x y)) d ops l st.s k := rfl
@[simp] theorem OpL_alloc {e : TypeId} : OpL P G N K Q (.alloc e) d ops l st k = OL P G N K Q (op1 P st.s st.h (.alloc e)) d ops l st.s k := rfl
@[simp] theorem OpL_box {e : TypeId} {x : Operand} : OpL P G N K Q (.box e x) d ops l st k = OL P G N K Q (op1 P st.s st.h (.box e x)) d ops l st.s k := rfl
@[simp] theorem OpL_build {t : TypeId} {p : Array (Nat × Operand)} : OpL P G N K Q (.build t p) d ops l st k = OL P G N K Q (op1 P st.s st.h (.build t p)) d ops l st.s k := rfl
@[simp] theorem OpL_buildSlice {t : TypeId} {n : Nat} {p : Array (Nat × Operand)} : OpL P G N K Q (.buildSlice t n p) d ops l st k = OL P G N K Q (op1 P st.s st.h (.buildSlice t n p)) d ops l st.s k := rfl
@[simp] theorem OpL_load {t : TypeId} {x : Operand} : OpL P G N K Q (.load t x) d ops l st k = OL P G N K Q (op1 P st.s st.h (.load t x)) d ops l st.s k := rfl
@[simp] theorem OpL_store {t : TypeId} {x y : Operand} : OpL P G N K Q (.store t x y) d ops l st k = OL P G N K Q (op1 P st.s st.h (.store t x y)) d ops l st.s k := rfl
@[simp] theorem OpL_nilCheck {x : Operand} : OpL P G N K Q (.nilCheck x) d ops l st k = OL P G N K Q (op1 P st.s st.h (.nilCheck x)) d ops l st.s k := rfl
@[simp] theorem OpL_binOp {b : BinOp} {t t' : TypeId} {x y : Operand} : OpL P G N K Q (.binOp b t x y t') d ops l st k = OL P G N K Q (op1 P st.s st.h (.binOp b t x y t')) d ops l st.s k := rfl
@[simp] theorem OpL_unOp {b : UnOp} {t : TypeId} {x : Operand} : OpL P G N K Q (.unOp b t x) d ops l st k = OL P G N K Q (op1 P st.s st.h (.unOp b t x)) d ops l st.s k := rfl
@[simp] theorem OpL_convert {t t' : TypeId} {x : Operand} : OpL P G N K Q (.convert t t' x) d ops l st k = OL P G N K Q (op1 P st.s st.h (.convert t t' x)) d ops l st.s k := rfl
@[simp] theorem OpL_makeFunc {f : Fn} {x y : Array Operand} : OpL P G N K Q (.makeFunc f x y) d ops l st k = OL P G N K Q (op1 P st.s st.h (.makeFunc f x y)) d ops l st.s k := rfl
@[simp] theorem OpL_makeSlice {t : TypeId} {x y : Operand} : OpL P G N K Q (.makeSlice t x y) d ops l st k = OL P G N K Q (op1 P st.s st.h (.makeSlice t x y)) d ops l st.s k := rfl
@[simp] theorem OpL_slice {t : TypeId} {x : Operand} {a b c : Option Operand} : OpL P G N K Q (.slice t x a b c) d ops l st k = OL P G N K Q (op1 P st.s st.h (.slice t x a b c)) d ops l st.s k := rfl
@[simp] theorem OpL_fieldAddr {t : TypeId} {x : Operand} {j : Nat} : OpL P G N K Q (.fieldAddr t x j) d ops l st k = OL P G N K Q (op1 P st.s st.h (.fieldAddr t x j)) d ops l st.s k := rfl
@[simp] theorem OpL_field {t : TypeId} {x : Operand} {j : Nat} : OpL P G N K Q (.field t x j) d ops l st k = OL P G N K Q (op1 P st.s st.h (.field t x j)) d ops l st.s k := rfl
@[simp] theorem OpL_indexAddr {t : TypeId} {x y : Operand} : OpL P G N K Q (.indexAddr t x y) d ops l st k = OL P G N K Q (op1 P st.s st.h (.indexAddr t x y)) d ops l st.s k := rfl
@[simp] theorem OpL_index {t : TypeId} {x y : Operand} : OpL P G N K Q (.index t x y) d ops l st k = OL P G N K Q (op1 P st.s st.h (.index t x y)) d ops l st.s k := rfl
@[simp] theorem OpL_extract {x : Operand} {j : Nat} : OpL P G N K Q (.extract x j) d ops l st k = OL P G N K Q (op1 P st.s st.h (.extract x j)) d ops l st.s k := rfl
@[simp] theorem OL_some {x : Value × Hp} : OL P G N K Q (some x) d ops l s k = RL P G N K Q ops l ⟨put s d x.1, x.2⟩ k := rfl
@[simp] theorem FL_some {g : FuncId} {f c : Array Value} {args : List Value} : FL P G N K Q (some (.func (.func g) f c)) (some args) d ops l st k = CL P G N K Q g (f.toList ++ args ++ c.toList) st.h d ops l st.s k := rfl
@[simp] theorem CB_true {a b : Code} : CB P G N K Q (some (.bool true)) a b st k = R P G N K Q a st k := rfl
@[simp] theorem CB_false {a b : Code} : CB P G N K Q (some (.bool false)) a b st k = R P G N K Q b st k := rfl
@[simp] theorem DH_some {n : Nat} {y : Option (Nat × List (Nat × Nat))} : DH P G N K Q (some n) y ops st k = RH P G N K Q ops (ops.toList.take n) (ops.toList.drop n) st k := rfl
@[simp] theorem DH_none {n : Nat} {q : List (Nat × Nat)} : DH P G N K Q none (some (n, q)) ops st k = RG P G N K Q q [] ops (ops.toList.take n) (ops.toList.drop n) st k := rfl
@[simp] theorem RH_nil : RH P G N K Q ops [] tl st k = RL P G N K Q ops tl st k := rfl
@[simp] theorem RH_cons : RH P G N K Q ops (o :: l) tl st k = (dstOk N o.dst = true ∧ WH P G N K Q (wantP ops (keep (o.looksAt ops) st.s) o) (keep (o.looksAt ops) st.s) o ops l tl st k) := rfl
@[simp] theorem WH_true : WH P G N K Q (some true) s' o ops l tl st k = OpH P G N K Q o.op o.dst s' ops l tl st k := rfl
@[simp] theorem WH_false : WH P G N K Q (some false) s' o ops l tl st k = RH P G N K Q ops l tl ⟨put st.s o.dst undef, st.h⟩ k := rfl
@[simp] theorem OpH_value {x : Operand} {as : Array Operand} {ts : Array TypeId} : OpH P G N K Q (.call ⟨.value x, as, ts⟩) d s' ops l tl st k = FH P G N K Q (ev s' x) (evs s' as.toList) d ops l tl st k := rfl
@[simp] theorem OpH_builtin {b : Builtin} {as : Array Operand} {ts : Array TypeId} : OpH P G N K Q (.call ⟨.builtin b, as, ts⟩) d s' ops l tl st k = OH P G N K Q ((evs s' as.toList).bind fun args => builtinP P st.h b ts.toList args) d ops l tl st k := rfl
@[simp] theorem OpH_move {x : Operand} : OpH P G N K Q (.move x) d s' ops l tl st k = OH P G N K Q (op1 P s' st.h (.move x)) d ops l tl st k := rfl
@[simp] theorem OpH_assign {x : Operand} : OpH P G N K Q (.assign x) d s' ops l tl st k = OH P G N K Q (op1 P s' st.h (.assign x)) d ops l tl st k := rfl
@[simp] theorem OpH_pick {c x y : Operand} : OpH P G N K Q (.pick c x y) d s' ops l tl st k = OH P G N K Q (op1 P s' st.h (.pick c x y)) d ops l tl st k := rfl
@[simp] theorem OpH_alloc {e : TypeId} : OpH P G N K Q (.alloc e) d s' ops l tl st k = OH P G N K Q (op1 P s' st.h (.alloc e)) d ops l tl st k := rfl
@[simp] theorem OpH_box {e : TypeId} {x : Operand} : OpH P G N K Q (.box e x) d s' ops l tl st k = OH P G N K Q (op1 P s' st.h (.box e x)) d ops l tl st k := rfl
@[simp] theorem OpH_build {t : TypeId} {p : Array (Nat × Operand)} : OpH P G N K Q (.build t p) d s' ops l tl st k = OH P G N K Q (op1 P s' st.h (.build t p)) d ops l tl st k := rfl
@[simp] theorem OpH_buildSlice {t : TypeId} {n : Nat} {p : Array (Nat × Operand)} : OpH P G N K Q (.buildSlice t n p) d s' ops l tl st k = OH P G N K Q (op1 P s' st.h (.buildSlice t n p)) d ops l tl st k := rfl
@[simp] theorem OpH_load {t : TypeId} {x : Operand} : OpH P G N K Q (.load t x) d s' ops l tl st k = OH P G N K Q (op1 P s' st.h (.load t x)) d ops l tl st k := rfl
@[simp] theorem OpH_store {t : TypeId} {x y : Operand} : OpH P G N K Q (.store t x y) d s' ops l tl st k = OH P G N K Q (op1 P s' st.h (.store t x y)) d ops l tl st k := rfl
@[simp] theorem OpH_nilCheck {x : Operand} : OpH P G N K Q (.nilCheck x) d s' ops l tl st k = OH P G N K Q (op1 P s' st.h (.nilCheck x)) d ops l tl st k := rfl
@[simp] theorem OpH_binOp {b : BinOp} {t t' : TypeId} {x y : Operand} : OpH P G N K Q (.binOp b t x y t') d s' ops l tl st k = OH P G N K Q (op1 P s' st.h (.binOp b t x y t')) d ops l tl st k := rfl
@[simp] theorem OpH_unOp {b : UnOp} {t : TypeId} {x : Operand} : OpH P G N K Q (.unOp b t x) d s' ops l tl st k = OH P G N K Q (op1 P s' st.h (.unOp b t x)) d ops l tl st k := rfl
@[simp] theorem OpH_convert {t t' : TypeId} {x : Operand} : OpH P G N K Q (.convert t t' x) d s' ops l tl st k = OH P G N K Q (op1 P s' st.h (.convert t t' x)) d ops l tl st k := rfl
@[simp] theorem OpH_makeFunc {f : Fn} {x y : Array Operand} : OpH P G N K Q (.makeFunc f x y) d s' ops l tl st k = OH P G N K Q (op1 P s' st.h (.makeFunc f x y)) d ops l tl st k := rfl
@[simp] theorem OpH_makeSlice {t : TypeId} {x y : Operand} : OpH P G N K Q (.makeSlice t x y) d s' ops l tl st k = OH P G N K Q (op1 P s' st.h (.makeSlice t x y)) d ops l tl st k := rfl
@[simp] theorem OpH_slice {t : TypeId} {x : Operand} {a b c : Option Operand} : OpH P G N K Q (.slice t x a b c) d s' ops l tl st k = OH P G N K Q (op1 P s' st.h (.slice t x a b c)) d ops l tl st k := rfl
@[simp] theorem OpH_fieldAddr {t : TypeId} {x : Operand} {j : Nat} : OpH P G N K Q (.fieldAddr t x j) d s' ops l tl st k = OH P G N K Q (op1 P s' st.h (.fieldAddr t x j)) d ops l tl st k := rfl
@[simp] theorem OpH_field {t : TypeId} {x : Operand} {j : Nat} : OpH P G N K Q (.field t x j) d s' ops l tl st k = OH P G N K Q (op1 P s' st.h (.field t x j)) d ops l tl st k := rfl
@[simp] theorem OpH_indexAddr {t : TypeId} {x y : Operand} : OpH P G N K Q (.indexAddr t x y) d s' ops l tl st k = OH P G N K Q (op1 P s' st.h (.indexAddr t x y)) d ops l tl st k := rfl
@[simp] theorem OpH_index {t : TypeId} {x y : Operand} : OpH P G N K Q (.index t x y) d s' ops l tl st k = OH P G N K Q (op1 P s' st.h (.index t x y)) d ops l tl st k := rfl
@[simp] theorem OpH_extract {x : Operand} {j : Nat} : OpH P G N K Q (.extract x j) d s' ops l tl st k = OH P G N K Q (op1 P s' st.h (.extract x j)) d ops l tl st k := rfl
@[simp] theorem OH_some {x : Value × Hp} : OH P G N K Q (some x) d ops l tl st k = (newOk st.h x.2 ∧ RH P G N K Q ops l tl ⟨put st.s d x.1, x.2⟩ k) := rfl
@[simp] theorem FH_some {g : FuncId} {f c : Array Value} {args : List Value} : FH P G N K Q (some (.func (.func g) f c)) (some args) d ops l tl st k = CH P G N K Q g (f.toList ++ args ++ c.toList) d ops l tl st k := rfl
@[simp] theorem RG_nil {q : List (Nat × Nat)} {Ls : List Nat} : RG P G N K Q q Ls ops [] tl st k = (ChkR P G ops st q ∧ RL P G N K Q ops tl st k) := rfl
@[simp] theorem ChkR_nil : ChkR P G ops st [] = True := rfl
@[simp] theorem ChkR_cons {i j : Nat} {r : List (Nat × Nat)} : ChkR P G ops st ((i, j) :: r) = ((if i = 1001 then (match ops[j]? with | some o => RunsO P G o.op (keep (o.looksAt ops) st.s) st.h fun v h' => v = (o.dst.bind (get st.s)).getD undef ∧ h' = st.h | none => False) else True) ∧ ChkR P G ops st r) := rfl
@[simp] theorem RG_cons {q : List (Nat × Nat)} {Ls : List Nat} : RG P G N K Q q Ls ops (o :: l) tl st k = (dstOk N o.dst = true ∧ WG P G N K Q (wantP ops (keep (o.looksAt ops) st.s) o) (keep (o.looksAt ops) st.s) o q Ls ops l tl st k) := rfl
@[simp] theorem WG_true {q : List (Nat × Nat)} {Ls : List Nat} : WG P G N K Q (some true) s' o q Ls ops l tl st k = OpG P G N K Q o.op o.dst s' q Ls ops l tl st k := rfl
@[simp] theorem WG_false {q : List (Nat × Nat)} {Ls : List Nat} : WG P G N K Q (some false) s' o q Ls ops l tl st k = RG P G N K Q q (Ls ++ [st.h.length]) ops l tl ⟨put st.s o.dst undef, st.h⟩ k := rfl
@[simp] theorem OpG_value {q : List (Nat × Nat)} {Ls : List Nat} {x : Operand} {as : Array Operand} {ts : Array TypeId} : OpG P G N K Q (.call ⟨.value x, as, ts⟩) d s' q Ls ops l tl st k = FG P G N K Q (ev s' x) (evs s' as.toList) d q Ls ops l tl st k := rfl
@[simp] theorem OpG_builtin {q : List (Nat × Nat)} {Ls : List Nat} {b : Builtin} {as : Array Operand} {ts : Array TypeId} : OpG P G N K Q (.call ⟨.builtin b, as, ts⟩) d s' q Ls ops l tl st k = OG P G N K Q ((evs s' as.toList).bind fun args => builtinP P st.h b ts.toList args) d q Ls ops l tl st k := rfl
@[simp] theorem OpG_move {q : List (Nat × Nat)} {Ls : List Nat} {x : Operand} : OpG P G N K Q (.move x) d s' q Ls ops l tl st k = OG P G N K Q (op1 P s' st.h (.move x)) d q Ls ops l tl st k := rfl
@[simp] theorem OpG_assign {q : List (Nat × Nat)} {Ls : List Nat} {x : Operand} : OpG P G N K Q (.assign x) d s' q Ls ops l tl st k = OG P G N K Q (op1 P s' st.h (.assign x)) d q Ls ops l tl st k := rfl
@[simp] theorem OpG_pick {q : List (Nat × Nat)} {Ls : List Nat} {c x y : Operand} : OpG P G N K Q (.pick c x y) d s' q Ls ops l tl st k = OG P G N K Q (op1 P s' st.h (.pick c x y)) d q Ls ops l tl st k := rfl
@[simp] theorem OpG_alloc {q : List (Nat × Nat)} {Ls : List Nat} {e : TypeId} : OpG P G N K Q (.alloc e) d s' q Ls ops l tl st k = OG P G N K Q (op1 P s' st.h (.alloc e)) d q Ls ops l tl st k := rfl
@[simp] theorem OpG_box {q : List (Nat × Nat)} {Ls : List Nat} {e : TypeId} {x : Operand} : OpG P G N K Q (.box e x) d s' q Ls ops l tl st k = OG P G N K Q (op1 P s' st.h (.box e x)) d q Ls ops l tl st k := rfl
@[simp] theorem OpG_build {q : List (Nat × Nat)} {Ls : List Nat} {t : TypeId} {p : Array (Nat × Operand)} : OpG P G N K Q (.build t p) d s' q Ls ops l tl st k = OG P G N K Q (op1 P s' st.h (.build t p)) d q Ls ops l tl st k := rfl
@[simp] theorem OpG_buildSlice {q : List (Nat × Nat)} {Ls : List Nat} {t : TypeId} {n : Nat} {p : Array (Nat × Operand)} : OpG P G N K Q (.buildSlice t n p) d s' q Ls ops l tl st k = OG P G N K Q (op1 P s' st.h (.buildSlice t n p)) d q Ls ops l tl st k := rfl
@[simp] theorem OpG_load {q : List (Nat × Nat)} {Ls : List Nat} {t : TypeId} {x : Operand} : OpG P G N K Q (.load t x) d s' q Ls ops l tl st k = OG P G N K Q (op1 P s' st.h (.load t x)) d q Ls ops l tl st k := rfl
@[simp] theorem OpG_store {q : List (Nat × Nat)} {Ls : List Nat} {t : TypeId} {x y : Operand} : OpG P G N K Q (.store t x y) d s' q Ls ops l tl st k = OG P G N K Q (op1 P s' st.h (.store t x y)) d q Ls ops l tl st k := rfl
@[simp] theorem OpG_nilCheck {q : List (Nat × Nat)} {Ls : List Nat} {x : Operand} : OpG P G N K Q (.nilCheck x) d s' q Ls ops l tl st k = OG P G N K Q (op1 P s' st.h (.nilCheck x)) d q Ls ops l tl st k := rfl
@[simp] theorem OpG_binOp {q : List (Nat × Nat)} {Ls : List Nat} {b : BinOp} {t t' : TypeId} {x y : Operand} : OpG P G N K Q (.binOp b t x y t') d s' q Ls ops l tl st k = OG P G N K Q (op1 P s' st.h (.binOp b t x y t')) d q Ls ops l tl st k := rfl
@[simp] theorem OpG_unOp {q : List (Nat × Nat)} {Ls : List Nat} {b : UnOp} {t : TypeId} {x : Operand} : OpG P G N K Q (.unOp b t x) d s' q Ls ops l tl st k = OG P G N K Q (op1 P s' st.h (.unOp b t x)) d q Ls ops l tl st k := rfl
@[simp] theorem OpG_convert {q : List (Nat × Nat)} {Ls : List Nat} {t t' : TypeId} {x : Operand} : OpG P G N K Q (.convert t t' x) d s' q Ls ops l tl st k = OG P G N K Q (op1 P s' st.h (.convert t t' x)) d q Ls ops l tl st k := rfl
@[simp] theorem OpG_makeFunc {q : List (Nat × Nat)} {Ls : List Nat} {f : Fn} {x y : Array Operand} : OpG P G N K Q (.makeFunc f x y) d s' q Ls ops l tl st k = OG P G N K Q (op1 P s' st.h (.makeFunc f x y)) d q Ls ops l tl st k := rfl
@[simp] theorem OpG_makeSlice {q : List (Nat × Nat)} {Ls : List Nat} {t : TypeId} {x y : Operand} : OpG P G N K Q (.makeSlice t x y) d s' q Ls ops l tl st k = OG P G N K Q (op1 P s' st.h (.makeSlice t x y)) d q Ls ops l tl st k := rfl
@[simp] theorem OpG_slice {q : List (Nat × Nat)} {Ls : List Nat} {t : TypeId} {x : Operand} {a b c : Option Operand} : OpG P G N K Q (.slice t x a b c) d s' q Ls ops l tl st k = OG P G N K Q (op1 P s' st.h (.slice t x a b c)) d q Ls ops l tl st k := rfl
@[simp] theorem OpG_fieldAddr {q : List (Nat × Nat)} {Ls : List Nat} {t : TypeId} {x : Operand} {j : Nat} : OpG P G N K Q (.fieldAddr t x j) d s' q Ls ops l tl st k = OG P G N K Q (op1 P s' st.h (.fieldAddr t x j)) d q Ls ops l tl st k := rfl
@[simp] theorem OpG_field {q : List (Nat × Nat)} {Ls : List Nat} {t : TypeId} {x : Operand} {j : Nat} : OpG P G N K Q (.field t x j) d s' q Ls ops l tl st k = OG P G N K Q (op1 P s' st.h (.field t x j)) d q Ls ops l tl st k := rfl
@[simp] theorem OpG_indexAddr {q : List (Nat × Nat)} {Ls : List Nat} {t : TypeId} {x y : Operand} : OpG P G N K Q (.indexAddr t x y) d s' q Ls ops l tl st k = OG P G N K Q (op1 P s' st.h (.indexAddr t x y)) d q Ls ops l tl st k := rfl
@[simp] theorem OpG_index {q : List (Nat × Nat)} {Ls : List Nat} {t : TypeId} {x y : Operand} : OpG P G N K Q (.index t x y) d s' q Ls ops l tl st k = OG P G N K Q (op1 P s' st.h (.index t x y)) d q Ls ops l tl st k := rfl
@[simp] theorem OpG_extract {q : List (Nat × Nat)} {Ls : List Nat} {x : Operand} {j : Nat} : OpG P G N K Q (.extract x j) d s' q Ls ops l tl st k = OG P G N K Q (op1 P s' st.h (.extract x j)) d q Ls ops l tl st k := rfl
@[simp] theorem OG_some {q : List (Nat × Nat)} {Ls : List Nat} {x : Value × Hp} : OG P G N K Q (some x) d q Ls ops l tl st k = (okAt q Ls st.h x.2 ∧ RG P G N K Q q (Ls ++ [st.h.length]) ops l tl ⟨put st.s d x.1, x.2⟩ k) := rfl
@[simp] theorem FG_some {q : List (Nat × Nat)} {Ls : List Nat} {g : FuncId} {f c : Array Value} {args : List Value} : FG P G N K Q (some (.func (.func g) f c)) (some args) d q Ls ops l tl st k = CG P G N K Q g (f.toList ++ args ++ c.toList) d q Ls ops l tl st k := rfl
@[simp] theorem Fin_normal {rs : Array ResultVar} {K : Value → Hp → Prop} : Fin P rs h K .normal st = FinV h st.h K (resP P rs st) := rfl
@[simp] theorem Fin_ret {rs : Array ResultVar} {K : Value → Hp → Prop} : Fin P rs h K .ret st = FinV h st.h K (resP P rs st) := rfl
@[simp] theorem FinV_some {h' : Hp} {K : Value → Hp → Prop} {v : Value} : FinV h h' K (some v) = K v (gc h h' v) := rfl
@[simp] theorem LQ_normal {kp : List Nat} {I : Nat → Slots → Hp → Prop} {n : Nat} : LQ P G N K Q kp I n k .normal st = ∃ m, m < n ∧ I m (keep kp st.s) st.h := rfl
@[simp] theorem LQ_exit {kp : List Nat} {I : Nat → Slots → Hp → Prop} {n i : Nat} : LQ P G N K Q kp I n k (.exit i) st = Kq P G N K Q k (.exit i) st := rfl
@[simp] theorem LQ_ret {kp : List Nat} {I : Nat → Slots → Hp → Prop} {n : Nat} : LQ P G N K Q kp I n k .ret st = Kq P G N K Q k .ret st := rfl
@[simp] theorem newOk_self : newOk h h := ⟨List.prefix_rfl, by simp⟩
@[simp] theorem newOk_own {cs : List Value} {sz : Nat} : newOk h (h ++ [some ⟨cs, sz, false⟩]) := ⟨List.prefix_append .., by simp⟩

theorem R_loop {b : Code} (I : Nat → Slots → Hp → Prop) (hb : ∀ n s h, I n s h → R P G N K (LQ P G N K Q (keepAt K.keep (firstId b)) I n k) b ⟨s, h⟩ .top) {n : Nat} (hi : I n (keep (keepAt K.keep (firstId b)) st.s) st.h) : R P G N K Q (.loop b) st k :=
  Runs.loopK I (fun n s h hI => (hb n s h hI).mono fun ex st' h => h) hi

/-- What a function returns and leaves. -/
def Ret (P : Program) (G : FuncId → GI) (g : FuncId) (args : List Value) (h : Hp) (v : Value) (h1 : Hp) : Prop := RunsC P G g args h fun v' h' => v' = v ∧ h' = h1
theorem CL_ret {g : FuncId} {args : List Value} {v : Value} {h1 : Hp} (r : Ret P G g args h v h1) : CL P G N K Q g args h d ops l s k = RL P G N K Q ops l ⟨put s d v, h1⟩ k := propext (RunsC.iff r _)
theorem CH_ret {g : FuncId} {args : List Value} {v : Value} {h1 : Hp} (r : Ret P G g args st.h v h1) : CH P G N K Q g args d ops l tl st k = (newOk st.h h1 ∧ RH P G N K Q ops l tl ⟨put st.s d v, h1⟩ k) := propext (RunsC.iff r _)
theorem CG_post {q : List (Nat × Nat)} {Ls : List Nat} {g : FuncId} {args : List Value} {Kp : Value → Hp → Prop} (r : RunsC P G g args st.h Kp) (hk : ∀ v h', Kp v h' → okAt q Ls st.h h' ∧ RG P G N K Q q (Ls ++ [st.h.length]) ops l tl ⟨put st.s d v, h'⟩ k) : CG P G N K Q g args d q Ls ops l tl st k := RunsC.mono r hk
theorem CL_post {g : FuncId} {args : List Value} {Kp : Value → Hp → Prop} (r : RunsC P G g args h Kp) (hk : ∀ v h', Kp v h' → RL P G N K Q ops l ⟨put s d v, h'⟩ k) : CL P G N K Q g args h d ops l s k := RunsC.mono r hk
theorem enter_run {g : FuncId} {args : List Value} {Kp : Value → Hp → Prop} {c : Code} {rs : Array ResultVar} (he : enterG P (G g) g = some (c, N, rs)) (hl : args.length ≤ N) (r : R P G N (G g) (Fin P rs h Kp) c ⟨number 0 args, h⟩ .top) : RunsC P G g args h Kp :=
  RunsC.enter he hl (Runs.mono r fun ex st' h => h)
theorem CB_split {c : Bool} {a b : Code} (ht : c = true → R P G N K Q a st k) (hf : c = false → R P G N K Q b st k) : CB P G N K Q (some (.bool c)) a b st k := by
  cases c with
  | true => exact ht rfl
  | false => exact hf rfl
theorem WL_split {c : Bool} (ht : c = true → OpL P G N K Q o.op o.dst ops l st k) (hf : c = false → RL P G N K Q ops l ⟨put st.s o.dst undef, st.h⟩ k) : WL P G N K Q (some c) o ops l st k := by
  cases c with
  | true => exact ht rfl
  | false => exact hf rfl
end
end Go.Pm

/- Rows that a function has made itself: rules for simp. -/
set_option linter.unusedVariables false
set_option linter.unusedSimpArgs false
namespace Go.Pm
section
variable {P : Program} {h l : Hp} {x : Row} {y : Option Row} {k o : Nat} {sp : Option Nat} {t : TypeId} {v : Value}

def allOne : List Value → Bool
  | [] => true
  | v :: r => one v && allOne r
@[simp ↓] theorem all_one (l : List Value) : l.all one = allOne l := by
  induction l with
  | nil => rfl
  | cons v r ih => simp only [List.all_cons, allOne, ih]
@[simp] theorem allOne_nil : allOne [] = true := rfl
@[simp] theorem allOne_cons (v : Value) (r : List Value) : allOne (v :: r) = (one v && allOne r) := rfl
theorem hget_app (h l : Hp) (k : Nat) : (h ++ l)[h.length + k]? = l[k]? := by
  have := List.getElem?_append_right (l₁ := h) (l₂ := l) (i := h.length + k) (by omega)
  rwa [Nat.add_sub_cancel_left] at this
theorem hget_app0 (h l : Hp) : (h ++ l)[h.length]? = l[0]? := hget_app h l 0
theorem hset_app (h l : Hp) (k : Nat) (y : Option Row) : List.set (h ++ l) (h.length + k) y = h ++ List.set l k y := by
  have := List.set_append_right (s := h) (t := l) (i := h.length + k) (x := y) (by omega)
  rwa [Nat.add_sub_cancel_left] at this
theorem hset_app0 (h l : Hp) (y : Option Row) : List.set (h ++ l) h.length y = h ++ List.set l 0 y := hset_app h l 0 y

@[simp] theorem rowAt_app : rowAt (h ++ l) ⟨h.length + k, o, sp⟩ = rowAt l ⟨k, o, sp⟩ := by unfold rowAt; rw [hget_app]
@[simp] theorem rowAt_app0 : rowAt (h ++ l) ⟨h.length, o, sp⟩ = rowAt l ⟨0, o, sp⟩ := by unfold rowAt; rw [hget_app0]
@[simp] theorem rowAt_zero : rowAt (some x :: l) ⟨0, o, sp⟩ = if sp = some x.cells.length then some x else none := by simp [rowAt]
@[simp] theorem rowAt_succ : rowAt (y :: l) ⟨k + 1, o, sp⟩ = rowAt l ⟨k, o, sp⟩ := by simp [rowAt]

def rowLoad (P : Program) (t : TypeId) (x : Row) (o : Nat) : Option Value :=
  match P.underlying t, P.info? t with
  | some d, some i => if aggD d then if o + i.size ≤ x.cells.length then some (.agg ((x.cells.drop o).take i.size).toArray) else none else x.cells[o]?
  | _, _ => none
def rowStore (P : Program) (t : TypeId) (x : Row) (o : Nat) (v : Value) : Option Row :=
  match P.info? t with
  | some i => if x.ro = false ∧ v.cells.size = i.size ∧ o + i.size ≤ x.cells.length ∧ v.cells.toList.all one = true then some { x with cells := splice x.cells o v.cells.toList } else none
  | none => none
theorem loadP_eq {a : Addr} : loadP P h t (.pointer (some a)) = (rowAt h a).bind fun x => rowLoad P t x a.off := by
  simp only [loadP, rowLoad]
  cases rowAt h a <;> cases P.underlying t <;> cases P.info? t <;> rfl
theorem storeP_eq {a : Addr} : storeP P h t v (.pointer (some a)) = (rowAt h a).bind fun x => (rowStore P t x a.off v).map fun x' => h.set a.block (some x') := by
  simp only [storeP, rowStore]
  cases rowAt h a <;> cases P.info? t <;> try rfl
  simp only [Option.bind_some]
  split <;> rfl
@[simp] theorem loadP_app : loadP P (h ++ l) t (.pointer (some ⟨h.length + k, o, sp⟩)) = (rowAt l ⟨k, o, sp⟩).bind fun x => rowLoad P t x o := by rw [loadP_eq, rowAt_app]
@[simp] theorem loadP_app0 : loadP P (h ++ l) t (.pointer (some ⟨h.length, o, sp⟩)) = (rowAt l ⟨0, o, sp⟩).bind fun x => rowLoad P t x o := by rw [loadP_eq, rowAt_app0]
@[simp] theorem storeP_app : storeP P (h ++ l) t v (.pointer (some ⟨h.length + k, o, sp⟩)) = (rowAt l ⟨k, o, sp⟩).bind fun x => (rowStore P t x o v).map fun x' => h ++ List.set l k (some x') := by rw [storeP_eq, rowAt_app]; simp only [hset_app]
@[simp] theorem storeP_app0 : storeP P (h ++ l) t v (.pointer (some ⟨h.length, o, sp⟩)) = (rowAt l ⟨0, o, sp⟩).bind fun x => (rowStore P t x o v).map fun x' => h ++ List.set l 0 (some x') := by rw [storeP_eq, rowAt_app0]; simp only [hset_app0]
@[simp] theorem indexAddrP_some {ty : TypeId} {a : Addr} {n c : Nat} {kk : IntKind} {j : Int} : indexAddrP P h ty (.slice (some a) n c) (.int kk j) = match P.underlying ty with
    | some (.slice e) => match P.info? e, rowAt h a with
      | some q, some _ => if 0 ≤ j ∧ j < n then some (.pointer (some (addP a (j.toNat * q.size)))) else none
      | _, _ => none
    | _ => none := by
  unfold indexAddrP
  cases P.underlying ty with
  | none => rfl
  | some d => cases d <;> rfl
@[simp] theorem addP_mk {b : Nat} : addP ⟨b, o, sp⟩ k = ⟨b, o + k, sp⟩ := rfl
@[simp] theorem gc_bool {b : Bool} : gc h (h ++ l) (.bool b) = h := gc_app h l _ rfl
@[simp] theorem gc_int {k : IntKind} {n : Int} : gc h (h ++ l) (.int k n) = h := gc_app h l _ rfl
theorem gcB {h h' : Hp} (hp : h <+: h') {b : Bool} : gc h h' (.bool b) = h := by obtain ⟨t, rfl⟩ := hp; exact gc_app h t _ rfl
theorem gcB' {h h' l : Hp} (hp : h <+: h') {b : Bool} : gc h (h' ++ l) (.bool b) = h := gcB (hp.trans (List.prefix_append ..))
end
attribute [simp] firstId keepAt undef evO Oper.looksAt Op.operands Call.operands newP rowLoad rowStore Value.cells one aggD fieldsOf partP splice zeroP
end Go.Pm
