/- The texts PmM3, PnL, PnM, PnP, PnQ of this work: A region that draws its order, with a store that may come up early. -/
import Derived.Test.YtjjjalkfpajckaaM1
/- A region that draws its order, with a store that may come up early. -/
set_option linter.unusedVariables false
set_option linter.unusedSimpArgs false
namespace Go.Pm
variable {P : Program} {G : FuncId → GI}
theorem get_keep_of {t : Nat} {s : Slots} : ∀ {K : List Nat}, t ∈ K → get (keep K s) t = get s t
  | k :: K, hm => by
    unfold keep
    rw [List.filterMap_cons]
    by_cases hk : k = t
    · subst hk
      cases hg : get s k with
      | some v => simp only [hg, Option.map_some, get, if_true]
      | none =>
        simp only [hg, Option.map_none]
        by_cases hm2 : k ∈ K
        · have := get_keep_of (s := s) hm2
          unfold keep at this
          rw [this, hg]
        · cases h : get (K.filterMap fun t => (get s t).map fun v => (t, v)) k with
          | none => rfl
          | some v => exact absurd (get_keep_mem (K := K) (s := s) (by unfold keep; exact h)) hm2
    · have hm2 : t ∈ K := by rcases List.mem_cons.1 hm with h | h; exact absurd h.symm hk; exact h
      have ih := get_keep_of (s := s) hm2
      unfold keep at ih
      cases hg : get s k with
      | some v => simp only [hg, Option.map_some, get, if_neg hk]; exact ih
      | none => simp only [hg, Option.map_none]; exact ih
theorem plainC_cl {v : Value} (h : plainC v = true) : Cl 0 v := by
  unfold plainC at h
  split at h <;> first | exact .bool _ | exact .int _ _ | exact .string _ | exact .nilPtr | exact .nilFunc | exact .nilSlice | cases h
theorem plain_cl {v : Value} (h : plain v = true) : Cl 0 v := by
  unfold plain at h
  split at h
  · rename_i cs
    refine .agg _ fun i v hi => plainC_cl ?_
    rw [List.all_eq_true] at h
    exact h v (by rw [Array.mem_toList_iff]; exact Array.mem_of_getElem? hi)
  · rename_i cs
    refine .tuple _ fun i v hi => plainC_cl ?_
    rw [List.all_eq_true] at h
    exact h v (by rw [Array.mem_toList_iff]; exact Array.mem_of_getElem? hi)
  · exact plainC_cl h
theorem mem_splice : ∀ {ws cs : List Value} {o : Nat} {v : Value}, v ∈ splice cs o ws → v ∈ cs ∨ v ∈ ws
  | [], cs, o, v, h => .inl h
  | w :: ws, cs, o, v, h => by
    rw [splice] at h
    rcases mem_splice h with h1 | h1
    · rcases List.mem_or_eq_of_mem_set h1 with h2 | h2
      · exact .inl h2
      · exact .inr (by rw [h2]; exact List.mem_cons_self ..)
    · exact .inr (List.mem_cons_of_mem _ h1)
theorem alloc_runs {f : Nat} {o : Oper} {e : TypeId} (ho : o.op = .alloc e) {st : St} {v : Value} {h' : Hp} (hF : execO P G f o st = some (v, h')) :
    ∃ cs : List Value, (∀ v ∈ cs, Cl 0 v) ∧ ∀ st2 : St, execO P G f o st2 = some (.pointer (some ⟨st2.h.length, 0, some cs.length⟩), st2.h ++ [some ⟨cs, 0, false⟩]) := by
  cases f with
  | zero => simp [execO] at hF
  | succ f =>
    simp only [execO, ho, op1] at hF ⊢
    obtain ⟨z, hz, hv⟩ := Option.map_eq_some_iff.1 hF
    refine ⟨z.cells.toList, fun v hv => ?_, fun st2 => by rw [hz]; rfl⟩
    have hpl : plain z = true := by
      unfold zeroP at hz
      split at hz
      · split at hz
        · split at hz
          · rename_i hp; cases hz; exact hp.1
          · cases hz
        · cases hz
      · cases hz
    exact cl_cells (plain_cl hpl) hv
section
variable {f N : Nat} {ops : Array Oper} {n : Nat} {st st1 st2 : St}
theorem draw_ok2 (hm : P.follows .mixedOrders = true) (hF : OpSound P (fun o st => execO P G f o st)) (hd : drawOk ops (n + 1) = true) (he : earlyB ops n = true)
    (e : runH (fun o st => execO P G f o st) N ops (ops.toList.take n) st = some st1) (el : execL P G f N ops (ops.toList.drop n) st1 = some st2)
    {ρ : Mp} {a : Act} {w : World} (R : Rel ρ st.h w) (S : SR ρ st.h st.s a.tmps) (hN : a.tmps.size = N) (hdf : a.defers = [])
    {Q : Exit → Act → World → Prop} (hQ : ∀ st3 a' w', execL P G f N ops (ops.toList.drop (n + 1)) st3 = some st2 → Beh ρ st.h w N st3 a' w' → wpList P ops Q (ops.toList.drop (n + 1)) a' w') {id : Nat} : (Code.region id ops true).wp P Q a w := by
  have D := drawOk_spec hd
  obtain ⟨V, L, X, T⟩ := trace _ N ops _ st st1 e
  have hn := D.hn
  have hnl : (ops.toList.take n).length = n := by simp; omega
  have hle : ∀ {i j}, i ≤ j → j ≤ n → L i ≤ L j := fun h1 h2 => T.le h1 (by rw [hnl]; exact h2)
  have hLn : L n = st1.h.length := by have := T.hn; rwa [hnl] at this
  have htake : ∀ j o, j < n → (ops.toList.take n)[j]? = some o → ops[j]? = some o := by
    intro j o hj ho
    rw [List.getElem?_take, if_pos hj] at ho
    simpa using ho
  have htake' : ∀ j o, j < n → ops[j]? = some o → (ops.toList.take n)[j]? = some o := by
    intro j o hj ho
    rw [List.getElem?_take, if_pos hj]
    simpa using ho
  -- the store
  have hnlt : n < ops.size := by omega
  have hos : ops[n]? = some ops[n] := by simp [hnlt]
  generalize hosg : ops[n] = os at hos
  unfold earlyB at he
  rw [hos] at he
  simp only [Bool.and_eq_true, Option.isNone_iff_eq_none] at he
  obtain ⟨⟨hnod, hng⟩, he⟩ := he
  split at he
  case h_2 => cases he
  rename_i ts ta x hop
  obtain ⟨ia, hia, he⟩ := List.any_eq_true.1 he
  rw [List.mem_range] at hia
  simp only [Bool.and_eq_true] at he
  obtain ⟨⟨⟨hal, hwt⟩, hlate⟩, hx⟩ := he
  have hoa : ops[ia]? = some ops[ia] := by simp [show ia < ops.size by omega]
  generalize hoag : ops[ia] = oa at hoa
  rw [hoa] at hal
  simp only [Bool.and_eq_true, beq_iff_eq, Option.isNone_iff_eq_none] at hal
  obtain ⟨⟨had, hag⟩, haa⟩ := hal
  obtain ⟨ea, hae⟩ : ∃ e, oa.op = .alloc e := by
    unfold isAlloc at haa
    split at haa
    · exact ⟨_, by assumption⟩
    · cases haa
  -- its allocation
  obtain ⟨hdsta, hXa, hsa⟩ := T.step ia oa (htake' ia oa hia hoa)
  have hwa : execO P G f oa ⟨keep (oa.looksAt ops) (X ia), st1.h.take (L ia)⟩ = some (V ia, st1.h.take (L (ia + 1))) := by
    rcases hsa with ⟨h1, _⟩ | ⟨_, h1⟩
    · simp [wantP, hag] at h1
    · exact h1
  obtain ⟨cs, hcs, hrun⟩ := alloc_runs hae hwa
  have hra := hrun ⟨keep (oa.looksAt ops) (X ia), st1.h.take (L ia)⟩
  rw [hwa] at hra
  have hlena : (st1.h.take (L ia)).length = L ia := by rw [List.length_take, Nat.min_eq_left]; rw [← hLn]; exact hle (by omega) (Nat.le_refl _)
  have hlena1 : (st1.h.take (L (ia + 1))).length = L (ia + 1) := by rw [List.length_take, Nat.min_eq_left]; rw [← hLn]; exact hle (by omega) (Nat.le_refl _)
  simp only [Option.some.injEq, Prod.mk.injEq, hlena] at hra
  obtain ⟨hVa, hha⟩ := hra
  have hla : L (ia + 1) = L ia + 1 := by rw [← hlena1, hha]; simp [hlena]
  have hrowa : st1.h[L ia]? = some (some ⟨cs, 0, false⟩) := by
    have h1 : (st1.h.take (L (ia + 1)))[L ia]? = some (some ⟨cs, 0, false⟩) := by
      rw [hha, List.getElem?_append_right (by rw [hlena]; exact Nat.le_refl _), hlena, Nat.sub_self]; rfl
    rwa [take_get (by omega)] at h1
  have hdist : ∀ j oj, j < n → ops[j]? = some oj → oj.dst = some ta → j = ia := by
    intro j oj hj hoj hdj
    rcases Nat.decEq j ia with hne | heq
    · exact absurd had (D.dist j ia oj oa ta (by omega) (by omega) hne hoj hoa hdj)
    · exact heq
  have hgeta : ∀ v, get st1.s ta = some v → v = V ia := by
    intro v hv
    rw [← T.xn, hnl] at hv
    rcases slots_at T n (by omega) ta v hv with ⟨j, o, h1, h3, h4, h5⟩ | ⟨h1, _⟩
    · rw [h5, hdist j o h1 (htake j o h1 h3) h4]
    · exact absurd had (h1 ia oa hia (htake' ia oa hia hoa))
  -- its run
  have hdrop : ops.toList.drop n = os :: ops.toList.drop (n + 1) := by
    rw [List.drop_eq_getElem_cons (by simpa using hnlt)]
    congr 1
  rw [hdrop] at el
  cases f with
  | zero => simp [execL] at el
  | succ f =>
    rw [execL] at el
    have hwant : ∀ s, wantP ops s os = some true := fun s => by simp [wantP, hng]
    simp only [hwant] at el
    split at el
    case isFalse => cases el
    split at el
    case h_2 => cases el
    rename_i vs h2 hso
    rw [hnod] at el
    have el3 : execL P G (f + 1) N ops (ops.toList.drop (n + 1)) ⟨st1.s, h2⟩ = some st2 := list_le (Nat.le_succ f) el
    have hso' := oper_le (Nat.le_succ f) hso
    simp only [execO, hop, op1] at hso'
    obtain ⟨pv, hpv, hso2⟩ := Option.bind_eq_some_iff.1 hso'
    obtain ⟨xv, hxv, hso3⟩ := Option.bind_eq_some_iff.1 hso2
    obtain ⟨h2', hst, hh⟩ := Option.map_eq_some_iff.1 hso3
    obtain ⟨rfl, rfl⟩ : undef = vs ∧ h2' = h2 := by simpa using hh
    have hpv' : pv = .pointer (some ⟨L ia, 0, some cs.length⟩) := by
      rw [← hVa]; exact hgeta pv (by simpa [ev] using hpv)
    rw [hpv'] at hst
    have hmema : ta ∈ os.looksAt ops := by simp [Oper.looksAt, hop, Op.operands]
    obtain ⟨i, hqi, hcond, hh2⟩ : ∃ i, P.info? ts = some i ∧ (xv.cells.size = i.size ∧ 0 + i.size ≤ cs.length) ∧ h2' = st1.h.set (L ia) (some ⟨splice cs 0 xv.cells.toList, 0, false⟩) := by
      simp only [storeP, rowAt, hrowa, if_true] at hst
      split at hst
      · rename_i x0 i hx0 hi
        cases hx0
        split at hst
        · rename_i hc
          exact ⟨i, hi, ⟨hc.2.1, hc.2.2.1⟩, by cases hst; rfl⟩
        · cases hst
      · cases hst
    have hLa : L ia < st1.h.length := (List.getElem?_eq_some_iff.1 hrowa).1
    have E : Early (fun o st => execO P G (f + 1) o st) ops n st st1 V L h2' os undef ia xv := by
      refine ⟨hos, hnod, ?_, hwant _, by rw [hh2]; simp, fun r hr => by rw [hh2, List.getElem?_set_ne (fun e => hr e.symm)], fun x hx => ?_, ?_, hia, by omega, hwt, fun i o s h1 h3 h4 hFo => ?_⟩
      · have e1 : ev (keep (os.looksAt ops) st1.s) (.tmp ta) = some pv := by
          rw [← hpv]; simp only [ev]; exact get_keep_of hmema
        have e2 : ev (keep (os.looksAt ops) st1.s) x = some xv := by
          cases x with
          | tmp tx => rw [← hxv]; simp only [ev]; exact get_keep_of (by simp [Oper.looksAt, hop, Op.operands])
          | const v => rw [← hxv]; rfl
          | global g => simp at hx
          | func g => simp at hx
        simp only [execO, hop, op1, e1, e2, Option.bind_some, hpv', hst, Option.map_some]
      · rw [hh2, List.getElem?_set_self hLa] at hx
        cases hx
        refine ⟨rfl, fun v hv => ?_⟩
        rcases mem_splice hv with h1 | h1
        · exact .inl (hcs v h1)
        · exact .inr h1
      · cases x with
        | const v =>
          simp only [ev] at hxv
          split at hxv
          · rename_i hp; cases hxv; exact .inl (plain_cl hp)
          · cases hxv
        | tmp tx =>
          simp only [ev] at hxv
          have hxv2 := hxv
          rw [← T.xn, hnl] at hxv2
          rcases slots_at T n (by omega) tx xv hxv2 with ⟨j, o, h1, h3, h4, h5⟩ | ⟨_, h1⟩
          · refine .inr (.inl ⟨j, o, tx, ?_, htake j o h1 h3, h4, h5, ?_⟩)
            · have := List.all_eq_true.1 hx j (List.mem_range.2 h1)
              rw [htake j o h1 h3, Option.bind_some, h4] at this
              simpa using this
            · exact (D.deps n os tx j tx (by omega) hos (by simp [Oper.looksAt, hop, Op.operands]) (by omega) (by rw [htake j o h1 h3]; exact h4) rfl).2
          · exact .inr (.inr ⟨tx, h1⟩)
        | global g => simp at hx
        | func g => simp at hx
      · have h5 := List.all_eq_true.1 hlate i (List.mem_range.2 h3)
        rw [h4] at h5
        simp only [Bool.or_eq_true, decide_eq_true_eq] at h5
        have h6 : isAlloc o.op = true := by rcases h5 with h5 | h5; omega; exact h5
        obtain ⟨ei, hei⟩ : ∃ e, o.op = .alloc e := by
          unfold isAlloc at h6
          split at h6
          · exact ⟨_, by assumption⟩
          · cases h6
        obtain ⟨ci, _, hri⟩ := alloc_runs hei hFo
        have q1 := hri ⟨s, st1.h.take (L i)⟩
        have hFo' : execO P G (f + 1) o ⟨s, st1.h.take (L i)⟩ = some (V i, st1.h.take (L (i + 1))) := hFo
        rw [hFo'] at q1
        have hlL : L i ≤ st1.h.length := by rw [← hLn]; exact hle (by omega) (Nat.le_refl _)
        have hlL1 : L (i + 1) ≤ st1.h.length := by rw [← hLn]; exact hle (by omega) (Nat.le_refl _)
        have hli : (st1.h.take (L i)).length = L i := by rw [List.length_take, Nat.min_eq_left hlL]
        simp only [Option.some.injEq, Prod.mk.injEq, hli] at q1
        obtain ⟨q2, q3⟩ := q1
        have q4 : L (i + 1) = L i + 1 := by
          have := congrArg List.length q3
          rw [List.length_take, Nat.min_eq_left hlL1] at this
          simp [hli] at this
          exact this
        have hlen2 : h2'.length = st1.h.length := by rw [hh2]; simp
        have hli2 : (h2'.take (L i)).length = L i := by rw [List.length_take, Nat.min_eq_left (by omega)]
        have hgt : L ia < L i := by have := hle (show ia + 1 ≤ i by omega) (by omega); omega
        have hrowi : h2'[L i]? = some (some ⟨ci, 0, false⟩) := by
          rw [hh2, List.getElem?_set_ne (by omega)]
          have h7 : (st1.h.take (L (i + 1)))[L i]? = some (some ⟨ci, 0, false⟩) := by
            rw [q3, List.getElem?_append_right (by rw [hli]; exact Nat.le_refl _), hli, Nat.sub_self]; rfl
          rwa [take_get (by omega)] at h7
        show execO P G (f + 1) o ⟨s, h2'.take (L i)⟩ = _
        rw [hri ⟨s, h2'.take (L i)⟩, q2, q4, List.take_add_one, hrowi]
        simp only [hli2]
        rfl
    -- the beginning
    have hst0 : st.h = st1.h.take (L 0) := T.pre
    have hlen : st.h.length = L 0 := T.h0.symm
    have hL0 : L 0 ≤ st1.h.length := by rw [← hLn]; exact hle (by omega) (Nat.le_refl _)
    refine wp_region_any hm ?_
    have R' := R.drew (w.drawn + 1)
    have hlt : ∀ {r p}, ρ r = some p → r < L 0 := fun {r p} hp => by rw [← hlen]; exact R.dom r p hp
    have hcell : ∀ r x p, st1.h[r]? = some (some x) → ρ r = some p → ∀ v, v ∈ x.cells → Cl (L 0) v := by
      intro r x p hx hp v hv
      have hx' : st.h[r]? = some (some x) := by rw [hst0, take_get (hlt hp)]; exact hx
      obtain ⟨m, hm⟩ := List.getElem?_of_mem hv
      rw [← hlen]
      cases hro : x.ro with
      | false => obtain ⟨c, e, _, _, _, g4⟩ := R.own r x p hx' hp hro
                 obtain ⟨u, _, k2⟩ := g4 m v hm
                 exact k2.cl
      | true => obtain ⟨u, _, k2⟩ := R.ro r x p hx' hp hro m v hm
                exact k2.cl
    have stp : Step ρ st.h ρ st1.h := by rw [hst0]; exact step_ext hL0 fun _ _ _ _ _ hp => hp
    have I : Inv ρ { w with drawn := w.drawn + 1 } N ops n st ⟨st1.s, st1.h⟩ V L (Array.replicate ops.size false) ρ a { w with drawn := w.drawn + 1 } :=
      ⟨Rel.ext hL0 (by rw [← hst0]; exact R'), fun r x p hx hp k hk hr v hv => (hcell r x p hx hp v hv).mono (T.le (by omega) (by omega)),
       fun j o d hj hlj => (by rw [getD_replicate_false] at hlj; cases hlj), fun t v hg _ => (S t v hg).step stp, fun r p hp => .inl (hlt hp), fun _ _ _ _ => rfl, fun _ _ h => h,
       fun r x p hr hx hp => (by have := hlt hp; omega), rfl, rfl, rfl, Nat.le_refl _, fun _ _ _ => rfl, hN, hdf⟩
    have inv0 : HeadInv .any ops (n + 1) (Array.replicate ops.size false) :=
      ⟨by simp, fun j oj _ hl => (by rw [getD_replicate_false] at hl; cases hl), fun t _ ht => getD_in (by simpa using ht) (getD_replicate_false _ _)⟩
    have hunl : unl (n + 1) (Array.replicate ops.size false) = n + 1 := by
      unfold unl
      rw [List.filter_eq_self.2]
      · simp
      · intro i hi
        rw [List.mem_range] at hi
        simp [show i < ops.size by omega]
    have := head_go2 (ρ0 := ρ) (w0 := { w with drawn := w.drawn + 1 }) hF T D E (fun t v hg => by rw [← hlen]; exact (S t v hg).cl) (Q := Q) (fun a' w' b => hQ ⟨st1.s, h2'⟩ a' w' el3 (b.trans (Go1.drew ρ st.h w _))) (n + 1) _ ρ a _ st1.h hunl inv0 I (.inl ⟨getD_replicate_false _ _, rfl⟩)
    rwa [show n + 1 + (ops.size - (n + 1)) = ops.size by omega] at this
end
end Go.Pm

/- Operations that may come up in any order, where some write rows that earlier ones made: one operation more. -/
set_option linter.unusedVariables false
set_option linter.unusedSimpArgs false
namespace Go.Pm
variable {P : Program}

/-- What holds when some of the operations have come up; hh: memory as it then stands. -/
structure InvG (ρ0 : Mp) (w0 : World) (N : Nat) (ops : Array Oper) (n : Nat) (s0 : Slots) (h0 hh : Hp) (V : Nat → Value) (L : Nat → Nat) (listed : Array Bool) (ρ : Mp) (a : Act) (w : World) : Prop where
  rel : Rel ρ hh w
  clo : ∀ r x p, hh[r]? = some (some x) → ρ r = some p → ∀ k, (k = n ∨ (k < n ∧ listed.getD k false = false)) → r < L k → ∀ v, v ∈ x.cells → Cl (L k) v
  val : ∀ j o d, j < n → listed.getD j false = true → ops[j]? = some o → o.dst = some d → VR ρ hh (V j) (a.tmps.getD d undef) ∧ Cl (L (j + 1)) (V j)
  old : ∀ t v, get s0 t = some v → (∀ j o, j < n → listed.getD j false = true → ops[j]? = some o → o.dst ≠ some t) → VR ρ hh v (a.tmps.getD t undef)
  dom : ∀ r p, ρ r = some p → r < L 0 ∨ ∃ j, j < n ∧ listed.getD j false = true ∧ L j ≤ r ∧ r < L (j + 1)
  low : ∀ r, r < L 0 → hh[r]? = h0[r]?
  base : ∀ r x, r < L 0 → h0[r]? = some (some x) → ρ r = ρ0 r
  none0 : ∀ r, r < L 0 → ρ0 r = none → ρ r = none
  newb : ∀ r x p, L 0 ≤ r → hh[r]? = some (some x) → ρ r = some p → x.ro = false → w0.heap.size ≤ p.b
  os : w.os = w0.os
  tape : w.tape = w0.tape
  output : w.output = w0.output
  size : w0.heap.size ≤ w.heap.size
  blk : ∀ b, b < w0.heap.size → (∀ r x p, r < L 0 → h0[r]? = some (some x) → ρ0 r = some p → x.ro = false → p.b ≠ b) → w.heap[b]? = w0.heap[b]?
  hN : a.tmps.size = N
  hd : a.defers = []

section
variable {ρ0 : Mp} {w0 : World} {N : Nat} {ops : Array Oper} {n : Nat} {s0 : Slots} {h0 hh : Hp} {V : Nat → Value} {L : Nat → Nat} {listed : Array Bool} {ρ : Mp} {a : Act} {w : World}

theorem InvG.next (I : InvG ρ0 w0 N ops n s0 h0 hh V L listed ρ a w) (hle : ∀ {i j}, i ≤ j → j ≤ n → L i ≤ L j) (hLn : L n = hh.length)
    (hdist : ∀ i j oi oj d, i < n → j < n → i ≠ j → ops[i]? = some oi → ops[j]? = some oj → oi.dst = some d → oj.dst ≠ some d)
    {i q : Nat} {o : Oper} (hi : i < n) (hqi : q ≤ i) (ho : ops[i]? = some o) (hun : listed.getD i true = false) (hls : listed.size = ops.size)
    (hw1 : ∀ k, k < i → listed.getD k false = false → k < q)
    {Hi : Hp} (hlen : Hi.length = L (i + 1)) (hsame : ∀ r, r < L q → Hi[r]? = hh[r]?) (hnro : ∀ r x, L q ≤ r → Hi[r]? = some (some x) → x.ro = false) (hcre : ∀ r, L i ≤ r → r < L (i + 1) → hh[r]? = Hi[r]?)
    {ρ1 : Mp} {v' : Value} {w' : World} (hv : VR ρ1 Hi (V i) v') (R1 : Rel ρ1 Hi w') (G : Go1 (Pm.res ρ (L i)) (hh.take (L i)) w ρ1 Hi w') (hdst : dstOk N o.dst = true) :
    InvG ρ0 w0 N ops n s0 h0 (Hi ++ hh.drop (L (i + 1))) V L (listed.setIfInBounds i true) (fun r => if r < L (i + 1) then ρ1 r else ρ r) (a.put o.dst v') w' := by
  have hmono := hle (i := i) (j := i + 1) (by omega) (by omega)
  have hqL := hle (i := q) (j := i) hqi (by omega)
  have h0q := hle (i := 0) (j := q) (by omega) (by omega)
  have hin := hle (i := i + 1) (j := n) (by omega) (Nat.le_refl _)
  have hlen0 : (hh.take (L i)).length = L i := by simp; omega
  have hilt : i < ops.size := (Array.getElem?_eq_some_iff.1 ho).1
  have hhl : (Hi ++ hh.drop (L (i + 1))).length = hh.length := by simp; omega
  have getLo : ∀ r, r < L (i + 1) → (Hi ++ hh.drop (L (i + 1)))[r]? = Hi[r]? := fun r hr => List.getElem?_append_left (by omega)
  have getHi : ∀ r, L (i + 1) ≤ r → (Hi ++ hh.drop (L (i + 1)))[r]? = hh[r]? := fun r hr => by
    rw [List.getElem?_append_right (by omega), List.getElem?_drop, hlen]; congr 1; omega
  generalize hH : Hi ++ hh.drop (L (i + 1)) = H' at *
  -- rows that stay
  have keepρ : ∀ r x, r < L q → hh[r]? = some (some x) → ρ1 r = ρ r := by
    intro r x hr hx
    cases hp : ρ r with
    | none => exact G.keepn r (by rw [hlen0]; omega) (by simp [Pm.res, hp])
    | some p =>
      rcases G.step.live r x p (by rw [take_get (by omega)]; exact hx) (by simp [Pm.res, show r < L i by omega, hp]) with ⟨x1, _, _, _, _, h5⟩ | ⟨_, h5⟩
      · exact h5
      · have := h5 x (by rw [hsame r hr]; exact hx)
        omega
  have notin : ∀ r p, ρ r = some p → L i ≤ r → L (i + 1) ≤ r := by
    intro r p hp hr
    rcases I.dom r p hp with h1 | ⟨j, h1, h2, h3, h4⟩
    · omega
    · have hji : j ≠ i := by
        intro e
        subst e
        rw [getD_both hun] at h2
        cases h2
      rcases Nat.lt_or_ge j i with h5 | h5
      · have := hle (i := j + 1) (j := i) (by omega) (by omega); omega
      · have := hle (i := i + 1) (j := j) (by omega) (by omega); omega
  have step' : Step ρ hh (fun r => if r < L (i + 1) then ρ1 r else ρ r) H' := by
    refine ⟨fun r x p hx hp => ?_, fun b ⟨K, h1, h2, h3⟩ => ?_⟩
    · by_cases hr : r < L (i + 1)
      · have hri : r < L i := by
          rcases Nat.lt_or_ge r (L i) with h1 | h1
          · exact h1
          · have := notin r p hp h1; omega
        rcases G.step.live r x p (by rw [take_get hri]; exact hx) (by simp [Pm.res, hri, hp]) with ⟨x1, h1, h2, h3, h4, h5⟩ | ⟨h1, h5⟩
        · exact .inl ⟨x1, by rw [getLo r hr]; exact h1, h2, h3, h4, by simp [hr, h5]⟩
        · exact .inr ⟨by omega, fun x' hx' => h5 x' (by rw [← getLo r hr]; exact hx')⟩
      · exact .inl ⟨x, by rw [getHi r (by omega)]; exact hx, rfl, rfl, rfl, by simp [hr, hp]⟩
    · rcases Nat.lt_or_ge b.block (L i) with hb | hb
      · obtain ⟨K', g1, g2, g3⟩ := G.step.gone b ⟨K, h1, by rw [hlen0]; exact hb, fun x hx => h3 x (take_some hx).2⟩
        exact ⟨K', g1, by omega, fun x hx => g3 x (by rw [← getLo _ (by omega)]; exact hx)⟩
      · refine ⟨K, h1, by omega, fun x hx => h3 x ?_⟩
        rcases Nat.lt_or_ge b.block (L (i + 1)) with hb2 | hb2
        · rw [hcre _ hb hb2, ← getLo _ hb2]; exact hx
        · rw [← getHi _ hb2]; exact hx
  have step1 : Step ρ1 Hi (fun r => if r < L (i + 1) then ρ1 r else ρ r) H' := by
    refine ⟨fun r x p hx hp => ?_, fun b ⟨K, h1, h2, h3⟩ => ⟨K, h1, by omega, fun x hx => h3 x (by rw [← getLo _ (by omega)]; exact hx)⟩⟩
    have hr : r < L (i + 1) := by have := (List.getElem?_eq_some_iff.1 hx).1; omega
    exact .inl ⟨x, by rw [getLo r hr]; exact hx, rfl, rfl, rfl, by simp [hr, hp]⟩
  -- which rows are whose
  have cases' : ∀ r x p, H'[r]? = some (some x) → (if r < L (i + 1) then ρ1 r else ρ r) = some p → (r < L (i + 1) ∧ Hi[r]? = some (some x) ∧ ρ1 r = some p) ∨ (L (i + 1) ≤ r ∧ hh[r]? = some (some x) ∧ ρ r = some p) := by
    intro r x p hx hp
    by_cases hr : r < L (i + 1)
    · rw [if_pos hr] at hp; exact .inl ⟨hr, by rw [← getLo r hr]; exact hx, hp⟩
    · rw [if_neg hr] at hp; exact .inr ⟨by omega, by rw [← getHi r (by omega)]; exact hx, hp⟩
  have later : ∀ r x p, L (i + 1) ≤ r → hh[r]? = some (some x) → ρ r = some p → (x.ro = true → x.cells ≠ []) → w'.heap[p.b]? = w.heap[p.b]? ∧ p.b < w.heap.size := by
    intro r x p h1 hx hp hne
    have hlt := I.rel.lt hx hp hne
    refine ⟨G.blk p.b hlt (fun r0 x0 p0 g1 g2 g3 e => ?_), hlt⟩
    obtain ⟨k1, k2⟩ := take_some g1
    obtain ⟨_, k3⟩ := res_some g2
    exact I.rel.inj r0 r x0 x p0 p k2 hx k3 hp g3 (by omega) hne e
  have cross : ∀ r x p r' x' p', r < L (i + 1) → Hi[r]? = some (some x) → ρ1 r = some p → x.ro = false → L (i + 1) ≤ r' → hh[r']? = some (some x') → ρ r' = some p' → (x'.ro = true → x'.cells ≠ []) → p.b ≠ p'.b := by
    intro r x p r' x' p' h1 hx hp hro h1' hx' hp' hne
    have := (later r' x' p' h1' hx' hp' hne).2
    rcases G.orig r x p hx hp hro with h3 | ⟨r0, x0, p0, g1, g2, g3, g4⟩
    · omega
    · obtain ⟨k1, k2⟩ := take_some g1
      obtain ⟨_, k3⟩ := res_some g2
      rw [← g4]
      exact I.rel.inj r0 r' x0 x' p0 p' k2 hx' k3 hp' g3 (by omega) hne
  have cl1 : ∀ r x p, Hi[r]? = some (some x) → ρ1 r = some p → ∀ v, v ∈ x.cells → Cl (L (i + 1)) v := by
    intro r x p hx hp v hv
    obtain ⟨m, hm⟩ := List.getElem?_of_mem hv
    rw [← hlen]
    cases hro : x.ro with
    | false => obtain ⟨c, e, _, _, _, g4⟩ := R1.own r x p hx hp hro
               obtain ⟨u, _, k2⟩ := g4 m v hm
               exact k2.cl
    | true => obtain ⟨u, _, k2⟩ := R1.ro r x p hx hp hro m v hm
              exact k2.cl
  refine ⟨⟨fun r x p hx hp hr => ?_, fun r x p hx hp hr k v hk => ?_, fun r r' x x' p p' hx hx' hp hp' hr hne hro => ?_, fun r p hp => ?_⟩, fun r x p hx hp k hk hrk v hvm => ?_, fun j oj d hj hlj hoj hdj => ?_, fun t v hg hnone => ?_, fun r p hp => ?_, fun r hr => ?_, fun r x hr hx => ?_, fun r hr hn => ?_, fun r x p hr hx hp hro => ?_, G.os.trans I.os, G.tape.trans I.tape, G.output.trans I.output, Nat.le_trans I.size G.size, fun b hb hn => ?_, by rw [put_size]; exact I.hN, by rw [put_defers]; exact I.hd⟩
  · rcases cases' r x p hx hp with ⟨h1, h2, h3⟩ | ⟨h1, h2, h3⟩
    · obtain ⟨c, e, g1, g2, g3, g4⟩ := R1.own r x p h2 h3 hr
      exact ⟨c, e, g1, g2, g3, fun k v hk => by obtain ⟨v', k1, k2⟩ := g4 k v hk; exact ⟨v', k1, k2.step step1⟩⟩
    · obtain ⟨c, e, g1, g2, g3, g4⟩ := I.rel.own r x p h2 h3 hr
      have := (later r x p h1 h2 h3 (fun e => by rw [hr] at e; cases e)).1
      exact ⟨c, e, by rw [this]; exact g1, g2, g3, fun k v hk => by obtain ⟨v', k1, k2⟩ := g4 k v hk; exact ⟨v', k1, k2.step step'⟩⟩
  · rcases cases' r x p hx hp with ⟨h1, h2, h3⟩ | ⟨h1, h2, h3⟩
    · obtain ⟨v', k1, k2⟩ := R1.ro r x p h2 h3 hr k v hk
      exact ⟨v', k1, k2.step step1⟩
    · obtain ⟨v', k1, k2⟩ := I.rel.ro r x p h2 h3 hr k v hk
      have := (later r x p h1 h2 h3 (fun _ e => by rw [e] at hk; simp at hk)).1
      refine ⟨v', ?_, k2.step step'⟩
      rw [← k1]
      unfold World.cell?
      rw [this]
  · rcases cases' r x p hx hp with ⟨h1, h2, h3⟩ | ⟨h1, h2, h3⟩
    · rcases cases' r' x' p' hx' hp' with ⟨h1', h2', h3'⟩ | ⟨h1', h2', h3'⟩
      · exact R1.inj r r' x x' p p' h2 h2' h3 h3' hr hne hro
      · exact cross r x p r' x' p' h1 h2 h3 hr h1' h2' h3' hro
    · rcases cases' r' x' p' hx' hp' with ⟨h1', h2', h3'⟩ | ⟨h1', h2', h3'⟩
      · cases hro' : x'.ro with
        | false => exact fun e => cross r' x' p' r x p h1' h2' h3' hro' h1 h2 h3 (fun e => by rw [hr] at e; cases e) e.symm
        | true =>
          have hrq : r' < L q := by
            rcases Nat.lt_or_ge r' (L q) with h | h
            · exact h
            · rw [hnro r' x' h h2'] at hro'; cases hro'
          have hx2 : hh[r']? = some (some x') := by rw [← hsame r' hrq]; exact h2'
          exact I.rel.inj r r' x x' p p' h2 hx2 h3 (by rw [← keepρ r' x' hrq hx2]; exact h3') hr (by omega) hro
      · exact I.rel.inj r r' x x' p p' h2 h2' h3 h3' hr hne hro
  · by_cases hr : r < L (i + 1)
    · omega
    · have hp' : ρ r = some p := by
        have hp2 : (if r < L (i + 1) then ρ1 r else ρ r) = some p := hp
        rwa [if_neg hr] at hp2
      rw [hhl]
      exact I.rel.dom r p hp'
  · have hk' : k = n ∨ (k < n ∧ k ≠ i ∧ listed.getD k false = false) := by
      rcases hk with h | ⟨h1, h2⟩
      · exact .inl h
      · have hki : i ≠ k := by
          intro e
          subst e
          simp [hls, hilt] at h2
        rw [getD_set_ne false hki] at h2
        exact .inr ⟨h1, hki.symm, h2⟩
    rcases cases' r x p hx hp with ⟨h1, h2, h3⟩ | ⟨h1, h2, h3⟩
    · rcases Nat.lt_or_ge k i with h4 | h4
      · rcases hk' with h5 | ⟨h5, h6, h7⟩
        · omega
        · have h8 := hw1 k h4 h7
          have h9 := hle (i := k) (j := q) (by omega) (by omega)
          have hx2 : hh[r]? = some (some x) := by rw [← hsame r (by omega)]; exact h2
          exact I.clo r x p hx2 (by rw [← keepρ r x (by omega) hx2]; exact h3) k (.inr ⟨h5, h7⟩) hrk v hvm
      · have : i + 1 ≤ k := by rcases hk' with h5 | ⟨_, h6, _⟩ <;> omega
        exact (cl1 r x p h2 h3 v hvm).mono (hle this (by rcases hk' with h5 | ⟨h5, _⟩ <;> omega))
    · exact I.clo r x p h2 h3 k (by rcases hk' with h5 | ⟨h5, _, h6⟩; exact .inl h5; exact .inr ⟨h5, h6⟩) hrk v hvm
  · by_cases hji : j = i
    · subst hji
      rw [ho] at hoj; cases hoj
      rw [hdj] at hdst ⊢
      have hdN : d < a.tmps.size := by rw [I.hN]; simpa [dstOk] using hdst
      rw [put_same hdN]
      have := hv.cl
      rw [hlen] at this
      exact ⟨hv.step step1, this⟩
    · have hlj' : listed.getD j false = true := by
        rw [getD_set_ne false (fun e => hji e.symm)] at hlj; exact hlj
      obtain ⟨h1, h2⟩ := I.val j oj d hj hlj' hoj hdj
      rw [put_other (hdist j i oj o d hj hi hji hoj ho hdj)]
      exact ⟨h1.step step', h2⟩
  · have hne : o.dst ≠ some t := hnone i o hi (by simp [hls, hilt]) ho
    rw [put_other hne]
    exact (I.old t v hg (fun j oj hj hlj hoj => hnone j oj hj (getD_set_true hlj) hoj)).step step'
  · by_cases hr : r < L (i + 1)
    · rcases Nat.lt_or_ge r (L i) with h3 | h3
      · have hp2 : ρ1 r = some p := by
          have hp3 : (if r < L (i + 1) then ρ1 r else ρ r) = some p := hp
          rwa [if_pos hr] at hp3
        cases hρ : ρ r with
        | none =>
          have := G.keepn r (by rw [hlen0]; exact h3) (by simp [Pm.res, hρ])
          rw [this] at hp2; cases hp2
        | some p0 =>
          rcases I.dom r p0 hρ with h4 | ⟨j, h4, h5, h6⟩
          · exact .inl h4
          · exact .inr ⟨j, h4, getD_set_true h5, h6⟩
      · exact .inr ⟨i, hi, by simp [hls, hilt], h3, hr⟩
    · have hp' : ρ r = some p := by
        have hp2 : (if r < L (i + 1) then ρ1 r else ρ r) = some p := hp
        rwa [if_neg hr] at hp2
      rcases I.dom r p hp' with h4 | ⟨j, h4, h5, h6⟩
      · exact .inl h4
      · exact .inr ⟨j, h4, getD_set_true h5, h6⟩
  · rw [getLo r (by omega), hsame r (by omega)]
    exact I.low r hr
  · show (if r < L (i + 1) then ρ1 r else ρ r) = ρ0 r
    rw [if_pos (by omega), keepρ r x (by omega) (by rw [I.low r hr]; exact hx)]
    exact I.base r x hr hx
  · show (if r < L (i + 1) then ρ1 r else ρ r) = none
    rw [if_pos (by omega)]
    exact G.keepn r (by rw [hlen0]; omega) (by simp [Pm.res, I.none0 r hr hn])
  · rcases cases' r x p hx hp with ⟨h1, h2, h3⟩ | ⟨h1, h2, h3⟩
    · rcases G.orig r x p h2 h3 hro with h4 | ⟨r0, x0, p0, g1, g2, g3, g4⟩
      · exact Nat.le_trans I.size h4
      · obtain ⟨k1, k2⟩ := take_some g1
        obtain ⟨_, k3⟩ := res_some g2
        rcases Nat.lt_or_ge r0 (L 0) with h5 | h5
        · exfalso
          have hx0 : Hi[r0]? = some (some x0) := by rw [hsame r0 (by omega)]; exact k2
          exact R1.inj r r0 x x0 p p0 h2 hx0 h3 (by rw [keepρ r0 x0 (by omega) k2]; exact k3) hro (by omega) (fun e => by rw [g3] at e; cases e) g4.symm
        · rw [← g4]; exact I.newb r0 x0 p0 h5 k2 k3 g3
    · exact I.newb r x p hr h2 h3 hro
  · rw [G.blk b (Nat.lt_of_lt_of_le hb I.size) (fun r x p g1 g2 g3 e => ?_), I.blk b hb hn]
    obtain ⟨k1, k2⟩ := take_some g1
    obtain ⟨_, k3⟩ := res_some g2
    rcases Nat.lt_or_ge r (L 0) with h1 | h1
    · have hx0 : h0[r]? = some (some x) := by rw [← I.low r h1]; exact k2
      exact hn r x p h1 hx0 (by rw [← I.base r x h1 hx0]; exact k3) g3 e
    · have := I.newb r x p h1 k2 k3 g3
      omega

/-! ### memory alone -/
structure HhOk (n : Nat) (q : Nat → Nat) (free : Nat → Bool) (Hc : Nat → Hp) (listed : Array Bool) (hh : Hp) : Prop where
  len : hh.length = (Hc n).length
  at_ : ∀ m, (m = n ∨ (m < n ∧ listed.getD m false = false ∧ free m = false)) → ∀ r, r < (Hc m).length → (∀ k, k < m → listed.getD k false = false → ¬ ((Hc (q k)).length ≤ r ∧ r < (Hc k).length)) → hh[r]? = (Hc m)[r]?
  cre : ∀ k, k < n → listed.getD k false = false → ∀ r, (Hc k).length ≤ r → r < (Hc (k + 1)).length → hh[r]? = (Hc (k + 1))[r]?

variable {q : Nat → Nat} {free : Nat → Bool} {Hc : Nat → Hp}
/-- A ready operation that looks at slots finds memory as in the text's order. -/
theorem HhOk.take (H : HhOk n q free Hc listed hh) {i : Nat} (hi : i < n) (hun : listed.getD i false = false) (hf : free i = false) (w2 : ∀ k, k < i → q k < k → listed.getD k false = true) (hmono : ∀ {i j}, i ≤ j → j ≤ n → (Hc i).length ≤ (Hc j).length)
    (hq : ∀ k, k < n → q k ≤ k) : hh.take (Hc i).length = Hc i := by
  have hl := hmono (i := i) (j := n) (by omega) (Nat.le_refl _)
  apply List.ext_getElem?
  intro r
  rw [List.getElem?_take]
  split
  · rename_i hr
    refine H.at_ i (.inr ⟨hi, hun, hf⟩) r hr fun k hk hku ⟨h1, h2⟩ => ?_
    rcases Nat.lt_or_ge (q k) k with h3 | h3
    · rw [w2 k hk h3] at hku; cases hku
    · have := hmono (i := k) (j := q k) h3 (by have := hq k (by omega); omega); omega
  · rw [List.getElem?_eq_none (by omega)]

theorem HhOk.next (H : HhOk n q free Hc listed hh) {i : Nat} (hi : i < n) (hun : listed.getD i false = false) (hls : i < listed.size) (hf : free i = false) (w2 : ∀ k, k < i → q k < k → listed.getD k false = true)
    (hmono : ∀ {i j}, i ≤ j → j ≤ n → (Hc i).length ≤ (Hc j).length) (hq : ∀ k, k < n → q k ≤ k) (hsame : ∀ k, k < n → ∀ r, r < (Hc (q k)).length → (Hc (k + 1))[r]? = (Hc k)[r]?)
    (w1 : ∀ k, k < i → listed.getD k false = false → k < q i) (w1' : ∀ k, k < n → i < k → q k ≤ i → listed.getD k false = false) :
    HhOk n q free Hc (listed.setIfInBounds i true) (Hc (i + 1) ++ hh.drop (Hc (i + 1)).length) := by
  have ht := H.take hi hun hf w2 hmono hq
  have hii := hmono (i := i) (j := i + 1) (by omega) (by omega)
  have hin := hmono (i := i + 1) (j := n) (by omega) (Nat.le_refl _)
  have hqi := hmono (i := q i) (j := i) (hq i hi) (by omega)
  have getLo : ∀ r, r < (Hc (i + 1)).length → (Hc (i + 1) ++ hh.drop (Hc (i + 1)).length)[r]? = (Hc (i + 1))[r]? := fun r hr => List.getElem?_append_left hr
  have getHi : ∀ r, (Hc (i + 1)).length ≤ r → (Hc (i + 1) ++ hh.drop (Hc (i + 1)).length)[r]? = hh[r]? := fun r hr => by
    rw [List.getElem?_append_right hr, List.getElem?_drop]; congr 1; omega
  have hlow : ∀ r, r < (Hc i).length → hh[r]? = (Hc i)[r]? := fun r hr => by
    have := congrArg (fun l : Hp => l[r]?) ht
    simpa only [List.getElem?_take, if_pos hr] using this
  have unl : ∀ k, (listed.setIfInBounds i true).getD k false = false → k ≠ i ∧ listed.getD k false = false := by
    intro k hk
    have hki : i ≠ k := by
      intro e
      subst e
      simp [hls] at hk
    rw [getD_set_ne false hki] at hk
    exact ⟨hki.symm, hk⟩
  have runs : ∀ m, i + 1 ≤ m → m ≤ n → ∀ r, r < (Hc (i + 1)).length → (∀ k, k < m → (listed.setIfInBounds i true).getD k false = false → ¬ ((Hc (q k)).length ≤ r ∧ r < (Hc k).length)) → (Hc m)[r]? = (Hc (i + 1))[r]? := by
    intro m
    induction m with
    | zero => intro h; omega
    | succ m ih =>
      intro h1 h2 r hr hk
      rcases Nat.lt_or_ge i m with h3 | h3
      · rw [← ih (by omega) (by omega) r hr (fun k hk1 => hk k (by omega))]
        refine hsame m (by omega) r ?_
        rcases Nat.lt_or_ge r (Hc (q m)).length with h4 | h4
        · exact h4
        · exfalso
          have h5 := hmono (i := i + 1) (j := m) (by omega) (by omega)
          have h6 : q m ≤ i := by
            rcases Nat.lt_or_ge i (q m) with h7 | h7
            · have := hmono (i := i + 1) (j := q m) (by omega) (by have := hq m (by omega); omega); omega
            · exact h7
          have h7 := w1' m (by omega) h3 h6
          refine hk m (by omega) ?_ ⟨h4, by omega⟩
          rw [getD_set_ne false (by omega)]; exact h7
      · have : m = i := by omega
        subst this; rfl
  refine ⟨by simp; rw [H.len]; omega, fun m hm r hr hk => ?_, fun k hk hku r h1 h2 => ?_⟩
  · have hm' : m = n ∨ (m < n ∧ m ≠ i ∧ listed.getD m false = false ∧ free m = false) := by
      rcases hm with h | ⟨h1, h2, h3⟩
      · exact .inl h
      · obtain ⟨h4, h5⟩ := unl m h2
        exact .inr ⟨h1, h4, h5, h3⟩
    rcases Nat.lt_or_ge r (Hc (i + 1)).length with h1 | h1
    · rw [getLo r h1]
      rcases Nat.lt_or_ge i m with h2 | h2
      · exact (runs m h2 (by rcases hm' with h | ⟨h, _⟩ <;> omega) r h1 hk).symm
      · rcases hm' with h3 | ⟨h3, h4, h5, h6⟩
        · omega
        · have h7 := w1 m (by omega) h5
          have h8 := hmono (i := m) (j := q i) (by omega) (by have := hq i hi; omega)
          rw [hsame i hi r (by omega), ← hlow r (by omega)]
          refine H.at_ m (.inr ⟨h3, h5, h6⟩) r hr fun k hk1 hk2 => hk k hk1 ?_
          rw [getD_set_ne false (by omega)]; exact hk2
    · rw [getHi r h1]
      refine H.at_ m (by rcases hm' with h | ⟨h, _, h2, h3⟩; exact .inl h; exact .inr ⟨h, h2, h3⟩) r hr fun k hk1 hk2 => ?_
      by_cases hki : k = i
      · subst hki; omega
      · refine hk k hk1 ?_
        rw [getD_set_ne false (fun e => hki e.symm)]; exact hk2
  · obtain ⟨h3, h4⟩ := unl k hku
    rcases Nat.lt_or_ge k i with h5 | h5
    · have h6 := hmono (i := k + 1) (j := i) (by omega) (by omega)
      have h7 := w1 k h5 h4
      have h8 := hmono (i := k + 1) (j := q i) (by omega) (by have := hq i hi; omega)
      rw [getLo r (by omega), hsame i hi r (by omega), ← hlow r (by omega)]
      exact H.cre k hk h4 r h1 h2
    · have h6 := hmono (i := i + 1) (j := k) (by omega) (by omega)
      rw [getHi r (by omega)]
      exact H.cre k hk h4 r h1 h2

theorem HhOk.free_next (H : HhOk n q free Hc listed hh) {i : Nat} (hi : i < n) (hun : listed.getD i false = false) (hls : i < listed.size) (hqi : q i = i) : HhOk n q free Hc (listed.setIfInBounds i true) hh := by
  have unl : ∀ k, (listed.setIfInBounds i true).getD k false = false → k ≠ i ∧ listed.getD k false = false := by
    intro k hk
    have hki : i ≠ k := by
      intro e
      subst e
      simp [hls] at hk
    rw [getD_set_ne false hki] at hk
    exact ⟨hki.symm, hk⟩
  refine ⟨H.len, fun m hm r hr hk => ?_, fun k hk hku => H.cre k hk (unl k hku).2⟩
  refine H.at_ m (by rcases hm with h | ⟨h, h2, h3⟩; exact .inl h; exact .inr ⟨h, (unl m h2).2, h3⟩) r hr fun k hk1 hk2 => ?_
  by_cases hki : k = i
  · subst hki; rw [hqi]; omega
  · refine hk k hk1 ?_
    rw [getD_set_ne false (fun e => hki e.symm)]; exact hk2
end
end Go.Pm

/- Operations that may come up in any order, where some write rows that earlier ones made: the whole region. -/
set_option linter.unusedVariables false
set_option linter.unusedSimpArgs false
namespace Go.Pm
variable {P : Program} {G : FuncId → GI}

theorem pure_op1 {s : Slots} {h : Hp} : ∀ {op : Op}, pureB op = true → ∃ r : Option Value, ∀ h, op1 P s h op = r.map fun v => (v, h) := by
  intro op hp
  refine ⟨(op1 P s [] op).map Prod.fst, fun h => ?_⟩
  cases op <;> simp only [pureB] at hp <;> first | (cases hp; done) | skip
  all_goals simp only [op1]
  all_goals first
    | (simp [Option.map_map, Function.comp_def]; done)
    | (simp [Option.map_bind, Option.map_map, Function.comp_def]; done)
    | (repeat' split) <;> simp_all [Option.map_map, Function.comp_def]

theorem pure_builtin {h : Hp} {b : Builtin} {ts : List TypeId} {args : List Value} (hb : b = .len ∨ b = .min ∨ b = .max) : ∃ r : Option Value, ∀ h, builtinP P h b ts args = r.map fun v => (v, h) := by
  refine ⟨(builtinP P [] b ts args).map Prod.fst, fun h => ?_⟩
  rcases hb with rfl | rfl | rfl <;> unfold builtinP <;> (repeat' split) <;> simp_all [Option.map_map, Function.comp_def]

theorem pure_runs {f : Nat} {o : Oper} (hp : pureB o.op = true) {st : St} {v : Value} {h' : Hp} (hF : execO P G f o st = some (v, h')) : h' = st.h ∧ ∀ hh, execO P G f o ⟨st.s, hh⟩ = some (v, hh) := by
  cases f with
  | zero => simp [execO] at hF
  | succ f =>
    have key : ∃ r : Option Value, ∀ hh, execO P G (f + 1) o ⟨st.s, hh⟩ = r.map fun v => (v, hh) := by
      by_cases hc : ∃ c, o.op = .call c
      · obtain ⟨c, hc⟩ := hc
        rw [hc] at hp
        have hb : ∃ b, c.callee = .builtin b ∧ (b = .len ∨ b = .min ∨ b = .max) := by
          simp only [pureB] at hp
          split at hp <;> first | (rename_i h1; exact ⟨_, h1, by simp⟩) | cases hp
        obtain ⟨b, hb, hb2⟩ := hb
        simp only [execO, hc, hb]
        cases ha : evs st.s c.args.toList with
        | none => exact ⟨none, fun hh => rfl⟩
        | some args =>
          obtain ⟨r, hr⟩ := pure_builtin (P := P) (h := []) (ts := c.argTypes.toList) (args := args) hb2
          exact ⟨r, fun hh => by rw [Option.bind_some]; exact hr hh⟩
      · obtain ⟨r, hr⟩ := pure_op1 (P := P) (s := st.s) (h := []) hp
        refine ⟨r, fun hh => ?_⟩
        rw [← hr hh]
        simp only [execO]
        split
        · rename_i c hc'; exact absurd ⟨c, hc'⟩ hc
        · rfl
    obtain ⟨r, hr⟩ := key
    have h1 := hr st.h
    have h2 : execO P G (f + 1) o ⟨st.s, st.h⟩ = some (v, h') := hF
    rw [h2] at h1
    obtain ⟨u, hu, e⟩ := Option.map_eq_some_iff.1 h1.symm
    cases e
    exact ⟨rfl, fun hh => by rw [hr hh, hu]; rfl⟩

/-- A load of what was there before. -/
theorem load_low {f b : Nat} {o : Oper} {ty : TypeId} {x : Nat} (hop : o.op = .load ty (.tmp x)) {s : Slots} {h h' h2 : Hp} {v : Value} (hF : execO P G f o ⟨s, h⟩ = some (v, h')) (hc : ∀ v, get s x = some v → Cl b v) (hs : ∀ r, r < b → h2[r]? = h[r]?) : h' = h ∧ execO P G f o ⟨s, h2⟩ = some (v, h2) := by
  cases f with
  | zero => simp [execO] at hF
  | succ f =>
    simp only [execO, hop, op1, ev] at hF ⊢
    obtain ⟨pv, hpv, hF2⟩ := Option.bind_eq_some_iff.1 hF
    obtain ⟨u, hu, e⟩ := Option.map_eq_some_iff.1 hF2
    cases e
    refine ⟨rfl, ?_⟩
    rw [hpv, Option.bind_some]
    have : loadP P h2 ty pv = loadP P h ty pv := by
      have hcl := hc pv hpv
      cases hcl with
      | ptr a ha =>
        have hr : rowAt h2 a = rowAt h a := by unfold rowAt; rw [hs _ ha]
        simp only [loadP, hr]
      | _ => rfl
    rw [this, hu]; rfl
/-- A part of a slice that was there before. -/
theorem slice_low {f b : Nat} {o : Oper} {ty : TypeId} {x : Nat} {lo hi : Option Operand} (hop : o.op = .slice ty (.tmp x) lo hi none) {s : Slots} {h h' h2 : Hp} {v : Value} (hF : execO P G f o ⟨s, h⟩ = some (v, h')) (hc : ∀ v, get s x = some v → Cl b v) (hs : ∀ r, r < b → h2[r]? = h[r]?) : h' = h ∧ execO P G f o ⟨s, h2⟩ = some (v, h2) := by
  cases f with
  | zero => simp [execO] at hF
  | succ f =>
    simp only [execO, hop, op1, ev] at hF ⊢
    obtain ⟨pv, hpv, hF2⟩ := Option.bind_eq_some_iff.1 hF
    obtain ⟨l, hl, hF3⟩ := Option.bind_eq_some_iff.1 hF2
    obtain ⟨u, hu, hF4⟩ := Option.bind_eq_some_iff.1 hF3
    obtain ⟨r, hr, e⟩ := Option.map_eq_some_iff.1 hF4
    cases e
    refine ⟨rfl, ?_⟩
    rw [hpv, Option.bind_some, hl, Option.bind_some, hu, Option.bind_some]
    have : sliceP P h2 ty pv l u = sliceP P h ty pv l u := by
      have hcl := hc pv hpv
      cases hcl with
      | sl a n c ha =>
        have hr : rowAt h2 a = rowAt h a := by unfold rowAt; rw [hs _ ha]
        unfold sliceP
        cases P.underlying ty with
        | none => rfl
        | some d => cases d <;> first | rfl | simp only [hr]
      | _ => unfold sliceP; cases P.underlying ty with
        | none => rfl
        | some d => cases d <;> rfl
    rw [this, hr]; rfl
theorem move_get {f : Nat} {o : Oper} {y : Nat} (hop : o.op = .move (.tmp y)) {s : Slots} {h h' : Hp} {v : Value} (hF : execO P G f o ⟨s, h⟩ = some (v, h')) : get s y = some v := by
  cases f with
  | zero => simp [execO] at hF
  | succ f =>
    simp only [execO, hop, op1, ev] at hF
    obtain ⟨u, hu, e⟩ := Option.map_eq_some_iff.1 hF
    cases e
    exact hu
/-- A run in the text's order, from operation m on, as its steps. -/
structure TrG (F : Oper → St → Option (Value × Hp)) (N : Nat) (ops : Array Oper) (q : List (Nat × Nat)) (m : Nat) (l : List Oper) (st st1 : St) (V : Nat → Value) (Hc : Nat → Hp) (X : Nat → Slots) : Prop where
  h0 : Hc m = st.h
  x0 : X m = st.s
  hn : Hc (m + l.length) = st1.h
  xn : X (m + l.length) = st1.s
  step : ∀ i o, l[i]? = some o → dstOk N o.dst = true ∧ X (m + i + 1) = put (X (m + i)) o.dst (V (m + i)) ∧
    ((wantP ops (keep (o.looksAt ops) (X (m + i))) o = some false ∧ V (m + i) = undef ∧ Hc (m + i + 1) = Hc (m + i)) ∨
     (wantP ops (keep (o.looksAt ops) (X (m + i))) o = some true ∧ F o ⟨keep (o.looksAt ops) (X (m + i)), Hc (m + i)⟩ = some (V (m + i), Hc (m + i + 1)) ∧
       (match qAt q (m + i) with | none => newOk (Hc (m + i)) (Hc (m + i + 1)) | some j => j < m + i → modOk (Hc j).length (Hc (m + i)) (Hc (m + i + 1)))))

theorem traceG (F : Oper → St → Option (Value × Hp)) (N : Nat) (ops : Array Oper) (q : List (Nat × Nat)) (hq0 : lateQ q = none) : ∀ (l : List Oper) (Ls : List Nat) (H0 : Nat → Hp) (st st1 : St), (∀ k, k < Ls.length → (H0 k).length = Ls.getD k 0) → runG F N ops q Ls l st = some st1 →
    ∃ V Hc X, (∀ k, k < Ls.length → Hc k = H0 k) ∧ TrG F N ops q Ls.length l st st1 V Hc X
  | [], Ls, H0, st, st1, hl, e => by
    simp only [runG] at e
    split at e
    case isFalse => cases e
    cases e
    exact ⟨fun _ => undef, fun k => if k < Ls.length then H0 k else st.h, fun _ => st.s, fun k hk => by simp [hk], by simp, rfl, by simp, rfl, fun i o hi => by simp at hi⟩
  | o :: r, Ls, H0, st, st1, hl, e => by
    simp only [runG] at e
    split at e
    case isFalse => cases e
    rename_i hdst
    have build : ∀ (v : Value) (h' : Hp), runG F N ops q (Ls ++ [st.h.length]) r ⟨put st.s o.dst v, h'⟩ = some st1 →
        ((wantP ops (keep (o.looksAt ops) st.s) o = some false ∧ v = undef ∧ h' = st.h) ∨
          (wantP ops (keep (o.looksAt ops) st.s) o = some true ∧ F o ⟨keep (o.looksAt ops) st.s, st.h⟩ = some (v, h') ∧ okAt q Ls st.h h')) →
        ∃ V Hc X, (∀ k, k < Ls.length → Hc k = H0 k) ∧ TrG F N ops q Ls.length (o :: r) st st1 V Hc X := by
      intro v h' hrun hst
      obtain ⟨V, Hc, X, hold, T⟩ := traceG F N ops q hq0 r (Ls ++ [st.h.length]) (fun k => if k < Ls.length then H0 k else st.h) _ st1 (fun k hk => by
        rw [List.length_append, List.length_singleton] at hk
        by_cases h : k < Ls.length
        · simp [h, hl k h, List.getD_eq_getElem?_getD, List.getElem?_append_left h]
        · have : k = Ls.length := by omega
          subst this
          simp) hrun
      rw [List.length_append, List.length_singleton] at T
      have hold' : ∀ k, k < Ls.length → Hc k = H0 k := fun k hk => by rw [hold k (by simp; omega)]; simp [hk]
      have hat : Hc Ls.length = st.h := by rw [hold _ (by simp)]; simp
      refine ⟨fun k => if k = Ls.length then v else V k, Hc, fun k => if k = Ls.length then st.s else X k, hold', hat, by simp, ?_, ?_, fun i p hi => ?_⟩
      · rw [← T.hn]; congr 1; simp; omega
      · rw [if_neg (by simp), ← T.xn]; congr 1; simp; omega
      · cases i with
        | zero =>
          simp only [List.getElem?_cons_zero, Option.some.injEq] at hi
          subst hi
          refine ⟨hdst, ?_, ?_⟩
          · rw [if_neg (by omega), if_pos (by omega), if_pos (by omega)]; exact T.x0
          · simp only [Nat.add_zero, if_pos, T.h0, hat]
            rcases hst with h | ⟨h1, h2, h3⟩
            · exact .inl h
            · refine .inr ⟨h1, h2, ?_⟩
              unfold okAt at h3
              rw [hq0] at h3
              simp only at h3
              split at h3
              · rename_i hq; simp only [hq]; exact h3
              · rename_i j hq
                simp only [hq]
                intro hj
                rw [hold' j hj, hl j hj]; exact h3
        | succ i =>
          have := T.step i p (by simpa using hi)
          rw [if_neg (by omega), if_neg (by omega), if_neg (by omega)]
          rw [show Ls.length + (i + 1) = Ls.length + 1 + i by omega]
          exact this
    split at e
    · rename_i hw
      exact build undef st.h e (.inl ⟨hw, rfl, rfl⟩)
    · rename_i hw
      split at e
      · rename_i v h' hF
        split at e
        · rename_i hok
          exact build v h' e (.inr ⟨hw, hF, hok⟩)
        · cases e
      · cases e
    · cases e

section
variable {F : Oper → St → Option (Value × Hp)} {ρ0 : Mp} {w0 : World} {N : Nat} {ops : Array Oper} {n : Nat} {st st1 : St} {V : Nat → Value} {Hc : Nat → Hp} {X : Nat → Slots} {q : List (Nat × Nat)}

/-- What a slot holds in the text's order. -/
theorem slots_atG {l : List Oper} (T : TrG F N ops q 0 l st st1 V Hc X) :
    ∀ (i : Nat), i ≤ l.length → ∀ t v, get (X i) t = some v → (∃ j o, j < i ∧ l[j]? = some o ∧ o.dst = some t ∧ v = V j) ∨ ((∀ j o, j < i → l[j]? = some o → o.dst ≠ some t) ∧ get st.s t = some v)
  | 0, _, t, v, e => by rw [T.x0] at e; exact .inr ⟨fun j o hj => by omega, e⟩
  | i + 1, hi, t, v, e => by
    obtain ⟨o, ho⟩ : ∃ o, l[i]? = some o := ⟨l[i], List.getElem?_eq_getElem (by omega)⟩
    obtain ⟨_, h2, _⟩ := T.step i o ho
    simp only [Nat.zero_add] at h2
    rw [h2, get_put] at e
    split at e
    · rename_i hd
      cases e
      exact .inl ⟨i, o, by omega, ho, hd, rfl⟩
    · rename_i hd
      rcases slots_atG T i (by omega) t v e with ⟨j, o', h3, h4, h5, h6⟩ | ⟨h3, h4⟩
      · exact .inl ⟨j, o', by omega, h4, h5, h6⟩
      · refine .inr ⟨fun j o' hj ho' => ?_, h4⟩
        by_cases hji : j = i
        · subst hji; rw [ho] at ho'; cases ho'; exact hd
        · exact h3 j o' (by omega) ho'

theorem waitsT_spec {listed : Array Bool} (hc : ∀ j oj, ops[j]? = some oj → listed.getD j false = true → ∀ e ∈ oj.after, Region.binds .any e = true → listed.getD e.on false = true) :
    ∀ (f i k : Nat), (∀ o, ops[i]? = some o → ∀ e ∈ o.after, Region.binds .any e = true → listed.getD e.on false = true) → waitsT ops f i k = true → listed.getD k false = true
  | 0, i, k, _, h => by simp [waitsT] at h
  | f + 1, i, k, hall, h => by
    have direct : ∀ j, Region.waitsFor .any ops i j = true → listed.getD j false = true := by
      intro j hw
      obtain ⟨o', ho', e', he', hb', hon⟩ := Region.waitsFor_spec hw
      rw [← hon]; exact hall o' ho' e' he' hb'
    simp only [waitsT, Bool.or_eq_true] at h
    rcases h with h | h
    · exact direct k h
    · obtain ⟨j, _, h⟩ := List.any_eq_true.1 h
      rw [Bool.and_eq_true] at h
      exact waitsT_spec hc f j k (fun o ho e he hb => hc j o ho (direct j h.1) e he hb) h.2

structure GOk (ops : Array Oper) (n : Nat) (q : List (Nat × Nat)) : Prop where
  lt : ∀ i j, qAt q i = some j → j < i
  le : ∀ i, qOf q i ≤ i
  free : ∀ i, freeB ops i = true → qOf q i = i
  w1 : ∀ i k, qOf q i ≤ k → k < i → waitsT ops n i k = true
  w2 : ∀ i k, qOf q i < i → i < k → k < n → freeB ops k = false → waitsT ops n k i = true

theorem qAt_mem : ∀ {q : List (Nat × Nat)} {i j : Nat}, qAt q i = some j → (i, j) ∈ q
  | [], i, j, h => by simp [qAt] at h
  | (k, x) :: r, i, j, h => by
    unfold qAt at h
    split at h
    · rename_i hk; cases h; subst hk; exact List.mem_cons_self ..
    · exact List.mem_cons_of_mem _ (qAt_mem h)

theorem drawG_spec (h : drawG ops n q = true) : DrawOk ops n ∧ GOk ops n q := by
  unfold drawG at h
  rw [Bool.and_eq_true] at h
  have key : ∀ i j, qAt q i = some j → j < i ∧ freeB ops i = false ∧ (∀ k, k < i → j ≤ k → waitsT ops n i k = true) ∧ (∀ k, k < n → i < k → freeB ops k = false → waitsT ops n k i = true) := by
    intro i j hq
    have := List.all_eq_true.1 h.2 _ (qAt_mem hq)
    simp only [Bool.and_eq_true, decide_eq_true_eq, Bool.not_eq_true'] at this
    obtain ⟨⟨⟨⟨_, h1⟩, h2⟩, h3⟩, h4⟩ := this
    refine ⟨h1, h2, fun k hk hj => ?_, fun k hk hi hf => ?_⟩
    · have := List.all_eq_true.1 h3 k (List.mem_range.2 hk)
      simp only [Bool.or_eq_true, decide_eq_true_eq] at this
      rcases this with h | h
      · omega
      · exact h
    · have := List.all_eq_true.1 h4 k (List.mem_range.2 hk)
      simp only [Bool.or_eq_true, decide_eq_true_eq] at this
      rcases this with (h | h) | h
      · omega
      · rw [hf] at h; cases h
      · exact h
  refine ⟨drawOk_spec h.1, fun i j hq => (key i j hq).1, fun i => ?_, fun i hf => ?_, fun i k h1 h2 => ?_, fun i k h1 h2 h3 hf => ?_⟩
  · unfold qOf
    cases hq : qAt q i with
    | none => simp
    | some j => have := (key i j hq).1; simp; omega
  · unfold qOf
    cases hq : qAt q i with
    | none => simp
    | some j => rw [(key i j hq).2.1] at hf; cases hf
  · unfold qOf at h1
    cases hq : qAt q i with
    | none => rw [hq] at h1; simp at h1; omega
    | some j => rw [hq] at h1; simp at h1; exact (key i j hq).2.2.1 k h2 h1
  · unfold qOf at h1
    cases hq : qAt q i with
    | none => rw [hq] at h1; simp at h1
    | some j => exact (key i j hq).2.2.2 k h3 h2 hf

theorem prefix_get {h h' : Hp} (hp : h <+: h') {r : Nat} (hr : r < h.length) : h'[r]? = h[r]? := by
  obtain ⟨t, rfl⟩ := hp
  rw [List.getElem?_append_left hr]
theorem nro_of {h : Hp} {b r : Nat} {x : Row} (e : (h.drop b).all (fun | some x => !x.ro | none => true) = true) (hb : b ≤ r) (hx : h[r]? = some (some x)) : x.ro = false := by
  have := List.all_eq_true.1 e (some x) (List.mem_of_getElem? (i := r - b) (by rw [List.getElem?_drop, show b + (r - b) = r by omega]; exact hx))
  simpa using this

structure Facts (n : Nat) (q : List (Nat × Nat)) (Hc : Nat → Hp) : Prop where
  mono : ∀ i, i < n → (Hc i).length ≤ (Hc (i + 1)).length
  same : ∀ i, i < n → ∀ r, r < (Hc (qOf q i)).length → (Hc (i + 1))[r]? = (Hc i)[r]?
  nro : ∀ i, i ≤ n → ∀ r x, (Hc 0).length ≤ r → (Hc i)[r]? = some (some x) → x.ro = false
theorem mono_of {n : Nat} {Hc : Nat → Hp} (h : ∀ i, i < n → (Hc i).length ≤ (Hc (i + 1)).length) {i j : Nat} (hij : i ≤ j) (hj : j ≤ n) : (Hc i).length ≤ (Hc j).length := by
  induction j with
  | zero => have : i = 0 := by omega
            subst this; exact Nat.le_refl _
  | succ j ih =>
    by_cases h1 : i = j + 1
    · subst h1; exact Nat.le_refl _
    · exact Nat.le_trans (ih (by omega) (by omega)) (h j (by omega))

theorem low_same {n : Nat} {q : List (Nat × Nat)} {Hc : Nat → Hp} (A : Facts n q Hc) (hq : ∀ i, qOf q i ≤ i) {r : Nat} (hr : r < (Hc 0).length) : ∀ i, i ≤ n → (Hc i)[r]? = (Hc 0)[r]?
  | 0, _ => rfl
  | i + 1, hi => by
    have hq' : r < (Hc (qOf q i)).length := by
      have hqn : qOf q i ≤ n := Nat.le_trans (hq i) (by omega)
      have := mono_of A.mono (show 0 ≤ qOf q i by omega) hqn
      omega
    rw [A.same i (by omega) r hq']
    exact low_same A hq hr i (by omega)
theorem factsG {l : List Oper} (T : TrG F N ops q 0 l st st1 V Hc X) (hl : l.length = n) (g : GOk ops n q) : Facts n q Hc := by
  have key : ∀ i, i < n → Hc (i + 1) = Hc i ∨ ((Hc i).length ≤ (Hc (i + 1)).length ∧ (∀ r, r < (Hc (qOf q i)).length → r < (Hc i).length → (Hc (i + 1))[r]? = (Hc i)[r]?) ∧ ∀ r x, (Hc (qOf q i)).length ≤ r → (Hc (i + 1))[r]? = some (some x) → x.ro = false) := by
    intro i hi
    obtain ⟨_, _, h⟩ := T.step i (l[i]'(by omega)) (List.getElem?_eq_getElem _)
    simp only [Nat.zero_add] at h
    rcases h with ⟨_, _, h⟩ | ⟨_, _, h⟩
    · exact .inl h
    · refine .inr ?_
      split at h
      · rename_i hq
        have : qOf q i = i := by unfold qOf; rw [hq]; rfl
        rw [this]
        exact ⟨h.1.length_le, fun r hr _ => prefix_get h.1 hr, fun r x hr hx => nro_of h.2 hr hx⟩
      · rename_i j hq
        have : qOf q i = j := by unfold qOf; rw [hq]; rfl
        rw [this]
        have hj := h (g.lt i j hq)
        refine ⟨hj.1, fun r hr hr2 => ?_, fun r x hr hx => nro_of hj.2.2 hr hx⟩
        rw [prefix_get hj.2.1 (by rw [List.length_take]; omega), List.getElem?_take, if_pos hr]
  have hm : ∀ i, i < n → (Hc i).length ≤ (Hc (i + 1)).length := by
    intro i hi
    rcases key i hi with h | h
    · rw [h]; exact Nat.le_refl _
    · exact h.1
  refine ⟨hm, fun i hi r hr => ?_, ?_⟩
  · rcases key i hi with h | h
    · rw [h]
    · exact h.2.1 r hr (by have := mono_of hm (g.le i) (show i ≤ n by omega); omega)
  · intro i
    induction i with
    | zero => intro _ r x h1 h2; have := (List.getElem?_eq_some_iff.1 h2).1; omega
    | succ i ih =>
      intro hi r x h1 h2
      rcases key i (by omega) with h | h
      · rw [h] at h2; exact ih (by omega) r x h1 h2
      · rcases Nat.lt_or_ge r (Hc (qOf q i)).length with h3 | h3
        · rw [h.2.1 r h3 (by have := mono_of hm (g.le i) (show i ≤ n by omega); omega)] at h2
          exact ih (by omega) r x h1 h2
        · exact h.2.2 r x h3 h2
end

section
variable {f : Nat} {ρ0 : Mp} {w0 : World} {N : Nat} {ops : Array Oper} {n : Nat} {st st1 : St} {V : Nat → Value} {Hc : Nat → Hp} {X : Nat → Slots} {q : List (Nat × Nat)}

theorem headG_go (hF : OpSound P (fun o st => execO P G f o st)) (T : TrG (fun o st => execO P G f o st) N ops q 0 (ops.toList.take n) st st1 V Hc X) (D : DrawOk ops n) (g : GOk ops n q) (A : Facts n q Hc) (hcl : ∀ t v, get st.s t = some v → Cl (Hc 0).length v)
    {Q : Exit → Act → World → Prop} (hQ : ∀ a' w', Beh ρ0 st.h w0 N st1 a' w' → wpList P ops Q (ops.toList.drop n) a' w') :
    ∀ (k : Nat) (listed : Array Bool) (ρ : Mp) (a : Act) (w : World) (hh : Hp), unl n listed = k → HeadInv .any ops n listed → InvG ρ0 w0 N ops n st.s st.h hh V (fun i => (Hc i).length) listed ρ a w → HhOk n (qOf q) (freeB ops) Hc listed hh →
      wpAny P .any ops Q (k + (ops.size - n)) listed a w
  | 0, listed, ρ, a, w, hh, hk, inv, I, H => by
    have hnl : (ops.toList.take n).length = n := by have := D.hn; simp; omega
    have hl := listed_all inv D.hn hk
    have hin : ∀ j, j < n → listed.getD j false = true := by
      intro j hj
      rw [hl]
      have := D.hn
      simp [listedTo, List.getElem?_append, hj]
    have htake : ∀ j o, j < n → (ops.toList.take n)[j]? = some o → ops[j]? = some o := by
      intro j o hj ho
      rw [List.getElem?_take, if_pos hj] at ho
      simpa using ho
    have htake' : ∀ j o, j < n → ops[j]? = some o → (ops.toList.take n)[j]? = some o := by
      intro j o hj ho
      rw [List.getElem?_take, if_pos hj]
      simpa using ho
    have hHn : Hc n = st1.h := by have := T.hn; rwa [hnl, Nat.zero_add] at this
    have hh1 : hh = st1.h := by
      rw [← hHn]
      apply List.ext_getElem?
      intro r
      rcases Nat.lt_or_ge r (Hc n).length with h1 | h1
      · exact H.at_ n (.inl rfl) r h1 fun k hk hku => by rw [hin k hk] at hku; cases hku
      · rw [List.getElem?_eq_none h1, List.getElem?_eq_none (by rw [H.len]; exact h1)]
    subst hh1
    have hlen : st.h.length = (Hc 0).length := by rw [T.h0]
    have hL0 : (Hc 0).length ≤ st1.h.length := by rw [← hHn]; exact mono_of A.mono (by omega) (Nat.le_refl _)
    rw [Nat.zero_add]
    have := wpAny_of_seq (P := P) (md := .any) (ops := ops) (Q' := Q) (ops.toList.drop n) n listed a w (fun j => by simp [List.getElem?_drop]) (by rw [hl]; simpa using D.seq) (hQ a w ?_)
    · simpa using this
    · refine ⟨ρ, I.rel, fun t v e => ?_, ⟨I.os, I.tape, I.output, I.size, fun b hb hn => ?_, fun r' x' p' g1 g2 g3 => ?_, ⟨fun r x p hx hp => ?_, fun b ⟨K, h1, h2, h3⟩ => ?_⟩, by omega, fun r hr hn => I.none0 r (by simpa [hlen] using hr) hn⟩, I.hN, I.hd⟩
      · have hxn := T.xn
        rw [hnl, Nat.zero_add] at hxn
        rw [← hxn] at e
        rcases slots_atG T n (by omega) t v e with ⟨j, o, h1, h2, h3, h4⟩ | ⟨h1, h2⟩
        · subst h4
          exact (I.val j o t h1 (hin j h1) (htake j o h1 h2) h3).1
        · exact I.old t v h2 fun j o hj _ ho => h1 j o hj (htake' j o hj ho)
      · exact I.blk b hb fun r x p h1 h2 h3 h4 => hn r x p h2 h3 h4
      · rcases Nat.lt_or_ge r' (Hc 0).length with h1 | h1
        · have hx0 : st.h[r']? = some (some x') := by rw [← I.low r' h1]; exact g1
          refine .inr ⟨r', x', p', hx0, ?_, g3, rfl⟩
          rw [← I.base r' x' h1 hx0]; exact g2
        · exact .inl (I.newb r' x' p' h1 g1 g2 g3)
      · have hr : r < (Hc 0).length := by have := (List.getElem?_eq_some_iff.1 hx).1; omega
        exact .inl ⟨x, by rw [I.low r hr]; exact hx, rfl, rfl, rfl, by rw [I.base r x hr hx]; exact hp⟩
      · exact ⟨K, h1, by omega, fun x hx => h3 x (by rw [← I.low _ (by show _ < (Hc 0).length; omega)]; exact hx)⟩
  | k + 1, listed, ρ, a, w, hh, hk, inv, I, H => by
    have hn := D.hn
    have hnl : (ops.toList.take n).length = n := by simp; omega
    have hle : ∀ {i j}, i ≤ j → j ≤ n → (Hc i).length ≤ (Hc j).length := fun h1 h2 => mono_of A.mono h1 h2
    have htake : ∀ j o, j < n → (ops.toList.take n)[j]? = some o → ops[j]? = some o := by
      intro j o hj ho
      rw [List.getElem?_take, if_pos hj] at ho
      simpa using ho
    have htake' : ∀ j o, j < n → ops[j]? = some o → (ops.toList.take n)[j]? = some o := by
      intro j o hj ho
      rw [List.getElem?_take, if_pos hj]
      simpa using ho
    -- something is ready
    obtain ⟨i0, hi0, hun0⟩ : ∃ i, i < n ∧ listed.getD i true = false := by
      unfold unl at hk
      cases hf : (List.range n).filter fun i => !listed.getD i true with
      | nil => rw [hf] at hk; simp at hk
      | cons i r =>
        have : i ∈ (List.range n).filter fun i => !listed.getD i true := by rw [hf]; exact List.mem_cons_self ..
        rw [List.mem_filter, List.mem_range] at this
        exact ⟨i, this.1, by simpa using this.2⟩
    have hready : ∀ (m i : Nat), i = m → i < n → listed.getD i true = false → ∃ j, j ∈ Region.ready .any ops listed := by
      intro m
      induction m using Nat.strongRecOn with
      | _ m ih =>
        intro i him hi hun
        subst him
        by_cases hall : ∀ o, ops[i]? = some o → ∀ e ∈ o.after, Region.binds .any e = true → listed.getD e.on false = true
        · exact ⟨i, mem_ready.2 ⟨hun, ops[i], by simp [show i < ops.size by omega], hall _ (by simp [show i < ops.size by omega])⟩⟩
        · simp only [Classical.not_forall] at hall
          obtain ⟨o, ho, e, he, hb, hl⟩ := hall
          have hlt := D.back i o ho e he hb
          exact ih e.on hlt e.on rfl (by omega) (getD_in (by rw [inv.size]; omega) (by simpa using hl))
    have hsm : k + 1 + (ops.size - n) = (k + (ops.size - n)) + 1 := by omega
    rw [hsm]
    refine ⟨fun h0 => ?_, fun i hi => ?_⟩
    · obtain ⟨j, hj⟩ := hready i0 i0 rfl hi0 hun0
      rw [h0] at hj; cases hj
    · have hin : i < n := by
        rcases Nat.lt_or_ge i n with h | h
        · exact h
        · exact absurd hi (tail_waits D.sink D.chain hn inv _ i0 rfl hi0 hun0 i h)
      obtain ⟨hun, o, ho, hall⟩ := mem_ready.1 hi
      have hun' := getD_both hun
      have hls : i < listed.size := by rw [inv.size]; omega
      obtain ⟨hdst, hX, hstep⟩ := T.step i o (htake' i o hin ho)
      simp only [Nat.zero_add] at hX hstep
      have hwi : ∀ k, waitsT ops n i k = true → listed.getD k false = true := fun k h => waitsT_spec inv.closed n i k (fun o' ho' => by rw [ho] at ho'; cases ho'; exact hall) h
      have w1 : ∀ k, k < i → listed.getD k false = false → k < qOf q i := fun k hk hku => by
        rcases Nat.lt_or_ge k (qOf q i) with h | h
        · exact h
        · rw [hwi k (g.w1 i k h hk)] at hku; cases hku
      have w1' : ∀ k, k < n → i < k → qOf q k ≤ i → listed.getD k false = false := fun k hk hik hq => by
        cases hl : listed.getD k false with
        | false => rfl
        | true => rw [waitsT_spec inv.closed n k i (fun o' ho' => inv.closed k o' ho' hl) (g.w1 k i hq hik)] at hun'; cases hun'
      have Ri : Rel (Pm.res ρ (Hc i).length) (hh.take (Hc i).length) w := I.rel.res fun r x p hx hp hr v hv => I.clo r x p hx hp i (.inr ⟨hin, hun'⟩) hr v hv
      have Si : SR (Pm.res ρ (Hc i).length) (hh.take (Hc i).length) (keep (o.looksAt ops) (X i)) a.tmps := by
        intro t v e
        have htl := get_keep_mem e
        have e2 := get_keep e
        rcases slots_atG T i (by omega) t v e2 with ⟨j, oj, h1, h2, h3, h4⟩ | ⟨h1, h2⟩
        · subst h4
          have hoj := htake j oj (by omega) h2
          obtain ⟨_, hw⟩ := D.deps i o t j t hin ho htl (by omega) (by rw [hoj]; exact h3) rfl
          obtain ⟨o', ho', e', he', hb', hon⟩ := Region.waitsFor_spec hw
          rw [ho] at ho'; cases ho'
          have hlj : listed.getD j false = true := by rw [← hon]; exact hall e' he' hb'
          obtain ⟨g1, g2⟩ := I.val j oj t (by omega) hlj hoj h3
          exact g1.res (g2.mono (hle (by omega) (by omega)))
        · have := I.old t v h2 fun j oj hj hlj hoj hd => by
            obtain ⟨hji, _⟩ := D.deps i o t j t hin ho htl hj (by rw [hoj]; exact hd) rfl
            exact h1 j oj hji (htake' j oj hj hoj) hd
          exact this.res ((hcl t v h2).mono (hle (by omega) (by omega)))
      have hk' : unl n (listed.setIfInBounds i true) = k := by have := unl_set hin hun; omega
      have hLn : (Hc n).length = hh.length := H.len.symm
      unfold wpOp
      rw [ho]
      simp only
      cases hfr : freeB ops i with
      | true =>
        have hqi := g.free i hfr
        have hfr2 := hfr
        unfold freeB at hfr2
        rw [ho] at hfr2
        simp only [Bool.and_eq_true, Option.isNone_iff_eq_none] at hfr2
        have hw : ∀ s, wantP ops s o = some true := fun s => by simp [wantP, hfr2.2]
        rcases hstep with ⟨h1, _⟩ | ⟨_, hFo, _⟩
        · rw [hw] at h1; cases h1
        · have hin1 := hle (i := i + 1) (j := n) (by omega) (Nat.le_refl _)
          have hin0 := hle (i := i) (j := n) (by omega) (Nat.le_refl _)
          have hmi := hle (i := i) (j := i + 1) (by omega) (by omega)
          have hli : (hh.take (Hc i).length).length = (Hc i).length := by simp; omega
          have hFo2 : execO P G f o ⟨keep (o.looksAt ops) (X i), hh.take (Hc i).length⟩ = some (V i, hh.take (Hc (i + 1)).length) := by
            have hkind := hfr2.1
            simp only [Bool.or_eq_true] at hkind
            rcases hkind with ((hk1 | hk1) | hk1) | hk1
            · obtain ⟨ei, hei⟩ : ∃ e, o.op = .alloc e := by
                unfold isAlloc at hk1
                split at hk1
                · exact ⟨_, by assumption⟩
                · cases hk1
              obtain ⟨ci, _, hri⟩ := alloc_runs hei hFo
              have q1 := hri ⟨keep (o.looksAt ops) (X i), Hc i⟩
              rw [hFo] at q1
              simp only [Option.some.injEq, Prod.mk.injEq] at q1
              obtain ⟨q2, q3⟩ := q1
              have q4 : (Hc (i + 1)).length = (Hc i).length + 1 := by rw [q3]; simp
              have hrow : hh[(Hc i).length]? = some (some ⟨ci, 0, false⟩) := by
                rw [H.cre i hin hun' _ (Nat.le_refl _) (by omega), q3, List.getElem?_append_right (Nat.le_refl _), Nat.sub_self]; rfl
              have hHi : hh.take (Hc (i + 1)).length = hh.take (Hc i).length ++ [some ⟨ci, 0, false⟩] := by
                rw [q4, List.take_add_one, hrow]; rfl
              have hFo3 := hri ⟨keep (o.looksAt ops) (X i), hh.take (Hc i).length⟩
              simp only [hli] at hFo3
              rw [← q2, ← hHi] at hFo3
              exact hFo3
            · obtain ⟨h1, h2⟩ := pure_runs hk1 hFo
              have h1' : Hc (i + 1) = Hc i := h1
              rw [h1']
              exact h2 _
            · obtain ⟨ty, x, hop, hnd⟩ : ∃ ty x, o.op = .load ty (.tmp x) ∧ ∀ o' ∈ ops.toList, o'.dst ≠ some x := by
                unfold oldLoad at hk1
                split at hk1
                · rename_i ty x hop
                  exact ⟨ty, x, hop, fun o' ho' => by have := List.all_eq_true.1 hk1 o' ho'; simpa using this⟩
                · cases hk1
              obtain ⟨h1, h2⟩ := load_low (b := (Hc 0).length) (h2 := hh.take (Hc i).length) hop hFo (fun v hv => by
                rcases slots_atG T i (by omega) x v (get_keep hv) with ⟨j, oj, h1, h2, h3, h4⟩ | ⟨h1, h2⟩
                · exact absurd h3 (hnd oj (List.mem_of_getElem? (i := j) (by simpa using htake j oj (by omega) h2)))
                · exact hcl x v h2) (fun r hr => by
                  have h0i := hle (i := 0) (j := i) (by omega) (by omega)
                  rw [List.getElem?_take, if_pos (by omega), I.low r hr, ← T.h0]
                  exact (low_same A g.le hr i (by omega)).symm)
              have h1' : Hc (i + 1) = Hc i := h1
              rw [h1']
              exact h2
            · obtain ⟨ty, x, lo, hi, hop, hnd⟩ : ∃ ty x lo hi, o.op = .slice ty (.tmp x) lo hi none ∧ oldSlot (ops.toList.take i) x = true := by
                unfold oldSlice at hk1
                split at hk1
                · exact ⟨_, _, _, _, by assumption, hk1⟩
                · cases hk1
              obtain ⟨h1, h2⟩ := slice_low (b := (Hc 0).length) (h2 := hh.take (Hc i).length) hop hFo (fun v hv => by
                rcases slots_atG T i (by omega) x v (get_keep hv) with ⟨j, oj, h1, h2, h3, h4⟩ | ⟨h1, h2⟩
                · have hoj := htake j oj (by omega) h2
                  have hm := List.all_eq_true.1 hnd oj (List.mem_of_getElem? (i := j) (by rw [List.getElem?_take, if_pos h1]; simpa using hoj))
                  rw [h3] at hm
                  simp only [bne_self_eq_false, Bool.false_or] at hm
                  split at hm
                  · rename_i y hmv
                    rw [Bool.and_eq_true, Option.isNone_iff_eq_none] at hm
                    obtain ⟨hgd, hny⟩ := hm
                    obtain ⟨_, _, hst⟩ := T.step j oj h2
                    simp only [Nat.zero_add] at hst
                    rcases hst with ⟨hb, _⟩ | ⟨_, hFj, _⟩
                    · simp [wantP, hgd] at hb
                    · have hgy := move_get hmv hFj
                      rcases slots_atG T j (by omega) y _ (get_keep hgy) with ⟨j2, oj2, k1, k2, k3, k4⟩ | ⟨k1, k2⟩
                      · have := List.all_eq_true.1 hny oj2 (List.mem_of_getElem? (i := j2) (by rw [List.getElem?_take, if_pos (by omega)]; simpa using htake j2 oj2 (by omega) k2))
                        rw [k3] at this
                        simp at this
                      · subst h4
                        exact hcl y _ k2
                  · cases hm
                · exact hcl x v h2) (fun r hr => by
                  have h0i := hle (i := 0) (j := i) (by omega) (by omega)
                  rw [List.getElem?_take, if_pos (by omega), I.low r hr, ← T.h0]
                  exact (low_same A g.le hr i (by omega)).symm)
              have h1' : Hc (i + 1) = Hc i := h1
              rw [h1']
              exact h2
          rw [if_pos (want_ok Si (hw _))]
          refine .inl (hF o ⟨_, _⟩ (V i) _ hFo2 (Pm.res ρ (Hc i).length) a w Ri Si _ Q fun v' w' ρ' hv R' Gx => ?_)
          have I2 := I.next (fun h1 h2 => hle h1 h2) hLn D.dist hin (g.le i) ho hun inv.size w1 (Hi := hh.take (Hc (i + 1)).length) (by simp; omega) (fun r hr => by rw [List.getElem?_take, if_pos (by rw [hqi] at hr; omega)])
            (fun r x hr hx => by
              obtain ⟨h1, h2⟩ := take_some hx
              rw [hqi] at hr
              rw [H.cre i hin hun' r hr h1] at h2
              exact A.nro (i + 1) (by omega) r x (Nat.le_trans (hle (Nat.zero_le _) (by omega)) hr) h2) (fun r h1 h2 => by rw [List.getElem?_take, if_pos h2]) hv R' Gx hdst
          rw [List.take_append_drop] at I2
          exact headG_go hF T D g A hcl hQ k _ _ _ _ _ hk' (inv.set hi hin) I2 (H.free_next hin hun' hls hqi)
      | false =>
        have w2 : ∀ k, k < i → qOf q k < k → listed.getD k false = true := fun k hk hq => hwi k (g.w2 k i hq hk hin hfr)
        have ht := H.take hin hun' hfr w2 hle (fun k _ => g.le k)
        have H2 := H.next hin hun' hls hfr w2 hle (fun k _ => g.le k) A.same w1 w1'
        have same : ∀ r, r < (Hc (qOf q i)).length → (Hc (i + 1))[r]? = hh[r]? := fun r hr => by
          have h1 := hle (g.le i) (show i ≤ n by omega)
          have h2 := congrArg (fun l : Hp => l[r]?) ht
          simp only [List.getElem?_take, if_pos (show r < (Hc i).length by omega)] at h2
          rw [A.same i hin r hr, h2]
        have nro : ∀ r x, (Hc (qOf q i)).length ≤ r → (Hc (i + 1))[r]? = some (some x) → x.ro = false := fun r x hr hx => A.nro (i + 1) (by omega) r x (Nat.le_trans (hle (Nat.zero_le _) (by have := g.le i; omega)) hr) hx
        have cre : ∀ r, (Hc i).length ≤ r → r < (Hc (i + 1)).length → hh[r]? = (Hc (i + 1))[r]? := H.cre i hin hun'
        have next : ∀ {ρ1 : Mp} {v' : Value} {w' : World}, VR ρ1 (Hc (i + 1)) (V i) v' → Rel ρ1 (Hc (i + 1)) w' → Go1 (Pm.res ρ (Hc i).length) (hh.take (Hc i).length) w ρ1 (Hc (i + 1)) w' → wpAny P .any ops Q (k + (ops.size - n)) (listed.setIfInBounds i true) (a.put o.dst v') w' := fun hv R' Gx =>
          headG_go hF T D g A hcl hQ k _ _ _ _ _ hk' (inv.set hi hin) (I.next (fun h1 h2 => hle h1 h2) hLn D.dist hin (g.le i) ho hun inv.size w1 (Hi := Hc (i + 1)) rfl same nro cre hv R' Gx hdst) H2
        rcases hstep with ⟨hw, hV, hLL⟩ | ⟨hw, hFo, _⟩
        · rw [if_neg (by rw [want_ok Si hw]; simp)]
          have h1 : VR (Pm.res ρ (Hc i).length) (Hc (i + 1)) (V i) undef := by rw [hV]; exact undef_vr
          have hE : hh.take (Hc i).length = Hc (i + 1) := by rw [hLL]; exact ht
          exact next h1 (by rw [← hE]; exact Ri) (by rw [hE]; exact Go1.refl _ _ _)
        · rw [if_pos (want_ok Si hw)]
          refine .inl (hF o ⟨_, _⟩ (V i) _ hFo (Pm.res ρ (Hc i).length) a w (by rw [← ht]; simpa [ht] using Ri) (by rw [← ht]; simpa [ht] using Si) _ Q fun v' w' ρ' hv R' Gx => ?_)
          exact next hv R' (by rw [ht]; exact Gx)

def hhs (h : Hp) (Hc : Nat → Hp) : Nat → Hp
  | 0 => h
  | m + 1 => hhs h Hc m ++ (Hc (m + 1)).drop (Hc m).length
theorem hhs_spec {h : Hp} (h0 : (Hc 0) = h) (A : Facts n q Hc) : ∀ m, m ≤ n → (hhs h Hc m).length = (Hc m).length ∧ (∀ r, r < (Hc 0).length → (hhs h Hc m)[r]? = h[r]?) ∧ ∀ k, k < m → ∀ r, (Hc k).length ≤ r → r < (Hc (k + 1)).length → (hhs h Hc m)[r]? = (Hc (k + 1))[r]?
  | 0, _ => ⟨by rw [hhs, h0], fun r _ => rfl, fun k hk => by omega⟩
  | m + 1, hm => by
    obtain ⟨h1, h2, h3⟩ := hhs_spec h0 A m (by omega)
    have h4 := A.mono m (by omega)
    refine ⟨by rw [hhs, List.length_append, h1, List.length_drop]; omega, fun r hr => ?_, fun k hk r g1 g2 => ?_⟩
    · have := mono_of A.mono (show 0 ≤ m by omega) (by omega)
      rw [hhs, List.getElem?_append_left (by omega)]
      exact h2 r hr
    · rcases Nat.lt_or_ge k m with h5 | h5
      · have := mono_of A.mono (show k + 1 ≤ m by omega) (by omega)
        rw [hhs, List.getElem?_append_left (by omega)]
        exact h3 k h5 r g1 g2
      · have : k = m := by omega
        subst this
        rw [hhs, List.getElem?_append_right (by omega), List.getElem?_drop, h1]
        congr 1; omega
theorem hhs_ok {h : Hp} (h0 : (Hc 0) = h) (A : Facts n q Hc) (g : GOk ops n q) {m : Nat} : HhOk n (qOf q) (freeB ops) Hc (Array.replicate m false) (hhs h Hc n) := by
  obtain ⟨h1, h2, h3⟩ := hhs_spec h0 A n (Nat.le_refl _)
  have key : ∀ m, m ≤ n → ∀ r, r < (Hc m).length → (∀ k, k < m → ¬ ((Hc (qOf q k)).length ≤ r ∧ r < (Hc k).length)) → (hhs h Hc n)[r]? = (Hc m)[r]? := by
    intro m
    induction m with
    | zero => intro _ r hr _; rw [h2 r hr, h0]
    | succ m ih =>
      intro hm r hr hk
      rcases Nat.lt_or_ge r (Hc m).length with h4 | h4
      · have h5 : r < (Hc (qOf q m)).length := by
          have := hk m (by omega)
          omega
        rw [A.same m (by omega) r h5]
        exact ih (by omega) r h4 fun k hk1 => hk k (by omega)
      · exact h3 m (by omega) r h4 hr
  refine ⟨h1, fun m hm r hr hk => key m (by rcases hm with h | ⟨h, _⟩ <;> omega) r hr fun k hk1 => hk k hk1 (getD_replicate_false _ _), fun k hk _ => h3 k hk⟩

theorem draw_okG (hm : P.follows .mixedOrders = true) (hq0 : lateQ q = none) (hF : OpSound P (fun o st => execO P G f o st)) (hd : drawG ops n q = true) (e : runG (fun o st => execO P G f o st) N ops q [] (ops.toList.take n) st = some st1) {ρ : Mp} {a : Act} {w : World} (R : Rel ρ st.h w) (S : SR ρ st.h st.s a.tmps) (hN : a.tmps.size = N) (hdf : a.defers = [])
    {Q : Exit → Act → World → Prop} (hQ : ∀ a' w', Beh ρ st.h w N st1 a' w' → wpList P ops Q (ops.toList.drop n) a' w') {id : Nat} : (Code.region id ops true).wp P Q a w := by
  obtain ⟨D, g⟩ := drawG_spec hd
  obtain ⟨V, Hc, X, _, T⟩ := traceG _ N ops q hq0 _ [] (fun _ => []) st st1 (fun k hk => by simp at hk) e
  have hn := D.hn
  have hnl : (ops.toList.take n).length = n := by simp; omega
  have A := factsG T hnl g
  have hlen : st.h.length = (Hc 0).length := by rw [← T.h0]; rfl
  have hle : ∀ {i j}, i ≤ j → j ≤ n → (Hc i).length ≤ (Hc j).length := fun h1 h2 => mono_of A.mono h1 h2
  refine wp_region_any hm ?_
  have R' := R.drew (w.drawn + 1)
  have hlt : ∀ {r p}, ρ r = some p → r < (Hc 0).length := fun {r p} hp => by rw [← hlen]; exact R.dom r p hp
  -- memory at the beginning: all rows as they are made
  have h00 : Hc 0 = st.h := T.h0
  have H := hhs_ok (ops := ops) (m := ops.size) h00 A g
  obtain ⟨e1, e2, _⟩ := hhs_spec h00 A n (Nat.le_refl _)
  generalize hhs st.h Hc n = hh at H e1 e2
  have hL0 : (Hc 0).length ≤ hh.length := by rw [e1]; exact hle (Nat.zero_le _) (Nat.le_refl _)
  have hst : st.h = hh.take (Hc 0).length := by
    apply List.ext_getElem?
    intro r
    rw [List.getElem?_take]
    split
    · exact (e2 r (by assumption)).symm
    · rw [List.getElem?_eq_none (by omega)]
  have hcell : ∀ r x p, hh[r]? = some (some x) → ρ r = some p → ∀ v, v ∈ x.cells → Cl (Hc 0).length v := by
    intro r x p hx hp v hv
    have hx' : st.h[r]? = some (some x) := by rw [← e2 r (hlt hp)]; exact hx
    obtain ⟨m, hm⟩ := List.getElem?_of_mem hv
    rw [← hlen]
    cases hro : x.ro with
    | false => obtain ⟨c, e, _, _, _, g4⟩ := R.own r x p hx' hp hro
               obtain ⟨u, _, k2⟩ := g4 m v hm
               exact k2.cl
    | true => obtain ⟨u, _, k2⟩ := R.ro r x p hx' hp hro m v hm
              exact k2.cl
  have stp : Step ρ st.h ρ hh := by rw [hst]; exact step_ext hL0 fun _ _ _ _ _ hp => hp
  have I : InvG ρ { w with drawn := w.drawn + 1 } N ops n st.s st.h hh V (fun i => (Hc i).length) (Array.replicate ops.size false) ρ a { w with drawn := w.drawn + 1 } :=
    ⟨Rel.ext hL0 (by rw [← hst]; exact R'), fun r x p hx hp k hk hr v hv => (hcell r x p hx hp v hv).mono (hle (Nat.zero_le _) (by rcases hk with h | ⟨h, _⟩ <;> omega)),
     fun j o d hj hlj => (by rw [getD_replicate_false] at hlj; cases hlj), fun t v hg _ => (S t v hg).step stp, fun r p hp => .inl (hlt hp), e2, fun _ _ _ _ => rfl, fun _ _ h => h,
     fun r x p hr hx hp => (by have := hlt hp; have h2 : (Hc 0).length ≤ r := hr; omega), rfl, rfl, rfl, Nat.le_refl _, fun _ _ _ => rfl, hN, hdf⟩
  have inv0 : HeadInv .any ops n (Array.replicate ops.size false) :=
    ⟨by simp, fun j oj _ hl => (by rw [getD_replicate_false] at hl; cases hl), fun t _ ht => getD_in (by simpa using ht) (getD_replicate_false _ _)⟩
  have hunl : unl n (Array.replicate ops.size false) = n := by
    unfold unl
    rw [List.filter_eq_self.2]
    · simp
    · intro i hi
      rw [List.mem_range] at hi
      simp [show i < ops.size by omega]
  have := headG_go (ρ0 := ρ) (w0 := { w with drawn := w.drawn + 1 }) hF T D g A (fun t v hg => by rw [← hlen]; exact (S t v hg).cl) (Q := Q) (fun a' w' b => hQ a' w' (b.trans (Go1.drew ρ st.h w _))) n _ ρ a _ hh hunl inv0 I H
  rwa [show n + (ops.size - n) = ops.size by omega] at this
end
end Go.Pm

/- A region that draws its order, whose last operation but those in line writes; what may come up behind it does not look at memory. -/
set_option linter.unusedVariables false
set_option linter.unusedSimpArgs false
namespace Go.Pm
variable {P : Program} {G : FuncId → GI}

theorem ev_keep {K : List Nat} {s : Slots} {x : Operand} (h : ∀ t, x = .tmp t → t ∈ K) : ev (keep K s) x = ev s x := by
  cases x with
  | tmp t => simp only [ev]; exact get_keep_of (h t rfl)
  | _ => rfl
theorem evs_keep {K : List Nat} {s : Slots} : ∀ {l : List Operand}, (∀ t, .tmp t ∈ l → t ∈ K) → evs (keep K s) l = evs s l
  | [], _ => rfl
  | x :: r, h => by
    simp only [evs]
    rw [ev_keep (fun t ht => h t (by rw [ht]; exact List.mem_cons_self ..)), evs_keep (fun t ht => h t (List.mem_cons_of_mem _ ht))]

theorem late_keep {f : Nat} {ops : Array Oper} {o : Oper} {st : St} (hs : (∃ t a x, o.op = .store t a x) ∨ ∃ c b, o.op = .call c ∧ c.callee = .builtin b) : execO P G f o ⟨keep (o.looksAt ops) st.s, st.h⟩ = execO P G f o st := by
  cases f with
  | zero => simp [execO]
  | succ f =>
    rcases hs with ⟨t, a, x, hs⟩ | ⟨c, b, hs, hb⟩
    · simp only [execO, hs, op1]
      rw [ev_keep (fun t ht => by simp [Oper.looksAt, hs, Op.operands, ht]), ev_keep (fun t ht => by simp [Oper.looksAt, hs, Op.operands, ht])]
    · simp only [execO, hs, hb]
      rw [evs_keep]
      intro t ht
      have : t ∈ o.op.operands.toList.filterMap fun | .tmp t => some t | _ => none := by
        rw [List.mem_filterMap]
        exact ⟨.tmp t, by simp [hs, Op.operands, Call.operands, hb]; simpa using ht, rfl⟩
      exact List.mem_append_left _ this

/-- What holds when some of the operations have come up, the writing one among them. -/
structure Aft (ρ0 : Mp) (w0 : World) (N : Nat) (ops : Array Oper) (n : Nat) (st : St) (V : Nat → Value) (hh : Hp) (listed : Array Bool) (ρ : Mp) (a : Act) (w : World) : Prop where
  rel : Rel ρ hh w
  val : ∀ j o d, j < n → listed.getD j false = true → ops[j]? = some o → o.dst = some d → VR ρ hh (V j) (a.tmps.getD d undef)
  old : ∀ t v, get st.s t = some v → (∀ j o, j < n → listed.getD j false = true → ops[j]? = some o → o.dst ≠ some t) → VR ρ hh v (a.tmps.getD t undef)
  go : Go1 ρ0 st.h w0 ρ hh w
  hN : a.tmps.size = N
  hd : a.defers = []

section
variable {ρ0 : Mp} {w0 : World} {N : Nat} {ops : Array Oper} {n : Nat} {st : St} {V : Nat → Value} {hh hh1 : Hp} {listed : Array Bool} {ρ ρ1 : Mp} {a : Act} {w w1 : World}
theorem Aft.next (A : Aft ρ0 w0 N ops n st V hh listed ρ a w)
    (hdist : ∀ i j oi oj d, i < n → j < n → i ≠ j → ops[i]? = some oi → ops[j]? = some oj → oi.dst = some d → oj.dst ≠ some d)
    {i : Nat} {o : Oper} (hi : i < n) (ho : ops[i]? = some o) (hls : listed.size = ops.size)
    {v' : Value} (hv : VR ρ1 hh1 (V i) v') (R1 : Rel ρ1 hh1 w1) (G : Go1 ρ hh w ρ1 hh1 w1) (hdst : dstOk N o.dst = true) :
    Aft ρ0 w0 N ops n st V hh1 (listed.setIfInBounds i true) ρ1 (a.put o.dst v') w1 := by
  have hilt : i < ops.size := (Array.getElem?_eq_some_iff.1 ho).1
  refine ⟨R1, fun j oj d hj hlj hoj hdj => ?_, fun t v hg hnone => ?_, A.go.trans G, by rw [put_size]; exact A.hN, by rw [put_defers]; exact A.hd⟩
  · by_cases hji : j = i
    · subst hji
      rw [ho] at hoj; cases hoj
      rw [hdj] at hdst ⊢
      have hdN : d < a.tmps.size := by rw [A.hN]; simpa [dstOk] using hdst
      rw [put_same hdN]
      exact hv
    · have hlj' : listed.getD j false = true := by
        rw [getD_set_ne false (fun e => hji e.symm)] at hlj; exact hlj
      rw [put_other (hdist j i oj o d hj hi hji hoj ho hdj)]
      exact (A.val j oj d hj hlj' hoj hdj).step G.step
  · have hne : o.dst ≠ some t := hnone i o hi (by simp [hls, hilt]) ho
    rw [put_other hne]
    exact (A.old t v hg (fun j oj hj hlj hoj => hnone j oj hj (getD_set_true hlj) hoj)).step G.step
end

section
variable {f N : Nat} {ops : Array Oper} {n : Nat} {st st1 : St} {V : Nat → Value} {L : Nat → Nat} {X : Nat → Slots} {ρ0 : Mp} {w0 : World} {os : Oper} {vs : Value} {hh : Hp}

theorem some_ready (D : DrawOk ops (n + 1)) {listed : Array Bool} (inv : HeadInv .any ops (n + 1) listed) {k : Nat} (hk : unl (n + 1) listed = k + 1) : ∃ i0, i0 < n + 1 ∧ listed.getD i0 true = false ∧ ∃ j, j ∈ Region.ready .any ops listed := by
  have hn := D.hn
  obtain ⟨i0, hi0, hun0⟩ : ∃ i, i < n + 1 ∧ listed.getD i true = false := by
    unfold unl at hk
    cases hf : (List.range (n + 1)).filter fun i => !listed.getD i true with
    | nil => rw [hf] at hk; simp at hk
    | cons i r =>
      have : i ∈ (List.range (n + 1)).filter fun i => !listed.getD i true := by rw [hf]; exact List.mem_cons_self ..
      rw [List.mem_filter, List.mem_range] at this
      exact ⟨i, this.1, by simpa using this.2⟩
  have hready : ∀ (m i : Nat), i = m → i < n + 1 → listed.getD i true = false → ∃ j, j ∈ Region.ready .any ops listed := by
    intro m
    induction m using Nat.strongRecOn with
    | _ m ih =>
      intro i him hi hun
      subst him
      by_cases hall : ∀ o, ops[i]? = some o → ∀ e ∈ o.after, Region.binds .any e = true → listed.getD e.on false = true
      · exact ⟨i, mem_ready.2 ⟨hun, ops[i], by simp [show i < ops.size by omega], hall _ (by simp [show i < ops.size by omega])⟩⟩
      · simp only [Classical.not_forall] at hall
        obtain ⟨o, ho, e, he, hb, hl⟩ := hall
        have hlt := D.back i o ho e he hb
        exact ih e.on hlt e.on rfl (by omega) (getD_in (by rw [inv.size]; omega) (by simpa using hl))
  exact ⟨i0, hi0, hun0, hready i0 i0 rfl hi0 hun0⟩

/-- Behind the writing operation. -/
theorem late_go (hF : OpSound P (fun o st => execO P G f o st)) (T : Tr (fun o st => execO P G f o st) N ops (ops.toList.take n) st st1 V L X) (D : DrawOk ops (n + 1)) (hos : ops[n]? = some os)
    {Q : Exit → Act → World → Prop} (hQ : ∀ a' w', Beh ρ0 st.h w0 N ⟨Pm.put st1.s os.dst vs, hh⟩ a' w' → wpList P ops Q (ops.toList.drop (n + 1)) a' w') :
    ∀ (k : Nat) (listed : Array Bool) (ρ : Mp) (a : Act) (w : World), unl (n + 1) listed = k → HeadInv .any ops (n + 1) listed → listed.getD n false = true →
      (∀ j, j < n → listed.getD j false = false → pureAt ops j = true) → Aft ρ0 w0 N ops (n + 1) st (fun j => if j = n then vs else V j) hh listed ρ a w →
      wpAny P .any ops Q (k + (ops.size - (n + 1))) listed a w
  | 0, listed, ρ, a, w, hk, inv, hln, hpu, A => by
    have hn := D.hn
    have hnl : (ops.toList.take n).length = n := by simp; omega
    have hl := listed_all inv D.hn hk
    have hin : ∀ j, j < n + 1 → listed.getD j false = true := by
      intro j hj
      rw [hl]
      simp [listedTo, List.getElem?_append, hj]
    have htake : ∀ j o, j < n → (ops.toList.take n)[j]? = some o → ops[j]? = some o := by
      intro j o hj ho
      rw [List.getElem?_take, if_pos hj] at ho
      simpa using ho
    have htake' : ∀ j o, j < n → ops[j]? = some o → (ops.toList.take n)[j]? = some o := by
      intro j o hj ho
      rw [List.getElem?_take, if_pos hj]
      simpa using ho
    rw [Nat.zero_add]
    have := wpAny_of_seq (P := P) (md := .any) (ops := ops) (Q' := Q) (ops.toList.drop (n + 1)) (n + 1) listed a w (fun j => by simp [List.getElem?_drop]) (by rw [hl]; simpa using D.seq) (hQ a w ?_)
    · simpa using this
    · refine ⟨ρ, A.rel, fun t v e => ?_, A.go, A.hN, A.hd⟩
      have e' : Pm.get (Pm.put st1.s os.dst vs) t = some v := e
      rw [get_put] at e'
      split at e'
      · rename_i hd
        cases e'
        have := A.val n os t (by omega) hln hos hd
        simpa using this
      · rename_i hd
        rw [← T.xn, hnl] at e'
        rcases slots_at T n (by omega) t v e' with ⟨j, o, h1, h2, h3, h4⟩ | ⟨h1, h2⟩
        · subst h4
          have := A.val j o t (by omega) (hin j (by omega)) (htake j o h1 h2) h3
          simpa [show j ≠ n by omega] using this
        · refine A.old t v h2 fun j o hj _ ho => ?_
          by_cases hjn : j = n
          · subst hjn; rw [hos] at ho; cases ho; exact hd
          · exact h1 j o (by omega) (htake' j o (by omega) ho)
  | k + 1, listed, ρ, a, w, hk, inv, hln, hpu, A => by
    have hn := D.hn
    have hnl : (ops.toList.take n).length = n := by simp; omega
    have htake : ∀ j o, j < n → (ops.toList.take n)[j]? = some o → ops[j]? = some o := by
      intro j o hj ho
      rw [List.getElem?_take, if_pos hj] at ho
      simpa using ho
    have htake' : ∀ j o, j < n → ops[j]? = some o → (ops.toList.take n)[j]? = some o := by
      intro j o hj ho
      rw [List.getElem?_take, if_pos hj]
      simpa using ho
    obtain ⟨i0, hi0, hun0, j0, hj0⟩ := some_ready D inv hk
    have hsm : k + 1 + (ops.size - (n + 1)) = (k + (ops.size - (n + 1))) + 1 := by omega
    rw [hsm]
    refine ⟨fun h0 => (by rw [h0] at hj0; cases hj0), fun i hi => ?_⟩
    have hin : i < n + 1 := by
      rcases Nat.lt_or_ge i (n + 1) with h | h
      · exact h
      · exact absurd hi (tail_waits D.sink D.chain hn inv _ i0 rfl hi0 hun0 i h)
    obtain ⟨hun, o, ho, hall⟩ := mem_ready.1 hi
    have hne : i ≠ n := by
      intro e
      subst e
      rw [getD_both hun] at hln; cases hln
    have hin' : i < n := by omega
    obtain ⟨hdst, hX, hstep⟩ := T.step i o (htake' i o hin' ho)
    have Si : SR ρ hh (keep (o.looksAt ops) (X i)) a.tmps := by
      intro t v e
      have htl := get_keep_mem e
      have e2 := get_keep e
      rcases slots_at T i (by omega) t v e2 with ⟨j, oj, h1, h2, h3, h4⟩ | ⟨h1, h2⟩
      · subst h4
        have hoj := htake j oj (by omega) h2
        obtain ⟨_, hw⟩ := D.deps i o t j t hin ho htl (by omega) (by rw [hoj]; exact h3) rfl
        obtain ⟨o', ho', e', he', hb', hon⟩ := Region.waitsFor_spec hw
        rw [ho] at ho'; cases ho'
        have hlj : listed.getD j false = true := by rw [← hon]; exact hall e' he' hb'
        have := A.val j oj t (by omega) hlj hoj h3
        simpa [show j ≠ n by omega] using this
      · refine A.old t v h2 fun j oj hj hlj hoj hd => ?_
        obtain ⟨hji, _⟩ := D.deps i o t j t hin ho htl hj (by rw [hoj]; exact hd) rfl
        exact h1 j oj hji (htake' j oj (by omega) hoj) hd
    have hk' : unl (n + 1) (listed.setIfInBounds i true) = k := by have := unl_set hin hun; omega
    have hln' : (listed.setIfInBounds i true).getD n false = true := getD_set_true hln
    have hpu' : ∀ j, j < n → (listed.setIfInBounds i true).getD j false = false → pureAt ops j = true := fun j hj hl => by
      refine hpu j hj ?_
      cases hx : listed.getD j false with
      | false => rfl
      | true => rw [getD_set_true hx] at hl; cases hl
    unfold wpOp
    rw [ho]
    simp only
    rcases hstep with ⟨hw, hV, hLL⟩ | ⟨hw, hFo⟩
    · rw [if_neg (by rw [want_ok Si hw]; simp)]
      exact late_go hF T D hos hQ k _ _ _ _ hk' (inv.set hi hin) hln' hpu' (A.next D.dist hin ho inv.size (by simp only [if_neg hne, hV]; exact undef_vr) A.rel (Go1.refl _ _ _) hdst)
    · rw [if_pos (want_ok Si hw)]
      have hpo : pureB o.op = true := by
        have := hpu i hin' (getD_both hun)
        simpa [pureAt, ho] using this
      have hF2 : execO P G f o ⟨keep (o.looksAt ops) (X i), hh⟩ = some (V i, hh) := (pure_runs hpo hFo).2 hh
      refine .inl (hF o ⟨_, _⟩ (V i) _ hF2 ρ a w A.rel Si _ Q fun v' w' ρ' hv R' G' => ?_)
      exact late_go hF T D hos hQ k _ _ _ _ hk' (inv.set hi hin) hln' hpu' (A.next D.dist hin ho inv.size (by simp only [if_neg hne]; exact hv) R' G' hdst)

theorem late_pre (hF : OpSound P (fun o st => execO P G f o st)) (T : Tr (fun o st => execO P G f o st) N ops (ops.toList.take n) st st1 V L X) (D : DrawOk ops (n + 1)) (hos : ops[n]? = some os) (hgd : os.guard = none)
    (hwt : ∀ k, k < n → pureAt ops k = true ∨ waitsT ops n n k = true) (hfs : execO P G f os ⟨keep (os.looksAt ops) st1.s, st1.h⟩ = some (vs, hh)) (hdn : dstOk N os.dst = true) (hcl : ∀ t v, get st.s t = some v → Cl (L 0) v)
    {Q : Exit → Act → World → Prop} (hQ : ∀ a' w', Beh ρ0 st.h w0 N ⟨Pm.put st1.s os.dst vs, hh⟩ a' w' → wpList P ops Q (ops.toList.drop (n + 1)) a' w') :
    ∀ (k : Nat) (listed : Array Bool) (ρ : Mp) (a : Act) (w : World), unl (n + 1) listed = k → HeadInv .any ops (n + 1) listed → listed.getD n true = false →
      Inv ρ0 w0 N ops n st st1 V L listed ρ a w →
      wpAny P .any ops Q (k + (ops.size - (n + 1))) listed a w
  | 0, listed, ρ, a, w, hk, inv, hln, I => by
    exfalso
    have := List.eq_nil_of_length_eq_zero hk
    rw [List.filter_eq_nil_iff] at this
    have h1 := this n (List.mem_range.2 (by omega))
    rw [hln] at h1
    simp at h1
  | k + 1, listed, ρ, a, w, hk, inv, hln, I => by
    have hn := D.hn
    have hnl : (ops.toList.take n).length = n := by simp; omega
    have htake : ∀ j o, j < n → (ops.toList.take n)[j]? = some o → ops[j]? = some o := by
      intro j o hj ho
      rw [List.getElem?_take, if_pos hj] at ho
      simpa using ho
    have htake' : ∀ j o, j < n → ops[j]? = some o → (ops.toList.take n)[j]? = some o := by
      intro j o hj ho
      rw [List.getElem?_take, if_pos hj]
      simpa using ho
    have hLn : L n = st1.h.length := by have := T.hn; rwa [hnl] at this
    have hL0 : L 0 ≤ st1.h.length := by have := T.le (i := 0) (j := n) (by omega) (by omega); omega
    have hst : st.h = st1.h.take (L 0) := T.pre
    have hlen : st.h.length = L 0 := T.h0.symm
    obtain ⟨i0, hi0, hun0, j0, hj0⟩ := some_ready D inv hk
    have hsm : k + 1 + (ops.size - (n + 1)) = (k + (ops.size - (n + 1))) + 1 := by omega
    rw [hsm]
    refine ⟨fun h0 => (by rw [h0] at hj0; cases hj0), fun i hi => ?_⟩
    have hin : i < n + 1 := by
      rcases Nat.lt_or_ge i (n + 1) with h | h
      · exact h
      · exact absurd hi (tail_waits D.sink D.chain hn inv _ i0 rfl hi0 hun0 i h)
    obtain ⟨hun, o, ho, hall⟩ := mem_ready.1 hi
    have hk' : unl (n + 1) (listed.setIfInBounds i true) = k := by have := unl_set hin hun; omega
    unfold wpOp
    rw [ho]
    simp only
    by_cases hie : i = n
    · have hie' := hie.symm
      subst hie'
      have heq : os = o := by rw [ho] at hos; exact (Option.some.inj hos).symm
      subst heq
      have A0 : Aft ρ0 w0 N ops (n + 1) st (fun j => if j = n then vs else V j) st1.h listed ρ a w := by
        refine ⟨I.rel, fun j oj d hj hlj hoj hdj => ?_, fun t v hg hnone => I.old t v hg fun j oj hj => hnone j oj (by omega), ⟨I.os, I.tape, I.output, I.size, fun b hb hn => ?_, fun r' x' p' g1 g2 g3 => ?_, ?_, by omega, fun r hr hn => I.none0 r (by omega) hn⟩, I.hN, I.hd⟩
        · by_cases hjn : j = n
          · subst hjn; rw [getD_both hun] at hlj; cases hlj
          · simp only [if_neg hjn]; exact (I.val j oj d (by omega) hlj hoj hdj).1
        · refine I.blk b hb fun r x p h1 h2 h3 h4 => hn r x p ?_ h3 h4
          rw [hst, take_get h1]; exact h2
        · rcases Nat.lt_or_ge r' (L 0) with h1 | h1
          · refine .inr ⟨r', x', p', by rw [hst, take_get h1]; exact g1, ?_, g3, rfl⟩
            rw [← I.base r' x' h1 g1]; exact g2
          · exact .inl (I.newb r' x' p' h1 g1 g2 g3)
        · rw [hst]
          exact step_ext hL0 fun r x p hr hx hp => by rw [I.base r x hr hx]; exact hp
      have Si : SR ρ st1.h (keep (os.looksAt ops) st1.s) a.tmps := by
        intro t v e
        have htl := get_keep_mem e
        have e2 := get_keep e
        rw [← T.xn, hnl] at e2
        rcases slots_at T n (by omega) t v e2 with ⟨j, oj, h1, h2, h3, h4⟩ | ⟨h1, h2⟩
        · subst h4
          have hoj := htake j oj (by omega) h2
          obtain ⟨_, hw⟩ := D.deps n os t j t hin ho htl (by omega) (by rw [hoj]; exact h3) rfl
          obtain ⟨o', ho', e', he', hb', hon⟩ := Region.waitsFor_spec hw
          rw [ho] at ho'; cases ho'
          have hlj : listed.getD j false = true := by rw [← hon]; exact hall e' he' hb'
          exact (I.val j oj t (by omega) hlj hoj h3).1
        · exact I.old t v h2 fun j oj hj hlj hoj hd => h1 j oj hj (htake' j oj hj hoj) hd
      have hwant : wantP ops (keep (os.looksAt ops) st1.s) os = some true := by simp [wantP, hgd]
      rw [if_pos (want_ok Si hwant)]
      refine .inl (hF os ⟨_, _⟩ vs _ hfs ρ a w I.rel Si _ Q fun v' w' ρ' hv R' G' => ?_)
      refine late_go hF T D hos hQ k _ _ _ _ hk' (inv.set hi hin) ?_ ?_ (A0.next D.dist hin ho inv.size (by simp only [if_true]; exact hv) R' G' hdn)
      · simp [inv.size, show n < ops.size by omega]
      · intro j hj hl
        rcases hwt j hj with h1 | h1
        · exact h1
        · exfalso
          have := waitsT_spec inv.closed n n j (fun o' ho' => by rw [ho] at ho'; cases ho'; exact hall) h1
          rw [getD_set_true this] at hl; cases hl
    · have hin' : i < n := by omega
      obtain ⟨hdst, hX, hstep⟩ := T.step i o (htake' i o hin' ho)
      have hLi : L i ≤ st1.h.length := by have := T.le (i := i) (j := n) (by omega) (by omega); omega
      have Ri : Rel (Pm.res ρ (L i)) (st1.h.take (L i)) w := I.rel.res fun r x p hx hp hr v hv => I.clo r x p hx hp i (by omega) hr v hv
      have Si : SR (Pm.res ρ (L i)) (st1.h.take (L i)) (keep (o.looksAt ops) (X i)) a.tmps := by
        intro t v e
        have htl := get_keep_mem e
        have e2 := get_keep e
        rcases slots_at T i (by omega) t v e2 with ⟨j, oj, h1, h2, h3, h4⟩ | ⟨h1, h2⟩
        · subst h4
          have hoj := htake j oj (by omega) h2
          obtain ⟨_, hw⟩ := D.deps i o t j t hin ho htl (by omega) (by rw [hoj]; exact h3) rfl
          obtain ⟨o', ho', e', he', hb', hon⟩ := Region.waitsFor_spec hw
          rw [ho] at ho'; cases ho'
          have hlj : listed.getD j false = true := by rw [← hon]; exact hall e' he' hb'
          obtain ⟨g1, g2⟩ := I.val j oj t (by omega) hlj hoj h3
          exact g1.res (g2.mono (T.le (by omega) (by omega)))
        · have := I.old t v h2 fun j oj hj hlj hoj hd => by
            obtain ⟨hji, _⟩ := D.deps i o t j t hin ho htl (by omega) (by rw [hoj]; exact hd) rfl
            exact h1 j oj hji (htake' j oj hj hoj) hd
          exact this.res ((hcl t v h2).mono (T.le (by omega) (by omega)))
      have hln' : (listed.setIfInBounds i true).getD n true = false := by rw [getD_set_ne true hie]; exact hln
      have hd' : ∀ i j oi oj d, i < n → j < n → i ≠ j → ops[i]? = some oi → ops[j]? = some oj → oi.dst = some d → oj.dst ≠ some d := fun i j oi oj d h1 h2 => D.dist i j oi oj d (by omega) (by omega)
      rcases hstep with ⟨hw, hV, hLL⟩ | ⟨hw, hFo⟩
      · rw [if_neg (by rw [want_ok Si hw]; simp)]
        have h1 : VR (Pm.res ρ (L i)) (st1.h.take (L (i + 1))) (V i) undef := by rw [hV]; exact undef_vr
        exact late_pre hF T D hos hgd hwt hfs hdn hcl hQ k _ _ _ _ hk' (inv.set hi hin) hln' (Inv.next T rfl (fun i hi => T.own i (by rw [hnl]; exact hi)) hnl I hd' hin' ho hun inv.size h1 (by rw [hLL]; exact Ri) (by rw [hLL]; exact Go1.refl _ _ _) hdst)
      · rw [if_pos (want_ok Si hw)]
        refine .inl (hF o ⟨_, _⟩ (V i) _ hFo (Pm.res ρ (L i)) a w Ri Si _ Q fun v' w' ρ' hv R' G' => ?_)
        exact late_pre hF T D hos hgd hwt hfs hdn hcl hQ k _ _ _ _ hk' (inv.set hi hin) hln' (Inv.next T rfl (fun i hi => T.own i (by rw [hnl]; exact hi)) hnl I hd' hin' ho hun inv.size hv R' G' hdst)
end

section
variable {f N : Nat} {ops : Array Oper} {n : Nat} {st st1 st2 : St}
theorem draw_ok3 (hm : P.follows .mixedOrders = true) (hF : OpSound P (fun o st => execO P G f o st)) (hd : drawOk ops (n + 1) = true) (he : lateB ops n = true)
    (e : runH (fun o st => execO P G f o st) N ops (ops.toList.take n) st = some st1) (el : execL P G f N ops (ops.toList.drop n) st1 = some st2)
    {ρ : Mp} {a : Act} {w : World} (R : Rel ρ st.h w) (S : SR ρ st.h st.s a.tmps) (hN : a.tmps.size = N) (hdf : a.defers = [])
    {Q : Exit → Act → World → Prop} (hQ : ∀ st3 a' w', execL P G f N ops (ops.toList.drop (n + 1)) st3 = some st2 → Beh ρ st.h w N st3 a' w' → wpList P ops Q (ops.toList.drop (n + 1)) a' w') {id : Nat} : (Code.region id ops true).wp P Q a w := by
  have D := drawOk_spec hd
  obtain ⟨V, L, X, T⟩ := trace _ N ops _ st st1 e
  have hn := D.hn
  have hnl : (ops.toList.take n).length = n := by simp; omega
  have hle : ∀ {i j}, i ≤ j → j ≤ n → L i ≤ L j := fun h1 h2 => T.le h1 (by rw [hnl]; exact h2)
  have hLn : L n = st1.h.length := by have := T.hn; rwa [hnl] at this
  have hnlt : n < ops.size := by omega
  have hos : ops[n]? = some ops[n] := by simp [hnlt]
  generalize hosg : ops[n] = os at hos
  unfold lateB at he
  rw [hos] at he
  simp only [Bool.and_eq_true, Option.isNone_iff_eq_none] at he
  obtain ⟨⟨hng, hkind⟩, hwt⟩ := he
  have hkind' : (∃ t a x, os.op = .store t a x) ∨ ∃ c b, os.op = .call c ∧ c.callee = .builtin b := by
    split at hkind
    · rename_i t a x h; exact .inl ⟨t, a, x, h⟩
    · rename_i c h
      split at hkind
      · rename_i b hb; exact .inr ⟨c, b, h, hb⟩
      · cases hkind
    · cases hkind
  have hwt' : ∀ k, k < n → pureAt ops k = true ∨ waitsT ops n n k = true := fun k hk => by
    have := List.all_eq_true.1 hwt k (List.mem_range.2 hk)
    simpa using this
  have hdrop : ops.toList.drop n = os :: ops.toList.drop (n + 1) := by
    rw [List.drop_eq_getElem_cons (by simpa using hnlt)]
    congr 1
  rw [hdrop] at el
  cases f with
  | zero => simp [execL] at el
  | succ f =>
    rw [execL] at el
    have hwant : ∀ s, wantP ops s os = some true := fun s => by simp [wantP, hng]
    simp only [hwant] at el
    split at el
    case isFalse => cases el
    rename_i hdn
    split at el
    case h_2 => cases el
    rename_i vs h2 hso
    have el3 : execL P G (f + 1) N ops (ops.toList.drop (n + 1)) ⟨Pm.put st1.s os.dst vs, h2⟩ = some st2 := list_le (Nat.le_succ f) el
    have hso' := oper_le (Nat.le_succ f) hso
    have hfs : execO P G (f + 1) os ⟨keep (os.looksAt ops) st1.s, st1.h⟩ = some (vs, h2) := by rw [late_keep hkind']; exact hso'
    have hst0 : st.h = st1.h.take (L 0) := T.pre
    have hlen : st.h.length = L 0 := T.h0.symm
    have hL0 : L 0 ≤ st1.h.length := by rw [← hLn]; exact hle (by omega) (Nat.le_refl _)
    refine wp_region_any hm ?_
    have R' := R.drew (w.drawn + 1)
    have hlt : ∀ {r p}, ρ r = some p → r < L 0 := fun {r p} hp => by rw [← hlen]; exact R.dom r p hp
    have hcell : ∀ r x p, st1.h[r]? = some (some x) → ρ r = some p → ∀ v, v ∈ x.cells → Cl (L 0) v := by
      intro r x p hx hp v hv
      have hx' : st.h[r]? = some (some x) := by rw [hst0, take_get (hlt hp)]; exact hx
      obtain ⟨m, hm⟩ := List.getElem?_of_mem hv
      rw [← hlen]
      cases hro : x.ro with
      | false => obtain ⟨c, e, _, _, _, g4⟩ := R.own r x p hx' hp hro
                 obtain ⟨u, _, k2⟩ := g4 m v hm
                 exact k2.cl
      | true => obtain ⟨u, _, k2⟩ := R.ro r x p hx' hp hro m v hm
                exact k2.cl
    have stp : Step ρ st.h ρ st1.h := by rw [hst0]; exact step_ext hL0 fun _ _ _ _ _ hp => hp
    have I : Inv ρ { w with drawn := w.drawn + 1 } N ops n st st1 V L (Array.replicate ops.size false) ρ a { w with drawn := w.drawn + 1 } :=
      ⟨Rel.ext hL0 (by rw [← hst0]; exact R'), fun r x p hx hp k hk hr v hv => (hcell r x p hx hp v hv).mono (T.le (by omega) (by omega)),
       fun j o d hj hlj => (by rw [getD_replicate_false] at hlj; cases hlj), fun t v hg _ => (S t v hg).step stp, fun r p hp => .inl (hlt hp), fun _ _ _ _ => rfl, fun _ _ h => h,
       fun r x p hr hx hp => (by have := hlt hp; omega), rfl, rfl, rfl, Nat.le_refl _, fun _ _ _ => rfl, hN, hdf⟩
    have inv0 : HeadInv .any ops (n + 1) (Array.replicate ops.size false) :=
      ⟨by simp, fun j oj _ hl => (by rw [getD_replicate_false] at hl; cases hl), fun t _ ht => getD_in (by simpa using ht) (getD_replicate_false _ _)⟩
    have hunl : unl (n + 1) (Array.replicate ops.size false) = n + 1 := by
      unfold unl
      rw [List.filter_eq_self.2]
      · simp
      · intro i hi
        rw [List.mem_range] at hi
        simp [show i < ops.size by omega]
    have := late_pre (ρ0 := ρ) (w0 := { w with drawn := w.drawn + 1 }) hF T D hos hng hwt' hfs hdn (fun t v hg => by rw [← hlen]; exact (S t v hg).cl) (Q := Q) (fun a' w' b => hQ _ a' w' el3 (b.trans (Go1.drew ρ st.h w _))) (n + 1) _ ρ a _ hunl inv0 (getD_in (by simpa using hnlt) (getD_replicate_false _ _)) I
    rwa [show n + 1 + (ops.size - (n + 1)) = ops.size by omega] at this
end
end Go.Pm

/- A region that draws its order, one of whose operations writes; behind it memory stays as it is. (Under way: see NOTES 'late2'.) -/
set_option linter.unusedVariables false
set_option linter.unusedSimpArgs false
namespace Go.Pm
variable {P : Program} {G : FuncId → GI}
section
variable {f N : Nat} {ops : Array Oper} {n i : Nat} {st : St} {sN : Slots} {V : Nat → Value} {X : Nat → Slots} {ρ0 : Mp} {w0 : World} {hh : Hp}
/-- Slots along the text. -/
structure Along (N : Nat) (ops : Array Oper) (m : Nat) (s0 : Slots) (V : Nat → Value) (X : Nat → Slots) : Prop where
  x0 : X 0 = s0
  step : ∀ j o, j < m → ops[j]? = some o → dstOk N o.dst = true ∧ X (j + 1) = put (X j) o.dst (V j)
theorem slots_X {m : Nat} {s0 : Slots} (A : Along N ops m s0 V X) (hm : m ≤ ops.size) : ∀ (k : Nat), k ≤ m → ∀ t v, get (X k) t = some v → (∃ j o, j < k ∧ ops[j]? = some o ∧ o.dst = some t ∧ v = V j) ∨ ((∀ j o, j < k → ops[j]? = some o → o.dst ≠ some t) ∧ get s0 t = some v)
  | 0, _, t, v, e => by rw [A.x0] at e; exact .inr ⟨fun j o hj => by omega, e⟩
  | k + 1, hk, t, v, e => by
    have ho : ops[k]? = some ops[k] := by simp [show k < ops.size by omega]
    obtain ⟨_, h2⟩ := A.step k _ (by omega) ho
    rw [h2, get_put] at e
    split at e
    · rename_i hd
      cases e
      exact .inl ⟨k, _, by omega, ho, hd, rfl⟩
    · rename_i hd
      rcases slots_X A hm k (by omega) t v e with ⟨j, o', h3, h4, h5, h6⟩ | ⟨h3, h4⟩
      · exact .inl ⟨j, o', by omega, h4, h5, h6⟩
      · refine .inr ⟨fun j o' hj ho' => ?_, h4⟩
        by_cases hji : j = k
        · subst hji; rw [ho] at ho'; cases ho'; exact hd
        · exact h3 j o' (by omega) ho'
/-- Behind the writing operation. -/
theorem late2_go (hF : OpSound P (fun o st => execO P G f o st)) (A : Along N ops (n + 1) st.s V X) (hXn : X (n + 1) = sN) (D : DrawOk ops (n + 1))
    {Q : Exit → Act → World → Prop} (hQ : ∀ a' w', Beh ρ0 st.h w0 N ⟨sN, hh⟩ a' w' → wpList P ops Q (ops.toList.drop (n + 1)) a' w') :
    ∀ (k : Nat) (listed : Array Bool) (ρ : Mp) (a : Act) (w : World), unl (n + 1) listed = k → HeadInv .any ops (n + 1) listed →
      (∀ j o, j < n + 1 → listed.getD j false = false → ops[j]? = some o → (wantP ops (keep (o.looksAt ops) (X j)) o = some false ∧ V j = undef) ∨ (wantP ops (keep (o.looksAt ops) (X j)) o = some true ∧ execO P G f o ⟨keep (o.looksAt ops) (X j), hh⟩ = some (V j, hh))) →
      Aft ρ0 w0 N ops (n + 1) st V hh listed ρ a w → wpAny P .any ops Q (k + (ops.size - (n + 1))) listed a w
  | 0, listed, ρ, a, w, hk, inv, hpu, B => by
    have hn := D.hn
    have hl := listed_all inv D.hn hk
    have hin : ∀ j, j < n + 1 → listed.getD j false = true := by
      intro j hj
      rw [hl]
      simp [listedTo, List.getElem?_append, hj]
    rw [Nat.zero_add]
    have := wpAny_of_seq (P := P) (md := .any) (ops := ops) (Q' := Q) (ops.toList.drop (n + 1)) (n + 1) listed a w (fun j => by simp [List.getElem?_drop]) (by rw [hl]; simpa using D.seq) (hQ a w ?_)
    · simpa using this
    · refine ⟨ρ, B.rel, fun t v e => ?_, B.go, B.hN, B.hd⟩
      have e' : Pm.get sN t = some v := e
      rw [← hXn] at e'
      rcases slots_X A (Nat.le_of_lt hn) (n + 1) (Nat.le_refl _) t v e' with ⟨j, o, h1, h2, h3, h4⟩ | ⟨h1, h2⟩
      · subst h4
        exact B.val j o t h1 (hin j h1) h2 h3
      · exact B.old t v h2 fun j o hj _ ho => h1 j o hj ho
  | k + 1, listed, ρ, a, w, hk, inv, hpu, B => by
    have hn := D.hn
    obtain ⟨i0, hi0, hun0, j0, hj0⟩ := some_ready D inv hk
    have hsm : k + 1 + (ops.size - (n + 1)) = (k + (ops.size - (n + 1))) + 1 := by omega
    rw [hsm]
    refine ⟨fun h0 => (by rw [h0] at hj0; cases hj0), fun i hi => ?_⟩
    have hin : i < n + 1 := by
      rcases Nat.lt_or_ge i (n + 1) with h | h
      · exact h
      · exact absurd hi (tail_waits D.sink D.chain hn inv _ i0 rfl hi0 hun0 i h)
    obtain ⟨hun, o, ho, hall⟩ := mem_ready.1 hi
    obtain ⟨hdst, hX⟩ := A.step i o hin ho
    have hstep := hpu i o hin (getD_both hun) ho
    have Si : SR ρ hh (keep (o.looksAt ops) (X i)) a.tmps := by
      intro t v e
      have htl := get_keep_mem e
      have e2 := get_keep e
      rcases slots_X A (Nat.le_of_lt hn) i (by omega) t v e2 with ⟨j, oj, h1, hoj, h3, h4⟩ | ⟨h1, h2⟩
      · subst h4
        obtain ⟨_, hw⟩ := D.deps i o t j t hin ho htl (by omega) (by rw [hoj]; exact h3) rfl
        obtain ⟨o', ho', e', he', hb', hon⟩ := Region.waitsFor_spec hw
        rw [ho] at ho'; cases ho'
        have hlj : listed.getD j false = true := by rw [← hon]; exact hall e' he' hb'
        exact B.val j oj t (by omega) hlj hoj h3
      · refine B.old t v h2 fun j oj hj hlj hoj hd => ?_
        obtain ⟨hji, _⟩ := D.deps i o t j t hin ho htl hj (by rw [hoj]; exact hd) rfl
        exact h1 j oj hji hoj hd
    have hk' : unl (n + 1) (listed.setIfInBounds i true) = k := by have := unl_set hin hun; omega
    have hpu' := fun j oj (hj : j < n + 1) (hl : (listed.setIfInBounds i true).getD j false = false) (hoj : ops[j]? = some oj) => hpu j oj hj (by
      cases hx : listed.getD j false with
      | false => rfl
      | true => rw [getD_set_true hx] at hl; cases hl) hoj
    unfold wpOp
    rw [ho]
    simp only
    rcases hstep with ⟨hw, hV⟩ | ⟨hw, hF2⟩
    · rw [if_neg (by rw [want_ok Si hw]; simp)]
      exact late2_go hF A hXn D hQ k _ _ _ _ hk' (inv.set hi hin) hpu' (B.next D.dist hin ho inv.size (by rw [hV]; exact undef_vr) B.rel (Go1.refl _ _ _) hdst)
    · rw [if_pos (want_ok Si hw)]
      refine .inl (hF o ⟨_, _⟩ (V i) _ hF2 ρ a w B.rel Si _ Q fun v' w' ρ' hv R' G' => ?_)
      exact late2_go hF A hXn D hQ k _ _ _ _ hk' (inv.set hi hin) hpu' (B.next D.dist hin ho inv.size hv R' G' hdst)
theorem late2_pre {m : Nat} {V1 : Nat → Value} {X1 : Nat → Slots} {st1 : St} {L : Nat → Nat} {os : Oper} {vs : Value} (hnm : n < m + 1) (hF : OpSound P (fun o st => execO P G f o st)) (T : Tr (fun o st => execO P G f o st) N ops (ops.toList.take n) st st1 V1 L X1) (A : Along N ops (m + 1) st.s V X) (hXn : X (m + 1) = sN) (hVV : ∀ j, j < n → V j = V1 j) (hVi : V n = vs) (D : DrawOk ops (m + 1)) (hos : ops[n]? = some os) (hgd : os.guard = none)
    (hrest : ∀ j o, j < m + 1 → j ≠ n → waitsT ops (m + 1) n j = false → ops[j]? = some o → (wantP ops (keep (o.looksAt ops) (X j)) o = some false ∧ V j = undef) ∨ (wantP ops (keep (o.looksAt ops) (X j)) o = some true ∧ execO P G f o ⟨keep (o.looksAt ops) (X j), hh⟩ = some (V j, hh))) (hafter : ∀ j, n < j → j < m + 1 → waitsT ops (m + 1) j n = true)
    (hfs : execO P G f os ⟨keep (os.looksAt ops) st1.s, st1.h⟩ = some (vs, hh)) (hdn : dstOk N os.dst = true) (hcl : ∀ t v, get st.s t = some v → Cl (L 0) v)
    {Q : Exit → Act → World → Prop} (hQ : ∀ a' w', Beh ρ0 st.h w0 N ⟨sN, hh⟩ a' w' → wpList P ops Q (ops.toList.drop (m + 1)) a' w') :
    ∀ (k : Nat) (listed : Array Bool) (ρ : Mp) (a : Act) (w : World), unl (m + 1) listed = k → HeadInv .any ops (m + 1) listed → listed.getD n true = false →
      Inv ρ0 w0 N ops n st st1 V1 L listed ρ a w →
      wpAny P .any ops Q (k + (ops.size - (m + 1))) listed a w
  | 0, listed, ρ, a, w, hk, inv, hln, I => by
    exfalso
    have := List.eq_nil_of_length_eq_zero hk
    rw [List.filter_eq_nil_iff] at this
    have h1 := this n (List.mem_range.2 (by omega))
    rw [hln] at h1
    simp at h1
  | k + 1, listed, ρ, a, w, hk, inv, hln, I => by
    have hnM := D.hn
    have hn : n < ops.size := by omega
    have hnl : (ops.toList.take n).length = n := by simp; omega
    have htake : ∀ j o, j < n → (ops.toList.take n)[j]? = some o → ops[j]? = some o := by
      intro j o hj ho
      rw [List.getElem?_take, if_pos hj] at ho
      simpa using ho
    have htake' : ∀ j o, j < n → ops[j]? = some o → (ops.toList.take n)[j]? = some o := by
      intro j o hj ho
      rw [List.getElem?_take, if_pos hj]
      simpa using ho
    have hLn : L n = st1.h.length := by have := T.hn; rwa [hnl] at this
    have hL0 : L 0 ≤ st1.h.length := by have := T.le (i := 0) (j := n) (by omega) (by omega); omega
    have hst : st.h = st1.h.take (L 0) := T.pre
    have hlen : st.h.length = L 0 := T.h0.symm
    obtain ⟨i0, hi0, hun0, j0, hj0⟩ := some_ready D inv hk
    have hsm : k + 1 + (ops.size - (m + 1)) = (k + (ops.size - (m + 1))) + 1 := by omega
    rw [hsm]
    refine ⟨fun h0 => (by rw [h0] at hj0; cases hj0), fun i hi => ?_⟩
    have hin : i < m + 1 := by
      rcases Nat.lt_or_ge i (m + 1) with h | h
      · exact h
      · exact absurd hi (tail_waits D.sink D.chain hnM inv _ i0 rfl hi0 hun0 i h)
    obtain ⟨hun, o, ho, hall⟩ := mem_ready.1 hi
    have hk' : unl (m + 1) (listed.setIfInBounds i true) = k := by have := unl_set hin hun; omega
    have hlate : ∀ j, n < j → j < m + 1 → listed.getD j false = true → False := fun j h1 h2 h3 => by
      have hjs : ops[j]? = some ops[j] := by simp [show j < ops.size by omega]
      have := waitsT_spec inv.closed (m + 1) j n (fun o' ho' => by rw [hjs] at ho'; cases ho'; exact inv.closed j _ hjs h3) (hafter j h1 h2)
      rw [getD_both hln] at this; cases this
    unfold wpOp
    rw [ho]
    simp only
    by_cases hie : i = n
    · have hie' := hie.symm
      subst hie'
      have heq : os = o := by rw [ho] at hos; exact (Option.some.inj hos).symm
      subst heq
      have A0 : Aft ρ0 w0 N ops (m + 1) st V st1.h listed ρ a w := by
        refine ⟨I.rel, fun j oj d hj hlj hoj hdj => ?_, fun t v hg hnone => I.old t v hg fun j oj hj => hnone j oj (by omega), ⟨I.os, I.tape, I.output, I.size, fun b hb hn => ?_, fun r' x' p' g1 g2 g3 => ?_, ?_, by omega, fun r hr hn => I.none0 r (by omega) hn⟩, I.hN, I.hd⟩
        · rcases Nat.lt_trichotomy j n with hjn | hjn | hjn
          · rw [hVV j hjn]; exact (I.val j oj d hjn hlj hoj hdj).1
          · subst hjn; rw [getD_both hun] at hlj; cases hlj
          · exact absurd hlj fun g => hlate j hjn hj g
        · refine I.blk b hb fun r x p h1 h2 h3 h4 => hn r x p ?_ h3 h4
          rw [hst, take_get h1]; exact h2
        · rcases Nat.lt_or_ge r' (L 0) with h1 | h1
          · refine .inr ⟨r', x', p', by rw [hst, take_get h1]; exact g1, ?_, g3, rfl⟩
            rw [← I.base r' x' h1 g1]; exact g2
          · exact .inl (I.newb r' x' p' h1 g1 g2 g3)
        · rw [hst]
          exact step_ext hL0 fun r x p hr hx hp => by rw [I.base r x hr hx]; exact hp
      have Si : SR ρ st1.h (keep (os.looksAt ops) st1.s) a.tmps := by
        intro t v e
        have htl := get_keep_mem e
        have e2 := get_keep e
        rw [← T.xn, hnl] at e2
        rcases slots_at T n (by omega) t v e2 with ⟨j, oj, h1, h2, h3, h4⟩ | ⟨h1, h2⟩
        · subst h4
          have hoj := htake j oj (by omega) h2
          obtain ⟨_, hw⟩ := D.deps n os t j t hin ho htl (by omega) (by rw [hoj]; exact h3) rfl
          obtain ⟨o', ho', e', he', hb', hon⟩ := Region.waitsFor_spec hw
          rw [ho] at ho'; cases ho'
          have hlj : listed.getD j false = true := by rw [← hon]; exact hall e' he' hb'
          exact (I.val j oj t (by omega) hlj hoj h3).1
        · exact I.old t v h2 fun j oj hj hlj hoj hd => h1 j oj hj (htake' j oj hj hoj) hd
      have hwant : wantP ops (keep (os.looksAt ops) st1.s) os = some true := by simp [wantP, hgd]
      rw [if_pos (want_ok Si hwant)]
      refine .inl (hF os ⟨_, _⟩ vs _ hfs ρ a w I.rel Si _ Q fun v' w' ρ' hv R' G' => ?_)
      refine late2_go hF A hXn D hQ k _ _ _ _ hk' (inv.set hi hin) (fun j oj hj hl hoj => ?_) (A0.next D.dist hin ho inv.size (by rw [hVi]; exact hv) R' G' hdn)
      have hjn : j ≠ n := fun e => by
        subst e
        simp [inv.size, show j < ops.size by omega] at hl
      refine hrest j oj hj hjn ?_ hoj
      cases hw : waitsT ops (m + 1) n j
      · rfl
      · exfalso
        have := waitsT_spec inv.closed (m + 1) n j (fun o' ho' => by rw [ho] at ho'; cases ho'; exact hall) hw
        rw [getD_set_true this] at hl; cases hl
    · have hin' : i < n := by
        rcases Nat.lt_or_ge i n with g | g
        · exact g
        · exfalso
          have := waitsT_spec inv.closed (m + 1) i n (fun o' ho' => by rw [ho] at ho'; cases ho'; exact hall) (hafter i (by omega) hin)
          rw [getD_both hln] at this; cases this
      obtain ⟨hdst, hX, hstep⟩ := T.step i o (htake' i o hin' ho)
      have hLi : L i ≤ st1.h.length := by have := T.le (i := i) (j := n) (by omega) (by omega); omega
      have Ri : Rel (Pm.res ρ (L i)) (st1.h.take (L i)) w := I.rel.res fun r x p hx hp hr v hv => I.clo r x p hx hp i (by omega) hr v hv
      have Si : SR (Pm.res ρ (L i)) (st1.h.take (L i)) (keep (o.looksAt ops) (X1 i)) a.tmps := by
        intro t v e
        have htl := get_keep_mem e
        have e2 := get_keep e
        rcases slots_at T i (by omega) t v e2 with ⟨j, oj, h1, h2, h3, h4⟩ | ⟨h1, h2⟩
        · subst h4
          have hoj := htake j oj (by omega) h2
          obtain ⟨_, hw⟩ := D.deps i o t j t hin ho htl (by omega) (by rw [hoj]; exact h3) rfl
          obtain ⟨o', ho', e', he', hb', hon⟩ := Region.waitsFor_spec hw
          rw [ho] at ho'; cases ho'
          have hlj : listed.getD j false = true := by rw [← hon]; exact hall e' he' hb'
          obtain ⟨g1, g2⟩ := I.val j oj t (by omega) hlj hoj h3
          exact g1.res (g2.mono (T.le (by omega) (by omega)))
        · have := I.old t v h2 fun j oj hj hlj hoj hd => by
            obtain ⟨hji, _⟩ := D.deps i o t j t hin ho htl (by omega) (by rw [hoj]; exact hd) rfl
            exact h1 j oj hji (htake' j oj hj hoj) hd
          exact this.res ((hcl t v h2).mono (T.le (by omega) (by omega)))
      have hln' : (listed.setIfInBounds i true).getD n true = false := by rw [getD_set_ne true hie]; exact hln
      have hd' : ∀ i j oi oj d, i < n → j < n → i ≠ j → ops[i]? = some oi → ops[j]? = some oj → oi.dst = some d → oj.dst ≠ some d := fun i j oi oj d h1 h2 => D.dist i j oi oj d (by omega) (by omega)
      rcases hstep with ⟨hw, hV, hLL⟩ | ⟨hw, hFo⟩
      · rw [if_neg (by rw [want_ok Si hw]; simp)]
        have h1 : VR (Pm.res ρ (L i)) (st1.h.take (L (i + 1))) (V1 i) undef := by rw [hV]; exact undef_vr
        exact late2_pre hnm hF T A hXn hVV hVi D hos hgd hrest hafter hfs hdn hcl hQ k _ _ _ _ hk' (inv.set hi hin) hln' (Inv.next T rfl (fun i hi => T.own i (by rw [hnl]; exact hi)) hnl I hd' hin' ho hun inv.size h1 (by rw [hLL]; exact Ri) (by rw [hLL]; exact Go1.refl _ _ _) hdst)
      · rw [if_pos (want_ok Si hw)]
        refine .inl (hF o ⟨_, _⟩ (V1 i) _ hFo (Pm.res ρ (L i)) a w Ri Si _ Q fun v' w' ρ' hv R' G' => ?_)
        exact late2_pre hnm hF T A hXn hVV hVi D hos hgd hrest hafter hfs hdn hcl hQ k _ _ _ _ hk' (inv.set hi hin) hln' (Inv.next T rfl (fun i hi => T.own i (by rw [hnl]; exact hi)) hnl I hd' hin' ho hun inv.size hv R' G' hdst)
end
end Go.Pm
