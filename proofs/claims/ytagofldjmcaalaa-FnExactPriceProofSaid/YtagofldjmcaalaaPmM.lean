/- Operations that may come up in any order: the whole region. -/
import Derived.Test.YtagofldjmcaalaaPmL
set_option linter.unusedVariables false
set_option linter.unusedSimpArgs false
namespace Go.Pm
variable {P : Program}

def exM : Ex → Exit → Prop
  | .normal, .normal => True
  | .exit i, .exit j => i = j
  | .ret, .ret => True
  | _, _ => False

/-- What holds behind a piece of code. -/
def Beh (ρ : Mp) (h : Hp) (w : World) (N : Nat) (st : St) (a : Act) (w' : World) : Prop :=
  ∃ ρ', Rel ρ' st.h w' ∧ SR ρ' st.h st.s a.tmps ∧ Go1 ρ h w ρ' st.h w' ∧ a.tmps.size = N ∧ a.defers = []
def Post (ρ : Mp) (h : Hp) (w : World) (N : Nat) (ex : Ex) (st : St) : Exit → Act → World → Prop := fun e a w' => exM ex e ∧ Beh ρ h w N st a w'

section
variable {ρ : Mp} {h : Hp} {w : World}
theorem Beh.trans {ρ1 : Mp} {h1 : Hp} {w1 : World} (G : Go1 ρ h w ρ1 h1 w1) {N : Nat} {st : St} {a : Act} {w' : World} (b : Beh ρ1 h1 w1 N st a w') : Beh ρ h w N st a w' := by
  obtain ⟨ρ', R, S, G2, e1, e2⟩ := b
  exact ⟨ρ', R, S, G.trans G2, e1, e2⟩
theorem Post.trans {ρ1 : Mp} {h1 : Hp} {w1 : World} (G : Go1 ρ h w ρ1 h1 w1) {N : Nat} {ex : Ex} {st : St} {e : Exit} {a : Act} {w' : World} (b : Post ρ1 h1 w1 N ex st e a w') : Post ρ h w N ex st e a w' := ⟨b.1, b.2.trans G⟩

theorem getD_some {tm : Array Value} {d : Nat} {v : Value} (e : tm.getD d undef = v) (hv : ∀ l, v ≠ .tuple l) : tm[d]? = some v := by
  rw [Array.getD_eq_getD_getElem?] at e
  cases hh : tm[d]? with
  | none => rw [hh] at e; exact absurd e.symm (hv _)
  | some u => rw [hh] at e; simpa using e

theorem want_ok {s : Slots} {a : Act} (S : SR ρ h s a.tmps) {ops : Array Oper} {o : Oper} {b : Bool} (e : wantP ops s o = some b) : Region.wanted o (yielded ops a.tmps) = b := by
  unfold wantP at e
  unfold Region.wanted
  split at e
  · rename_i hg
    cases e
    rw [hg]
  · rename_i j want hg
    rw [hg]
    simp only [yielded]
    split at e
    · rename_i d hd
      rw [hd]
      split at e
      · rename_i t ht
        cases e
        have h1 := S d _ ht
        generalize hv : a.tmps.getD d undef = v at h1
        cases h1
        simp [getD_some hv (by simp)]
      · rename_i v hnb ht
        cases e
        have h1 := S d _ ht
        simp only [Option.bind_some]
        cases hh : a.tmps[d]? with
        | none => simp
        | some u =>
          have hu : a.tmps.getD d undef = u := by rw [Array.getD_eq_getD_getElem?, hh]; rfl
          rw [hu] at h1
          cases h1 <;> first | (exact (hnb _ rfl).elim) | simp
      · cases e
    · rename_i hd
      cases e
      rw [hd]
      simp

theorem get_keep_mem {K : List Nat} {s : Slots} {t : Nat} {v : Value} (h : get (keep K s) t = some v) : t ∈ K := by
  induction K with
  | nil => simp [keep, get] at h
  | cons k K ih =>
    simp only [keep, List.filterMap_cons] at h
    cases hk : get s k with
    | none => simp [hk] at h; exact List.mem_cons_of_mem _ (ih h)
    | some u =>
      simp [hk, get] at h
      split at h
      · rename_i e; subst e; exact List.mem_cons_self ..
      · exact List.mem_cons_of_mem _ (ih h)

theorem Rel.ext {H : Hp} {L : Nat} (hL : L ≤ H.length) (R : Rel ρ (H.take L) w) : Rel ρ H w := by
  have hlt : ∀ {r p}, ρ r = some p → r < L := fun {r p} hp => by have := R.dom r p hp; simp at this; omega
  have stp : Step ρ (H.take L) ρ H := step_ext hL fun _ _ _ _ _ hp => hp
  refine ⟨fun r x p hx hp hr => ?_, fun r x p hx hp hr i v hi => ?_, fun r r' x x' p p' hx hx' hp hp' hr hne hro => ?_, fun r p hp => by have := hlt hp; omega⟩
  · obtain ⟨c, e, g1, g2, g3, g4⟩ := R.own r x p (by rw [take_get (hlt hp)]; exact hx) hp hr
    exact ⟨c, e, g1, g2, g3, fun i v hi => by obtain ⟨v', k1, k2⟩ := g4 i v hi; exact ⟨v', k1, k2.step stp⟩⟩
  · obtain ⟨v', k1, k2⟩ := R.ro r x p (by rw [take_get (hlt hp)]; exact hx) hp hr i v hi
    exact ⟨v', k1, k2.step stp⟩
  · exact R.inj r r' x x' p p' (by rw [take_get (hlt hp)]; exact hx) (by rw [take_get (hlt hp')]; exact hx') hp hp' hr hne hro
end

structure DrawOk (ops : Array Oper) (n : Nat) : Prop where
  hn : n < ops.size
  sink : Region.sinkB .any ops n = true
  chain : Region.chainB .any ops n = true
  seq : Region.seqB .any ops (ops.size - n) n (listedTo n (ops.size - n)) = true
  back : ∀ (i : Nat) (o : Oper), ops[i]? = some o → ∀ e ∈ o.after, Region.binds .any e = true → e.on < i
  deps : ∀ (i : Nat) (o : Oper) (t j d : Nat), i < n → ops[i]? = some o → t ∈ o.looksAt ops → j < n → (ops[j]?).bind (·.dst) = some d → d = t → j < i ∧ Region.waitsFor .any ops i j = true
  dist : ∀ (i j : Nat) (oi oj : Oper) (d : Nat), i < n → j < n → i ≠ j → ops[i]? = some oi → ops[j]? = some oj → oi.dst = some d → oj.dst ≠ some d

theorem drawOk_spec {ops : Array Oper} {n : Nat} (h : drawOk ops n = true) : DrawOk ops n := by
  simp only [drawOk, Bool.and_eq_true, decide_eq_true_eq] at h
  obtain ⟨⟨⟨⟨⟨⟨h1, h2⟩, h3⟩, h4⟩, h5⟩, h6⟩, h7⟩ := h
  have key : ∀ i j oi oj d, j < i → i < n → ops[i]? = some oi → ops[j]? = some oj → oi.dst = some d → oj.dst ≠ some d := by
    intro i j oi oj d hj hi hoi hoj hd
    have := List.all_eq_true.1 h7 i (List.mem_range.2 hi)
    rw [hoi, Option.bind_some, hd] at this
    have := List.all_eq_true.1 this j (List.mem_range.2 hj)
    rw [hoj, Option.bind_some] at this
    simpa using this
  refine ⟨h1, h2, h3, h4, fun i o ho e he hb => ?_, fun i o t j d hi ho ht hj hd hdt => ?_, fun i j oi oj d hi hj hne hoi hoj hd => ?_⟩
  · have := List.all_eq_true.1 h5 i (List.mem_range.2 (Array.getElem?_eq_some_iff.1 ho).1)
    rw [ho] at this
    have h8 := Array.all_eq_true'.1 this e he
    rw [hb] at h8
    simpa using h8
  · have := List.all_eq_true.1 h6 i (List.mem_range.2 hi)
    rw [ho] at this
    have := List.all_eq_true.1 (List.all_eq_true.1 this t ht) j (List.mem_range.2 hj)
    rw [hd] at this
    simp only [Bool.or_eq_true, Bool.and_eq_true, decide_eq_true_eq] at this
    rcases this with h8 | h8
    · subst hdt; simp at h8
    · exact h8
  · rcases Nat.lt_or_ge j i with h8 | h8
    · exact key i j oi oj d h8 hi hoi hoj hd
    · exact fun h9 => key j i oj oi d (by omega) hj hoj hoi h9 hd

def unl (n : Nat) (listed : Array Bool) : Nat := ((List.range n).filter fun i => !listed.getD i true).length

theorem filter_set {l : List Nat} (hnd : l.Nodup) {listed : Array Bool} {i : Nat} (hi : i ∈ l) (hun : listed.getD i true = false) :
    (l.filter fun j => !listed.getD j true).length = (l.filter fun j => !(listed.setIfInBounds i true).getD j true).length + 1 := by
  have hiB : i < listed.size := by
    rcases Nat.lt_or_ge i listed.size with h | h
    · exact h
    · simp [Array.getElem?_eq_none h] at hun
  have hset : (listed.setIfInBounds i true).getD i true = true := by simp [hiB]
  induction l with
  | nil => cases hi
  | cons x l ih =>
    rw [List.nodup_cons] at hnd
    by_cases hx : x = i
    · subst hx
      rw [List.filter_cons_of_pos (by simp only [hun]; rfl), List.filter_cons_of_neg (by simp only [hset]; simp), List.length_cons]
      congr 2
      refine List.filter_congr fun j hj => ?_
      rw [getD_set_ne true (fun e : x = j => hnd.1 (by rw [e]; exact hj))]
    · have hi' : i ∈ l := by rcases List.mem_cons.1 hi with h | h; exact absurd h.symm hx; exact h
      have := ih hnd.2 hi'
      rw [List.filter_cons, List.filter_cons, getD_set_ne true (show i ≠ x from fun e => hx e.symm)]
      split
      · rw [List.length_cons, List.length_cons, this]
      · exact this

theorem unl_set {n i : Nat} {listed : Array Bool} (hi : i < n) (hun : listed.getD i true = false) : unl n listed = unl n (listed.setIfInBounds i true) + 1 :=
  filter_set List.nodup_range (List.mem_range.2 hi) hun

theorem listed_all {n : Nat} {ops : Array Oper} {listed : Array Bool} (inv : HeadInv .any ops n listed) (hn : n < ops.size) (h0 : unl n listed = 0) : listed = listedTo n (ops.size - n) := by
  have h1 : ∀ i, i < n → listed.getD i true = true := by
    intro i hi
    have := List.eq_nil_of_length_eq_zero h0
    rw [List.filter_eq_nil_iff] at this
    simpa using this i (List.mem_range.2 hi)
  apply Array.ext
  · rw [inv.size]; simp [listedTo]; omega
  · intro i hi hi2
    rcases Nat.lt_or_ge i n with h | h
    · have := h1 i h
      simp [hi] at this
      simp [listedTo, List.getElem_append, h, this]
    · have := inv.tail i h (by rw [← inv.size]; exact hi)
      simp [hi] at this
      simp [listedTo, List.getElem_append, show ¬ i < n by omega, this]

section
variable {F : Oper → St → Option (Value × Hp)} {ρ0 : Mp} {w0 : World} {N : Nat} {ops : Array Oper} {n : Nat} {st st1 : St} {V : Nat → Value} {L : Nat → Nat} {X : Nat → Slots}

theorem head_go (hF : OpSound P F) (T : Tr F N ops (ops.toList.take n) st st1 V L X) (D : DrawOk ops n) (hcl : ∀ t v, get st.s t = some v → Cl (L 0) v)
    {Q : Exit → Act → World → Prop} (hQ : ∀ a' w', Beh ρ0 st.h w0 N st1 a' w' → wpList P ops Q (ops.toList.drop n) a' w') :
    ∀ (k : Nat) (listed : Array Bool) (ρ : Mp) (a : Act) (w : World), unl n listed = k → HeadInv .any ops n listed → Inv ρ0 w0 N ops n st st1 V L listed ρ a w →
      wpAny P .any ops Q (k + (ops.size - n)) listed a w
  | 0, listed, ρ, a, w, hk, inv, I => by
    have hnl : (ops.toList.take n).length = n := by have := D.hn; simp; omega
    have hl := listed_all inv D.hn hk
    have hin : ∀ j, j < n → listed.getD j false = true := by
      intro j hj
      rw [hl]
      have := D.hn
      simp [listedTo, List.getElem?_append, hj]
    have htake : ∀ j o, j < n → (ops.toList.take n)[j]? = some o → ops[j]? = some o := by
      intro j o hj ho
      rw [List.getElem?_take, if_pos hj] at ho
      simpa using ho
    have htake' : ∀ j o, j < n → ops[j]? = some o → (ops.toList.take n)[j]? = some o := by
      intro j o hj ho
      rw [List.getElem?_take, if_pos hj]
      simpa using ho
    have hL0 : L 0 ≤ st1.h.length := by have := T.le (i := 0) (j := n) (by omega) (by omega); have h2 := T.hn; rw [hnl] at h2; omega
    have hst : st.h = st1.h.take (L 0) := T.pre
    have hlen : st.h.length = L 0 := T.h0.symm
    rw [Nat.zero_add]
    have := wpAny_of_seq (P := P) (md := .any) (ops := ops) (Q' := Q) (ops.toList.drop n) n listed a w (fun j => by simp [List.getElem?_drop]) (by rw [hl]; simpa using D.seq) (hQ a w ?_)
    · simpa using this
    · refine ⟨ρ, I.rel, fun t v e => ?_, ⟨I.os, I.tape, I.output, I.size, fun b hb hn => ?_, fun r' x' p' g1 g2 g3 => ?_, ?_, by omega, fun r hr hn => I.none0 r (by omega) hn⟩, I.hN, I.hd⟩
      · rw [← T.xn, hnl] at e
        rcases slots_at T n (by omega) t v e with ⟨j, o, h1, h2, h3, h4⟩ | ⟨h1, h2⟩
        · subst h4
          exact (I.val j o t h1 (hin j h1) (htake j o h1 h2) h3).1
        · exact I.old t v h2 fun j o hj _ ho => h1 j o hj (htake' j o hj ho)
      · refine I.blk b hb fun r x p h1 h2 h3 h4 => hn r x p ?_ h3 h4
        rw [hst, take_get h1]; exact h2
      · rcases Nat.lt_or_ge r' (L 0) with h1 | h1
        · refine .inr ⟨r', x', p', by rw [hst, take_get h1]; exact g1, ?_, g3, rfl⟩
          rw [← I.base r' x' h1 g1]; exact g2
        · exact .inl (I.newb r' x' p' h1 g1 g2 g3)
      · rw [hst]
        exact step_ext hL0 fun r x p hr hx hp => by rw [I.base r x hr hx]; exact hp
  | k + 1, listed, ρ, a, w, hk, inv, I => by
    have hn := D.hn
    have hnl : (ops.toList.take n).length = n := by simp; omega
    have htake : ∀ j o, j < n → (ops.toList.take n)[j]? = some o → ops[j]? = some o := by
      intro j o hj ho
      rw [List.getElem?_take, if_pos hj] at ho
      simpa using ho
    have htake' : ∀ j o, j < n → ops[j]? = some o → (ops.toList.take n)[j]? = some o := by
      intro j o hj ho
      rw [List.getElem?_take, if_pos hj]
      simpa using ho
    -- something is ready
    obtain ⟨i0, hi0, hun0⟩ : ∃ i, i < n ∧ listed.getD i true = false := by
      unfold unl at hk
      cases hf : (List.range n).filter fun i => !listed.getD i true with
      | nil => rw [hf] at hk; simp at hk
      | cons i r =>
        have : i ∈ (List.range n).filter fun i => !listed.getD i true := by rw [hf]; exact List.mem_cons_self ..
        rw [List.mem_filter, List.mem_range] at this
        exact ⟨i, this.1, by simpa using this.2⟩
    have hready : ∀ (m i : Nat), i = m → i < n → listed.getD i true = false → ∃ j, j ∈ Region.ready .any ops listed := by
      intro m
      induction m using Nat.strongRecOn with
      | _ m ih =>
        intro i him hi hun
        subst him
        by_cases hall : ∀ o, ops[i]? = some o → ∀ e ∈ o.after, Region.binds .any e = true → listed.getD e.on false = true
        · exact ⟨i, mem_ready.2 ⟨hun, ops[i], by simp [show i < ops.size by omega], hall _ (by simp [show i < ops.size by omega])⟩⟩
        · simp only [Classical.not_forall] at hall
          obtain ⟨o, ho, e, he, hb, hl⟩ := hall
          have hlt := D.back i o ho e he hb
          exact ih e.on hlt e.on rfl (by omega) (getD_in (by rw [inv.size]; omega) (by simpa using hl))
    have hsm : k + 1 + (ops.size - n) = (k + (ops.size - n)) + 1 := by omega
    rw [hsm]
    refine ⟨fun h0 => ?_, fun i hi => ?_⟩
    · obtain ⟨j, hj⟩ := hready i0 i0 rfl hi0 hun0
      rw [h0] at hj; cases hj
    · have hin : i < n := by
        rcases Nat.lt_or_ge i n with h | h
        · exact h
        · exact absurd hi (tail_waits D.sink D.chain hn inv _ i0 rfl hi0 hun0 i h)
      obtain ⟨hun, o, ho, hall⟩ := mem_ready.1 hi
      obtain ⟨hdst, hX, hstep⟩ := T.step i o (htake' i o hin ho)
      have hLi : L i ≤ st1.h.length := by have := T.le (i := i) (j := n) (by omega) (by omega); have h2 := T.hn; rw [hnl] at h2; omega
      have Ri : Rel (Pm.res ρ (L i)) (st1.h.take (L i)) w := I.rel.res fun r x p hx hp hr v hv => I.clo r x p hx hp i (by omega) hr v hv
      have Si : SR (Pm.res ρ (L i)) (st1.h.take (L i)) (keep (o.looksAt ops) (X i)) a.tmps := by
        intro t v e
        have htl := get_keep_mem e
        have e2 := get_keep e
        rcases slots_at T i (by omega) t v e2 with ⟨j, oj, h1, h2, h3, h4⟩ | ⟨h1, h2⟩
        · subst h4
          have hoj := htake j oj (by omega) h2
          obtain ⟨_, hw⟩ := D.deps i o t j t hin ho htl (by omega) (by rw [hoj]; exact h3) rfl
          obtain ⟨o', ho', e', he', hb', hon⟩ := Region.waitsFor_spec hw
          rw [ho] at ho'; cases ho'
          have hlj : listed.getD j false = true := by rw [← hon]; exact hall e' he' hb'
          obtain ⟨g1, g2⟩ := I.val j oj t (by omega) hlj hoj h3
          exact g1.res (g2.mono (T.le (by omega) (by omega)))
        · have := I.old t v h2 fun j oj hj hlj hoj hd => by
            obtain ⟨hji, _⟩ := D.deps i o t j t hin ho htl hj (by rw [hoj]; exact hd) rfl
            exact h1 j oj hji (htake' j oj hj hoj) hd
          exact this.res ((hcl t v h2).mono (T.le (by omega) (by omega)))
      have hk' : unl n (listed.setIfInBounds i true) = k := by have := unl_set hin hun; omega
      unfold wpOp
      rw [ho]
      simp only
      rcases hstep with ⟨hw, hV, hLL⟩ | ⟨hw, hFo⟩
      · rw [if_neg (by rw [want_ok Si hw]; simp)]
        have h1 : VR (Pm.res ρ (L i)) (st1.h.take (L (i + 1))) (V i) undef := by rw [hV]; exact undef_vr
        exact head_go hF T D hcl hQ k _ _ _ _ hk' (inv.set hi hin) (Inv.next T hnl I D.dist hin ho hun inv.size h1 (by rw [hLL]; exact Ri) (by rw [hLL]; exact Go1.refl _ _ _) hdst)
      · rw [if_pos (want_ok Si hw)]
        refine .inl (hF o ⟨_, _⟩ (V i) _ hFo (Pm.res ρ (L i)) a w Ri Si _ Q fun v' w' ρ' hv R' G => ?_)
        exact head_go hF T D hcl hQ k _ _ _ _ hk' (inv.set hi hin) (Inv.next T hnl I D.dist hin ho hun inv.size hv R' G hdst)

theorem draw_ok (hm : P.follows .mixedOrders = true) (hF : OpSound P F) (hd : drawOk ops n = true) (e : runH F N ops (ops.toList.take n) st = some st1) {ρ : Mp} {a : Act} {w : World} (R : Rel ρ st.h w) (S : SR ρ st.h st.s a.tmps) (hN : a.tmps.size = N) (hdf : a.defers = [])
    {Q : Exit → Act → World → Prop} (hQ : ∀ a' w', Beh ρ st.h w N st1 a' w' → wpList P ops Q (ops.toList.drop n) a' w') {id : Nat} : (Code.region id ops true).wp P Q a w := by
  have D := drawOk_spec hd
  obtain ⟨V, L, X, T⟩ := trace F N ops _ st st1 e
  have hn := D.hn
  have hnl : (ops.toList.take n).length = n := by simp; omega
  have hst : st.h = st1.h.take (L 0) := T.pre
  have hlen : st.h.length = L 0 := T.h0.symm
  have hL0 : L 0 ≤ st1.h.length := by have := T.le (i := 0) (j := n) (by omega) (by omega); have h2 := T.hn; rw [hnl] at h2; omega
  refine wp_region_any hm ?_
  have R' := R.drew (w.drawn + 1)
  have hlt : ∀ {r p}, ρ r = some p → r < L 0 := fun {r p} hp => by rw [← hlen]; exact R.dom r p hp
  have hcell : ∀ r x p, st1.h[r]? = some (some x) → ρ r = some p → ∀ v, v ∈ x.cells → Cl (L 0) v := by
    intro r x p hx hp v hv
    have hx' : st.h[r]? = some (some x) := by rw [hst, take_get (hlt hp)]; exact hx
    obtain ⟨m, hm⟩ := List.getElem?_of_mem hv
    rw [← hlen]
    cases hro : x.ro with
    | false => obtain ⟨c, e, _, _, _, g4⟩ := R.own r x p hx' hp hro
               obtain ⟨u, _, k2⟩ := g4 m v hm
               exact k2.cl
    | true => obtain ⟨u, _, k2⟩ := R.ro r x p hx' hp hro m v hm
              exact k2.cl
  have stp : Step ρ st.h ρ st1.h := by rw [hst]; exact step_ext hL0 fun _ _ _ _ _ hp => hp
  have I : Inv ρ { w with drawn := w.drawn + 1 } N ops n st st1 V L (Array.replicate ops.size false) ρ a { w with drawn := w.drawn + 1 } :=
    ⟨Rel.ext hL0 (by rw [← hst]; exact R'), fun r x p hx hp k hk hr v hv => (hcell r x p hx hp v hv).mono (T.le (by omega) (by omega)),
     fun j o d hj hlj => (by rw [getD_replicate_false] at hlj; cases hlj), fun t v hg _ => (S t v hg).step stp, fun r p hp => .inl (hlt hp), fun _ _ _ _ => rfl, fun _ _ h => h,
     fun r x p hr hx hp => (by have := hlt hp; omega), rfl, rfl, rfl, Nat.le_refl _, fun _ _ _ => rfl, hN, hdf⟩
  have inv0 : HeadInv .any ops n (Array.replicate ops.size false) :=
    ⟨by simp, fun j oj _ hl => (by rw [getD_replicate_false] at hl; cases hl), fun t _ ht => getD_in (by simpa using ht) (getD_replicate_false _ _)⟩
  have hunl : unl n (Array.replicate ops.size false) = n := by
    unfold unl
    rw [List.filter_eq_self.2]
    · simp
    · intro i hi
      rw [List.mem_range] at hi
      simp [show i < ops.size by omega]
  have := head_go (ρ0 := ρ) (w0 := { w with drawn := w.drawn + 1 }) hF T D (fun t v hg => by rw [← hlen]; exact (S t v hg).cl) (Q := Q) (fun a' w' b => hQ a' w' (b.trans (Go1.drew ρ st.h w _))) n _ ρ a _ hunl inv0 I
  rwa [show n + (ops.size - n) = ops.size by omega] at this
end
end Go.Pm
