/- The texts PmG, PmH, PmI, PmK, PmL, PmM, PmM2, PmN0 of this work: append and copy. -/
import Derived.Test.YtjjjalkfpajckaaM0
/- append and copy. -/
set_option linter.unusedVariables false
set_option linter.unusedSimpArgs false
namespace Go.Pm
variable {P : Program} {ρ : Mp} {h : Hp} {w : World}

/-- A row of one's own goes on as row k (itself, grown, or a new one while the old one is gone), in its own block or in a new one. -/
theorem Rel.regrow (R : Rel ρ h w) {r : Nat} {x : Row} {p : Place} (hx : h[r]? = some (some x)) (hp : ρ r = some p) (hro : x.ro = false)
    {k : Nat} {x' : Row} {p' : Place} {h' : Hp} {w' : World} (hro' : x'.ro = false)
    (hk : h'[k]? = some (some x')) (hkr : (k = r ∧ x.cells.length < x'.cells.length) ∨ (k = h.length ∧ h'[r]? = some none))
    (hoth : ∀ j, j ≠ k → j ≠ r → h'[j]? = h[j]?) (hlen : h.length ≤ h'.length)
    (os : w'.os = w.os) (tape : w'.tape = w.tape) (output : w'.output = w.output) (size : w.heap.size ≤ w'.heap.size)
    (hblk : ∀ b, b < w.heap.size → b ≠ p.b → w'.heap[b]? = w.heap[b]?) (hb : p'.b = p.b ∨ w.heap.size ≤ p'.b)
    {c : Array Value} {e : TypeId} (hc : w'.heap[p'.b]? = some (.cells c e (0, 0))) (hcs : c.size = p'.bs) (hd : p'.d + x'.cells.length ≤ p'.bs)
    (hcells : ∀ (i : Nat) v, x'.cells[i]? = some v → ∃ v', c[p'.d + i]? = some v' ∧ VR ρ h v v') :
    Rel (upd ρ k p') h' w' ∧ Go1 ρ h w (upd ρ k p') h' w' := by
  have hrl : r < h.length := (List.getElem?_eq_some_iff.1 hx).1
  have ne_k : ∀ {j y q}, h[j]? = some (some y) → ρ j = some q → j ≠ r → j ≠ k := by
    intro j y q hy hq hjr hjk
    rcases hkr with ⟨e1, _⟩ | ⟨e1, _⟩
    · exact hjr (hjk.trans e1)
    · have := R.dom j q hq; omega
  have rdead : k ≠ r → h'[r]? = some none := by
    intro hne
    rcases hkr with ⟨e1, _⟩ | ⟨_, e2⟩
    · exact absurd e1 hne
    · exact e2
  have grow : k = r → x.cells.length < x'.cells.length := by
    intro he
    rcases hkr with ⟨_, e2⟩ | ⟨e1, _⟩
    · exact e2
    · omega
  have st : Step ρ h (upd ρ k p') h' := by
    refine ⟨fun j y q hy hq => ?_, fun a ⟨L, e1, hlt, hg⟩ => ⟨L, e1, by omega, fun y hy => ?_⟩⟩
    · by_cases hj : j = r
      · subst hj
        rw [hx] at hy; cases hy
        refine .inr ⟨by omega, fun y' hy' => ?_⟩
        by_cases hkj : k = j
        · subst hkj
          rw [hk] at hy'; cases hy'
          exact grow rfl
        · rw [rdead hkj] at hy'; cases hy'
      · have hjk := ne_k hy hq hj
        exact .inl ⟨y, by rw [hoth j hjk hj]; exact hy, rfl, rfl, rfl, by simp [upd, hjk, hq]⟩
    · by_cases hj : a.block = r
      · rw [hj] at hy hg
        have := hg x hx
        by_cases hkj : k = r
        · rw [← hkj, hk] at hy; cases hy
          have := grow hkj
          omega
        · rw [rdead hkj] at hy; cases hy
      · by_cases hjk : a.block = k
        · rcases hkr with ⟨e2, _⟩ | ⟨e2, _⟩
          · exact absurd (hjk.trans e2) hj
          · omega
        · rw [hoth _ hjk hj] at hy; exact hg y hy
  have old : ∀ {j y q}, h'[j]? = some (some y) → upd ρ k p' j = some q → j ≠ k → h[j]? = some (some y) ∧ ρ j = some q ∧ j ≠ r := by
    intro j y q hy hq hjk
    have hjr : j ≠ r := by
      intro he
      subst he
      rw [rdead (fun e2 => hjk e2.symm)] at hy; cases hy
    exact ⟨by rw [← hoth j hjk hjr]; exact hy, by simpa [upd, hjk] using hq, hjr⟩
  have new : ∀ {q}, upd ρ k p' k = some q → q = p' := by
    intro q hq
    simp [upd] at hq
    exact hq.symm
  have far : ∀ {j y q}, h[j]? = some (some y) → ρ j = some q → j ≠ r → (y.ro = true → y.cells ≠ []) → q.b ≠ p.b ∧ q.b < w.heap.size := by
    intro j y q hy hq hjr hyr
    exact ⟨fun e2 => R.inj r j x y p q hx hy hp hq hro (fun e3 => hjr e3.symm) hyr e2.symm, R.lt hy hq hyr⟩
  refine ⟨⟨fun j y q hy hq hyr => ?_, fun j y q hy hq hyr i v hi => ?_, fun j j' y y' q q' hy hy' hq hq' hyr hne hyr' => ?_, fun j q hq => ?_⟩, ⟨os, tape, output, size, fun b hb2 hn => hblk b hb2 (fun e2 => hn r x p hx hp hro e2.symm), fun j y q hy hq hyr => ?_, st, hlen, fun j hj e2 => by
    have hjk : j ≠ k := by
      rcases hkr with ⟨e3, _⟩ | ⟨e3, _⟩
      · intro e4; rw [e4, e3, hp] at e2; cases e2
      · omega
    simpa [upd, hjk] using e2⟩⟩
  · by_cases hjk : j = k
    · subst hjk
      rw [hk] at hy; cases hy
      obtain rfl := new hq
      exact ⟨c, e, hc, hcs, hd, fun i v hi => by obtain ⟨v', h1, h2⟩ := hcells i v hi; exact ⟨v', h1, h2.step st⟩⟩
    · obtain ⟨h1, h2, h3⟩ := old hy hq hjk
      obtain ⟨c1, e1, i1, i2, i3, i4⟩ := R.own j y q h1 h2 hyr
      obtain ⟨f1, f2⟩ := far h1 h2 h3 (fun e2 => by rw [hyr] at e2; cases e2)
      exact ⟨c1, e1, by rw [hblk _ f2 f1]; exact i1, i2, i3, fun i v hi => by obtain ⟨v', g1, g2⟩ := i4 i v hi; exact ⟨v', g1, g2.step st⟩⟩
  · by_cases hjk : j = k
    · subst hjk
      rw [hk] at hy; cases hy
      rw [hro'] at hyr; cases hyr
    · obtain ⟨h1, h2, h3⟩ := old hy hq hjk
      obtain ⟨v', g1, g2⟩ := R.ro j y q h1 h2 hyr i v hi
      obtain ⟨f1, f2⟩ := far h1 h2 h3 (fun _ e2 => by rw [e2] at hi; simp at hi)
      refine ⟨v', ?_, g2.step st⟩
      rw [← g1]
      unfold World.cell?
      rw [hblk _ f2 f1]
  · by_cases hjk : j = k
    · subst hjk
      obtain rfl := new hq
      obtain ⟨h1, h2, h3⟩ := old hy' hq' (fun e2 => hne e2.symm)
      obtain ⟨f1, f2⟩ := far h1 h2 h3 hyr'
      rcases hb with e2 | e2
      · rw [e2]; exact fun e3 => f1 e3.symm
      · omega
    · obtain ⟨h1, h2, h3⟩ := old hy hq hjk
      by_cases hjk' : j' = k
      · subst hjk'
        obtain rfl := new hq'
        obtain ⟨f1, f2⟩ := far h1 h2 h3 (fun e2 => by rw [hyr] at e2; cases e2)
        rcases hb with e2 | e2
        · rw [e2]; exact f1
        · omega
      · obtain ⟨h1', h2', h3'⟩ := old hy' hq' hjk'
        exact R.inj j j' y y' q q' h1 h1' h2 h2' hyr hne hyr'
  · by_cases hjk : j = k
    · subst hjk; exact (List.getElem?_eq_some_iff.1 hk).1
    · have : ρ j = some q := by simpa [upd, hjk] using hq
      have := R.dom j q this
      omega
  · by_cases hjk : j = k
    · subst hjk
      obtain rfl := new hq
      rcases hb with e2 | e2
      · exact .inr ⟨r, x, p, hx, hp, hro, e2.symm⟩
      · exact .inl e2
    · obtain ⟨h1, h2, h3⟩ := old hy hq hjk
      exact .inr ⟨j, y, q, h1, h2, hyr, rfl⟩

/-! ### what is appended -/
theorem len_vr {x x' : Value} {m : Nat} (hv : VR ρ h x x') (e : lenP x = some m) (w : World) : (Builtin.lenOf x').run P w = .ok m w := by
  cases x <;> simp [lenP] at e
  subst e
  cases hv <;> simp [Builtin.lenOf]

theorem run_first_some {size n : Nat} {a : Addr} {c : Nat} {l : List Value} (hl : l.length = n * size) (hc : ∀ (j : Nat) v, l[j]? = some v → w.cell? (a.add j) = some v) : (Builtin.firstCells size n (.slice (some a) n c)).run P w = .ok l.toArray w := by
  have := run_loadCells_list (P := P) w a l hc
  rw [hl] at this
  simp [Builtin.firstCells, this]

/-- The first cells of a slice, whatever the draws. -/
theorem seen_ok (R : Rel ρ h w) {size m : Nat} {x x' : Value} {ys : List Value} (hv : VR ρ h x x') (e : seenP h size x = some ys) (em : lenP x = some m) :
    ys.length = m * size ∧ ∃ ys', VL ρ h ys ys' ∧ ∀ (k d : Nat), k ≤ m → (Builtin.firstCells size k x').run P { w with drawn := d } = .ok (ys'.take (k * size)).toArray { w with drawn := d } := by
  unfold seenP at e
  split at e
  · cases e
    cases em
    cases hv
    · exact ⟨by simp, [], VL.nil, fun k d hk => by simp [Builtin.firstCells]⟩
    · exact ⟨by simp, [], VL.nil, fun k d hk => by
        have hk0 : k = 0 := by omega
        subst hk0
        simp [Builtin.firstCells, loadCells, loadCellsFrom]⟩
  · rename_i a n c
    cases em
    split at e
    · rename_i row hrow
      split at e
      · rename_i hb
        cases e
        have hlen : ((row.cells.drop a.off).take (m * size)).length = m * size := by simp; omega
        refine ⟨hlen, ?_⟩
        rcases row_slice hrow hv with ⟨p, c', h1, h2, rfl, h3, h4, h5⟩ | ⟨rfl, rfl, a', p, rfl, i1, i2⟩
        · obtain ⟨l', hl, hc⟩ := R.seg h1 h2 a.off (m * size)
          refine ⟨l', hl, fun k d hk => ?_⟩
          have hkl : (l'.take (k * size)).length = k * size := by
            have := hl.1
            have := Nat.mul_le_mul_right size hk
            simp; omega
          have := run_loadCells_list (P := P) { w with drawn := d } ⟨p.b, p.d + a.off, none⟩ (l'.take (k * size)) (fun j v hj => by
            rw [List.getElem?_take] at hj
            split at hj
            · exact hc j v hj
            · cases hj)
          rw [hkl] at this
          simp [Builtin.firstCells, this]
        · refine ⟨[], by simpa using VL.nil, fun k d hk => ?_⟩
          have hk0 : k = 0 := by omega
          subst hk0
          simp [Builtin.firstCells, loadCells, loadCellsFrom]
      · cases e
    · cases e
  · cases e

theorem run_app_room {t ty e : TypeId} {i : TypeInfo} (ht : P.underlying t = some (.slice e)) (hi : P.info? e = some i) {base : Option Addr} {sLen sCap m : Nat} {x' : Value} {news : List Value}
    (hm : ∀ w : World, (Builtin.lenOf x').run P w = .ok m w) (hf : (Builtin.firstCells i.size m x').run P w = .ok news.toArray w) (hroom : sLen + m ≤ sCap) {w' : World}
    (hst : ∀ a, base = some a → (storeCells (a.add (sLen * i.size)) news).run P w = .ok () w') (hn : base = none → w' = w) :
    (Builtin.append_ #[t, t] ty #[.slice base sLen sCap, x']).run P w = .ok (.slice base (sLen + m) sCap) w' := by
  cases base with
  | none => have := hn rfl; subst this; simp [Builtin.append_, run_underlying ht, run_size hi, hm, hroom, hf]
  | some a => simp [Builtin.append_, run_underlying ht, run_size hi, hm, hroom, hf, hst a rfl]

theorem run_app_grow {t ty e : TypeId} {i : TypeInfo} {z : Value} (ht : P.underlying t = some (.slice e)) (hi : P.info? e = some i) (hz : i.zero = some z) {base : Option Addr} {sLen sCap m : Nat} {x' : Value} {news olds : List Value}
    (hm : ∀ w : World, (Builtin.lenOf x').run P w = .ok m w) (hf : (Builtin.firstCells i.size m x').run P w.drew = .ok news.toArray w.drew) (ho : (Builtin.firstCells i.size sLen (.slice base sLen sCap)).run P w.drew = .ok olds.toArray w.drew)
    (hg : sCap < sLen + m) (hby : 0 < i.bytes) (hb : (sLen + m) * i.bytes ≤ 2 ^ 47) :
    (Builtin.append_ #[t, t] ty #[.slice base sLen sCap, x']).run P w =
      .ok (.slice (some ⟨w.heap.size, 0, none⟩) (sLen + m) (grownCap w (sLen + m) sCap e))
        (w.drew.alloc (.cells (olds ++ news ++ (Builtin.zeroCells z.cells (grownCap w (sLen + m) sCap e - (sLen + m))).toList).toArray e)) := by
  have hn : ¬ (sLen + m ≤ sCap) := by omega
  have hnb : ¬ i.bytes = 0 := by omega
  have hfit := growslice_fits (need := sLen + m) (old := sCap) (bytes := i.bytes) hg (by simpa using hb)
  have h48' : ¬ (281474976710656 < Builtin.nextslicecap (sLen + m) sCap * i.bytes) := by omega
  simp [Builtin.append_, run_underlying ht, run_size hi, run_info hi, hm, hn, hnb, h48', Question.forced, hf, ho, run_zero hi hz, newRow, grownCap]
  congr 2
  apply Array.ext'
  simp [List.append_assoc]
end Go.Pm

/- append and copy, whole. -/
set_option linter.unusedVariables false
set_option linter.unusedSimpArgs false
namespace Go.Pm
variable {P : Program} {ρ : Mp} {h : Hp} {w : World}

/-- A new row in a block that may be longer. -/
theorem Rel.newc (R : Rel ρ h w) {l : List Value} {c : Array Value} (hl : l.length ≤ c.size) (hc : ∀ (i : Nat) v, l[i]? = some v → ∃ v', c[i]? = some v' ∧ VR ρ h v v') (sz : Nat) (e : TypeId) :
    Rel (upd ρ h.length ⟨w.heap.size, 0, c.size⟩) (h ++ [some ⟨l, sz, false⟩]) (w.alloc (.cells c e)) ∧
    Go1 ρ h w (upd ρ h.length ⟨w.heap.size, 0, c.size⟩) (h ++ [some ⟨l, sz, false⟩]) (w.alloc (.cells c e)) := by
  have st := step_new R ⟨l, sz, false⟩ ⟨w.heap.size, 0, c.size⟩
  have old : ∀ r p, upd ρ h.length ⟨w.heap.size, 0, c.size⟩ r = some p → r < h.length → ρ r = some p := by
    intro r p hp hr
    simpa [upd, Nat.ne_of_lt hr] using hp
  have new : ∀ p, upd ρ h.length ⟨w.heap.size, 0, c.size⟩ h.length = some p → p = ⟨w.heap.size, 0, c.size⟩ := by
    intro p hp
    simp [upd] at hp
    exact hp.symm
  have blk : ∀ b, b < w.heap.size → (w.alloc (.cells c e)).heap[b]? = w.heap[b]? := by
    intro b hb
    show (w.heap.push _)[b]? = _
    rw [Array.getElem?_push, if_neg (by omega)]
  have newb : (w.alloc (.cells c e)).heap[w.heap.size]? = some (.cells c e) := by
    show (w.heap.push _)[w.heap.size]? = _
    simp
  refine ⟨⟨fun r x p hx hp hr => ?_, fun r x p hx hp hr i v hi => ?_, fun r r' x x' p p' hx hx' hp hp' hr hne hro => ?_, fun r p hp => ?_⟩, ⟨rfl, rfl, rfl, by simp, fun b hb _ => blk b hb, fun r x p hx hp hr => ?_, st, by simp, fun r hr e => by simpa [upd, Nat.ne_of_lt hr] using e⟩⟩
  · rcases get_app hx with ⟨hlt, h1⟩ | ⟨rfl, h1⟩
    · obtain ⟨c1, t, hb, h2, h3, h4⟩ := R.own r x p h1 (old r p hp hlt) hr
      refine ⟨c1, t, by rw [blk _ (Array.getElem?_eq_some_iff.1 hb).1]; exact hb, h2, h3, fun i v hi => ?_⟩
      obtain ⟨v', h5, h6⟩ := h4 i v hi
      exact ⟨v', h5, h6.step st⟩
    · obtain rfl := new p hp
      obtain rfl : x = ⟨l, sz, false⟩ := Option.some.inj h1
      refine ⟨c, e, newb, rfl, by simpa using hl, fun i v hi => ?_⟩
      obtain ⟨v', h2, h3⟩ := hc i v hi
      exact ⟨v', by simpa using h2, h3.step st⟩
  · rcases get_app hx with ⟨hlt, h1⟩ | ⟨rfl, h1⟩
    · obtain ⟨v', h5, h6⟩ := R.ro r x p h1 (old r p hp hlt) hr i v hi
      exact ⟨v', by rw [World.cell?_alloc_lt w _ _ (World.block_lt_of_cell? w _ h5)]; exact h5, h6.step st⟩
    · obtain rfl : x = ⟨l, sz, false⟩ := Option.some.inj h1
      cases hr
  · rcases get_app hx with ⟨hlt, h1⟩ | ⟨rfl, h1⟩
    · rcases get_app hx' with ⟨hlt', h1'⟩ | ⟨rfl, h1'⟩
      · exact R.inj r r' x x' p p' h1 h1' (old r p hp hlt) (old r' p' hp' hlt') hr hne hro
      · obtain rfl := new p' hp'
        have := R.lt h1 (old r p hp hlt) (fun h => by rw [hr] at h; cases h)
        show p.b ≠ w.heap.size
        omega
    · rcases get_app hx' with ⟨hlt', h1'⟩ | ⟨rfl, h1'⟩
      · obtain rfl := new p hp
        have := R.lt h1' (old r' p' hp' hlt') hro
        show w.heap.size ≠ p'.b
        omega
      · exact absurd rfl hne
  · by_cases hr : r = h.length
    · simp; omega
    · have : ρ r = some p := by simpa [upd, hr] using hp
      have := R.dom r p this
      simp; omega
  · rcases get_app hx with ⟨hlt, h1⟩ | ⟨rfl, h1⟩
    · exact .inr ⟨r, x, p, h1, old r p hp hlt, hr, rfl⟩
    · obtain rfl := new p hp
      exact .inl (Nat.le_refl _)

/-- What a new block of append's holds. -/
theorem app_cells {z : Value} {zs zs' : List Value} (hv : VL ρ h zs zs') (m : Nat) : ∀ (i : Nat) v, zs[i]? = some v → ∃ v', (zs' ++ (Builtin.zeroCells z.cells m).toList).toArray[0 + i]? = some v' ∧ VR ρ h v v' := by
  intro i v hi
  have hlt : i < zs'.length := by have := (List.getElem?_eq_some_iff.1 hi).1; have := hv.1; omega
  refine ⟨zs'[i], ?_, hv.2 i v _ hi (List.getElem?_eq_getElem hlt)⟩
  simp [List.getElem?_append_left hlt, hlt]

theorem app_tail (R : Rel ρ h w) {t ty e : TypeId} {q : TypeInfo} {z : Value} (ht : P.underlying t = some (.slice e)) (hi : P.info? e = some q) (hz : q.zero = some z) (hzs : z.cells.size = q.size) (hq : 0 < q.size) (hby : 0 < q.bytes)
    {a : Addr} {x : Row} {n c : Nat} {s' : Value} (hrow : rowAt h a = some x) (hs : VR ρ h (.slice (some a) n c) s') (hro : x.ro = false) (hsz : x.sz = q.size) (hcl : a.off + c * q.size ≤ x.cells.length)
    {x' : Value} {m : Nat} {ys ys' : List Value} (hgt : c < n + m) (hb : (n + m) * q.bytes ≤ 2 ^ 47) (hy : VL ρ h ys ys') (hone : ys.all Pm.one = true) (hyl : ys.length = m * q.size)
    (hm : ∀ w : World, (Builtin.lenOf x').run P w = .ok m w) (hf : ∀ d, (Builtin.firstCells q.size m x').run P { w with drawn := d } = .ok ys'.toArray { w with drawn := d })
    {k : Nat} {h' : Hp} (hk : h'[k]? = some (some ⟨(x.cells.drop a.off).take (n * q.size) ++ ys, q.size, false⟩))
    (hkr : (k = a.block ∧ x.cells.length < ((x.cells.drop a.off).take (n * q.size) ++ ys).length) ∨ (k = h.length ∧ h'[a.block]? = some none))
    (hoth : ∀ j, j ≠ k → j ≠ a.block → h'[j]? = h[j]?) (hlen : h.length ≤ h'.length) :
    ∃ r' w' ρ', (Builtin.append_ #[t, t] ty #[s', x']).run P w = .ok r' w' ∧ VR ρ' h' (.slice (some ⟨k, 0, some ((x.cells.drop a.off).take (n * q.size) ++ ys).length⟩) (n + m) (n + m)) r' ∧ Rel ρ' h' w' ∧ Go1 ρ h w ρ' h' w' := by
  have hyl' : ys'.length = m * q.size := by rw [← hy.1]; exact hyl
  have hbl : (rowAt h a).isSome := by rw [hrow]; rfl
  obtain ⟨hspot, hx⟩ := rowAt_spot hrow
  -- a new block
  have fresh : ∀ (base : Option Addr) (cap : Nat) (olds : List Value), VL ρ h ((x.cells.drop a.off).take (n * q.size)) olds → ((x.cells.drop a.off).take (n * q.size)).length = n * q.size → (∃ p, ρ a.block = some p) → cap < n + m →
      (Builtin.firstCells q.size n (.slice base n cap)).run P w.drew = .ok olds.toArray w.drew →
      ∃ r' w' ρ', (Builtin.append_ #[t, t] ty #[.slice base n cap, x']).run P w = .ok r' w' ∧ VR ρ' h' (.slice (some ⟨k, 0, some ((x.cells.drop a.off).take (n * q.size) ++ ys).length⟩) (n + m) (n + m)) r' ∧ Rel ρ' h' w' ∧ Go1 ρ h w ρ' h' w' := by
    intro base cap olds ho hol ⟨p, hp⟩ hcap hfo
    have hrun := run_app_grow (P := P) (w := w) (ty := ty) ht hi hz hm (hf (w.drawn + 1)) hfo hcap hby hb
    have hge := grownCap_ge w (n + m) cap e
    have hol' : olds.length = n * q.size := by rw [← ho.1]; exact hol
    have hsize : (olds ++ ys' ++ (Builtin.zeroCells z.cells (grownCap w (n + m) cap e - (n + m))).toList).toArray.size = grownCap w (n + m) cap e * q.size := by
      simp only [List.size_toArray, List.length_append, Array.length_toList, size_zeroCells, hol', hyl', hzs]
      rw [← Nat.add_mul, ← Nat.add_mul]
      congr 1
      omega
    have hzl : ((x.cells.drop a.off).take (n * q.size) ++ ys).length = (n + m) * q.size := by rw [List.length_append, hol, hyl, Nat.add_mul]
    obtain ⟨R', G⟩ := R.regrow (p' := ⟨w.heap.size, 0, grownCap w (n + m) cap e * q.size⟩) (w' := w.drew.alloc (.cells (olds ++ ys' ++ (Builtin.zeroCells z.cells (grownCap w (n + m) cap e - (n + m))).toList).toArray e)) hx hp hro (x' := ⟨(x.cells.drop a.off).take (n * q.size) ++ ys, q.size, false⟩) rfl hk hkr hoth hlen rfl rfl rfl (by simp)
      (fun b hb1 _ => by show (w.heap.push _)[b]? = _; rw [Array.getElem?_push, if_neg (by omega)]) (.inr (Nat.le_refl _))
      (c := (olds ++ ys' ++ (Builtin.zeroCells z.cells (grownCap w (n + m) cap e - (n + m))).toList).toArray) (e := e) (by show (w.heap.push _)[w.heap.size]? = _; simp) hsize (by simp only [Nat.zero_add]; rw [hzl]; exact Nat.mul_le_mul_right _ hge)
      (app_cells (ho.append hy) _)
    refine ⟨_, _, _, hrun, ?_, R', G⟩
    have := VR.sl (ρ := upd ρ k ⟨w.heap.size, 0, grownCap w (n + m) cap e * q.size⟩) (h := h') k 0 ⟨(x.cells.drop a.off).take (n * q.size) ++ ys, q.size, false⟩ ⟨w.heap.size, 0, grownCap w (n + m) cap e * q.size⟩ (n + m) (n + m) (grownCap w (n + m) cap e) hk (by simp [upd]) (Nat.le_refl _) hge (fun _ => by simp)
    simpa using this
  rcases row_slice hrow hs with ⟨p, c', h1, hp, rfl, hnc, hcc, hbd⟩ | ⟨rfl, rfl, a', p, rfl, i1, i2⟩
  · have hbd := hbd hro
    rw [hsz] at hbd
    have hnl : ((x.cells.drop a.off).take (n * q.size)).length = n * q.size := by
      have := Nat.mul_le_mul_right q.size hnc
      simp; omega
    obtain ⟨olds, ho, hoc⟩ := R.seg hx hp a.off (n * q.size)
    by_cases hroom : n + m ≤ c'
    · -- in place
      obtain ⟨cc, te, hb1, hb2, hb3, hb4⟩ := R.own a.block x p hx hp hro
      have hmul := Nat.mul_le_mul_right q.size hroom
      rw [Nat.add_mul] at hmul
      have hst := run_storeCells_at P p.b (p.d + a.off + n * q.size) te ys' 0 cc w hb1 (by omega) (hy.one hone)
      have hrun := run_app_room (P := P) (w := w) (ty := ty) ht hi (base := some ⟨p.b, p.d + a.off, none⟩) (sLen := n) (sCap := c') hm (hf w.drawn) hroom (fun a1 ha1 => by cases ha1; rw [add_none]; exact hst) (fun hh => by cases hh)
      simp only [Nat.add_zero] at hrun
      obtain ⟨R', G⟩ := R.regrow (p' := ⟨p.b, p.d + a.off, p.bs⟩) (w' := w.setRow p.b (cc.toList.take (p.d + a.off + n * q.size) ++ ys' ++ cc.toList.drop (p.d + a.off + n * q.size + ys'.length)).toArray) hx hp hro (x' := ⟨(x.cells.drop a.off).take (n * q.size) ++ ys, q.size, false⟩) rfl hk hkr hoth hlen rfl rfl rfl (by simp [World.setRow])
        (fun b hb5 hb6 => setRow_other w p.b b _ hb6) (.inl rfl) (setRow_heap w p.b cc _ te _ hb1) (by simp; omega) (by simp only [List.length_append, hnl, hyl]; omega)
        (fun i v hi2 => by
          simp only [List.getElem?_toArray]
          rcases Nat.lt_or_ge i (n * q.size) with hlt | hge
          · rw [List.getElem?_append_left (by omega)] at hi2
            have hi3 : x.cells[a.off + i]? = some v := by
              rw [List.getElem?_take, if_pos hlt, List.getElem?_drop] at hi2
              exact hi2
            obtain ⟨v', g1, g2⟩ := hb4 _ v hi3
            refine ⟨v', ?_, g2⟩
            rw [← g1, List.append_assoc, List.getElem?_append_left (by simp; omega), List.getElem?_take, if_pos (by omega), Nat.add_assoc]
            simp
          · rw [List.getElem?_append_right (by omega), hnl] at hi2
            have hlt2 : i - n * q.size < ys'.length := by have := (List.getElem?_eq_some_iff.1 hi2).1; omega
            refine ⟨ys'[i - n * q.size], ?_, hy.2 _ v _ hi2 (List.getElem?_eq_getElem hlt2)⟩
            rw [List.append_assoc, List.getElem?_append_right (by simp; omega), List.getElem?_append_left (by simp; omega)]
            simp only [List.length_take, Array.length_toList]
            rw [show p.d + a.off + i - min (p.d + a.off + n * q.size) cc.size = i - n * q.size by omega]
            exact List.getElem?_eq_getElem hlt2)
      refine ⟨_, _, _, hrun, ?_, R', G⟩
      have := VR.sl (ρ := upd ρ k ⟨p.b, p.d + a.off, p.bs⟩) (h := h') k 0 ⟨(x.cells.drop a.off).take (n * q.size) ++ ys, q.size, false⟩ ⟨p.b, p.d + a.off, p.bs⟩ (n + m) (n + m) c' hk (by simp [upd]) (Nat.le_refl _) hroom (fun _ => by simpa using hbd)
      simpa using this
    · refine fresh _ _ olds ho hnl ⟨p, hp⟩ (by omega) ?_
      exact run_first_some (P := P) (w := w.drew) (by rw [← ho.1]; exact hnl) hoc
  · refine fresh _ _ [] (by simpa using VL.nil) (by simp) ⟨p, i2⟩ (by omega) ?_
    simp [Builtin.firstCells, loadCells, loadCellsFrom]

theorem set_same {α : Type} {l : List α} {i : Nat} {x : α} (hx : l[i]? = some x) : l.set i x = l := by
  apply List.ext_getElem?
  intro j
  rw [List.getElem?_set]
  split
  · rename_i e
    subst e
    have := (List.getElem?_eq_some_iff.1 hx).1
    rw [if_pos this]
    exact hx.symm
  · rfl

theorem append_ok (R : Rel ρ h w) {t ty : TypeId} {s s' x x' r : Value} {h' : Hp} (hs : VR ρ h s s') (hx : VR ρ h x x') (e : appendP P h t s x = some (r, h')) :
    ∃ r' w' ρ', (Builtin.append_ #[t, t] ty #[s', x']).run P w = .ok r' w' ∧ VR ρ' h' r r' ∧ Rel ρ' h' w' ∧ Go1 ρ h w ρ' h' w' := by
  unfold appendP at e
  split at e
  · rename_i eT ht
    split at e
    · rename_i q z m hi hz hm
      obtain ⟨i, hi', hz', hp, hzs⟩ := zero_of hz
      rw [hi] at hi'; cases hi'
      split at e
      · rename_i ys hys
        obtain ⟨hyl, ys', hy, hf⟩ := seen_ok (P := P) R hx hys hm
        have hlen := fun w => len_vr (P := P) hx hm w
        have hyl' : ys'.length = m * q.size := by rw [← hy.1]; exact hyl
        have hf2 : ∀ d, (Builtin.firstCells q.size m x').run P { w with drawn := d } = .ok ys'.toArray { w with drawn := d } := by
          intro d
          have := hf m d (Nat.le_refl _)
          rwa [List.take_of_length_le (by omega)] at this
        split at e
        · rename_i hc
          obtain ⟨hq, hby, hone⟩ := hc
          split at e
          · -- nil
            obtain ⟨base, rfl⟩ : ∃ base, s' = .slice base 0 0 := by
              cases hs
              · exact ⟨none, rfl⟩
              · exact ⟨some _, rfl⟩
            split at e
            · rename_i h0
              cases e
              subst h0
              have hy0 : ys' = [] := List.eq_nil_of_length_eq_zero (by omega)
              subst hy0
              exact ⟨_, w, ρ, run_app_room (P := P) (w := w) (ty := ty) ht hi (base := base) (sLen := 0) (sCap := 0) hlen (hf2 w.drawn) (by omega) (fun a ha => by simp [storeCells]) (fun _ => rfl), hs, R, Go1.refl _ _ _⟩
            · rename_i h0
              split at e
              · rename_i hb
                simp only [Option.some.injEq, Prod.mk.injEq] at e
                obtain ⟨rfl, rfl⟩ := e
                have hrun := run_app_grow (P := P) (w := w) (ty := ty) ht hi hz' (base := base) (sLen := 0) (sCap := 0) (olds := []) hlen (hf2 (w.drawn + 1)) (by cases base <;> simp [Builtin.firstCells, loadCells, loadCellsFrom]) (by omega) hby (by simpa using hb)
                simp only [Nat.zero_add, List.nil_append] at hrun
                have hge := grownCap_ge w m 0 eT
                have hsize : (ys' ++ (Builtin.zeroCells z.cells (grownCap w m 0 eT - m)).toList).toArray.size = grownCap w m 0 eT * q.size := by
                  simp only [List.size_toArray, List.length_append, Array.length_toList, size_zeroCells, hyl', hzs]
                  rw [← Nat.add_mul]
                  congr 1
                  omega
                obtain ⟨R', G⟩ := (R.drew (w.drawn + 1)).newc (l := ys) (c := (ys' ++ (Builtin.zeroCells z.cells (grownCap w m 0 eT - m)).toList).toArray) (by rw [hsize, hyl]; exact Nat.mul_le_mul_right _ hge) (fun i v hi2 => by simpa using app_cells (z := z) hy _ i v hi2) q.size eT
                refine ⟨_, _, _, hrun, ?_, R', (Go1.drew ρ h w (w.drawn + 1)).trans G⟩
                have := VR.sl (ρ := upd ρ h.length ⟨w.heap.size, 0, (ys' ++ (Builtin.zeroCells z.cells (grownCap w m 0 eT - m)).toList).toArray.size⟩) (h := h ++ [some ⟨ys, q.size, false⟩]) h.length 0 ⟨ys, q.size, false⟩ ⟨w.heap.size, 0, (ys' ++ (Builtin.zeroCells z.cells (grownCap w m 0 eT - m)).toList).toArray.size⟩ m m (grownCap w m 0 eT) (by simp) (by simp [upd]) (Nat.le_refl _) hge (fun _ => by rw [hsize]; simp)
                simpa [newP] using this
              · cases e
          · rename_i a n c
            split at e
            · rename_i row hrow
              split at e
              · rename_i hcond
                obtain ⟨hro, hrs, hcl, hb⟩ := hcond
                obtain ⟨hspot, hx0⟩ := rowAt_spot hrow
                split at e
                · -- in place
                  rename_i hroom
                  simp only [Option.some.injEq, Prod.mk.injEq] at e
                  obtain ⟨rfl, rfl⟩ := e
                  rcases row_slice hrow hs with ⟨p, c', h1, hp2, rfl, hnc, hcc, hbd⟩ | ⟨rfl, rfl, a', p, rfl, i1, i2⟩
                  · have hmul := Nat.mul_le_mul_right q.size hroom
                    rw [Nat.add_mul] at hmul
                    obtain ⟨w', hst, R', G⟩ := R.store (P := P) h1 hp2 hro hy hone (a.off + n * q.size) (by omega)
                    have hrun := run_app_room (P := P) (w := w) (ty := ty) ht hi (base := some ⟨p.b, p.d + a.off, none⟩) (sLen := n) (sCap := c') hlen (hf2 w.drawn) (by omega) (w' := w') (fun a1 ha1 => by cases ha1; rw [add_none, Nat.add_assoc]; exact hst) (fun hh => by cases hh)
                    refine ⟨_, w', ρ, hrun, ?_, R', G⟩
                    have := VR.sl (ρ := ρ) (h := h) a.block a.off row p (n + m) c c' h1 hp2 hroom hcc hbd
                    rw [← hspot] at this
                    exact this.step G.step
                  · have hm0 : m = 0 := by omega
                    subst hm0
                    have hys0 : ys = [] := List.eq_nil_of_length_eq_zero (by omega)
                    have hy0 : ys' = [] := List.eq_nil_of_length_eq_zero (by omega)
                    subst hys0; subst hy0
                    rw [show ({ row with cells := splice row.cells (a.off + 0 * q.size) [] } : Row) = row from rfl, set_same hx0]
                    refine ⟨_, w, ρ, run_app_room (P := P) (w := w) (ty := ty) ht hi (base := some a') (sLen := 0) (sCap := 0) hlen (hf2 w.drawn) (by omega) (w' := w) (fun a1 ha1 => by cases ha1; simp [storeCells]) (fun _ => rfl), ?_, R, Go1.refl _ _ _⟩
                    have := VR.slZero (ρ := ρ) (h := h) a.block a.off row p a' i1 i2
                    rw [← hspot] at this
                    exact this
                · rename_i hnroom
                  split at e
                  · -- grown at its end
                    rename_i hend
                    obtain ⟨h0, hend⟩ := hend
                    simp only [Option.some.injEq, Prod.mk.injEq] at e
                    obtain ⟨rfl, rfl⟩ := e
                    have hzs2 : (row.cells.drop a.off).take (n * q.size) ++ ys = row.cells ++ ys := by rw [h0, List.drop_zero, List.take_of_length_le (by omega)]
                    have hlt : a.block < h.length := (List.getElem?_eq_some_iff.1 hx0).1
                    have hm1 : 0 < m * q.size := by
                      refine Nat.mul_pos ?_ hq
                      rcases Nat.eq_zero_or_pos m with hm0 | hm0
                      · exfalso
                        subst hm0
                        have : c * q.size ≤ n * q.size := by omega
                        have := Nat.le_of_mul_le_mul_right this hq
                        rcases row_slice hrow hs with ⟨p, c', _, _, _, hnc, _, _⟩ | ⟨rfl, rfl, _⟩ <;> omega
                      · exact hm0
                    have := app_tail (P := P) R (ty := ty) ht hi hz' hzs hq hby hrow hs hro hrs hcl (by omega) hb hy hone hyl hlen hf2 (k := a.block) (h' := h.set a.block (some { row with cells := row.cells ++ ys })) (by rw [hzs2, ← hrs]; simp [hlt, hro]) (.inl ⟨rfl, by rw [hzs2]; simp; omega⟩)
                      (fun j hj _ => by rw [List.getElem?_set_ne (fun e2 => hj e2.symm)]) (by simp)
                    rw [hzs2] at this
                    exact this
                  · rename_i hnend
                    simp only [Option.some.injEq, Prod.mk.injEq] at e
                    obtain ⟨rfl, rfl⟩ := e
                    have hlt : a.block < h.length := (List.getElem?_eq_some_iff.1 hx0).1
                    have := app_tail (P := P) R (ty := ty) ht hi hz' hzs hq hby hrow hs hro hrs hcl (by omega) hb hy hone hyl hlen hf2 (k := h.length) (h' := h.set a.block none ++ [some ⟨(row.cells.drop a.off).take (n * q.size) ++ ys, q.size, false⟩]) (by rw [List.getElem?_append_right (by simp)]; simp) (.inr ⟨rfl, by rw [List.getElem?_append_left (by simpa using hlt)]; simp [hlt]⟩)
                      (fun j hj hj2 => by
                        rcases Nat.lt_or_ge j h.length with hl | hl
                        · rw [List.getElem?_append_left (by simpa using hl), List.getElem?_set_ne (fun e2 => hj2 e2.symm)]
                        · rw [List.getElem?_append_right (by simpa using hl), List.getElem?_eq_none (by simp; omega), List.getElem?_eq_none (by omega)]) (by simp)
                    simpa [newP] using this
              · cases e
            · cases e
          · cases e
        · cases e
      · cases e
    · cases e
  · cases e
end Go.Pm

/- The builtins; all operations that call nothing. -/
set_option linter.unusedVariables false
set_option linter.unusedSimpArgs false
namespace Go.Pm
variable {P : Program} {ρ : Mp} {h : Hp} {w : World}

theorem all_take {l : List Value} (n : Nat) (e : l.all Pm.one = true) : (l.take n).all Pm.one = true := by
  rw [List.all_eq_true] at *
  exact fun v hv => e v (List.mem_of_mem_take hv)

theorem copy_ok (R : Rel ρ h w) {t u ty : TypeId} {d d' x x' r : Value} {h' : Hp} (hd : VR ρ h d d') (hx : VR ρ h x x') (e : copyP P h t d x = some (r, h')) :
    ∃ r' w', (Builtin.copy_ #[t, u] ty #[d', x']).run P w = .ok r' w' ∧ VR ρ h' r r' ∧ Rel ρ h' w' ∧ Go1 ρ h w ρ h' w' := by
  unfold copyP at e
  split at e
  · rename_i eT n m ht hn hm
    split at e
    · rename_i q hi
      have hlen := fun w => len_vr (P := P) hx hm w
      split at e
      · rename_i y hys
        cases e
        obtain ⟨hyl, ys', hy, hf⟩ := seen_ok (P := P) R hx hys hm
        have h0 := hf 0 w.drawn (Nat.zero_le _)
        simp only [Nat.zero_mul, List.take_zero] at h0
        cases hd
        · exact ⟨.int .i64 0, w, by simp [Builtin.copy_, run_underlying ht, hlen, run_size hi, h0, goInt], .int _ _, R, Go1.refl _ _ _⟩
        · exact ⟨.int .i64 0, w, by simp [Builtin.copy_, run_underlying ht, hlen, run_size hi, h0, goInt, storeCells], .int _ _, R, Go1.refl _ _ _⟩
      · rename_i a n' c ys hys
        cases hn
        split at e
        · rename_i row hrow
          split at e
          · rename_i hc
            obtain ⟨hro, hrs, hcl, hone⟩ := hc
            simp only [Option.some.injEq, Prod.mk.injEq] at e
            obtain ⟨rfl, rfl⟩ := e
            obtain ⟨hyl, ys', hy, hf⟩ := seen_ok (P := P) R hx hys hm
            obtain ⟨hspot, hx0⟩ := rowAt_spot hrow
            have h0 := hf (min m n) w.drawn (Nat.min_le_left _ _)
            have hle := Nat.mul_le_mul_right q.size (Nat.min_le_right m n)
            rcases row_slice hrow hd with ⟨p, c', h1, hp2, rfl, hnc, hcc, hbd⟩ | ⟨rfl, rfl, a', p, rfl, i1, i2⟩
            · obtain ⟨w', hst, R', G⟩ := R.store (P := P) h1 hp2 hro (hy.take (min m n * q.size)) (all_take _ hone) a.off (by simp; omega)
              refine ⟨_, w', ?_, .int _ _, R', G⟩
              have h0' : (Builtin.firstCells q.size (m.min n) x').run P w = .ok (ys'.take (min m n * q.size)).toArray w := h0
              simp [Builtin.copy_, run_underlying ht, hlen, run_size hi, h0', hst, goInt]
            · refine ⟨_, w, ?_, .int _ _, ?_, ?_⟩
              · have h0' : (Builtin.firstCells q.size (m.min 0) x').run P w = .ok (ys'.take (min m 0 * q.size)).toArray w := h0
                simp only [Nat.min_zero, Nat.zero_mul, List.take_zero] at h0'
                simp [Builtin.copy_, run_underlying ht, hlen, run_size hi, h0', goInt, storeCells]
              · simp only [Nat.min_zero, Nat.zero_mul, List.take_zero]
                rw [show ({ row with cells := splice row.cells a.off [] } : Row) = row from rfl, set_same hx0]; exact R
              · simp only [Nat.min_zero, Nat.zero_mul, List.take_zero]
                rw [show ({ row with cells := splice row.cells a.off [] } : Row) = row from rfl, set_same hx0]; exact Go1.refl _ _ _
          · cases e
        · cases e
      · cases e
    · cases e
  · cases e

theorem lenB_ok {t : TypeId} {ts : List TypeId} {x x' r : Value} {l : List Value} {ty : TypeId} (hx : VR ρ h x x') (e : lenB P t x = some r) : (Builtin.len_ (t :: ts).toArray ty (x' :: l).toArray).run P w = .ok r w ∧ VR ρ h r r := by
  unfold lenB at e
  split at e
  · rename_i s hu
    cases hx; cases e
    exact ⟨by simp [Builtin.len_, run_underlying hu, goInt], .int _ _⟩
  · rename_i n el hu
    cases e
    refine ⟨?_, .int _ _⟩
    simp [Builtin.len_, run_underlying hu, goInt]
  · rename_i el a n c hu
    cases e
    refine ⟨?_, .int _ _⟩
    cases hx <;> simp [Builtin.len_, run_underlying hu, goInt]
  · cases e

theorem fold_max : ∀ (l l' : List Value) (a r : Int), VL ρ h l l' → foldI (fun x y => if y > x then y else x) a l = some r → (l'.foldlM Builtin.max2 (.int .i64 a)).run P w = .ok (.int .i64 r) w
  | [], l', a, r, hl, e => by rw [hl.nil_left]; cases e; simp
  | x :: l, l', a, r, hl, e => by
    obtain ⟨x', m', rfl, h1, h2⟩ := hl.head
    cases x <;> try (cases e; done)
    rename_i k n
    cases k <;> try (cases e; done)
    cases h1
    simp only [foldI] at e
    simp [Builtin.max2]
    simpa using fold_max l m' _ r h2 e
theorem fold_min : ∀ (l l' : List Value) (a r : Int), VL ρ h l l' → foldI (fun x y => if y < x then y else x) a l = some r → (l'.foldlM Builtin.min2 (.int .i64 a)).run P w = .ok (.int .i64 r) w
  | [], l', a, r, hl, e => by rw [hl.nil_left]; cases e; simp
  | x :: l, l', a, r, hl, e => by
    obtain ⟨x', m', rfl, h1, h2⟩ := hl.head
    cases x <;> try (cases e; done)
    rename_i k n
    cases k <;> try (cases e; done)
    cases h1
    simp only [foldI] at e
    simp [Builtin.min2]
    simpa using fold_min l m' _ r h2 e

theorem builtin_ok (R : Rel ρ h w) {b : Builtin} {ts : List TypeId} {args args' : List Value} {r : Value} {h' : Hp} (ha : VL ρ h args args') (e : builtinP P h b ts args = some (r, h')) (ty : TypeId) (cs : Array Bool) :
    Ok P ρ h w ((Go.builtin b ts.toArray ty cs args'.toArray).run P w) r h' := by
  unfold builtinP at e
  split at e
  · rename_i t ts x l
    obtain ⟨v, hv, e⟩ := Option.map_eq_some_iff.1 e
    cases e
    obtain ⟨x', l', rfl, h1, _⟩ := ha.head
    obtain ⟨h2, h3⟩ := lenB_ok (P := P) (w := w) (ts := ts) (l := l') (ty := ty) h1 hv
    exact Ok.same R (by simp only [Go.builtin, Sem.run_bind, h2, Result.andThen_ok, Sem.run_pure]) h3
  · rename_i t u s x
    split at e
    · rename_i htu
      subst htu
      obtain ⟨s', l', rfl, h1, h2⟩ := ha.head
      obtain ⟨x', l'', rfl, h3, h4⟩ := h2.head
      rw [h4.nil_left]
      obtain ⟨r', w', ρ', hr, hv, R', G⟩ := append_ok (P := P) (ty := ty) R h1 h3 e
      exact ⟨r', w', ρ', .inl (by simp only [Go.builtin, Sem.run_bind, hr, Result.andThen_ok, Sem.run_pure]), hv, R', G⟩
    · cases e
  · rename_i t u d x
    obtain ⟨s', l', rfl, h1, h2⟩ := ha.head
    obtain ⟨x', l'', rfl, h3, h4⟩ := h2.head
    rw [h4.nil_left]
    obtain ⟨r', w', hr, hv, R', G⟩ := copy_ok (P := P) (u := u) (ty := ty) R h1 h3 e
    exact ⟨r', w', ρ, .inl (by simp only [Go.builtin, Sem.run_bind, hr, Result.andThen_ok, Sem.run_pure]), hv, R', G⟩
  · rename_i a l
    obtain ⟨v, hv, e⟩ := Option.map_eq_some_iff.1 e
    cases e
    obtain ⟨x', l', rfl, h1, h2⟩ := ha.head
    cases h1
    have := fold_max (P := P) (w := w) l l' a v h2 hv
    exact Ok.same R (by simp only [Go.builtin, Builtin.max_, Sem.run_bind, this, Result.andThen_ok, Sem.run_pure]) (.int _ _)
  · rename_i a l
    obtain ⟨v, hv, e⟩ := Option.map_eq_some_iff.1 e
    cases e
    obtain ⟨x', l', rfl, h1, h2⟩ := ha.head
    cases h1
    have := fold_min (P := P) (w := w) l l' a v h2 hv
    exact Ok.same R (by simp only [Go.builtin, Builtin.min_, Sem.run_bind, this, Result.andThen_ok, Sem.run_pure]) (.int _ _)
  · cases e

theorem evParts_pl {s : Slots} {a : Act} (S : SR ρ h s a.tmps) : ∀ (ps : List (Nat × Operand)) (l : List (Nat × Value)), evParts s ps = some l → PL ρ h l (ps.map fun p => (p.1, a.eval p.2))
  | [], l, e => by cases e; exact ⟨rfl, fun i x x' h1 => by simp at h1⟩
  | (i, x) :: ps, l, e => by
    simp only [evParts] at e
    obtain ⟨v, hv, e⟩ := Option.bind_eq_some_iff.1 e
    obtain ⟨m, hm, rfl⟩ := Option.map_eq_some_iff.1 e
    have ih := evParts_pl S ps m hm
    refine ⟨by simpa using ih.1, fun j y y' h1 h2 => ?_⟩
    cases j with
    | zero => simp at h1 h2; subst h1; subst h2; exact ⟨rfl, ev_vr S hv⟩
    | succ j => simp at h1 h2; exact ih.2 j y y' h1 (by simpa using h2)
theorem evO_ov {s : Slots} {a : Act} (S : SR ρ h s a.tmps) {x : Option Operand} {v : Option Value} (e : evO s x = some v) : OV ρ h v (x.map a.eval) := by
  cases x with
  | none => cases e; exact trivial
  | some x =>
    obtain ⟨u, hu, rfl⟩ := Option.map_eq_some_iff.1 e
    exact ev_vr S hu

theorem op1_ok (R : Rel ρ h w) {s : Slots} {a : Act} (S : SR ρ h s a.tmps) {o : Oper} {v : Value} {h' : Hp} (e : op1 P s h o.op = some (v, h')) : Ok P ρ h w ((execOp a.eval o).run P w) v h' := by
  cases ho : o.op <;> rw [ho] at e <;> simp only [op1] at e <;> try (cases e; done)
  case move x =>
    obtain ⟨u, hu, e⟩ := Option.map_eq_some_iff.1 e
    cases e
    exact Ok.same R (by simp [execOp, ho]) (ev_vr S hu)
  case assign x =>
    obtain ⟨u, hu, e⟩ := Option.map_eq_some_iff.1 e
    cases e
    exact Ok.same R (by simp [execOp, ho]) (ev_vr S hu)
  case pick c x y =>
    split at e
    · rename_i t hc
      obtain ⟨u, hu, e⟩ := Option.map_eq_some_iff.1 e
      cases e
      have h1 := ev_vr S hc
      generalize hcv : a.eval c = cv at h1
      cases h1
      refine Ok.same R (v' := a.eval (if t then x else y)) (by simp [execOp, ho, hcv, asBool]; cases t <;> rfl) (ev_vr S hu)
    · cases e
  case alloc eT =>
    obtain ⟨z, hz, e⟩ := Option.map_eq_some_iff.1 e
    cases e
    obtain ⟨r', w', ρ', hr, hv, R', G⟩ := alloc_ok R hz
    exact ⟨r', w', ρ', .inl (by simp [execOp, ho, hr]), hv, R', G⟩
  case box eT x =>
    obtain ⟨u, hu, e⟩ := Option.bind_eq_some_iff.1 e
    split at e
    · rename_i h1
      cases e
      obtain ⟨r', w', ρ', hr, hv, R', G⟩ := box_ok (P := P) (eT := eT) R (ev_vr S hu) h1
      exact ⟨r', w', ρ', .inl (by simp [execOp, ho, hr]), hv, R', G⟩
    · cases e
  case build t ps =>
    obtain ⟨l, hl, e⟩ := Option.bind_eq_some_iff.1 e
    obtain ⟨r, hr, e⟩ := Option.map_eq_some_iff.1 e
    cases e
    obtain ⟨r', h1, h2⟩ := build_ok (w := w) (evParts_pl S _ l hl) hr
    have h3 : (ps.map fun (i, x) => (i, a.eval x)) = (ps.toList.map fun p => (p.1, a.eval p.2)).toArray := by
      apply Array.ext'; simp
    exact Ok.same R (by simp only [execOp, ho, h3, Sem.run_bind, h1, Result.andThen_ok, Sem.run_pure]) h2
  case buildSlice t n ps =>
    obtain ⟨l, hl, e⟩ := Option.bind_eq_some_iff.1 e
    obtain ⟨r', w', ρ', hr, hv, R', G⟩ := buildSlice_ok R (evParts_pl S _ l hl) e
    have h3 : (ps.map fun (i, x) => (i, a.eval x)) = (ps.toList.map fun p => (p.1, a.eval p.2)).toArray := by
      apply Array.ext'; simp
    exact ⟨r', w', ρ', .inl (by simp only [execOp, ho, h3, Sem.run_bind, hr, Result.andThen_ok, Sem.run_pure]), hv, R', G⟩
  case load t x =>
    obtain ⟨u, hu, e⟩ := Option.bind_eq_some_iff.1 e
    obtain ⟨r, hr, e⟩ := Option.map_eq_some_iff.1 e
    cases e
    obtain ⟨r', h1, h2⟩ := load_ok (P := P) R (ev_vr S hu) hr
    exact Ok.same R (by simp [execOp, ho, h1]) h2
  case store t x y =>
    obtain ⟨u, hu, e⟩ := Option.bind_eq_some_iff.1 e
    obtain ⟨r, hr, e⟩ := Option.bind_eq_some_iff.1 e
    obtain ⟨h2, hh, e⟩ := Option.map_eq_some_iff.1 e
    cases e
    obtain ⟨w', h1, R', G⟩ := store_ok (P := P) R (ev_vr S hu) (ev_vr S hr) hh
    exact ⟨undef, w', ρ, .inr ⟨by simp [execOp, ho, h1], rfl⟩, undef_vr, R', G⟩
  case nilCheck x =>
    split at e
    · rename_i ad hx
      cases e
      have h1 := ev_vr S hx
      generalize hcv : a.eval x = cv at h1
      cases h1 with
      | ptr r o' y p g1 g2 => exact Ok.same R (by simp [execOp, ho, hcv]) (.ptr r o' y p g1 g2)
      | ptrGone _ a' g => exact Ok.same R (by simp [execOp, ho, hcv]) (.ptrGone _ a' g)
    · rename_i f b c hx
      cases e
      have h1 := ev_vr S hx
      generalize hcv : a.eval x = cv at h1
      cases h1 with
      | func _ _ b' _ c' g1 g2 g3 g4 => exact Ok.same R (by simp [execOp, ho, hcv]) (.func _ _ b' _ c' g1 g2 g3 g4)
    · cases e
  case binOp op t x y yt =>
    obtain ⟨u, hu, e⟩ := Option.bind_eq_some_iff.1 e
    obtain ⟨r, hr, e⟩ := Option.bind_eq_some_iff.1 e
    obtain ⟨v1, hv1, e⟩ := Option.map_eq_some_iff.1 e
    cases e
    obtain ⟨h1, h2⟩ := binN_ok (P := P) (w := w) (ev_vr S hu) (ev_vr S hr) hv1 (fun g => by rw [nilC_eq g]; rfl) x y
    refine Ok.same R ?_ h2
    simp only [execOp, ho]
    rw [Sem.run_bind, h1]
    rfl
  case unOp op t x =>
    obtain ⟨u, hu, e⟩ := Option.bind_eq_some_iff.1 e
    obtain ⟨v1, hv1, e⟩ := Option.map_eq_some_iff.1 e
    cases e
    obtain ⟨h1, h2⟩ := un_ok (P := P) (w := w) (ev_vr S hu) hv1
    exact Ok.same R (by simp [execOp, ho, h1]) h2
  case convert t u x =>
    obtain ⟨u1, hu, e⟩ := Option.bind_eq_some_iff.1 e
    obtain ⟨v1, hv1, e⟩ := Option.map_eq_some_iff.1 e
    cases e
    obtain ⟨h1, h2⟩ := conv_ok (P := P) (w := w) (ev_vr S hu) hv1
    exact Ok.same R (by simp [execOp, ho, h1]) h2
  case makeFunc fn first cap =>
    obtain ⟨l, hl, e⟩ := Option.bind_eq_some_iff.1 e
    obtain ⟨m, hm, e⟩ := Option.map_eq_some_iff.1 e
    cases e
    have h1 := evs_vl S _ l hl
    have h2 := evs_vl S _ m hm
    refine Ok.same R (v' := .func fn (first.map a.eval) (cap.map a.eval)) (by simp [execOp, ho, Instr.makeFunc]) (.func _ _ _ _ _ (by simpa using h1.1) (by simpa using h2.1) (fun i u u' g1 g2 => h1.2 i u u' (by simpa using g1) (by simpa using g2)) (fun i u u' g1 g2 => h2.2 i u u' (by simpa using g1) (by simpa using g2)))
  case makeSlice t l c =>
    obtain ⟨u, hu, e⟩ := Option.bind_eq_some_iff.1 e
    obtain ⟨r, hr, e⟩ := Option.bind_eq_some_iff.1 e
    obtain ⟨r', w', ρ', hrun, hv, R', G⟩ := make_ok R (ev_vr S hu) (ev_vr S hr) e
    exact ⟨r', w', ρ', .inl (by simp [execOp, ho, hrun]), hv, R', G⟩
  case slice t x lo hi mx =>
    cases mx with
    | some _ => cases e
    | none =>
      simp only at e
      obtain ⟨u, hu, e⟩ := Option.bind_eq_some_iff.1 e
      obtain ⟨l, hl, e⟩ := Option.bind_eq_some_iff.1 e
      obtain ⟨hh, hhi, e⟩ := Option.bind_eq_some_iff.1 e
      obtain ⟨r, hr, e⟩ := Option.map_eq_some_iff.1 e
      cases e
      obtain ⟨r', h1, h2⟩ := slice_ok (P := P) (w := w) (ev_vr S hu) (evO_ov S hl) (evO_ov S hhi) hr
      exact Ok.same R (by simp [execOp, ho, h1]) h2
  case fieldAddr t x j =>
    split at e
    · rename_i fs ad hfs hx
      split at e
      · rename_i f hf
        split at e
        · rename_i i hi
          split at e
          · rename_i hs
            cases e
            obtain ⟨r', h1, h2⟩ := fieldAddr_ok (P := P) (w := w) hfs hf hi hs (ev_vr S hx)
            exact Ok.same R (by simp [execOp, ho, h1]) h2
          · cases e
        · cases e
      · cases e
    · cases e
  case field t x j =>
    split at e
    · rename_i fs cs hfs hx
      split at e
      · rename_i f hf
        obtain ⟨r, hr, e⟩ := Option.map_eq_some_iff.1 e
        cases e
        obtain ⟨r', h1, h2⟩ := field_ok (P := P) (w := w) hfs hf (ev_vr S hx) hr
        exact Ok.same R (by simp [execOp, ho, h1]) h2
      · cases e
    · cases e
  case indexAddr t x i =>
    obtain ⟨u, hu, e⟩ := Option.bind_eq_some_iff.1 e
    obtain ⟨y, hy, e⟩ := Option.bind_eq_some_iff.1 e
    obtain ⟨r, hr, e⟩ := Option.map_eq_some_iff.1 e
    cases e
    obtain ⟨r', h1, h2⟩ := indexAddr_ok (P := P) (w := w) (ev_vr S hu) (ev_vr S hy) hr
    exact Ok.same R (by simp [execOp, ho, h1]) h2
  case index t x i =>
    obtain ⟨u, hu, e⟩ := Option.bind_eq_some_iff.1 e
    obtain ⟨y, hy, e⟩ := Option.bind_eq_some_iff.1 e
    obtain ⟨r, hr, e⟩ := Option.map_eq_some_iff.1 e
    cases e
    obtain ⟨r', h1, h2⟩ := index_ok (P := P) (w := w) (ev_vr S hu) (ev_vr S hy) hr
    exact Ok.same R (by simp [execOp, ho, h1]) h2
  case extract x j =>
    split at e
    · rename_i vs hx
      obtain ⟨r, hr, e⟩ := Option.map_eq_some_iff.1 e
      cases e
      obtain ⟨vs', h1, h2⟩ := tuple_list (ev_vr S hx)
      have hlt : j < vs'.size := by
        have g1 := (Array.getElem?_eq_some_iff.1 hr).1
        have g2 := h2.1
        simp at g2
        omega
      refine Ok.same R (v' := vs'[j]) (by simp [execOp, ho, h1, Instr.extract, hlt]) (h2.2 j _ _ (by simpa using hr) (by simp [hlt]))
    · cases e
end Go.Pm

/- Operations that may come up in any order. -/
set_option linter.unusedVariables false
set_option linter.unusedSimpArgs false
namespace Go.Pm
variable {P : Program} {ρ : Mp} {h : Hp} {w : World}

/-! ### a run in the text's order, as its steps -/
structure Tr (F : Oper → St → Option (Value × Hp)) (N : Nat) (ops : Array Oper) (l : List Oper) (st st1 : St) (V : Nat → Value) (L : Nat → Nat) (X : Nat → Slots) : Prop where
  h0 : L 0 = st.h.length
  x0 : X 0 = st.s
  pre : st.h = st1.h.take (L 0)
  hn : L l.length = st1.h.length
  xn : X l.length = st1.s
  mono : ∀ i, i < l.length → L i ≤ L (i + 1)
  step : ∀ i o, l[i]? = some o → dstOk N o.dst = true ∧ X (i + 1) = put (X i) o.dst (V i) ∧
    ((wantP ops (keep (o.looksAt ops) (X i)) o = some false ∧ V i = undef ∧ L (i + 1) = L i) ∨
     (wantP ops (keep (o.looksAt ops) (X i)) o = some true ∧ F o ⟨keep (o.looksAt ops) (X i), st1.h.take (L i)⟩ = some (V i, st1.h.take (L (i + 1)))))
  own : ∀ i, i < l.length → ∀ r x, L i ≤ r → r < L (i + 1) → st1.h[r]? = some (some x) → x.ro = false

theorem trace (F : Oper → St → Option (Value × Hp)) (N : Nat) (ops : Array Oper) : ∀ (l : List Oper) (st st1 : St), runH F N ops l st = some st1 → ∃ V L X, Tr F N ops l st st1 V L X
  | [], st, st1, e => by
    cases e
    exact ⟨fun _ => undef, fun _ => st.h.length, fun _ => st.s, rfl, rfl, by simp, rfl, rfl, fun i hi => by simp at hi, fun i o hi => by simp at hi, fun i hi => by simp at hi⟩
  | o :: r, st, st1, e => by
    simp only [runH] at e
    split at e
    · rename_i hdst
      have build : ∀ (v : Value) (h' : Hp), st.h <+: h' → (∀ r x, st.h.length ≤ r → h'[r]? = some (some x) → x.ro = false) → runH F N ops r ⟨put st.s o.dst v, h'⟩ = some st1 →
          (∀ H : Hp, h' <+: H → (wantP ops (keep (o.looksAt ops) st.s) o = some false ∧ v = undef ∧ h'.length = st.h.length) ∨
            (wantP ops (keep (o.looksAt ops) st.s) o = some true ∧ F o ⟨keep (o.looksAt ops) st.s, H.take st.h.length⟩ = some (v, H.take h'.length))) → ∃ V L X, Tr F N ops (o :: r) st st1 V L X := by
        intro v h' hpre hown hrun hst
        obtain ⟨V, L, X, T⟩ := trace F N ops r _ st1 hrun
        have h0 : L 0 = h'.length := T.h0
        have hpre1 : h' <+: st1.h := by
          have := T.pre
          rw [h0] at this
          exact List.prefix_iff_eq_take.2 this
        refine ⟨fun i => match i with | 0 => v | i + 1 => V i, fun i => match i with | 0 => st.h.length | i + 1 => L i, fun i => match i with | 0 => st.s | i + 1 => X i, rfl, rfl, List.prefix_iff_eq_take.1 (hpre.trans hpre1), ?_, ?_, fun i hi => ?_, fun i q hi => ?_, fun i hi k x h1 h2 h3 => ?_⟩
        · exact T.hn
        · exact T.xn
        · cases i with
          | zero => show st.h.length ≤ L 0; rw [h0]; exact hpre.length_le
          | succ i => exact T.mono i (by simpa using hi)
        · cases i with
          | zero =>
            simp only [List.getElem?_cons_zero, Option.some.injEq] at hi
            subst hi
            refine ⟨hdst, T.x0, ?_⟩
            have := hst st1.h hpre1
            show (wantP ops (keep (o.looksAt ops) st.s) o = some false ∧ v = undef ∧ L 0 = st.h.length) ∨ (wantP ops (keep (o.looksAt ops) st.s) o = some true ∧ F o ⟨keep (o.looksAt ops) st.s, st1.h.take st.h.length⟩ = some (v, st1.h.take (L 0)))
            rw [h0]
            exact this
          | succ i => exact T.step i q (by simpa using hi)
        · cases i with
          | zero =>
            have h2' : k < h'.length := by
              have h2'' : k < L 0 := h2
              rwa [h0] at h2''
            refine hown k x h1 ?_
            have := List.prefix_iff_eq_take.1 hpre1
            rw [this, take_get h2']
            exact h3
          | succ i => exact T.own i (by simpa using hi) k x h1 h2 h3
      split at e
      · rename_i hw
        refine build undef st.h List.prefix_rfl (fun r x h1 h2 => ?_) e (fun H hH => .inl ⟨hw, rfl, rfl⟩)
        have := (List.getElem?_eq_some_iff.1 h2).1
        omega
      · rename_i hw
        split at e
        · rename_i v h' hF
          split at e
          · rename_i hnew
            refine build v h' hnew.1 (fun r x h1 h2 => ?_) e (fun H hH => .inr ⟨hw, ?_⟩)
            · have := List.all_eq_true.1 hnew.2 (some x) (List.mem_of_getElem? (i := r - st.h.length) (by rw [List.getElem?_drop, show st.h.length + (r - st.h.length) = r by omega]; exact h2))
              simpa using this
            · rw [← List.prefix_iff_eq_take.1 (hnew.1.trans hH), ← List.prefix_iff_eq_take.1 hH]
              exact hF
          · cases e
        · cases e
      · cases e
    · cases e

/-- What a slot holds in the text's order. -/
theorem slots_at {F : Oper → St → Option (Value × Hp)} {N : Nat} {ops : Array Oper} {l : List Oper} {st st1 : St} {V : Nat → Value} {L : Nat → Nat} {X : Nat → Slots} (T : Tr F N ops l st st1 V L X) :
    ∀ (i : Nat), i ≤ l.length → ∀ t v, get (X i) t = some v → (∃ j o, j < i ∧ l[j]? = some o ∧ o.dst = some t ∧ v = V j) ∨ ((∀ j o, j < i → l[j]? = some o → o.dst ≠ some t) ∧ get st.s t = some v)
  | 0, _, t, v, e => by rw [T.x0] at e; exact .inr ⟨fun j o hj => by omega, e⟩
  | i + 1, hi, t, v, e => by
    obtain ⟨o, ho⟩ : ∃ o, l[i]? = some o := ⟨l[i], List.getElem?_eq_getElem (by omega)⟩
    obtain ⟨_, h2, _⟩ := T.step i o ho
    rw [h2, get_put] at e
    split at e
    · rename_i hd
      cases e
      exact .inl ⟨i, o, by omega, ho, hd, rfl⟩
    · rename_i hd
      rcases slots_at T i (by omega) t v e with ⟨j, o', h3, h4, h5, h6⟩ | ⟨h3, h4⟩
      · exact .inl ⟨j, o', by omega, h4, h5, h6⟩
      · refine .inr ⟨fun j o' hj ho' => ?_, h4⟩
        by_cases hji : j = i
        · subst hji; rw [ho] at ho'; cases ho'; exact hd
        · exact h3 j o' (by omega) ho'

theorem Tr.le {F : Oper → St → Option (Value × Hp)} {N : Nat} {ops : Array Oper} {l : List Oper} {st st1 : St} {V : Nat → Value} {L : Nat → Nat} {X : Nat → Slots} (T : Tr F N ops l st st1 V L X) {i j : Nat} (hij : i ≤ j) (hj : j ≤ l.length) : L i ≤ L j := by
  induction j with
  | zero => have : i = 0 := by omega
            subst this; exact Nat.le_refl _
  | succ j ih =>
    by_cases h : i = j + 1
    · subst h; exact Nat.le_refl _
    · exact Nat.le_trans (ih (by omega) (by omega)) (T.mono j (by omega))
end Go.Pm

/- Operations that may come up in any order: the proof that the order does not matter. -/
set_option linter.unusedVariables false
set_option linter.unusedSimpArgs false
namespace Go.Pm
variable {P : Program}

def OpSound (P : Program) (F : Oper → St → Option (Value × Hp)) : Prop :=
  ∀ o st v h', F o st = some (v, h') → ∀ ρ a w, Rel ρ st.h w → SR ρ st.h st.s a.tmps →
    ∀ (K : Act → World → Prop) (Q : Exit → Act → World → Prop), (∀ v' w' ρ', VR ρ' h' v v' → Rel ρ' h' w' → Go1 ρ st.h w ρ' h' w' → K (a.put o.dst v') w') → o.wp P a w K Q

/-- What holds when some of the operations have come up. -/
structure Inv (ρ0 : Mp) (w0 : World) (N : Nat) (ops : Array Oper) (n : Nat) (st st1 : St) (V : Nat → Value) (L : Nat → Nat) (listed : Array Bool) (ρ : Mp) (a : Act) (w : World) : Prop where
  rel : Rel ρ st1.h w
  clo : ∀ r x p, st1.h[r]? = some (some x) → ρ r = some p → ∀ k, k ≤ n → r < L k → ∀ v, v ∈ x.cells → Cl (L k) v
  val : ∀ j o d, j < n → listed.getD j false = true → ops[j]? = some o → o.dst = some d → VR ρ st1.h (V j) (a.tmps.getD d undef) ∧ Cl (L (j + 1)) (V j)
  old : ∀ t v, get st.s t = some v → (∀ j o, j < n → listed.getD j false = true → ops[j]? = some o → o.dst ≠ some t) → VR ρ st1.h v (a.tmps.getD t undef)
  dom : ∀ r p, ρ r = some p → r < L 0 ∨ ∃ j, j < n ∧ listed.getD j false = true ∧ L j ≤ r ∧ r < L (j + 1)
  base : ∀ r x, r < L 0 → st1.h[r]? = some (some x) → ρ r = ρ0 r
  none0 : ∀ r, r < L 0 → ρ0 r = none → ρ r = none
  newb : ∀ r x p, L 0 ≤ r → st1.h[r]? = some (some x) → ρ r = some p → x.ro = false → w0.heap.size ≤ p.b
  os : w.os = w0.os
  tape : w.tape = w0.tape
  output : w.output = w0.output
  size : w0.heap.size ≤ w.heap.size
  blk : ∀ b, b < w0.heap.size → (∀ r x p, r < L 0 → st1.h[r]? = some (some x) → ρ0 r = some p → x.ro = false → p.b ≠ b) → w.heap[b]? = w0.heap[b]?
  hN : a.tmps.size = N
  hd : a.defers = []

theorem put_size (a : Act) (d : Option Tmp) (v : Value) : (a.put d v).tmps.size = a.tmps.size := by cases d <;> simp [Act.put]
theorem put_defers (a : Act) (d : Option Tmp) (v : Value) : (a.put d v).defers = a.defers := by cases d <;> rfl

theorem put_other {a : Act} {d : Option Tmp} {v : Value} {t : Nat} (h : d ≠ some t) : (a.put d v).tmps.getD t undef = a.tmps.getD t undef := by
  cases d with
  | none => rfl
  | some d =>
    have hne : d ≠ t := fun e => h (by rw [e])
    simp [Act.put, Array.getElem?_setIfInBounds_ne hne]
theorem put_same {a : Act} {d : Nat} {v : Value} (h : d < a.tmps.size) : (a.put (some d) v).tmps.getD d undef = v := by
  simp [Act.put, h]

section
variable {F : Oper → St → Option (Value × Hp)} {ρ0 : Mp} {w0 : World} {N : Nat} {ops : Array Oper} {n : Nat} {st st1 : St} {V : Nat → Value} {L : Nat → Nat} {X : Nat → Slots} {listed : Array Bool} {ρ : Mp} {a : Act} {w : World}

/-- One operation more. -/
theorem Inv.next (T : Tr F N ops (ops.toList.take n) st st1 V L X) {sx : St} (hsl : sx.h.length = st1.h.length) (hown : ∀ i, i < n → ∀ r x, L i ≤ r → r < L (i + 1) → sx.h[r]? = some (some x) → x.ro = false) (hnl : (ops.toList.take n).length = n) (I : Inv ρ0 w0 N ops n st sx V L listed ρ a w)
    (hdist : ∀ i j oi oj d, i < n → j < n → i ≠ j → ops[i]? = some oi → ops[j]? = some oj → oi.dst = some d → oj.dst ≠ some d)
    {i : Nat} {o : Oper} (hi : i < n) (ho : ops[i]? = some o) (hun : listed.getD i true = false) (hls : listed.size = ops.size)
    {ρ1 : Mp} {v' : Value} {w' : World} (hv : VR ρ1 (sx.h.take (L (i + 1))) (V i) v') (R1 : Rel ρ1 (sx.h.take (L (i + 1))) w') (G : Go1 (Pm.res ρ (L i)) (sx.h.take (L i)) w ρ1 (sx.h.take (L (i + 1))) w') (hdst : dstOk N o.dst = true) :
    Inv ρ0 w0 N ops n st sx V L (listed.setIfInBounds i true) (fun r => if r < L (i + 1) then ρ1 r else ρ r) (a.put o.dst v') w' := by
  have hle : ∀ {i j}, i ≤ j → j ≤ n → L i ≤ L j := fun h1 h2 => T.le h1 (by rw [hnl]; exact h2)
  have hLn : L n = sx.h.length := by have := T.hn; rw [hnl] at this; rw [hsl]; exact this
  have hlen1 : (sx.h.take (L (i + 1))).length = L (i + 1) := by simp; have := hle (i := i + 1) (j := n) (by omega) (Nat.le_refl _); omega
  have hlen0 : (sx.h.take (L i)).length = L i := by simp; have := hle (i := i) (j := n) (by omega) (Nat.le_refl _); omega
  have hmono := hle (i := i) (j := i + 1) (by omega) (by omega)
  have hilt : i < ops.size := (Array.getElem?_eq_some_iff.1 ho).1
  -- the places of old rows stay
  have keepρ : ∀ r x, r < L i → sx.h[r]? = some (some x) → ρ1 r = ρ r := by
    intro r x hr hx
    cases hp : ρ r with
    | none => exact G.keepn r (by rw [hlen0]; exact hr) (by simp [Pm.res, hr, hp])
    | some p =>
      rcases G.step.live r x p (by rw [take_get hr]; exact hx) (by simp [Pm.res, hr, hp]) with ⟨x1, _, _, _, _, h5⟩ | ⟨_, h5⟩
      · exact h5
      · have := h5 x (by rw [take_get (by omega)]; exact hx)
        omega
  have notin : ∀ r p, ρ r = some p → L i ≤ r → L (i + 1) ≤ r := by
    intro r p hp hr
    rcases I.dom r p hp with h1 | ⟨j, h1, h2, h3, h4⟩
    · have := hle (i := 0) (j := i) (by omega) (by omega); omega
    · have hji : j ≠ i := by
        intro e
        subst e
        rw [getD_both hun] at h2
        cases h2
      rcases Nat.lt_or_ge j i with h5 | h5
      · have := hle (i := j + 1) (j := i) (by omega) (by omega); omega
      · have := hle (i := i + 1) (j := j) (by omega) (by omega); omega
  have upρ : ∀ r x p, sx.h[r]? = some (some x) → ρ r = some p → (if r < L (i + 1) then ρ1 r else ρ r) = some p := by
    intro r x p hx hp
    by_cases hr : r < L (i + 1)
    · rw [if_pos hr]
      have : r < L i := by
        rcases Nat.lt_or_ge r (L i) with h1 | h1
        · exact h1
        · have := notin r p hp h1; omega
      rw [keepρ r x this hx]; exact hp
    · rw [if_neg hr]; exact hp
  have step' : Step ρ sx.h (fun r => if r < L (i + 1) then ρ1 r else ρ r) sx.h := ⟨fun r x p hx hp => .inl ⟨x, hx, rfl, rfl, rfl, upρ r x p hx hp⟩, fun _ h => h⟩
  have step1 : Step ρ1 (sx.h.take (L (i + 1))) (fun r => if r < L (i + 1) then ρ1 r else ρ r) sx.h := step_ext (by rw [← hLn]; exact hle (by omega) (Nat.le_refl _)) (fun r x p hr hx hp => by simp [hr, hp])
  -- which rows are whose
  have cases' : ∀ r x p, sx.h[r]? = some (some x) → (if r < L (i + 1) then ρ1 r else ρ r) = some p → (r < L (i + 1) ∧ ρ1 r = some p) ∨ (L (i + 1) ≤ r ∧ ρ r = some p) := by
    intro r x p hx hp
    by_cases hr : r < L (i + 1)
    · rw [if_pos hr] at hp; exact .inl ⟨hr, hp⟩
    · rw [if_neg hr] at hp; exact .inr ⟨by omega, hp⟩
  have oldOf : ∀ r x p, r < L i → sx.h[r]? = some (some x) → ρ1 r = some p → ρ r = some p := fun r x p hr hx hp => by rw [← keepρ r x hr hx]; exact hp
  have newBlk : ∀ r x p, L i ≤ r → r < L (i + 1) → sx.h[r]? = some (some x) → ρ1 r = some p → x.ro = false ∧ w.heap.size ≤ p.b := by
    intro r x p h1 h2 hx hp
    have hro : x.ro = false := hown i hi r x h1 h2 hx
    refine ⟨hro, ?_⟩
    rcases G.orig r x p (by rw [take_get h2]; exact hx) hp hro with h3 | ⟨r0, x0, p0, g1, g2, g3, g4⟩
    · exact h3
    · exfalso
      obtain ⟨k1, k2⟩ := take_some g1
      obtain ⟨_, k3⟩ := res_some g2
      have k4 : ρ1 r0 = some p0 := by rw [keepρ r0 x0 k1 k2]; exact k3
      exact R1.inj r r0 x x0 p p0 (by rw [take_get h2]; exact hx) (by rw [take_get (by omega)]; exact k2) hp k4 hro (by omega) (fun e => by rw [g3] at e; cases e) g4.symm
  -- a row of an operation that comes later in the text is untouched
  have later : ∀ r x p, L (i + 1) ≤ r → sx.h[r]? = some (some x) → ρ r = some p → (x.ro = true → x.cells ≠ []) → w'.heap[p.b]? = w.heap[p.b]? ∧ p.b < w.heap.size := by
    intro r x p h1 hx hp hne
    have hlt := I.rel.lt hx hp hne
    refine ⟨G.blk p.b hlt (fun r0 x0 p0 g1 g2 g3 e => ?_), hlt⟩
    obtain ⟨k1, k2⟩ := take_some g1
    obtain ⟨_, k3⟩ := res_some g2
    exact I.rel.inj r0 r x0 x p0 p k2 hx k3 hp g3 (by omega) hne e
  refine ⟨⟨fun r x p hx hp hr => ?_, fun r x p hx hp hr k v hk => ?_, fun r r' x x' p p' hx hx' hp hp' hr hne hro => ?_, fun r p hp => ?_⟩, fun r x p hx hp k hk hrk v hvm => ?_, fun j oj d hj hlj hoj hdj => ?_, fun t v hg hnone => ?_, fun r p hp => ?_, fun r x hr hx => ?_, fun r hr hn => ?_, fun r x p hr hx hp hro => ?_, G.os.trans I.os, G.tape.trans I.tape, G.output.trans I.output, Nat.le_trans I.size G.size, fun b hb hn => ?_, by rw [put_size]; exact I.hN, by rw [put_defers]; exact I.hd⟩
  · rcases cases' r x p hx hp with ⟨h1, h2⟩ | ⟨h1, h2⟩
    · obtain ⟨c, e, g1, g2, g3, g4⟩ := R1.own r x p (by rw [take_get h1]; exact hx) h2 hr
      exact ⟨c, e, g1, g2, g3, fun k v hk => by obtain ⟨v', k1, k2⟩ := g4 k v hk; exact ⟨v', k1, k2.step step1⟩⟩
    · obtain ⟨c, e, g1, g2, g3, g4⟩ := I.rel.own r x p hx h2 hr
      have := (later r x p h1 hx h2 (fun e => by rw [hr] at e; cases e)).1
      exact ⟨c, e, by rw [this]; exact g1, g2, g3, fun k v hk => by obtain ⟨v', k1, k2⟩ := g4 k v hk; exact ⟨v', k1, k2.step step'⟩⟩
  · rcases cases' r x p hx hp with ⟨h1, h2⟩ | ⟨h1, h2⟩
    · obtain ⟨v', k1, k2⟩ := R1.ro r x p (by rw [take_get h1]; exact hx) h2 hr k v hk
      exact ⟨v', k1, k2.step step1⟩
    · obtain ⟨v', k1, k2⟩ := I.rel.ro r x p hx h2 hr k v hk
      have := (later r x p h1 hx h2 (fun _ e => by rw [e] at hk; simp at hk)).1
      refine ⟨v', ?_, k2.step step'⟩
      rw [← k1]
      unfold World.cell?
      rw [this]
  · rcases cases' r x p hx hp with ⟨h1, h2⟩ | ⟨h1, h2⟩
    · rcases cases' r' x' p' hx' hp' with ⟨h1', h2'⟩ | ⟨h1', h2'⟩
      · exact R1.inj r r' x x' p p' (by rw [take_get h1]; exact hx) (by rw [take_get h1']; exact hx') h2 h2' hr hne hro
      · rcases Nat.lt_or_ge r (L i) with h3 | h3
        · exact I.rel.inj r r' x x' p p' hx hx' (oldOf r x p h3 hx h2) h2' hr hne hro
        · have := (newBlk r x p h3 h1 hx h2).2
          have := (later r' x' p' h1' hx' h2' hro).2
          omega
    · rcases cases' r' x' p' hx' hp' with ⟨h1', h2'⟩ | ⟨h1', h2'⟩
      · rcases Nat.lt_or_ge r' (L i) with h3 | h3
        · exact I.rel.inj r r' x x' p p' hx hx' h2 (oldOf r' x' p' h3 hx' h2') hr hne hro
        · have := (newBlk r' x' p' h3 h1' hx' h2').2
          have := (later r x p h1 hx h2 (fun e => by rw [hr] at e; cases e)).2
          omega
      · exact I.rel.inj r r' x x' p p' hx hx' h2 h2' hr hne hro
  · by_cases hr : r < L (i + 1)
    · have := hle (i := i + 1) (j := n) (by omega) (Nat.le_refl _)
      omega
    · have hp' : ρ r = some p := by
        have hp2 : (if r < L (i + 1) then ρ1 r else ρ r) = some p := hp
        rwa [if_neg hr] at hp2
      exact I.rel.dom r p hp'
  · rcases cases' r x p hx hp with ⟨h1, h2⟩ | ⟨h1, h2⟩
    · rcases Nat.lt_or_ge r (L i) with h3 | h3
      · exact I.clo r x p hx (oldOf r x p h3 hx h2) k hk hrk v hvm
      · have hki : i + 1 ≤ k := by
          rcases Nat.lt_or_ge i k with h4 | h4
          · exact h4
          · have := hle h4 (by omega); omega
        obtain ⟨hro, _⟩ := newBlk r x p h3 h1 hx h2
        obtain ⟨c, e, g1, g2, g3, g4⟩ := R1.own r x p (by rw [take_get h1]; exact hx) h2 hro
        obtain ⟨m, hm⟩ := List.getElem?_of_mem hvm
        obtain ⟨u, _, k2⟩ := g4 m v hm
        have := k2.cl
        rw [hlen1] at this
        exact this.mono (hle hki hk)
    · exact I.clo r x p hx h2 k hk hrk v hvm
  · by_cases hji : j = i
    · subst hji
      rw [ho] at hoj; cases hoj
      rw [hdj] at hdst ⊢
      have hdN : d < a.tmps.size := by rw [I.hN]; simpa [dstOk] using hdst
      rw [put_same hdN]
      have := hv.cl
      rw [hlen1] at this
      exact ⟨hv.step step1, this⟩
    · have hlj' : listed.getD j false = true := by
        rw [getD_set_ne false (fun e => hji e.symm)] at hlj; exact hlj
      obtain ⟨h1, h2⟩ := I.val j oj d hj hlj' hoj hdj
      rw [put_other (hdist j i oj o d hj hi hji hoj ho hdj)]
      exact ⟨h1.step step', h2⟩
  · have hne : o.dst ≠ some t := hnone i o hi (by simp [hls, hilt]) ho
    rw [put_other hne]
    exact (I.old t v hg (fun j oj hj hlj hoj => hnone j oj hj (getD_set_true hlj) hoj)).step step'
  · by_cases hr : r < L (i + 1)
    · rcases Nat.lt_or_ge r (L i) with h3 | h3
      · have hp2 : ρ1 r = some p := by
          have hp3 : (if r < L (i + 1) then ρ1 r else ρ r) = some p := hp
          rwa [if_pos hr] at hp3
        cases hρ : ρ r with
        | none =>
          have := G.keepn r (by rw [hlen0]; exact h3) (by simp [Pm.res, h3, hρ])
          rw [this] at hp2; cases hp2
        | some q =>
          rcases I.dom r q hρ with h4 | ⟨j, h4, h5, h6⟩
          · exact .inl h4
          · exact .inr ⟨j, h4, getD_set_true h5, h6⟩
      · exact .inr ⟨i, hi, by simp [hls, hilt], h3, hr⟩
    · have hp' : ρ r = some p := by
        have hp2 : (if r < L (i + 1) then ρ1 r else ρ r) = some p := hp
        rwa [if_neg hr] at hp2
      rcases I.dom r p hp' with h4 | ⟨j, h4, h5, h6⟩
      · exact .inl h4
      · exact .inr ⟨j, h4, getD_set_true h5, h6⟩
  · have h1 := hle (i := 0) (j := i) (by omega) (by omega)
    show (if r < L (i + 1) then ρ1 r else ρ r) = ρ0 r
    rw [if_pos (by omega), keepρ r x (by omega) hx]
    exact I.base r x hr hx
  · have h1 := hle (i := 0) (j := i) (by omega) (by omega)
    show (if r < L (i + 1) then ρ1 r else ρ r) = none
    rw [if_pos (by omega)]
    exact G.keepn r (by rw [hlen0]; omega) (by simp [Pm.res, show r < L i by omega, I.none0 r hr hn])
  · rcases cases' r x p hx hp with ⟨h1, h2⟩ | ⟨h1, h2⟩
    · rcases Nat.lt_or_ge r (L i) with h3 | h3
      · exact I.newb r x p hr hx (oldOf r x p h3 hx h2) hro
      · have := (newBlk r x p h3 h1 hx h2).2
        have := I.size
        omega
    · exact I.newb r x p hr hx h2 hro
  · rw [G.blk b (Nat.lt_of_lt_of_le hb I.size) (fun r x p g1 g2 g3 e => ?_), I.blk b hb hn]
    obtain ⟨k1, k2⟩ := take_some g1
    obtain ⟨_, k3⟩ := res_some g2
    rcases Nat.lt_or_ge r (L 0) with h1 | h1
    · exact hn r x p h1 k2 (by rw [← I.base r x h1 k2]; exact k3) g3 e
    · have := I.newb r x p h1 k2 k3 g3
      omega
end
end Go.Pm

/- Operations that may come up in any order: the whole region. -/
set_option linter.unusedVariables false
set_option linter.unusedSimpArgs false
namespace Go.Pm
variable {P : Program}

def exM : Ex → Exit → Prop
  | .normal, .normal => True
  | .exit i, .exit j => i = j
  | .ret, .ret => True
  | _, _ => False

/-- What holds behind a piece of code. -/
def Beh (ρ : Mp) (h : Hp) (w : World) (N : Nat) (st : St) (a : Act) (w' : World) : Prop :=
  ∃ ρ', Rel ρ' st.h w' ∧ SR ρ' st.h st.s a.tmps ∧ Go1 ρ h w ρ' st.h w' ∧ a.tmps.size = N ∧ a.defers = []
def Post (ρ : Mp) (h : Hp) (w : World) (N : Nat) (ex : Ex) (st : St) : Exit → Act → World → Prop := fun e a w' => exM ex e ∧ Beh ρ h w N st a w'

section
variable {ρ : Mp} {h : Hp} {w : World}
theorem Beh.trans {ρ1 : Mp} {h1 : Hp} {w1 : World} (G : Go1 ρ h w ρ1 h1 w1) {N : Nat} {st : St} {a : Act} {w' : World} (b : Beh ρ1 h1 w1 N st a w') : Beh ρ h w N st a w' := by
  obtain ⟨ρ', R, S, G2, e1, e2⟩ := b
  exact ⟨ρ', R, S, G.trans G2, e1, e2⟩
theorem Post.trans {ρ1 : Mp} {h1 : Hp} {w1 : World} (G : Go1 ρ h w ρ1 h1 w1) {N : Nat} {ex : Ex} {st : St} {e : Exit} {a : Act} {w' : World} (b : Post ρ1 h1 w1 N ex st e a w') : Post ρ h w N ex st e a w' := ⟨b.1, b.2.trans G⟩

theorem getD_some {tm : Array Value} {d : Nat} {v : Value} (e : tm.getD d undef = v) (hv : ∀ l, v ≠ .tuple l) : tm[d]? = some v := by
  rw [Array.getD_eq_getD_getElem?] at e
  cases hh : tm[d]? with
  | none => rw [hh] at e; exact absurd e.symm (hv _)
  | some u => rw [hh] at e; simpa using e

theorem want_ok {s : Slots} {a : Act} (S : SR ρ h s a.tmps) {ops : Array Oper} {o : Oper} {b : Bool} (e : wantP ops s o = some b) : Region.wanted o (yielded ops a.tmps) = b := by
  unfold wantP at e
  unfold Region.wanted
  split at e
  · rename_i hg
    cases e
    rw [hg]
  · rename_i j want hg
    rw [hg]
    simp only [yielded]
    split at e
    · rename_i d hd
      rw [hd]
      split at e
      · rename_i t ht
        cases e
        have h1 := S d _ ht
        generalize hv : a.tmps.getD d undef = v at h1
        cases h1
        simp [getD_some hv (by simp)]
      · rename_i v hnb ht
        cases e
        have h1 := S d _ ht
        simp only [Option.bind_some]
        cases hh : a.tmps[d]? with
        | none => simp
        | some u =>
          have hu : a.tmps.getD d undef = u := by rw [Array.getD_eq_getD_getElem?, hh]; rfl
          rw [hu] at h1
          cases h1 <;> first | (exact (hnb _ rfl).elim) | simp
      · cases e
    · rename_i hd
      cases e
      rw [hd]
      simp

theorem get_keep_mem {K : List Nat} {s : Slots} {t : Nat} {v : Value} (h : get (keep K s) t = some v) : t ∈ K := by
  induction K with
  | nil => simp [keep, get] at h
  | cons k K ih =>
    simp only [keep, List.filterMap_cons] at h
    cases hk : get s k with
    | none => simp [hk] at h; exact List.mem_cons_of_mem _ (ih h)
    | some u =>
      simp [hk, get] at h
      split at h
      · rename_i e; subst e; exact List.mem_cons_self ..
      · exact List.mem_cons_of_mem _ (ih h)

theorem Rel.ext {H : Hp} {L : Nat} (hL : L ≤ H.length) (R : Rel ρ (H.take L) w) : Rel ρ H w := by
  have hlt : ∀ {r p}, ρ r = some p → r < L := fun {r p} hp => by have := R.dom r p hp; simp at this; omega
  have stp : Step ρ (H.take L) ρ H := step_ext hL fun _ _ _ _ _ hp => hp
  refine ⟨fun r x p hx hp hr => ?_, fun r x p hx hp hr i v hi => ?_, fun r r' x x' p p' hx hx' hp hp' hr hne hro => ?_, fun r p hp => by have := hlt hp; omega⟩
  · obtain ⟨c, e, g1, g2, g3, g4⟩ := R.own r x p (by rw [take_get (hlt hp)]; exact hx) hp hr
    exact ⟨c, e, g1, g2, g3, fun i v hi => by obtain ⟨v', k1, k2⟩ := g4 i v hi; exact ⟨v', k1, k2.step stp⟩⟩
  · obtain ⟨v', k1, k2⟩ := R.ro r x p (by rw [take_get (hlt hp)]; exact hx) hp hr i v hi
    exact ⟨v', k1, k2.step stp⟩
  · exact R.inj r r' x x' p p' (by rw [take_get (hlt hp)]; exact hx) (by rw [take_get (hlt hp')]; exact hx') hp hp' hr hne hro
end

structure DrawOk (ops : Array Oper) (n : Nat) : Prop where
  hn : n < ops.size
  sink : Region.sinkB .any ops n = true
  chain : Region.chainB .any ops n = true
  seq : Region.seqB .any ops (ops.size - n) n (listedTo n (ops.size - n)) = true
  back : ∀ (i : Nat) (o : Oper), ops[i]? = some o → ∀ e ∈ o.after, Region.binds .any e = true → e.on < i
  deps : ∀ (i : Nat) (o : Oper) (t j d : Nat), i < n → ops[i]? = some o → t ∈ o.looksAt ops → j < n → (ops[j]?).bind (·.dst) = some d → d = t → j < i ∧ Region.waitsFor .any ops i j = true
  dist : ∀ (i j : Nat) (oi oj : Oper) (d : Nat), i < n → j < n → i ≠ j → ops[i]? = some oi → ops[j]? = some oj → oi.dst = some d → oj.dst ≠ some d

theorem drawOk_spec {ops : Array Oper} {n : Nat} (h : drawOk ops n = true) : DrawOk ops n := by
  simp only [drawOk, Bool.and_eq_true, decide_eq_true_eq] at h
  obtain ⟨⟨⟨⟨⟨⟨h1, h2⟩, h3⟩, h4⟩, h5⟩, h6⟩, h7⟩ := h
  have key : ∀ i j oi oj d, j < i → i < n → ops[i]? = some oi → ops[j]? = some oj → oi.dst = some d → oj.dst ≠ some d := by
    intro i j oi oj d hj hi hoi hoj hd
    have := List.all_eq_true.1 h7 i (List.mem_range.2 hi)
    rw [hoi, Option.bind_some, hd] at this
    have := List.all_eq_true.1 this j (List.mem_range.2 hj)
    rw [hoj, Option.bind_some] at this
    simpa using this
  refine ⟨h1, h2, h3, h4, fun i o ho e he hb => ?_, fun i o t j d hi ho ht hj hd hdt => ?_, fun i j oi oj d hi hj hne hoi hoj hd => ?_⟩
  · have := List.all_eq_true.1 h5 i (List.mem_range.2 (Array.getElem?_eq_some_iff.1 ho).1)
    rw [ho] at this
    have h8 := Array.all_eq_true'.1 this e he
    rw [hb] at h8
    simpa using h8
  · have := List.all_eq_true.1 h6 i (List.mem_range.2 hi)
    rw [ho] at this
    have := List.all_eq_true.1 (List.all_eq_true.1 this t ht) j (List.mem_range.2 hj)
    rw [hd] at this
    simp only [Bool.or_eq_true, Bool.and_eq_true, decide_eq_true_eq] at this
    rcases this with h8 | h8
    · subst hdt; simp at h8
    · exact h8
  · rcases Nat.lt_or_ge j i with h8 | h8
    · exact key i j oi oj d h8 hi hoi hoj hd
    · exact fun h9 => key j i oj oi d (by omega) hj hoj hoi h9 hd

/-- As DrawOk; a slot that one sets may be read by those that it waits for. -/
structure DrawW (ops : Array Oper) (n : Nat) : Prop where
  hn : n < ops.size
  sink : Region.sinkB .any ops n = true
  chain : Region.chainB .any ops n = true
  seq : Region.seqB .any ops (ops.size - n) n (listedTo n (ops.size - n)) = true
  back : ∀ (i : Nat) (o : Oper), ops[i]? = some o → ∀ e ∈ o.after, Region.binds .any e = true → e.on < i
  deps : ∀ (i : Nat) (o : Oper) (t j d : Nat), i < n → ops[i]? = some o → t ∈ o.looksAt ops → j < n → (ops[j]?).bind (·.dst) = some d → d = t → (j < i ∧ Region.waitsFor .any ops i j = true) ∨ (i < j ∧ Region.waitsFor .any ops j i = true)
  dist : ∀ (i j : Nat) (oi oj : Oper) (d : Nat), i < n → j < n → i ≠ j → ops[i]? = some oi → ops[j]? = some oj → oi.dst = some d → oj.dst ≠ some d

theorem drawW_spec {ops : Array Oper} {n : Nat} (h : drawW ops n = true) : DrawW ops n := by
  simp only [drawW, Bool.and_eq_true, decide_eq_true_eq] at h
  obtain ⟨⟨⟨⟨⟨⟨h1, h2⟩, h3⟩, h4⟩, h5⟩, h6⟩, h7⟩ := h
  have key : ∀ i j oi oj d, j < i → i < n → ops[i]? = some oi → ops[j]? = some oj → oi.dst = some d → oj.dst ≠ some d := by
    intro i j oi oj d hj hi hoi hoj hd
    have := List.all_eq_true.1 h7 i (List.mem_range.2 hi)
    rw [hoi, Option.bind_some, hd] at this
    have := List.all_eq_true.1 this j (List.mem_range.2 hj)
    rw [hoj, Option.bind_some] at this
    simpa using this
  refine ⟨h1, h2, h3, h4, fun i o ho e he hb => ?_, fun i o t j d hi ho ht hj hd hdt => ?_, fun i j oi oj d hi hj hne hoi hoj hd => ?_⟩
  · have := List.all_eq_true.1 h5 i (List.mem_range.2 (Array.getElem?_eq_some_iff.1 ho).1)
    rw [ho] at this
    have h8 := Array.all_eq_true'.1 this e he
    rw [hb] at h8
    simpa using h8
  · have := List.all_eq_true.1 h6 i (List.mem_range.2 hi)
    rw [ho] at this
    have := List.all_eq_true.1 (List.all_eq_true.1 this t ht) j (List.mem_range.2 hj)
    rw [hd] at this
    simp only [Bool.or_eq_true, Bool.and_eq_true, decide_eq_true_eq] at this
    rcases this with (h8 | h8) | h8
    · subst hdt; simp at h8
    · exact .inl h8
    · exact .inr h8
  · rcases Nat.lt_or_ge j i with h8 | h8
    · exact key i j oi oj d h8 hi hoi hoj hd
    · exact fun h9 => key j i oj oi d (by omega) hj hoj hoi h9 hd

def unl (n : Nat) (listed : Array Bool) : Nat := ((List.range n).filter fun i => !listed.getD i true).length

theorem filter_set {l : List Nat} (hnd : l.Nodup) {listed : Array Bool} {i : Nat} (hi : i ∈ l) (hun : listed.getD i true = false) :
    (l.filter fun j => !listed.getD j true).length = (l.filter fun j => !(listed.setIfInBounds i true).getD j true).length + 1 := by
  have hiB : i < listed.size := by
    rcases Nat.lt_or_ge i listed.size with h | h
    · exact h
    · simp [Array.getElem?_eq_none h] at hun
  have hset : (listed.setIfInBounds i true).getD i true = true := by simp [hiB]
  induction l with
  | nil => cases hi
  | cons x l ih =>
    rw [List.nodup_cons] at hnd
    by_cases hx : x = i
    · subst hx
      rw [List.filter_cons_of_pos (by simp only [hun]; rfl), List.filter_cons_of_neg (by simp only [hset]; simp), List.length_cons]
      congr 2
      refine List.filter_congr fun j hj => ?_
      rw [getD_set_ne true (fun e : x = j => hnd.1 (by rw [e]; exact hj))]
    · have hi' : i ∈ l := by rcases List.mem_cons.1 hi with h | h; exact absurd h.symm hx; exact h
      have := ih hnd.2 hi'
      rw [List.filter_cons, List.filter_cons, getD_set_ne true (show i ≠ x from fun e => hx e.symm)]
      split
      · rw [List.length_cons, List.length_cons, this]
      · exact this

theorem unl_set {n i : Nat} {listed : Array Bool} (hi : i < n) (hun : listed.getD i true = false) : unl n listed = unl n (listed.setIfInBounds i true) + 1 :=
  filter_set List.nodup_range (List.mem_range.2 hi) hun

theorem listed_all {n : Nat} {ops : Array Oper} {listed : Array Bool} (inv : HeadInv .any ops n listed) (hn : n < ops.size) (h0 : unl n listed = 0) : listed = listedTo n (ops.size - n) := by
  have h1 : ∀ i, i < n → listed.getD i true = true := by
    intro i hi
    have := List.eq_nil_of_length_eq_zero h0
    rw [List.filter_eq_nil_iff] at this
    simpa using this i (List.mem_range.2 hi)
  apply Array.ext
  · rw [inv.size]; simp [listedTo]; omega
  · intro i hi hi2
    rcases Nat.lt_or_ge i n with h | h
    · have := h1 i h
      simp [hi] at this
      simp [listedTo, List.getElem_append, h, this]
    · have := inv.tail i h (by rw [← inv.size]; exact hi)
      simp [hi] at this
      simp [listedTo, List.getElem_append, show ¬ i < n by omega, this]

section
variable {F : Oper → St → Option (Value × Hp)} {ρ0 : Mp} {w0 : World} {N : Nat} {ops : Array Oper} {n : Nat} {st st1 : St} {V : Nat → Value} {L : Nat → Nat} {X : Nat → Slots}

theorem head_go (hF : OpSound P F) (T : Tr F N ops (ops.toList.take n) st st1 V L X) (D : DrawW ops n) (hcl : ∀ t v, get st.s t = some v → Cl (L 0) v)
    {Q : Exit → Act → World → Prop} (hQ : ∀ a' w', Beh ρ0 st.h w0 N st1 a' w' → wpList P ops Q (ops.toList.drop n) a' w') :
    ∀ (k : Nat) (listed : Array Bool) (ρ : Mp) (a : Act) (w : World), unl n listed = k → HeadInv .any ops n listed → Inv ρ0 w0 N ops n st st1 V L listed ρ a w →
      wpAny P .any ops Q (k + (ops.size - n)) listed a w
  | 0, listed, ρ, a, w, hk, inv, I => by
    have hnl : (ops.toList.take n).length = n := by have := D.hn; simp; omega
    have hl := listed_all inv D.hn hk
    have hin : ∀ j, j < n → listed.getD j false = true := by
      intro j hj
      rw [hl]
      have := D.hn
      simp [listedTo, List.getElem?_append, hj]
    have htake : ∀ j o, j < n → (ops.toList.take n)[j]? = some o → ops[j]? = some o := by
      intro j o hj ho
      rw [List.getElem?_take, if_pos hj] at ho
      simpa using ho
    have htake' : ∀ j o, j < n → ops[j]? = some o → (ops.toList.take n)[j]? = some o := by
      intro j o hj ho
      rw [List.getElem?_take, if_pos hj]
      simpa using ho
    have hL0 : L 0 ≤ st1.h.length := by have := T.le (i := 0) (j := n) (by omega) (by omega); have h2 := T.hn; rw [hnl] at h2; omega
    have hst : st.h = st1.h.take (L 0) := T.pre
    have hlen : st.h.length = L 0 := T.h0.symm
    rw [Nat.zero_add]
    have := wpAny_of_seq (P := P) (md := .any) (ops := ops) (Q' := Q) (ops.toList.drop n) n listed a w (fun j => by simp [List.getElem?_drop]) (by rw [hl]; simpa using D.seq) (hQ a w ?_)
    · simpa using this
    · refine ⟨ρ, I.rel, fun t v e => ?_, ⟨I.os, I.tape, I.output, I.size, fun b hb hn => ?_, fun r' x' p' g1 g2 g3 => ?_, ?_, by omega, fun r hr hn => I.none0 r (by omega) hn⟩, I.hN, I.hd⟩
      · rw [← T.xn, hnl] at e
        rcases slots_at T n (by omega) t v e with ⟨j, o, h1, h2, h3, h4⟩ | ⟨h1, h2⟩
        · subst h4
          exact (I.val j o t h1 (hin j h1) (htake j o h1 h2) h3).1
        · exact I.old t v h2 fun j o hj _ ho => h1 j o hj (htake' j o hj ho)
      · refine I.blk b hb fun r x p h1 h2 h3 h4 => hn r x p ?_ h3 h4
        rw [hst, take_get h1]; exact h2
      · rcases Nat.lt_or_ge r' (L 0) with h1 | h1
        · refine .inr ⟨r', x', p', by rw [hst, take_get h1]; exact g1, ?_, g3, rfl⟩
          rw [← I.base r' x' h1 g1]; exact g2
        · exact .inl (I.newb r' x' p' h1 g1 g2 g3)
      · rw [hst]
        exact step_ext hL0 fun r x p hr hx hp => by rw [I.base r x hr hx]; exact hp
  | k + 1, listed, ρ, a, w, hk, inv, I => by
    have hn := D.hn
    have hnl : (ops.toList.take n).length = n := by simp; omega
    have htake : ∀ j o, j < n → (ops.toList.take n)[j]? = some o → ops[j]? = some o := by
      intro j o hj ho
      rw [List.getElem?_take, if_pos hj] at ho
      simpa using ho
    have htake' : ∀ j o, j < n → ops[j]? = some o → (ops.toList.take n)[j]? = some o := by
      intro j o hj ho
      rw [List.getElem?_take, if_pos hj]
      simpa using ho
    -- something is ready
    obtain ⟨i0, hi0, hun0⟩ : ∃ i, i < n ∧ listed.getD i true = false := by
      unfold unl at hk
      cases hf : (List.range n).filter fun i => !listed.getD i true with
      | nil => rw [hf] at hk; simp at hk
      | cons i r =>
        have : i ∈ (List.range n).filter fun i => !listed.getD i true := by rw [hf]; exact List.mem_cons_self ..
        rw [List.mem_filter, List.mem_range] at this
        exact ⟨i, this.1, by simpa using this.2⟩
    have hready : ∀ (m i : Nat), i = m → i < n → listed.getD i true = false → ∃ j, j ∈ Region.ready .any ops listed := by
      intro m
      induction m using Nat.strongRecOn with
      | _ m ih =>
        intro i him hi hun
        subst him
        by_cases hall : ∀ o, ops[i]? = some o → ∀ e ∈ o.after, Region.binds .any e = true → listed.getD e.on false = true
        · exact ⟨i, mem_ready.2 ⟨hun, ops[i], by simp [show i < ops.size by omega], hall _ (by simp [show i < ops.size by omega])⟩⟩
        · simp only [Classical.not_forall] at hall
          obtain ⟨o, ho, e, he, hb, hl⟩ := hall
          have hlt := D.back i o ho e he hb
          exact ih e.on hlt e.on rfl (by omega) (getD_in (by rw [inv.size]; omega) (by simpa using hl))
    have hsm : k + 1 + (ops.size - n) = (k + (ops.size - n)) + 1 := by omega
    rw [hsm]
    refine ⟨fun h0 => ?_, fun i hi => ?_⟩
    · obtain ⟨j, hj⟩ := hready i0 i0 rfl hi0 hun0
      rw [h0] at hj; cases hj
    · have hin : i < n := by
        rcases Nat.lt_or_ge i n with h | h
        · exact h
        · exact absurd hi (tail_waits D.sink D.chain hn inv _ i0 rfl hi0 hun0 i h)
      obtain ⟨hun, o, ho, hall⟩ := mem_ready.1 hi
      obtain ⟨hdst, hX, hstep⟩ := T.step i o (htake' i o hin ho)
      have hLi : L i ≤ st1.h.length := by have := T.le (i := i) (j := n) (by omega) (by omega); have h2 := T.hn; rw [hnl] at h2; omega
      have Ri : Rel (Pm.res ρ (L i)) (st1.h.take (L i)) w := I.rel.res fun r x p hx hp hr v hv => I.clo r x p hx hp i (by omega) hr v hv
      have Si : SR (Pm.res ρ (L i)) (st1.h.take (L i)) (keep (o.looksAt ops) (X i)) a.tmps := by
        intro t v e
        have htl := get_keep_mem e
        have e2 := get_keep e
        rcases slots_at T i (by omega) t v e2 with ⟨j, oj, h1, h2, h3, h4⟩ | ⟨h1, h2⟩
        · subst h4
          have hoj := htake j oj (by omega) h2
          have hw : Region.waitsFor .any ops i j = true := by
            rcases D.deps i o t j t hin ho htl (by omega) (by rw [hoj]; exact h3) rfl with ⟨_, hw⟩ | ⟨hij, _⟩
            · exact hw
            · omega
          obtain ⟨o', ho', e', he', hb', hon⟩ := Region.waitsFor_spec hw
          rw [ho] at ho'; cases ho'
          have hlj : listed.getD j false = true := by rw [← hon]; exact hall e' he' hb'
          obtain ⟨g1, g2⟩ := I.val j oj t (by omega) hlj hoj h3
          exact g1.res (g2.mono (T.le (by omega) (by omega)))
        · have := I.old t v h2 fun j oj hj hlj hoj hd => by
            rcases D.deps i o t j t hin ho htl hj (by rw [hoj]; exact hd) rfl with ⟨hji, _⟩ | ⟨hij, hw⟩
            · exact h1 j oj hji (htake' j oj hj hoj) hd
            · obtain ⟨o', ho', e', he', hb', hon⟩ := Region.waitsFor_spec hw
              rw [hoj] at ho'; cases ho'
              have hli := inv.closed j oj hoj hlj e' he' hb'
              rw [hon, getD_both hun] at hli
              cases hli
          exact this.res ((hcl t v h2).mono (T.le (by omega) (by omega)))
      have hk' : unl n (listed.setIfInBounds i true) = k := by have := unl_set hin hun; omega
      unfold wpOp
      rw [ho]
      simp only
      rcases hstep with ⟨hw, hV, hLL⟩ | ⟨hw, hFo⟩
      · rw [if_neg (by rw [want_ok Si hw]; simp)]
        have h1 : VR (Pm.res ρ (L i)) (st1.h.take (L (i + 1))) (V i) undef := by rw [hV]; exact undef_vr
        exact head_go hF T D hcl hQ k _ _ _ _ hk' (inv.set hi hin) (Inv.next T rfl (fun i hi => T.own i (by rw [hnl]; exact hi)) hnl I D.dist hin ho hun inv.size h1 (by rw [hLL]; exact Ri) (by rw [hLL]; exact Go1.refl _ _ _) hdst)
      · rw [if_pos (want_ok Si hw)]
        refine .inl (hF o ⟨_, _⟩ (V i) _ hFo (Pm.res ρ (L i)) a w Ri Si _ Q fun v' w' ρ' hv R' G => ?_)
        exact head_go hF T D hcl hQ k _ _ _ _ hk' (inv.set hi hin) (Inv.next T rfl (fun i hi => T.own i (by rw [hnl]; exact hi)) hnl I D.dist hin ho hun inv.size hv R' G hdst)

theorem draw_ok (hm : P.follows .mixedOrders = true) (hF : OpSound P F) (hd : drawW ops n = true) (e : runH F N ops (ops.toList.take n) st = some st1) {ρ : Mp} {a : Act} {w : World} (R : Rel ρ st.h w) (S : SR ρ st.h st.s a.tmps) (hN : a.tmps.size = N) (hdf : a.defers = [])
    {Q : Exit → Act → World → Prop} (hQ : ∀ a' w', Beh ρ st.h w N st1 a' w' → wpList P ops Q (ops.toList.drop n) a' w') {id : Nat} : (Code.region id ops true).wp P Q a w := by
  have D := drawW_spec hd
  obtain ⟨V, L, X, T⟩ := trace F N ops _ st st1 e
  have hn := D.hn
  have hnl : (ops.toList.take n).length = n := by simp; omega
  have hst : st.h = st1.h.take (L 0) := T.pre
  have hlen : st.h.length = L 0 := T.h0.symm
  have hL0 : L 0 ≤ st1.h.length := by have := T.le (i := 0) (j := n) (by omega) (by omega); have h2 := T.hn; rw [hnl] at h2; omega
  refine wp_region_any hm ?_
  have R' := R.drew (w.drawn + 1)
  have hlt : ∀ {r p}, ρ r = some p → r < L 0 := fun {r p} hp => by rw [← hlen]; exact R.dom r p hp
  have hcell : ∀ r x p, st1.h[r]? = some (some x) → ρ r = some p → ∀ v, v ∈ x.cells → Cl (L 0) v := by
    intro r x p hx hp v hv
    have hx' : st.h[r]? = some (some x) := by rw [hst, take_get (hlt hp)]; exact hx
    obtain ⟨m, hm⟩ := List.getElem?_of_mem hv
    rw [← hlen]
    cases hro : x.ro with
    | false => obtain ⟨c, e, _, _, _, g4⟩ := R.own r x p hx' hp hro
               obtain ⟨u, _, k2⟩ := g4 m v hm
               exact k2.cl
    | true => obtain ⟨u, _, k2⟩ := R.ro r x p hx' hp hro m v hm
              exact k2.cl
  have stp : Step ρ st.h ρ st1.h := by rw [hst]; exact step_ext hL0 fun _ _ _ _ _ hp => hp
  have I : Inv ρ { w with drawn := w.drawn + 1 } N ops n st st1 V L (Array.replicate ops.size false) ρ a { w with drawn := w.drawn + 1 } :=
    ⟨Rel.ext hL0 (by rw [← hst]; exact R'), fun r x p hx hp k hk hr v hv => (hcell r x p hx hp v hv).mono (T.le (by omega) (by omega)),
     fun j o d hj hlj => (by rw [getD_replicate_false] at hlj; cases hlj), fun t v hg _ => (S t v hg).step stp, fun r p hp => .inl (hlt hp), fun _ _ _ _ => rfl, fun _ _ h => h,
     fun r x p hr hx hp => (by have := hlt hp; omega), rfl, rfl, rfl, Nat.le_refl _, fun _ _ _ => rfl, hN, hdf⟩
  have inv0 : HeadInv .any ops n (Array.replicate ops.size false) :=
    ⟨by simp, fun j oj _ hl => (by rw [getD_replicate_false] at hl; cases hl), fun t _ ht => getD_in (by simpa using ht) (getD_replicate_false _ _)⟩
  have hunl : unl n (Array.replicate ops.size false) = n := by
    unfold unl
    rw [List.filter_eq_self.2]
    · simp
    · intro i hi
      rw [List.mem_range] at hi
      simp [show i < ops.size by omega]
  have := head_go (ρ0 := ρ) (w0 := { w with drawn := w.drawn + 1 }) hF T D (fun t v hg => by rw [← hlen]; exact (S t v hg).cl) (Q := Q) (fun a' w' b => hQ a' w' (b.trans (Go1.drew ρ st.h w _))) n _ ρ a _ hunl inv0 I
  rwa [show n + (ops.size - n) = ops.size by omega] at this
end
end Go.Pm

/- Operations that may come up in any order, with a store into a box of the region's own that may come up before the others are done. -/
set_option linter.unusedVariables false
set_option linter.unusedSimpArgs false
namespace Go.Pm
variable {P : Program}
/-- What is known of the store that may come up early: operation n, into the row that operation ia makes. -/
structure Early (F : Oper → St → Option (Value × Hp)) (ops : Array Oper) (n : Nat) (st st1 : St) (V : Nat → Value) (L : Nat → Nat) (h2 : Hp) (os : Oper) (vs : Value) (ia : Nat) (xv : Value) : Prop where
  hos : ops[n]? = some os
  nod : os.dst = none
  fs : F os ⟨keep (os.looksAt ops) st1.s, st1.h⟩ = some (vs, h2)
  want : wantP ops (keep (os.looksAt ops) st1.s) os = some true
  len : h2.length = st1.h.length
  same : ∀ r, r ≠ L ia → h2[r]? = st1.h[r]?
  row : ∀ x, h2[L ia]? = some (some x) → x.ro = false ∧ ∀ v, v ∈ x.cells → Cl 0 v ∨ v ∈ xv.cells.toList
  src : Cl 0 xv ∨ (∃ j oj d, j < ia ∧ ops[j]? = some oj ∧ oj.dst = some d ∧ xv = V j ∧ Region.waitsFor .any ops n j = true) ∨ ∃ t, get st.s t = some xv
  hia : ia < n
  la : L ia < L (ia + 1)
  waits : Region.waitsFor .any ops n ia = true
  late : ∀ i o s, ia < i → i < n → ops[i]? = some o → F o ⟨s, st1.h.take (L i)⟩ = some (V i, st1.h.take (L (i + 1))) → F o ⟨s, h2.take (L i)⟩ = some (V i, h2.take (L (i + 1)))
section
variable {F : Oper → St → Option (Value × Hp)} {ρ0 : Mp} {w0 : World} {N : Nat} {ops : Array Oper} {n : Nat} {st st1 : St} {V : Nat → Value} {L : Nat → Nat} {X : Nat → Slots} {h2 : Hp} {os : Oper} {vs xv : Value} {ia : Nat}
theorem take_eq {h h' : Hp} {k r : Nat} (hl : h'.length = h.length) (hs : ∀ j, j ≠ r → h'[j]? = h[j]?) (hk : k ≤ r) : h'.take k = h.take k := by
  apply List.ext_getElem?
  intro j
  rw [List.getElem?_take, List.getElem?_take]
  split
  · exact hs j (by omega)
  · rfl
theorem cl_cells {K : Nat} {v u : Value} (c : Cl K v) (hu : u ∈ v.cells.toList) : Cl K u := by
  cases c with
  | agg a h => obtain ⟨i, hi⟩ := List.getElem?_of_mem hu; exact h i u (by simpa [Value.cells] using hi)
  | bool b => simp [Value.cells] at hu; subst hu; exact .bool _
  | int k n => simp [Value.cells] at hu; subst hu; exact .int _ _
  | string s => simp [Value.cells] at hu; subst hu; exact .string _
  | nilPtr => simp [Value.cells] at hu; subst hu; exact .nilPtr
  | nilFunc => simp [Value.cells] at hu; subst hu; exact .nilFunc
  | nilSlice => simp [Value.cells] at hu; subst hu; exact .nilSlice
  | nilMk => simp [Value.cells] at hu; subst hu; exact .nilMk
  | ptr a h => simp [Value.cells] at hu; subst hu; exact .ptr a h
  | sl a n c h => simp [Value.cells] at hu; subst hu; exact .sl a n c h
  | func f a b h1 h2 => simp [Value.cells] at hu; subst hu; exact .func f a b h1 h2
  | tuple a h => simp [Value.cells] at hu; subst hu; exact .tuple a h
/-- The early store. -/
theorem Inv.early (T : Tr F N ops (ops.toList.take n) st st1 V L X) (hnl : (ops.toList.take n).length = n) (E : Early F ops n st st1 V L h2 os vs ia xv) {listed : Array Bool} {ρ : Mp} {a : Act} {w : World} (I : Inv ρ0 w0 N ops n st st1 V L listed ρ a w)
    (hcl : ∀ t v, get st.s t = some v → Cl (L 0) v) (hlw : ∀ j, Region.waitsFor .any ops n j = true → listed.getD j false = true) {ρ' : Mp} {w' : World} {v' : Value} (R' : Rel ρ' h2 w') (G : Go1 ρ st1.h w ρ' h2 w') : Inv ρ0 w0 N ops n st ⟨st1.s, h2⟩ V L (listed.setIfInBounds n true) ρ' (a.put os.dst v') w' := by
  have hle : ∀ {i j}, i ≤ j → j ≤ n → L i ≤ L j := fun h1 h2 => T.le h1 (by rw [hnl]; exact h2)
  have hLn : L n = st1.h.length := by have := T.hn; rwa [hnl] at this
  have h0a : L 0 ≤ L ia := hle (by omega) (by have := E.hia; omega)
  have han := hle (show ia + 1 ≤ n by have := E.hia; omega) (Nat.le_refl _)
  have hput : a.put os.dst v' = a := by rw [E.nod]; rfl
  rw [hput]
  have ofR : ∀ r p, ρ' r = some p → ∃ q, ρ r = some q := by
    intro r p hp
    cases h : ρ r with
    | some q => exact ⟨q, rfl⟩
    | none => have := G.keepn r (by have := R'.dom r p hp; rw [E.len] at this; exact this) h; rw [this] at hp; cases hp
  have eqρ : ∀ r x, r ≠ L ia → r < st1.h.length → h2[r]? = some (some x) → ρ' r = ρ r := by
    intro r x hr hl hx
    cases h : ρ r with
    | none => exact G.keepn r hl h
    | some p =>
      rcases G.step.live r x p (by rw [← E.same r hr]; exact hx) h with ⟨_, _, _, _, _, h5⟩ | ⟨_, h5⟩
      · exact h5
      · have := h5 x hx; omega
  have lo : ∀ r, r < L 0 → r ≠ L ia ∧ r < st1.h.length := fun r hr => ⟨by omega, by have := E.la; omega⟩
  refine ⟨R', fun r x p hx hp k hk hrk v hv => ?_, fun j o d hj hlj ho hd => ?_, fun t v hg hn => ?_, fun r p hp => ?_, fun r x hr hx => ?_, fun r hr hn => ?_, fun r x p hr hx hp hro => ?_, G.os.trans I.os, G.tape.trans I.tape, G.output.trans I.output, Nat.le_trans I.size G.size, fun b hb hn => ?_, I.hN, I.hd⟩
  · by_cases hr : r = L ia
    · subst hr
      have hxv : Cl (L (ia + 1)) xv := by
        rcases E.src with h1 | ⟨j, oj, d, h1, h3, h4, h5, h6⟩ | ⟨t, h1⟩
        · exact h1.mono (Nat.zero_le _)
        · rw [h5]
          exact (I.val j oj d (by have := E.hia; omega) (hlw j h6) h3 h4).2.mono (hle (by omega) (by have := E.hia; omega))
        · exact (hcl t xv h1).mono (hle (by omega) (by have := E.hia; omega))
      have : Cl (L (ia + 1)) v := by
        rcases (E.row x hx).2 v hv with h1 | h1
        · exact h1.mono (Nat.zero_le _)
        · exact cl_cells hxv h1
      refine this.mono (hle ?_ hk)
      rcases Nat.lt_or_ge ia k with h | h
      · exact h
      · have := hle h (by have := E.hia; omega); omega
    · obtain ⟨q, hq⟩ := ofR r p hp
      exact I.clo r x q (by rw [← E.same r hr]; exact hx) hq k hk hrk v hv
  · have hlj' : listed.getD j false = true := by rw [getD_set_ne false (show n ≠ j by omega)] at hlj; exact hlj
    obtain ⟨g1, g2⟩ := I.val j o d hj hlj' ho hd
    exact ⟨g1.step G.step, g2⟩
  · refine (I.old t v hg fun j o hj hlj ho => hn j o hj ?_ ho).step G.step
    rw [getD_set_ne false (show n ≠ j by omega)]; exact hlj
  · obtain ⟨q, hq⟩ := ofR r p hp
    rcases I.dom r q hq with h4 | ⟨j, h4, h5, h6⟩
    · exact .inl h4
    · exact .inr ⟨j, h4, getD_set_true h5, h6⟩
  · obtain ⟨h1, h3⟩ := lo r hr
    rw [eqρ r x h1 h3 hx]
    exact I.base r x hr (by rw [← E.same r h1]; exact hx)
  · exact G.keepn r (lo r hr).2 (I.none0 r hr hn)
  · rcases G.orig r x p hx hp hro with h3 | ⟨r0, x0, p0, g1, g2, g3, g4⟩
    · exact Nat.le_trans I.size h3
    · rcases Nat.lt_or_ge r0 (L 0) with h4 | h4
      · exfalso
        obtain ⟨h5, h6⟩ := lo r0 h4
        have hx0 : h2[r0]? = some (some x0) := by rw [E.same r0 h5]; exact g1
        have hp0 : ρ' r0 = some p0 := by rw [eqρ r0 x0 h5 h6 hx0]; exact g2
        exact R'.inj r r0 x x0 p p0 hx hx0 hp hp0 hro (by omega) (fun e => by rw [g3] at e; cases e) g4.symm
      · rw [← g4]; exact I.newb r0 x0 p0 h4 g1 g2 g3
  · rw [G.blk b (Nat.lt_of_lt_of_le hb I.size) fun r x p hx hp hro => ?_]
    · refine I.blk b hb fun r x p hr hx hp hro => hn r x p hr ?_ hp hro
      show h2[r]? = _
      rw [E.same r (lo r hr).1]; exact hx
    · rcases Nat.lt_or_ge r (L 0) with h4 | h4
      · refine hn r x p h4 ?_ ?_ hro
        · show h2[r]? = _
          rw [E.same r (lo r h4).1]; exact hx
        · rw [← I.base r x h4 hx]; exact hp
      · have := I.newb r x p h4 hx hp hro; omega
theorem head_go2 (hF : OpSound P F) (T : Tr F N ops (ops.toList.take n) st st1 V L X) (D : DrawOk ops (n + 1)) (E : Early F ops n st st1 V L h2 os vs ia xv) (hcl : ∀ t v, get st.s t = some v → Cl (L 0) v)
    {Q : Exit → Act → World → Prop} (hQ : ∀ a' w', Beh ρ0 st.h w0 N ⟨st1.s, h2⟩ a' w' → wpList P ops Q (ops.toList.drop (n + 1)) a' w') :
    ∀ (k : Nat) (listed : Array Bool) (ρ : Mp) (a : Act) (w : World) (hh : Hp), unl (n + 1) listed = k → HeadInv .any ops (n + 1) listed → Inv ρ0 w0 N ops n st ⟨st1.s, hh⟩ V L listed ρ a w →
      ((listed.getD n false = false ∧ hh = st1.h) ∨ (listed.getD n false = true ∧ hh = h2)) → wpAny P .any ops Q (k + (ops.size - (n + 1))) listed a w
  | 0, listed, ρ, a, w, hh, hk, inv, I, hc => by
    have hnl : (ops.toList.take n).length = n := by have := D.hn; simp; omega
    have hl := listed_all inv D.hn hk
    have hin : ∀ j, j < n + 1 → listed.getD j false = true := by
      intro j hj
      rw [hl]
      have := D.hn
      simp [listedTo, List.getElem?_append, hj]
    obtain rfl : hh = h2 := by
      rcases hc with ⟨h1, _⟩ | ⟨_, h1⟩
      · rw [hin n (by omega)] at h1; cases h1
      · exact h1
    have htake : ∀ j o, j < n → (ops.toList.take n)[j]? = some o → ops[j]? = some o := by
      intro j o hj ho
      rw [List.getElem?_take, if_pos hj] at ho
      simpa using ho
    have htake' : ∀ j o, j < n → ops[j]? = some o → (ops.toList.take n)[j]? = some o := by
      intro j o hj ho
      rw [List.getElem?_take, if_pos hj]
      simpa using ho
    have hL0 : L 0 ≤ hh.length := by rw [E.len]; have := T.le (i := 0) (j := n) (by omega) (by omega); have h2 := T.hn; rw [hnl] at h2; omega
    have h0a : L 0 ≤ L ia := T.le (by omega) (by rw [hnl]; have := E.hia; omega)
    have hst : st.h = hh.take (L 0) := by rw [T.pre]; exact (take_eq E.len E.same h0a).symm
    have hlen : st.h.length = L 0 := T.h0.symm
    rw [Nat.zero_add]
    have := wpAny_of_seq (P := P) (md := .any) (ops := ops) (Q' := Q) (ops.toList.drop (n + 1)) (n + 1) listed a w (fun j => by simp [List.getElem?_drop]) (by rw [hl]; simpa using D.seq) (hQ a w ?_)
    · simpa using this
    · refine ⟨ρ, I.rel, fun t v e => ?_, ⟨I.os, I.tape, I.output, I.size, fun b hb hn => ?_, fun r' x' p' g1 g2 g3 => ?_, ?_, by show _ ≤ hh.length; omega, fun r hr hn => I.none0 r (by omega) hn⟩, I.hN, I.hd⟩
      · have e2 : get st1.s t = some v := e
        rw [← T.xn, hnl] at e2
        rcases slots_at T n (by omega) t v e2 with ⟨j, o, h1, h2, h3, h4⟩ | ⟨h1, h2⟩
        · subst h4
          exact (I.val j o t h1 (hin j (by omega)) (htake j o h1 h2) h3).1
        · exact I.old t v h2 fun j o hj _ ho => h1 j o hj (htake' j o hj ho)
      · refine I.blk b hb fun r x p h1 h2 h3 h4 => hn r x p ?_ h3 h4
        rw [hst, take_get h1]; exact h2
      · rcases Nat.lt_or_ge r' (L 0) with h1 | h1
        · refine .inr ⟨r', x', p', by rw [hst, take_get h1]; exact g1, ?_, g3, rfl⟩
          rw [← I.base r' x' h1 g1]; exact g2
        · exact .inl (I.newb r' x' p' h1 g1 g2 g3)
      · rw [hst]
        exact step_ext hL0 fun r x p hr hx hp => by rw [I.base r x hr hx]; exact hp
  | k + 1, listed, ρ, a, w, hh, hk, inv, I, hc => by
    have hn := D.hn
    have hnl : (ops.toList.take n).length = n := by simp; omega
    have htake : ∀ j o, j < n → (ops.toList.take n)[j]? = some o → ops[j]? = some o := by
      intro j o hj ho
      rw [List.getElem?_take, if_pos hj] at ho
      simpa using ho
    have htake' : ∀ j o, j < n → ops[j]? = some o → (ops.toList.take n)[j]? = some o := by
      intro j o hj ho
      rw [List.getElem?_take, if_pos hj]
      simpa using ho
    have hle : ∀ {i j}, i ≤ j → j ≤ n → L i ≤ L j := fun h1 h2 => T.le h1 (by rw [hnl]; exact h2)
    have hLn : L n = st1.h.length := by have := T.hn; rwa [hnl] at this
    have hhl : hh.length = st1.h.length := by rcases hc with ⟨_, rfl⟩ | ⟨_, rfl⟩; rfl; exact E.len
    obtain ⟨i0, hi0, hun0⟩ : ∃ i, i < n + 1 ∧ listed.getD i true = false := by
      unfold unl at hk
      cases hf : (List.range (n + 1)).filter fun i => !listed.getD i true with
      | nil => rw [hf] at hk; simp at hk
      | cons i r =>
        have : i ∈ (List.range (n + 1)).filter fun i => !listed.getD i true := by rw [hf]; exact List.mem_cons_self ..
        rw [List.mem_filter, List.mem_range] at this
        exact ⟨i, this.1, by simpa using this.2⟩
    have hready : ∀ (m i : Nat), i = m → i < n + 1 → listed.getD i true = false → ∃ j, j ∈ Region.ready .any ops listed := by
      intro m
      induction m using Nat.strongRecOn with
      | _ m ih =>
        intro i him hi hun
        subst him
        by_cases hall : ∀ o, ops[i]? = some o → ∀ e ∈ o.after, Region.binds .any e = true → listed.getD e.on false = true
        · exact ⟨i, mem_ready.2 ⟨hun, ops[i], by simp [show i < ops.size by omega], hall _ (by simp [show i < ops.size by omega])⟩⟩
        · simp only [Classical.not_forall] at hall
          obtain ⟨o, ho, e, he, hb, hl⟩ := hall
          have hlt := D.back i o ho e he hb
          exact ih e.on hlt e.on rfl (by omega) (getD_in (by rw [inv.size]; omega) (by simpa using hl))
    have hsm : k + 1 + (ops.size - (n + 1)) = (k + (ops.size - (n + 1))) + 1 := by omega
    rw [hsm]
    refine ⟨fun h0 => ?_, fun i hi => ?_⟩
    · obtain ⟨j, hj⟩ := hready i0 i0 rfl hi0 hun0
      rw [h0] at hj; cases hj
    · have hin : i < n + 1 := by
        rcases Nat.lt_or_ge i (n + 1) with h | h
        · exact h
        · exact absurd hi (tail_waits D.sink D.chain hn inv _ i0 rfl hi0 hun0 i h)
      obtain ⟨hun, o, ho, hall⟩ := mem_ready.1 hi
      have hk' : unl (n + 1) (listed.setIfInBounds i true) = k := by have := unl_set hin hun; omega
      unfold wpOp
      rw [ho]
      simp only
      by_cases hie : i = n
      · have hie' := hie.symm
        subst hie'
        have heq : os = o := by have hos := E.hos; rw [ho] at hos; exact (Option.some.inj hos).symm
        subst heq
        obtain rfl : hh = st1.h := by
          rcases hc with ⟨_, h1⟩ | ⟨h1, _⟩
          · exact h1
          · rw [getD_both hun] at h1; cases h1
        have Si : SR ρ st1.h (keep (os.looksAt ops) st1.s) a.tmps := by
          intro t v e
          have htl := get_keep_mem e
          have e2 := get_keep e
          rw [← T.xn, hnl] at e2
          rcases slots_at T n (by omega) t v e2 with ⟨j, oj, h1, h2, h3, h4⟩ | ⟨h1, h2⟩
          · subst h4
            have hoj := htake j oj (by omega) h2
            obtain ⟨_, hw⟩ := D.deps n os t j t hin ho htl (by omega) (by rw [hoj]; exact h3) rfl
            obtain ⟨o', ho', e', he', hb', hon⟩ := Region.waitsFor_spec hw
            rw [ho] at ho'; cases ho'
            have hlj : listed.getD j false = true := by rw [← hon]; exact hall e' he' hb'
            exact (I.val j oj t (by omega) hlj hoj h3).1
          · exact I.old t v h2 fun j oj hj hlj hoj hd => h1 j oj hj (htake' j oj hj hoj) hd
        rw [if_pos (want_ok Si E.want)]
        refine .inl (hF os ⟨_, _⟩ vs _ E.fs ρ a w I.rel Si _ Q fun v' w' ρ' hv R' G => ?_)
        refine head_go2 hF T D E hcl hQ k _ _ _ _ h2 hk' (inv.set hi hin) (Inv.early T hnl E I hcl (fun j hw => by
            obtain ⟨o', ho', e', he', hb', hon⟩ := Region.waitsFor_spec hw
            rw [ho] at ho'; cases ho'
            rw [← hon]; exact hall e' he' hb') R' G) (.inr ⟨?_, rfl⟩)
        simp [inv.size, show n < ops.size by omega]
      · have hin' : i < n := by omega
        obtain ⟨hdst, hX, hstep⟩ := T.step i o (htake' i o hin' ho)
        have hLi : L i ≤ hh.length := by rw [hhl, ← hLn]; exact hle (by omega) (Nat.le_refl _)
        have hlistn : (listed.setIfInBounds i true).getD n false = listed.getD n false := getD_set_ne false hie
        have hownh : ∀ i, i < n → ∀ r x, L i ≤ r → r < L (i + 1) → hh[r]? = some (some x) → x.ro = false := by
          intro i hi r x h1 h2 hx
          rcases hc with ⟨_, rfl⟩ | ⟨_, rfl⟩
          · exact T.own i (by rw [hnl]; exact hi) r x h1 h2 hx
          · by_cases hr : r = L ia
            · subst hr; exact (E.row x hx).1
            · exact T.own i (by rw [hnl]; exact hi) r x h1 h2 (by rw [← E.same r hr]; exact hx)
        have Ri : Rel (Pm.res ρ (L i)) (hh.take (L i)) w := I.rel.res fun r x p hx hp hr v hv => I.clo r x p hx hp i (by omega) hr v hv
        have Si : SR (Pm.res ρ (L i)) (hh.take (L i)) (keep (o.looksAt ops) (X i)) a.tmps := by
          intro t v e
          have htl := get_keep_mem e
          have e2 := get_keep e
          rcases slots_at T i (by omega) t v e2 with ⟨j, oj, h1, h2, h3, h4⟩ | ⟨h1, h2⟩
          · subst h4
            have hoj := htake j oj (by omega) h2
            obtain ⟨_, hw⟩ := D.deps i o t j t hin ho htl (by omega) (by rw [hoj]; exact h3) rfl
            obtain ⟨o', ho', e', he', hb', hon⟩ := Region.waitsFor_spec hw
            rw [ho] at ho'; cases ho'
            have hlj : listed.getD j false = true := by rw [← hon]; exact hall e' he' hb'
            obtain ⟨g1, g2⟩ := I.val j oj t (by omega) hlj hoj h3
            exact g1.res (g2.mono (T.le (by omega) (by omega)))
          · have := I.old t v h2 fun j oj hj hlj hoj hd => by
              obtain ⟨hji, _⟩ := D.deps i o t j t hin ho htl (by omega) (by rw [hoj]; exact hd) rfl
              exact h1 j oj hji (htake' j oj hj hoj) hd
            exact this.res ((hcl t v h2).mono (T.le (by omega) (by omega)))
        rcases hstep with ⟨hw, hV, hLL⟩ | ⟨hw, hFo⟩
        · rw [if_neg (by rw [want_ok Si hw]; simp)]
          have h1 : VR (Pm.res ρ (L i)) (hh.take (L (i + 1))) (V i) undef := by rw [hV]; exact undef_vr
          exact head_go2 hF T D E hcl hQ k _ _ _ _ hh hk' (inv.set hi hin) (Inv.next T hhl hownh hnl I (fun i j oi oj d h1 h2 => D.dist i j oi oj d (by omega) (by omega)) hin' ho hun inv.size h1 (by rw [hLL]; exact Ri) (by rw [hLL]; exact Go1.refl _ _ _) hdst) (by rw [hlistn]; exact hc)
        · rw [if_pos (want_ok Si hw)]
          have hF2 : F o ⟨keep (o.looksAt ops) (X i), hh.take (L i)⟩ = some (V i, hh.take (L (i + 1))) := by
            rcases hc with ⟨_, rfl⟩ | ⟨hl1, rfl⟩
            · exact hFo
            · rcases Nat.lt_or_ge i ia with h3 | h3
              · have h4 := hle (show i + 1 ≤ ia by omega) (by have := E.hia; omega)
                have h5 := hle (show i ≤ ia by omega) (by have := E.hia; omega)
                rw [take_eq E.len E.same h5, take_eq E.len E.same h4]; exact hFo
              · rcases Nat.lt_or_ge ia i with h4 | h4
                · exact E.late i o _ h4 hin' ho hFo
                · exfalso
                  obtain rfl : i = ia := by omega
                  obtain ⟨o', ho', e', he', hb', hon⟩ := Region.waitsFor_spec E.waits
                  have := inv.closed n o' ho' hl1 e' he' hb'
                  rw [hon, getD_both hun] at this
                  cases this
          refine .inl (hF o ⟨_, _⟩ (V i) _ hF2 (Pm.res ρ (L i)) a w Ri Si _ Q fun v' w' ρ' hv R' G => ?_)
          exact head_go2 hF T D E hcl hQ k _ _ _ _ hh hk' (inv.set hi hin) (Inv.next T hhl hownh hnl I (fun i j oi oj d h1 h2 => D.dist i j oi oj d (by omega) (by omega)) hin' ho hun inv.size hv R' G hdst) (by rw [hlistn]; exact hc)
end
end Go.Pm

/- More steps do no harm. -/
set_option linter.unusedVariables false
set_option linter.unusedSimpArgs false
namespace Go.Pm
variable {P : Program} {G : FuncId → GI}

/-! ### more steps do no harm -/
structure Mono (P : Program) (G : FuncId → GI) (f : Nat) : Prop where
  code : ∀ N K c st r, exec P G f N K c st = some r → exec P G (f + 1) N K c st = some r
  list : ∀ N ops l st r, execL P G f N ops l st = some r → execL P G (f + 1) N ops l st = some r
  oper : ∀ o st r, execO P G f o st = some r → execO P G (f + 1) o st = some r
  call : ∀ g args h r, callP P G f g args h = some r → callP P G (f + 1) g args h = some r

theorem runH_mono {F F' : Oper → St → Option (Value × Hp)} (hF : ∀ o st r, F o st = some r → F' o st = some r) (N : Nat) (ops : Array Oper) : ∀ (l : List Oper) (st st' : St), runH F N ops l st = some st' → runH F' N ops l st = some st'
  | [], st, st', e => e
  | o :: r, st, st', e => by
    simp only [runH] at e ⊢
    split at e
    · rename_i hd
      rw [if_pos hd]
      split at e
      · rename_i hw
        exact runH_mono hF N ops r _ _ e
      · rename_i hw
        split at e
        · rename_i v h' ho
          simp only [hF _ _ _ ho]
          split at e
          · rename_i hn; rw [if_pos hn]; exact runH_mono hF N ops r _ _ e
          · cases e
        · cases e
      · cases e
    · cases e

theorem chkQ_mono {F F' : Oper → St → Option (Value × Hp)} (hF : ∀ o st r, F o st = some r → F' o st = some r) {ops : Array Oper} {st : St} : ∀ {q : List (Nat × Nat)}, chkQ F ops st q → chkQ F' ops st q
  | [], _ => trivial
  | (k, j) :: r, h => by
    refine ⟨?_, chkQ_mono hF h.2⟩
    have h1 := h.1
    split
    · rename_i hk
      rw [if_pos hk] at h1
      split at h1
      · exact hF _ _ _ h1
      · exact h1
    · trivial
theorem runG_mono {F F' : Oper → St → Option (Value × Hp)} (hF : ∀ o st r, F o st = some r → F' o st = some r) (N : Nat) (ops : Array Oper) (q : List (Nat × Nat)) : ∀ (Ls : List Nat) (l : List Oper) (st st' : St), runG F N ops q Ls l st = some st' → runG F' N ops q Ls l st = some st'
  | Ls, [], st, st', e => by
    simp only [runG] at e ⊢
    split at e
    · rename_i hc; rw [if_pos (chkQ_mono hF hc)]; exact e
    · cases e
  | Ls, o :: r, st, st', e => by
    simp only [runG] at e ⊢
    split at e
    · rename_i hd
      rw [if_pos hd]
      split at e
      · rename_i hw
        exact runG_mono hF N ops q _ r _ _ e
      · rename_i hw
        split at e
        · rename_i v h' ho
          simp only [hF _ _ _ ho]
          split at e
          · rename_i hn; rw [if_pos hn]; exact runG_mono hF N ops q _ r _ _ e
          · cases e
        · cases e
      · cases e
    · cases e

theorem mono : ∀ f, Mono P G f
  | 0 => ⟨fun _ _ _ _ _ e => by simp [exec] at e, fun _ _ _ _ _ e => by simp [execL] at e, fun _ _ _ e => by simp [execO] at e, fun _ _ _ _ e => by simp [callP] at e⟩
  | f + 1 => by
    have ih := mono f
    refine ⟨fun N K c st r e => ?_, fun N ops l st r e => ?_, fun o st r e => ?_, fun g args h r e => ?_⟩
    · cases c with
      | region id ops draw =>
        rw [exec] at e ⊢
        split at e
        · rename_i hd
          rw [if_pos hd]
          split at e
          · rename_i n hn
            split at e
            · rename_i st1 h1
              simp only [runH_mono (fun o st r h => ih.oper o st r h) _ _ _ _ _ h1]
              obtain ⟨st2, h2, rfl⟩ := Option.map_eq_some_iff.1 e
              rw [ih.list _ _ _ _ _ h2]; rfl
            · cases e
          · split at e
            · rename_i n q hn
              split at e
              · rename_i st1 h1
                simp only [runG_mono (fun o st r h => ih.oper o st r h) _ _ _ _ _ _ _ h1]
                obtain ⟨st2, h2, rfl⟩ := Option.map_eq_some_iff.1 e
                rw [ih.list _ _ _ _ _ h2]; rfl
              · cases e
            · cases e
        · rename_i hd
          rw [if_neg hd]
          split at e
          · exact e
          · obtain ⟨st2, h2, rfl⟩ := Option.map_eq_some_iff.1 e
            rw [ih.list _ _ _ _ _ h2]; rfl
      | seq a b =>
        rw [exec] at e ⊢
        cases h1 : exec P G f N K a st with
        | none => rw [h1] at e; cases e
        | some r1 =>
          rw [h1] at e
          rw [ih.code _ _ _ _ _ h1]
          obtain ⟨ex, st1⟩ := r1
          cases ex with
          | normal => exact ih.code _ _ _ _ _ e
          | _ => exact e
      | cond c a b =>
        rw [exec] at e ⊢
        split at e
        · split at e
          · rename_i ht; rw [if_pos ht]; exact ih.code _ _ _ _ _ e
          · rename_i ht; rw [if_neg ht]; exact ih.code _ _ _ _ _ e
        · cases e
      | block id b =>
        rw [exec] at e ⊢
        cases h1 : exec P G f N K b st with
        | none => rw [h1] at e; cases e
        | some r1 =>
          rw [h1] at e
          rw [ih.code _ _ _ _ _ h1]
          exact e
      | loop b =>
        rw [exec] at e ⊢
        cases h1 : exec P G f N K b { st with s := keep (keepAt K.keep (firstId b)) st.s } with
        | none => rw [h1] at e; cases e
        | some r1 =>
          rw [h1] at e
          rw [ih.code _ _ _ _ _ h1]
          obtain ⟨ex, st1⟩ := r1
          cases ex with
          | normal => exact ih.code _ _ _ _ _ e
          | _ => exact e
      | skip => rw [exec] at e ⊢; exact e
      | exit id => rw [exec] at e ⊢; exact e
      | ret => rw [exec] at e ⊢; exact e
      | rangeFunc => simp only [exec] at e; cases e
      | scope => simp only [exec] at e; cases e
      | label => simp only [exec] at e; cases e
      | goto => simp only [exec] at e; cases e
      | refuse => simp only [exec] at e; cases e
    · cases l with
      | nil => rw [execL] at e ⊢; exact e
      | cons o l =>
        rw [execL] at e ⊢
        split at e
        · rename_i hd
          rw [if_pos hd]
          split at e
          · exact ih.list _ _ _ _ _ e
          · split at e
            · rename_i v h' ho
              simp only [ih.oper _ _ _ ho]
              exact ih.list _ _ _ _ _ e
            · cases e
          · cases e
        · cases e
    · rw [execO] at e ⊢
      cases ho : o.op with
      | call c =>
        rw [ho] at e
        simp only at e ⊢
        split at e
        · split at e
          · exact ih.call _ _ _ _ e
          · cases e
        · exact e
        · cases e
      | _ => rw [ho] at e; exact e
    · rw [callP] at e ⊢
      split at e
      · split at e
        · rename_i hle
          rw [if_pos hle]
          split at e
          · cases e
          · rename_i ex st1 hne h1
            rw [ih.code _ _ _ _ _ h1]
            cases ex with
            | exit i => exact absurd rfl (hne i)
            | _ => exact e
          · cases e
        · cases e
      · cases e

theorem code_le {f f' : Nat} (h : f ≤ f') {N : Nat} {K : GI} {c : Code} {st : St} {r} (e : exec P G f N K c st = some r) : exec P G f' N K c st = some r := by
  induction h with
  | refl => exact e
  | step _ ih => exact (mono _).code _ _ _ _ _ ih
theorem list_le {f f' : Nat} (h : f ≤ f') {N : Nat} {ops : Array Oper} {l : List Oper} {st : St} {r} (e : execL P G f N ops l st = some r) : execL P G f' N ops l st = some r := by
  induction h with
  | refl => exact e
  | step _ ih => exact (mono _).list _ _ _ _ _ ih
theorem oper_le {f f' : Nat} (h : f ≤ f') {o : Oper} {st : St} {r} (e : execO P G f o st = some r) : execO P G f' o st = some r := by
  induction h with
  | refl => exact e
  | step _ ih => exact (mono _).oper _ _ _ ih
theorem call_le {f f' : Nat} (h : f ≤ f') {g : FuncId} {args : List Value} {h0 : Hp} {r} (e : callP P G f g args h0 = some r) : callP P G f' g args h0 = some r := by
  induction h with
  | refl => exact e
  | step _ ih => exact (mono _).call _ _ _ _ ih

end Go.Pm
