/- append and copy. -/
import Derived.Test.YtagofldjmcaalaaPmF
set_option linter.unusedVariables false
set_option linter.unusedSimpArgs false
namespace Go.Pm
variable {P : Program} {ρ : Mp} {h : Hp} {w : World}

/-- A row of one's own goes on as row k (itself, grown, or a new one while the old one is gone), in its own block or in a new one. -/
theorem Rel.regrow (R : Rel ρ h w) {r : Nat} {x : Row} {p : Place} (hx : h[r]? = some (some x)) (hp : ρ r = some p) (hro : x.ro = false)
    {k : Nat} {x' : Row} {p' : Place} {h' : Hp} {w' : World} (hro' : x'.ro = false)
    (hk : h'[k]? = some (some x')) (hkr : (k = r ∧ x.cells.length < x'.cells.length) ∨ (k = h.length ∧ h'[r]? = some none))
    (hoth : ∀ j, j ≠ k → j ≠ r → h'[j]? = h[j]?) (hlen : h.length ≤ h'.length)
    (os : w'.os = w.os) (tape : w'.tape = w.tape) (output : w'.output = w.output) (size : w.heap.size ≤ w'.heap.size)
    (hblk : ∀ b, b < w.heap.size → b ≠ p.b → w'.heap[b]? = w.heap[b]?) (hb : p'.b = p.b ∨ w.heap.size ≤ p'.b)
    {c : Array Value} {e : TypeId} (hc : w'.heap[p'.b]? = some (.cells c e (0, 0))) (hcs : c.size = p'.bs) (hd : p'.d + x'.cells.length ≤ p'.bs)
    (hcells : ∀ (i : Nat) v, x'.cells[i]? = some v → ∃ v', c[p'.d + i]? = some v' ∧ VR ρ h v v') :
    Rel (upd ρ k p') h' w' ∧ Go1 ρ h w (upd ρ k p') h' w' := by
  have hrl : r < h.length := (List.getElem?_eq_some_iff.1 hx).1
  have ne_k : ∀ {j y q}, h[j]? = some (some y) → ρ j = some q → j ≠ r → j ≠ k := by
    intro j y q hy hq hjr hjk
    rcases hkr with ⟨e1, _⟩ | ⟨e1, _⟩
    · exact hjr (hjk.trans e1)
    · have := R.dom j q hq; omega
  have rdead : k ≠ r → h'[r]? = some none := by
    intro hne
    rcases hkr with ⟨e1, _⟩ | ⟨_, e2⟩
    · exact absurd e1 hne
    · exact e2
  have grow : k = r → x.cells.length < x'.cells.length := by
    intro he
    rcases hkr with ⟨_, e2⟩ | ⟨e1, _⟩
    · exact e2
    · omega
  have st : Step ρ h (upd ρ k p') h' := by
    refine ⟨fun j y q hy hq => ?_, fun a ⟨L, e1, hlt, hg⟩ => ⟨L, e1, by omega, fun y hy => ?_⟩⟩
    · by_cases hj : j = r
      · subst hj
        rw [hx] at hy; cases hy
        refine .inr ⟨by omega, fun y' hy' => ?_⟩
        by_cases hkj : k = j
        · subst hkj
          rw [hk] at hy'; cases hy'
          exact grow rfl
        · rw [rdead hkj] at hy'; cases hy'
      · have hjk := ne_k hy hq hj
        exact .inl ⟨y, by rw [hoth j hjk hj]; exact hy, rfl, rfl, rfl, by simp [upd, hjk, hq]⟩
    · by_cases hj : a.block = r
      · rw [hj] at hy hg
        have := hg x hx
        by_cases hkj : k = r
        · rw [← hkj, hk] at hy; cases hy
          have := grow hkj
          omega
        · rw [rdead hkj] at hy; cases hy
      · by_cases hjk : a.block = k
        · rcases hkr with ⟨e2, _⟩ | ⟨e2, _⟩
          · exact absurd (hjk.trans e2) hj
          · omega
        · rw [hoth _ hjk hj] at hy; exact hg y hy
  have old : ∀ {j y q}, h'[j]? = some (some y) → upd ρ k p' j = some q → j ≠ k → h[j]? = some (some y) ∧ ρ j = some q ∧ j ≠ r := by
    intro j y q hy hq hjk
    have hjr : j ≠ r := by
      intro he
      subst he
      rw [rdead (fun e2 => hjk e2.symm)] at hy; cases hy
    exact ⟨by rw [← hoth j hjk hjr]; exact hy, by simpa [upd, hjk] using hq, hjr⟩
  have new : ∀ {q}, upd ρ k p' k = some q → q = p' := by
    intro q hq
    simp [upd] at hq
    exact hq.symm
  have far : ∀ {j y q}, h[j]? = some (some y) → ρ j = some q → j ≠ r → (y.ro = true → y.cells ≠ []) → q.b ≠ p.b ∧ q.b < w.heap.size := by
    intro j y q hy hq hjr hyr
    exact ⟨fun e2 => R.inj r j x y p q hx hy hp hq hro (fun e3 => hjr e3.symm) hyr e2.symm, R.lt hy hq hyr⟩
  refine ⟨⟨fun j y q hy hq hyr => ?_, fun j y q hy hq hyr i v hi => ?_, fun j j' y y' q q' hy hy' hq hq' hyr hne hyr' => ?_, fun j q hq => ?_⟩, ⟨os, tape, output, size, fun b hb2 hn => hblk b hb2 (fun e2 => hn r x p hx hp hro e2.symm), fun j y q hy hq hyr => ?_, st, hlen, fun j hj e2 => by
    have hjk : j ≠ k := by
      rcases hkr with ⟨e3, _⟩ | ⟨e3, _⟩
      · intro e4; rw [e4, e3, hp] at e2; cases e2
      · omega
    simpa [upd, hjk] using e2⟩⟩
  · by_cases hjk : j = k
    · subst hjk
      rw [hk] at hy; cases hy
      obtain rfl := new hq
      exact ⟨c, e, hc, hcs, hd, fun i v hi => by obtain ⟨v', h1, h2⟩ := hcells i v hi; exact ⟨v', h1, h2.step st⟩⟩
    · obtain ⟨h1, h2, h3⟩ := old hy hq hjk
      obtain ⟨c1, e1, i1, i2, i3, i4⟩ := R.own j y q h1 h2 hyr
      obtain ⟨f1, f2⟩ := far h1 h2 h3 (fun e2 => by rw [hyr] at e2; cases e2)
      exact ⟨c1, e1, by rw [hblk _ f2 f1]; exact i1, i2, i3, fun i v hi => by obtain ⟨v', g1, g2⟩ := i4 i v hi; exact ⟨v', g1, g2.step st⟩⟩
  · by_cases hjk : j = k
    · subst hjk
      rw [hk] at hy; cases hy
      rw [hro'] at hyr; cases hyr
    · obtain ⟨h1, h2, h3⟩ := old hy hq hjk
      obtain ⟨v', g1, g2⟩ := R.ro j y q h1 h2 hyr i v hi
      obtain ⟨f1, f2⟩ := far h1 h2 h3 (fun _ e2 => by rw [e2] at hi; simp at hi)
      refine ⟨v', ?_, g2.step st⟩
      rw [← g1]
      unfold World.cell?
      rw [hblk _ f2 f1]
  · by_cases hjk : j = k
    · subst hjk
      obtain rfl := new hq
      obtain ⟨h1, h2, h3⟩ := old hy' hq' (fun e2 => hne e2.symm)
      obtain ⟨f1, f2⟩ := far h1 h2 h3 hyr'
      rcases hb with e2 | e2
      · rw [e2]; exact fun e3 => f1 e3.symm
      · omega
    · obtain ⟨h1, h2, h3⟩ := old hy hq hjk
      by_cases hjk' : j' = k
      · subst hjk'
        obtain rfl := new hq'
        obtain ⟨f1, f2⟩ := far h1 h2 h3 (fun e2 => by rw [hyr] at e2; cases e2)
        rcases hb with e2 | e2
        · rw [e2]; exact f1
        · omega
      · obtain ⟨h1', h2', h3'⟩ := old hy' hq' hjk'
        exact R.inj j j' y y' q q' h1 h1' h2 h2' hyr hne hyr'
  · by_cases hjk : j = k
    · subst hjk; exact (List.getElem?_eq_some_iff.1 hk).1
    · have : ρ j = some q := by simpa [upd, hjk] using hq
      have := R.dom j q this
      omega
  · by_cases hjk : j = k
    · subst hjk
      obtain rfl := new hq
      rcases hb with e2 | e2
      · exact .inr ⟨r, x, p, hx, hp, hro, e2.symm⟩
      · exact .inl e2
    · obtain ⟨h1, h2, h3⟩ := old hy hq hjk
      exact .inr ⟨j, y, q, h1, h2, hyr, rfl⟩

/-! ### what is appended -/
theorem len_vr {x x' : Value} {m : Nat} (hv : VR ρ h x x') (e : lenP x = some m) (w : World) : (Builtin.lenOf x').run P w = .ok m w := by
  cases x <;> simp [lenP] at e
  subst e
  cases hv <;> simp [Builtin.lenOf]

theorem run_first_some {size n : Nat} {a : Addr} {c : Nat} {l : List Value} (hl : l.length = n * size) (hc : ∀ (j : Nat) v, l[j]? = some v → w.cell? (a.add j) = some v) : (Builtin.firstCells size n (.slice (some a) n c)).run P w = .ok l.toArray w := by
  have := run_loadCells_list (P := P) w a l hc
  rw [hl] at this
  simp [Builtin.firstCells, this]

/-- The first cells of a slice, whatever the draws. -/
theorem seen_ok (R : Rel ρ h w) {size m : Nat} {x x' : Value} {ys : List Value} (hv : VR ρ h x x') (e : seenP h size x = some ys) (em : lenP x = some m) :
    ys.length = m * size ∧ ∃ ys', VL ρ h ys ys' ∧ ∀ (k d : Nat), k ≤ m → (Builtin.firstCells size k x').run P { w with drawn := d } = .ok (ys'.take (k * size)).toArray { w with drawn := d } := by
  unfold seenP at e
  split at e
  · cases e
    cases em
    cases hv
    exact ⟨by simp, [], VL.nil, fun k d hk => by simp [Builtin.firstCells]⟩
  · rename_i a n c
    cases em
    split at e
    · rename_i row hrow
      split at e
      · rename_i hb
        cases e
        have hlen : ((row.cells.drop a.off).take (m * size)).length = m * size := by simp; omega
        refine ⟨hlen, ?_⟩
        rcases row_slice hrow hv with ⟨p, c', h1, h2, rfl, h3, h4, h5⟩ | ⟨rfl, rfl, a', p, rfl, i1, i2⟩
        · obtain ⟨l', hl, hc⟩ := R.seg h1 h2 a.off (m * size)
          refine ⟨l', hl, fun k d hk => ?_⟩
          have hkl : (l'.take (k * size)).length = k * size := by
            have := hl.1
            have := Nat.mul_le_mul_right size hk
            simp; omega
          have := run_loadCells_list (P := P) { w with drawn := d } ⟨p.b, p.d + a.off, none⟩ (l'.take (k * size)) (fun j v hj => by
            rw [List.getElem?_take] at hj
            split at hj
            · exact hc j v hj
            · cases hj)
          rw [hkl] at this
          simp [Builtin.firstCells, this]
        · refine ⟨[], by simpa using VL.nil, fun k d hk => ?_⟩
          have hk0 : k = 0 := by omega
          subst hk0
          simp [Builtin.firstCells, loadCells, loadCellsFrom]
      · cases e
    · cases e
  · cases e

theorem run_app_room {t ty e : TypeId} {i : TypeInfo} (ht : P.underlying t = some (.slice e)) (hi : P.info? e = some i) {base : Option Addr} {sLen sCap m : Nat} {x' : Value} {news : List Value}
    (hm : ∀ w : World, (Builtin.lenOf x').run P w = .ok m w) (hf : (Builtin.firstCells i.size m x').run P w = .ok news.toArray w) (hroom : sLen + m ≤ sCap) {w' : World}
    (hst : ∀ a, base = some a → (storeCells (a.add (sLen * i.size)) news).run P w = .ok () w') (hn : base = none → w' = w) :
    (Builtin.append_ #[t, t] ty #[.slice base sLen sCap, x']).run P w = .ok (.slice base (sLen + m) sCap) w' := by
  cases base with
  | none => have := hn rfl; subst this; simp [Builtin.append_, run_underlying ht, run_size hi, hm, hroom, hf]
  | some a => simp [Builtin.append_, run_underlying ht, run_size hi, hm, hroom, hf, hst a rfl]

theorem run_app_grow {t ty e : TypeId} {i : TypeInfo} {z : Value} (ht : P.underlying t = some (.slice e)) (hi : P.info? e = some i) (hz : i.zero = some z) {base : Option Addr} {sLen sCap m : Nat} {x' : Value} {news olds : List Value}
    (hm : ∀ w : World, (Builtin.lenOf x').run P w = .ok m w) (hf : (Builtin.firstCells i.size m x').run P w.drew = .ok news.toArray w.drew) (ho : (Builtin.firstCells i.size sLen (.slice base sLen sCap)).run P w.drew = .ok olds.toArray w.drew)
    (hg : sCap < sLen + m) (hby : 0 < i.bytes) (hb : (sLen + m) * i.bytes ≤ 2 ^ 47) :
    (Builtin.append_ #[t, t] ty #[.slice base sLen sCap, x']).run P w =
      .ok (.slice (some ⟨w.heap.size, 0, none⟩) (sLen + m) (grownCap w (sLen + m) sCap e))
        (w.drew.alloc (.cells (olds ++ news ++ (Builtin.zeroCells z.cells (grownCap w (sLen + m) sCap e - (sLen + m))).toList).toArray e)) := by
  have hn : ¬ (sLen + m ≤ sCap) := by omega
  have hnb : ¬ i.bytes = 0 := by omega
  have hfit := growslice_fits (need := sLen + m) (old := sCap) (bytes := i.bytes) hg (by simpa using hb)
  have h48' : ¬ (281474976710656 < Builtin.nextslicecap (sLen + m) sCap * i.bytes) := by omega
  simp [Builtin.append_, run_underlying ht, run_size hi, run_info hi, hm, hn, hnb, h48', Question.forced, hf, ho, run_zero hi hz, newRow, grownCap]
  congr 2
  apply Array.ext'
  simp [List.append_assoc]
end Go.Pm
