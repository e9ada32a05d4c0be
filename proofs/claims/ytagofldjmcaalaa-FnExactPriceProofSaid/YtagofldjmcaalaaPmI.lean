/- The builtins; all operations that call nothing. -/
import Derived.Test.YtagofldjmcaalaaPmH
set_option linter.unusedVariables false
set_option linter.unusedSimpArgs false
namespace Go.Pm
variable {P : Program} {ρ : Mp} {h : Hp} {w : World}

theorem all_take {l : List Value} (n : Nat) (e : l.all Pm.one = true) : (l.take n).all Pm.one = true := by
  rw [List.all_eq_true] at *
  exact fun v hv => e v (List.mem_of_mem_take hv)

theorem copy_ok (R : Rel ρ h w) {t u ty : TypeId} {d d' x x' r : Value} {h' : Hp} (hd : VR ρ h d d') (hx : VR ρ h x x') (e : copyP P h t d x = some (r, h')) :
    ∃ r' w', (Builtin.copy_ #[t, u] ty #[d', x']).run P w = .ok r' w' ∧ VR ρ h' r r' ∧ Rel ρ h' w' ∧ Go1 ρ h w ρ h' w' := by
  unfold copyP at e
  split at e
  · rename_i eT n m ht hn hm
    split at e
    · rename_i q hi
      have hlen := fun w => len_vr (P := P) hx hm w
      split at e
      · rename_i y hys
        cases e
        cases hd
        obtain ⟨hyl, ys', hy, hf⟩ := seen_ok (P := P) R hx hys hm
        have h0 := hf 0 w.drawn (Nat.zero_le _)
        simp only [Nat.zero_mul, List.take_zero] at h0
        exact ⟨.int .i64 0, w, by simp [Builtin.copy_, run_underlying ht, hlen, run_size hi, h0, goInt], .int _ _, R, Go1.refl _ _ _⟩
      · rename_i a n' c ys hys
        cases hn
        split at e
        · rename_i row hrow
          split at e
          · rename_i hc
            obtain ⟨hro, hrs, hcl, hone⟩ := hc
            simp only [Option.some.injEq, Prod.mk.injEq] at e
            obtain ⟨rfl, rfl⟩ := e
            obtain ⟨hyl, ys', hy, hf⟩ := seen_ok (P := P) R hx hys hm
            obtain ⟨hspot, hx0⟩ := rowAt_spot hrow
            have h0 := hf (min m n) w.drawn (Nat.min_le_left _ _)
            have hle := Nat.mul_le_mul_right q.size (Nat.min_le_right m n)
            rcases row_slice hrow hd with ⟨p, c', h1, hp2, rfl, hnc, hcc, hbd⟩ | ⟨rfl, rfl, a', p, rfl, i1, i2⟩
            · obtain ⟨w', hst, R', G⟩ := R.store (P := P) h1 hp2 hro (hy.take (min m n * q.size)) (all_take _ hone) a.off (by simp; omega)
              refine ⟨_, w', ?_, .int _ _, R', G⟩
              have h0' : (Builtin.firstCells q.size (m.min n) x').run P w = .ok (ys'.take (min m n * q.size)).toArray w := h0
              simp [Builtin.copy_, run_underlying ht, hlen, run_size hi, h0', hst, goInt]
            · refine ⟨_, w, ?_, .int _ _, ?_, ?_⟩
              · have h0' : (Builtin.firstCells q.size (m.min 0) x').run P w = .ok (ys'.take (min m 0 * q.size)).toArray w := h0
                simp only [Nat.min_zero, Nat.zero_mul, List.take_zero] at h0'
                simp [Builtin.copy_, run_underlying ht, hlen, run_size hi, h0', goInt, storeCells]
              · simp only [Nat.min_zero, Nat.zero_mul, List.take_zero]
                rw [show ({ row with cells := splice row.cells a.off [] } : Row) = row from rfl, set_same hx0]; exact R
              · simp only [Nat.min_zero, Nat.zero_mul, List.take_zero]
                rw [show ({ row with cells := splice row.cells a.off [] } : Row) = row from rfl, set_same hx0]; exact Go1.refl _ _ _
          · cases e
        · cases e
      · cases e
    · cases e
  · cases e

theorem lenB_ok {t : TypeId} {ts : List TypeId} {x x' r : Value} {l : List Value} {ty : TypeId} (hx : VR ρ h x x') (e : lenB P t x = some r) : (Builtin.len_ (t :: ts).toArray ty (x' :: l).toArray).run P w = .ok r w ∧ VR ρ h r r := by
  unfold lenB at e
  split at e
  · rename_i s hu
    cases hx; cases e
    exact ⟨by simp [Builtin.len_, run_underlying hu, goInt], .int _ _⟩
  · rename_i n el hu
    cases e
    refine ⟨?_, .int _ _⟩
    simp [Builtin.len_, run_underlying hu, goInt]
  · rename_i el a n c hu
    cases e
    refine ⟨?_, .int _ _⟩
    cases hx <;> simp [Builtin.len_, run_underlying hu, goInt]
  · cases e

theorem fold_max : ∀ (l l' : List Value) (a r : Int), VL ρ h l l' → foldI (fun x y => if y > x then y else x) a l = some r → (l'.foldlM Builtin.max2 (.int .i64 a)).run P w = .ok (.int .i64 r) w
  | [], l', a, r, hl, e => by rw [hl.nil_left]; cases e; simp
  | x :: l, l', a, r, hl, e => by
    obtain ⟨x', m', rfl, h1, h2⟩ := hl.head
    cases x <;> try (cases e; done)
    rename_i k n
    cases k <;> try (cases e; done)
    cases h1
    simp only [foldI] at e
    simp [Builtin.max2]
    simpa using fold_max l m' _ r h2 e
theorem fold_min : ∀ (l l' : List Value) (a r : Int), VL ρ h l l' → foldI (fun x y => if y < x then y else x) a l = some r → (l'.foldlM Builtin.min2 (.int .i64 a)).run P w = .ok (.int .i64 r) w
  | [], l', a, r, hl, e => by rw [hl.nil_left]; cases e; simp
  | x :: l, l', a, r, hl, e => by
    obtain ⟨x', m', rfl, h1, h2⟩ := hl.head
    cases x <;> try (cases e; done)
    rename_i k n
    cases k <;> try (cases e; done)
    cases h1
    simp only [foldI] at e
    simp [Builtin.min2]
    simpa using fold_min l m' _ r h2 e

theorem builtin_ok (R : Rel ρ h w) {b : Builtin} {ts : List TypeId} {args args' : List Value} {r : Value} {h' : Hp} (ha : VL ρ h args args') (e : builtinP P h b ts args = some (r, h')) (ty : TypeId) (cs : Array Bool) :
    Ok P ρ h w ((Go.builtin b ts.toArray ty cs args'.toArray).run P w) r h' := by
  unfold builtinP at e
  split at e
  · rename_i t ts x l
    obtain ⟨v, hv, e⟩ := Option.map_eq_some_iff.1 e
    cases e
    obtain ⟨x', l', rfl, h1, _⟩ := ha.head
    obtain ⟨h2, h3⟩ := lenB_ok (P := P) (w := w) (ts := ts) (l := l') (ty := ty) h1 hv
    exact Ok.same R (by simp only [Go.builtin, Sem.run_bind, h2, Result.andThen_ok, Sem.run_pure]) h3
  · rename_i t u s x
    split at e
    · rename_i htu
      subst htu
      obtain ⟨s', l', rfl, h1, h2⟩ := ha.head
      obtain ⟨x', l'', rfl, h3, h4⟩ := h2.head
      rw [h4.nil_left]
      obtain ⟨r', w', ρ', hr, hv, R', G⟩ := append_ok (P := P) (ty := ty) R h1 h3 e
      exact ⟨r', w', ρ', .inl (by simp only [Go.builtin, Sem.run_bind, hr, Result.andThen_ok, Sem.run_pure]), hv, R', G⟩
    · cases e
  · rename_i t u d x
    obtain ⟨s', l', rfl, h1, h2⟩ := ha.head
    obtain ⟨x', l'', rfl, h3, h4⟩ := h2.head
    rw [h4.nil_left]
    obtain ⟨r', w', hr, hv, R', G⟩ := copy_ok (P := P) (u := u) (ty := ty) R h1 h3 e
    exact ⟨r', w', ρ, .inl (by simp only [Go.builtin, Sem.run_bind, hr, Result.andThen_ok, Sem.run_pure]), hv, R', G⟩
  · rename_i a l
    obtain ⟨v, hv, e⟩ := Option.map_eq_some_iff.1 e
    cases e
    obtain ⟨x', l', rfl, h1, h2⟩ := ha.head
    cases h1
    have := fold_max (P := P) (w := w) l l' a v h2 hv
    exact Ok.same R (by simp only [Go.builtin, Builtin.max_, Sem.run_bind, this, Result.andThen_ok, Sem.run_pure]) (.int _ _)
  · rename_i a l
    obtain ⟨v, hv, e⟩ := Option.map_eq_some_iff.1 e
    cases e
    obtain ⟨x', l', rfl, h1, h2⟩ := ha.head
    cases h1
    have := fold_min (P := P) (w := w) l l' a v h2 hv
    exact Ok.same R (by simp only [Go.builtin, Builtin.min_, Sem.run_bind, this, Result.andThen_ok, Sem.run_pure]) (.int _ _)
  · cases e

theorem evParts_pl {s : Slots} {a : Act} (S : SR ρ h s a.tmps) : ∀ (ps : List (Nat × Operand)) (l : List (Nat × Value)), evParts s ps = some l → PL ρ h l (ps.map fun p => (p.1, a.eval p.2))
  | [], l, e => by cases e; exact ⟨rfl, fun i x x' h1 => by simp at h1⟩
  | (i, x) :: ps, l, e => by
    simp only [evParts] at e
    obtain ⟨v, hv, e⟩ := Option.bind_eq_some_iff.1 e
    obtain ⟨m, hm, rfl⟩ := Option.map_eq_some_iff.1 e
    have ih := evParts_pl S ps m hm
    refine ⟨by simpa using ih.1, fun j y y' h1 h2 => ?_⟩
    cases j with
    | zero => simp at h1 h2; subst h1; subst h2; exact ⟨rfl, ev_vr S hv⟩
    | succ j => simp at h1 h2; exact ih.2 j y y' h1 (by simpa using h2)
theorem evO_ov {s : Slots} {a : Act} (S : SR ρ h s a.tmps) {x : Option Operand} {v : Option Value} (e : evO s x = some v) : OV ρ h v (x.map a.eval) := by
  cases x with
  | none => cases e; exact trivial
  | some x =>
    obtain ⟨u, hu, rfl⟩ := Option.map_eq_some_iff.1 e
    exact ev_vr S hu

theorem op1_ok (R : Rel ρ h w) {s : Slots} {a : Act} (S : SR ρ h s a.tmps) {o : Oper} {v : Value} {h' : Hp} (e : op1 P s h o.op = some (v, h')) : Ok P ρ h w ((execOp a.eval o).run P w) v h' := by
  cases ho : o.op <;> rw [ho] at e <;> simp only [op1] at e <;> try (cases e; done)
  case move x =>
    obtain ⟨u, hu, e⟩ := Option.map_eq_some_iff.1 e
    cases e
    exact Ok.same R (by simp [execOp, ho]) (ev_vr S hu)
  case assign x =>
    obtain ⟨u, hu, e⟩ := Option.map_eq_some_iff.1 e
    cases e
    exact Ok.same R (by simp [execOp, ho]) (ev_vr S hu)
  case pick c x y =>
    split at e
    · rename_i t hc
      obtain ⟨u, hu, e⟩ := Option.map_eq_some_iff.1 e
      cases e
      have h1 := ev_vr S hc
      generalize hcv : a.eval c = cv at h1
      cases h1
      refine Ok.same R (v' := a.eval (if t then x else y)) (by simp [execOp, ho, hcv, asBool]; cases t <;> rfl) (ev_vr S hu)
    · cases e
  case alloc eT =>
    obtain ⟨z, hz, e⟩ := Option.map_eq_some_iff.1 e
    cases e
    obtain ⟨r', w', ρ', hr, hv, R', G⟩ := alloc_ok R hz
    exact ⟨r', w', ρ', .inl (by simp [execOp, ho, hr]), hv, R', G⟩
  case box eT x =>
    obtain ⟨u, hu, e⟩ := Option.bind_eq_some_iff.1 e
    split at e
    · rename_i h1
      cases e
      obtain ⟨r', w', ρ', hr, hv, R', G⟩ := box_ok (P := P) (eT := eT) R (ev_vr S hu) h1
      exact ⟨r', w', ρ', .inl (by simp [execOp, ho, hr]), hv, R', G⟩
    · cases e
  case build t ps =>
    obtain ⟨l, hl, e⟩ := Option.bind_eq_some_iff.1 e
    obtain ⟨r, hr, e⟩ := Option.map_eq_some_iff.1 e
    cases e
    obtain ⟨r', h1, h2⟩ := build_ok (w := w) (evParts_pl S _ l hl) hr
    have h3 : (ps.map fun (i, x) => (i, a.eval x)) = (ps.toList.map fun p => (p.1, a.eval p.2)).toArray := by
      apply Array.ext'; simp
    exact Ok.same R (by simp only [execOp, ho, h3, Sem.run_bind, h1, Result.andThen_ok, Sem.run_pure]) h2
  case buildSlice t n ps =>
    obtain ⟨l, hl, e⟩ := Option.bind_eq_some_iff.1 e
    obtain ⟨r', w', ρ', hr, hv, R', G⟩ := buildSlice_ok R (evParts_pl S _ l hl) e
    have h3 : (ps.map fun (i, x) => (i, a.eval x)) = (ps.toList.map fun p => (p.1, a.eval p.2)).toArray := by
      apply Array.ext'; simp
    exact ⟨r', w', ρ', .inl (by simp only [execOp, ho, h3, Sem.run_bind, hr, Result.andThen_ok, Sem.run_pure]), hv, R', G⟩
  case load t x =>
    obtain ⟨u, hu, e⟩ := Option.bind_eq_some_iff.1 e
    obtain ⟨r, hr, e⟩ := Option.map_eq_some_iff.1 e
    cases e
    obtain ⟨r', h1, h2⟩ := load_ok (P := P) R (ev_vr S hu) hr
    exact Ok.same R (by simp [execOp, ho, h1]) h2
  case store t x y =>
    obtain ⟨u, hu, e⟩ := Option.bind_eq_some_iff.1 e
    obtain ⟨r, hr, e⟩ := Option.bind_eq_some_iff.1 e
    obtain ⟨h2, hh, e⟩ := Option.map_eq_some_iff.1 e
    cases e
    obtain ⟨w', h1, R', G⟩ := store_ok (P := P) R (ev_vr S hu) (ev_vr S hr) hh
    exact ⟨undef, w', ρ, .inr ⟨by simp [execOp, ho, h1], rfl⟩, undef_vr, R', G⟩
  case nilCheck x =>
    split at e
    · rename_i ad hx
      cases e
      have h1 := ev_vr S hx
      generalize hcv : a.eval x = cv at h1
      cases h1 with
      | ptr r o' y p g1 g2 => exact Ok.same R (by simp [execOp, ho, hcv]) (.ptr r o' y p g1 g2)
      | ptrGone _ a' g => exact Ok.same R (by simp [execOp, ho, hcv]) (.ptrGone _ a' g)
    · rename_i f b c hx
      cases e
      have h1 := ev_vr S hx
      generalize hcv : a.eval x = cv at h1
      cases h1 with
      | func _ _ b' _ c' g1 g2 g3 g4 => exact Ok.same R (by simp [execOp, ho, hcv]) (.func _ _ b' _ c' g1 g2 g3 g4)
    · cases e
  case binOp op t x y yt =>
    obtain ⟨u, hu, e⟩ := Option.bind_eq_some_iff.1 e
    obtain ⟨r, hr, e⟩ := Option.bind_eq_some_iff.1 e
    obtain ⟨v1, hv1, e⟩ := Option.map_eq_some_iff.1 e
    cases e
    obtain ⟨h1, h2⟩ := bin_ok (P := P) (w := w) (ev_vr S hu) (ev_vr S hr) hv1 x y
    refine Ok.same R ?_ h2
    simp only [execOp, ho]
    rw [Sem.run_bind, h1]
    rfl
  case unOp op t x =>
    obtain ⟨u, hu, e⟩ := Option.bind_eq_some_iff.1 e
    obtain ⟨v1, hv1, e⟩ := Option.map_eq_some_iff.1 e
    cases e
    obtain ⟨h1, h2⟩ := un_ok (P := P) (w := w) (ev_vr S hu) hv1
    exact Ok.same R (by simp [execOp, ho, h1]) h2
  case makeFunc fn first cap =>
    obtain ⟨l, hl, e⟩ := Option.bind_eq_some_iff.1 e
    obtain ⟨m, hm, e⟩ := Option.map_eq_some_iff.1 e
    cases e
    have h1 := evs_vl S _ l hl
    have h2 := evs_vl S _ m hm
    refine Ok.same R (v' := .func fn (first.map a.eval) (cap.map a.eval)) (by simp [execOp, ho, Instr.makeFunc]) (.func _ _ _ _ _ (by simpa using h1.1) (by simpa using h2.1) (fun i u u' g1 g2 => h1.2 i u u' (by simpa using g1) (by simpa using g2)) (fun i u u' g1 g2 => h2.2 i u u' (by simpa using g1) (by simpa using g2)))
  case makeSlice t l c =>
    obtain ⟨u, hu, e⟩ := Option.bind_eq_some_iff.1 e
    obtain ⟨r, hr, e⟩ := Option.bind_eq_some_iff.1 e
    obtain ⟨r', w', ρ', hrun, hv, R', G⟩ := make_ok R (ev_vr S hu) (ev_vr S hr) e
    exact ⟨r', w', ρ', .inl (by simp [execOp, ho, hrun]), hv, R', G⟩
  case slice t x lo hi mx =>
    cases mx with
    | some _ => cases e
    | none =>
      simp only at e
      obtain ⟨u, hu, e⟩ := Option.bind_eq_some_iff.1 e
      obtain ⟨l, hl, e⟩ := Option.bind_eq_some_iff.1 e
      obtain ⟨hh, hhi, e⟩ := Option.bind_eq_some_iff.1 e
      obtain ⟨r, hr, e⟩ := Option.map_eq_some_iff.1 e
      cases e
      obtain ⟨r', h1, h2⟩ := slice_ok (P := P) (w := w) (ev_vr S hu) (evO_ov S hl) (evO_ov S hhi) hr
      exact Ok.same R (by simp [execOp, ho, h1]) h2
  case fieldAddr t x j =>
    split at e
    · rename_i fs ad hfs hx
      split at e
      · rename_i f hf
        split at e
        · rename_i i hi
          split at e
          · rename_i hs
            cases e
            obtain ⟨r', h1, h2⟩ := fieldAddr_ok (P := P) (w := w) hfs hf hi hs (ev_vr S hx)
            exact Ok.same R (by simp [execOp, ho, h1]) h2
          · cases e
        · cases e
      · cases e
    · cases e
  case field t x j =>
    split at e
    · rename_i fs cs hfs hx
      split at e
      · rename_i f hf
        obtain ⟨r, hr, e⟩ := Option.map_eq_some_iff.1 e
        cases e
        obtain ⟨r', h1, h2⟩ := field_ok (P := P) (w := w) hfs hf (ev_vr S hx) hr
        exact Ok.same R (by simp [execOp, ho, h1]) h2
      · cases e
    · cases e
  case indexAddr t x i =>
    obtain ⟨u, hu, e⟩ := Option.bind_eq_some_iff.1 e
    obtain ⟨y, hy, e⟩ := Option.bind_eq_some_iff.1 e
    obtain ⟨r, hr, e⟩ := Option.map_eq_some_iff.1 e
    cases e
    obtain ⟨r', h1, h2⟩ := indexAddr_ok (P := P) (w := w) (ev_vr S hu) (ev_vr S hy) hr
    exact Ok.same R (by simp [execOp, ho, h1]) h2
  case index t x i =>
    obtain ⟨u, hu, e⟩ := Option.bind_eq_some_iff.1 e
    obtain ⟨y, hy, e⟩ := Option.bind_eq_some_iff.1 e
    obtain ⟨r, hr, e⟩ := Option.map_eq_some_iff.1 e
    cases e
    obtain ⟨r', h1, h2⟩ := index_ok (P := P) (w := w) (ev_vr S hu) (ev_vr S hy) hr
    exact Ok.same R (by simp [execOp, ho, h1]) h2
  case extract x j =>
    split at e
    · rename_i vs hx
      obtain ⟨r, hr, e⟩ := Option.map_eq_some_iff.1 e
      cases e
      obtain ⟨vs', h1, h2⟩ := tuple_list (ev_vr S hx)
      have hlt : j < vs'.size := by
        have g1 := (Array.getElem?_eq_some_iff.1 hr).1
        have g2 := h2.1
        simp at g2
        omega
      refine Ok.same R (v' := vs'[j]) (by simp [execOp, ho, h1, Instr.extract, hlt]) (h2.2 j _ _ (by simpa using hr) (by simp [hlt]))
    · cases e
end Go.Pm
