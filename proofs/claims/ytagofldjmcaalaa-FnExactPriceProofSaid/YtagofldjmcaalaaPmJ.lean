/- What the small machine reckons, the model does: code, calls. -/
import Derived.Test.YtagofldjmcaalaaPmM
set_option linter.unusedVariables false
set_option linter.unusedSimpArgs false
namespace Go.Pm
variable {P : Program} {ρ : Mp} {h : Hp} {w : World}

theorem rounds_mono {c : Code} {Q Q' : Exit → Act → World → Prop} (hq : ∀ e a w, Q e a w → Q' e a w) : ∀ (n : Nat) (a : Act) (w : World), Code.rounds P c Q n a w → Code.rounds P c Q' n a w
  | 0, _, _, h => h
  | n + 1, a, w, h => by
    rw [rounds_succ] at *
    refine wp_mono h fun e a w hh => ?_
    cases e <;> first | exact rounds_mono hq n a w hh | exact hq _ _ _ hh

theorem enter_spec {g : FuncId} {c : Code} {N : Nat} {rs : Array ResultVar} (e : enterP P g = some (c, N, rs)) :
    ∃ fn, P.funcs[g]? = some fn ∧ (fn.name == "runtime.NumGoroutine") = false ∧ fn.body = some c ∧ fn.ntmps = N ∧ fn.results = rs := by
  unfold enterP at e
  split at e
  · rename_i fn hf
    split at e
    · cases e
    · rename_i hn
      split at e
      · rename_i c1 hc
        cases e
        exact ⟨fn, hf, by simpa using hn, hc, rfl, rfl⟩
      · cases e
  · cases e

theorem enterG_spec {gi : GI} {g : FuncId} {c : Code} {N : Nat} {rs : Array ResultVar} (e : enterG P gi g = some (c, N, rs)) : enterP P g = some (c, N, rs) ∧ codeOk gi c = true := by
  unfold enterG at e
  split at e
  · rename_i c' N' rs' h1
    split at e
    · rename_i h2
      cases e
      exact ⟨h1, h2⟩
    · cases e
  · cases e

theorem get_number : ∀ (l : List Value) (i t : Nat) (v : Value), get (number i l) t = some v → i ≤ t ∧ l[t - i]? = some v
  | [], i, t, v, e => by cases e
  | x :: l, i, t, v, e => by
    simp only [number, get] at e
    split at e
    · rename_i ht; subst ht; cases e; simp
    · rename_i ht
      obtain ⟨h1, h2⟩ := get_number l (i + 1) t v e
      refine ⟨by omega, ?_⟩
      rw [show t - i = (t - (i + 1)) + 1 by omega]
      simpa using h2

theorem sr_number {l l' : List Value} (hl : VL ρ h l l') (n : Nat) : SR ρ h (number 0 l) (l'.toArray ++ Array.replicate n undef) := by
  intro t v e
  obtain ⟨_, h1⟩ := get_number l 0 t v e
  simp only [Nat.sub_zero] at h1
  have hlt : t < l'.length := by have := (List.getElem?_eq_some_iff.1 h1).1; have := hl.1; omega
  have := hl.2 t v _ h1 (List.getElem?_eq_getElem hlt)
  rw [Array.getD_eq_getD_getElem?, Array.getElem?_append_left (by simpa using hlt)]
  simpa [hlt] using this

/-! ### results -/
def rf (tm : Array Value) : ResultVar → Sem Value
  | .tmp t => pure (tm.getD t undef)
  | .cell c t => do loadVar t (← asAddr (tm.getD c undef))
theorem results_eq (fn : Func) (tm : Array Value) : results fn tm = (fn.results.mapM (rf tm) >>= fun vs => pure (if h : vs.size = 1 then vs[0] else .tuple vs)) := rfl

theorem res1_ok {st : St} {a : Act} (R : Rel ρ st.h w) (S : SR ρ st.h st.s a.tmps) {x : ResultVar} {v : Value} (e : res1 P st x = some v) :
    ∃ v', (rf a.tmps x).run P w = .ok v' w ∧ VR ρ st.h v v' := by
  cases x with
  | tmp t => exact ⟨_, by simp [rf], S t v e⟩
  | cell c t =>
    simp only [res1] at e
    obtain ⟨u, hu, e⟩ := Option.bind_eq_some_iff.1 e
    have h1 := S c u hu
    obtain ⟨v', h2, h3⟩ := load_ok (P := P) R h1 e
    refine ⟨v', ?_, h3⟩
    cases u <;> simp only [loadP] at e <;> try (cases e; done)
    rename_i ad
    cases ad with
    | none => cases e
    | some ad =>
      obtain ⟨a', ha'⟩ : ∃ a', a.tmps.getD c undef = .pointer (some a') := by
        generalize a.tmps.getD c undef = q at h1
        cases h1 <;> exact ⟨_, rfl⟩
      rw [ha'] at h2
      simp only [rf, ha', asAddr, Sem.run_bind, Sem.run_pure, Result.andThen_ok]
      simpa [Instr.loadAt, Instr.sureAddr] using h2

theorem resL_ok {st : St} {a : Act} (R : Rel ρ st.h w) (S : SR ρ st.h st.s a.tmps) : ∀ (l : List ResultVar) (vs : List Value), resL P st l = some vs →
    ∃ vs', (l.mapM (rf a.tmps)).run P w = .ok vs' w ∧ VL ρ st.h vs vs'
  | [], vs, e => by cases e; exact ⟨[], by simp, VL.nil⟩
  | x :: l, vs, e => by
    simp only [resL] at e
    obtain ⟨v, hv, e⟩ := Option.bind_eq_some_iff.1 e
    obtain ⟨m, hm, rfl⟩ := Option.map_eq_some_iff.1 e
    obtain ⟨v', h1, h2⟩ := res1_ok R S hv
    obtain ⟨m', h3, h4⟩ := resL_ok R S l m hm
    refine ⟨v' :: m', ?_, VL.cons h2 h4⟩
    rw [List.mapM_cons, Sem.run_bind, h1, Result.andThen_ok, Sem.run_bind, h3, Result.andThen_ok, Sem.run_pure]

theorem resP_ok {st : St} {a : Act} (R : Rel ρ st.h w) (S : SR ρ st.h st.s a.tmps) {fn : Func} {v : Value} (e : resP P fn.results st = some v) :
    ∃ v', (results fn a.tmps).run P w = .ok v' w ∧ VR ρ st.h v v' := by
  unfold resP at e
  obtain ⟨vs, hvs, e⟩ := Option.map_eq_some_iff.1 e
  obtain ⟨vs', h1, h2⟩ := resL_ok R S fn.results.toList vs hvs
  have h3 : (fn.results.mapM (rf a.tmps)).run P w = .ok vs'.toArray w := by
    rw [← Array.toArray_toList (xs := fn.results), List.mapM_toArray]
    rw [Sem.run_map, h1]
    rfl
  refine ⟨_, by rw [results_eq, Sem.run_bind, h3, Result.andThen_ok, Sem.run_pure], ?_⟩
  split at e
  · rename_i u
    subst e
    obtain ⟨u', m', rfl, h4, h5⟩ := h2.head
    rw [h5.nil_left]
    simpa using h4
  · rename_i hne
    subst e
    have hlen := h2.1
    rw [dif_neg]
    · exact .tuple _ _ (by simpa using hlen) (fun i u u' g1 g2 => h2.2 i u u' (by simpa using g1) (by simpa using g2))
    · intro hsz
      have : vs.length = 1 := by simpa [hlen] using hsz
      match vs, this with
      | [u], _ => exact hne u rfl

/-! ### what a function leaves -/
theorem plainC_any {ρ ρ2 : Mp} {h h2 : Hp} {v v' : Value} (hp : plainC v = true) (hv : VR ρ h v v') : VR ρ2 h2 v v' := by
  cases hv <;> first | (simp [plainC] at hp; done) | constructor
theorem plain_any {ρ ρ2 : Mp} {h h2 : Hp} {v v' : Value} (hp : plain v = true) (hv : VR ρ h v v') : VR ρ2 h2 v v' := by
  unfold plain at hp
  split at hp
  · rename_i cs
    cases hv with
    | agg _ cs' e h1 => exact .agg _ _ e fun i u u' g1 g2 => plainC_any (List.all_eq_true.1 hp u (by simpa using Array.mem_of_getElem? g1)) (h1 i u u' g1 g2)
  · rename_i cs
    cases hv with
    | tuple _ cs' e h1 => exact .tuple _ _ e fun i u u' g1 g2 => plainC_any (List.all_eq_true.1 hp u (by simpa using Array.mem_of_getElem? g1)) (h1 i u u' g1 g2)
  · exact plainC_any hp hv
theorem gc_ok {ρ ρ' : Mp} {h h' : Hp} {w w' : World} {v v' : Value} (R : Rel ρ h w) (hv : VR ρ' h' v v') (R' : Rel ρ' h' w') (Gx : Go1 ρ h w ρ' h' w') :
    ∃ ρ2, VR ρ2 (gc h h' v) v v' ∧ Rel ρ2 (gc h h' v) w' ∧ Go1 ρ h w ρ2 (gc h h' v) w' := by
  unfold gc
  split
  · rename_i hc
    obtain ⟨hp, hpre⟩ := hc
    have hh : h = h'.take h.length := List.prefix_iff_eq_take.1 hpre
    have old : ∀ r x, r < h.length → h'[r]? = some (some x) → h[r]? = some (some x) := fun r x hr hx => by rw [hh, take_get hr]; exact hx
    refine ⟨Pm.res ρ' h.length, plain_any hp hv, ?_, Gx.os, Gx.tape, Gx.output, Gx.size, Gx.blk, fun r' x' p' g1 g2 g3 => ?_, ⟨fun r x p hx hp => ?_, fun _ h => h⟩, Nat.le_refl _, fun r hr hn => ?_⟩
    · have := R'.res (L := h.length) fun r x p hx hp hr v hv => by
        have hx' := old r x hr hx
        cases hρ : ρ r with
        | none => rw [Gx.keepn r hr hρ] at hp; cases hp
        | some q =>
          obtain ⟨m, hm⟩ := List.getElem?_of_mem hv
          cases hro : x.ro with
          | false => obtain ⟨c, e, _, _, _, g4⟩ := R.own r x q hx' hρ hro
                     obtain ⟨u, _, k2⟩ := g4 m v hm
                     exact k2.cl
          | true => obtain ⟨u, _, k2⟩ := R.ro r x q hx' hρ hro m v hm
                    exact k2.cl
      rwa [← hh] at this
    · obtain ⟨h1, h2⟩ := res_some g2
      exact Gx.orig r' x' p' (by rw [hh, take_get h1] at g1; exact g1) h2 g3
    · have hr := (List.getElem?_eq_some_iff.1 hx).1
      have hx' : h'[r]? = some (some x) := by rw [hh, take_get hr] at hx; exact hx
      rcases Gx.step.live r x p hx hp with ⟨x1, h1, h2, h3, h4, h5⟩ | ⟨_, h5⟩
      · exact .inl ⟨x, hx, rfl, rfl, rfl, by simp [Pm.res, hr, h5]⟩
      · have := h5 x hx'; omega
    · simp [Pm.res, hr, Gx.keepn r hr hn]
  · exact ⟨ρ', hv, R', Gx⟩

/-! ### the whole -/
structure Sound (P : Program) (G : FuncId → GI) (f : Nat) : Prop where
  code : ∀ N K c st ex st', codeOk K c = true → exec P G f N K c st = some (ex, st') → ∀ ρ a w, Rel ρ st.h w → SR ρ st.h st.s a.tmps → a.tmps.size = N → a.defers = [] → c.wp P (Post ρ st.h w N ex st') a w
  loop : ∀ N K b st ex st', codeOk K b = true → exec P G f N K (.loop b) st = some (ex, st') → ∀ ρ a w, Rel ρ st.h w → SR ρ st.h st.s a.tmps → a.tmps.size = N → a.defers = [] → Code.rounds P b (Post ρ st.h w N ex st') f a w
  list : ∀ N ops l st st', execL P G f N ops l st = some st' → ∀ ρ a w, Rel ρ st.h w → SR ρ st.h st.s a.tmps → a.tmps.size = N → a.defers = [] →
    ∀ Q : Exit → Act → World → Prop, (∀ a' w', Beh ρ st.h w N st' a' w' → Q .normal a' w') → wpList P ops Q l a w
  oper : ∀ o st v h', execO P G f o st = some (v, h') → ∀ ρ a w, Rel ρ st.h w → SR ρ st.h st.s a.tmps →
    ∀ (K : Act → World → Prop) (Q : Exit → Act → World → Prop), (∀ v' w' ρ', VR ρ' h' v v' → Rel ρ' h' w' → Go1 ρ st.h w ρ' h' w' → K (a.put o.dst v') w') → o.wp P a w K Q
  call : ∀ g args h v h', callP P G f g args h = some (v, h') → ∀ ρ args' w, Rel ρ h w → VL ρ h args args' →
    Calls P g args'.toArray w fun e w' => ∃ v' ρ', e = .returned v' ∧ VR ρ' h' v v' ∧ Rel ρ' h' w' ∧ Go1 ρ h w ρ' h' w'

theorem sound (P : Program) (G : FuncId → GI) (hm : P.follows .mixedOrders = true) : ∀ f, Sound P G f
  | 0 => ⟨fun _ _ _ _ _ _ _ e => by simp [exec] at e, fun _ _ _ _ _ _ _ e => by simp [exec] at e, fun _ _ _ _ _ e => by simp [execL] at e, fun _ _ _ _ e => by simp [execO] at e, fun _ _ _ _ _ e => by simp [callP] at e⟩
  | f + 1 => by
    have ih := sound P G hm f
    have hloop : ∀ N K b st ex st', codeOk K b = true → exec P G (f + 1) N K (.loop b) st = some (ex, st') → ∀ ρ a w, Rel ρ st.h w → SR ρ st.h st.s a.tmps → a.tmps.size = N → a.defers = [] → Code.rounds P b (Post ρ st.h w N ex st') (f + 1) a w := by
      intro N K b st ex st' ck e ρ a w R S hN hd
      simp only [exec] at e
      rw [rounds_succ]
      split at e
      · rename_i st1 h1
        have h2 := ih.code N K b ⟨keep (keepAt K.keep (firstId b)) st.s, st.h⟩ .normal st1 ck h1 ρ a w R (S.keep (keepAt K.keep (firstId b))) hN hd
        refine wp_mono h2 fun e' a' w' hq => ?_
        obtain ⟨hm, ρ1, R1, S1, G1, hN1, hd1⟩ := hq
        cases e' <;> try (exact hm.elim)
        exact rounds_mono (fun e a w hh => hh.trans G1) _ _ _ (ih.loop N K b st1 ex st' ck e ρ1 a' w' R1 S1 hN1 hd1)
      · rename_i hne
        have h2 := ih.code N K b ⟨keep (keepAt K.keep (firstId b)) st.s, st.h⟩ ex st' ck e ρ a w R (S.keep (keepAt K.keep (firstId b))) hN hd
        refine wp_mono h2 fun e' a' w' hq => ?_
        cases e' with
        | normal =>
          obtain ⟨hm, _⟩ := hq
          cases ex with
          | normal => exact absurd e (hne st')
          | _ => exact hm.elim
        | _ => exact hq
    refine ⟨?_, hloop, ?_, ?_, ?_⟩
    · intro N K c st ex st' ck e ρ a w R S hN hd
      have here : Beh ρ st.h w N st a w := ⟨ρ, R, S, Go1.refl _ _ _, hN, hd⟩
      cases c <;> simp only [exec] at e
      case skip => cases e; exact wp_skip ⟨trivial, here⟩
      case region id ops draw =>
        split at e
        · rename_i hdr
          subst hdr
          split at e
          · rename_i n hn
            split at e
            · rename_i st1 h1
              obtain ⟨st2, h2, e⟩ := Option.map_eq_some_iff.1 e
              cases e
              have hdk : drawOk ops n = true := by simp only [codeOk, hn] at ck; exact ck
              exact draw_ok hm (fun o st v h' ho ρ a w R S K Q hK => ih.oper o st v h' ho ρ a w R S K Q hK) hdk h1 R S hN hd fun a' w' b => by
                obtain ⟨ρ1, R1, S1, G1, hN1, hd1⟩ := b
                exact ih.list N ops _ st1 st' h2 ρ1 a' w' R1 S1 hN1 hd1 _ fun a'' w'' b2 => ⟨trivial, b2.trans G1⟩
            · cases e
          · cases e
        · rename_i hdr
          obtain ⟨st1, h1, e⟩ := Option.map_eq_some_iff.1 e
          cases e
          have hdr' : draw = false := by simpa using hdr
          subst hdr'
          exact wp_region_list (ih.list N ops _ st st' h1 ρ a w R S hN hd _ fun a' w' b => ⟨trivial, b⟩)
      case seq x y =>
        split at e
        · rename_i st1 h1
          refine wp_seq (wp_mono (ih.code N K x st .normal st1 (by simp only [codeOk, Bool.and_eq_true] at ck; exact ck.1) h1 ρ a w R S hN hd) fun e' a' w' hq => ?_)
          obtain ⟨hm, ρ1, R1, S1, G1, hN1, hd1⟩ := hq
          cases e' <;> try (exact hm.elim)
          exact wp_mono (ih.code N K y st1 ex st' (by simp only [codeOk, Bool.and_eq_true] at ck; exact ck.2) e ρ1 a' w' R1 S1 hN1 hd1) fun e a w hh => hh.trans G1
        · rename_i hne
          refine wp_seq (wp_mono (ih.code N K x st ex st' (by simp only [codeOk, Bool.and_eq_true] at ck; exact ck.1) e ρ a w R S hN hd) fun e' a' w' hq => ?_)
          cases e' with
          | normal =>
            obtain ⟨hm, _⟩ := hq
            cases ex with
            | normal => exact absurd e (hne st')
            | _ => exact hm.elim
          | _ => exact hq
      case cond c x y =>
        split at e
        · rename_i t hc
          have h1 := ev_vr S hc
          generalize hcv : a.eval c = cv at h1
          cases h1
          refine wp_cond hcv ?_
          cases t with
          | true => exact ih.code N K x st ex st' (by simp only [codeOk, Bool.and_eq_true] at ck; exact ck.1) (by simpa using e) ρ a w R S hN hd
          | false => exact ih.code N K y st ex st' (by simp only [codeOk, Bool.and_eq_true] at ck; exact ck.2) (by simpa using e) ρ a w R S hN hd
        · cases e
      case block id b =>
        split at e
        · rename_i id' st1 h1
          refine wp_block (wp_mono (ih.code N K b st (.exit id') st1 (by simpa only [codeOk] using ck) h1 ρ a w R S hN hd) fun e' a' w' hq => ?_)
          obtain ⟨hm, hb⟩ := hq
          cases e' <;> try (exact hm.elim)
          rename_i id2
          have hm' : id' = id2 := hm
          subst hm'
          simp only [Exit.inBlock]
          split at e
          · rename_i hid
            cases e
            rw [if_pos hid]
            exact ⟨trivial, hb⟩
          · rename_i hid
            cases e
            rw [if_neg hid]
            exact ⟨rfl, hb⟩
        · rename_i hne
          refine wp_block (wp_mono (ih.code N K b st ex st' (by simpa only [codeOk] using ck) e ρ a w R S hN hd) fun e' a' w' hq => ?_)
          cases e' with
          | exit id2 =>
            obtain ⟨hm, _⟩ := hq
            cases ex with
            | exit i => exact absurd e (hne i st')
            | _ => exact hm.elim
          | _ => exact hq
      case loop b => exact wp_loop_rounds _ (hloop N K b st ex st' (by simpa only [codeOk] using ck) (by simpa only [exec] using e) ρ a w R S hN hd)
      case exit id => cases e; exact wp_exit ⟨rfl, here⟩
      case ret => cases e; exact wp_ret ⟨trivial, here⟩
      all_goals (cases e)
    · intro N ops l st st' e ρ a w R S hN hd Q hQ
      simp only [execL] at e
      cases l with
      | nil => cases e; exact wpList_nil (hQ a w ⟨ρ, R, S, Go1.refl _ _ _, hN, hd⟩)
      | cons o r =>
        simp only at e
        split at e
        · rename_i hdst
          unfold wpList
          split at e
          · rename_i hw
            rw [if_neg (by rw [want_ok S hw]; simp)]
            exact ih.list N ops r ⟨put st.s o.dst undef, st.h⟩ st' e ρ (a.put o.dst undef) w R (S.put (by rw [hN]; exact hdst) undef_vr) (by rw [put_size]; exact hN) (by rw [put_defers]; exact hd) Q hQ
          · rename_i hw
            rw [if_pos (want_ok S hw)]
            split at e
            · rename_i v h1 ho
              refine .inl (ih.oper o st v h1 ho ρ a w R S _ Q fun v' w' ρ' hv R' G' => ?_)
              exact ih.list N ops r ⟨put st.s o.dst v, h1⟩ st' e ρ' (a.put o.dst v') w' R' ((S.step G'.step).put (by rw [hN]; exact hdst) hv) (by rw [put_size]; exact hN) (by rw [put_defers]; exact hd) Q fun a' w'' b => hQ a' w'' (b.trans G')
            · cases e
          · cases e
        · cases e
    · intro o st v h' e ρ a w R S K Q hK
      simp only [execO] at e
      have fin : Ok P ρ st.h w ((execOp a.eval o).run P w) v h' → o.wp P a w K Q := by
        rintro ⟨v', w', ρ', hr, hv, R', G⟩
        unfold Oper.wp
        rcases hr with hr | ⟨hr, rfl⟩
        · rw [hr]; exact hK v' w' ρ' hv R' G
        · rw [hr]; exact hK undef w' ρ' hv R' G
      split at e
      · rename_i c ho
        split at e
        · rename_i x hcal
          split at e
          · rename_i g first cap args hx hargs
            have h1 := ev_vr S hx
            have h2 := evs_vl S _ _ hargs
            generalize hxv : a.eval x = xv at h1
            cases h1 with
            | func _ _ first' _ cap' e1 e2 e3 e4 =>
              have hl : VL ρ st.h (first.toList ++ args ++ cap.toList) (first'.toList ++ c.args.toList.map a.eval ++ cap'.toList) :=
                VL.append (VL.append ⟨by simpa using e1, fun i u u' g1 g2 => e3 i u u' (by simpa using g1) (by simpa using g2)⟩ h2) ⟨by simpa using e2, fun i u u' g1 g2 => e4 i u u' (by simpa using g1) (by simpa using g2)⟩
              have hcalls := ih.call g _ st.h v h' e ρ _ w R hl
              have hent : ∃ c1 N1 r1, enterP P g = some (c1, N1, r1) := by
                cases f with
                | zero => simp [callP] at e
                | succ f =>
                  simp only [callP] at e
                  split at e
                  · rename_i c1 N1 r1 hh; exact ⟨c1, N1, r1, (enterG_spec hh).1⟩
                  · cases e
              obtain ⟨c1, N1, r1, hent⟩ := hent
              obtain ⟨fn, hf, hname, hbody, _, _⟩ := enter_spec hent
              have hrun : (execOp a.eval o).run P w = .ok (.enter g (first'.toList ++ c.args.toList.map a.eval ++ cap'.toList).toArray) w := by
                have harr : first' ++ c.args.map a.eval ++ cap' = (first'.toList ++ c.args.toList.map a.eval ++ cap'.toList).toArray := by apply Array.ext'; simp
                rw [← harr]
                have hname' : ¬ fn.name = "runtime.NumGoroutine" := by simpa using hname
                simp [execOp, ho, resolve, hcal, hxv, Deferred.ofValue, invoke, callFunc, hf, hname', hbody]
              unfold Oper.wp
              rw [hrun, Oper.upon_enter]
              refine hcalls.mono fun e' w' hh => ?_
              obtain ⟨v', ρ', rfl, hv, R', G⟩ := hh
              exact hK v' w' ρ' hv R' G
          · cases e
        · rename_i b hcal
          obtain ⟨args, hargs, e⟩ := Option.bind_eq_some_iff.1 e
          have h2 := evs_vl S _ _ hargs
          refine fin ?_
          obtain ⟨v', w', ρ', hr, hv, R', G⟩ := builtin_ok (P := P) R h2 e o.type (c.args.map fun | .const _ => true | _ => false)
          refine ⟨v', w', ρ', ?_, hv, R', G⟩
          have harr : c.args.map a.eval = (c.args.toList.map a.eval).toArray := by apply Array.ext'; simp
          have : (execOp a.eval o).run P w = (Go.builtin b c.argTypes.toList.toArray o.type (c.args.map fun | .const _ => true | _ => false) (c.args.toList.map a.eval).toArray).run P w := by
            simp only [execOp, ho, resolve, hcal, Sem.run_bind, Sem.run_pure, Result.andThen_ok, invoke, harr, Array.toArray_toList]
            rfl
          rw [this]
          exact hr
        · cases e
      · rename_i hnc
        exact fin (op1_ok R S e)
    · intro g args h v h' e ρ args' w R hl
      simp only [callP] at e
      split at e
      · rename_i c N rs hentG
        obtain ⟨hent, hck⟩ := enterG_spec hentG
        obtain ⟨fn, hf, hname, hbody, rfl, rfl⟩ := enter_spec hent
        split at e
        · rename_i hle
          have hsz : args'.toArray.size = args.length := by simpa using hl.1.symm
          have body : ∀ ex st1, exec P G f fn.ntmps (G g) c ⟨number 0 args, h⟩ = some (ex, st1) → (∀ i, ex ≠ .exit i) → (resP P fn.results st1).map (fun v => (v, gc h st1.h v)) = some (v, h') →
              Calls P g args'.toArray w fun e w' => ∃ v' ρ', e = .returned v' ∧ VR ρ' h' v v' ∧ Rel ρ' h' w' ∧ Go1 ρ h w ρ' h' w' := by
            intro ex st1 hex hne hres
            refine calls_of_wp hf hbody (wp_mono (ih.code fn.ntmps (G g) c ⟨number 0 args, h⟩ ex st1 hck hex ρ _ w R (sr_number hl _) (by have := hl.1; simp; omega) rfl) fun e' a' w' hq => ?_)
            obtain ⟨hm, ρ1, R1, S1, G1, hN1, hd1⟩ := hq
            obtain ⟨u, hu, hres⟩ := Option.map_eq_some_iff.1 hres
            cases hres
            obtain ⟨v', hr, hv⟩ := resP_ok R1 S1 hu
            obtain ⟨ρ2, hv2, R2, G2⟩ := gc_ok R hv R1 G1
            cases ex with
            | normal => cases e' <;> first | exact hm.elim | exact ⟨hd1, v', hr, v', ρ2, rfl, hv2, R2, G2⟩
            | ret => cases e' <;> first | exact hm.elim | exact ⟨hd1, v', hr, v', ρ2, rfl, hv2, R2, G2⟩
            | exit i => exact absurd rfl (hne i)
          split at e
          · cases e
          · rename_i ex st1 hne hex
            refine body ex st1 hex (fun i hi => ?_) e
            subst hi
            exact hne i rfl
          · cases e
        · cases e
      · cases e
end Go.Pm
