/- The texts PmJ, PmN, PmO, PmQ, PmR, PmV of this work: What the small machine reckons, the model does: code, calls. -/
import Derived.Test.YtcmbjbddjlamaaaM2
/- What the small machine reckons, the model does: code, calls. -/
set_option linter.unusedVariables false
set_option linter.unusedSimpArgs false
namespace Go.Pm
variable {P : Program} {ρ : Mp} {h : Hp} {w : World}

theorem rounds_mono {c : Code} {Q Q' : Exit → Act → World → Prop} (hq : ∀ e a w, Q e a w → Q' e a w) : ∀ (n : Nat) (a : Act) (w : World), Code.rounds P c Q n a w → Code.rounds P c Q' n a w
  | 0, _, _, h => h
  | n + 1, a, w, h => by
    rw [rounds_succ] at *
    refine wp_mono h fun e a w hh => ?_
    cases e <;> first | exact rounds_mono hq n a w hh | exact hq _ _ _ hh

theorem enter_spec {g : FuncId} {c : Code} {N : Nat} {rs : Array ResultVar} (e : enterP P g = some (c, N, rs)) :
    ∃ fn, P.funcs[g]? = some fn ∧ (fn.name == "runtime.NumGoroutine") = false ∧ fn.body = some c ∧ fn.ntmps = N ∧ fn.results = rs := by
  unfold enterP at e
  split at e
  · rename_i fn hf
    split at e
    · cases e
    · rename_i hn
      split at e
      · rename_i c1 hc
        cases e
        exact ⟨fn, hf, by simpa using hn, hc, rfl, rfl⟩
      · cases e
  · cases e

theorem enterG_spec {gi : GI} {g : FuncId} {c : Code} {N : Nat} {rs : Array ResultVar} (e : enterG P gi g = some (c, N, rs)) : enterP P g = some (c, N, rs) ∧ codeOk gi c = true := by
  unfold enterG at e
  split at e
  · rename_i c' N' rs' h1
    split at e
    · rename_i h2
      cases e
      exact ⟨h1, h2⟩
    · cases e
  · cases e

theorem get_number : ∀ (l : List Value) (i t : Nat) (v : Value), get (number i l) t = some v → i ≤ t ∧ l[t - i]? = some v
  | [], i, t, v, e => by cases e
  | x :: l, i, t, v, e => by
    simp only [number, get] at e
    split at e
    · rename_i ht; subst ht; cases e; simp
    · rename_i ht
      obtain ⟨h1, h2⟩ := get_number l (i + 1) t v e
      refine ⟨by omega, ?_⟩
      rw [show t - i = (t - (i + 1)) + 1 by omega]
      simpa using h2

theorem sr_number {l l' : List Value} (hl : VL ρ h l l') (n : Nat) : SR ρ h (number 0 l) (l'.toArray ++ Array.replicate n undef) := by
  intro t v e
  obtain ⟨_, h1⟩ := get_number l 0 t v e
  simp only [Nat.sub_zero] at h1
  have hlt : t < l'.length := by have := (List.getElem?_eq_some_iff.1 h1).1; have := hl.1; omega
  have := hl.2 t v _ h1 (List.getElem?_eq_getElem hlt)
  rw [Array.getD_eq_getD_getElem?, Array.getElem?_append_left (by simpa using hlt)]
  simpa [hlt] using this

/-! ### results -/
def rf (tm : Array Value) : ResultVar → Sem Value
  | .tmp t => pure (tm.getD t undef)
  | .cell c t => do loadVar t (← asAddr (tm.getD c undef))
theorem results_eq (fn : Func) (tm : Array Value) : results fn tm = (fn.results.mapM (rf tm) >>= fun vs => pure (if h : vs.size = 1 then vs[0] else .tuple vs)) := rfl

theorem res1_ok {st : St} {a : Act} (R : Rel ρ st.h w) (S : SR ρ st.h st.s a.tmps) {x : ResultVar} {v : Value} (e : res1 P st x = some v) :
    ∃ v', (rf a.tmps x).run P w = .ok v' w ∧ VR ρ st.h v v' := by
  cases x with
  | tmp t => exact ⟨_, by simp [rf], S t v e⟩
  | cell c t =>
    simp only [res1] at e
    obtain ⟨u, hu, e⟩ := Option.bind_eq_some_iff.1 e
    have h1 := S c u hu
    obtain ⟨v', h2, h3⟩ := load_ok (P := P) R h1 e
    refine ⟨v', ?_, h3⟩
    cases u <;> simp only [loadP] at e <;> try (cases e; done)
    rename_i ad
    cases ad with
    | none => cases e
    | some ad =>
      obtain ⟨a', ha'⟩ : ∃ a', a.tmps.getD c undef = .pointer (some a') := by
        generalize a.tmps.getD c undef = q at h1
        cases h1 <;> exact ⟨_, rfl⟩
      rw [ha'] at h2
      simp only [rf, ha', asAddr, Sem.run_bind, Sem.run_pure, Result.andThen_ok]
      simpa [Instr.loadAt, Instr.sureAddr] using h2

theorem resL_ok {st : St} {a : Act} (R : Rel ρ st.h w) (S : SR ρ st.h st.s a.tmps) : ∀ (l : List ResultVar) (vs : List Value), resL P st l = some vs →
    ∃ vs', (l.mapM (rf a.tmps)).run P w = .ok vs' w ∧ VL ρ st.h vs vs'
  | [], vs, e => by cases e; exact ⟨[], by simp, VL.nil⟩
  | x :: l, vs, e => by
    simp only [resL] at e
    obtain ⟨v, hv, e⟩ := Option.bind_eq_some_iff.1 e
    obtain ⟨m, hm, rfl⟩ := Option.map_eq_some_iff.1 e
    obtain ⟨v', h1, h2⟩ := res1_ok R S hv
    obtain ⟨m', h3, h4⟩ := resL_ok R S l m hm
    refine ⟨v' :: m', ?_, VL.cons h2 h4⟩
    rw [List.mapM_cons, Sem.run_bind, h1, Result.andThen_ok, Sem.run_bind, h3, Result.andThen_ok, Sem.run_pure]

theorem resP_ok {st : St} {a : Act} (R : Rel ρ st.h w) (S : SR ρ st.h st.s a.tmps) {fn : Func} {v : Value} (e : resP P fn.results st = some v) :
    ∃ v', (results fn a.tmps).run P w = .ok v' w ∧ VR ρ st.h v v' := by
  unfold resP at e
  obtain ⟨vs, hvs, e⟩ := Option.map_eq_some_iff.1 e
  obtain ⟨vs', h1, h2⟩ := resL_ok R S fn.results.toList vs hvs
  have h3 : (fn.results.mapM (rf a.tmps)).run P w = .ok vs'.toArray w := by
    rw [← Array.toArray_toList (xs := fn.results), List.mapM_toArray]
    rw [Sem.run_map, h1]
    rfl
  refine ⟨_, by rw [results_eq, Sem.run_bind, h3, Result.andThen_ok, Sem.run_pure], ?_⟩
  split at e
  · rename_i u
    subst e
    obtain ⟨u', m', rfl, h4, h5⟩ := h2.head
    rw [h5.nil_left]
    simpa using h4
  · rename_i hne
    subst e
    have hlen := h2.1
    rw [dif_neg]
    · exact .tuple _ _ (by simpa using hlen) (fun i u u' g1 g2 => h2.2 i u u' (by simpa using g1) (by simpa using g2))
    · intro hsz
      have : vs.length = 1 := by simpa [hlen] using hsz
      match vs, this with
      | [u], _ => exact hne u rfl

/-! ### what a function leaves -/
theorem plainC_any {ρ ρ2 : Mp} {h h2 : Hp} {v v' : Value} (hp : plainC v = true) (hv : VR ρ h v v') : VR ρ2 h2 v v' := by
  cases hv <;> first | (simp [plainC] at hp; done) | constructor
theorem plain_any {ρ ρ2 : Mp} {h h2 : Hp} {v v' : Value} (hp : plain v = true) (hv : VR ρ h v v') : VR ρ2 h2 v v' := by
  unfold plain at hp
  split at hp
  · rename_i cs
    cases hv with
    | agg _ cs' e h1 => exact .agg _ _ e fun i u u' g1 g2 => plainC_any (List.all_eq_true.1 hp u (by simpa using Array.mem_of_getElem? g1)) (h1 i u u' g1 g2)
  · rename_i cs
    cases hv with
    | tuple _ cs' e h1 => exact .tuple _ _ e fun i u u' g1 g2 => plainC_any (List.all_eq_true.1 hp u (by simpa using Array.mem_of_getElem? g1)) (h1 i u u' g1 g2)
  · exact plainC_any hp hv
theorem gc_ok {ρ ρ' : Mp} {h h' : Hp} {w w' : World} {v v' : Value} (R : Rel ρ h w) (hv : VR ρ' h' v v') (R' : Rel ρ' h' w') (Gx : Go1 ρ h w ρ' h' w') :
    ∃ ρ2, VR ρ2 (gc h h' v) v v' ∧ Rel ρ2 (gc h h' v) w' ∧ Go1 ρ h w ρ2 (gc h h' v) w' := by
  unfold gc
  split
  · rename_i hc
    obtain ⟨hp, hpre⟩ := hc
    have hh : h = h'.take h.length := List.prefix_iff_eq_take.1 hpre
    have old : ∀ r x, r < h.length → h'[r]? = some (some x) → h[r]? = some (some x) := fun r x hr hx => by rw [hh, take_get hr]; exact hx
    refine ⟨Pm.res ρ' h.length, plain_any hp hv, ?_, Gx.os, Gx.tape, Gx.output, Gx.size, Gx.blk, fun r' x' p' g1 g2 g3 => ?_, ⟨fun r x p hx hp => ?_, fun _ h => h⟩, Nat.le_refl _, fun r hr hn => ?_⟩
    · have := R'.res (L := h.length) fun r x p hx hp hr v hv => by
        have hx' := old r x hr hx
        cases hρ : ρ r with
        | none => rw [Gx.keepn r hr hρ] at hp; cases hp
        | some q =>
          obtain ⟨m, hm⟩ := List.getElem?_of_mem hv
          cases hro : x.ro with
          | false => obtain ⟨c, e, _, _, _, g4⟩ := R.own r x q hx' hρ hro
                     obtain ⟨u, _, k2⟩ := g4 m v hm
                     exact k2.cl
          | true => obtain ⟨u, _, k2⟩ := R.ro r x q hx' hρ hro m v hm
                    exact k2.cl
      rwa [← hh] at this
    · obtain ⟨h1, h2⟩ := res_some g2
      exact Gx.orig r' x' p' (by rw [hh, take_get h1] at g1; exact g1) h2 g3
    · have hr := (List.getElem?_eq_some_iff.1 hx).1
      have hx' : h'[r]? = some (some x) := by rw [hh, take_get hr] at hx; exact hx
      rcases Gx.step.live r x p hx hp with ⟨x1, h1, h2, h3, h4, h5⟩ | ⟨_, h5⟩
      · exact .inl ⟨x, hx, rfl, rfl, rfl, by simp [Pm.res, hr, h5]⟩
      · have := h5 x hx'; omega
    · simp [Pm.res, hr, Gx.keepn r hr hn]
  · exact ⟨ρ', hv, R', Gx⟩

/-! ### the whole -/
structure Sound (P : Program) (G : FuncId → GI) (f : Nat) : Prop where
  code : ∀ N K c st ex st', codeOk K c = true → exec P G f N K c st = some (ex, st') → ∀ ρ a w, Rel ρ st.h w → SR ρ st.h st.s a.tmps → a.tmps.size = N → a.defers = [] → c.wp P (Post ρ st.h w N ex st') a w
  loop : ∀ N K b st ex st', codeOk K b = true → exec P G f N K (.loop b) st = some (ex, st') → ∀ ρ a w, Rel ρ st.h w → SR ρ st.h st.s a.tmps → a.tmps.size = N → a.defers = [] → Code.rounds P b (Post ρ st.h w N ex st') f a w
  list : ∀ N ops l st st', execL P G f N ops l st = some st' → ∀ ρ a w, Rel ρ st.h w → SR ρ st.h st.s a.tmps → a.tmps.size = N → a.defers = [] →
    ∀ Q : Exit → Act → World → Prop, (∀ a' w', Beh ρ st.h w N st' a' w' → Q .normal a' w') → wpList P ops Q l a w
  oper : ∀ o st v h', execO P G f o st = some (v, h') → ∀ ρ a w, Rel ρ st.h w → SR ρ st.h st.s a.tmps →
    ∀ (K : Act → World → Prop) (Q : Exit → Act → World → Prop), (∀ v' w' ρ', VR ρ' h' v v' → Rel ρ' h' w' → Go1 ρ st.h w ρ' h' w' → K (a.put o.dst v') w') → o.wp P a w K Q
  call : ∀ g args h v h', callP P G f g args h = some (v, h') → ∀ ρ args' w, Rel ρ h w → VL ρ h args args' →
    Calls P g args'.toArray w fun e w' => ∃ v' ρ', e = .returned v' ∧ VR ρ' h' v v' ∧ Rel ρ' h' w' ∧ Go1 ρ h w ρ' h' w'

theorem sound (P : Program) (G : FuncId → GI) (hm : P.follows .mixedOrders = true) : ∀ f, Sound P G f
  | 0 => ⟨fun _ _ _ _ _ _ _ e => by simp [exec] at e, fun _ _ _ _ _ _ _ e => by simp [exec] at e, fun _ _ _ _ _ e => by simp [execL] at e, fun _ _ _ _ e => by simp [execO] at e, fun _ _ _ _ _ e => by simp [callP] at e⟩
  | f + 1 => by
    have ih := sound P G hm f
    have hloop : ∀ N K b st ex st', codeOk K b = true → exec P G (f + 1) N K (.loop b) st = some (ex, st') → ∀ ρ a w, Rel ρ st.h w → SR ρ st.h st.s a.tmps → a.tmps.size = N → a.defers = [] → Code.rounds P b (Post ρ st.h w N ex st') (f + 1) a w := by
      intro N K b st ex st' ck e ρ a w R S hN hd
      simp only [exec] at e
      rw [rounds_succ]
      split at e
      · rename_i st1 h1
        have h2 := ih.code N K b ⟨keep (keepAt K.keep (firstId b)) st.s, st.h⟩ .normal st1 ck h1 ρ a w R (S.keep (keepAt K.keep (firstId b))) hN hd
        refine wp_mono h2 fun e' a' w' hq => ?_
        obtain ⟨hm, ρ1, R1, S1, G1, hN1, hd1⟩ := hq
        cases e' <;> try (exact hm.elim)
        exact rounds_mono (fun e a w hh => hh.trans G1) _ _ _ (ih.loop N K b st1 ex st' ck e ρ1 a' w' R1 S1 hN1 hd1)
      · rename_i hne
        have h2 := ih.code N K b ⟨keep (keepAt K.keep (firstId b)) st.s, st.h⟩ ex st' ck e ρ a w R (S.keep (keepAt K.keep (firstId b))) hN hd
        refine wp_mono h2 fun e' a' w' hq => ?_
        cases e' with
        | normal =>
          obtain ⟨hm, _⟩ := hq
          cases ex with
          | normal => exact absurd e (hne st')
          | _ => exact hm.elim
        | _ => exact hq
    refine ⟨?_, hloop, ?_, ?_, ?_⟩
    · intro N K c st ex st' ck e ρ a w R S hN hd
      have here : Beh ρ st.h w N st a w := ⟨ρ, R, S, Go1.refl _ _ _, hN, hd⟩
      cases c <;> simp only [exec] at e
      case skip => cases e; exact wp_skip ⟨trivial, here⟩
      case region id ops draw =>
        split at e
        · rename_i hdr
          subst hdr
          split at e
          · rename_i n hn
            split at e
            · rename_i st1 h1
              obtain ⟨st2, h2, e⟩ := Option.map_eq_some_iff.1 e
              cases e
              simp only [codeOk, hn, Bool.or_eq_true, Bool.and_eq_true] at ck
              rcases ck with hdk | ⟨hdk, hek | hek⟩
              rotate_left
              rotate_left
              · exact draw_ok3 hm (fun o st v h' ho ρ a w R S K Q hK => ih.oper o st v h' ho ρ a w R S K Q hK) hdk hek h1 h2 R S hN hd fun st3 a' w' e3 b => by
                  obtain ⟨ρ1, R1, S1, G1, hN1, hd1⟩ := b
                  exact ih.list N ops _ st3 st' e3 ρ1 a' w' R1 S1 hN1 hd1 _ fun a'' w'' b2 => ⟨trivial, b2.trans G1⟩
              rotate_left
              · exact draw_ok2 hm (fun o st v h' ho ρ a w R S K Q hK => ih.oper o st v h' ho ρ a w R S K Q hK) hdk hek h1 h2 R S hN hd fun st3 a' w' e3 b => by
                  obtain ⟨ρ1, R1, S1, G1, hN1, hd1⟩ := b
                  exact ih.list N ops _ st3 st' e3 ρ1 a' w' R1 S1 hN1 hd1 _ fun a'' w'' b2 => ⟨trivial, b2.trans G1⟩
              exact draw_ok hm (fun o st v h' ho ρ a w R S K Q hK => ih.oper o st v h' ho ρ a w R S K Q hK) hdk h1 R S hN hd fun a' w' b => by
                obtain ⟨ρ1, R1, S1, G1, hN1, hd1⟩ := b
                exact ih.list N ops _ st1 st' h2 ρ1 a' w' R1 S1 hN1 hd1 _ fun a'' w'' b2 => ⟨trivial, b2.trans G1⟩
            · cases e
          · rename_i hnone
            split at e
            · rename_i n q hn
              split at e
              · rename_i st1 h1
                obtain ⟨st2, h2, e⟩ := Option.map_eq_some_iff.1 e
                cases e
                simp only [codeOk, hnone, hn] at ck
                exact draw_okG hm (fun o st v h' ho ρ a w R S K Q hK => ih.oper o st v h' ho ρ a w R S K Q hK) ck h1 R S hN hd fun a' w' b => by
                  obtain ⟨ρ1, R1, S1, G1, hN1, hd1⟩ := b
                  exact ih.list N ops _ st1 st' h2 ρ1 a' w' R1 S1 hN1 hd1 _ fun a'' w'' b2 => ⟨trivial, b2.trans G1⟩
              · cases e
            · cases e
        · rename_i hdr
          obtain ⟨st1, h1, e⟩ := Option.map_eq_some_iff.1 e
          cases e
          have hdr' : draw = false := by simpa using hdr
          subst hdr'
          exact wp_region_list (ih.list N ops _ st st' h1 ρ a w R S hN hd _ fun a' w' b => ⟨trivial, b⟩)
      case seq x y =>
        split at e
        · rename_i st1 h1
          refine wp_seq (wp_mono (ih.code N K x st .normal st1 (by simp only [codeOk, Bool.and_eq_true] at ck; exact ck.1) h1 ρ a w R S hN hd) fun e' a' w' hq => ?_)
          obtain ⟨hm, ρ1, R1, S1, G1, hN1, hd1⟩ := hq
          cases e' <;> try (exact hm.elim)
          exact wp_mono (ih.code N K y st1 ex st' (by simp only [codeOk, Bool.and_eq_true] at ck; exact ck.2) e ρ1 a' w' R1 S1 hN1 hd1) fun e a w hh => hh.trans G1
        · rename_i hne
          refine wp_seq (wp_mono (ih.code N K x st ex st' (by simp only [codeOk, Bool.and_eq_true] at ck; exact ck.1) e ρ a w R S hN hd) fun e' a' w' hq => ?_)
          cases e' with
          | normal =>
            obtain ⟨hm, _⟩ := hq
            cases ex with
            | normal => exact absurd e (hne st')
            | _ => exact hm.elim
          | _ => exact hq
      case cond c x y =>
        split at e
        · rename_i t hc
          have h1 := ev_vr S hc
          generalize hcv : a.eval c = cv at h1
          cases h1
          refine wp_cond hcv ?_
          cases t with
          | true => exact ih.code N K x st ex st' (by simp only [codeOk, Bool.and_eq_true] at ck; exact ck.1) (by simpa using e) ρ a w R S hN hd
          | false => exact ih.code N K y st ex st' (by simp only [codeOk, Bool.and_eq_true] at ck; exact ck.2) (by simpa using e) ρ a w R S hN hd
        · cases e
      case block id b =>
        split at e
        · rename_i id' st1 h1
          refine wp_block (wp_mono (ih.code N K b st (.exit id') st1 (by simpa only [codeOk] using ck) h1 ρ a w R S hN hd) fun e' a' w' hq => ?_)
          obtain ⟨hm, hb⟩ := hq
          cases e' <;> try (exact hm.elim)
          rename_i id2
          have hm' : id' = id2 := hm
          subst hm'
          simp only [Exit.inBlock]
          split at e
          · rename_i hid
            cases e
            rw [if_pos hid]
            exact ⟨trivial, hb⟩
          · rename_i hid
            cases e
            rw [if_neg hid]
            exact ⟨rfl, hb⟩
        · rename_i hne
          refine wp_block (wp_mono (ih.code N K b st ex st' (by simpa only [codeOk] using ck) e ρ a w R S hN hd) fun e' a' w' hq => ?_)
          cases e' with
          | exit id2 =>
            obtain ⟨hm, _⟩ := hq
            cases ex with
            | exit i => exact absurd e (hne i st')
            | _ => exact hm.elim
          | _ => exact hq
      case loop b => exact wp_loop_rounds _ (hloop N K b st ex st' (by simpa only [codeOk] using ck) (by simpa only [exec] using e) ρ a w R S hN hd)
      case exit id => cases e; exact wp_exit ⟨rfl, here⟩
      case ret => cases e; exact wp_ret ⟨trivial, here⟩
      all_goals (cases e)
    · intro N ops l st st' e ρ a w R S hN hd Q hQ
      simp only [execL] at e
      cases l with
      | nil => cases e; exact wpList_nil (hQ a w ⟨ρ, R, S, Go1.refl _ _ _, hN, hd⟩)
      | cons o r =>
        simp only at e
        split at e
        · rename_i hdst
          unfold wpList
          split at e
          · rename_i hw
            rw [if_neg (by rw [want_ok S hw]; simp)]
            exact ih.list N ops r ⟨put st.s o.dst undef, st.h⟩ st' e ρ (a.put o.dst undef) w R (S.put (by rw [hN]; exact hdst) undef_vr) (by rw [put_size]; exact hN) (by rw [put_defers]; exact hd) Q hQ
          · rename_i hw
            rw [if_pos (want_ok S hw)]
            split at e
            · rename_i v h1 ho
              refine .inl (ih.oper o st v h1 ho ρ a w R S _ Q fun v' w' ρ' hv R' G' => ?_)
              exact ih.list N ops r ⟨put st.s o.dst v, h1⟩ st' e ρ' (a.put o.dst v') w' R' ((S.step G'.step).put (by rw [hN]; exact hdst) hv) (by rw [put_size]; exact hN) (by rw [put_defers]; exact hd) Q fun a' w'' b => hQ a' w'' (b.trans G')
            · cases e
          · cases e
        · cases e
    · intro o st v h' e ρ a w R S K Q hK
      simp only [execO] at e
      have fin : Ok P ρ st.h w ((execOp a.eval o).run P w) v h' → o.wp P a w K Q := by
        rintro ⟨v', w', ρ', hr, hv, R', G⟩
        unfold Oper.wp
        rcases hr with hr | ⟨hr, rfl⟩
        · rw [hr]; exact hK v' w' ρ' hv R' G
        · rw [hr]; exact hK undef w' ρ' hv R' G
      split at e
      · rename_i c ho
        split at e
        · rename_i x hcal
          split at e
          · rename_i g first cap args hx hargs
            have h1 := ev_vr S hx
            have h2 := evs_vl S _ _ hargs
            generalize hxv : a.eval x = xv at h1
            cases h1 with
            | func _ _ first' _ cap' e1 e2 e3 e4 =>
              have hl : VL ρ st.h (first.toList ++ args ++ cap.toList) (first'.toList ++ c.args.toList.map a.eval ++ cap'.toList) :=
                VL.append (VL.append ⟨by simpa using e1, fun i u u' g1 g2 => e3 i u u' (by simpa using g1) (by simpa using g2)⟩ h2) ⟨by simpa using e2, fun i u u' g1 g2 => e4 i u u' (by simpa using g1) (by simpa using g2)⟩
              have hcalls := ih.call g _ st.h v h' e ρ _ w R hl
              have hent : ∃ c1 N1 r1, enterP P g = some (c1, N1, r1) := by
                cases f with
                | zero => simp [callP] at e
                | succ f =>
                  simp only [callP] at e
                  split at e
                  · rename_i c1 N1 r1 hh; exact ⟨c1, N1, r1, (enterG_spec hh).1⟩
                  · cases e
              obtain ⟨c1, N1, r1, hent⟩ := hent
              obtain ⟨fn, hf, hname, hbody, _, _⟩ := enter_spec hent
              have hrun : (execOp a.eval o).run P w = .ok (.enter g (first'.toList ++ c.args.toList.map a.eval ++ cap'.toList).toArray) w := by
                have harr : first' ++ c.args.map a.eval ++ cap' = (first'.toList ++ c.args.toList.map a.eval ++ cap'.toList).toArray := by apply Array.ext'; simp
                rw [← harr]
                have hname' : ¬ fn.name = "runtime.NumGoroutine" := by simpa using hname
                simp [execOp, ho, resolve, hcal, hxv, Deferred.ofValue, invoke, callFunc, hf, hname', hbody]
              unfold Oper.wp
              rw [hrun, Oper.upon_enter]
              refine hcalls.mono fun e' w' hh => ?_
              obtain ⟨v', ρ', rfl, hv, R', G⟩ := hh
              exact hK v' w' ρ' hv R' G
          · cases e
        · rename_i b hcal
          obtain ⟨args, hargs, e⟩ := Option.bind_eq_some_iff.1 e
          have h2 := evs_vl S _ _ hargs
          refine fin ?_
          obtain ⟨v', w', ρ', hr, hv, R', G⟩ := builtin_ok (P := P) R h2 e o.type (c.args.map fun | .const _ => true | _ => false)
          refine ⟨v', w', ρ', ?_, hv, R', G⟩
          have harr : c.args.map a.eval = (c.args.toList.map a.eval).toArray := by apply Array.ext'; simp
          have : (execOp a.eval o).run P w = (Go.builtin b c.argTypes.toList.toArray o.type (c.args.map fun | .const _ => true | _ => false) (c.args.toList.map a.eval).toArray).run P w := by
            simp only [execOp, ho, resolve, hcal, Sem.run_bind, Sem.run_pure, Result.andThen_ok, invoke, harr, Array.toArray_toList]
            rfl
          rw [this]
          exact hr
        · cases e
      · rename_i hnc
        exact fin (op1_ok R S e)
    · intro g args h v h' e ρ args' w R hl
      simp only [callP] at e
      split at e
      · rename_i c N rs hentG
        obtain ⟨hent, hck⟩ := enterG_spec hentG
        obtain ⟨fn, hf, hname, hbody, rfl, rfl⟩ := enter_spec hent
        split at e
        · rename_i hle
          have hsz : args'.toArray.size = args.length := by simpa using hl.1.symm
          have body : ∀ ex st1, exec P G f fn.ntmps (G g) c ⟨number 0 args, h⟩ = some (ex, st1) → (∀ i, ex ≠ .exit i) → (resP P fn.results st1).map (fun v => (v, gc h st1.h v)) = some (v, h') →
              Calls P g args'.toArray w fun e w' => ∃ v' ρ', e = .returned v' ∧ VR ρ' h' v v' ∧ Rel ρ' h' w' ∧ Go1 ρ h w ρ' h' w' := by
            intro ex st1 hex hne hres
            refine calls_of_wp hf hbody (wp_mono (ih.code fn.ntmps (G g) c ⟨number 0 args, h⟩ ex st1 hck hex ρ _ w R (sr_number hl _) (by have := hl.1; simp; omega) rfl) fun e' a' w' hq => ?_)
            obtain ⟨hm, ρ1, R1, S1, G1, hN1, hd1⟩ := hq
            obtain ⟨u, hu, hres⟩ := Option.map_eq_some_iff.1 hres
            cases hres
            obtain ⟨v', hr, hv⟩ := resP_ok R1 S1 hu
            obtain ⟨ρ2, hv2, R2, G2⟩ := gc_ok R hv R1 G1
            cases ex with
            | normal => cases e' <;> first | exact hm.elim | exact ⟨hd1, v', hr, v', ρ2, rfl, hv2, R2, G2⟩
            | ret => cases e' <;> first | exact hm.elim | exact ⟨hd1, v', hr, v', ρ2, rfl, hv2, R2, G2⟩
            | exit i => exact absurd rfl (hne i)
          split at e
          · cases e
          · rename_i ex st1 hne hex
            refine body ex st1 hex (fun i hi => ?_) e
            subst hi
            exact hne i rfl
          · cases e
        · cases e
      · cases e
end Go.Pm

/- Runs of the small machine without a count of steps: rules for proofs. -/
set_option linter.unusedVariables false
set_option linter.unusedSimpArgs false
namespace Go.Pm
variable {P : Program} {G : FuncId → GI}

/-! ### runs -/
def RunsC (P : Program) (G : FuncId → GI) (g : FuncId) (args : List Value) (h : Hp) (K : Value → Hp → Prop) : Prop :=
  ∃ f v h', callP P G f g args h = some (v, h') ∧ K v h'

def onR : Option (Value × Hp) → (Value → Hp → Prop) → Prop
  | some x, K => K x.1 x.2
  | none, _ => False
theorem onR.mono {x : Option (Value × Hp)} {K K' : Value → Hp → Prop} (r : onR x K) (hk : ∀ v h', K v h' → K' v h') : onR x K' := by
  cases x with
  | none => exact r.elim
  | some y => exact hk _ _ r
theorem onR.some {x : Option (Value × Hp)} {K : Value → Hp → Prop} (r : onR x K) : ∃ v h', x = some (v, h') ∧ K v h' := by
  cases x with
  | none => exact r.elim
  | some y => exact ⟨y.1, y.2, rfl, r⟩
def onW : Option Bool → (Unit → Prop) → (Unit → Prop) → Prop
  | some true, a, _ => a ()
  | some false, _, b => b ()
  | none, _, _ => False
theorem onW.cases {x : Option Bool} {a b : Unit → Prop} (r : onW x a b) : (x = some true ∧ a ()) ∨ (x = some false ∧ b ()) := by
  cases x with
  | none => exact r.elim
  | some t => cases t with
    | true => exact .inl ⟨rfl, r⟩
    | false => exact .inr ⟨rfl, r⟩
def onB : Option Value → (Unit → Prop) → (Unit → Prop) → Prop
  | some (.bool true), a, _ => a ()
  | some (.bool false), _, b => b ()
  | _, _, _ => False
theorem onB.cases {x : Option Value} {a b : Unit → Prop} (r : onB x a b) : (x = some (.bool true) ∧ a ()) ∨ (x = some (.bool false) ∧ b ()) := by
  unfold onB at r
  split at r
  · exact .inl ⟨rfl, r⟩
  · exact .inr ⟨rfl, r⟩
  · exact r.elim
def onF : Option Value → Option (List Value) → (FuncId → List Value → Prop) → Prop
  | some (.func (.func g) first cap), some args, K => K g (first.toList ++ args ++ cap.toList)
  | _, _, _ => False
theorem onF.some {x : Option Value} {y : Option (List Value)} {K : FuncId → List Value → Prop} (r : onF x y K) : ∃ g first cap args, x = some (.func (.func g) first cap) ∧ y = some args ∧ K g (first.toList ++ args ++ cap.toList) := by
  unfold onF at r
  split at r
  · exact ⟨_, _, _, _, rfl, rfl, r⟩
  · exact r.elim
def onN : Ex → (Unit → Prop) → (Unit → Prop) → Prop
  | .normal, a, _ => a ()
  | .exit _, _, b => b ()
  | .ret, _, b => b ()
def onV : Option Value → (Value → Prop) → Prop
  | some v, K => K v
  | none, _ => False
def onX : Ex → (Unit → Prop) → Prop
  | .exit _, _ => False
  | .normal, a => a ()
  | .ret, a => a ()
def onH : Option Nat → (Nat → Prop) → Prop
  | some n, K => K n
  | none, _ => False
theorem onH.some {x : Option Nat} {K : Nat → Prop} (r : onH x K) : ∃ n, x = some n ∧ K n := by
  cases x with
  | none => exact r.elim
  | some n => exact ⟨n, rfl, r⟩

def RunsO (P : Program) (G : FuncId → GI) (op : Op) (s : Slots) (h : Hp) (K : Value → Hp → Prop) : Prop :=
  match op with
  | .call c => match c.callee with
    | .value x => onF (ev s x) (evs s c.args.toList) fun g args => RunsC P G g args h K
    | .builtin b => onR ((evs s c.args.toList).bind fun args => builtinP P h b c.argTypes.toList args) K
    | .invoke _ _ => False
  | op => onR (op1 P s h op) K

def RunsL (P : Program) (G : FuncId → GI) (N : Nat) (ops : Array Oper) : List Oper → St → (St → Prop) → Prop
  | [], st, Q => Q st
  | o :: r, st, Q => dstOk N o.dst = true ∧ onW (wantP ops st.s o)
    (fun _ => RunsO P G o.op st.s st.h fun v h' => RunsL P G N ops r ⟨put st.s o.dst v, h'⟩ Q)
    (fun _ => RunsL P G N ops r ⟨put st.s o.dst undef, st.h⟩ Q)

def RunsH (P : Program) (G : FuncId → GI) (N : Nat) (ops : Array Oper) : List Oper → St → (St → Prop) → Prop
  | [], st, Q => Q st
  | o :: r, st, Q => dstOk N o.dst = true ∧ onW (wantP ops (keep (o.looksAt ops) st.s) o)
    (fun _ => RunsO P G o.op (keep (o.looksAt ops) st.s) st.h fun v h' => newOk st.h h' ∧ RunsH P G N ops r ⟨put st.s o.dst v, h'⟩ Q)
    (fun _ => RunsH P G N ops r ⟨put st.s o.dst undef, st.h⟩ Q)

def RunsG (P : Program) (G : FuncId → GI) (N : Nat) (ops : Array Oper) (q : List (Nat × Nat)) : List Nat → List Oper → St → (St → Prop) → Prop
  | Ls, [], st, Q => Q st
  | Ls, o :: r, st, Q => dstOk N o.dst = true ∧ onW (wantP ops (keep (o.looksAt ops) st.s) o)
    (fun _ => RunsO P G o.op (keep (o.looksAt ops) st.s) st.h fun v h' => okAt q Ls st.h h' ∧ RunsG P G N ops q (Ls ++ [st.h.length]) r ⟨put st.s o.dst v, h'⟩ Q)
    (fun _ => RunsG P G N ops q (Ls ++ [st.h.length]) r ⟨put st.s o.dst undef, st.h⟩ Q)
def onD : Option Nat → Option (Nat × List (Nat × Nat)) → (Nat → Prop) → (Nat → List (Nat × Nat) → Prop) → Prop
  | some n, _, K, _ => K n
  | none, some (n, q), _, K => K n q
  | none, none, _, _ => False
theorem onD.cases {x : Option Nat} {y : Option (Nat × List (Nat × Nat))} {K : Nat → Prop} {K' : Nat → List (Nat × Nat) → Prop} (r : onD x y K K') : (∃ n, x = some n ∧ K n) ∨ (x = none ∧ ∃ n q, y = some (n, q) ∧ K' n q) := by
  cases x with
  | some n => exact .inl ⟨n, rfl, r⟩
  | none => cases y with
    | none => exact r.elim
    | some z => exact .inr ⟨rfl, z.1, z.2, rfl, r⟩

def unblock (id : Nat) : Ex → Ex
  | .exit i => if i = id then .normal else .exit i
  | .normal => .normal
  | .ret => .ret

/-- The least that a loop's body closes. -/
def LoopR (keepK : List Nat) (B : St → (Ex → St → Prop) → Prop) (Q : Ex → St → Prop) (st : St) : Prop :=
  ∀ X : St → Prop, (∀ st, B ⟨keep keepK st.s, st.h⟩ (fun ex st' => onN ex (fun _ => X st') (fun _ => Q ex st')) → X st) → X st

def Runs (P : Program) (G : FuncId → GI) (N : Nat) (K : GI) : Code → St → (Ex → St → Prop) → Prop
  | .skip, st, Q => Q .normal st
  | .region id ops false, st, Q => RunsL P G N ops ops.toList st fun st' => Q .normal st'
  | .region id ops true, st, Q => onD (headOf K.heads id) (headQ K.qs id) (fun n => RunsH P G N ops (ops.toList.take n) st fun st1 => RunsL P G N ops (ops.toList.drop n) st1 fun st' => Q .normal st') fun n q => RunsG P G N ops q [] (ops.toList.take n) st fun st1 => RunsL P G N ops (ops.toList.drop n) st1 fun st' => Q .normal st'
  | .seq a b, st, Q => Runs P G N K a st fun ex st' => onN ex (fun _ => Runs P G N K b st' Q) (fun _ => Q ex st')
  | .cond c a b, st, Q => onB (ev st.s c) (fun _ => Runs P G N K a st Q) (fun _ => Runs P G N K b st Q)
  | .block id b, st, Q => Runs P G N K b st fun ex st' => Q (unblock id ex) st'
  | .loop b, st, Q => LoopR (keepAt K.keep (firstId b)) (fun st Q => Runs P G N K b st Q) Q st
  | .exit id, st, Q => Q (.exit id) st
  | .ret, st, Q => Q .ret st
  | _, _, _ => False

theorem RunsC.mono {g : FuncId} {args : List Value} {h : Hp} {K K' : Value → Hp → Prop} (r : RunsC P G g args h K) (hk : ∀ v h', K v h' → K' v h') : RunsC P G g args h K' := by
  obtain ⟨f, v, h', e, k⟩ := r
  exact ⟨f, v, h', e, hk _ _ k⟩
theorem RunsO.mono {op : Op} {s : Slots} {h : Hp} {K K' : Value → Hp → Prop} (r : RunsO P G op s h K) (hk : ∀ v h', K v h' → K' v h') : RunsO P G op s h K' := by
  cases op with
  | call c =>
    simp only [RunsO] at r ⊢
    split at r
    · obtain ⟨g, first, cap, args, h1, h2, r⟩ := r.some
      rw [h1, h2]
      exact RunsC.mono r hk
    · exact r.mono hk
    · exact r.elim
  | _ => simp only [RunsO] at r ⊢; exact r.mono hk
theorem RunsL.mono {N : Nat} {ops : Array Oper} : ∀ {l : List Oper} {st : St} {Q Q' : St → Prop}, RunsL P G N ops l st Q → (∀ st', Q st' → Q' st') → RunsL P G N ops l st Q'
  | [], st, Q, Q', r, hq => hq _ r
  | o :: l, st, Q, Q', r, hq => by
    simp only [RunsL] at r ⊢
    refine ⟨r.1, ?_⟩
    rcases r.2.cases with ⟨h1, r2⟩ | ⟨h1, r2⟩
    · rw [h1]; exact RunsO.mono r2 fun v h' h => RunsL.mono h hq
    · rw [h1]; exact RunsL.mono r2 hq
theorem RunsH.mono {N : Nat} {ops : Array Oper} : ∀ {l : List Oper} {st : St} {Q Q' : St → Prop}, RunsH P G N ops l st Q → (∀ st', Q st' → Q' st') → RunsH P G N ops l st Q'
  | [], st, Q, Q', r, hq => hq _ r
  | o :: l, st, Q, Q', r, hq => by
    simp only [RunsH] at r ⊢
    refine ⟨r.1, ?_⟩
    rcases r.2.cases with ⟨h1, r2⟩ | ⟨h1, r2⟩
    · rw [h1]; exact RunsO.mono r2 fun v h' h => ⟨h.1, RunsH.mono h.2 hq⟩
    · rw [h1]; exact RunsH.mono r2 hq
theorem RunsG.mono {N : Nat} {ops : Array Oper} {q : List (Nat × Nat)} : ∀ {l : List Oper} {Ls : List Nat} {st : St} {Q Q' : St → Prop}, RunsG P G N ops q Ls l st Q → (∀ st', Q st' → Q' st') → RunsG P G N ops q Ls l st Q'
  | [], Ls, st, Q, Q', r, hq => hq _ r
  | o :: l, Ls, st, Q, Q', r, hq => by
    simp only [RunsG] at r ⊢
    refine ⟨r.1, ?_⟩
    rcases r.2.cases with ⟨h1, r2⟩ | ⟨h1, r2⟩
    · rw [h1]; exact RunsO.mono r2 fun v h' h => ⟨h.1, RunsG.mono h.2 hq⟩
    · rw [h1]; exact RunsG.mono r2 hq
theorem onN.mono {ex : Ex} {a b a' b' : Unit → Prop} (r : onN ex a b) (ha : a () → a' ()) (hb : b () → b' ()) : onN ex a' b' := by
  cases ex <;> first | exact ha r | exact hb r
theorem Runs.mono {N : Nat} {K : GI} : ∀ {c : Code} {st : St} {Q Q' : Ex → St → Prop}, Runs P G N K c st Q → (∀ ex st', Q ex st' → Q' ex st') → Runs P G N K c st Q'
  | .skip, _, _, _, r, hq => hq _ _ r
  | .region id ops false, st, Q, Q', r, hq => by
    simp only [Runs] at r ⊢
    exact r.mono fun st' h => hq _ _ h
  | .region id ops true, st, Q, Q', r, hq => by
    simp only [Runs] at r ⊢
    rcases onD.cases r with ⟨n, hn, r⟩ | ⟨h0, n, q, hn, r⟩
    · rw [hn]
      exact RunsH.mono r fun st1 h => h.mono fun st' h => hq _ _ h
    · rw [h0, hn]
      exact RunsG.mono r fun st1 h => h.mono fun st' h => hq _ _ h
  | .seq a b, st, Q, Q', r, hq => by
    simp only [Runs] at r ⊢
    exact Runs.mono r fun ex st' h => h.mono (fun h => Runs.mono h hq) (hq _ _)
  | .cond c a b, st, Q, Q', r, hq => by
    simp only [Runs] at r ⊢
    rcases r.cases with ⟨h1, r⟩ | ⟨h1, r⟩
    · rw [h1]; exact Runs.mono r hq
    · rw [h1]; exact Runs.mono r hq
  | .block id b, st, Q, Q', r, hq => by
    simp only [Runs] at r ⊢
    exact Runs.mono r fun ex st' h => hq _ _ h
  | .loop b, st, Q, Q', r, hq => by
    simp only [Runs] at r ⊢
    intro X hX
    exact r X fun st hB => hX st (Runs.mono hB fun ex st' h => h.mono id (hq _ _))
  | .exit id, _, _, _, r, hq => hq _ _ r
  | .ret, _, _, _, r, hq => hq _ _ r
  | .rangeFunc .., _, _, _, r, _ => r.elim
  | .scope .., _, _, _, r, _ => r.elim
  | .label .., _, _, _, r, _ => r.elim
  | .goto .., _, _, _, r, _ => r.elim
  | .refuse .., _, _, _, r, _ => r.elim

theorem RunsO.sound {o : Oper} {st : St} {K : Value → Hp → Prop} (r : RunsO P G o.op st.s st.h K) : ∃ f v h', execO P G f o st = some (v, h') ∧ K v h' := by
  cases ho : o.op with
  | call c =>
    rw [ho] at r
    simp only [RunsO] at r
    split at r
    · rename_i x hx
      obtain ⟨g, first, cap, args, h1, h2, r⟩ := r.some
      obtain ⟨f, v, h', e, k⟩ := r
      exact ⟨f + 1, v, h', by simp only [execO, ho, hx, h1, h2]; exact e, k⟩
    · rename_i b hb
      obtain ⟨v, h', e, k⟩ := r.some
      exact ⟨1, v, h', by simp only [execO, ho, hb]; exact e, k⟩
    · exact r.elim
  | _ =>
    rw [ho] at r
    simp only [RunsO] at r
    obtain ⟨v, h', e, k⟩ := r.some
    exact ⟨1, v, h', by simp only [execO, ho]; exact e, k⟩

theorem RunsL.sound {N : Nat} {ops : Array Oper} : ∀ {l : List Oper} {st : St} {Q : St → Prop}, RunsL P G N ops l st Q → ∃ f st', execL P G f N ops l st = some st' ∧ Q st'
  | [], st, Q, r => ⟨1, st, by simp only [execL], r⟩
  | o :: l, st, Q, r => by
    simp only [RunsL] at r
    obtain ⟨hd, r⟩ := r
    rcases r.cases with ⟨hw, r⟩ | ⟨hw, r⟩
    · obtain ⟨f1, v, h', e1, r⟩ := RunsO.sound (o := o) r
      obtain ⟨f2, st', e2, q⟩ := RunsL.sound r
      exact ⟨max f1 f2 + 1, st', by simp only [execL, if_pos hd, hw, oper_le (Nat.le_max_left f1 f2) e1]; exact list_le (Nat.le_max_right f1 f2) e2, q⟩
    · obtain ⟨f, st', e, q⟩ := RunsL.sound r
      exact ⟨f + 1, st', by simp only [execL, if_pos hd, hw]; exact e, q⟩

theorem RunsH.sound {N : Nat} {ops : Array Oper} : ∀ {l : List Oper} {st : St} {Q : St → Prop}, RunsH P G N ops l st Q → ∃ f st', runH (fun o st => execO P G f o st) N ops l st = some st' ∧ Q st'
  | [], st, Q, r => ⟨1, st, by simp only [runH], r⟩
  | o :: l, st, Q, r => by
    simp only [RunsH] at r
    obtain ⟨hd, r⟩ := r
    rcases r.cases with ⟨hw, r⟩ | ⟨hw, r⟩
    · obtain ⟨f1, v, h', e1, hn, r⟩ := RunsO.sound (o := o) (st := ⟨keep (o.looksAt ops) st.s, st.h⟩) r
      obtain ⟨f2, st', e2, q⟩ := RunsH.sound r
      exact ⟨max f1 f2, st', by
        simp only [runH, if_pos hd, hw, oper_le (Nat.le_max_left f1 f2) e1, if_pos hn]
        exact runH_mono (fun o st r h => oper_le (Nat.le_max_right f1 f2) h) _ _ _ _ _ e2, q⟩
    · obtain ⟨f, st', e, q⟩ := RunsH.sound r
      exact ⟨f, st', by simp only [runH, if_pos hd, hw]; exact e, q⟩

theorem RunsG.sound {N : Nat} {ops : Array Oper} {q : List (Nat × Nat)} : ∀ {l : List Oper} {Ls : List Nat} {st : St} {Q : St → Prop}, RunsG P G N ops q Ls l st Q → ∃ f st', runG (fun o st => execO P G f o st) N ops q Ls l st = some st' ∧ Q st'
  | [], Ls, st, Q, r => ⟨1, st, by simp only [runG], r⟩
  | o :: l, Ls, st, Q, r => by
    simp only [RunsG] at r
    obtain ⟨hd, r⟩ := r
    rcases r.cases with ⟨hw, r⟩ | ⟨hw, r⟩
    · obtain ⟨f1, v, h', e1, hn, r⟩ := RunsO.sound (o := o) (st := ⟨keep (o.looksAt ops) st.s, st.h⟩) r
      obtain ⟨f2, st', e2, q⟩ := RunsG.sound r
      exact ⟨max f1 f2, st', by
        simp only [runG, if_pos hd, hw, oper_le (Nat.le_max_left f1 f2) e1, if_pos hn]
        exact runG_mono (fun o st r h => oper_le (Nat.le_max_right f1 f2) h) _ _ _ _ _ _ _ e2, q⟩
    · obtain ⟨f, st', e, q⟩ := RunsG.sound r
      exact ⟨f, st', by simp only [runG, if_pos hd, hw]; exact e, q⟩

theorem Runs.sound {N : Nat} {K : GI} : ∀ {c : Code} {st : St} {Q : Ex → St → Prop}, Runs P G N K c st Q → ∃ f ex st', exec P G f N K c st = some (ex, st') ∧ Q ex st'
  | .skip, st, Q, r => ⟨1, .normal, st, by simp only [exec], r⟩
  | .region id ops true, st, Q, r => by
    simp only [Runs] at r
    rcases onD.cases r with ⟨n, hn, r⟩ | ⟨h0, n, q, hn, r⟩
    · obtain ⟨f1, st1, e1, r⟩ := RunsH.sound r
      obtain ⟨f2, st', e2, q⟩ := RunsL.sound r
      exact ⟨max f1 f2 + 1, .normal, st', by
        simp only [exec, if_true, hn, runH_mono (fun o st r h => oper_le (Nat.le_max_left f1 f2) h) _ _ _ _ _ e1, list_le (Nat.le_max_right f1 f2) e2, Option.map_some], q⟩
    · obtain ⟨f1, st1, e1, r⟩ := RunsG.sound r
      obtain ⟨f2, st', e2, q⟩ := RunsL.sound r
      exact ⟨max f1 f2 + 1, .normal, st', by
        simp only [exec, if_true, h0, hn, runG_mono (fun o st r h => oper_le (Nat.le_max_left f1 f2) h) _ _ _ _ _ _ _ e1, list_le (Nat.le_max_right f1 f2) e2, Option.map_some], q⟩
  | .region id ops false, st, Q, r => by
    simp only [Runs] at r
    obtain ⟨f, st', e, q⟩ := RunsL.sound r
    exact ⟨f + 1, .normal, st', by simp only [exec, Bool.false_eq_true, if_false, e, Option.map_some], q⟩
  | .seq a b, st, Q, r => by
    simp only [Runs] at r
    obtain ⟨f1, ex, st1, e1, r⟩ := Runs.sound r
    cases ex with
    | normal =>
      obtain ⟨f2, ex, st', e2, q⟩ := Runs.sound (show Runs P G N K b st1 Q from r)
      exact ⟨max f1 f2 + 1, ex, st', by simp only [exec, code_le (Nat.le_max_left f1 f2) e1]; exact code_le (Nat.le_max_right f1 f2) e2, q⟩
    | exit i => exact ⟨f1 + 1, _, _, by simp only [exec, e1], r⟩
    | ret => exact ⟨f1 + 1, _, _, by simp only [exec, e1], r⟩
  | .cond c a b, st, Q, r => by
    simp only [Runs] at r
    rcases r.cases with ⟨hc, r⟩ | ⟨hc, r⟩
    · obtain ⟨f, ex, st', e, q⟩ := Runs.sound r
      exact ⟨f + 1, ex, st', by simp only [exec, hc, if_true]; exact e, q⟩
    · obtain ⟨f, ex, st', e, q⟩ := Runs.sound r
      exact ⟨f + 1, ex, st', by simp only [exec, hc, Bool.false_eq_true, if_false]; exact e, q⟩
  | .block id b, st, Q, r => by
    simp only [Runs] at r
    obtain ⟨f, ex, st', e, q⟩ := Runs.sound r
    cases ex with
    | normal => exact ⟨f + 1, _, _, by simp only [exec, e]; rfl, q⟩
    | exit i =>
      by_cases hi : i = id
      · subst hi
        exact ⟨f + 1, .normal, st', by simp only [exec, e, if_pos], by simpa [unblock] using q⟩
      · exact ⟨f + 1, .exit i, st', by simp only [exec, e, if_neg hi], by simpa [unblock, hi] using q⟩
    | ret => exact ⟨f + 1, _, _, by simp only [exec, e]; rfl, q⟩
  | .loop b, st, Q, r => by
    simp only [Runs] at r
    refine r (fun st => ∃ f ex st', exec P G f N K (.loop b) st = some (ex, st') ∧ Q ex st') fun st r => ?_
    obtain ⟨f1, ex, st1, e1, r⟩ := Runs.sound r
    cases ex with
    | normal =>
      obtain ⟨f2, ex, st', e2, q⟩ := r
      exact ⟨max f1 f2 + 1, ex, st', by simp only [exec, code_le (Nat.le_max_left f1 f2) e1]; exact code_le (Nat.le_max_right f1 f2) e2, q⟩
    | exit i => exact ⟨f1 + 1, _, _, by simp only [exec, e1], r⟩
    | ret => exact ⟨f1 + 1, _, _, by simp only [exec, e1], r⟩
  | .exit id, st, Q, r => ⟨1, _, _, by simp only [exec], r⟩
  | .ret, st, Q, r => ⟨1, _, _, by simp only [exec], r⟩
  | .rangeFunc .., _, _, r => r.elim
  | .scope .., _, _, r => r.elim
  | .label .., _, _, r => r.elim
  | .goto .., _, _, r => r.elim
  | .refuse .., _, _, r => r.elim

/-- A function's run. -/
theorem RunsC.enter {g : FuncId} {args : List Value} {h : Hp} {K : Value → Hp → Prop} {c : Code} {N : Nat} {rs : Array ResultVar} (he : enterG P (G g) g = some (c, N, rs)) (hl : args.length ≤ N)
    (r : Runs P G N (G g) c ⟨number 0 args, h⟩ fun ex st => onX ex fun _ => onV (resP P rs st) fun v => K v (gc h st.h v)) : RunsC P G g args h K := by
  obtain ⟨f, ex, st, e, r⟩ := Runs.sound r
  have key : onV (resP P rs st) (fun v => K v (gc h st.h v)) → (∀ i, ex ≠ .exit i) → RunsC P G g args h K := by
    intro r hne
    cases hv : resP P rs st with
    | none => rw [hv] at r; exact r.elim
    | some v =>
      rw [hv] at r
      refine ⟨f + 1, v, _, ?_, r⟩
      simp only [callP, he, if_pos hl, e]
      cases ex with
      | exit i => exact absurd rfl (hne i)
      | _ => simp only [hv, Option.map_some]
  cases ex with
  | exit i => exact r.elim
  | normal => exact key r (by simp)
  | ret => exact key r (by simp)

theorem RunsC.iff {g : FuncId} {args : List Value} {h : Hp} {v : Value} {h1 : Hp} (r : RunsC P G g args h fun v' h' => v' = v ∧ h' = h1) (K : Value → Hp → Prop) : RunsC P G g args h K ↔ K v h1 := by
  obtain ⟨f, v', h', e, rfl, rfl⟩ := r
  constructor
  · rintro ⟨f2, v2, h2, e2, k⟩
    have a1 := call_le (Nat.le_max_left f f2) e
    have a2 := call_le (Nat.le_max_right f f2) e2
    rw [a1] at a2
    cases a2
    exact k
  · intro k; exact ⟨f, _, _, e, k⟩

/-- A loop, one round. -/
theorem Runs.loop1 {N : Nat} {K : GI} {b : Code} {Q : Ex → St → Prop} {st : St} (hb : Runs P G N K b ⟨keep (keepAt K.keep (firstId b)) st.s, st.h⟩ fun ex st' => onN ex (fun _ => Runs P G N K (.loop b) st' Q) (fun _ => Q ex st')) : Runs P G N K (.loop b) st Q := by
  intro X hX
  exact hX st (Runs.mono hb fun ex st' h => h.mono (fun h => h X hX) id)

/-- A loop with what holds at its head and a measure. -/
theorem Runs.loopK {N : Nat} {K : GI} {b : Code} {Q : Ex → St → Prop} (I : Nat → Slots → Hp → Prop) (hb : ∀ n s h, I n s h → Runs P G N K b ⟨s, h⟩ fun ex st' => onN ex (fun _ => ∃ m, m < n ∧ I m (keep (keepAt K.keep (firstId b)) st'.s) st'.h) (fun _ => Q ex st'))
    {n : Nat} {st : St} (hi : I n (keep (keepAt K.keep (firstId b)) st.s) st.h) : Runs P G N K (.loop b) st Q := by
  induction n using Nat.strongRecOn generalizing st with
  | _ n ih =>
    refine Runs.loop1 ((hb n _ _ hi).mono fun ex st' h => h.mono (fun h => ?_) id)
    obtain ⟨m, hm, hi⟩ := h
    exact ih m hm hi

/-! ### rules for simp: what stands behind is not looked into -/
@[congr] theorem onR_congr {x y : Option (Value × Hp)} {K : Value → Hp → Prop} (h : x = y) : onR x K = onR y K := by rw [h]
@[congr] theorem onW_congr {x y : Option Bool} {a b : Unit → Prop} (h : x = y) : onW x a b = onW y a b := by rw [h]
@[congr] theorem onB_congr {x y : Option Value} {a b : Unit → Prop} (h : x = y) : onB x a b = onB y a b := by rw [h]
@[congr] theorem onF_congr {x x' : Option Value} {y y' : Option (List Value)} {K : FuncId → List Value → Prop} (h : x = x') (h' : y = y') : onF x y K = onF x' y' K := by rw [h, h']
@[congr] theorem onN_congr {x y : Ex} {a b : Unit → Prop} (h : x = y) : onN x a b = onN y a b := by rw [h]
@[congr] theorem onX_congr {x y : Ex} {a : Unit → Prop} (h : x = y) : onX x a = onX y a := by rw [h]
@[congr] theorem onV_congr {x y : Option Value} {K : Value → Prop} (h : x = y) : onV x K = onV y K := by rw [h]
@[congr] theorem onH_congr {x y : Option Nat} {K : Nat → Prop} (h : x = y) : onH x K = onH y K := by rw [h]
@[congr] theorem RunsC_congr {g : FuncId} {args args' : List Value} {h h' : Hp} {K : Value → Hp → Prop} (e : args = args') (e' : h = h') : RunsC P G g args h K = RunsC P G g args' h' K := by rw [e, e']
@[congr] theorem RunsO_congr {op : Op} {s s' : Slots} {h h' : Hp} {K : Value → Hp → Prop} (e : s = s') (e' : h = h') : RunsO P G op s h K = RunsO P G op s' h' K := by rw [e, e']
@[congr] theorem RunsL_congr {N : Nat} {ops : Array Oper} {l l' : List Oper} {st st' : St} {Q : St → Prop} (e : l = l') (e' : st = st') : RunsL P G N ops l st Q = RunsL P G N ops l' st' Q := by rw [e, e']
@[congr] theorem RunsH_congr {N : Nat} {ops : Array Oper} {l l' : List Oper} {st st' : St} {Q : St → Prop} (e : l = l') (e' : st = st') : RunsH P G N ops l st Q = RunsH P G N ops l' st' Q := by rw [e, e']
@[congr] theorem Runs_congr {N : Nat} {K : GI} {c : Code} {st st' : St} {Q : Ex → St → Prop} (e : st = st') : Runs P G N K c st Q = Runs P G N K c st' Q := by rw [e]

section
variable {N : Nat} {K : GI} {st : St} {Q : Ex → St → Prop}
@[simp ↓] theorem onR_some {x : Value × Hp} {K : Value → Hp → Prop} : onR (some x) K = K x.1 x.2 := rfl
@[simp ↓] theorem onR_map {α : Type} {x : α} {f : α → Value × Hp} {K : Value → Hp → Prop} : onR (Option.map f (some x)) K = K (f x).1 (f x).2 := rfl
@[simp ↓] theorem onW_true {a b : Unit → Prop} : onW (some true) a b = a () := rfl
@[simp ↓] theorem onW_false {a b : Unit → Prop} : onW (some false) a b = b () := rfl
@[simp ↓] theorem onB_true {a b : Unit → Prop} : onB (some (.bool true)) a b = a () := rfl
@[simp ↓] theorem onB_false {a b : Unit → Prop} : onB (some (.bool false)) a b = b () := rfl
@[simp ↓] theorem onF_some {g : FuncId} {f c : Array Value} {args : List Value} {K : FuncId → List Value → Prop} : onF (some (.func (.func g) f c)) (some args) K = K g (f.toList ++ args ++ c.toList) := rfl
@[simp ↓] theorem onN_normal {a b : Unit → Prop} : onN .normal a b = a () := rfl
@[simp ↓] theorem onN_exit {i : Nat} {a b : Unit → Prop} : onN (.exit i) a b = b () := rfl
@[simp ↓] theorem onN_ret {a b : Unit → Prop} : onN .ret a b = b () := rfl
@[simp ↓] theorem onX_normal {a : Unit → Prop} : onX .normal a = a () := rfl
@[simp ↓] theorem onX_ret {a : Unit → Prop} : onX .ret a = a () := rfl
@[simp ↓] theorem onV_some {v : Value} {K : Value → Prop} : onV (some v) K = K v := rfl
@[simp ↓] theorem onH_some {n : Nat} {K : Nat → Prop} : onH (some n) K = K n := rfl
@[simp ↓] theorem Runs_skip : Runs P G N K .skip st Q = Q .normal st := rfl
@[simp ↓] theorem Runs_region {id : Nat} {ops : Array Oper} : Runs P G N K (.region id ops false) st Q = RunsL P G N ops ops.toList st fun st' => Q .normal st' := rfl
@[simp ↓] theorem Runs_draw {id : Nat} {ops : Array Oper} : Runs P G N K (.region id ops true) st Q = onD (headOf K.heads id) (headQ K.qs id) (fun n => RunsH P G N ops (ops.toList.take n) st fun st1 => RunsL P G N ops (ops.toList.drop n) st1 fun st' => Q .normal st') fun n q => RunsG P G N ops q [] (ops.toList.take n) st fun st1 => RunsL P G N ops (ops.toList.drop n) st1 fun st' => Q .normal st' := rfl
@[simp ↓] theorem Runs_seq {a b : Code} : Runs P G N K (.seq a b) st Q = Runs P G N K a st fun ex st' => onN ex (fun _ => Runs P G N K b st' Q) (fun _ => Q ex st') := rfl
@[simp ↓] theorem Runs_cond {c : Operand} {a b : Code} : Runs P G N K (.cond c a b) st Q = onB (ev st.s c) (fun _ => Runs P G N K a st Q) (fun _ => Runs P G N K b st Q) := rfl
@[simp ↓] theorem Runs_block {id : Nat} {b : Code} : Runs P G N K (.block id b) st Q = Runs P G N K b st fun ex st' => Q (unblock id ex) st' := rfl
@[simp ↓] theorem Runs_exit {id : Nat} : Runs P G N K (.exit id) st Q = Q (.exit id) st := rfl
@[simp ↓] theorem Runs_ret : Runs P G N K .ret st Q = Q .ret st := rfl
@[simp ↓] theorem RunsL_nil {ops : Array Oper} {Q : St → Prop} : RunsL P G N ops [] st Q = Q st := rfl
@[simp ↓] theorem RunsL_cons {ops : Array Oper} {o : Oper} {r : List Oper} {Q : St → Prop} : RunsL P G N ops (o :: r) st Q = (dstOk N o.dst = true ∧ onW (wantP ops st.s o)
    (fun _ => RunsO P G o.op st.s st.h fun v h' => RunsL P G N ops r ⟨put st.s o.dst v, h'⟩ Q)
    (fun _ => RunsL P G N ops r ⟨put st.s o.dst undef, st.h⟩ Q)) := rfl
@[simp ↓] theorem RunsH_nil {ops : Array Oper} {Q : St → Prop} : RunsH P G N ops [] st Q = Q st := rfl
@[simp ↓] theorem RunsH_cons {ops : Array Oper} {o : Oper} {r : List Oper} {Q : St → Prop} : RunsH P G N ops (o :: r) st Q = (dstOk N o.dst = true ∧ onW (wantP ops (keep (o.looksAt ops) st.s) o)
    (fun _ => RunsO P G o.op (keep (o.looksAt ops) st.s) st.h fun v h' => newOk st.h h' ∧ RunsH P G N ops r ⟨put st.s o.dst v, h'⟩ Q)
    (fun _ => RunsH P G N ops r ⟨put st.s o.dst undef, st.h⟩ Q)) := rfl
@[simp] theorem unblock_normal {id : Nat} : unblock id .normal = .normal := rfl
@[simp] theorem unblock_ret {id : Nat} : unblock id .ret = .ret := rfl
@[simp] theorem unblock_exit {id i : Nat} : unblock id (.exit i) = if i = id then .normal else .exit i := rfl
end
end Go.Pm

/- Slices that are seen: rules for proofs about functions. -/
set_option linter.unusedVariables false
set_option linter.unusedSimpArgs false
namespace Go.Pm
variable {P : Program} {G : FuncId → GI}

theorem gc_self (h : Hp) (v : Value) : gc h h v = h := by unfold gc; split <;> rfl
theorem gc_app (h t : Hp) (v : Value) (hp : plain v = true) : gc h (h ++ t) v = h := by unfold gc; rw [if_pos ⟨hp, List.prefix_append ..⟩]

theorem wrap_ok {n : Int} (h1 : -9223372036854775808 ≤ n) (h2 : n ≤ 9223372036854775807) : IntKind.i64.wrap n = n := by
  unfold IntKind.wrap
  simp [IntKind.signed, IntKind.bits]
  omega

/-- Element i of a list, or something. -/
def base : Value → Addr
  | .slice (some a) _ _ => a
  | _ => ⟨0, 0, none⟩

/-- A slice's elements, as cells. -/
def Sees (h : Hp) (v : Value) (sz : Nat) (els : List (List Value)) : Prop :=
  (∀ e ∈ els, e.length = sz) ∧ ∃ oa c, v = .slice oa els.length c ∧ ((oa = none ∧ els = [] ∧ c = 0) ∨
    ∃ r o x, oa = some ⟨r, o, some x.cells.length⟩ ∧ h[r]? = some (some x) ∧ x.sz = sz ∧ o + els.length * sz ≤ x.cells.length ∧ (x.cells.drop o).take (els.length * sz) = els.flatten ∧ els.length ≤ c)

theorem Sees.ext {h : Hp} {v : Value} {sz : Nat} {els : List (List Value)} (s : Sees h v sz els) (t : Hp) : Sees (h ++ t) v sz els := by
  obtain ⟨h1, oa, c, h2, h3⟩ := s
  refine ⟨h1, oa, c, h2, ?_⟩
  rcases h3 with h3 | ⟨r, o, x, h4, h5, h6⟩
  · exact .inl h3
  · exact .inr ⟨r, o, x, h4, by rw [List.getElem?_append_left (List.getElem?_eq_some_iff.1 h5).1]; exact h5, h6⟩
theorem Sees.pre {h h' : Hp} {v : Value} {sz : Nat} {els : List (List Value)} (s : Sees h v sz els) (hp : h <+: h') : Sees h' v sz els := by
  obtain ⟨t, rfl⟩ := hp
  exact s.ext t
theorem Sees.shape {h : Hp} {v : Value} {sz : Nat} {els : List (List Value)} (s : Sees h v sz els) : ∃ oa c, v = .slice oa els.length c := by
  obtain ⟨_, oa, c, h2, _⟩ := s
  exact ⟨oa, c, h2⟩

theorem flat_get {sz : Nat} : ∀ {els : List (List Value)}, (∀ e ∈ els, e.length = sz) → ∀ {i k : Nat} {e : List Value}, els[i]? = some e → k < sz → els.flatten[i * sz + k]? = e[k]?
  | [], _, i, k, e, he, _ => by cases he
  | a :: els, hl, 0, k, e, he, hk => by
    simp at he; subst he
    have := hl a (List.mem_cons_self ..)
    simp [List.getElem?_append, show k < a.length by omega]
  | a :: els, hl, i + 1, k, e, he, hk => by
    have h1 := hl a (List.mem_cons_self ..)
    have := flat_get (fun e he => hl e (List.mem_cons_of_mem _ he)) (i := i) (k := k) (by simpa using he) hk
    rw [List.flatten_cons, List.getElem?_append_right (by rw [h1, Nat.succ_mul]; omega), h1, ← this]
    congr 1
    rw [Nat.succ_mul]; omega
theorem flat_len {sz : Nat} : ∀ {els : List (List Value)}, (∀ e ∈ els, e.length = sz) → els.flatten.length = els.length * sz
  | [], _ => by simp
  | a :: els, hl => by
    rw [List.flatten_cons, List.length_append, hl a (List.mem_cons_self ..), flat_len (fun e he => hl e (List.mem_cons_of_mem _ he)), List.length_cons, Nat.succ_mul]; omega
theorem flat_seg {sz : Nat} : ∀ {els : List (List Value)}, (∀ e ∈ els, e.length = sz) → ∀ {i : Nat} {e : List Value}, els[i]? = some e → (els.flatten.drop (i * sz)).take sz = e
  | [], _, i, e, he => by cases he
  | a :: els, hl, 0, e, he => by
    simp at he; subst he
    have := hl a (List.mem_cons_self ..)
    simp [← this]
  | a :: els, hl, i + 1, e, he => by
    have h1 := hl a (List.mem_cons_self ..)
    have := flat_seg (fun e he => hl e (List.mem_cons_of_mem _ he)) (i := i) (by simpa using he)
    rw [List.flatten_cons, ← this, Nat.succ_mul, Nat.add_comm, ← List.drop_drop]
    congr 2
    rw [← h1, List.drop_left]

section
variable {h : Hp} {v : Value} {sz : Nat} {els : List (List Value)}
theorem Sees.index (s : Sees h v sz els) {ty e : TypeId} (hu : P.underlying ty = some (.slice e)) (hq : (P.info? e).map (·.size) = some sz) {k : IntKind} {j : Int} (h0 : 0 ≤ j) (h1 : j < els.length) :
    indexAddrP P h ty v (.int k j) = some (.pointer (some (addP (base v) (j.toNat * sz)))) := by
  obtain ⟨h2, oa, c, rfl, h3⟩ := s
  obtain ⟨q, hq, hz⟩ := Option.map_eq_some_iff.1 hq
  rcases h3 with ⟨rfl, rfl, rfl⟩ | ⟨r, o, x, rfl, h5, h6, h7, h8, h9⟩
  · simp at h1; omega
  · have : h[r]? = some (some x) := h5
    simp only [indexAddrP, hu, hq, rowAt, this, if_true, base, h0, h1, and_self, hz]
theorem Sees.cell (s : Sees h v sz els) {ty : TypeId} (hu : (P.underlying ty).map aggD = some false) (hq : (P.info? ty).map (·.size) = some 1) {i k : Nat} {e : List Value} (he : els[i]? = some e) (hk : k < sz) :
    loadP P h ty (.pointer (some (addP (base v) (i * sz + k)))) = e[k]? := by
  obtain ⟨h2, oa, c, rfl, h3⟩ := s
  obtain ⟨q, hq, hz⟩ := Option.map_eq_some_iff.1 hq
  obtain ⟨d, hu, hd⟩ := Option.map_eq_some_iff.1 hu
  have hi := (List.getElem?_eq_some_iff.1 he).1
  rcases h3 with ⟨rfl, rfl, rfl⟩ | ⟨r, o, x, rfl, h5, h6, h7, h8, h9⟩
  · simp at hi
  · have hx : h[r]? = some (some x) := h5
    have hlt : i * sz + k < els.length * sz := by
      have : (i + 1) * sz ≤ els.length * sz := Nat.mul_le_mul_right _ hi
      rw [Nat.succ_mul] at this; omega
    have := flat_get h2 he hk
    rw [← h8, List.getElem?_take, if_pos hlt, List.getElem?_drop] at this
    simp only [loadP, rowAt, base, addP, hx, if_true, hu, hq, hd]
    simpa using this
theorem Sees.agg (s : Sees h v sz els) {ty : TypeId} (hu : (P.underlying ty).map aggD = some true) (hq : (P.info? ty).map (·.size) = some sz) {i : Nat} {e : List Value} (he : els[i]? = some e) :
    loadP P h ty (.pointer (some (addP (base v) (i * sz)))) = some (.agg e.toArray) := by
  obtain ⟨h2, oa, c, rfl, h3⟩ := s
  obtain ⟨q, hq, hz⟩ := Option.map_eq_some_iff.1 hq
  obtain ⟨d, hu, hd⟩ := Option.map_eq_some_iff.1 hu
  have hi := (List.getElem?_eq_some_iff.1 he).1
  rcases h3 with ⟨rfl, rfl, rfl⟩ | ⟨r, o, x, rfl, h5, h6, h7, h8, h9⟩
  · simp at hi
  · have hx : h[r]? = some (some x) := h5
    have hle : (i + 1) * sz ≤ els.length * sz := Nat.mul_le_mul_right _ hi
    rw [Nat.succ_mul] at hle
    have := flat_seg h2 he
    rw [← h8, List.drop_take, List.take_take, Nat.min_eq_left (by omega), List.drop_drop] at this
    simp only [loadP, rowAt, base, addP, hx, if_true, hu, hq, hd, hz]
    rw [if_pos (by omega), this]
end

theorem flat_take {sz : Nat} : ∀ {els : List (List Value)}, (∀ e ∈ els, e.length = sz) → ∀ (k : Nat), els.flatten.take (k * sz) = (els.take k).flatten
  | [], _, k => by simp
  | a :: els, hl, 0 => by simp
  | a :: els, hl, k + 1 => by
    have h1 := hl a (List.mem_cons_self ..)
    rw [List.take_succ_cons, List.flatten_cons, List.flatten_cons, ← flat_take (fun e he => hl e (List.mem_cons_of_mem _ he)) k, Nat.succ_mul, Nat.add_comm, ← h1]
    rw [List.take_length_add_append]
theorem Sees.front {h : Hp} {v : Value} {sz : Nat} {els : List (List Value)} (s : Sees h v sz els) {ty e : TypeId} (hu : P.underlying ty = some (.slice e)) (hq : (P.info? e).map (·.size) = some sz) {k : IntKind} {j : Int} (h0 : 0 ≤ j) (h1 : j ≤ els.length) :
    ∃ v', sliceP P h ty v none (some (.int k j)) = some v' ∧ Sees h v' sz (els.take j.toNat) := by
  obtain ⟨h2, oa, c, rfl, h3⟩ := s
  obtain ⟨q, hq, hz⟩ := Option.map_eq_some_iff.1 hq
  rcases h3 with ⟨rfl, rfl, rfl⟩ | ⟨r, o, x, rfl, h5, h6, h7, h8, h9⟩
  · have : j = 0 := by simp at h1; omega
    subst this
    refine ⟨.slice none 0 0, by simp [sliceP, hu, hq, hiP, loP, asI], ⟨by simp, none, 0, rfl, .inl ⟨rfl, rfl, rfl⟩⟩⟩
  · have hj : j.toNat ≤ els.length := by omega
    have hm : j.toNat * sz ≤ els.length * sz := Nat.mul_le_mul_right _ hj
    have hlen : (els.take j.toNat).length = j.toNat := by simp; omega
    refine ⟨.slice (some ⟨r, o, some x.cells.length⟩) j.toNat c, ?_, fun e he => h2 e (List.mem_of_mem_take he), some ⟨r, o, some x.cells.length⟩, c, by rw [hlen], .inr ⟨r, o, x, rfl, h5, h6, by rw [hlen]; omega, ?_, by rw [hlen]; omega⟩⟩
    · simp only [sliceP, hu, hq, rowAt, h5, if_true, hiP, loP, asI]
      rw [if_pos ⟨by omega, h0, by omega, by rw [h6, hz]⟩]
      simp [addP]
    · rw [hlen, ← flat_take h2, ← h8, List.take_take, Nat.min_eq_left hm]

/-! ### typed slices -/
section
variable {α : Type} {enc : α → List Value} {h : Hp} {v : Value} {sz : Nat} {xs : List α}
theorem Sees.indexT (s : Sees h v sz (xs.map enc)) {ty e : TypeId} (hu : P.underlying ty = some (.slice e)) (hq : (P.info? e).map (·.size) = some sz) {k : IntKind} {j : Int} (h0 : 0 ≤ j) (h1 : j < xs.length) :
    indexAddrP P h ty v (.int k j) = some (.pointer (some (addP (base v) (j.toNat * sz)))) := s.index hu hq h0 (by simpa using h1)
theorem Sees.cellT (s : Sees h v sz (xs.map enc)) {ty : TypeId} (hu : (P.underlying ty).map aggD = some false) (hq : (P.info? ty).map (·.size) = some 1) {i k : Nat} {x : α} (hx : xs[i]? = some x) (hk : k < sz) :
    loadP P h ty (.pointer (some (addP (base v) (i * sz + k)))) = (enc x)[k]? := s.cell hu hq (by simp [hx]) hk
theorem Sees.aggT (s : Sees h v sz (xs.map enc)) {ty : TypeId} (hu : (P.underlying ty).map aggD = some true) (hq : (P.info? ty).map (·.size) = some sz) {i : Nat} {x : α} (hx : xs[i]? = some x) :
    loadP P h ty (.pointer (some (addP (base v) (i * sz)))) = some (.agg (enc x).toArray) := s.agg hu hq (by simp [hx])
theorem Sees.shapeT (s : Sees h v sz (xs.map enc)) : ∃ oa c, v = .slice oa xs.length c := by simpa using s.shape
end

def encI (x : Int) : List Value := [.int .i64 x]
abbrev Ints (h : Hp) (v : Value) (xs : List Int) : Prop := Sees h v 1 (xs.map encI)

theorem drop_at {α : Type} {xs : List α} {i : Nat} (hi : i < xs.length) : ∃ x, xs[i]? = some x ∧ xs.drop i = x :: xs.drop (i + 1) :=
  ⟨xs[i], List.getElem?_eq_getElem hi, List.drop_eq_getElem_cons hi⟩

attribute [simp] op1 ev evs get put wantP dstOk plain plainC number builtinP lenB binP isShift binI unP resP resL res1 gc_self keep asI headOf headQ qAt okAt
end Go.Pm

/- Runs with what is to come as data: rules for simp. -/
set_option linter.unusedVariables false
set_option linter.unusedSimpArgs false
namespace Go.Pm

/-- What is to come. -/
inductive Kont where
  | top
  | seq (b : Code) (k : Kont)
  | block (id : Nat) (k : Kont)

def Kq (P : Program) (G : FuncId → GI) (N : Nat) (K : GI) (Q : Ex → St → Prop) : Kont → Ex → St → Prop
  | .top, ex, st => Q ex st
  | .seq b k, ex, st => onN ex (fun _ => Runs P G N K b st (Kq P G N K Q k)) fun _ => Kq P G N K Q k ex st
  | .block id k, ex, st => Kq P G N K Q k (unblock id ex) st
def R (P : Program) (G : FuncId → GI) (N : Nat) (K : GI) (Q : Ex → St → Prop) (c : Code) (st : St) (k : Kont) : Prop := Runs P G N K c st (Kq P G N K Q k)
def RL (P : Program) (G : FuncId → GI) (N : Nat) (K : GI) (Q : Ex → St → Prop) (ops : Array Oper) (l : List Oper) (st : St) (k : Kont) : Prop := RunsL P G N ops l st fun st' => Kq P G N K Q k .normal st'
def OpL (P : Program) (G : FuncId → GI) (N : Nat) (K : GI) (Q : Ex → St → Prop) (op : Op) (d : Option Tmp) (ops : Array Oper) (l : List Oper) (st : St) (k : Kont) : Prop := RunsO P G op st.s st.h fun v h' => RL P G N K Q ops l ⟨put st.s d v, h'⟩ k
def WL (P : Program) (G : FuncId → GI) (N : Nat) (K : GI) (Q : Ex → St → Prop) (x : Option Bool) (o : Oper) (ops : Array Oper) (l : List Oper) (st : St) (k : Kont) : Prop :=
  onW x (fun _ => OpL P G N K Q o.op o.dst ops l st k) fun _ => RL P G N K Q ops l ⟨put st.s o.dst undef, st.h⟩ k
def OL (P : Program) (G : FuncId → GI) (N : Nat) (K : GI) (Q : Ex → St → Prop) (x : Option (Value × Hp)) (d : Option Tmp) (ops : Array Oper) (l : List Oper) (s : Slots) (k : Kont) : Prop := onR x fun v h' => RL P G N K Q ops l ⟨put s d v, h'⟩ k
def CL (P : Program) (G : FuncId → GI) (N : Nat) (K : GI) (Q : Ex → St → Prop) (g : FuncId) (args : List Value) (h : Hp) (d : Option Tmp) (ops : Array Oper) (l : List Oper) (s : Slots) (k : Kont) : Prop := RunsC P G g args h fun v h' => RL P G N K Q ops l ⟨put s d v, h'⟩ k
def FL (P : Program) (G : FuncId → GI) (N : Nat) (K : GI) (Q : Ex → St → Prop) (x : Option Value) (y : Option (List Value)) (d : Option Tmp) (ops : Array Oper) (l : List Oper) (st : St) (k : Kont) : Prop :=
  onF x y fun g args => CL P G N K Q g args st.h d ops l st.s k
def CB (P : Program) (G : FuncId → GI) (N : Nat) (K : GI) (Q : Ex → St → Prop) (x : Option Value) (a b : Code) (st : St) (k : Kont) : Prop := onB x (fun _ => R P G N K Q a st k) fun _ => R P G N K Q b st k
-- regions that draw their order
def RH (P : Program) (G : FuncId → GI) (N : Nat) (K : GI) (Q : Ex → St → Prop) (ops : Array Oper) (l tl : List Oper) (st : St) (k : Kont) : Prop := RunsH P G N ops l st fun st1 => RL P G N K Q ops tl st1 k
def OpH (P : Program) (G : FuncId → GI) (N : Nat) (K : GI) (Q : Ex → St → Prop) (op : Op) (d : Option Tmp) (s' : Slots) (ops : Array Oper) (l tl : List Oper) (st : St) (k : Kont) : Prop := RunsO P G op s' st.h fun v h' => newOk st.h h' ∧ RH P G N K Q ops l tl ⟨put st.s d v, h'⟩ k
def WH (P : Program) (G : FuncId → GI) (N : Nat) (K : GI) (Q : Ex → St → Prop) (x : Option Bool) (s' : Slots) (o : Oper) (ops : Array Oper) (l tl : List Oper) (st : St) (k : Kont) : Prop :=
  onW x (fun _ => OpH P G N K Q o.op o.dst s' ops l tl st k) fun _ => RH P G N K Q ops l tl ⟨put st.s o.dst undef, st.h⟩ k
def OH (P : Program) (G : FuncId → GI) (N : Nat) (K : GI) (Q : Ex → St → Prop) (x : Option (Value × Hp)) (d : Option Tmp) (ops : Array Oper) (l tl : List Oper) (st : St) (k : Kont) : Prop := onR x fun v h' => newOk st.h h' ∧ RH P G N K Q ops l tl ⟨put st.s d v, h'⟩ k
def CH (P : Program) (G : FuncId → GI) (N : Nat) (K : GI) (Q : Ex → St → Prop) (g : FuncId) (args : List Value) (d : Option Tmp) (ops : Array Oper) (l tl : List Oper) (st : St) (k : Kont) : Prop := RunsC P G g args st.h fun v h' => newOk st.h h' ∧ RH P G N K Q ops l tl ⟨put st.s d v, h'⟩ k
def FH (P : Program) (G : FuncId → GI) (N : Nat) (K : GI) (Q : Ex → St → Prop) (x : Option Value) (y : Option (List Value)) (d : Option Tmp) (ops : Array Oper) (l tl : List Oper) (st : St) (k : Kont) : Prop :=
  onF x y fun g args => CH P G N K Q g args d ops l tl st k
-- regions some of whose operations write rows of earlier ones
def RG (P : Program) (G : FuncId → GI) (N : Nat) (K : GI) (Q : Ex → St → Prop) (q : List (Nat × Nat)) (Ls : List Nat) (ops : Array Oper) (l tl : List Oper) (st : St) (k : Kont) : Prop := RunsG P G N ops q Ls l st fun st1 => RL P G N K Q ops tl st1 k
def OpG (P : Program) (G : FuncId → GI) (N : Nat) (K : GI) (Q : Ex → St → Prop) (op : Op) (d : Option Tmp) (s' : Slots) (q : List (Nat × Nat)) (Ls : List Nat) (ops : Array Oper) (l tl : List Oper) (st : St) (k : Kont) : Prop := RunsO P G op s' st.h fun v h' => okAt q Ls st.h h' ∧ RG P G N K Q q (Ls ++ [st.h.length]) ops l tl ⟨put st.s d v, h'⟩ k
def WG (P : Program) (G : FuncId → GI) (N : Nat) (K : GI) (Q : Ex → St → Prop) (x : Option Bool) (s' : Slots) (o : Oper) (q : List (Nat × Nat)) (Ls : List Nat) (ops : Array Oper) (l tl : List Oper) (st : St) (k : Kont) : Prop :=
  onW x (fun _ => OpG P G N K Q o.op o.dst s' q Ls ops l tl st k) fun _ => RG P G N K Q q (Ls ++ [st.h.length]) ops l tl ⟨put st.s o.dst undef, st.h⟩ k
def OG (P : Program) (G : FuncId → GI) (N : Nat) (K : GI) (Q : Ex → St → Prop) (x : Option (Value × Hp)) (d : Option Tmp) (q : List (Nat × Nat)) (Ls : List Nat) (ops : Array Oper) (l tl : List Oper) (st : St) (k : Kont) : Prop := onR x fun v h' => okAt q Ls st.h h' ∧ RG P G N K Q q (Ls ++ [st.h.length]) ops l tl ⟨put st.s d v, h'⟩ k
def CG (P : Program) (G : FuncId → GI) (N : Nat) (K : GI) (Q : Ex → St → Prop) (g : FuncId) (args : List Value) (d : Option Tmp) (q : List (Nat × Nat)) (Ls : List Nat) (ops : Array Oper) (l tl : List Oper) (st : St) (k : Kont) : Prop := RunsC P G g args st.h fun v h' => okAt q Ls st.h h' ∧ RG P G N K Q q (Ls ++ [st.h.length]) ops l tl ⟨put st.s d v, h'⟩ k
def FG (P : Program) (G : FuncId → GI) (N : Nat) (K : GI) (Q : Ex → St → Prop) (x : Option Value) (y : Option (List Value)) (d : Option Tmp) (q : List (Nat × Nat)) (Ls : List Nat) (ops : Array Oper) (l tl : List Oper) (st : St) (k : Kont) : Prop :=
  onF x y fun g args => CG P G N K Q g args d q Ls ops l tl st k
def DH (P : Program) (G : FuncId → GI) (N : Nat) (K : GI) (Q : Ex → St → Prop) (x : Option Nat) (y : Option (Nat × List (Nat × Nat))) (ops : Array Oper) (st : St) (k : Kont) : Prop := onD x y (fun n => RH P G N K Q ops (ops.toList.take n) (ops.toList.drop n) st k) fun n q => RG P G N K Q q [] ops (ops.toList.take n) (ops.toList.drop n) st k

/-- What stands at a function's end. -/
def Fin (P : Program) (rs : Array ResultVar) (h : Hp) (K : Value → Hp → Prop) (ex : Ex) (st : St) : Prop := onX ex fun _ => onV (resP P rs st) fun v => K v (gc h st.h v)
def FinV (h h' : Hp) (K : Value → Hp → Prop) (x : Option Value) : Prop := onV x fun v => K v (gc h h' v)
/-- What stands at the end of a loop's round. -/
def LQ (P : Program) (G : FuncId → GI) (N : Nat) (K : GI) (Q : Ex → St → Prop) (kp : List Nat) (I : Nat → Slots → Hp → Prop) (n : Nat) (k : Kont) (ex : Ex) (st : St) : Prop := onN ex (fun _ => ∃ m, m < n ∧ I m (keep kp st.s) st.h) fun _ => Kq P G N K Q k ex st

section
variable {P : Program} {G : FuncId → GI} {N : Nat} {K : GI} {Q : Ex → St → Prop} {st : St} {k : Kont} {ops : Array Oper} {l tl : List Oper} {o : Oper} {d : Option Tmp} {s s' : Slots} {h : Hp}
@[simp] theorem R_skip : R P G N K Q .skip st k = Kq P G N K Q k .normal st := rfl
@[simp] theorem R_region {id : Nat} : R P G N K Q (.region id ops false) st k = RL P G N K Q ops ops.toList st k := rfl
@[simp] theorem R_draw {id : Nat} : R P G N K Q (.region id ops true) st k = DH P G N K Q (headOf K.heads id) (headQ K.qs id) ops st k := rfl
@[simp] theorem R_seq {a b : Code} : R P G N K Q (.seq a b) st k = R P G N K Q a st (.seq b k) := rfl
@[simp] theorem R_cond {c : Operand} {a b : Code} : R P G N K Q (.cond c a b) st k = CB P G N K Q (ev st.s c) a b st k := rfl
@[simp] theorem R_block {id : Nat} {b : Code} : R P G N K Q (.block id b) st k = R P G N K Q b st (.block id k) := rfl
@[simp] theorem R_exit {id : Nat} : R P G N K Q (.exit id) st k = Kq P G N K Q k (.exit id) st := rfl
@[simp] theorem R_ret : R P G N K Q .ret st k = Kq P G N K Q k .ret st := rfl
@[simp] theorem Kq_top {ex : Ex} : Kq P G N K Q .top ex st = Q ex st := rfl
@[simp] theorem Kq_seq {b : Code} : Kq P G N K Q (.seq b k) .normal st = R P G N K Q b st k := rfl
@[simp] theorem Kq_seq_exit {b : Code} {i : Nat} : Kq P G N K Q (.seq b k) (.exit i) st = Kq P G N K Q k (.exit i) st := rfl
@[simp] theorem Kq_seq_ret {b : Code} : Kq P G N K Q (.seq b k) .ret st = Kq P G N K Q k .ret st := rfl
@[simp] theorem Kq_block {id : Nat} : Kq P G N K Q (.block id k) .normal st = Kq P G N K Q k .normal st := rfl
@[simp] theorem Kq_block_ret {id : Nat} : Kq P G N K Q (.block id k) .ret st = Kq P G N K Q k .ret st := rfl
@[simp] theorem Kq_block_exit {id i : Nat} : Kq P G N K Q (.block id k) (.exit i) st = Kq P G N K Q k (if i = id then .normal else .exit i) st := rfl
@[simp] theorem RL_nil : RL P G N K Q ops [] st k = Kq P G N K Q k .normal st := rfl
@[simp] theorem RL_cons : RL P G N K Q ops (o :: l) st k = (dstOk N o.dst = true ∧ WL P G N K Q (wantP ops st.s o) o ops l st k) := rfl
@[simp] theorem WL_true : WL P G N K Q (some true) o ops l st k = OpL P G N K Q o.op o.dst ops l st k := rfl
@[simp] theorem WL_false : WL P G N K Q (some false) o ops l st k = RL P G N K Q ops l ⟨put st.s o.dst undef, st.h⟩ k := rfl
@[simp] theorem OpL_value {x : Operand} {as : Array Operand} {ts : Array TypeId} : OpL P G N K Q (.call ⟨.value x, as, ts⟩) d ops l st k = FL P G N K Q (ev st.s x) (evs st.s as.toList) d ops l st k := rfl
@[simp] theorem OpL_builtin {b : Builtin} {as : Array Operand} {ts : Array TypeId} : OpL P G N K Q (.call ⟨.builtin b, as, ts⟩) d ops l st k = OL P G N K Q ((evs st.s as.toList).bind fun args => builtinP P st.h b ts.toList args) d ops l st.s k := rfl
@[simp] theorem OpL_move {x : Operand} : OpL P G N K Q (.move x) d ops l st k = OL P G N K Q (op1 P st.s st.h (.move x)) d ops l st.s k := rfl
@[simp] theorem OpL_assign {x : Operand} : OpL P G N K Q (.assign x) d ops l st k = OL P G N K Q (op1 P st.s st.h (.assign x)) d ops l st.s k := rfl
@[simp] theorem OpL_pick {c x y : Operand} : OpL P G N K Q (.pick c x y) d ops l st k = OL P G N K Q (op1 P st.s st.h (.pick c x y)) d ops l st.s k := rfl
@[simp] theorem OpL_alloc {e : TypeId} : OpL P G N K Q (.alloc e) d ops l st k = OL P G N K Q (op1 P st.s st.h (.alloc e)) d ops l st.s k := rfl
@[simp] theorem OpL_box {e : TypeId} {x : Operand} : OpL P G N K Q (.box e x) d ops l st k = OL P G N K Q (op1 P st.s st.h (.box e x)) d ops l st.s k := rfl
@[simp] theorem OpL_build {t : TypeId} {p : Array (Nat × Operand)} : OpL P G N K Q (.build t p) d ops l st k = OL P G N K Q (op1 P st.s st.h (.build t p)) d ops l st.s k := rfl
@[simp] theorem OpL_buildSlice {t : TypeId} {n : Nat} {p : Array (Nat × Operand)} : OpL P G N K Q (.buildSlice t n p) d ops l st k = OL P G N K Q (op1 P st.s st.h (.buildSlice t n p)) d ops l st.s k := rfl
@[simp] theorem OpL_load {t : TypeId} {x : Operand} : OpL P G N K Q (.load t x) d ops l st k = OL P G N K Q (op1 P st.s st.h (.load t x)) d ops l st.s k := rfl
@[simp] theorem OpL_store {t : TypeId} {x y : Operand} : OpL P G N K Q (.store t x y) d ops l st k = OL P G N K Q (op1 P st.s st.h (.store t x y)) d ops l st.s k := rfl
@[simp] theorem OpL_nilCheck {x : Operand} : OpL P G N K Q (.nilCheck x) d ops l st k = OL P G N K Q (op1 P st.s st.h (.nilCheck x)) d ops l st.s k := rfl
@[simp] theorem OpL_binOp {b : BinOp} {t t' : TypeId} {x y : Operand} : OpL P G N K Q (.binOp b t x y t') d ops l st k = OL P G N K Q (op1 P st.s st.h (.binOp b t x y t')) d ops l st.s k := rfl
@[simp] theorem OpL_unOp {b : UnOp} {t : TypeId} {x : Operand} : OpL P G N K Q (.unOp b t x) d ops l st k = OL P G N K Q (op1 P st.s st.h (.unOp b t x)) d ops l st.s k := rfl
@[simp] theorem OpL_convert {t t' : TypeId} {x : Operand} : OpL P G N K Q (.convert t t' x) d ops l st k = OL P G N K Q (op1 P st.s st.h (.convert t t' x)) d ops l st.s k := rfl
@[simp] theorem OpL_makeFunc {f : Fn} {x y : Array Operand} : OpL P G N K Q (.makeFunc f x y) d ops l st k = OL P G N K Q (op1 P st.s st.h (.makeFunc f x y)) d ops l st.s k := rfl
@[simp] theorem OpL_makeSlice {t : TypeId} {x y : Operand} : OpL P G N K Q (.makeSlice t x y) d ops l st k = OL P G N K Q (op1 P st.s st.h (.makeSlice t x y)) d ops l st.s k := rfl
@[simp] theorem OpL_slice {t : TypeId} {x : Operand} {a b c : Option Operand} : OpL P G N K Q (.slice t x a b c) d ops l st k = OL P G N K Q (op1 P st.s st.h (.slice t x a b c)) d ops l st.s k := rfl
@[simp] theorem OpL_fieldAddr {t : TypeId} {x : Operand} {j : Nat} : OpL P G N K Q (.fieldAddr t x j) d ops l st k = OL P G N K Q (op1 P st.s st.h (.fieldAddr t x j)) d ops l st.s k := rfl
@[simp] theorem OpL_field {t : TypeId} {x : Operand} {j : Nat} : OpL P G N K Q (.field t x j) d ops l st k = OL P G N K Q (op1 P st.s st.h (.field t x j)) d ops l st.s k := rfl
@[simp] theorem OpL_indexAddr {t : TypeId} {x y : Operand} : OpL P G N K Q (.indexAddr t x y) d ops l st k = OL P G N K Q (op1 P st.s st.h (.indexAddr t x y)) d ops l st.s k := rfl
@[simp] theorem OpL_index {t : TypeId} {x y : Operand} : OpL P G N K Q (.index t x y) d ops l st k = OL P G N K Q (op1 P st.s st.h (.index t x y)) d ops l st.s k := rfl
@[simp] theorem OpL_extract {x : Operand} {j : Nat} : OpL P G N K Q (.extract x j) d ops l st k = OL P G N K Q (op1 P st.s st.h (.extract x j)) d ops l st.s k := rfl
@[simp] theorem OL_some {x : Value × Hp} : OL P G N K Q (some x) d ops l s k = RL P G N K Q ops l ⟨put s d x.1, x.2⟩ k := rfl
@[simp] theorem FL_some {g : FuncId} {f c : Array Value} {args : List Value} : FL P G N K Q (some (.func (.func g) f c)) (some args) d ops l st k = CL P G N K Q g (f.toList ++ args ++ c.toList) st.h d ops l st.s k := rfl
@[simp] theorem CB_true {a b : Code} : CB P G N K Q (some (.bool true)) a b st k = R P G N K Q a st k := rfl
@[simp] theorem CB_false {a b : Code} : CB P G N K Q (some (.bool false)) a b st k = R P G N K Q b st k := rfl
@[simp] theorem DH_some {n : Nat} {y : Option (Nat × List (Nat × Nat))} : DH P G N K Q (some n) y ops st k = RH P G N K Q ops (ops.toList.take n) (ops.toList.drop n) st k := rfl
@[simp] theorem DH_none {n : Nat} {q : List (Nat × Nat)} : DH P G N K Q none (some (n, q)) ops st k = RG P G N K Q q [] ops (ops.toList.take n) (ops.toList.drop n) st k := rfl
@[simp] theorem RH_nil : RH P G N K Q ops [] tl st k = RL P G N K Q ops tl st k := rfl
@[simp] theorem RH_cons : RH P G N K Q ops (o :: l) tl st k = (dstOk N o.dst = true ∧ WH P G N K Q (wantP ops (keep (o.looksAt ops) st.s) o) (keep (o.looksAt ops) st.s) o ops l tl st k) := rfl
@[simp] theorem WH_true : WH P G N K Q (some true) s' o ops l tl st k = OpH P G N K Q o.op o.dst s' ops l tl st k := rfl
@[simp] theorem WH_false : WH P G N K Q (some false) s' o ops l tl st k = RH P G N K Q ops l tl ⟨put st.s o.dst undef, st.h⟩ k := rfl
@[simp] theorem OpH_value {x : Operand} {as : Array Operand} {ts : Array TypeId} : OpH P G N K Q (.call ⟨.value x, as, ts⟩) d s' ops l tl st k = FH P G N K Q (ev s' x) (evs s' as.toList) d ops l tl st k := rfl
@[simp] theorem OpH_builtin {b : Builtin} {as : Array Operand} {ts : Array TypeId} : OpH P G N K Q (.call ⟨.builtin b, as, ts⟩) d s' ops l tl st k = OH P G N K Q ((evs s' as.toList).bind fun args => builtinP P st.h b ts.toList args) d ops l tl st k := rfl
@[simp] theorem OpH_move {x : Operand} : OpH P G N K Q (.move x) d s' ops l tl st k = OH P G N K Q (op1 P s' st.h (.move x)) d ops l tl st k := rfl
@[simp] theorem OpH_assign {x : Operand} : OpH P G N K Q (.assign x) d s' ops l tl st k = OH P G N K Q (op1 P s' st.h (.assign x)) d ops l tl st k := rfl
@[simp] theorem OpH_pick {c x y : Operand} : OpH P G N K Q (.pick c x y) d s' ops l tl st k = OH P G N K Q (op1 P s' st.h (.pick c x y)) d ops l tl st k := rfl
@[simp] theorem OpH_alloc {e : TypeId} : OpH P G N K Q (.alloc e) d s' ops l tl st k = OH P G N K Q (op1 P s' st.h (.alloc e)) d ops l tl st k := rfl
@[simp] theorem OpH_box {e : TypeId} {x : Operand} : OpH P G N K Q (.box e x) d s' ops l tl st k = OH P G N K Q (op1 P s' st.h (.box e x)) d ops l tl st k := rfl
@[simp] theorem OpH_build {t : TypeId} {p : Array (Nat × Operand)} : OpH P G N K Q (.build t p) d s' ops l tl st k = OH P G N K Q (op1 P s' st.h (.build t p)) d ops l tl st k := rfl
@[simp] theorem OpH_buildSlice {t : TypeId} {n : Nat} {p : Array (Nat × Operand)} : OpH P G N K Q (.buildSlice t n p) d s' ops l tl st k = OH P G N K Q (op1 P s' st.h (.buildSlice t n p)) d ops l tl st k := rfl
@[simp] theorem OpH_load {t : TypeId} {x : Operand} : OpH P G N K Q (.load t x) d s' ops l tl st k = OH P G N K Q (op1 P s' st.h (.load t x)) d ops l tl st k := rfl
@[simp] theorem OpH_store {t : TypeId} {x y : Operand} : OpH P G N K Q (.store t x y) d s' ops l tl st k = OH P G N K Q (op1 P s' st.h (.store t x y)) d ops l tl st k := rfl
@[simp] theorem OpH_nilCheck {x : Operand} : OpH P G N K Q (.nilCheck x) d s' ops l tl st k = OH P G N K Q (op1 P s' st.h (.nilCheck x)) d ops l tl st k := rfl
@[simp] theorem OpH_binOp {b : BinOp} {t t' : TypeId} {x y : Operand} : OpH P G N K Q (.binOp b t x y t') d s' ops l tl st k = OH P G N K Q (op1 P s' st.h (.binOp b t x y t')) d ops l tl st k := rfl
@[simp] theorem OpH_unOp {b : UnOp} {t : TypeId} {x : Operand} : OpH P G N K Q (.unOp b t x) d s' ops l tl st k = OH P G N K Q (op1 P s' st.h (.unOp b t x)) d ops l tl st k := rfl
@[simp] theorem OpH_convert {t t' : TypeId} {x : Operand} : OpH P G N K Q (.convert t t' x) d s' ops l tl st k = OH P G N K Q (op1 P s' st.h (.convert t t' x)) d ops l tl st k := rfl
@[simp] theorem OpH_makeFunc {f : Fn} {x y : Array Operand} : OpH P G N K Q (.makeFunc f x y) d s' ops l tl st k = OH P G N K Q (op1 P s' st.h (.makeFunc f x y)) d ops l tl st k := rfl
@[simp] theorem OpH_makeSlice {t : TypeId} {x y : Operand} : OpH P G N K Q (.makeSlice t x y) d s' ops l tl st k = OH P G N K Q (op1 P s' st.h (.makeSlice t x y)) d ops l tl st k := rfl
@[simp] theorem OpH_slice {t : TypeId} {x : Operand} {a b c : Option Operand} : OpH P G N K Q (.slice t x a b c) d s' ops l tl st k = OH P G N K Q (op1 P s' st.h (.slice t x a b c)) d ops l tl st k := rfl
@[simp] theorem OpH_fieldAddr {t : TypeId} {x : Operand} {j : Nat} : OpH P G N K Q (.fieldAddr t x j) d s' ops l tl st k = OH P G N K Q (op1 P s' st.h (.fieldAddr t x j)) d ops l tl st k := rfl
@[simp] theorem OpH_field {t : TypeId} {x : Operand} {j : Nat} : OpH P G N K Q (.field t x j) d s' ops l tl st k = OH P G N K Q (op1 P s' st.h (.field t x j)) d ops l tl st k := rfl
@[simp] theorem OpH_indexAddr {t : TypeId} {x y : Operand} : OpH P G N K Q (.indexAddr t x y) d s' ops l tl st k = OH P G N K Q (op1 P s' st.h (.indexAddr t x y)) d ops l tl st k := rfl
@[simp] theorem OpH_index {t : TypeId} {x y : Operand} : OpH P G N K Q (.index t x y) d s' ops l tl st k = OH P G N K Q (op1 P s' st.h (.index t x y)) d ops l tl st k := rfl
@[simp] theorem OpH_extract {x : Operand} {j : Nat} : OpH P G N K Q (.extract x j) d s' ops l tl st k = OH P G N K Q (op1 P s' st.h (.extract x j)) d ops l tl st k := rfl
@[simp] theorem OH_some {x : Value × Hp} : OH P G N K Q (some x) d ops l tl st k = (newOk st.h x.2 ∧ RH P G N K Q ops l tl ⟨put st.s d x.1, x.2⟩ k) := rfl
@[simp] theorem FH_some {g : FuncId} {f c : Array Value} {args : List Value} : FH P G N K Q (some (.func (.func g) f c)) (some args) d ops l tl st k = CH P G N K Q g (f.toList ++ args ++ c.toList) d ops l tl st k := rfl
@[simp] theorem RG_nil {q : List (Nat × Nat)} {Ls : List Nat} : RG P G N K Q q Ls ops [] tl st k = RL P G N K Q ops tl st k := rfl
@[simp] theorem RG_cons {q : List (Nat × Nat)} {Ls : List Nat} : RG P G N K Q q Ls ops (o :: l) tl st k = (dstOk N o.dst = true ∧ WG P G N K Q (wantP ops (keep (o.looksAt ops) st.s) o) (keep (o.looksAt ops) st.s) o q Ls ops l tl st k) := rfl
@[simp] theorem WG_true {q : List (Nat × Nat)} {Ls : List Nat} : WG P G N K Q (some true) s' o q Ls ops l tl st k = OpG P G N K Q o.op o.dst s' q Ls ops l tl st k := rfl
@[simp] theorem WG_false {q : List (Nat × Nat)} {Ls : List Nat} : WG P G N K Q (some false) s' o q Ls ops l tl st k = RG P G N K Q q (Ls ++ [st.h.length]) ops l tl ⟨put st.s o.dst undef, st.h⟩ k := rfl
@[simp] theorem OpG_value {q : List (Nat × Nat)} {Ls : List Nat} {x : Operand} {as : Array Operand} {ts : Array TypeId} : OpG P G N K Q (.call ⟨.value x, as, ts⟩) d s' q Ls ops l tl st k = FG P G N K Q (ev s' x) (evs s' as.toList) d q Ls ops l tl st k := rfl
@[simp] theorem OpG_builtin {q : List (Nat × Nat)} {Ls : List Nat} {b : Builtin} {as : Array Operand} {ts : Array TypeId} : OpG P G N K Q (.call ⟨.builtin b, as, ts⟩) d s' q Ls ops l tl st k = OG P G N K Q ((evs s' as.toList).bind fun args => builtinP P st.h b ts.toList args) d q Ls ops l tl st k := rfl
@[simp] theorem OpG_move {q : List (Nat × Nat)} {Ls : List Nat} {x : Operand} : OpG P G N K Q (.move x) d s' q Ls ops l tl st k = OG P G N K Q (op1 P s' st.h (.move x)) d q Ls ops l tl st k := rfl
@[simp] theorem OpG_assign {q : List (Nat × Nat)} {Ls : List Nat} {x : Operand} : OpG P G N K Q (.assign x) d s' q Ls ops l tl st k = OG P G N K Q (op1 P s' st.h (.assign x)) d q Ls ops l tl st k := rfl
@[simp] theorem OpG_pick {q : List (Nat × Nat)} {Ls : List Nat} {c x y : Operand} : OpG P G N K Q (.pick c x y) d s' q Ls ops l tl st k = OG P G N K Q (op1 P s' st.h (.pick c x y)) d q Ls ops l tl st k := rfl
@[simp] theorem OpG_alloc {q : List (Nat × Nat)} {Ls : List Nat} {e : TypeId} : OpG P G N K Q (.alloc e) d s' q Ls ops l tl st k = OG P G N K Q (op1 P s' st.h (.alloc e)) d q Ls ops l tl st k := rfl
@[simp] theorem OpG_box {q : List (Nat × Nat)} {Ls : List Nat} {e : TypeId} {x : Operand} : OpG P G N K Q (.box e x) d s' q Ls ops l tl st k = OG P G N K Q (op1 P s' st.h (.box e x)) d q Ls ops l tl st k := rfl
@[simp] theorem OpG_build {q : List (Nat × Nat)} {Ls : List Nat} {t : TypeId} {p : Array (Nat × Operand)} : OpG P G N K Q (.build t p) d s' q Ls ops l tl st k = OG P G N K Q (op1 P s' st.h (.build t p)) d q Ls ops l tl st k := rfl
@[simp] theorem OpG_buildSlice {q : List (Nat × Nat)} {Ls : List Nat} {t : TypeId} {n : Nat} {p : Array (Nat × Operand)} : OpG P G N K Q (.buildSlice t n p) d s' q Ls ops l tl st k = OG P G N K Q (op1 P s' st.h (.buildSlice t n p)) d q Ls ops l tl st k := rfl
@[simp] theorem OpG_load {q : List (Nat × Nat)} {Ls : List Nat} {t : TypeId} {x : Operand} : OpG P G N K Q (.load t x) d s' q Ls ops l tl st k = OG P G N K Q (op1 P s' st.h (.load t x)) d q Ls ops l tl st k := rfl
@[simp] theorem OpG_store {q : List (Nat × Nat)} {Ls : List Nat} {t : TypeId} {x y : Operand} : OpG P G N K Q (.store t x y) d s' q Ls ops l tl st k = OG P G N K Q (op1 P s' st.h (.store t x y)) d q Ls ops l tl st k := rfl
@[simp] theorem OpG_nilCheck {q : List (Nat × Nat)} {Ls : List Nat} {x : Operand} : OpG P G N K Q (.nilCheck x) d s' q Ls ops l tl st k = OG P G N K Q (op1 P s' st.h (.nilCheck x)) d q Ls ops l tl st k := rfl
@[simp] theorem OpG_binOp {q : List (Nat × Nat)} {Ls : List Nat} {b : BinOp} {t t' : TypeId} {x y : Operand} : OpG P G N K Q (.binOp b t x y t') d s' q Ls ops l tl st k = OG P G N K Q (op1 P s' st.h (.binOp b t x y t')) d q Ls ops l tl st k := rfl
@[simp] theorem OpG_unOp {q : List (Nat × Nat)} {Ls : List Nat} {b : UnOp} {t : TypeId} {x : Operand} : OpG P G N K Q (.unOp b t x) d s' q Ls ops l tl st k = OG P G N K Q (op1 P s' st.h (.unOp b t x)) d q Ls ops l tl st k := rfl
@[simp] theorem OpG_convert {q : List (Nat × Nat)} {Ls : List Nat} {t t' : TypeId} {x : Operand} : OpG P G N K Q (.convert t t' x) d s' q Ls ops l tl st k = OG P G N K Q (op1 P s' st.h (.convert t t' x)) d q Ls ops l tl st k := rfl
@[simp] theorem OpG_makeFunc {q : List (Nat × Nat)} {Ls : List Nat} {f : Fn} {x y : Array Operand} : OpG P G N K Q (.makeFunc f x y) d s' q Ls ops l tl st k = OG P G N K Q (op1 P s' st.h (.makeFunc f x y)) d q Ls ops l tl st k := rfl
@[simp] theorem OpG_makeSlice {q : List (Nat × Nat)} {Ls : List Nat} {t : TypeId} {x y : Operand} : OpG P G N K Q (.makeSlice t x y) d s' q Ls ops l tl st k = OG P G N K Q (op1 P s' st.h (.makeSlice t x y)) d q Ls ops l tl st k := rfl
@[simp] theorem OpG_slice {q : List (Nat × Nat)} {Ls : List Nat} {t : TypeId} {x : Operand} {a b c : Option Operand} : OpG P G N K Q (.slice t x a b c) d s' q Ls ops l tl st k = OG P G N K Q (op1 P s' st.h (.slice t x a b c)) d q Ls ops l tl st k := rfl
@[simp] theorem OpG_fieldAddr {q : List (Nat × Nat)} {Ls : List Nat} {t : TypeId} {x : Operand} {j : Nat} : OpG P G N K Q (.fieldAddr t x j) d s' q Ls ops l tl st k = OG P G N K Q (op1 P s' st.h (.fieldAddr t x j)) d q Ls ops l tl st k := rfl
@[simp] theorem OpG_field {q : List (Nat × Nat)} {Ls : List Nat} {t : TypeId} {x : Operand} {j : Nat} : OpG P G N K Q (.field t x j) d s' q Ls ops l tl st k = OG P G N K Q (op1 P s' st.h (.field t x j)) d q Ls ops l tl st k := rfl
@[simp] theorem OpG_indexAddr {q : List (Nat × Nat)} {Ls : List Nat} {t : TypeId} {x y : Operand} : OpG P G N K Q (.indexAddr t x y) d s' q Ls ops l tl st k = OG P G N K Q (op1 P s' st.h (.indexAddr t x y)) d q Ls ops l tl st k := rfl
@[simp] theorem OpG_index {q : List (Nat × Nat)} {Ls : List Nat} {t : TypeId} {x y : Operand} : OpG P G N K Q (.index t x y) d s' q Ls ops l tl st k = OG P G N K Q (op1 P s' st.h (.index t x y)) d q Ls ops l tl st k := rfl
@[simp] theorem OpG_extract {q : List (Nat × Nat)} {Ls : List Nat} {x : Operand} {j : Nat} : OpG P G N K Q (.extract x j) d s' q Ls ops l tl st k = OG P G N K Q (op1 P s' st.h (.extract x j)) d q Ls ops l tl st k := rfl
@[simp] theorem OG_some {q : List (Nat × Nat)} {Ls : List Nat} {x : Value × Hp} : OG P G N K Q (some x) d q Ls ops l tl st k = (okAt q Ls st.h x.2 ∧ RG P G N K Q q (Ls ++ [st.h.length]) ops l tl ⟨put st.s d x.1, x.2⟩ k) := rfl
@[simp] theorem FG_some {q : List (Nat × Nat)} {Ls : List Nat} {g : FuncId} {f c : Array Value} {args : List Value} : FG P G N K Q (some (.func (.func g) f c)) (some args) d q Ls ops l tl st k = CG P G N K Q g (f.toList ++ args ++ c.toList) d q Ls ops l tl st k := rfl
@[simp] theorem Fin_normal {rs : Array ResultVar} {K : Value → Hp → Prop} : Fin P rs h K .normal st = FinV h st.h K (resP P rs st) := rfl
@[simp] theorem Fin_ret {rs : Array ResultVar} {K : Value → Hp → Prop} : Fin P rs h K .ret st = FinV h st.h K (resP P rs st) := rfl
@[simp] theorem FinV_some {h' : Hp} {K : Value → Hp → Prop} {v : Value} : FinV h h' K (some v) = K v (gc h h' v) := rfl
@[simp] theorem LQ_normal {kp : List Nat} {I : Nat → Slots → Hp → Prop} {n : Nat} : LQ P G N K Q kp I n k .normal st = ∃ m, m < n ∧ I m (keep kp st.s) st.h := rfl
@[simp] theorem LQ_exit {kp : List Nat} {I : Nat → Slots → Hp → Prop} {n i : Nat} : LQ P G N K Q kp I n k (.exit i) st = Kq P G N K Q k (.exit i) st := rfl
@[simp] theorem LQ_ret {kp : List Nat} {I : Nat → Slots → Hp → Prop} {n : Nat} : LQ P G N K Q kp I n k .ret st = Kq P G N K Q k .ret st := rfl
@[simp] theorem newOk_self : newOk h h := ⟨List.prefix_rfl, by simp⟩
@[simp] theorem newOk_own {cs : List Value} {sz : Nat} : newOk h (h ++ [some ⟨cs, sz, false⟩]) := ⟨List.prefix_append .., by simp⟩

theorem R_loop {b : Code} (I : Nat → Slots → Hp → Prop) (hb : ∀ n s h, I n s h → R P G N K (LQ P G N K Q (keepAt K.keep (firstId b)) I n k) b ⟨s, h⟩ .top) {n : Nat} (hi : I n (keep (keepAt K.keep (firstId b)) st.s) st.h) : R P G N K Q (.loop b) st k :=
  Runs.loopK I (fun n s h hI => (hb n s h hI).mono fun ex st' h => h) hi

/-- What a function returns and leaves. -/
def Ret (P : Program) (G : FuncId → GI) (g : FuncId) (args : List Value) (h : Hp) (v : Value) (h1 : Hp) : Prop := RunsC P G g args h fun v' h' => v' = v ∧ h' = h1
theorem CL_ret {g : FuncId} {args : List Value} {v : Value} {h1 : Hp} (r : Ret P G g args h v h1) : CL P G N K Q g args h d ops l s k = RL P G N K Q ops l ⟨put s d v, h1⟩ k := propext (RunsC.iff r _)
theorem CH_ret {g : FuncId} {args : List Value} {v : Value} {h1 : Hp} (r : Ret P G g args st.h v h1) : CH P G N K Q g args d ops l tl st k = (newOk st.h h1 ∧ RH P G N K Q ops l tl ⟨put st.s d v, h1⟩ k) := propext (RunsC.iff r _)
theorem CG_ret {q : List (Nat × Nat)} {Ls : List Nat} {g : FuncId} {args : List Value} {v : Value} {h1 : Hp} (r : Ret P G g args st.h v h1) : CG P G N K Q g args d q Ls ops l tl st k = (okAt q Ls st.h h1 ∧ RG P G N K Q q (Ls ++ [st.h.length]) ops l tl ⟨put st.s d v, h1⟩ k) := propext (RunsC.iff r _)
theorem CG_post {q : List (Nat × Nat)} {Ls : List Nat} {g : FuncId} {args : List Value} {Kp : Value → Hp → Prop} (r : RunsC P G g args st.h Kp) (hk : ∀ v h', Kp v h' → okAt q Ls st.h h' ∧ RG P G N K Q q (Ls ++ [st.h.length]) ops l tl ⟨put st.s d v, h'⟩ k) : CG P G N K Q g args d q Ls ops l tl st k := RunsC.mono r hk
theorem CL_post {g : FuncId} {args : List Value} {Kp : Value → Hp → Prop} (r : RunsC P G g args h Kp) (hk : ∀ v h', Kp v h' → RL P G N K Q ops l ⟨put s d v, h'⟩ k) : CL P G N K Q g args h d ops l s k := RunsC.mono r hk
theorem CH_post {g : FuncId} {args : List Value} {Kp : Value → Hp → Prop} (r : RunsC P G g args st.h Kp) (hk : ∀ v h', Kp v h' → newOk st.h h' ∧ RH P G N K Q ops l tl ⟨put st.s d v, h'⟩ k) : CH P G N K Q g args d ops l tl st k := RunsC.mono r hk
theorem enter_run {g : FuncId} {args : List Value} {Kp : Value → Hp → Prop} {c : Code} {rs : Array ResultVar} (he : enterG P (G g) g = some (c, N, rs)) (hl : args.length ≤ N) (r : R P G N (G g) (Fin P rs h Kp) c ⟨number 0 args, h⟩ .top) : RunsC P G g args h Kp :=
  RunsC.enter he hl (Runs.mono r fun ex st' h => h)
theorem CB_split {c : Bool} {a b : Code} (ht : c = true → R P G N K Q a st k) (hf : c = false → R P G N K Q b st k) : CB P G N K Q (some (.bool c)) a b st k := by
  cases c with
  | true => exact ht rfl
  | false => exact hf rfl
theorem WL_split {c : Bool} (ht : c = true → OpL P G N K Q o.op o.dst ops l st k) (hf : c = false → RL P G N K Q ops l ⟨put st.s o.dst undef, st.h⟩ k) : WL P G N K Q (some c) o ops l st k := by
  cases c with
  | true => exact ht rfl
  | false => exact hf rfl
theorem WH_split {c : Bool} (ht : c = true → OpH P G N K Q o.op o.dst s' ops l tl st k) (hf : c = false → RH P G N K Q ops l tl ⟨put st.s o.dst undef, st.h⟩ k) : WH P G N K Q (some c) s' o ops l tl st k := by
  cases c with
  | true => exact ht rfl
  | false => exact hf rfl
end
end Go.Pm

/- Rows that a function has made itself: rules for simp. -/
set_option linter.unusedVariables false
set_option linter.unusedSimpArgs false
namespace Go.Pm
section
variable {P : Program} {h l : Hp} {x : Row} {y : Option Row} {k o : Nat} {sp : Option Nat} {t : TypeId} {v : Value}

def allOne : List Value → Bool
  | [] => true
  | v :: r => one v && allOne r
@[simp ↓] theorem all_one (l : List Value) : l.all one = allOne l := by
  induction l with
  | nil => rfl
  | cons v r ih => simp only [List.all_cons, allOne, ih]
@[simp] theorem allOne_nil : allOne [] = true := rfl
@[simp] theorem allOne_cons (v : Value) (r : List Value) : allOne (v :: r) = (one v && allOne r) := rfl
theorem hget_app (h l : Hp) (k : Nat) : (h ++ l)[h.length + k]? = l[k]? := by
  have := List.getElem?_append_right (l₁ := h) (l₂ := l) (i := h.length + k) (by omega)
  rwa [Nat.add_sub_cancel_left] at this
theorem hget_app0 (h l : Hp) : (h ++ l)[h.length]? = l[0]? := hget_app h l 0
theorem hset_app (h l : Hp) (k : Nat) (y : Option Row) : List.set (h ++ l) (h.length + k) y = h ++ List.set l k y := by
  have := List.set_append_right (s := h) (t := l) (i := h.length + k) (x := y) (by omega)
  rwa [Nat.add_sub_cancel_left] at this
theorem hset_app0 (h l : Hp) (y : Option Row) : List.set (h ++ l) h.length y = h ++ List.set l 0 y := hset_app h l 0 y

@[simp] theorem rowAt_app : rowAt (h ++ l) ⟨h.length + k, o, sp⟩ = rowAt l ⟨k, o, sp⟩ := by unfold rowAt; rw [hget_app]
@[simp] theorem rowAt_app0 : rowAt (h ++ l) ⟨h.length, o, sp⟩ = rowAt l ⟨0, o, sp⟩ := by unfold rowAt; rw [hget_app0]
@[simp] theorem rowAt_zero : rowAt (some x :: l) ⟨0, o, sp⟩ = if sp = some x.cells.length then some x else none := by simp [rowAt]
@[simp] theorem rowAt_succ : rowAt (y :: l) ⟨k + 1, o, sp⟩ = rowAt l ⟨k, o, sp⟩ := by simp [rowAt]

def rowLoad (P : Program) (t : TypeId) (x : Row) (o : Nat) : Option Value :=
  match P.underlying t, P.info? t with
  | some d, some i => if aggD d then if o + i.size ≤ x.cells.length then some (.agg ((x.cells.drop o).take i.size).toArray) else none else x.cells[o]?
  | _, _ => none
def rowStore (P : Program) (t : TypeId) (x : Row) (o : Nat) (v : Value) : Option Row :=
  match P.info? t with
  | some i => if x.ro = false ∧ v.cells.size = i.size ∧ o + i.size ≤ x.cells.length ∧ v.cells.toList.all one = true then some { x with cells := splice x.cells o v.cells.toList } else none
  | none => none
theorem loadP_eq {a : Addr} : loadP P h t (.pointer (some a)) = (rowAt h a).bind fun x => rowLoad P t x a.off := by
  simp only [loadP, rowLoad]
  cases rowAt h a <;> cases P.underlying t <;> cases P.info? t <;> rfl
theorem storeP_eq {a : Addr} : storeP P h t v (.pointer (some a)) = (rowAt h a).bind fun x => (rowStore P t x a.off v).map fun x' => h.set a.block (some x') := by
  simp only [storeP, rowStore]
  cases rowAt h a <;> cases P.info? t <;> try rfl
  simp only [Option.bind_some]
  split <;> rfl
@[simp] theorem loadP_app : loadP P (h ++ l) t (.pointer (some ⟨h.length + k, o, sp⟩)) = (rowAt l ⟨k, o, sp⟩).bind fun x => rowLoad P t x o := by rw [loadP_eq, rowAt_app]
@[simp] theorem loadP_app0 : loadP P (h ++ l) t (.pointer (some ⟨h.length, o, sp⟩)) = (rowAt l ⟨0, o, sp⟩).bind fun x => rowLoad P t x o := by rw [loadP_eq, rowAt_app0]
@[simp] theorem storeP_app : storeP P (h ++ l) t v (.pointer (some ⟨h.length + k, o, sp⟩)) = (rowAt l ⟨k, o, sp⟩).bind fun x => (rowStore P t x o v).map fun x' => h ++ List.set l k (some x') := by rw [storeP_eq, rowAt_app]; simp only [hset_app]
@[simp] theorem storeP_app0 : storeP P (h ++ l) t v (.pointer (some ⟨h.length, o, sp⟩)) = (rowAt l ⟨0, o, sp⟩).bind fun x => (rowStore P t x o v).map fun x' => h ++ List.set l 0 (some x') := by rw [storeP_eq, rowAt_app0]; simp only [hset_app0]
@[simp] theorem indexAddrP_some {ty : TypeId} {a : Addr} {n c : Nat} {kk : IntKind} {j : Int} : indexAddrP P h ty (.slice (some a) n c) (.int kk j) = match P.underlying ty with
    | some (.slice e) => match P.info? e, rowAt h a with
      | some q, some _ => if 0 ≤ j ∧ j < n then some (.pointer (some (addP a (j.toNat * q.size)))) else none
      | _, _ => none
    | _ => none := by
  unfold indexAddrP
  cases P.underlying ty with
  | none => rfl
  | some d => cases d <;> rfl
@[simp] theorem addP_mk {b : Nat} : addP ⟨b, o, sp⟩ k = ⟨b, o + k, sp⟩ := rfl
theorem gc_grow {v : Value} (hp : plain v = true) : gc h (h ++ l) v = h := gc_app h l v hp
@[simp] theorem gc_bool {b : Bool} : gc h (h ++ l) (.bool b) = h := gc_app h l _ rfl
@[simp] theorem gc_int {k : IntKind} {n : Int} : gc h (h ++ l) (.int k n) = h := gc_app h l _ rfl
theorem gcB {h h' : Hp} (hp : h <+: h') {b : Bool} : gc h h' (.bool b) = h := by obtain ⟨t, rfl⟩ := hp; exact gc_app h t _ rfl
theorem gcB' {h h' l : Hp} (hp : h <+: h') {b : Bool} : gc h (h' ++ l) (.bool b) = h := gcB (hp.trans (List.prefix_append ..))
theorem gcI {h h' : Hp} (hp : h <+: h') {k : IntKind} {b : Int} : gc h h' (.int k b) = h := by obtain ⟨t, rfl⟩ := hp; exact gc_app h t _ rfl
theorem gcI' {h h' l : Hp} (hp : h <+: h') {k : IntKind} {b : Int} : gc h (h' ++ l) (.int k b) = h := gcI (hp.trans (List.prefix_append ..))
end
attribute [simp] firstId keepAt undef evO Oper.looksAt Op.operands Call.operands newP rowLoad rowStore Value.cells one aggD fieldsOf partP splice zeroP
end Go.Pm

/- Rows that are one's own, and what stays as it was. -/
set_option linter.unusedVariables false
set_option linter.unusedSimpArgs false
namespace Go.Pm
/-- The row that a slice lies in. -/
def rowV : Value → Option Nat
  | .slice (some a) _ _ => some a.block
  | _ => none
/-- All rows stay as they were, but r. -/
def Keeps (r : Option Nat) (h h' : Hp) : Prop := h.length ≤ h'.length ∧ ∀ k, k < h.length → r ≠ some k → h'[k]? = h[k]?
section
variable {r : Option Nat} {h h0 h' h1 h2 t : Hp}
theorem Keeps.refl : Keeps r h h := ⟨Nat.le_refl _, fun _ _ _ => rfl⟩
theorem Keeps.app : Keeps r h (h ++ t) := ⟨by simp, fun k hk _ => List.getElem?_append_left hk⟩
theorem Keeps.ofPre (hp : h <+: h') : Keeps r h h' := by obtain ⟨t, rfl⟩ := hp; exact .app
theorem Keeps.trans (k1 : Keeps r h h1) (k2 : Keeps r h1 h2) : Keeps r h h2 := ⟨Nat.le_trans k1.1 k2.1, fun k hk hr => by rw [k2.2 k (Nat.lt_of_lt_of_le hk k1.1) hr, k1.2 k hk hr]⟩
theorem Keeps.set {k : Nat} {x : Option Row} : Keeps (some k) h (h.set k x) := ⟨by simp, fun j _ hr => by rw [List.getElem?_set_ne]; intro e; exact hr (by rw [e])⟩
theorem pre_iff : h0 <+: h ↔ Keeps none h0 h := by
  constructor
  · exact Keeps.ofPre
  · intro ⟨h1, h2⟩
    rw [List.prefix_iff_eq_take]
    apply List.ext_getElem?
    intro k
    rcases Nat.lt_or_ge k h0.length with hk | hk
    · rw [List.getElem?_take, if_pos hk, h2 k hk (by simp)]
    · rw [List.getElem?_eq_none hk, List.getElem?_eq_none (by simp; omega)]
theorem Keeps.pre (k : Keeps r h h') (hp : h0 <+: h) (hr : ∀ j, r = some j → h0.length ≤ j) : h0 <+: h' := by
  rw [pre_iff] at *
  refine ⟨Nat.le_trans hp.1 k.1, fun j hj _ => ?_⟩
  rw [k.2 j (Nat.lt_of_lt_of_le hj hp.1) (fun e => by have := hr j e; omega), hp.2 j hj (by simp)]
/-- What is written is new there. -/
theorem Keeps.weaken (k : Keeps r h h') (hr : ∀ j, r = some j → h.length ≤ j) : h <+: h' := k.pre List.prefix_rfl hr
theorem Keeps.less (k : Keeps none h h') : Keeps r h h' := ⟨k.1, fun j hj _ => k.2 j hj (by simp)⟩
theorem Keeps.only {s : Option Nat} (k : Keeps r h h') (hr : ∀ j, r = some j → s = some j ∨ h.length ≤ j) : Keeps s h h' := ⟨k.1, fun j hj hs => k.2 j hj (fun e => by rcases hr j e with h1 | h1; exact hs h1; omega)⟩
theorem Keeps.then {s : Option Nat} (k1 : Keeps r h h1) (k2 : Keeps s h1 h2) (hs : ∀ j, s = some j → r = some j ∨ h.length ≤ j) : Keeps r h h2 :=
  ⟨Nat.le_trans k1.1 k2.1, fun j hj hr => by
    rw [k2.2 j (Nat.lt_of_lt_of_le hj k1.1) (fun e => by rcases hs j e with h1 | h1; exact hr h1; omega), k1.2 j hj hr]⟩
theorem Sees.keeps {v : Value} {sz : Nat} {els : List (List Value)} (s : Sees h v sz els) (k : Keeps r h h') (hr : ∀ j, r = some j → rowV v ≠ some j) : Sees h' v sz els := by
  obtain ⟨h1, oa, c, h2, h3⟩ := s
  refine ⟨h1, oa, c, h2, ?_⟩
  rcases h3 with h3 | ⟨q, o, x, h4, h5, h6⟩
  · exact .inl h3
  · have hq := (List.getElem?_eq_some_iff.1 h5).1
    exact .inr ⟨q, o, x, h4, by rw [k.2 q hq (fun e => hr q e (by rw [h2, h4]; rfl))]; exact h5, h6⟩
theorem Sees.row_lt {v : Value} {sz : Nat} {els : List (List Value)} (s : Sees h v sz els) {j : Nat} (hj : rowV v = some j) : j < h.length := by
  obtain ⟨_, oa, c, h2, h3⟩ := s
  rcases h3 with ⟨rfl, _, _⟩ | ⟨q, o, x, rfl, h5, _⟩
  · rw [h2] at hj; cases hj
  · rw [h2] at hj; cases hj
    exact (List.getElem?_eq_some_iff.1 h5).1
end

/-- A slice of one's own: rows from b on are one's own. -/
def Own (b : Nat) (h : Hp) (v : Value) (sz : Nat) (els : List (List Value)) : Prop :=
  (∀ e ∈ els, e.length = sz) ∧ ((v = .slice none 0 0 ∧ els = []) ∨ ∃ r rest k, b ≤ r ∧ rest.length = k * sz ∧
    v = .slice (some ⟨r, 0, some ((els.length + k) * sz)⟩) els.length (els.length + k) ∧ h[r]? = some (some ⟨els.flatten ++ rest, sz, false⟩))
section
variable {P : Program} {b sz : Nat} {h h' : Hp} {v x : Value} {els ys : List (List Value)} {r : Option Nat}
theorem Own.nil : Own b h (.slice none 0 0) sz [] := ⟨by simp, .inl ⟨rfl, rfl⟩⟩
theorem Own.sees (o : Own b h v sz els) : Sees h v sz els := by
  obtain ⟨h1, h2⟩ := o
  rcases h2 with ⟨rfl, rfl⟩ | ⟨r, rest, k, hb, hr, rfl, hh⟩
  · exact ⟨h1, none, 0, rfl, .inl ⟨rfl, rfl, rfl⟩⟩
  · have hl : (els.flatten ++ rest).length = (els.length + k) * sz := by rw [List.length_append, flat_len h1, hr, Nat.add_mul]
    refine ⟨h1, _, _, rfl, .inr ⟨r, 0, _, by rw [← hl], hh, rfl, ?_, ?_, by omega⟩⟩
    · show 0 + _ ≤ (els.flatten ++ rest).length
      rw [hl, Nat.add_mul]; omega
    · show ((els.flatten ++ rest).drop 0).take _ = _
      rw [List.drop_zero, List.take_left' (flat_len h1)]
theorem Own.keeps (o : Own b h v sz els) (k : Keeps r h h') (hr : ∀ j, r = some j → rowV v ≠ some j) : Own b h' v sz els := by
  obtain ⟨h1, h2⟩ := o
  refine ⟨h1, ?_⟩
  rcases h2 with h2 | ⟨r', rest, k', hb, hrest, rfl, hh⟩
  · exact .inl h2
  · have hq := (List.getElem?_eq_some_iff.1 hh).1
    exact .inr ⟨r', rest, k', hb, hrest, rfl, by rw [k.2 r' hq (fun e => hr r' e rfl)]; exact hh⟩
theorem Own.app (o : Own b h v sz els) {t : Hp} : Own b (h ++ t) v sz els := o.keeps (r := none) .app (by simp)
theorem Own.pre (o : Own b h v sz els) (hp : h <+: h') : Own b h' v sz els := o.keeps (r := none) (.ofPre hp) (by simp)
theorem Own.low {b' : Nat} (o : Own b h v sz els) (hb : b' ≤ b) : Own b' h v sz els := by
  obtain ⟨h1, h2⟩ := o
  refine ⟨h1, ?_⟩
  rcases h2 with h2 | ⟨r', rest, k', hb', h3⟩
  · exact .inl h2
  · exact .inr ⟨r', rest, k', by omega, h3⟩
theorem Own.row_ge (o : Own b h v sz els) {j : Nat} (hj : rowV v = some j) : b ≤ j := by
  obtain ⟨h1, h2⟩ := o
  rcases h2 with ⟨rfl, _⟩ | ⟨r', rest, k', hb', _, rfl, _⟩
  · cases hj
  · cases hj; exact hb'
theorem Own.row_lt (o : Own b h v sz els) {j : Nat} (hj : rowV v = some j) : j < h.length := o.sees.row_lt hj
theorem Own.shape (o : Own b h v sz els) : ∃ oa c, v = .slice oa els.length c := o.sees.shape
/-- A row that has just been made. -/
theorem Own.fresh {t : Hp} (hb : b ≤ h.length) (hl : ∀ e ∈ els, e.length = sz) {n : Nat} (hn : n = els.length * sz) : Own b (h ++ some ⟨els.flatten, sz, false⟩ :: t) (.slice (some ⟨h.length, 0, some n⟩) els.length els.length) sz els := by
  subst hn
  refine ⟨hl, .inr ⟨h.length, [], 0, hb, by simp, by simp, ?_⟩⟩
  rw [List.getElem?_append_right (Nat.le_refl _), Nat.sub_self, List.append_nil]; rfl
theorem Own.inv (o : Own b h v sz els) : (v = .slice none 0 0 ∧ els = []) ∨ ∃ r rest k, b ≤ r ∧ rest.length = k * sz ∧
    v = .slice (some ⟨r, 0, some ((els.length + k) * sz)⟩) els.length (els.length + k) ∧ h[r]? = some (some ⟨els.flatten ++ rest, sz, false⟩) := o.2

theorem seen_of (s : Sees h x sz ys) : seenP h sz x = some ys.flatten := by
  obtain ⟨h1, oa, c, rfl, h3⟩ := s
  rcases h3 with ⟨rfl, rfl, rfl⟩ | ⟨r, o, y, rfl, h5, h6, h7, h8, h9⟩
  · rfl
  · have h5' : h[r]? = some (some y) := h5
    simp only [seenP, rowAt, h5', if_true]
    rw [if_pos ⟨h7, h6⟩, h8]
theorem set_app_at (a b : List Value) (k : Nat) (v : Value) : (a ++ b).set (a.length + k) v = a ++ b.set k v := by
  have := List.set_append_right (s := a) (t := b) (i := a.length + k) (x := v) (by omega)
  rwa [Nat.add_sub_cancel_left] at this
theorem splice_at : ∀ (vs a b : List Value) (k : Nat), splice (a ++ b) (a.length + k) vs = a ++ splice b k vs
  | [], a, b, k => rfl
  | v :: vs, a, b, k => by rw [splice, splice, set_app_at, Nat.add_assoc, splice_at]
theorem splice_front : ∀ (vs b : List Value), vs.length ≤ b.length → splice b 0 vs = vs ++ b.drop vs.length
  | [], b, h => by simp [splice]
  | v :: vs, [], h => by simp at h
  | v :: vs, b0 :: b, h => by
    have h2 := splice_at vs [v] b 0
    rw [splice_front vs b (by simpa using h)] at h2
    exact h2
theorem splice_in {vs a b : List Value} (h : vs.length ≤ b.length) : splice (a ++ b) a.length vs = a ++ (vs ++ b.drop vs.length) := by
  have := splice_at vs a b 0
  rw [Nat.add_zero] at this
  rw [this, splice_front vs b h]
theorem zero_some {t : TypeId} {q : TypeInfo} {z : Value} (hq : P.info? t = some q) (hz : q.zero = some z) (hp : plain z = true) (hs : z.cells.size = q.size) : zeroP P t = some z := by
  simp only [zeroP, hq, hz]
  rw [if_pos ⟨hp, hs⟩]
/-- append to a slice of one's own. -/
theorem Own.append (o : Own b h v sz els) {ty e : TypeId} {q : TypeInfo} {z : Value} (hu : P.underlying ty = some (.slice e)) (hq : P.info? e = some q) (hz : zeroP P e = some z) (hsz : q.size = sz) (hpos : 0 < sz) (hby : 0 < q.bytes)
    (s : Sees h x sz ys) (h1 : ys.flatten.all one = true) (hb : b ≤ h.length) (hlim : (els.length + ys.length) * q.bytes ≤ 2 ^ 47) :
    ∃ v' h', appendP P h ty v x = some (v', h') ∧ Own b h' v' sz (els ++ ys) ∧ Keeps (rowV v) h h' ∧ (rowV v' = rowV v ∨ ∃ r, rowV v' = some r ∧ h.length ≤ r) := by
  have hel := o.1
  have hyl := s.1
  have hall : ∀ e ∈ els ++ ys, e.length = sz := fun e he => by rcases List.mem_append.1 he with h | h; exact hel e h; exact hyl e h
  have hlen : lenP x = some ys.length := by obtain ⟨oa, c, rfl⟩ := s.shape; rfl
  have hse : seenP h q.size x = some ys.flatten := by rw [hsz]; exact seen_of s
  have hfl := flat_len hel
  have hfy := flat_len hyl
  rcases o.2 with ⟨rfl, rfl⟩ | ⟨r, rest, k, hbr, hrest, rfl, hh⟩
  · rcases Nat.eq_zero_or_pos ys.length with h0 | h0
    · have : ys = [] := List.eq_nil_of_length_eq_zero h0
      subst this
      refine ⟨.slice none 0 0, h, ?_, .nil, .refl, .inl rfl⟩
      simp only [appendP, hu, hq, hz, hlen, hse]
      rw [if_pos ⟨by omega, hby, h1⟩, if_pos (by simp)]
    · refine ⟨.slice (some ⟨h.length, 0, some ys.flatten.length⟩) ys.length ys.length, h ++ [some ⟨ys.flatten, q.size, false⟩], ?_, ?_, .app, .inr ⟨_, rfl, Nat.le_refl _⟩⟩
      · simp only [appendP, hu, hq, hz, hlen, hse]
        rw [if_pos ⟨by omega, hby, h1⟩, if_neg (by omega), if_pos (by simpa using hlim)]
        rfl
      · rw [hsz]
        exact Own.fresh hb hyl hfy
  · have hrl : (els.flatten ++ rest).length = (els.length + k) * sz := by rw [List.length_append, hfl, hrest, Nat.add_mul]
    have hrow : rowAt h ⟨r, 0, some ((els.length + k) * sz)⟩ = some ⟨els.flatten ++ rest, sz, false⟩ := by
      simp only [rowAt, hh, hrl, if_true]
    have h2 : (els.length + k) * sz = els.length * sz + k * sz := Nat.add_mul ..
    by_cases hc : els.length + ys.length ≤ els.length + k
    · have hyk : ys.length * sz ≤ k * sz := Nat.mul_le_mul_right _ (by omega)
      have hle : ys.flatten.length ≤ rest.length := by rw [hfy, hrest]; exact hyk
      have hsp : splice (els.flatten ++ rest) (els.length * sz) ys.flatten = (els ++ ys).flatten ++ rest.drop ys.flatten.length := by
        have := splice_in (a := els.flatten) hle
        rw [hfl] at this
        rw [this, List.flatten_append, List.append_assoc]
      refine ⟨.slice (some ⟨r, 0, some ((els.length + k) * sz)⟩) (els.length + ys.length) (els.length + k), h.set r (some ⟨splice (els.flatten ++ rest) (els.length * sz) ys.flatten, sz, false⟩), ?_, ?_, .set, .inl rfl⟩
      · simp only [appendP, hu, hq, hz, hlen, hse, hrow]
        rw [if_pos ⟨by omega, hby, h1⟩, if_pos ⟨trivial, hsz.symm, by rw [hsz, hrl]; omega, hlim⟩, if_pos hc, hsz]
        simp
      · refine ⟨hall, .inr ⟨r, rest.drop ys.flatten.length, k - ys.length, hbr, ?_, ?_, ?_⟩⟩
        · rw [List.length_drop, hrest, hfy, Nat.sub_mul]
        · rw [List.length_append, show els.length + ys.length + (k - ys.length) = els.length + k by omega]
        · have hq := (List.getElem?_eq_some_iff.1 hh).1
          rw [List.getElem?_set_self hq, hsp]
    · by_cases hk : k = 0
      · subst hk
        have hrest0 : rest = [] := List.eq_nil_of_length_eq_zero (by rw [hrest]; simp)
        subst hrest0
        refine ⟨.slice (some ⟨r, 0, some (els.flatten ++ [] ++ ys.flatten).length⟩) (els.length + ys.length) (els.length + ys.length), h.set r (some ⟨els.flatten ++ [] ++ ys.flatten, sz, false⟩), ?_, ?_, .set, .inl rfl⟩
        · simp only [appendP, hu, hq, hz, hlen, hse, hrow]
          rw [if_pos ⟨by omega, hby, h1⟩, if_pos ⟨trivial, hsz.symm, by rw [hsz, hrl]; omega, hlim⟩, if_neg hc, if_pos ⟨trivial, by rw [hsz, hrl]; simp⟩]
        · refine ⟨hall, .inr ⟨r, [], 0, hbr, by simp, ?_, ?_⟩⟩
          · rw [List.append_nil, List.length_append, List.length_append, hfl, hfy, Nat.add_zero, Nat.add_mul]
          · have hq := (List.getElem?_eq_some_iff.1 hh).1
            rw [List.getElem?_set_self hq]
            simp
      · have hkp : 0 < k * sz := Nat.mul_pos (by omega) hpos
        refine ⟨.slice (some ⟨h.length, 0, some (els.flatten ++ ys.flatten).length⟩) (els.length + ys.length) (els.length + ys.length), h.set r none ++ [some ⟨els.flatten ++ ys.flatten, sz, false⟩], ?_, ?_, Keeps.set.trans .app, .inr ⟨_, rfl, Nat.le_refl _⟩⟩
        · simp only [appendP, hu, hq, hz, hlen, hse, hrow]
          rw [if_pos ⟨by omega, hby, h1⟩, if_pos ⟨trivial, hsz.symm, by rw [hsz, hrl]; omega, hlim⟩, if_neg hc, if_neg (by rw [hsz, hrl, h2]; omega)]
          simp only [newP, List.length_set, hsz, List.drop_zero]
          rw [List.take_left' hfl]
        · have := Own.fresh (b := b) (h := h.set r none) (t := []) (els := els ++ ys) (sz := sz) (n := (els.flatten ++ ys.flatten).length) (by rw [List.length_set]; exact hb) hall (by rw [List.length_append, List.length_append, hfl, hfy, Nat.add_mul])
          rw [List.length_set, List.flatten_append] at this
          rw [← List.length_append (as := els) (bs := ys)]
          exact this
theorem splice_seg {vs a : List Value} {c : List Value} (m : List Value) (hm : m.length = vs.length) : splice (a ++ (m ++ c)) a.length vs = a ++ (vs ++ c) := by
  have := splice_in (vs := vs) (a := a) (b := m ++ c) (by rw [List.length_append]; omega)
  rw [this, ← hm, List.drop_left]
theorem flat_split {els : List (List Value)} {i : Nat} {e : List Value} (h : els[i]? = some e) : els.flatten = (els.take i).flatten ++ (e ++ (els.drop (i + 1)).flatten) := by
  have hi := (List.getElem?_eq_some_iff.1 h).1
  have : els = els.take i ++ e :: els.drop (i + 1) := by
    have h1 := List.drop_eq_getElem_cons hi
    rw [List.getElem?_eq_getElem hi] at h
    cases h
    rw [← h1, List.take_append_drop]
  conv => lhs; rw [this]
  rw [List.flatten_append, List.flatten_cons]
theorem set_split {α : Type} {xs : List α} {i : Nat} {e : α} (hi : i < xs.length) : xs.set i e = xs.take i ++ e :: xs.drop (i + 1) := by
  rw [List.set_eq_take_append_cons_drop, if_pos hi]
/-- Cells within an element of one's own slice are written. -/
theorem Own.store (o : Own b h v sz els) {t : TypeId} {q : TypeInfo} {w : Value} {i : Nat} {e l m c : List Value} (hq : P.info? t = some q) (he : els[i]? = some e) (hs : e = l ++ (m ++ c)) (hm : m.length = q.size) (hw : w.cells.size = q.size) (ho : w.cells.toList.all one = true) :
    ∃ h', storeP P h t w (.pointer (some (addP (base v) (i * sz + l.length)))) = some h' ∧ Own b h' v sz (els.set i (l ++ (w.cells.toList ++ c))) ∧ Keeps (rowV v) h h' := by
  have hel := o.1
  have hi := (List.getElem?_eq_some_iff.1 he).1
  have hez := hel e (List.mem_of_getElem? he)
  rcases o.2 with ⟨rfl, rfl⟩ | ⟨r, rest, k, hbr, hrest, rfl, hh⟩
  · simp at hi
  · have hfl := flat_len hel
    have hrl : (els.flatten ++ rest).length = (els.length + k) * sz := by rw [List.length_append, hfl, hrest, Nat.add_mul]
    have hrow : rowAt h ⟨r, i * sz + l.length, some ((els.length + k) * sz)⟩ = some ⟨els.flatten ++ rest, sz, false⟩ := by
      simp only [rowAt, hh, hrl, if_true]
    have hti : (els.take i).flatten.length = i * sz := by
      rw [flat_len (sz := sz) (fun e he => hel e (List.mem_of_mem_take he)), List.length_take, Nat.min_eq_left (by omega)]
    have hnew : splice (els.flatten ++ rest) (i * sz + l.length) w.cells.toList = (els.set i (l ++ (w.cells.toList ++ c))).flatten ++ rest := by
      rw [flat_split he, hs, set_split hi]
      have := splice_seg (vs := w.cells.toList) (a := (els.take i).flatten ++ l) (c := c ++ ((els.drop (i + 1)).flatten ++ rest)) m (by rw [hm, Array.length_toList, hw])
      rw [List.length_append, hti] at this
      simp only [List.append_assoc, List.flatten_append, List.flatten_cons] at this ⊢
      exact this
    have hle : (i + 1) * sz ≤ (els.length + k) * sz := Nat.mul_le_mul_right _ (by omega)
    rw [Nat.succ_mul] at hle
    have hez2 : l.length + (q.size + c.length) = sz := by rw [← hez, hs, List.length_append, List.length_append, hm]
    refine ⟨h.set r (some ⟨splice (els.flatten ++ rest) (i * sz + l.length) w.cells.toList, sz, false⟩), ?_, ?_, .set⟩
    · simp only [storeP, base, addP, Nat.zero_add, hrow, hq]
      rw [if_pos ⟨trivial, hw, by rw [hrl]; omega, ho⟩]
    · refine ⟨?_, .inr ⟨r, rest, k, hbr, hrest, by rw [List.length_set], ?_⟩⟩
      · intro e' he'
        rcases List.mem_or_eq_of_mem_set he' with h1 | h1
        · exact hel e' h1
        · rw [h1, List.length_append, List.length_append]
          have : w.cells.toList.length = q.size := by rw [Array.length_toList, hw]
          rw [this]; exact hez2
      · have hq := (List.getElem?_eq_some_iff.1 hh).1
        rw [List.getElem?_set_self hq, hnew]
/-- The front of one's own slice. -/
theorem Own.front (o : Own b h v sz els) {ty e : TypeId} (hu : P.underlying ty = some (.slice e)) (hq : (P.info? e).map (·.size) = some sz) {k : IntKind} {j : Int} (h0 : 0 ≤ j) (h1 : j ≤ els.length) :
    ∃ v', sliceP P h ty v none (some (.int k j)) = some v' ∧ Own b h v' sz (els.take j.toNat) ∧ rowV v' = rowV v := by
  have hel := o.1
  obtain ⟨q, hq, hz⟩ := Option.map_eq_some_iff.1 hq
  rcases o.2 with ⟨rfl, rfl⟩ | ⟨r, rest, kk, hbr, hrest, rfl, hh⟩
  · have : j = 0 := by simp at h1; omega
    subst this
    exact ⟨.slice none 0 0, by simp [sliceP, hu, hq, hiP, loP, asI], .nil, rfl⟩
  · have hfl := flat_len hel
    have hrl : (els.flatten ++ rest).length = (els.length + kk) * sz := by rw [List.length_append, hfl, hrest, Nat.add_mul]
    have hj : j.toNat ≤ els.length := by omega
    have hlen : (els.take j.toNat).length = j.toNat := by simp; omega
    have htk : ∀ e ∈ els.take j.toNat, e.length = sz := fun e he => hel e (List.mem_of_mem_take he)
    have hdk : ∀ e ∈ els.drop j.toNat, e.length = sz := fun e he => hel e (List.mem_of_mem_drop he)
    have hdl : (els.drop j.toNat).length = els.length - j.toNat := by simp
    refine ⟨.slice (some ⟨r, 0, some ((els.length + kk) * sz)⟩) j.toNat (els.length + kk), ?_, ⟨htk, .inr ⟨r, (els.drop j.toNat).flatten ++ rest, els.length + kk - j.toNat, hbr, ?_, ?_, ?_⟩⟩, rfl⟩
    · have hrow : rowAt h ⟨r, 0, some ((els.length + kk) * sz)⟩ = some ⟨els.flatten ++ rest, sz, false⟩ := by
        simp only [rowAt, hh, hrl, if_true]
      simp only [sliceP, hu, hq, hrow, hiP, loP, asI]
      rw [if_pos ⟨by omega, h0, by omega, hz.symm⟩]
      simp [addP]
    · rw [List.length_append, flat_len hdk, hdl, hrest, ← Nat.add_mul]
      congr 1
      omega
    · rw [hlen, show j.toNat + (els.length + kk - j.toNat) = els.length + kk by omega]
    · rw [hh, ← List.append_assoc, ← List.flatten_append, List.take_append_drop]
/-- The back of a slice. -/
theorem Sees.back (s : Sees h v sz els) {ty e : TypeId} (hu : P.underlying ty = some (.slice e)) (hq : (P.info? e).map (·.size) = some sz) {k : IntKind} {j : Int} (h0 : 0 ≤ j) (h1 : j ≤ els.length) :
    ∃ v', sliceP P h ty v (some (.int k j)) none = some v' ∧ Sees h v' sz (els.drop j.toNat) ∧ rowV v' = rowV v := by
  obtain ⟨h2, oa, c, rfl, h3⟩ := s
  obtain ⟨q, hq, hz⟩ := Option.map_eq_some_iff.1 hq
  rcases h3 with ⟨rfl, rfl, rfl⟩ | ⟨r, o, x, rfl, h5, h6, h7, h8, h9⟩
  · have : j = 0 := by simp at h1; omega
    subst this
    exact ⟨.slice none 0 0, by simp [sliceP, hu, hq, hiP, loP, asI], ⟨by simp, none, 0, rfl, .inl ⟨rfl, rfl, rfl⟩⟩, rfl⟩
  · obtain ⟨m, rfl⟩ : ∃ m : Nat, j = m := ⟨j.toNat, by omega⟩
    have hj : m ≤ els.length := by omega
    have hm : m * sz ≤ els.length * sz := Nat.mul_le_mul_right _ hj
    have hlen : (els.drop m).length = els.length - m := by simp
    refine ⟨.slice (some ⟨r, o + m * sz, some x.cells.length⟩) (els.length - m) (c - m), ?_, ⟨fun e he => h2 e (List.mem_of_mem_drop he), _, _, by rw [Int.toNat_natCast, hlen], .inr ⟨r, o + m * sz, x, rfl, h5, h6, ?_, ?_, ?_⟩⟩, rfl⟩
    · have h5' : h[r]? = some (some x) := h5
      simp only [sliceP, hu, hq, rowAt, h5', if_true, hiP, loP, asI]
      rw [if_pos ⟨by omega, by omega, by omega, by rw [h6, hz]⟩]
      simp [addP, hz]
    · rw [Int.toNat_natCast, hlen, Nat.sub_mul]; omega
    · rw [Int.toNat_natCast, hlen, Nat.sub_mul]
      have h10 := congrArg (List.drop (m * sz)) h8
      rw [List.drop_take, List.drop_drop] at h10
      rw [h10]
      have := flat_take (sz := sz) h2 m
      have h11 : els.flatten = (els.take m).flatten ++ (els.drop m).flatten := by rw [← List.flatten_append, List.take_append_drop]
      have h12 : (els.take m).flatten.length = m * sz := by
        rw [flat_len (sz := sz) (fun e he => h2 e (List.mem_of_mem_take he)), List.length_take, Nat.min_eq_left hj]
      conv => lhs; rw [h11]
      rw [List.drop_left' h12]
    · rw [Int.toNat_natCast, hlen]; omega
theorem gc_cases (h h' : Hp) (v : Value) : gc h h' v = h' ∨ (plain v = true ∧ gc h h' v = h) := by
  unfold gc
  split
  · rename_i hp; exact .inr ⟨hp.1, rfl⟩
  · exact .inl rfl
/-- What a function returns that it has made itself. -/
theorem Own.ret (o : Own b h' v sz els) (hb : h.length ≤ b) (hp : h <+: h') : h <+: gc h h' v ∧ Own b (gc h h' v) v sz els := by
  rcases gc_cases h h' v with hg | ⟨hpl, hg⟩
  · rw [hg]; exact ⟨hp, o⟩
  · rw [hg]
    refine ⟨List.prefix_rfl, o.1, .inl ?_⟩
    rcases o.2 with h2 | ⟨r', rest, k', _, _, rfl, _⟩
    · exact h2
    · cases hpl
end
@[simp] theorem newOk_app {h l m : Hp} : newOk (h ++ l) (h ++ m) ↔ newOk l m := by
  unfold newOk
  rw [List.prefix_append_right_inj, List.length_append, List.drop_append, List.drop_eq_nil_of_le (by omega), List.nil_append, show h.length + l.length - h.length = l.length by omega]
@[simp] theorem newOk_cons {a : Option Row} {l m : Hp} : newOk (a :: l) (a :: m) ↔ newOk l m := by
  unfold newOk
  rw [List.cons_prefix_cons, List.length_cons, List.drop_succ_cons]
  simp
@[simp] theorem newOk_nil {cs : List Value} {sz : Nat} {m : Hp} : newOk [] (some ⟨cs, sz, false⟩ :: m) ↔ newOk [] m := by
  unfold newOk
  simp
/-- A call in a region that draws its order, at a heap that is told. -/
theorem CH_at {P : Program} {G : FuncId → GI} {N : Nat} {K : GI} {Q : Ex → St → Prop} {k : Kont} {ops : Array Oper} {l tl : List Oper} {d : Option Tmp} {s : Slots} {h h1 : Hp} {g : FuncId} {args : List Value} {v : Value} (r : Ret P G g args h v h1) :
    CH P G N K Q g args d ops l tl ⟨s, h⟩ k = (newOk h h1 ∧ RH P G N K Q ops l tl ⟨put s d v, h1⟩ k) := CH_ret (st := ⟨s, h⟩) r
end Go.Pm
