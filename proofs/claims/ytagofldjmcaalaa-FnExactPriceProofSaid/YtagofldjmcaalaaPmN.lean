/- Runs of the small machine without a count of steps: rules for proofs. -/
import Derived.Test.YtagofldjmcaalaaPmJ
set_option linter.unusedVariables false
set_option linter.unusedSimpArgs false
namespace Go.Pm
variable {P : Program} {G : FuncId → GI}

/-! ### more steps do no harm -/
structure Mono (P : Program) (G : FuncId → GI) (f : Nat) : Prop where
  code : ∀ N K c st r, exec P G f N K c st = some r → exec P G (f + 1) N K c st = some r
  list : ∀ N ops l st r, execL P G f N ops l st = some r → execL P G (f + 1) N ops l st = some r
  oper : ∀ o st r, execO P G f o st = some r → execO P G (f + 1) o st = some r
  call : ∀ g args h r, callP P G f g args h = some r → callP P G (f + 1) g args h = some r

theorem runH_mono {F F' : Oper → St → Option (Value × Hp)} (hF : ∀ o st r, F o st = some r → F' o st = some r) (N : Nat) (ops : Array Oper) : ∀ (l : List Oper) (st st' : St), runH F N ops l st = some st' → runH F' N ops l st = some st'
  | [], st, st', e => e
  | o :: r, st, st', e => by
    simp only [runH] at e ⊢
    split at e
    · rename_i hd
      rw [if_pos hd]
      split at e
      · rename_i hw
        exact runH_mono hF N ops r _ _ e
      · rename_i hw
        split at e
        · rename_i v h' ho
          simp only [hF _ _ _ ho]
          split at e
          · rename_i hn; rw [if_pos hn]; exact runH_mono hF N ops r _ _ e
          · cases e
        · cases e
      · cases e
    · cases e

theorem mono : ∀ f, Mono P G f
  | 0 => ⟨fun _ _ _ _ _ e => by simp [exec] at e, fun _ _ _ _ _ e => by simp [execL] at e, fun _ _ _ e => by simp [execO] at e, fun _ _ _ _ e => by simp [callP] at e⟩
  | f + 1 => by
    have ih := mono f
    refine ⟨fun N K c st r e => ?_, fun N ops l st r e => ?_, fun o st r e => ?_, fun g args h r e => ?_⟩
    · cases c with
      | region id ops draw =>
        rw [exec] at e ⊢
        split at e
        · rename_i hd
          rw [if_pos hd]
          split at e
          · rename_i n hn
            split at e
            · rename_i st1 h1
              simp only [runH_mono (fun o st r h => ih.oper o st r h) _ _ _ _ _ h1]
              obtain ⟨st2, h2, rfl⟩ := Option.map_eq_some_iff.1 e
              rw [ih.list _ _ _ _ _ h2]; rfl
            · cases e
          · cases e
        · rename_i hd
          rw [if_neg hd]
          obtain ⟨st2, h2, rfl⟩ := Option.map_eq_some_iff.1 e
          rw [ih.list _ _ _ _ _ h2]; rfl
      | seq a b =>
        rw [exec] at e ⊢
        cases h1 : exec P G f N K a st with
        | none => rw [h1] at e; cases e
        | some r1 =>
          rw [h1] at e
          rw [ih.code _ _ _ _ _ h1]
          obtain ⟨ex, st1⟩ := r1
          cases ex with
          | normal => exact ih.code _ _ _ _ _ e
          | _ => exact e
      | cond c a b =>
        rw [exec] at e ⊢
        split at e
        · split at e
          · rename_i ht; rw [if_pos ht]; exact ih.code _ _ _ _ _ e
          · rename_i ht; rw [if_neg ht]; exact ih.code _ _ _ _ _ e
        · cases e
      | block id b =>
        rw [exec] at e ⊢
        cases h1 : exec P G f N K b st with
        | none => rw [h1] at e; cases e
        | some r1 =>
          rw [h1] at e
          rw [ih.code _ _ _ _ _ h1]
          exact e
      | loop b =>
        rw [exec] at e ⊢
        cases h1 : exec P G f N K b { st with s := keep (keepAt K.keep (firstId b)) st.s } with
        | none => rw [h1] at e; cases e
        | some r1 =>
          rw [h1] at e
          rw [ih.code _ _ _ _ _ h1]
          obtain ⟨ex, st1⟩ := r1
          cases ex with
          | normal => exact ih.code _ _ _ _ _ e
          | _ => exact e
      | skip => rw [exec] at e ⊢; exact e
      | exit id => rw [exec] at e ⊢; exact e
      | ret => rw [exec] at e ⊢; exact e
      | rangeFunc => simp only [exec] at e; cases e
      | scope => simp only [exec] at e; cases e
      | label => simp only [exec] at e; cases e
      | goto => simp only [exec] at e; cases e
      | refuse => simp only [exec] at e; cases e
    · cases l with
      | nil => rw [execL] at e ⊢; exact e
      | cons o l =>
        rw [execL] at e ⊢
        split at e
        · rename_i hd
          rw [if_pos hd]
          split at e
          · exact ih.list _ _ _ _ _ e
          · split at e
            · rename_i v h' ho
              simp only [ih.oper _ _ _ ho]
              exact ih.list _ _ _ _ _ e
            · cases e
          · cases e
        · cases e
    · rw [execO] at e ⊢
      cases ho : o.op with
      | call c =>
        rw [ho] at e
        simp only at e ⊢
        split at e
        · split at e
          · exact ih.call _ _ _ _ e
          · cases e
        · exact e
        · cases e
      | _ => rw [ho] at e; exact e
    · rw [callP] at e ⊢
      split at e
      · split at e
        · rename_i hle
          rw [if_pos hle]
          split at e
          · cases e
          · rename_i ex st1 hne h1
            rw [ih.code _ _ _ _ _ h1]
            cases ex with
            | exit i => exact absurd rfl (hne i)
            | _ => exact e
          · cases e
        · cases e
      · cases e

theorem code_le {f f' : Nat} (h : f ≤ f') {N : Nat} {K : GI} {c : Code} {st : St} {r} (e : exec P G f N K c st = some r) : exec P G f' N K c st = some r := by
  induction h with
  | refl => exact e
  | step _ ih => exact (mono _).code _ _ _ _ _ ih
theorem list_le {f f' : Nat} (h : f ≤ f') {N : Nat} {ops : Array Oper} {l : List Oper} {st : St} {r} (e : execL P G f N ops l st = some r) : execL P G f' N ops l st = some r := by
  induction h with
  | refl => exact e
  | step _ ih => exact (mono _).list _ _ _ _ _ ih
theorem oper_le {f f' : Nat} (h : f ≤ f') {o : Oper} {st : St} {r} (e : execO P G f o st = some r) : execO P G f' o st = some r := by
  induction h with
  | refl => exact e
  | step _ ih => exact (mono _).oper _ _ _ ih
theorem call_le {f f' : Nat} (h : f ≤ f') {g : FuncId} {args : List Value} {h0 : Hp} {r} (e : callP P G f g args h0 = some r) : callP P G f' g args h0 = some r := by
  induction h with
  | refl => exact e
  | step _ ih => exact (mono _).call _ _ _ _ ih

/-! ### runs -/
def RunsC (P : Program) (G : FuncId → GI) (g : FuncId) (args : List Value) (h : Hp) (K : Value → Hp → Prop) : Prop :=
  ∃ f v h', callP P G f g args h = some (v, h') ∧ K v h'

def onR : Option (Value × Hp) → (Value → Hp → Prop) → Prop
  | some x, K => K x.1 x.2
  | none, _ => False
theorem onR.mono {x : Option (Value × Hp)} {K K' : Value → Hp → Prop} (r : onR x K) (hk : ∀ v h', K v h' → K' v h') : onR x K' := by
  cases x with
  | none => exact r.elim
  | some y => exact hk _ _ r
theorem onR.some {x : Option (Value × Hp)} {K : Value → Hp → Prop} (r : onR x K) : ∃ v h', x = some (v, h') ∧ K v h' := by
  cases x with
  | none => exact r.elim
  | some y => exact ⟨y.1, y.2, rfl, r⟩
def onW : Option Bool → (Unit → Prop) → (Unit → Prop) → Prop
  | some true, a, _ => a ()
  | some false, _, b => b ()
  | none, _, _ => False
theorem onW.cases {x : Option Bool} {a b : Unit → Prop} (r : onW x a b) : (x = some true ∧ a ()) ∨ (x = some false ∧ b ()) := by
  cases x with
  | none => exact r.elim
  | some t => cases t with
    | true => exact .inl ⟨rfl, r⟩
    | false => exact .inr ⟨rfl, r⟩
def onB : Option Value → (Unit → Prop) → (Unit → Prop) → Prop
  | some (.bool true), a, _ => a ()
  | some (.bool false), _, b => b ()
  | _, _, _ => False
theorem onB.cases {x : Option Value} {a b : Unit → Prop} (r : onB x a b) : (x = some (.bool true) ∧ a ()) ∨ (x = some (.bool false) ∧ b ()) := by
  unfold onB at r
  split at r
  · exact .inl ⟨rfl, r⟩
  · exact .inr ⟨rfl, r⟩
  · exact r.elim
def onF : Option Value → Option (List Value) → (FuncId → List Value → Prop) → Prop
  | some (.func (.func g) first cap), some args, K => K g (first.toList ++ args ++ cap.toList)
  | _, _, _ => False
theorem onF.some {x : Option Value} {y : Option (List Value)} {K : FuncId → List Value → Prop} (r : onF x y K) : ∃ g first cap args, x = some (.func (.func g) first cap) ∧ y = some args ∧ K g (first.toList ++ args ++ cap.toList) := by
  unfold onF at r
  split at r
  · exact ⟨_, _, _, _, rfl, rfl, r⟩
  · exact r.elim
def onN : Ex → (Unit → Prop) → (Unit → Prop) → Prop
  | .normal, a, _ => a ()
  | .exit _, _, b => b ()
  | .ret, _, b => b ()
def onV : Option Value → (Value → Prop) → Prop
  | some v, K => K v
  | none, _ => False
def onX : Ex → (Unit → Prop) → Prop
  | .exit _, _ => False
  | .normal, a => a ()
  | .ret, a => a ()
def onH : Option Nat → (Nat → Prop) → Prop
  | some n, K => K n
  | none, _ => False
theorem onH.some {x : Option Nat} {K : Nat → Prop} (r : onH x K) : ∃ n, x = some n ∧ K n := by
  cases x with
  | none => exact r.elim
  | some n => exact ⟨n, rfl, r⟩

def RunsO (P : Program) (G : FuncId → GI) (op : Op) (s : Slots) (h : Hp) (K : Value → Hp → Prop) : Prop :=
  match op with
  | .call c => match c.callee with
    | .value x => onF (ev s x) (evs s c.args.toList) fun g args => RunsC P G g args h K
    | .builtin b => onR ((evs s c.args.toList).bind fun args => builtinP P h b c.argTypes.toList args) K
    | .invoke _ _ => False
  | op => onR (op1 P s h op) K

def RunsL (P : Program) (G : FuncId → GI) (N : Nat) (ops : Array Oper) : List Oper → St → (St → Prop) → Prop
  | [], st, Q => Q st
  | o :: r, st, Q => dstOk N o.dst = true ∧ onW (wantP ops st.s o)
    (fun _ => RunsO P G o.op st.s st.h fun v h' => RunsL P G N ops r ⟨put st.s o.dst v, h'⟩ Q)
    (fun _ => RunsL P G N ops r ⟨put st.s o.dst undef, st.h⟩ Q)

def RunsH (P : Program) (G : FuncId → GI) (N : Nat) (ops : Array Oper) : List Oper → St → (St → Prop) → Prop
  | [], st, Q => Q st
  | o :: r, st, Q => dstOk N o.dst = true ∧ onW (wantP ops (keep (o.looksAt ops) st.s) o)
    (fun _ => RunsO P G o.op (keep (o.looksAt ops) st.s) st.h fun v h' => newOk st.h h' ∧ RunsH P G N ops r ⟨put st.s o.dst v, h'⟩ Q)
    (fun _ => RunsH P G N ops r ⟨put st.s o.dst undef, st.h⟩ Q)

def unblock (id : Nat) : Ex → Ex
  | .exit i => if i = id then .normal else .exit i
  | .normal => .normal
  | .ret => .ret

/-- The least that a loop's body closes. -/
def LoopR (keepK : List Nat) (B : St → (Ex → St → Prop) → Prop) (Q : Ex → St → Prop) (st : St) : Prop :=
  ∀ X : St → Prop, (∀ st, B ⟨keep keepK st.s, st.h⟩ (fun ex st' => onN ex (fun _ => X st') (fun _ => Q ex st')) → X st) → X st

def Runs (P : Program) (G : FuncId → GI) (N : Nat) (K : GI) : Code → St → (Ex → St → Prop) → Prop
  | .skip, st, Q => Q .normal st
  | .region id ops false, st, Q => RunsL P G N ops ops.toList st fun st' => Q .normal st'
  | .region id ops true, st, Q => onH (headOf K.heads id) fun n => RunsH P G N ops (ops.toList.take n) st fun st1 => RunsL P G N ops (ops.toList.drop n) st1 fun st' => Q .normal st'
  | .seq a b, st, Q => Runs P G N K a st fun ex st' => onN ex (fun _ => Runs P G N K b st' Q) (fun _ => Q ex st')
  | .cond c a b, st, Q => onB (ev st.s c) (fun _ => Runs P G N K a st Q) (fun _ => Runs P G N K b st Q)
  | .block id b, st, Q => Runs P G N K b st fun ex st' => Q (unblock id ex) st'
  | .loop b, st, Q => LoopR (keepAt K.keep (firstId b)) (fun st Q => Runs P G N K b st Q) Q st
  | .exit id, st, Q => Q (.exit id) st
  | .ret, st, Q => Q .ret st
  | _, _, _ => False

theorem RunsC.mono {g : FuncId} {args : List Value} {h : Hp} {K K' : Value → Hp → Prop} (r : RunsC P G g args h K) (hk : ∀ v h', K v h' → K' v h') : RunsC P G g args h K' := by
  obtain ⟨f, v, h', e, k⟩ := r
  exact ⟨f, v, h', e, hk _ _ k⟩
theorem RunsO.mono {op : Op} {s : Slots} {h : Hp} {K K' : Value → Hp → Prop} (r : RunsO P G op s h K) (hk : ∀ v h', K v h' → K' v h') : RunsO P G op s h K' := by
  cases op with
  | call c =>
    simp only [RunsO] at r ⊢
    split at r
    · obtain ⟨g, first, cap, args, h1, h2, r⟩ := r.some
      rw [h1, h2]
      exact RunsC.mono r hk
    · exact r.mono hk
    · exact r.elim
  | _ => simp only [RunsO] at r ⊢; exact r.mono hk
theorem RunsL.mono {N : Nat} {ops : Array Oper} : ∀ {l : List Oper} {st : St} {Q Q' : St → Prop}, RunsL P G N ops l st Q → (∀ st', Q st' → Q' st') → RunsL P G N ops l st Q'
  | [], st, Q, Q', r, hq => hq _ r
  | o :: l, st, Q, Q', r, hq => by
    simp only [RunsL] at r ⊢
    refine ⟨r.1, ?_⟩
    rcases r.2.cases with ⟨h1, r2⟩ | ⟨h1, r2⟩
    · rw [h1]; exact RunsO.mono r2 fun v h' h => RunsL.mono h hq
    · rw [h1]; exact RunsL.mono r2 hq
theorem RunsH.mono {N : Nat} {ops : Array Oper} : ∀ {l : List Oper} {st : St} {Q Q' : St → Prop}, RunsH P G N ops l st Q → (∀ st', Q st' → Q' st') → RunsH P G N ops l st Q'
  | [], st, Q, Q', r, hq => hq _ r
  | o :: l, st, Q, Q', r, hq => by
    simp only [RunsH] at r ⊢
    refine ⟨r.1, ?_⟩
    rcases r.2.cases with ⟨h1, r2⟩ | ⟨h1, r2⟩
    · rw [h1]; exact RunsO.mono r2 fun v h' h => ⟨h.1, RunsH.mono h.2 hq⟩
    · rw [h1]; exact RunsH.mono r2 hq
theorem onN.mono {ex : Ex} {a b a' b' : Unit → Prop} (r : onN ex a b) (ha : a () → a' ()) (hb : b () → b' ()) : onN ex a' b' := by
  cases ex <;> first | exact ha r | exact hb r
theorem Runs.mono {N : Nat} {K : GI} : ∀ {c : Code} {st : St} {Q Q' : Ex → St → Prop}, Runs P G N K c st Q → (∀ ex st', Q ex st' → Q' ex st') → Runs P G N K c st Q'
  | .skip, _, _, _, r, hq => hq _ _ r
  | .region id ops false, st, Q, Q', r, hq => by
    simp only [Runs] at r ⊢
    exact r.mono fun st' h => hq _ _ h
  | .region id ops true, st, Q, Q', r, hq => by
    simp only [Runs] at r ⊢
    obtain ⟨n, hn, r⟩ := r.some
    rw [hn]
    exact RunsH.mono r fun st1 h => h.mono fun st' h => hq _ _ h
  | .seq a b, st, Q, Q', r, hq => by
    simp only [Runs] at r ⊢
    exact Runs.mono r fun ex st' h => h.mono (fun h => Runs.mono h hq) (hq _ _)
  | .cond c a b, st, Q, Q', r, hq => by
    simp only [Runs] at r ⊢
    rcases r.cases with ⟨h1, r⟩ | ⟨h1, r⟩
    · rw [h1]; exact Runs.mono r hq
    · rw [h1]; exact Runs.mono r hq
  | .block id b, st, Q, Q', r, hq => by
    simp only [Runs] at r ⊢
    exact Runs.mono r fun ex st' h => hq _ _ h
  | .loop b, st, Q, Q', r, hq => by
    simp only [Runs] at r ⊢
    intro X hX
    exact r X fun st hB => hX st (Runs.mono hB fun ex st' h => h.mono id (hq _ _))
  | .exit id, _, _, _, r, hq => hq _ _ r
  | .ret, _, _, _, r, hq => hq _ _ r
  | .rangeFunc .., _, _, _, r, _ => r.elim
  | .scope .., _, _, _, r, _ => r.elim
  | .label .., _, _, _, r, _ => r.elim
  | .goto .., _, _, _, r, _ => r.elim
  | .refuse .., _, _, _, r, _ => r.elim

theorem RunsO.sound {o : Oper} {st : St} {K : Value → Hp → Prop} (r : RunsO P G o.op st.s st.h K) : ∃ f v h', execO P G f o st = some (v, h') ∧ K v h' := by
  cases ho : o.op with
  | call c =>
    rw [ho] at r
    simp only [RunsO] at r
    split at r
    · rename_i x hx
      obtain ⟨g, first, cap, args, h1, h2, r⟩ := r.some
      obtain ⟨f, v, h', e, k⟩ := r
      exact ⟨f + 1, v, h', by simp only [execO, ho, hx, h1, h2]; exact e, k⟩
    · rename_i b hb
      obtain ⟨v, h', e, k⟩ := r.some
      exact ⟨1, v, h', by simp only [execO, ho, hb]; exact e, k⟩
    · exact r.elim
  | _ =>
    rw [ho] at r
    simp only [RunsO] at r
    obtain ⟨v, h', e, k⟩ := r.some
    exact ⟨1, v, h', by simp only [execO, ho]; exact e, k⟩

theorem RunsL.sound {N : Nat} {ops : Array Oper} : ∀ {l : List Oper} {st : St} {Q : St → Prop}, RunsL P G N ops l st Q → ∃ f st', execL P G f N ops l st = some st' ∧ Q st'
  | [], st, Q, r => ⟨1, st, by simp only [execL], r⟩
  | o :: l, st, Q, r => by
    simp only [RunsL] at r
    obtain ⟨hd, r⟩ := r
    rcases r.cases with ⟨hw, r⟩ | ⟨hw, r⟩
    · obtain ⟨f1, v, h', e1, r⟩ := RunsO.sound (o := o) r
      obtain ⟨f2, st', e2, q⟩ := RunsL.sound r
      exact ⟨max f1 f2 + 1, st', by simp only [execL, if_pos hd, hw, oper_le (Nat.le_max_left f1 f2) e1]; exact list_le (Nat.le_max_right f1 f2) e2, q⟩
    · obtain ⟨f, st', e, q⟩ := RunsL.sound r
      exact ⟨f + 1, st', by simp only [execL, if_pos hd, hw]; exact e, q⟩

theorem RunsH.sound {N : Nat} {ops : Array Oper} : ∀ {l : List Oper} {st : St} {Q : St → Prop}, RunsH P G N ops l st Q → ∃ f st', runH (fun o st => execO P G f o st) N ops l st = some st' ∧ Q st'
  | [], st, Q, r => ⟨1, st, by simp only [runH], r⟩
  | o :: l, st, Q, r => by
    simp only [RunsH] at r
    obtain ⟨hd, r⟩ := r
    rcases r.cases with ⟨hw, r⟩ | ⟨hw, r⟩
    · obtain ⟨f1, v, h', e1, hn, r⟩ := RunsO.sound (o := o) (st := ⟨keep (o.looksAt ops) st.s, st.h⟩) r
      obtain ⟨f2, st', e2, q⟩ := RunsH.sound r
      exact ⟨max f1 f2, st', by
        simp only [runH, if_pos hd, hw, oper_le (Nat.le_max_left f1 f2) e1, if_pos hn]
        exact runH_mono (fun o st r h => oper_le (Nat.le_max_right f1 f2) h) _ _ _ _ _ e2, q⟩
    · obtain ⟨f, st', e, q⟩ := RunsH.sound r
      exact ⟨f, st', by simp only [runH, if_pos hd, hw]; exact e, q⟩

theorem Runs.sound {N : Nat} {K : GI} : ∀ {c : Code} {st : St} {Q : Ex → St → Prop}, Runs P G N K c st Q → ∃ f ex st', exec P G f N K c st = some (ex, st') ∧ Q ex st'
  | .skip, st, Q, r => ⟨1, .normal, st, by simp only [exec], r⟩
  | .region id ops true, st, Q, r => by
    simp only [Runs] at r
    obtain ⟨n, hn, r⟩ := r.some
    obtain ⟨f1, st1, e1, r⟩ := RunsH.sound r
    obtain ⟨f2, st', e2, q⟩ := RunsL.sound r
    exact ⟨max f1 f2 + 1, .normal, st', by
      simp only [exec, if_true, hn, runH_mono (fun o st r h => oper_le (Nat.le_max_left f1 f2) h) _ _ _ _ _ e1, list_le (Nat.le_max_right f1 f2) e2, Option.map_some], q⟩
  | .region id ops false, st, Q, r => by
    simp only [Runs] at r
    obtain ⟨f, st', e, q⟩ := RunsL.sound r
    exact ⟨f + 1, .normal, st', by simp only [exec, Bool.false_eq_true, if_false, e, Option.map_some], q⟩
  | .seq a b, st, Q, r => by
    simp only [Runs] at r
    obtain ⟨f1, ex, st1, e1, r⟩ := Runs.sound r
    cases ex with
    | normal =>
      obtain ⟨f2, ex, st', e2, q⟩ := Runs.sound (show Runs P G N K b st1 Q from r)
      exact ⟨max f1 f2 + 1, ex, st', by simp only [exec, code_le (Nat.le_max_left f1 f2) e1]; exact code_le (Nat.le_max_right f1 f2) e2, q⟩
    | exit i => exact ⟨f1 + 1, _, _, by simp only [exec, e1], r⟩
    | ret => exact ⟨f1 + 1, _, _, by simp only [exec, e1], r⟩
  | .cond c a b, st, Q, r => by
    simp only [Runs] at r
    rcases r.cases with ⟨hc, r⟩ | ⟨hc, r⟩
    · obtain ⟨f, ex, st', e, q⟩ := Runs.sound r
      exact ⟨f + 1, ex, st', by simp only [exec, hc, if_true]; exact e, q⟩
    · obtain ⟨f, ex, st', e, q⟩ := Runs.sound r
      exact ⟨f + 1, ex, st', by simp only [exec, hc, Bool.false_eq_true, if_false]; exact e, q⟩
  | .block id b, st, Q, r => by
    simp only [Runs] at r
    obtain ⟨f, ex, st', e, q⟩ := Runs.sound r
    cases ex with
    | normal => exact ⟨f + 1, _, _, by simp only [exec, e]; rfl, q⟩
    | exit i =>
      by_cases hi : i = id
      · subst hi
        exact ⟨f + 1, .normal, st', by simp only [exec, e, if_pos], by simpa [unblock] using q⟩
      · exact ⟨f + 1, .exit i, st', by simp only [exec, e, if_neg hi], by simpa [unblock, hi] using q⟩
    | ret => exact ⟨f + 1, _, _, by simp only [exec, e]; rfl, q⟩
  | .loop b, st, Q, r => by
    simp only [Runs] at r
    refine r (fun st => ∃ f ex st', exec P G f N K (.loop b) st = some (ex, st') ∧ Q ex st') fun st r => ?_
    obtain ⟨f1, ex, st1, e1, r⟩ := Runs.sound r
    cases ex with
    | normal =>
      obtain ⟨f2, ex, st', e2, q⟩ := r
      exact ⟨max f1 f2 + 1, ex, st', by simp only [exec, code_le (Nat.le_max_left f1 f2) e1]; exact code_le (Nat.le_max_right f1 f2) e2, q⟩
    | exit i => exact ⟨f1 + 1, _, _, by simp only [exec, e1], r⟩
    | ret => exact ⟨f1 + 1, _, _, by simp only [exec, e1], r⟩
  | .exit id, st, Q, r => ⟨1, _, _, by simp only [exec], r⟩
  | .ret, st, Q, r => ⟨1, _, _, by simp only [exec], r⟩
  | .rangeFunc .., _, _, r => r.elim
  | .scope .., _, _, r => r.elim
  | .label .., _, _, r => r.elim
  | .goto .., _, _, r => r.elim
  | .refuse .., _, _, r => r.elim

/-- A function's run. -/
theorem RunsC.enter {g : FuncId} {args : List Value} {h : Hp} {K : Value → Hp → Prop} {c : Code} {N : Nat} {rs : Array ResultVar} (he : enterG P (G g) g = some (c, N, rs)) (hl : args.length ≤ N)
    (r : Runs P G N (G g) c ⟨number 0 args, h⟩ fun ex st => onX ex fun _ => onV (resP P rs st) fun v => K v (gc h st.h v)) : RunsC P G g args h K := by
  obtain ⟨f, ex, st, e, r⟩ := Runs.sound r
  have key : onV (resP P rs st) (fun v => K v (gc h st.h v)) → (∀ i, ex ≠ .exit i) → RunsC P G g args h K := by
    intro r hne
    cases hv : resP P rs st with
    | none => rw [hv] at r; exact r.elim
    | some v =>
      rw [hv] at r
      refine ⟨f + 1, v, _, ?_, r⟩
      simp only [callP, he, if_pos hl, e]
      cases ex with
      | exit i => exact absurd rfl (hne i)
      | _ => simp only [hv, Option.map_some]
  cases ex with
  | exit i => exact r.elim
  | normal => exact key r (by simp)
  | ret => exact key r (by simp)

theorem RunsC.iff {g : FuncId} {args : List Value} {h : Hp} {v : Value} {h1 : Hp} (r : RunsC P G g args h fun v' h' => v' = v ∧ h' = h1) (K : Value → Hp → Prop) : RunsC P G g args h K ↔ K v h1 := by
  obtain ⟨f, v', h', e, rfl, rfl⟩ := r
  constructor
  · rintro ⟨f2, v2, h2, e2, k⟩
    have a1 := call_le (Nat.le_max_left f f2) e
    have a2 := call_le (Nat.le_max_right f f2) e2
    rw [a1] at a2
    cases a2
    exact k
  · intro k; exact ⟨f, _, _, e, k⟩

/-- A loop, one round. -/
theorem Runs.loop1 {N : Nat} {K : GI} {b : Code} {Q : Ex → St → Prop} {st : St} (hb : Runs P G N K b ⟨keep (keepAt K.keep (firstId b)) st.s, st.h⟩ fun ex st' => onN ex (fun _ => Runs P G N K (.loop b) st' Q) (fun _ => Q ex st')) : Runs P G N K (.loop b) st Q := by
  intro X hX
  exact hX st (Runs.mono hb fun ex st' h => h.mono (fun h => h X hX) id)

/-- A loop with what holds at its head and a measure. -/
theorem Runs.loopK {N : Nat} {K : GI} {b : Code} {Q : Ex → St → Prop} (I : Nat → Slots → Hp → Prop) (hb : ∀ n s h, I n s h → Runs P G N K b ⟨s, h⟩ fun ex st' => onN ex (fun _ => ∃ m, m < n ∧ I m (keep (keepAt K.keep (firstId b)) st'.s) st'.h) (fun _ => Q ex st'))
    {n : Nat} {st : St} (hi : I n (keep (keepAt K.keep (firstId b)) st.s) st.h) : Runs P G N K (.loop b) st Q := by
  induction n using Nat.strongRecOn generalizing st with
  | _ n ih =>
    refine Runs.loop1 ((hb n _ _ hi).mono fun ex st' h => h.mono (fun h => ?_) id)
    obtain ⟨m, hm, hi⟩ := h
    exact ih m hm hi

/-! ### rules for simp: what stands behind is not looked into -/
@[congr] theorem onR_congr {x y : Option (Value × Hp)} {K : Value → Hp → Prop} (h : x = y) : onR x K = onR y K := by rw [h]
@[congr] theorem onW_congr {x y : Option Bool} {a b : Unit → Prop} (h : x = y) : onW x a b = onW y a b := by rw [h]
@[congr] theorem onB_congr {x y : Option Value} {a b : Unit → Prop} (h : x = y) : onB x a b = onB y a b := by rw [h]
@[congr] theorem onF_congr {x x' : Option Value} {y y' : Option (List Value)} {K : FuncId → List Value → Prop} (h : x = x') (h' : y = y') : onF x y K = onF x' y' K := by rw [h, h']
@[congr] theorem onN_congr {x y : Ex} {a b : Unit → Prop} (h : x = y) : onN x a b = onN y a b := by rw [h]
@[congr] theorem onX_congr {x y : Ex} {a : Unit → Prop} (h : x = y) : onX x a = onX y a := by rw [h]
@[congr] theorem onV_congr {x y : Option Value} {K : Value → Prop} (h : x = y) : onV x K = onV y K := by rw [h]
@[congr] theorem onH_congr {x y : Option Nat} {K : Nat → Prop} (h : x = y) : onH x K = onH y K := by rw [h]
@[congr] theorem RunsC_congr {g : FuncId} {args args' : List Value} {h h' : Hp} {K : Value → Hp → Prop} (e : args = args') (e' : h = h') : RunsC P G g args h K = RunsC P G g args' h' K := by rw [e, e']
@[congr] theorem RunsO_congr {op : Op} {s s' : Slots} {h h' : Hp} {K : Value → Hp → Prop} (e : s = s') (e' : h = h') : RunsO P G op s h K = RunsO P G op s' h' K := by rw [e, e']
@[congr] theorem RunsL_congr {N : Nat} {ops : Array Oper} {l l' : List Oper} {st st' : St} {Q : St → Prop} (e : l = l') (e' : st = st') : RunsL P G N ops l st Q = RunsL P G N ops l' st' Q := by rw [e, e']
@[congr] theorem RunsH_congr {N : Nat} {ops : Array Oper} {l l' : List Oper} {st st' : St} {Q : St → Prop} (e : l = l') (e' : st = st') : RunsH P G N ops l st Q = RunsH P G N ops l' st' Q := by rw [e, e']
@[congr] theorem Runs_congr {N : Nat} {K : GI} {c : Code} {st st' : St} {Q : Ex → St → Prop} (e : st = st') : Runs P G N K c st Q = Runs P G N K c st' Q := by rw [e]

section
variable {N : Nat} {K : GI} {st : St} {Q : Ex → St → Prop}
@[simp ↓] theorem onR_some {x : Value × Hp} {K : Value → Hp → Prop} : onR (some x) K = K x.1 x.2 := rfl
@[simp ↓] theorem onR_map {α : Type} {x : α} {f : α → Value × Hp} {K : Value → Hp → Prop} : onR (Option.map f (some x)) K = K (f x).1 (f x).2 := rfl
@[simp ↓] theorem onW_true {a b : Unit → Prop} : onW (some true) a b = a () := rfl
@[simp ↓] theorem onW_false {a b : Unit → Prop} : onW (some false) a b = b () := rfl
@[simp ↓] theorem onB_true {a b : Unit → Prop} : onB (some (.bool true)) a b = a () := rfl
@[simp ↓] theorem onB_false {a b : Unit → Prop} : onB (some (.bool false)) a b = b () := rfl
@[simp ↓] theorem onF_some {g : FuncId} {f c : Array Value} {args : List Value} {K : FuncId → List Value → Prop} : onF (some (.func (.func g) f c)) (some args) K = K g (f.toList ++ args ++ c.toList) := rfl
@[simp ↓] theorem onN_normal {a b : Unit → Prop} : onN .normal a b = a () := rfl
@[simp ↓] theorem onN_exit {i : Nat} {a b : Unit → Prop} : onN (.exit i) a b = b () := rfl
@[simp ↓] theorem onN_ret {a b : Unit → Prop} : onN .ret a b = b () := rfl
@[simp ↓] theorem onX_normal {a : Unit → Prop} : onX .normal a = a () := rfl
@[simp ↓] theorem onX_ret {a : Unit → Prop} : onX .ret a = a () := rfl
@[simp ↓] theorem onV_some {v : Value} {K : Value → Prop} : onV (some v) K = K v := rfl
@[simp ↓] theorem onH_some {n : Nat} {K : Nat → Prop} : onH (some n) K = K n := rfl
@[simp ↓] theorem Runs_skip : Runs P G N K .skip st Q = Q .normal st := rfl
@[simp ↓] theorem Runs_region {id : Nat} {ops : Array Oper} : Runs P G N K (.region id ops false) st Q = RunsL P G N ops ops.toList st fun st' => Q .normal st' := rfl
@[simp ↓] theorem Runs_draw {id : Nat} {ops : Array Oper} : Runs P G N K (.region id ops true) st Q = onH (headOf K.heads id) fun n => RunsH P G N ops (ops.toList.take n) st fun st1 => RunsL P G N ops (ops.toList.drop n) st1 fun st' => Q .normal st' := rfl
@[simp ↓] theorem Runs_seq {a b : Code} : Runs P G N K (.seq a b) st Q = Runs P G N K a st fun ex st' => onN ex (fun _ => Runs P G N K b st' Q) (fun _ => Q ex st') := rfl
@[simp ↓] theorem Runs_cond {c : Operand} {a b : Code} : Runs P G N K (.cond c a b) st Q = onB (ev st.s c) (fun _ => Runs P G N K a st Q) (fun _ => Runs P G N K b st Q) := rfl
@[simp ↓] theorem Runs_block {id : Nat} {b : Code} : Runs P G N K (.block id b) st Q = Runs P G N K b st fun ex st' => Q (unblock id ex) st' := rfl
@[simp ↓] theorem Runs_exit {id : Nat} : Runs P G N K (.exit id) st Q = Q (.exit id) st := rfl
@[simp ↓] theorem Runs_ret : Runs P G N K .ret st Q = Q .ret st := rfl
@[simp ↓] theorem RunsL_nil {ops : Array Oper} {Q : St → Prop} : RunsL P G N ops [] st Q = Q st := rfl
@[simp ↓] theorem RunsL_cons {ops : Array Oper} {o : Oper} {r : List Oper} {Q : St → Prop} : RunsL P G N ops (o :: r) st Q = (dstOk N o.dst = true ∧ onW (wantP ops st.s o)
    (fun _ => RunsO P G o.op st.s st.h fun v h' => RunsL P G N ops r ⟨put st.s o.dst v, h'⟩ Q)
    (fun _ => RunsL P G N ops r ⟨put st.s o.dst undef, st.h⟩ Q)) := rfl
@[simp ↓] theorem RunsH_nil {ops : Array Oper} {Q : St → Prop} : RunsH P G N ops [] st Q = Q st := rfl
@[simp ↓] theorem RunsH_cons {ops : Array Oper} {o : Oper} {r : List Oper} {Q : St → Prop} : RunsH P G N ops (o :: r) st Q = (dstOk N o.dst = true ∧ onW (wantP ops (keep (o.looksAt ops) st.s) o)
    (fun _ => RunsO P G o.op (keep (o.looksAt ops) st.s) st.h fun v h' => newOk st.h h' ∧ RunsH P G N ops r ⟨put st.s o.dst v, h'⟩ Q)
    (fun _ => RunsH P G N ops r ⟨put st.s o.dst undef, st.h⟩ Q)) := rfl
@[simp] theorem unblock_normal {id : Nat} : unblock id .normal = .normal := rfl
@[simp] theorem unblock_ret {id : Nat} : unblock id .ret = .ret := rfl
@[simp] theorem unblock_exit {id i : Nat} : unblock id (.exit i) = if i = id then .normal else .exit i := rfl
end
end Go.Pm
