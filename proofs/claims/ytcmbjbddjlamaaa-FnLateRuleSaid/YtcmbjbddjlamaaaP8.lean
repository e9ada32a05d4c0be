/- The texts Ps9, PvFa, PvFb, PvFc, PvFd, PvFe, PvFh, PvFi, PvFk, PvFl, PvFj, PvSf, PvSg, PvSh, PvSi, PvFf, PvFg, PvFm, PvFn, PvFo, PsA, PsB, PsC, PvLa, PvLb, PsD, PsE, PvMa, PvCa, PvMb, PvMc, PvHa, PvMd, PvHb, PvHc, PvHd, PvHe, PvHf, PvHg, PvMe, PvMf, PvMg, PvHh, PvMh, PsF, PvPa of this work: Fronts of points, in plain terms. -/
import Derived.Test.YtcmbjbddjlamaaaP7
/- Fronts of points, in plain terms. -/
set_option linter.unusedVariables false
set_option linter.unusedSimpArgs false
namespace Go.Pm.PE
abbrev Pt := Int × Int
def domB (p q : Pt) : Bool := !(p.1 == q.1 && p.2 == q.2) && decide (p.1 ≤ q.1) && decide (p.2 ≤ q.2)
def sameB (p q : Pt) : Bool := p.1 == q.1 && p.2 == q.2
theorem sameB_iff {p q : Pt} : sameB p q = true ↔ p = q := by
  unfold sameB; rw [Bool.and_eq_true, beq_iff_eq, beq_iff_eq]
  constructor
  · rintro ⟨h1, h2⟩; exact Prod.ext h1 h2
  · rintro rfl; exact ⟨rfl, rfl⟩
theorem domB_iff {p q : Pt} : domB p q = true ↔ p ≠ q ∧ p.1 ≤ q.1 ∧ p.2 ≤ q.2 := by
  have := @sameB_iff p q
  unfold sameB at this
  unfold domB
  rw [Bool.and_eq_true, Bool.and_eq_true, Bool.not_eq_true', decide_eq_true_eq, decide_eq_true_eq, ← Bool.not_eq_true, this, and_assoc]
def insP (p : Pt) : List Pt → List Pt
  | [] => [p]
  | q :: l => if p.1 < q.1 then p :: q :: l else q :: insP p l
theorem insP_perm {p : Pt} : ∀ {l : List Pt}, (insP p l).Perm (p :: l)
  | [] => List.Perm.refl _
  | q :: l => by
    rw [insP]; split
    · exact List.Perm.refl _
    · exact (List.Perm.cons q insP_perm).trans (List.Perm.swap ..)
/-- A point or one that dominates it is there. -/
def coverB (F : List Pt) (p : Pt) : Bool := F.any fun q => sameB q p || domB q p
def restF (F : List Pt) (p : Pt) : List Pt := F.filter fun q => !domB p q
def putF (F : List Pt) (p : Pt) : List Pt := if coverB F p = true then F else insP p (restF F p)
def Srt (F : List Pt) : Prop := F.Pairwise fun a b => a.1 < b.1 ∧ b.2 < a.2
theorem rest_srt {F : List Pt} {p : Pt} (h : Srt F) : Srt (restF F p) := h.sublist List.filter_sublist
theorem rest_mem {F : List Pt} {p q : Pt} : q ∈ restF F p ↔ q ∈ F ∧ domB p q = false := by
  unfold restF; rw [List.mem_filter]; simp
theorem cover_iff {F : List Pt} {p : Pt} : coverB F p = true ↔ ∃ q, q ∈ F ∧ q.1 ≤ p.1 ∧ q.2 ≤ p.2 := by
  unfold coverB
  rw [List.any_eq_true]
  constructor
  · rintro ⟨q, hq, h⟩
    rw [Bool.or_eq_true, sameB_iff, domB_iff] at h
    refine ⟨q, hq, ?_⟩
    rcases h with rfl | h
    · exact ⟨Int.le_refl _, Int.le_refl _⟩
    · exact h.2
  · rintro ⟨q, hq, h1, h2⟩
    refine ⟨q, hq, ?_⟩
    rw [Bool.or_eq_true, sameB_iff, domB_iff]
    by_cases e : q = p
    · exact .inl e
    · exact .inr ⟨e, h1, h2⟩
/-- What is left and the new point part in both numbers. -/
theorem rest_part {F : List Pt} {p q : Pt} (hc : coverB F p = false) (hq : q ∈ restF F p) : (q.1 < p.1 ∧ p.2 < q.2) ∨ (p.1 < q.1 ∧ q.2 < p.2) := by
  obtain ⟨h1, h2⟩ := rest_mem.1 hq
  have h3 : ¬ (q.1 ≤ p.1 ∧ q.2 ≤ p.2) := fun g => by
    have := cover_iff.2 ⟨q, h1, g⟩
    rw [this] at hc; cases hc
  have h4 : ¬ (p ≠ q ∧ p.1 ≤ q.1 ∧ p.2 ≤ q.2) := fun g => by
    rw [domB_iff.2 g] at h2; cases h2
  have h5 : ¬ (p.1 ≤ q.1 ∧ p.2 ≤ q.2) := fun g => h4 ⟨fun e => h3 (by rw [e]; exact ⟨Int.le_refl _, Int.le_refl _⟩), g⟩
  omega
theorem insP_srt {p : Pt} : ∀ {l : List Pt}, Srt l → (∀ q, q ∈ l → (q.1 < p.1 ∧ p.2 < q.2) ∨ (p.1 < q.1 ∧ q.2 < p.2)) → Srt (insP p l)
  | [], _, _ => by rw [insP]; exact List.pairwise_singleton ..
  | q :: l, h, hp => by
    have h := List.pairwise_cons.1 h
    have hq := hp q (List.mem_cons_self ..)
    rw [insP]; split
    · rename_i g
      refine List.pairwise_cons.2 ⟨fun z hz => ?_, List.pairwise_cons.2 h⟩
      rcases List.mem_cons.1 hz with rfl | hz
      · omega
      · have := h.1 z hz; omega
    · rename_i g
      refine List.pairwise_cons.2 ⟨fun z hz => ?_, insP_srt h.2 fun z hz => hp z (List.mem_cons_of_mem _ hz)⟩
      rcases List.mem_cons.1 (insP_perm.mem_iff.1 hz) with rfl | hz
      · omega
      · exact h.1 z hz
theorem putF_srt {F : List Pt} {p : Pt} (h : Srt F) : Srt (putF F p) := by
  unfold putF; split
  · exact h
  · rename_i hc
    exact insP_srt (rest_srt h) fun q hq => rest_part (by simpa using hc) hq
theorem putF_mem {F : List Pt} {p q : Pt} (h : q ∈ putF F p) : q = p ∨ q ∈ F := by
  unfold putF at h; split at h
  · exact .inr h
  · rcases List.mem_cons.1 (insP_perm.mem_iff.1 h) with g | g
    · exact .inl g
    · exact .inr (rest_mem.1 g).1
theorem putF_cover {F : List Pt} {p r : Pt} (h : r = p ∨ ∃ q, q ∈ F ∧ q.1 ≤ r.1 ∧ q.2 ≤ r.2) : ∃ q, q ∈ putF F p ∧ q.1 ≤ r.1 ∧ q.2 ≤ r.2 := by
  unfold putF; split
  · rename_i hc
    rcases h with rfl | h
    · exact cover_iff.1 hc
    · exact h
  · have hp : p ∈ insP p (restF F p) := insP_perm.mem_iff.2 (List.mem_cons_self ..)
    rcases h with rfl | ⟨q, hq, h1, h2⟩
    · exact ⟨r, hp, Int.le_refl _, Int.le_refl _⟩
    · cases hd : domB p q with
      | true =>
        have := domB_iff.1 hd
        exact ⟨p, hp, by omega, by omega⟩
      | false => exact ⟨q, insP_perm.mem_iff.2 (List.mem_cons_of_mem _ (rest_mem.2 ⟨hq, hd⟩)), h1, h2⟩
/-- A front of the points of some things. -/
theorem front_fold {α : Type} {pt : α → Pt} : ∀ {l : List α} {F : List Pt} {S : Pt → Prop}, Srt F → (∀ q, q ∈ F → S q) → (∀ x, x ∈ l → S (pt x)) →
    Srt (l.foldl (fun F x => putF F (pt x)) F) ∧ (∀ q, q ∈ l.foldl (fun F x => putF F (pt x)) F → S q) ∧ ∀ r, ((∃ x, x ∈ l ∧ r = pt x) ∨ ∃ q, q ∈ F ∧ q.1 ≤ r.1 ∧ q.2 ≤ r.2) → ∃ q, q ∈ l.foldl (fun F x => putF F (pt x)) F ∧ q.1 ≤ r.1 ∧ q.2 ≤ r.2
  | [], F, S, h, hS, _ => ⟨h, hS, fun r hr => by
      rcases hr with ⟨x, hx, _⟩ | g
      · cases hx
      · exact g⟩
  | x :: l, F, S, h, hS, hl => by
    rw [List.foldl_cons]
    obtain ⟨h1, h2, h3⟩ := front_fold (l := l) (F := putF F (pt x)) (S := S) (putF_srt h) (fun q hq => by
      rcases putF_mem hq with rfl | g
      · exact hl x (List.mem_cons_self ..)
      · exact hS q g) fun y hy => hl y (List.mem_cons_of_mem _ hy)
    refine ⟨h1, h2, fun r hr => h3 r ?_⟩
    rcases hr with ⟨y, hy, e⟩ | g
    · rcases List.mem_cons.1 hy with rfl | hy
      · exact .inr (putF_cover (.inl e))
      · exact .inl ⟨y, hy, e⟩
    · exact .inr (putF_cover (.inr g))
/-! ### the first one that fits -/
end Go.Pm.PE
namespace Go.Pm.PP
open Go.Pm Go.Pm.PE
end Go.Pm.PP
namespace Go.Pm.PE
theorem take_snoc {α : Type} {xs : List α} {i : Nat} {x : α} (h : xs[i]? = some x) : xs.take (i + 1) = xs.take i ++ [x] := by
  rw [List.take_add_one, h]; rfl
/-- A front with bounded first numbers is not long. -/
def FOk (F : List Pt) : Prop := Srt F ∧ ∀ q, q ∈ F → -(2 ^ 30) ≤ q.1 ∧ q.1 ≤ 2 ^ 30
theorem srt_len : ∀ {F : List Pt} {a : Int}, Srt F → (∀ q, q ∈ F → a ≤ q.1 ∧ q.1 ≤ 2 ^ 30) → a ≤ 2 ^ 30 + 1 → (F.length : Int) ≤ 2 ^ 30 + 1 - a
  | [], a, _, _, ha => by simp; omega
  | q :: F, a, h, hb, ha => by
    have h := List.pairwise_cons.1 h
    have hq := hb q (List.mem_cons_self ..)
    have := srt_len (F := F) (a := q.1 + 1) h.2 (fun z hz => by have := h.1 z hz; have := hb z (List.mem_cons_of_mem _ hz); omega) (by omega)
    rw [List.length_cons]; omega
theorem FOk.len {F : List Pt} (h : FOk F) : F.length ≤ 2 ^ 32 := by
  have := srt_len h.1 h.2 (by omega); omega
theorem FOk.put {F : List Pt} (h : FOk F) {p : Pt} (hp : -(2 ^ 30) ≤ p.1 ∧ p.1 ≤ 2 ^ 30) : FOk (putF F p) := ⟨putF_srt h.1, fun q hq => by
  rcases putF_mem hq with rfl | g
  · exact hp
  · exact h.2 q g⟩
theorem FOk.nil : FOk [] := ⟨List.Pairwise.nil, fun q hq => by cases hq⟩
end Go.Pm.PE

/- Points of orders, by both. -/
set_option linter.unusedVariables false
set_option linter.unusedSimpArgs false
set_option maxRecDepth 4000
set_option maxHeartbeats 8000000
namespace Go.Pm.PP
open Go.Pm Go.Proofs Go.Pm.PE
def ptX (f g : Int) (js : List Job) (xs : List Int) : Pt := (valX f js xs, valX g js xs)
theorem ia2 {h : Hp} {a : Addr} {j : Nat} (hj : j < 2) : indexAddrP P h t_A2_int (.pointer (some a)) (.int .i64 j) = some (.pointer (some (addP a j))) := ix_arr u_A2_int e_t_int rfl hj
theorem ia20 {h : Hp} {a : Addr} : indexAddrP P h t_A2_int (.pointer (some a)) (.int .i64 0) = some (.pointer (some (addP a 0))) := ia2 (j := 0) (by omega)
theorem ia21 {h : Hp} {a : Addr} : indexAddrP P h t_A2_int (.pointer (some a)) (.int .i64 1) = some (.pointer (some (addP a 1))) := ia2 (j := 1) (by omega)
section
variable {h : Hp} {vj v u : Value} {js : List Job} {xs : List Int} {f g : Int}
end
end Go.Pm.PP

/- Fronts by the reference. -/
set_option linter.unusedVariables false
set_option linter.unusedSimpArgs false
set_option maxRecDepth 4000
set_option maxHeartbeats 8000000
namespace Go.Pm.PP
open Go.Pm Go.Proofs Go.Pm.PE
theorem Sees.pl {h : Hp} {v : Value} {sz : Nat} {els : List (List Value)} (s : Sees h v sz els) (g : plain v = true) : plainC v = true := by
  obtain ⟨_, oa, c, rfl, _⟩ := s
  exact g
section
variable {h : Hp} {vj v u : Value} {js : List Job} {xs : List Int} {f g : Int}
def upF (f g : Int) (js : List Job) (F : List Pt) (xs : List Int) : List Pt := putF F (ptX f g js xs)
def frontR (f g : Int) (js : List Job) : List Pt := (ordsL js.length).foldl (upF f g js) []
end
end Go.Pm.PP

/- Fronts by the program; what both export. -/
set_option linter.unusedVariables false
set_option linter.unusedSimpArgs false
set_option maxRecDepth 4000
set_option maxHeartbeats 16000000
namespace Go.Pm.PP
open Go.Pm Go.Proofs Go.Pm.PE
section
variable {h : Hp} {vj v u : Value} {js : List Job} {xs : List Int} {f g : Int}
end
end Go.Pm.PP

/- Fronts: what both export. -/
set_option linter.unusedVariables false
set_option linter.unusedSimpArgs false
set_option maxRecDepth 4000
set_option maxHeartbeats 16000000
namespace Go.Pm.PP
open Go.Pm Go.Proofs Go.Pm.PE
section
variable {h : Hp} {vj v u : Value} {js : List Job} {xs : List Int} {f g : Int}
/-! ### the first order with a point -/
end
end Go.Pm.PP

/- The first order with a point of a front, by both; the draw. -/
set_option linter.unusedVariables false
set_option linter.unusedSimpArgs false
set_option maxRecDepth 4000
set_option maxHeartbeats 16000000
namespace Go.Pm.PP
open Go.Pm Go.Proofs Go.Pm.PE
/-! ### a search for the first one -/
section
variable {h : Hp} {vj v u : Value} {js : List Job} {xs : List Int} {f g : Int}
end
/-! ### in plain terms -/
theorem front_facts {f g : Int} {js : List Job} (hn : js.length ≤ 8) : Srt (frontR f g js) ∧ (∀ q, q ∈ frontR f g js → ∃ xs, Ord js.length xs ∧ ptX f g js xs = q) ∧ (∀ xs, Ord js.length xs → ∃ q, q ∈ frontR f g js ∧ q.1 ≤ valX f js xs ∧ q.2 ≤ valX g js xs) := by
  obtain ⟨h1, h2, h3⟩ := front_fold (pt := ptX f g js) (l := ordsL js.length) (F := []) (S := fun q => ∃ xs, Ord js.length xs ∧ ptX f g js xs = q) List.Pairwise.nil (fun q hq => by cases hq) fun xs hx => ⟨xs, ords_ord hx, rfl⟩
  exact ⟨h1, h2, fun xs ox => h3 (ptX f g js xs) (.inl ⟨xs, ord_mem ox, rfl⟩)⟩
end Go.Pm.PP

/- Searches of least mixtures and under limits, by the reference. -/
set_option linter.unusedVariables false
set_option linter.unusedSimpArgs false
set_option maxRecDepth 4000
set_option maxHeartbeats 16000000
namespace Go.Pm.PP
open Go.Pm Go.Proofs Go.Pm.PE
end Go.Pm.PP

/- Least mixtures, by both. -/
set_option linter.unusedVariables false
set_option linter.unusedSimpArgs false
set_option maxRecDepth 4000
set_option maxHeartbeats 16000000
namespace Go.Pm.PP
open Go.Pm Go.Proofs Go.Pm.PE
section
variable {h : Hp} {vj v u : Value} {js : List Job} {xs : List Int} {f g x y : Int}
end
end Go.Pm.PP

/- Supported points, by both. -/
set_option linter.unusedVariables false
set_option linter.unusedSimpArgs false
set_option maxRecDepth 4000
set_option maxHeartbeats 16000000
namespace Go.Pm.PP
open Go.Pm Go.Proofs Go.Pm.PE
section
variable {h : Hp} {vj v u vf : Value} {js : List Job} {F : List Pt} {f g : Int}
end
end Go.Pm.PP

/- Supported points: what both export. -/
set_option linter.unusedVariables false
set_option linter.unusedSimpArgs false
set_option maxRecDepth 4000
set_option maxHeartbeats 16000000
namespace Go.Pm.PP
open Go.Pm Go.Proofs Go.Pm.PE
section
variable {h : Hp} {vj v u vf : Value} {js : List Job} {F : List Pt} {f g : Int}
end
end Go.Pm.PP

/- Best orders under a limit, by both. -/
set_option linter.unusedVariables false
set_option linter.unusedSimpArgs false
set_option maxRecDepth 4000
set_option maxHeartbeats 16000000
namespace Go.Pm.PP
open Go.Pm Go.Proofs Go.Pm.PE
section
variable {h : Hp} {vj v u : Value} {js : List Job} {xs : List Int} {f g lim : Int}
end
end Go.Pm.PP

/- Tables of the least values of sets, by both. -/
set_option linter.unusedVariables false
set_option linter.unusedSimpArgs false
set_option maxRecDepth 4000
set_option maxHeartbeats 8000000
namespace Go.Pm.PP
open Go.Pm Go.Proofs Go.Pm.PE
/-! ### digits in the machine -/
section
variable {h : Hp} {vj v : Value} {js : List Job} {xs : List Int}
/-- A sum of times, bit by bit. -/
def timeGo (js : List Job) (xs : List Int) : Int := (xs.map fun x => (jA js x).t).sum
theorem time_bd {js : List Job} (bd : Bd js) : ∀ {xs : List Int}, 0 ≤ timeGo js xs ∧ timeGo js xs ≤ xs.length * 2 ^ 20
  | [] => by simp [timeGo]
  | x :: xs => by
    have ih := time_bd bd (xs := xs)
    have := bd.t x
    have e : timeGo js (x :: xs) = (jA js x).t + timeGo js xs := rfl
    rw [e, List.length_cons]; omega
/-! ### objectives that are sums -/
end
end Go.Pm.PP

/- Tables of the least values of sets, by both: the tables. -/
set_option linter.unusedVariables false
set_option linter.unusedSimpArgs false
set_option maxRecDepth 4000
set_option maxHeartbeats 8000000
namespace Go.Pm.PP
open Go.Pm Go.Proofs Go.Pm.PE
section
variable {h : Hp} {vj v : Value} {js : List Job} {xs : List Int} {o : Int}
/-! ### by the reference -/
end
end Go.Pm.PP

/- The order that is found from its end, by both; total times. -/
set_option linter.unusedVariables false
set_option linter.unusedSimpArgs false
set_option maxRecDepth 4000
set_option maxHeartbeats 8000000
namespace Go.Pm.PP
open Go.Pm Go.Proofs Go.Pm.PE
section
variable {h : Hp} {vj v : Value} {js : List Job} {xs : List Int} {o : Int}
/-! ### total times -/
end
end Go.Pm.PP

/- FnSetValues in the small machine. -/
set_option linter.unusedVariables false
set_option linter.unusedSimpArgs false
set_option maxRecDepth 4000
set_option maxHeartbeats 16000000
namespace Go.Pm.PP
open Go.Pm Go.Proofs Go.Pm.PE
section
variable {h0 h : Hp} {r n : Nat} {vc : Value} {L : List Asn}
end
/-! ### in plain terms -/
theorem ord_of_perm {n : Nat} {xs : List Int} (h : xs.Perm (upTo n)) : Ord n xs := ⟨by rw [h.length_eq, upTo_len], fun x hx => mem_upTo.1 (h.mem_iff.1 hx), h.nodup_iff.2 (upTo_nodup _)⟩
end Go.Pm.PP

/- FnFronts in the small machine. -/
set_option linter.unusedVariables false
set_option linter.unusedSimpArgs false
set_option maxRecDepth 4000
set_option maxHeartbeats 16000000
namespace Go.Pm.PP
open Go.Pm Go.Proofs Go.Pm.PE
section
variable {h0 h : Hp} {r n : Nat} {vc : Value} {L : List Asn}
end
end Go.Pm.PP

/- FnFronts. -/
set_option linter.unusedVariables false
set_option linter.unusedSimpArgs false
set_option maxRecDepth 4000
set_option maxHeartbeats 16000000
namespace Go.Pm.PP
open Go.Pm Go.Proofs Go.Pm.PE
/-! ### in plain terms -/
end Go.Pm.PP

/- Mixtures and limits, in plain terms. -/
set_option linter.unusedVariables false
set_option linter.unusedSimpArgs false
set_option maxRecDepth 4000
set_option maxHeartbeats 4000000
namespace Go.Pm.PP
open Go.Pm Go.Proofs Go.Pm.PE
end Go.Pm.PP

/- FnMixtures: its draws. -/
set_option linter.unusedVariables false
set_option linter.unusedSimpArgs false
set_option maxRecDepth 4000
set_option maxHeartbeats 16000000
namespace Go.Pm.PP
open Go.Pm Go.Proofs Go.Pm.PE
end Go.Pm.PP

/- FnMixtures, from the program's BestUnder. -/
set_option linter.unusedVariables false
set_option linter.unusedSimpArgs false
set_option maxRecDepth 4000
set_option maxHeartbeats 16000000
namespace Go.Pm.PP
open Go.Pm Go.Proofs Go.Pm.PE
end Go.Pm.PP

/- Tables of truth values and their closures, in plain terms. -/
set_option linter.unusedVariables false
set_option linter.unusedSimpArgs false
namespace Go.Pm.PE
def tG (T : List (List Bool)) (a b : Nat) : Bool := (((T[a]?).getD [])[b]?).getD false
def tS (T : List (List Bool)) (a b : Nat) (x : Bool) : List (List Bool) := T.set a (((T[a]?).getD []).set b x)
structure TOk (n : Nat) (T : List (List Bool)) : Prop where
  len : T.length = n
  row : ∀ r, r ∈ T → r.length = n
theorem TOk.at {n : Nat} {T : List (List Bool)} (k : TOk n T) {a : Nat} (ha : a < n) : ∃ r, T[a]? = some r ∧ r.length = n := by
  obtain ⟨r, hr, _⟩ := drop_at (show a < T.length by rw [k.len]; exact ha)
  exact ⟨r, hr, k.row r (List.mem_of_getElem? hr)⟩
theorem TOk.cell {n : Nat} {T : List (List Bool)} (k : TOk n T) {a b : Nat} (ha : a < n) (hb : b < n) : ∃ r, T[a]? = some r ∧ r.length = n ∧ r[b]? = some (tG T a b) := by
  obtain ⟨r, hr, hl⟩ := k.at ha
  obtain ⟨x, hx, _⟩ := drop_at (show b < r.length by omega)
  exact ⟨r, hr, hl, by simp [tG, hr, hx]⟩
theorem TOk.set {n : Nat} {T : List (List Bool)} (k : TOk n T) {a b : Nat} {x : Bool} (ha : a < n) : TOk n (tS T a b x) := by
  obtain ⟨r, hr, hl⟩ := k.at ha
  refine ⟨by unfold tS; rw [List.length_set, k.len], fun q hq => ?_⟩
  unfold tS at hq
  rw [hr, Option.getD_some] at hq
  rcases List.mem_or_eq_of_mem_set hq with g | g
  · exact k.row q g
  · rw [g, List.length_set, hl]
/-! ### closures -/
def falT (n : Nat) : List (List Bool) := List.replicate n (List.replicate n false)
def edT (T : List (List Bool)) (es : List (Int × Int)) : List (List Bool) := es.foldl (fun T e => tS T e.1.toNat e.2.toNat true) T
def cst (k i : Nat) (T : List (List Bool)) (j : Nat) : List (List Bool) := tS T i j (tG T i j || (tG T i k && tG T k j))
def cJ (k i : Nat) (T : List (List Bool)) (l : List Nat) : List (List Bool) := l.foldl (cst k i) T
def cI (n k : Nat) (T : List (List Bool)) (l : List Nat) : List (List Bool) := l.foldl (fun T i => cJ k i T (List.range' 0 n)) T
def cK (n : Nat) (T : List (List Bool)) (l : List Nat) : List (List Bool) := l.foldl (fun T k => cI n k T (List.range' 0 n)) T
def clo (n : Nat) (es : List (Int × Int)) : List (List Bool) := cK n (edT (falT n) es) (List.range' 0 n)
end Go.Pm.PE

/- Orders by a vector of ends, in plain terms. -/
set_option linter.unusedVariables false
set_option linter.unusedSimpArgs false
namespace Go.Pm.PE
open Go.Pm.PP
/-- Numbers put to their places, once. -/
def putI (l : List Int) (x : Int) : List Int := if l.any (· == x) = true then l else insF (fun y => decide (y < x)) x l
end Go.Pm.PE

/- The order that is found from its end under a limit of lateness, in plain terms: it is there if any order keeps to the limit, and then it has the least sum of ends of all these. -/
set_option linter.unusedVariables false
set_option linter.unusedSimpArgs false
namespace Go.Pm.PE
open Go.Pm.PP
section
variable (t d : Int → Int) (lim : Int)
def smG : Int → List Int → Int
  | _, [] => 0
  | now, x :: r => (now + t x) + smG (now + t x) r
def okG : Int → List Int → Bool
  | _, [] => true
  | now, x :: r => decide (now + t x ≤ d x + lim) && okG (now + t x) r
def tsm (l : List Int) : Int := (l.map t).sum
def bkP (e : Int) (left : List Int) : Int := left.foldl (fun b i => if e ≤ d i + lim ∧ (b < 0 ∨ t b ≤ t i) then i else b) (-1)
def bkF : Nat → List Int → Option (List Int)
  | 0, _ => some []
  | n + 1, left => if bkP t d lim (tsm t left) left < 0 then none else (bkF n (left.filter fun x => !(x == bkP t d lim (tsm t left) left))).map (· ++ [bkP t d lim (tsm t left) left])
end
section
variable {t d : Int → Int} {lim : Int}
theorem tsm_app {A C : List Int} : tsm t (A ++ C) = tsm t A + tsm t C := by simp [tsm]
theorem tsm_cons {x : Int} {C : List Int} : tsm t (x :: C) = t x + tsm t C := by simp [tsm]
theorem tsm_perm {l l' : List Int} (h : l.Perm l') : tsm t l = tsm t l' := sum_perm (h.map _)
theorem smG_app : ∀ {A C : List Int} {now : Int}, smG t now (A ++ C) = smG t now A + smG t (now + tsm t A) C
  | [], C, now => by simp [smG, tsm]
  | x :: A, C, now => by
    simp only [List.cons_append, smG, tsm_cons]
    rw [smG_app, show now + t x + tsm t A = now + (t x + tsm t A) by omega]; omega
theorem okG_app : ∀ {A C : List Int} {now : Int}, okG t d lim now (A ++ C) = (okG t d lim now A && okG t d lim (now + tsm t A) C)
  | [], C, now => by simp [okG, tsm]
  | x :: A, C, now => by
    simp only [List.cons_append, okG, tsm_cons]
    rw [okG_app, show now + t x + tsm t A = now + (t x + tsm t A) by omega, Bool.and_assoc]
theorem smG_mono : ∀ {C : List Int} {a b : Int}, a ≤ b → smG t a C ≤ smG t b C
  | [], _, _, _ => by simp [smG]
  | x :: C, a, b, h => by
    have := smG_mono (C := C) (a := a + t x) (b := b + t x) (by omega)
    simp only [smG]; omega
theorem okG_mono : ∀ {C : List Int} {a b : Int}, a ≤ b → okG t d lim b C = true → okG t d lim a C = true
  | [], _, _, _, _ => rfl
  | x :: C, a, b, h, e => by
    simp only [okG, Bool.and_eq_true, decide_eq_true_eq] at e ⊢
    exact ⟨by omega, okG_mono (by omega) e.2⟩
theorem bkP_go {e : Int} : ∀ {l : List Int} {b : Int}, (∀ x, x ∈ l → 0 ≤ x) → (b < 0 ∨ e ≤ d b + lim) → let q := l.foldl (fun b i => if e ≤ d i + lim ∧ (b < 0 ∨ t b ≤ t i) then i else b) b
    (q < 0 → b < 0 ∧ ∀ x, x ∈ l → ¬ e ≤ d x + lim) ∧ (0 ≤ q → (q = b ∨ q ∈ l) ∧ e ≤ d q + lim ∧ (0 ≤ b → t b ≤ t q) ∧ ∀ x, x ∈ l → e ≤ d x + lim → t x ≤ t q)
  | [], b, _, hb => by
    refine ⟨fun h => ⟨h, fun x hx => by cases hx⟩, fun h => ⟨.inl rfl, ?_, fun _ => Int.le_refl _, fun x hx => by cases hx⟩⟩
    simp only [List.foldl_nil] at h ⊢
    omega
  | y :: l, b, hl, hb => by
    simp only [List.foldl_cons]
    have hy := hl y (List.mem_cons_self ..)
    by_cases c : e ≤ d y + lim ∧ (b < 0 ∨ t b ≤ t y)
    · rw [if_pos c]
      obtain ⟨g1, g2⟩ := bkP_go (e := e) (l := l) (b := y) (fun x hx => hl x (List.mem_cons_of_mem _ hx)) (.inr c.1)
      refine ⟨fun h => by have := (g1 h).1; omega, fun h => ?_⟩
      obtain ⟨k1, k2, k3, k4⟩ := g2 h
      refine ⟨.inr ?_, k2, fun h0 => ?_, fun x hx hd => ?_⟩
      · rcases k1 with k1 | k1
        · rw [k1]; exact List.mem_cons_self ..
        · exact List.mem_cons_of_mem _ k1
      · have := k3 hy; omega
      · rcases List.mem_cons.1 hx with rfl | hx
        · exact k3 hy
        · exact k4 x hx hd
    · rw [if_neg c]
      obtain ⟨g1, g2⟩ := bkP_go (e := e) (l := l) (b := b) (fun x hx => hl x (List.mem_cons_of_mem _ hx)) hb
      refine ⟨fun h => ⟨(g1 h).1, fun x hx hd => ?_⟩, fun h => ?_⟩
      · rcases List.mem_cons.1 hx with rfl | hx
        · exact c ⟨hd, .inl (g1 h).1⟩
        · exact (g1 h).2 x hx hd
      · obtain ⟨k1, k2, k3, k4⟩ := g2 h
        refine ⟨?_, k2, k3, fun x hx hd => ?_⟩
        · rcases k1 with k1 | k1
          · exact .inl k1
          · exact .inr (List.mem_cons_of_mem _ k1)
        · rcases List.mem_cons.1 hx with rfl | hx
          · have : ¬ (b < 0 ∨ t b ≤ t x) := fun g => c ⟨hd, g⟩
            have := k3 (by omega)
            omega
          · exact k4 x hx hd
theorem bkP_neg {e : Int} {l : List Int} (hl : ∀ x, x ∈ l → 0 ≤ x) (h : bkP t d lim e l < 0) : ∀ x, x ∈ l → ¬ e ≤ d x + lim := ((bkP_go (t := t) hl (.inl (by omega))).1 h).2
theorem bkP_pos {e : Int} {l : List Int} (hl : ∀ x, x ∈ l → 0 ≤ x) (h : ¬ bkP t d lim e l < 0) : bkP t d lim e l ∈ l ∧ e ≤ d (bkP t d lim e l) + lim ∧ ∀ x, x ∈ l → e ≤ d x + lim → t x ≤ t (bkP t d lim e l) := by
  obtain ⟨k1, k2, _, k4⟩ := (bkP_go (t := t) (d := d) (lim := lim) (e := e) (b := -1) hl (.inl (by omega))).2 (by unfold bkP at h; omega)
  refine ⟨?_, k2, k4⟩
  rcases k1 with k1 | k1
  · unfold bkP at h; omega
  · exact k1
theorem filter_del {l : List Int} {b : Int} (hn : l.Nodup) (hb : b ∈ l) : l.Perm (b :: l.filter fun x => !(x == b)) := by
  induction l with
  | nil => cases hb
  | cons y l ih =>
    obtain ⟨h1, h2⟩ := List.nodup_cons.1 hn
    by_cases c : y = b
    · subst c
      rw [List.filter_cons]
      simp only [BEq.rfl, Bool.not_true, Bool.false_eq_true, if_false]
      rw [List.filter_eq_self.2]
      intro a ha
      have : ¬ a = y := fun g => h1 (g ▸ ha)
      simpa using this
    · rw [List.filter_cons, if_pos (by simpa using c)]
      have hb' : b ∈ l := by
        rcases List.mem_cons.1 hb with g | g
        · exact absurd g.symm c
        · exact g
      exact ((ih h2 hb').cons y).trans (List.Perm.swap ..)
/-- What is exchanged: the one that is chosen takes the last place. -/
theorem back_exch (ht : ∀ x, 0 ≤ t x) {r : List Int} {l b : Int} (hb : b ∈ r ++ [l]) (hle : t l ≤ t b) (hok : okG t d lim 0 (r ++ [l]) = true) : ∃ r', (b :: r').Perm (r ++ [l]) ∧ okG t d lim 0 r' = true ∧ smG t 0 r' ≤ smG t 0 r := by
  rw [okG_app, Bool.and_eq_true] at hok
  by_cases c : b = l
  · subst c
    exact ⟨r, List.perm_append_comm (l₁ := [b]), hok.1, Int.le_refl _⟩
  · have hbr : b ∈ r := by
      rcases List.mem_append.1 hb with g | g
      · exact g
      · exact absurd (by simpa using g) c
    obtain ⟨A, B, rfl⟩ := List.append_of_mem hbr
    refine ⟨A ++ l :: B, ?_, ?_, ?_⟩
    · have e1 : (A ++ l :: B).Perm (l :: (A ++ B)) := List.perm_middle
      have e2 : (A ++ b :: B ++ [l]).Perm (b :: (A ++ (B ++ [l]))) := by
        rw [List.append_assoc, List.cons_append]; exact List.perm_middle
      refine ((e1.trans ?_).cons b).trans e2.symm
      rw [← List.append_assoc]
      exact List.perm_append_comm (l₁ := [l]) (l₂ := A ++ B)
    · obtain ⟨h1, h2⟩ := hok
      rw [okG_app, Bool.and_eq_true] at h1 ⊢
      refine ⟨h1.1, ?_⟩
      have h3 := h1.2
      simp only [okG, Bool.and_eq_true, decide_eq_true_eq, tsm_app, tsm_cons, Bool.and_true] at h2 h3 ⊢
      have hB : 0 ≤ tsm t B := by
        have : ∀ C : List Int, 0 ≤ tsm t C := fun C => by
          induction C with
          | nil => simp [tsm]
          | cons y C ih => rw [tsm_cons]; have := ht y; omega
        exact this B
      have := ht b
      exact ⟨by omega, okG_mono (by omega) h3.2⟩
    · rw [smG_app, smG_app]
      simp only [smG]
      have := smG_mono (t := t) (C := B) (a := 0 + tsm t A + t l) (b := 0 + tsm t A + t b) (by omega)
      omega
theorem snoc_of {α : Type} {xs : List α} (h : xs ≠ []) : ∃ r x, xs = r ++ [x] := ⟨xs.dropLast, xs.getLast h, (List.dropLast_concat_getLast h).symm⟩
theorem bkF_spec (ht : ∀ x, 0 ≤ t x) : ∀ {n : Nat} {left : List Int}, left.length = n → left.Nodup → (∀ x, x ∈ left → 0 ≤ x) →
    (bkF t d lim n left = none → ∀ s, s.Perm left → okG t d lim 0 s = false) ∧
    ∀ o, bkF t d lim n left = some o → o.Perm left ∧ okG t d lim 0 o = true ∧ ∀ s, s.Perm left → okG t d lim 0 s = true → smG t 0 o ≤ smG t 0 s
  | 0, left, hl, _, _ => by
    obtain rfl : left = [] := List.length_eq_zero_iff.1 hl
    refine ⟨fun h => by simp [bkF] at h, fun o ho => ?_⟩
    simp only [bkF, Option.some.injEq] at ho
    subst ho
    refine ⟨List.Perm.refl _, rfl, fun s hs _ => ?_⟩
    rw [hs.eq_nil]; exact Int.le_refl _
  | n + 1, left, hl, hnd, h0 => by
    generalize hb : bkP t d lim (tsm t left) left = b
    generalize hL : left.filter (fun x => !(x == b)) = left'
    have hF : bkF t d lim (n + 1) left = if b < 0 then none else (bkF t d lim n left').map (· ++ [b]) := by simp only [bkF, hb, hL]
    rw [hF]
    have last : ∀ s, s.Perm left → okG t d lim 0 s = true → ∃ r l, s = r ++ [l] ∧ tsm t left ≤ d l + lim ∧ l ∈ left := fun s hs hok => by
      obtain ⟨r, l, rfl⟩ := snoc_of (xs := s) (by rintro rfl; have := hs.length_eq; simp at this; omega)
      refine ⟨r, l, rfl, ?_, hs.subset (by simp)⟩
      rw [okG_app, Bool.and_eq_true] at hok
      have h2 := hok.2
      simp only [okG, Bool.and_true, decide_eq_true_eq] at h2
      rw [← tsm_perm hs, tsm_app]
      simp only [tsm_cons, show tsm t [] = 0 from rfl]
      omega
    by_cases c : b < 0
    · rw [if_pos c]
      refine ⟨fun _ s hs => ?_, fun o ho => by cases ho⟩
      cases hok : okG t d lim 0 s
      · rfl
      obtain ⟨r, l, rfl, h2, hm⟩ := last s hs hok
      exact absurd h2 (bkP_neg h0 (by rw [hb]; exact c) l hm)
    · rw [if_neg c]
      obtain ⟨p1, p2, p3⟩ := bkP_pos (t := t) (d := d) (lim := lim) (e := tsm t left) h0 (by rw [hb]; exact c)
      rw [hb] at p1 p2 p3
      have hp : left.Perm (b :: left') := by rw [← hL]; exact filter_del hnd p1
      have hl' : left'.length = n := by have := hp.length_eq; simp at this; omega
      have hnd' : left'.Nodup := by rw [← hL]; exact hnd.sublist List.filter_sublist
      have h0' : ∀ x, x ∈ left' → 0 ≤ x := fun x hx => h0 x (by rw [← hL] at hx; exact (List.mem_filter.1 hx).1)
      obtain ⟨i1, i2⟩ := bkF_spec ht hl' hnd' h0'
      have key : ∀ s, s.Perm left → okG t d lim 0 s = true → ∃ r', r'.Perm left' ∧ okG t d lim 0 r' = true ∧ smG t 0 r' + tsm t left ≤ smG t 0 s := fun s hs hok => by
        obtain ⟨r, l, rfl, h2, hm⟩ := last s hs hok
        obtain ⟨r', q1, q2, q3⟩ := back_exch ht (hs.symm.subset p1) (p3 l hm h2) hok
        refine ⟨r', List.Perm.cons_inv (a := b) ((q1.trans hs).trans hp), q2, ?_⟩
        rw [← tsm_perm hs, smG_app, tsm_app]
        simp only [smG, tsm_cons, show tsm t [] = 0 from rfl]
        omega
      refine ⟨fun h s hs => ?_, fun o ho => ?_⟩
      · cases hok : okG t d lim 0 s
        · rfl
        obtain ⟨r', q1, q2, _⟩ := key s hs hok
        have := i1 (by cases g : bkF t d lim n left' with
          | none => rfl
          | some o => rw [g] at h; cases h) r' q1
        rw [this] at q2; cases q2
      · obtain ⟨o', ho', rfl⟩ := Option.map_eq_some_iff.1 ho
        obtain ⟨j1, j2, j3⟩ := i2 o' ho'
        have hpo : (o' ++ [b]).Perm left := (List.perm_append_comm.trans ((j1.cons b : (b :: o').Perm (b :: left')) : ([b] ++ o').Perm (b :: left'))).trans hp.symm
        have ht' : tsm t o' + t b = tsm t left := by rw [← tsm_perm hpo, tsm_app, tsm_cons]; simp [tsm]
        refine ⟨hpo, ?_, fun s hs hok => ?_⟩
        · rw [okG_app, j2]
          simp only [okG, Bool.and_true, Bool.true_and, decide_eq_true_eq]
          omega
        · obtain ⟨r', q1, q2, q3⟩ := key s hs hok
          have := j3 r' q1 q2
          rw [smG_app]
          simp only [smG]
          omega
end
/-- Two lists without dominated points that cover each other are the same. -/
theorem sorted_eqP {R : Pt → Pt → Prop} (hR : ∀ a b, R a b → R b a → False) : ∀ {l l' : List Pt}, l.Pairwise R → l'.Pairwise R → l.Perm l' → l = l'
  | [], l', _, _, h => (h.symm.eq_nil).symm
  | x :: l, [], _, _, h => by have := h.length_eq; simp at this
  | x :: l, y :: l', h1, h2, h => by
    obtain ⟨a1, a2⟩ := List.pairwise_cons.1 h1
    obtain ⟨b1, b2⟩ := List.pairwise_cons.1 h2
    have e : x = y := by
      rcases List.mem_cons.1 (h.subset (List.mem_cons_self ..)) with g | g
      · exact g
      · rcases List.mem_cons.1 (h.symm.subset (List.mem_cons_self ..)) with k | k
        · exact k.symm
        · exact (hR _ _ (a1 _ k) (b1 _ g)).elim
    subst e
    rw [sorted_eqP hR a2 b2 h.cons_inv]
theorem front_uniq {F F' : List Pt} (s : Srt F) (s' : Srt F') (h : ∀ q, q ∈ F → ∃ r, r ∈ F' ∧ r.1 ≤ q.1 ∧ r.2 ≤ q.2) (h' : ∀ q, q ∈ F' → ∃ r, r ∈ F ∧ r.1 ≤ q.1 ∧ r.2 ≤ q.2) : F = F' := by
  have nd : ∀ {G : List Pt}, Srt G → G.Nodup := fun sg => sg.imp fun {a b} g e => by subst e; omega
  have anti : ∀ {G : List Pt}, Srt G → ∀ a b, a ∈ G → b ∈ G → a.1 ≤ b.1 → a.2 ≤ b.2 → a = b := by
    intro G sg a b ha hb h1 h2
    obtain ⟨i, hi⟩ := List.getElem?_of_mem ha
    obtain ⟨j, hj⟩ := List.getElem?_of_mem hb
    obtain ⟨hi', ei⟩ := List.getElem?_eq_some_iff.1 hi
    obtain ⟨hj', ej⟩ := List.getElem?_eq_some_iff.1 hj
    have P := List.pairwise_iff_getElem.1 sg
    rcases Nat.lt_trichotomy i j with g | g | g
    · have := P i j hi' hj' g; rw [ei, ej] at this; omega
    · subst g; rw [← ei, ← ej]
    · have := P j i hj' hi' g; rw [ei, ej] at this; omega
  have sub : ∀ {F F' : List Pt}, Srt F → (∀ q, q ∈ F → ∃ r, r ∈ F' ∧ r.1 ≤ q.1 ∧ r.2 ≤ q.2) → (∀ q, q ∈ F' → ∃ r, r ∈ F ∧ r.1 ≤ q.1 ∧ r.2 ≤ q.2) → ∀ q, q ∈ F → q ∈ F' := by
    intro F F' s h h' q hq
    obtain ⟨r, hr, r1, r2⟩ := h q hq
    obtain ⟨u, hu, u1, u2⟩ := h' r hr
    have e := anti s u q hu hq (by omega) (by omega)
    subst e
    have : r = u := Prod.ext (by omega) (by omega)
    rw [← this]; exact hr
  exact sorted_eqP (R := fun a b => a.1 < b.1 ∧ b.2 < a.2) (fun a b h1 h2 => by omega) s s' ((List.perm_ext_iff_of_nodup (nd s) (nd s')).2 fun q => ⟨sub s h h' q, sub s' h' h q⟩)
end Go.Pm.PE

/- The front of sums and lateness from the ends of orders, in plain terms. -/
set_option linter.unusedVariables false
set_option linter.unusedSimpArgs false
set_option maxRecDepth 4000
namespace Go.Pm.PP
open Go.Pm Go.Proofs Go.Pm.PE
def tJ (js : List Job) (x : Int) : Int := (jA js x).t
def dJ (js : List Job) (x : Int) : Int := (jA js x).d
def backX (js : List Job) (lim : Int) : Option (List Int) := bkF (tJ js) (dJ js) lim js.length (upTo js.length)
theorem sum_smG {js : List Job} (p : Pl js) : ∀ {xs : List Int} {now : Int}, 0 ≤ now → sumGo 2 js now xs = smG (tJ js) now xs
  | [], _, _ => rfl
  | x :: r, now, h => by
    have := p.t x
    rw [sumGo, smG, p.endAt h, sum_smG p (by omega)]
    simp [costV, tJ]
theorem okG_timD {js : List Job} {lim : Int} : ∀ {xs : List Int} {now : Int}, okG (tJ js) (dJ js) lim now xs = timD js lim now xs
  | [], _ => rfl
  | x :: r, now => by rw [okG, timD, okG_timD]; rfl
theorem val_smG {js : List Job} (hok : plOk js = true) {xs : List Int} (o : Ord js.length xs) : valX 2 js xs = smG (tJ js) 0 xs := by
  unfold valX
  rw [val_sum (by omega) (by omega) (ord_prm o), sum_smG (plOk_pl hok) (Int.le_refl 0)]
theorem val_okG {js : List Job} (hok : plOk js = true) {xs : List Int} (o : Ord js.length xs) (hne : 0 < js.length) {lim : Int} (hl : -(2 ^ 20) ≤ lim) : okG (tJ js) (dJ js) lim 0 xs = true ↔ valX 4 js xs ≤ lim := by
  rw [valX_lat hok o hne, okG_timD]
  exact timD_lat (plOk_pl hok) (Int.le_refl 0) hl
theorem back_facts {js : List Job} (hok : plOk js = true) (hne : 0 < js.length) {lim : Int} (hl : -(2 ^ 20) ≤ lim) :
    (backX js lim = none → ∀ xs, Ord js.length xs → lim < valX 4 js xs) ∧
    ∀ o, backX js lim = some o → Ord js.length o ∧ valX 4 js o ≤ lim ∧ ∀ xs, Ord js.length xs → valX 4 js xs ≤ lim → valX 2 js o ≤ valX 2 js xs := by
  obtain ⟨h1, h2⟩ := bkF_spec (t := tJ js) (d := dJ js) (lim := lim) (plOk_pl hok).t (n := js.length) (left := upTo js.length) (upTo_len _) (upTo_nodup _) fun x hx => (mem_upTo.1 hx).1
  refine ⟨fun h xs ox => ?_, fun o ho => ?_⟩
  · have := h1 h xs (ord_perm ox)
    refine Int.not_le.1 fun g => ?_
    rw [(val_okG hok ox hne hl).2 g] at this
    cases this
  · obtain ⟨p1, p2, p3⟩ := h2 o ho
    have oo := ord_of_perm p1
    refine ⟨oo, (val_okG hok oo hne hl).1 p2, fun xs ox hx => ?_⟩
    rw [val_smG hok oo, val_smG hok ox]
    exact p3 xs (ord_perm ox) ((val_okG hok ox hne hl).2 hx)
/-- What holds of the front that has been found down to a limit. -/
structure LInv (js : List Job) (lim : Int) (F : List Pt) : Prop where
  srt : Srt F
  pt : ∀ q, q ∈ F → ∃ xs, Ord js.length xs ∧ ptX 2 4 js xs = q
  cov : ∀ xs, Ord js.length xs → lim < valX 4 js xs → ∃ q, q ∈ F ∧ q.1 ≤ valX 2 js xs ∧ q.2 ≤ valX 4 js xs
theorem LInv.step {js : List Job} {lim : Int} {F : List Pt} (hok : plOk js = true) (hne : 0 < js.length) (hl : -(2 ^ 20) ≤ lim) (I : LInv js lim F) {o : List Int} (ho : backX js lim = some o) : LInv js (valX 4 js o - 1) (putF F (ptX 2 4 js o)) := by
  obtain ⟨oo, h1, h2⟩ := (back_facts hok hne hl).2 o ho
  refine ⟨putF_srt I.srt, fun q hq => ?_, fun xs ox hx => ?_⟩
  · rcases putF_mem hq with rfl | g
    · exact ⟨o, oo, rfl⟩
    · exact I.pt q g
  · by_cases c : lim < valX 4 js xs
    · exact putF_cover (r := ptX 2 4 js xs) (.inr (I.cov xs ox c))
    · obtain ⟨q, hq, q1, q2⟩ := putF_cover (F := F) (p := ptX 2 4 js o) (r := ptX 2 4 js o) (.inl rfl)
      have e1 : (ptX 2 4 js o).1 = valX 2 js o := rfl
      have e2 : (ptX 2 4 js o).2 = valX 4 js o := rfl
      have := h2 xs ox (by omega)
      exact ⟨q, hq, by omega, by omega⟩
theorem LInv.all {js : List Job} {lim : Int} {F : List Pt} (hok : plOk js = true) (I : LInv js lim F) (h : ∀ xs, Ord js.length xs → lim < valX 4 js xs) : F = frontR 2 4 js := by
  obtain ⟨hn, _, _⟩ := plOk_of hok
  obtain ⟨s, m, c⟩ := front_facts (f := 2) (g := 4) (js := js) hn
  refine front_uniq I.srt s (fun q hq => ?_) fun q hq => ?_
  · obtain ⟨xs, ox, rfl⟩ := I.pt q hq
    exact c xs ox
  · obtain ⟨xs, ox, rfl⟩ := m q hq
    exact I.cov xs ox (h xs ox)
end Go.Pm.PP

/- The order that is found from its end, and the front that is found by it, of both. -/
set_option linter.unusedVariables false
set_option linter.unusedSimpArgs false
set_option maxRecDepth 4000
set_option maxHeartbeats 16000000
namespace Go.Pm.PP
open Go.Pm Go.Proofs Go.Pm.PE
theorem nil_L {h : Hp} : Ints h (.slice none 0 0) ([] : List Int) := ⟨by simp, none, 0, rfl, .inl ⟨rfl, rfl, rfl⟩⟩
section
variable {h : Hp} {vj v u : Value} {js : List Job} {xs ys : List Int} {lim : Int}
def delF (xs ys : List Int) : List Int := xs.filter fun x => !hasL x ys
/-! ### the choice -/
end
end Go.Pm.PP

/- Tables of the greatest weights of timely sets, in plain terms: by sets, and by jobs in due order. -/
set_option linter.unusedVariables false
set_option linter.unusedSimpArgs false
namespace Go.Pm.PE
open Go.Pm.PP
/-- A table that tells for each sum of times the greatest weight of a class of sets, -1 where there is none. -/
structure TabK (t w : Int → Int) (N : Nat) (cls : List Int → Prop) (T : List Int) : Prop where
  len : T.length = N + 1
  low : ∀ k, k ≤ N → -1 ≤ gE T k
  up : ∀ S, cls S → ∀ k : Nat, k ≤ N → tsm t S = k → tsm w S ≤ gE T k
  att : ∀ k : Nat, k ≤ N → 0 ≤ gE T k → ∃ S, cls S ∧ tsm t S = k ∧ tsm w S = gE T k
section
variable {t w d : Int → Int} {N : Nat}
theorem tsm_nonneg (hw : ∀ x, 0 ≤ w x) : ∀ {S : List Int}, 0 ≤ tsm w S
  | [] => by simp [tsm]
  | x :: S => by rw [tsm_cons]; have := hw x; have := tsm_nonneg hw (S := S); omega
/-! ### by sets -/
def upT (T : List Int) (k : Int) (x : Int) : List Int := T.set k.toNat (max (gE T k.toNat) x)
theorem TabK.nil : TabK t w N (fun _ => False) (List.replicate (N + 1) (-1)) := by
  have e : ∀ k, k ≤ N → gE (List.replicate (N + 1) (-1 : Int)) k = -1 := fun k hk => by simp [gE, List.getElem?_replicate, show k < N + 1 by omega]
  exact ⟨by simp, fun k hk => by rw [e k hk]; omega, fun S h => h.elim, fun k hk h => by rw [e k hk] at h; omega⟩
theorem TabK.add {cls : List Int → Prop} {T S0 : List Int} (h : TabK t w N cls T) (hw : ∀ x, 0 ≤ w x) (h0 : 0 ≤ tsm t S0) (h1 : tsm t S0 ≤ N) : TabK t w N (fun S => cls S ∨ S = S0) (upT T (tsm t S0) (tsm w S0)) := by
  obtain ⟨m, hm⟩ : ∃ m : Nat, (m : Int) = tsm t S0 := ⟨(tsm t S0).toNat, by omega⟩
  have hl : m < T.length := by rw [h.len]; omega
  have e : ∀ k : Nat, gE (upT T (tsm t S0) (tsm w S0)) k = if k = m then max (gE T m) (tsm w S0) else gE T k := fun k => by
    unfold upT
    rw [← hm, Int.toNat_natCast, gE_set hl]
  have hw0 := tsm_nonneg hw (S := S0)
  refine ⟨by unfold upT; rw [List.length_set, h.len], fun k hk => ?_, fun S hS k hk hs => ?_, fun k hk hg => ?_⟩
  · have := h.low k hk
    rw [e]; split
    · have := h.low m (by omega); omega
    · exact this
  · rw [e]
    rcases hS with g | rfl
    · have := h.up S g k hk hs
      split
      · rename_i c; subst c; omega
      · exact this
    · rw [if_pos (by omega)]; omega
  · rw [e] at hg ⊢
    split
    · rename_i c
      subst c
      rw [if_pos rfl] at hg
      by_cases g : gE T k ≤ tsm w S0
      · exact ⟨S0, .inr rfl, hm.symm, by omega⟩
      · obtain ⟨S, hS, a1, a2⟩ := h.att k hk (by omega)
        exact ⟨S, .inl hS, a1, by omega⟩
    · rename_i c
      rw [if_neg c] at hg
      obtain ⟨S, hS, a1, a2⟩ := h.att k hk hg
      exact ⟨S, .inl hS, a1, a2⟩
theorem TabK.weak {cls cls' : List Int → Prop} {T : List Int} (h : TabK t w N cls T) (e : ∀ S, cls S ↔ cls' S) : TabK t w N cls' T :=
  ⟨h.len, h.low, fun S hS => h.up S ((e S).2 hS), fun k hk hg => by obtain ⟨S, hS, a⟩ := h.att k hk hg; exact ⟨S, (e S).1 hS, a⟩⟩
/-! ### by jobs -/
def clsP (t d : Int → Int) (D : List Int) (S : List Int) : Prop := S.Sublist D ∧ okG t d 0 0 S = true
theorem sub_snoc {D S : List Int} {x : Int} : S.Sublist (D ++ [x]) ↔ S.Sublist D ∨ ∃ S', S = S' ++ [x] ∧ S'.Sublist D := by
  constructor
  · intro h
    obtain ⟨A, B, rfl, hA, hB⟩ := List.sublist_append_iff.1 h
    rcases List.sublist_cons_iff.1 hB with g | ⟨r, rfl, g⟩
    · left; rw [List.sublist_nil.1 g, List.append_nil]; exact hA
    · right; rw [List.sublist_nil.1 g]; exact ⟨A, rfl, hA⟩
  · rintro (h | ⟨S', rfl, h⟩)
    · exact h.trans (List.sublist_append_left ..)
    · exact h.append (List.Sublist.refl _)
theorem TabK.one (hw : ∀ x, 0 ≤ w x) : TabK t w N (clsP t d []) (0 :: List.replicate N (-1)) := by
  have e : ∀ k : Nat, k ≤ N → gE ((0 : Int) :: List.replicate N (-1 : Int)) k = if k = 0 then 0 else -1 := fun k hk => by
    cases k with
    | zero => rfl
    | succ k => simp [gE, List.getElem?_replicate, show k < N by omega]
  have hn : ∀ {S}, clsP t d [] S → S = [] := fun h => List.sublist_nil.1 h.1
  refine ⟨by simp, fun k hk => by rw [e k hk]; split <;> omega, fun S hS k hk hs => ?_, fun k hk h => ?_⟩
  · rw [hn hS] at hs ⊢
    have hs : (0 : Int) = k := hs
    rw [e k hk, if_pos (by omega)]
    exact Int.le_refl _
  · rw [e k hk] at h ⊢
    split at h
    · rename_i c
      subst c
      exact ⟨[], ⟨List.Sublist.refl _, rfl⟩, rfl, rfl⟩
    · omega
end
end Go.Pm.PE

/- Sets ordered by their numbers of jobs and then lexicographically, in plain terms. -/
set_option linter.unusedVariables false
set_option linter.unusedSimpArgs false
namespace Go.Pm.PE
open Go.Pm.PP
/-- Each ascending list of numbers is that of a code. -/
theorem bits_of {n : Nat} : ∀ {m : Nat}, m ≤ n → ∀ {s : List Int}, s.Pairwise (· < ·) → (∀ x, x ∈ s → 0 ≤ x ∧ x < m) → ∃ c, c < 2 ^ m ∧ bitsL n c = s
  | 0, _, s, _, h => by
    have : s = [] := by
      cases s with
      | nil => rfl
      | cons x s => have := h x (List.mem_cons_self ..); omega
    subst this
    exact ⟨0, by simp, bits_zero⟩
  | m + 1, hm, s, hs, h => by
    by_cases g : (m : Int) ∈ s
    · obtain ⟨A, B, rfl⟩ := List.append_of_mem g
      have hB : B = [] := by
        cases B with
        | nil => rfl
        | cons y B =>
          have h1 := (List.pairwise_append.1 hs).2.1
          have := (List.pairwise_cons.1 h1).1 y (List.mem_cons_self ..)
          have := h y (by simp)
          omega
      subst hB
      obtain ⟨h1, _, h3⟩ := List.pairwise_append.1 hs
      obtain ⟨c, hc, e⟩ := bits_of (n := n) (m := m) (by omega) h1 fun x hx => ⟨(h x (List.mem_append_left _ hx)).1, h3 x hx m (by simp)⟩
      refine ⟨c + 2 ^ m, by rw [Nat.pow_succ]; omega, ?_⟩
      have tb : (c + 2 ^ m).testBit m = true := by
        rw [Nat.add_comm, Nat.testBit_two_pow_add_eq, Nat.testBit_lt_two_pow hc]; rfl
      have hp := bits_del (n := n) (c := c + 2 ^ m) (i := m) (by omega) tb
      rw [show c + 2 ^ m - 2 ^ m = c by omega, e] at hp
      exact sorted_eq (R := fun a b => a < b) (fun a b h1 h2 => by omega) bits_asc hs (hp.trans (List.perm_append_comm (l₁ := [(m : Int)])))
    · obtain ⟨c, hc, e⟩ := bits_of (n := n) (m := m) (by omega) hs fun x hx => ⟨(h x hx).1, by
        have := (h x hx).2
        have : x ≠ m := fun k => g (k ▸ hx)
        omega⟩
      exact ⟨c, by rw [Nat.pow_succ]; omega, e⟩
end Go.Pm.PE

/- Sets: guards of both; timely sets and their orders, of both. -/
set_option linter.unusedVariables false
set_option linter.unusedSimpArgs false
set_option maxRecDepth 4000
set_option maxHeartbeats 16000000
namespace Go.Pm.PP
open Go.Pm Go.Proofs Go.Pm.PE
def risL : List Int → Bool
  | a :: b :: r => !decide (b ≤ a) && risL (b :: r)
  | _ => true
theorem ris_iff : ∀ {xs : List Int}, risL xs = true ↔ xs.Pairwise (· < ·)
  | [] => by simp [risL]
  | [a] => by simp [risL]
  | a :: b :: r => by
    rw [risL, Bool.and_eq_true, ris_iff, Bool.not_eq_true', decide_eq_false_iff_not]
    constructor
    · rintro ⟨h1, h2⟩
      refine List.pairwise_cons.2 ⟨fun x hx => ?_, h2⟩
      rcases List.mem_cons.1 hx with rfl | g
      · omega
      · have := (List.pairwise_cons.1 h2).1 x g; omega
    · intro h
      have := (List.pairwise_cons.1 h).1 b (List.mem_cons_self ..)
      exact ⟨by omega, (List.pairwise_cons.1 h).2⟩
def setB (n : Nat) (xs : List Int) : Bool := xs.all (fun x => decide (0 ≤ x) && decide (x < n)) && risL xs
theorem setB_iff {n : Nat} {xs : List Int} : setB n xs = true ↔ inN n xs ∧ xs.Pairwise (· < ·) := by
  rw [setB, Bool.and_eq_true, ris_iff, List.all_eq_true]
  simp only [Bool.and_eq_true, decide_eq_true_eq]
  rfl
theorem arGoN_iff {n : Nat} (hn : n ≤ 2 ^ 40) : ∀ {xs us : List Int}, arGo n us xs = true ↔ inN n xs ∧ xs.Nodup ∧ ∀ x, x ∈ xs → hasL x us = false
  | [], us => by simp [arGo, inN]
  | x :: r, us => by
    have w1 : w64 ((n : Int) - 1) = (n : Int) - 1 := by unfold w64; rw [wrap_ok] <;> omega
    rw [arGo, Bool.and_eq_true, Bool.and_eq_true, w1, arGoN_iff hn, Bool.not_eq_true', List.nodup_cons]
    have hi : inB x 0 ((n : Int) - 1) = true ↔ 0 ≤ x ∧ x < n := by simp [inB]; omega
    have hh : ∀ y, hasL y (us ++ [x]) = (hasL y us || (x == y)) := fun y => by simp [hasL]
    rw [hi]
    constructor
    · rintro ⟨⟨a, b⟩, c, d, e⟩
      refine ⟨fun y hy => ?_, ⟨fun hx => ?_, d⟩, fun y hy => ?_⟩
      · rcases List.mem_cons.1 hy with rfl | g
        · exact a
        · exact c y g
      · have := e x hx
        rw [hh] at this
        simp at this
      · rcases List.mem_cons.1 hy with rfl | g
        · exact b
        · have := e y g
          rw [hh, Bool.or_eq_false_iff] at this
          exact this.1
    · rintro ⟨a, ⟨b, c⟩, d⟩
      refine ⟨⟨a x (List.mem_cons_self ..), d x (List.mem_cons_self ..)⟩, fun y hy => a y (List.mem_cons_of_mem _ hy), c, fun y hy => ?_⟩
      rw [hh, d y (List.mem_cons_of_mem _ hy)]
      have : ¬ x = y := fun g => b (g ▸ hy)
      simpa using this
theorem setB_eq {n : Nat} (hn : n ≤ 2 ^ 40) {xs : List Int} : (risL xs && arGo n [] xs) = setB n xs := by
  rw [Bool.eq_iff_iff, Bool.and_eq_true, ris_iff, arGoN_iff hn, setB_iff]
  constructor
  · rintro ⟨a, b, _⟩; exact ⟨b, a⟩
  · rintro ⟨a, b⟩; exact ⟨b, a, b.imp fun h => by omega, fun x _ => rfl⟩
section
variable {h : Hp} {vj v u : Value} {js : List Job} {xs : List Int}
theorem isRisingG_run (X : Ints h v xs) (hn : xs.length ≤ 2 ^ 40) : Ret P G n_impl_isRising [v] h (.bool (risL xs)) h := by
  refine enter_run e_impl_isRising (by simp) ?_
  have Xs := X
  obtain ⟨oa, c, rfl⟩ := X.shapeT
  simp -implicitDefEqProofs
  refine R_loopO (fun m s h' => ∃ i : Nat, i + m = xs.length ∧ s = [(0, .slice oa xs.length c), (3, .int .i64 ((i : Int) + 1))] ∧ h' = h ∧ risL xs = risL (xs.drop i)) (fun I hI m s h' => ?_) (n := xs.length) ⟨0, Nat.zero_add _, by simp⟩
  rintro ⟨i, hi, rfl, rfl, hx⟩
  by_cases hlt : i + 1 < xs.length
  · obtain ⟨y, hy, hd⟩ := drop_at (show i < xs.length by omega)
    obtain ⟨z, hz, hd2⟩ := drop_at hlt
    rw [hd, hd2, risL, ← hd2] at hx
    have ly := load_I Xs hy
    have lz := load_I Xs hz
    simp only [Int.natCast_add, Int.cast_ofNat_Int] at lz
    have w0 : IntKind.i64.wrap (i : Int) = i := by rw [wrap_ok] <;> omega
    have w2 : IntKind.i64.wrap ((i : Int) + 1 + 1) = (i : Int) + 1 + 1 := by rw [wrap_ok] <;> omega
    have hlt' : (i : Int) + 1 < xs.length := by omega
    by_cases h1 : z ≤ y
    · rw [decide_eq_true h1] at hx
      simp -implicitDefEqProofs [-indexAddrP_some, hlt, hlt', w0, w2, ly, lz, h1]
      simpa using hx
    · rw [decide_eq_false h1] at hx
      simp -implicitDefEqProofs [-indexAddrP_some, hlt, hlt', w0, w2, ly, lz, h1]
      exact ⟨m - 1, by omega, on hI ⟨i + 1, by omega, by simp, rfl, by simpa using hx⟩⟩
  · have hr : risL (xs.drop i) = true := by
      have : (xs.drop i).length ≤ 1 := by simp; omega
      match xs.drop i, this with
      | [], _ => rfl
      | [_], _ => rfl
    have hlt' : ¬ (i : Int) + 1 < xs.length := by omega
    simp -implicitDefEqProofs [hlt, hlt', hx, hr]
theorem isSetG_run {n : Nat} (X : Ints h v xs) (hn : xs.length ≤ 2 ^ 40) (hn2 : n ≤ 2 ^ 40) : Ret P G n_impl_isSet [.int .i64 n, v] h (.bool (setB n xs)) h := by
  refine enter_run e_impl_isSet (by simp) ?_
  have r1 := isRisingG_run X hn
  have r2 := areDifferent_run (n := n) X hn
  rw [← setB_eq hn2]
  obtain ⟨oa, c, rfl⟩ := X.shapeT
  cases h1 : risL xs
  · rw [h1] at r1
    simp -implicitDefEqProofs [CL_ret r1]
  · rw [h1] at r1
    simp -implicitDefEqProofs [CL_ret r1, CL_ret r2]
def upR (lo hi : Int) : List Int → Option Int → Bool
  | [], _ => true
  | x :: r, p => inB x lo hi && (match p with | some a => !decide (x ≤ a) | none => true) && upR lo hi r (some x)
theorem upR_nil {lo hi : Int} {p : Option Int} : upR lo hi [] p = true := rfl
theorem upR_cons0 {lo hi x : Int} {r : List Int} : upR lo hi (x :: r) none = (inB x lo hi && true && upR lo hi r (some x)) := rfl
theorem upR_cons1 {lo hi x a : Int} {r : List Int} : upR lo hi (x :: r) (some a) = (inB x lo hi && (!decide (x ≤ a)) && upR lo hi r (some x)) := rfl
theorem upR_some {lo hi : Int} : ∀ {xs : List Int} {p : Int}, upR lo hi xs (some p) = (xs.all (fun x => inB x lo hi) && risL (p :: xs))
  | [], p => rfl
  | x :: r, p => by
    rw [upR_cons1, upR_some, List.all_cons, risL]
    cases inB x lo hi <;> cases decide (x ≤ p) <;> simp
theorem upR_none {n : Nat} : upR 0 ((n : Int) - 1) xs none = setB n xs := by
  have e : ∀ x, inB x 0 ((n : Int) - 1) = (decide (0 ≤ x) && decide (x < n)) := fun x => by
    rw [Bool.eq_iff_iff]; simp [inB]; omega
  unfold setB
  cases xs with
  | nil => rfl
  | cons x r =>
    rw [upR_cons0, upR_some, List.all_cons]
    simp only [e, Bool.and_true, Bool.and_assoc]
theorem l1RisingG_run {lo hi : Int} (X : Ints h v xs) (hn : xs.length ≤ 2 ^ 40) : Ret P G n_spec_l1Rising [v, .int .i64 lo, .int .i64 hi] h (.bool (upR lo hi xs none)) h := by
  refine enter_run e_spec_l1Rising (by simp) ?_
  have Xs := X
  obtain ⟨oa, c, rfl⟩ := X.shapeT
  simp -implicitDefEqProofs
  refine R_loopO (fun m s h' => ∃ i : Nat, i + m = xs.length ∧ s = [(0, .slice oa xs.length c), (1, .int .i64 lo), (2, .int .i64 hi), (7, .int .i64 i)] ∧ h' = h ∧ upR lo hi xs none = upR lo hi (xs.drop i) (if i = 0 then none else xs[i - 1]?)) (fun I hI m s h' => ?_) (n := xs.length) ⟨0, Nat.zero_add _, by simp⟩
  rintro ⟨i, hi', rfl, rfl, hx⟩
  by_cases hlt : i < xs.length
  · obtain ⟨y, hy, hd⟩ := drop_at hlt
    rw [hd] at hx
    have ly := load_I Xs hy
    have next : upR lo hi (xs.drop (i + 1)) (some y) = upR lo hi (xs.drop (i + 1)) (if i + 1 = 0 then none else xs[i + 1 - 1]?) := by simp [hy]
    by_cases h0 : i = 0
    · subst h0
      rw [if_pos rfl, upR_cons0, next] at hx
      simp only [Int.cast_ofNat_Int] at ly
      have w0 : IntKind.i64.wrap 1 = 1 := by rw [wrap_ok] <;> omega
      have hlt' : (0 : Int) < xs.length := by omega
      cases h1 : inB y lo hi
      · rw [h1] at hx
        simp -implicitDefEqProofs [-indexAddrP_some, hlt, hlt', ly, CH_at l1In_run, CL_ret l1In_run, h1, w0]
        simpa using hx
      · rw [h1] at hx
        simp -implicitDefEqProofs [-indexAddrP_some, hlt, hlt', ly, CH_at l1In_run, CL_ret l1In_run, h1, w0]
        exact ⟨m - 1, by omega, on hI ⟨1, by omega, by simp, rfl, by simpa using hx⟩⟩
    · obtain ⟨k, rfl⟩ : ∃ k, i = k + 1 := ⟨i - 1, by omega⟩
      obtain ⟨z, hz, _⟩ := drop_at (show k < xs.length by omega)
      rw [if_neg h0, Nat.add_sub_cancel, hz, upR_cons1, next] at hx
      have lz := load_I Xs hz
      simp only [Int.natCast_add, Int.cast_ofNat_Int] at ly
      have w0 : IntKind.i64.wrap (k : Int) = k := by rw [wrap_ok] <;> omega
      have w2 : IntKind.i64.wrap ((k : Int) + 1 + 1) = (k : Int) + 1 + 1 := by rw [wrap_ok] <;> omega
      have hlt' : (k : Int) + 1 < xs.length := by omega
      have hp' : (0 : Int) < (k : Int) + 1 := by omega
      cases h1 : inB y lo hi
      · rw [h1] at hx
        simp -implicitDefEqProofs [-indexAddrP_some, hlt, hlt', hp', ly, lz, CH_at l1In_run, CL_ret l1In_run, h1, w0, w2]
        simpa using hx
      · by_cases h2 : y ≤ z
        · rw [h1, decide_eq_true h2] at hx
          simp -implicitDefEqProofs [-indexAddrP_some, hlt, hlt', hp', ly, lz, CH_at l1In_run, CL_ret l1In_run, h1, h2, w0, w2]
          simpa using hx
        · rw [h1, decide_eq_false h2] at hx
          simp -implicitDefEqProofs [-indexAddrP_some, hlt, hlt', hp', ly, lz, CH_at l1In_run, CL_ret l1In_run, h1, h2, w0, w2]
          exact ⟨m - 1, by omega, on hI ⟨k + 1 + 1, by omega, by simp, rfl, by simpa using hx⟩⟩
  · have hlt' : ¬ (i : Int) < xs.length := by omega
    rw [List.drop_eq_nil_of_le (by omega), upR_nil] at hx
    simp -implicitDefEqProofs [hlt, hlt', hx]
/-! ### timely sets -/
def timB (js : List Job) (xs : List Int) : Bool := timGo js 0 (dueL js xs)
theorem tim_imp {js : List Job} (p : Pl js) {xs : List Int} : timGo js 0 (sortB (dAh js) xs) = timB js xs := tim_sorted p dAhL_d dueL_d (sortB_perm.trans sortB_perm.symm)
def tmlOk (js : List Job) (xs : List Int) : Bool := plOk js && setB js.length xs
end
end Go.Pm.PP

/- Tables of truth values in the small machine; the closure of pairs, by both. -/
set_option linter.unusedVariables false
set_option linter.unusedSimpArgs false
set_option maxRecDepth 4000
set_option maxHeartbeats 16000000
namespace Go.Pm.PP
open Go.Pm Go.Proofs Go.Pm.PE
section
variable {h : Hp} {ve : Value} {es : List (Int × Int)} {n : Nat}
end
end Go.Pm.PP

/- Typed rules for slices: printed by a program of this work (wrap.py). -/
set_option linter.unusedVariables false
set_option linter.unusedSimpArgs false
set_option maxRecDepth 4000
namespace Go.Pm.PP
open Go.Pm Go.Proofs
end Go.Pm.PP

/- Sets in order: comparisons and insertion, of both. -/
set_option linter.unusedVariables false
set_option linter.unusedSimpArgs false
set_option maxRecDepth 4000
set_option maxHeartbeats 16000000
namespace Go.Pm.PP
open Go.Pm Go.Proofs Go.Pm.PE
section
variable {h : Hp} {v u : Value} {xs ys : List Int}
end
end Go.Pm.PP

/- Orders by vectors of ends; ascending lists; sums. -/
set_option linter.unusedVariables false
set_option linter.unusedSimpArgs false
set_option maxRecDepth 4000
set_option maxHeartbeats 16000000
namespace Go.Pm.PP
open Go.Pm Go.Proofs Go.Pm.PE
section
variable {h : Hp} {vj v ve vs : Value} {js : List Job} {xs es s : List Int}
/-! ### put in ascending order -/
theorem ins_see {u : Value} (S2 : Ints h u xs) {k : Nat} (hk : k ≤ xs.length) (x : Int) (hn : xs.length ≤ 2 ^ 20) :
    ∃ (a3 : Option Addr) (b3 c3 : Nat) (a4 : Option Addr) (b4 c4 : Nat) (h4 : Hp) (a5 : Option Addr) (b5 c5 : Nat) (h5 : Hp) (a6 : Option Addr) (b6 c6 : Nat) (a7 : Option Addr) (b7 c7 : Nat) (h7 : Hp),
      sliceP P h t_S_int u none (some (.int .i64 k)) = some (.slice a3 b3 c3) ∧ appendP P h t_S_int (.slice none 0 0) (.slice a3 b3 c3) = some (.slice a4 b4 c4, h4) ∧ newOk h h4 ∧
      appendP P (h4 ++ [some ⟨[.int .i64 x], 1, false⟩]) t_S_int (.slice a4 b4 c4) (.slice (some ⟨h4.length, 0, some 1⟩) 1 1) = some (.slice a5 b5 c5, h5) ∧ modOk h.length (h4 ++ [some ⟨[.int .i64 x], 1, false⟩]) h5 ∧ newOk h h5 ∧
      sliceP P h5 t_S_int u (some (.int .i64 k)) none = some (.slice a6 b6 c6) ∧ appendP P h5 t_S_int (.slice a5 b5 c5) (.slice a6 b6 c6) = some (.slice a7 b7 c7, h7) ∧ h <+: h4 ∧ Holds h h7 [.own (.slice a7 b7 c7) 1 ((xs.take k ++ x :: xs.drop k).map encI)] ∧ h <+: h7 := by
  obtain ⟨v3, s3, f3⟩ := S2.front (P := P) u_S_int i_int (k := .i64) (j := (k : Int)) (by omega) (by simp; omega)
  rw [Int.toNat_natCast, ← List.map_take] at f3
  have H0 := own_nil (Holds.start (h := h)) Int encI 1
  obtain ⟨v4, h4, ha4, H4', _⟩ := app_I H0 0 rfl f3 (by simp; omega)
  have H4 : Holds h h4 [.own v4 1 ((xs.take k).map encI)] := H4'
  have n4 : NR h.length h4 := append_nr nr_self ha4
  have no4 := newOk_of H4.pre n4
  obtain ⟨v5, h5, ha5, H5', k5, _⟩ := push_I0 H4 0 rfl x (by simp; omega)
  have H5 : Holds h h5 [.own v5 1 ((xs.take k ++ [x]).map encI)] := H5'
  have n5 : NR h.length (h4 ++ [some ⟨[.int .i64 x], 1, false⟩]) := n4.new [.int .i64 x] 1
  have md := app_mod (b := h.length) rfl n5 ha5 (H4.pre.trans (List.prefix_append ..)) H5.pre
  have n6 := append_nr n5 ha5
  obtain ⟨v6, s6, f6, _⟩ := (S2.pre H5.pre).back (P := P) u_S_int i_int (k := .i64) (j := (k : Int)) (by omega) (by simp; omega)
  rw [Int.toNat_natCast, ← List.map_drop] at f6
  obtain ⟨v7, h7, ha7, H7', _⟩ := app_I H5 0 rfl f6 (by simp; omega)
  have H7 : Holds h h7 [.own v7 1 ((xs.take k ++ x :: xs.drop k).map encI)] := by
    have : Holds h h7 [.own v7 1 ((xs.take k ++ [x] ++ xs.drop k).map encI)] := H7'
    rw [List.append_assoc] at this
    exact this
  obtain ⟨a3, b3, c3, rfl⟩ : ∃ a n c, v3 = .slice a n c := by obtain ⟨a, c, e⟩ := f3.shape; exact ⟨_, _, _, e⟩
  obtain ⟨a4, b4, c4, rfl⟩ : ∃ a n c, v4 = .slice a n c := by obtain ⟨a, c, e⟩ := (H4.sees 0 rfl).shape; exact ⟨_, _, _, e⟩
  obtain ⟨a5, b5, c5, rfl⟩ : ∃ a n c, v5 = .slice a n c := by obtain ⟨a, c, e⟩ := (H5.sees 0 rfl).shape; exact ⟨_, _, _, e⟩
  obtain ⟨a6, b6, c6, rfl⟩ : ∃ a n c, v6 = .slice a n c := by obtain ⟨a, c, e⟩ := f6.shape; exact ⟨_, _, _, e⟩
  obtain ⟨a7, b7, c7, rfl⟩ : ∃ a n c, v7 = .slice a n c := by obtain ⟨a, c, e⟩ := (H7.sees 0 rfl).shape; exact ⟨_, _, _, e⟩
  exact ⟨a3, b3, c3, a4, b4, c4, h4, a5, b5, c5, h5, a6, b6, c6, a7, b7, c7, h7, s3, ha4, no4, ha5, md, newOk_of H5.pre n6, s6, ha7, H4.pre, H7, H7.pre⟩
theorem l1Put_run {x : Int} (X : Ints h v xs) (hl : xs.length ≤ 2 ^ 10) (hs : xs.Pairwise (· < ·)) : RunsC P G n_spec_l1Put [v, .int .i64 x] h fun w h' => h <+: h' ∧ Ints h' w (putI xs x) := by
  refine hideC fun K hK => enter_run e_spec_l1Put (by simp) ?_
  have Xs := X
  obtain ⟨ox, cx, rfl⟩ := X.shapeT
  simp -implicitDefEqProofs
  refine R_loopO (fun m s h2 => ∃ (k : Nat), k + m = xs.length ∧ s = [(0, .slice ox xs.length cx), (1, .int .i64 x), (5, .int .i64 k)] ∧ h2 = h ∧ ∀ j z, j < k → xs[j]? = some z → z < x) (fun I hI m s h2 => ?_) (n := xs.length)
    ⟨0, Nat.zero_add _, by simp, rfl, fun i z h => by omega⟩
  rintro ⟨k, hk, rfl, rfl, hall⟩
  have fin : (∀ z, xs[k]? = some z → x < z) → ∃ (a3 : Option Addr) (b3 c3 : Nat) (a4 : Option Addr) (b4 c4 : Nat) (h4 : Hp) (a5 : Option Addr) (b5 c5 : Nat) (h5 : Hp) (a6 : Option Addr) (b6 c6 : Nat) (a7 : Option Addr) (b7 c7 : Nat) (h7 : Hp),
      sliceP P h2 t_S_int (.slice ox xs.length cx) none (some (.int .i64 k)) = some (.slice a3 b3 c3) ∧ appendP P h2 t_S_int (.slice none 0 0) (.slice a3 b3 c3) = some (.slice a4 b4 c4, h4) ∧ newOk h2 h4 ∧
      appendP P (h4 ++ [some ⟨[.int .i64 x], 1, false⟩]) t_S_int (.slice a4 b4 c4) (.slice (some ⟨h4.length, 0, some 1⟩) 1 1) = some (.slice a5 b5 c5, h5) ∧ modOk h2.length (h4 ++ [some ⟨[.int .i64 x], 1, false⟩]) h5 ∧ newOk h2 h5 ∧
      sliceP P h5 t_S_int (.slice ox xs.length cx) (some (.int .i64 k)) none = some (.slice a6 b6 c6) ∧ appendP P h5 t_S_int (.slice a5 b5 c5) (.slice a6 b6 c6) = some (.slice a7 b7 c7, h7) ∧ K (.slice a7 b7 c7) (gc h2 h7 (.slice a7 b7 c7)) := fun g => by
    obtain ⟨a3, b3, c3, a4, b4, c4, h4, a5, b5, c5, h5, a6, b6, c6, a7, b7, c7, h7, s3, ha4, no4, ha5, md, no5, s6, ha7, hp4, H7, hp7⟩ := ins_see Xs (k := k) (by omega) x (by omega)
    refine ⟨a3, b3, c3, a4, b4, c4, h4, a5, b5, c5, h5, a6, b6, c6, a7, b7, c7, h7, s3, ha4, no4, ha5, md, no5, s6, ha7, ?_⟩
    have e : putI xs x = xs.take k ++ x :: xs.drop k := by
      have hn : xs.any (· == x) = false := by
        rw [List.any_eq_false]
        intro z hz
        obtain ⟨j, hj⟩ := List.getElem?_of_mem hz
        rcases Nat.lt_or_ge j k with q | q
        · have := hall j z q hj; simp; omega
        · obtain ⟨w, hw, _⟩ := drop_at (show k < xs.length by have := (List.getElem?_eq_some_iff.1 hj).1; omega)
          have h1 := g w hw
          rcases Nat.eq_or_lt_of_le q with q | q
          · subst q; rw [hj] at hw; cases hw; simp; omega
          · have := List.pairwise_iff_getElem.1 hs k j (List.getElem?_eq_some_iff.1 hw).1 (List.getElem?_eq_some_iff.1 hj).1 q
            rw [(List.getElem?_eq_some_iff.1 hw).2, (List.getElem?_eq_some_iff.1 hj).2] at this
            simp; omega
      unfold putI
      rw [hn, if_neg (by simp)]
      exact insF_take (by omega) (fun i z h1 h2 => by simpa using hall i z h1 h2) (fun z hz => by have := g z hz; simp; omega)
    rw [e] at hK
    exact onK hK ⟨pre_gcU H7.pre, Sees.gcU (H7.sees 0 rfl) fun g => g⟩
  by_cases hlt : k < xs.length
  · obtain ⟨z, hz, _⟩ := drop_at hlt
    have hlt' : (k : Int) < xs.length := by omega
    by_cases c1 : z < x
    · simp -implicitDefEqProofs [-indexAddrP_some, hlt, hlt', load_I Xs hz, c1, winc hlt (by omega)]
      exact ⟨m - 1, by omega, on hI ⟨k + 1, by omega, rfl, rfl, fun j z' h1 h2 => by
        rcases Nat.lt_or_ge j k with g | g
        · exact hall j z' g h2
        · have : j = k := by omega
          subst this
          rw [hz] at h2; cases h2; exact c1⟩⟩
    · by_cases c2 : z = x
      · subst c2
        have e : putI xs z = xs := by
          unfold putI
          rw [if_pos (List.any_eq_true.2 ⟨z, List.mem_of_getElem? hz, by simp⟩)]
        rw [e] at hK
        simp -implicitDefEqProofs [-indexAddrP_some, hlt, hlt', load_I Xs hz]
        exact onK hK ⟨List.prefix_rfl, Xs⟩
      · rcases fin (fun z' g => by rw [hz] at g; cases g; omega) with ⟨a3, b3, c3, a4, b4, c4, h4, a5, b5, c5, h5, a6, b6, c6, a7, b7, c7, h7, s3, ha4, no4, ha5, md, no5, s6, ha7, fK⟩
        · simp -implicitDefEqProofs [-indexAddrP_some, hlt, hlt', load_I Xs hz, c1, nb c2, s3, ha4, no4, ha5, md, no5, s6, ha7]
          exact fK
  · rcases fin (fun z' g => by rw [List.getElem?_eq_none (by omega)] at g; cases g) with ⟨a3, b3, c3, a4, b4, c4, h4, a5, b5, c5, h5, a6, b6, c6, a7, b7, c7, h7, s3, ha4, no4, ha5, md, no5, s6, ha7, fK⟩
    · have hlt' : ¬ (k : Int) < xs.length := by omega
      simp -implicitDefEqProofs [-indexAddrP_some, hlt, hlt', s3, ha4, no4, ha5, md, no5, s6, ha7]
      exact fK
end
end Go.Pm.PP

/- Timely sets, of both. -/
set_option linter.unusedVariables false
set_option linter.unusedSimpArgs false
set_option maxRecDepth 4000
set_option maxHeartbeats 16000000
namespace Go.Pm.PP
open Go.Pm Go.Proofs Go.Pm.PE
section
variable {h : Hp} {vj v : Value} {js : List Job}
end
end Go.Pm.PP

/- Sums over sets; vectors. -/
set_option linter.unusedVariables false
set_option linter.unusedSimpArgs false
set_option maxRecDepth 4000
set_option maxHeartbeats 16000000
namespace Go.Pm.PP
open Go.Pm Go.Proofs Go.Pm.PE
section
variable {h : Hp} {vj v ve vs : Value} {js : List Job} {xs es s : List Int}
/-! ### sums -/
def supL (js : List Job) (es s : List Int) : Int := (s.map fun i => (jA js i).t * gE es i.toNat).sum
def timS (js : List Job) (s : List Int) : Int := (s.map fun i => (jA js i).t).sum
def sqrS (js : List Job) (s : List Int) : Int := (s.map fun i => (jA js i).t * (jA js i).t).sum
theorem jt_bd {js : List Job} (hg : goodL js = true) (x : Int) : 0 ≤ (jA js x).t ∧ (jA js x).t ≤ 50 := by
  rcases @jA_in js x with g | g
  · have := job_of (List.all_eq_true.1 hg _ g); omega
  · rw [g]; simp
end
end Go.Pm.PP

/- Vectors of ends: guards, short sets. -/
set_option linter.unusedVariables false
set_option linter.unusedSimpArgs false
set_option maxRecDepth 4000
set_option maxHeartbeats 16000000
namespace Go.Pm.PP
open Go.Pm Go.Proofs Go.Pm.PE
section
variable {h : Hp} {vj v ve vs u : Value} {js : List Job} {xs ys es s : List Int}
/-! ### short sets -/
end
end Go.Pm.PP

/- Vectors of ends: what both export. -/
set_option linter.unusedVariables false
set_option linter.unusedSimpArgs false
set_option maxRecDepth 4000
set_option maxHeartbeats 16000000
namespace Go.Pm.PP
open Go.Pm Go.Proofs Go.Pm.PE
section
variable {h : Hp} {vj v ve vs u : Value} {js : List Job} {xs ys es s : List Int}
end
end Go.Pm.PP

/- Vectors of orders, demands and supplies of sets, mixtures. -/
set_option linter.unusedVariables false
set_option linter.unusedSimpArgs false
set_option maxRecDepth 4000
set_option maxHeartbeats 16000000
namespace Go.Pm.PP
open Go.Pm Go.Proofs Go.Pm.PE
section
variable {h : Hp} {vj v ve vs u va vb : Value} {js : List Job} {xs ys es s a b : List Int} {x y : Int}
/-! ### sets -/
end
end Go.Pm.PP

/- Mixtures of vectors. -/
set_option linter.unusedVariables false
set_option linter.unusedSimpArgs false
set_option maxRecDepth 4000
set_option maxHeartbeats 16000000
namespace Go.Pm.PP
open Go.Pm Go.Proofs Go.Pm.PE
section
variable {h : Hp} {vj v ve vs u va vb : Value} {js : List Job} {xs ys es s a b : List Int} {x y : Int}
end
end Go.Pm.PP

/- Vectors of ends, in plain terms: short sets are first parts; orders' vectors; mixtures. -/
set_option linter.unusedVariables false
set_option linter.unusedSimpArgs false
set_option maxRecDepth 4000
set_option maxHeartbeats 4000000
namespace Go.Pm.PP
open Go.Pm Go.Proofs Go.Pm.PE
/-- Twice what a set has above its demand. -/
def f2 (js : List Job) (es s : List Int) : Int := 2 * supL js es s - (timS js s * timS js s + sqrS js s)
/-! ### vectors of orders -/
/-! ### mixtures -/
end Go.Pm.PP

/- The table of weights, the least weight of late jobs and timely orders, in plain terms. -/
set_option linter.unusedVariables false
set_option linter.unusedSimpArgs false
set_option maxRecDepth 4000
namespace Go.Pm.PP
open Go.Pm Go.Proofs Go.Pm.PE
theorem okG_timGo {js : List Job} : ∀ {xs : List Int} {now : Int}, okG (tJ js) (dJ js) 0 now xs = timGo js now xs
  | [], _ => rfl
  | x :: r, now => by
    rw [okG, timGo, okG_timGo, Int.add_zero]; rfl
theorem dueL_perm {js : List Job} {xs : List Int} : (dueL js xs).Perm xs := sortB_perm
section
variable {js : List Job}
/-- A timely list in any order is a timely set. -/
theorem tim_any (hok : plOk js = true) {S s : List Int} (hp : S.Perm s) (h : timGo js 0 S = true) : timB js s = true := by
  have p := plOk_pl hok
  have h1 := (tim_lat p (xs := S) (Int.le_refl 0) (Int.le_refl 0)).1 h
  have h2 := lat_best (js := js) (m := 0) p (xs := S) (ys := dueL js s) dueL_d (hp.trans dueL_perm.symm)
  exact (tim_lat p (xs := dueL js s) (Int.le_refl 0) (Int.le_refl 0)).2 (Int.le_trans h2 h1)
theorem code_of {S : List Int} (hnd : S.Nodup) (hin : inN js.length S) : ∃ c, c < 2 ^ js.length ∧ (bitsL js.length c).Perm S := by
  have hs : (ascL S).Pairwise (· < ·) := by
    have h1 : (ascL S).Perm S := sortB_perm
    have h2 := sortB_weak (ah := fun a b => decide (a < b)) ⟨fun h => by simp at h ⊢; omega, fun h1 h2 => by simp at h1 h2 ⊢; omega⟩ (l := S)
    have h3 : (ascL S).Nodup := h1.nodup_iff.2 hnd
    have h2 : (ascL S).Pairwise fun a b => a ≤ b := h2.imp fun h => by simpa using h
    exact List.Pairwise.imp (fun h => by omega) (h2.and h3)
  obtain ⟨c, hc, e⟩ := bits_of (n := js.length) (m := js.length) (Nat.le_refl _) hs fun x hx => hin x ((sortB_perm (ah := fun a b => decide (a < b)) (l := S)).mem_iff.1 hx)
  exact ⟨c, hc, by rw [e]; exact sortB_perm⟩
/-! ### the greatest one -/
/-! ### late jobs of an order -/
def onT (js : List Job) : Int → List Int → List Int
  | _, [] => []
  | now, x :: r => if now + (jA js x).t ≤ (jA js x).d then x :: onT js (now + (jA js x).t) r else onT js (now + (jA js x).t) r
theorem onT_sub : ∀ {xs : List Int} {now : Int}, (onT js now xs).Sublist xs
  | [], _ => List.Sublist.refl _
  | x :: r, now => by
    rw [onT]
    split
    · exact onT_sub.cons_cons x
    · exact onT_sub.cons x
theorem onT_tim (p : Pl js) : ∀ {xs : List Int} {a b : Int}, a ≤ b → timGo js a (onT js b xs) = true
  | [], _, _, _ => rfl
  | x :: r, a, b, h => by
    have := p.t x
    rw [onT]
    split
    · rw [timGo, Bool.and_eq_true, decide_eq_true_eq]
      exact ⟨by omega, onT_tim p (by omega)⟩
    · exact onT_tim p (by omega)
/-! ### an order that begins with a timely set -/
end
end Go.Pm.PP

/- The table of weights and the least weight of late jobs, of both; timely orders, of both. -/
set_option linter.unusedVariables false
set_option linter.unusedSimpArgs false
set_option maxRecDepth 4000
set_option maxHeartbeats 16000000
namespace Go.Pm.PP
open Go.Pm Go.Proofs Go.Pm.PE
section
variable {h : Hp} {vj v u : Value} {js : List Job} {xs ys : List Int}
end
end Go.Pm.PP

/- The table of weights by the reference; the least weight of late jobs and timely orders, of both; late jobs. -/
set_option linter.unusedVariables false
set_option linter.unusedSimpArgs false
set_option maxRecDepth 4000
set_option maxHeartbeats 16000000
namespace Go.Pm.PP
open Go.Pm Go.Proofs Go.Pm.PE
theorem l1Least_run {h : Hp} {a b : Int} : Ret P G n_spec_l1Least [.int .i64 a, .int .i64 b] h (.int .i64 (min a b)) h := by
  refine enter_run e_spec_l1Least (by simp) ?_
  by_cases c : a < b
  · simp -implicitDefEqProofs [c, Int.min_eq_left (Int.le_of_lt c)]
  · simp -implicitDefEqProofs [c, Int.min_eq_right (Int.not_lt.1 c)]
section
variable {h : Hp} {vj v u : Value} {js : List Job} {xs ys : List Int}
theorem set_same {T : List Int} {k : Nat} (hk : k < T.length) : T.set k (gE T k) = T := by
  apply List.ext_getElem?
  intro i
  rw [List.getElem?_set]
  split
  · rename_i e; subst e; exact (gE_get hk).symm
  · rfl
end
end Go.Pm.PP

/- FnVectors, from its draws. -/
set_option linter.unusedVariables false
set_option linter.unusedSimpArgs false
set_option maxRecDepth 4000
set_option maxHeartbeats 16000000
namespace Go.Pm.PP
open Go.Pm Go.Proofs Go.Pm.PE
end Go.Pm.PP

/- Timely orders, the least weight of late jobs, late jobs; comparisons of the laws. -/
set_option linter.unusedVariables false
set_option linter.unusedSimpArgs false
set_option maxRecDepth 4000
set_option maxHeartbeats 16000000
namespace Go.Pm.PP
open Go.Pm Go.Proofs Go.Pm.PE
section
variable {h : Hp} {vj v u : Value} {js : List Job} {xs ys : List Int}
/-! ### orders -/
theorem up_snoc {n : Nat} : upTo (n + 1) = upTo n ++ [(n : Int)] := by unfold upTo; rw [List.range_succ, List.map_append]; rfl
theorem others_run {n : Nat} (X : Ints h v xs) (hn : n ≤ 2 ^ 10) (hx : xs.length ≤ 2 ^ 40) : RunsC P G n_impl_others [.int .i64 n, v] h fun w h' => h <+: h' ∧ Own h.length h' w 1 ((delF (upTo n) xs).map encI) := by
  refine hideC fun K hK => enter_run e_impl_others (by simp) ?_
  have Xs := X
  obtain ⟨oa, c, rfl⟩ := X.shapeT
  have H0 := own_nil (Holds.start (h := h)) Int encI 1
  simp -implicitDefEqProofs
  refine R_loopO (fun m s h' => ∃ (i : Nat) (w : Value), i + m = n ∧ s = [(0, .int .i64 n), (1, .slice oa xs.length c), (5, w), (6, .int .i64 i)] ∧ Holds h h' [.own w 1 ((delF (upTo i) xs).map encI)]) (fun I hI m s h' => ?_) (n := n) ⟨0, .slice none 0 0, Nat.zero_add _, by simp, by simpa [delF, upTo] using H0⟩
  rintro ⟨i, w, hi, rfl, H⟩
  by_cases hlt : i < n
  · have hlt' : (i : Int) < n := by omega
    have rh := has_run (x := (i : Int)) (Xs.pre H.pre) hx
    have e : delF (upTo (i + 1)) xs = delF (upTo i) xs ++ if hasL (i : Int) xs = true then [] else [(i : Int)] := by
      unfold delF
      rw [up_snoc, List.filter_append]
      congr 1
      cases g : hasL (i : Int) xs <;> simp [List.filter_cons, g]
    have hle : (delF (upTo i) xs).length ≤ i := Nat.le_trans (List.length_filter_le ..) (by rw [upTo_len]; omega)
    cases c1 : hasL (i : Int) xs
    · rw [c1, if_neg (by simp)] at e
      rw [c1] at rh
      obtain ⟨v', h2, ha, H2, _⟩ := push_I0 H 0 rfl (i : Int) (by omega)
      rw [← e] at H2
      simp -implicitDefEqProofs [hlt, hlt', CL_ret rh, ha, winc hlt (by omega)]
      exact ⟨m - 1, by omega, on hI ⟨i + 1, v', by omega, rfl, H2⟩⟩
    · rw [c1, if_pos rfl, List.append_nil] at e
      rw [c1] at rh
      rw [← e] at H
      simp -implicitDefEqProofs [hlt, hlt', CL_ret rh, winc hlt (by omega)]
      exact ⟨m - 1, by omega, on hI ⟨i + 1, w, by omega, rfl, H⟩⟩
  · have hlt' : ¬ (i : Int) < n := by omega
    have : i = n := by omega
    subst this
    simp -implicitDefEqProofs [hlt, hlt']
    exact onK hK (H.ret 0 rfl)
/-! ### late jobs -/
def lateF (js : List Job) (es : List Int) (n : Nat) : List Int := (upTo n).filter fun x => decide ((jA js x).d < gE es x.toNat)
theorem late_snoc {es : List Int} {n : Nat} : lateF js es (n + 1) = lateF js es n ++ if (jA js n).d < gE es n then [(n : Int)] else [] := by
  unfold lateF
  rw [up_snoc, List.filter_append]
  congr 1
  by_cases g : (jA js n).d < gE es n <;> simp [List.filter_cons, g]
theorem implLateJobs_run (J : Jobs h vj js) (X : Ints h v xs) (hok : jOk js = true) (ox : Ord js.length xs) : RunsC P G n_impl_LateJobs [vj, v] h fun w h' => h <+: h' ∧ ∃ d, w = .tuple #[d, .bool true] ∧ Ints h' d (lateF js (endsL js xs) js.length) := by
  refine hideC fun K hK => enter_run e_impl_LateJobs (by simp) ?_
  obtain ⟨hn, hg⟩ := jOk_of hok
  have r1 := isScheduled_run J X (by omega) (by have := ox.len; omega)
  rw [hok, ord_ok hn ox] at r1
  have Js := J
  have Xs := X
  obtain ⟨oj, cj, rfl⟩ := J.shapeT
  obtain ⟨oa, ca, rfl⟩ := X.shapeT
  simp -implicitDefEqProofs [CL_ret r1]
  refine CL_post (endsOf_run Js Xs hg hn (by have := ox.len; omega) ox.inn) fun w h1 ⟨hp1, o1, bd1⟩ => ?_
  have S1 : Ints h1 w (endsL js xs) := o1.sees
  have hel : (endsL js xs).length = js.length := endsL_len
  generalize endsL js xs = es at *
  obtain ⟨ea, ec, rfl⟩ : ∃ a c, w = .slice a es.length c := S1.shapeT
  have H0 := own_nil (Holds.start (h := h1)) Int encI 1
  simp -implicitDefEqProofs
  refine R_loopO (fun m s h' => ∃ (i : Nat) (z : Value), i + m = es.length ∧ s = [(0, .slice oj js.length cj), (6, z), (15, .slice ea es.length ec), (16, .int .i64 es.length), (17, .int .i64 i)] ∧ Holds h1 h' [.own z 1 ((lateF js es i).map encI)]) (fun I hI m s h' => ?_) (n := es.length) ⟨0, .slice none 0 0, Nat.zero_add _, by simp, by simpa [lateF, upTo] using H0⟩
  rintro ⟨i, z, hi, rfl, H⟩
  by_cases hlt : i < es.length
  · have hlt' : (i : Int) < es.length := by omega
    have hp := H.pre
    have le := load_I (S1.pre hp) (gE_get hlt)
    have lj := load_JX (Js.pre (hp1.trans hp)) (x := (i : Int)) ⟨by omega, by omega⟩
    simp only [Int.toNat_natCast] at lj
    have e := @late_snoc js es i
    have hle : (lateF js es i).length ≤ i := Nat.le_trans (List.length_filter_le ..) (by rw [upTo_len]; omega)
    by_cases c : (jA js i).d < gE es i
    · rw [if_pos c] at e
      obtain ⟨v', h2, ha, H2, _⟩ := push_I0 H 0 rfl (i : Int) (by omega)
      rw [← e] at H2
      simp -implicitDefEqProofs [-indexAddrP_some, hlt, hlt', le, lj, c, ha, winc hlt (by omega)]
      exact ⟨m - 1, by omega, on hI ⟨i + 1, v', by omega, by simp, H2⟩⟩
    · rw [if_neg c, List.append_nil] at e
      rw [← e] at H
      simp -implicitDefEqProofs [-indexAddrP_some, hlt, hlt', le, lj, c, winc hlt (by omega)]
      exact ⟨m - 1, by omega, on hI ⟨i + 1, z, by omega, by simp, H⟩⟩
  · have hlt' : ¬ (i : Int) < es.length := by omega
    have : i = js.length := by omega
    subst this
    obtain ⟨za, zn, zc, rfl⟩ : ∃ a n c, z = .slice a n c := by obtain ⟨a, c, e⟩ := (H.sees 0 rfl).shape; exact ⟨_, _, _, e⟩
    have H9 := (Holds.start (h := h)).call (hp1.trans H.pre) ((H.own 0 rfl).low hp1.length_le)
    simp -implicitDefEqProofs [hlt, hlt']
    exact onK hK ⟨(H9.ret2 0 rfl).1, _, rfl, (H9.ret2 0 rfl).2.sees⟩
end
end Go.Pm.PP

/- The late rule, in plain terms: what is left is a largest part of the jobs taken that can be on time, with the least sum of times. -/
set_option linter.unusedVariables false
set_option linter.unusedSimpArgs false
namespace Go.Pm.PE
open Go.Pm.PP
section
variable (t d : Int → Int)
/-- The index of the first one of the longest. -/
def lgS (l : List Int) (b i : Nat) : Nat := if t (gE l b) < t (gE l i) then i else b
def lgI (l : List Int) : Nat := (List.range' 0 l.length).foldl (lgS t l) 0
def lrS (s : List Int × List (Int × Int)) (x : Int) : List Int × List (Int × Int) :=
  if tsm t (s.1 ++ [x]) ≤ d x then (s.1 ++ [x], s.2 ++ [(x, -1)]) else ((s.1 ++ [x]).eraseIdx (lgI t (s.1 ++ [x])), s.2 ++ [(x, gE (s.1 ++ [x]) (lgI t (s.1 ++ [x])))])
def lrG (l : List Int) : List Int × List (Int × Int) := l.foldl (lrS t d) ([], [])
end
section
variable {t d : Int → Int}
theorem lg_go {l : List Int} : ∀ {m i b : Nat}, b < l.length → i + m ≤ l.length → let q := (List.range' i m).foldl (lgS t l) b
    q < l.length ∧ t (gE l b) ≤ t (gE l q) ∧ (∀ j, i ≤ j → j < i + m → t (gE l j) ≤ t (gE l q)) ∧ (q = b ∨ t (gE l b) < t (gE l q)) ∧ (q = b ∨ i ≤ q)
  | 0, i, b, hb, _ => ⟨hb, Int.le_refl _, fun j h1 h2 => by omega, .inl rfl, .inl rfl⟩
  | m + 1, i, b, hb, h => by
    rw [List.range'_succ, List.foldl_cons]
    by_cases c : t (gE l b) < t (gE l i)
    · have e : lgS t l b i = i := by unfold lgS; rw [if_pos c]
      rw [e]
      obtain ⟨h1, h2, h3, h4, h5⟩ := lg_go (l := l) (m := m) (i := i + 1) (b := i) (by omega) (by omega)
      refine ⟨h1, by omega, fun j j1 j2 => ?_, .inr (by omega), .inr (by omega)⟩
      rcases Nat.lt_or_ge i j with g | g
      · exact h3 j g (by omega)
      · have : j = i := by omega
        subst this; exact h2
    · have e : lgS t l b i = b := by unfold lgS; rw [if_neg c]
      rw [e]
      obtain ⟨h1, h2, h3, h4, h5⟩ := lg_go (l := l) (m := m) (i := i + 1) (b := b) hb (by omega)
      refine ⟨h1, h2, fun j j1 j2 => ?_, h4, by omega⟩
      rcases Nat.lt_or_ge i j with g | g
      · exact h3 j g (by omega)
      · have : j = i := by omega
        subst this; omega
theorem lg_spec {l : List Int} (h : l ≠ []) : lgI t l < l.length ∧ ∀ x, x ∈ l → t x ≤ t (gE l (lgI t l)) := by
  have hp : 0 < l.length := List.length_pos_iff.2 h
  obtain ⟨h1, h2, h3, _⟩ := lg_go (t := t) (l := l) (m := l.length) (i := 0) (b := 0) hp (by omega)
  refine ⟨h1, fun x hx => ?_⟩
  obtain ⟨j, hj⟩ := List.getElem?_of_mem hx
  have hjl := (List.getElem?_eq_some_iff.1 hj).1
  have := h3 j (by omega) (by omega)
  have e : gE l j = x := by unfold gE; rw [hj]; rfl
  rw [e] at this
  exact this
theorem erase_perm {l : List Int} {k : Nat} (h : k < l.length) : l.Perm (gE l k :: l.eraseIdx k) := by
  have e : l = l.take k ++ gE l k :: l.drop (k + 1) := by
    have h1 : l[k]? = some (gE l k) := gE_get h
    have := List.take_append_drop k l
    rw [List.drop_eq_getElem_cons h] at this
    have e2 : l[k] = gE l k := by have := List.getElem?_eq_some_iff.1 h1; exact this.2
    rw [e2] at this
    exact this.symm
  rw [List.eraseIdx_eq_take_drop_succ]
  conv => lhs; rw [e]
  exact List.perm_middle
theorem okG_drop {A B : List Int} {x : Int} (ht : ∀ x, 0 ≤ t x) {now : Int} (h : okG t d 0 now (A ++ x :: B) = true) : okG t d 0 now (A ++ B) = true := by
  rw [okG_app, Bool.and_eq_true] at h ⊢
  refine ⟨h.1, ?_⟩
  have h2 := h.2
  rw [okG, Bool.and_eq_true] at h2
  have := ht x
  exact okG_mono (by omega) h2.2
theorem okG_erase {l : List Int} {k : Nat} (ht : ∀ x, 0 ≤ t x) (hk : k < l.length) {now : Int} (h : okG t d 0 now l = true) : okG t d 0 now (l.eraseIdx k) = true := by
  have e : l = l.take k ++ l[k] :: l.drop (k + 1) := by
    have := List.take_append_drop k l
    rw [List.drop_eq_getElem_cons hk] at this
    exact this.symm
  rw [List.eraseIdx_eq_take_drop_succ]
  rw [e] at h
  exact okG_drop ht h
/-- The end of a list that is on time: its sum is no greater than the date of its last one. -/
theorem ok_last {l : List Int} {x : Int} (h : okG t d 0 0 (l ++ [x]) = true) : tsm t (l ++ [x]) ≤ d x := by
  rw [okG_app, Bool.and_eq_true] at h
  have h2 := h.2
  simp only [okG, Bool.and_true, decide_eq_true_eq] at h2
  rw [tsm_app, tsm_cons]
  simp only [show tsm t [] = 0 from rfl]
  omega
theorem nd_le {s l : List Int} (h : s.Nodup) (hm : ∀ x, x ∈ s → x ∈ l) : s.length ≤ l.length := by
  induction s generalizing l with
  | nil => simp
  | cons x s ih =>
    obtain ⟨h1, h2⟩ := List.nodup_cons.1 h
    have hx := hm x (List.mem_cons_self ..)
    have p := List.perm_cons_erase hx
    have := ih (l := l.erase x) h2 fun y hy => by
      have := p.mem_iff.1 (hm y (List.mem_cons_of_mem _ hy))
      rcases List.mem_cons.1 this with rfl | g
      · exact absurd hy h1
      · exact g
    have := p.length_eq
    simp only [List.length_cons] at this ⊢
    omega
theorem nd_perm {s l : List Int} (h : s.Nodup) (hm : ∀ x, x ∈ s → x ∈ l) (hl : l.length ≤ s.length) (hn : l.Nodup) : s.Perm l := by
  refine (List.perm_ext_iff_of_nodup h hn).2 fun x => ⟨hm x, fun hx => ?_⟩
  refine Classical.byContradiction fun g => ?_
  have := nd_le (s := x :: s) (l := l) (List.nodup_cons.2 ⟨g, h⟩) fun y hy => by
    rcases List.mem_cons.1 hy with rfl | k
    · exact hx
    · exact hm y k
  simp only [List.length_cons] at this
  omega
/-- What holds of the jobs that are left. -/
structure LRI (t d : Int → Int) (D E : List Int) : Prop where
  sub : E.Sublist D
  ok : okG t d 0 0 E = true
  dom : ∀ S, S.Sublist D → okG t d 0 0 S = true → ∃ S', S'.Nodup ∧ (∀ x, x ∈ S' → x ∈ E) ∧ S'.length = S.length ∧ tsm t S' ≤ tsm t S
theorem LRI.nil : LRI t d [] [] := ⟨List.Sublist.refl _, rfl, fun S hS _ => ⟨[], List.nodup_nil, fun x h => (by cases h), by rw [List.sublist_nil.1 hS], by rw [List.sublist_nil.1 hS]; exact Int.le_refl _⟩⟩
theorem LRI.step (ht : ∀ x, 0 ≤ t x) {D E : List Int} {x : Int} (I : LRI t d D E) (hnd : (D ++ [x]).Nodup) (hd : ∀ y, y ∈ D → d y ≤ d x) : LRI t d (D ++ [x]) (if tsm t (E ++ [x]) ≤ d x then E ++ [x] else (E ++ [x]).eraseIdx (lgI t (E ++ [x]))) := by
  have hxD : x ∉ D := fun g => by
    have := (List.nodup_append.1 hnd).2.2 x g x (List.mem_singleton.2 rfl)
    exact this rfl
  have hxE : x ∉ E := fun g => hxD (I.sub.subset g)
  have hsub : (E ++ [x]).Sublist (D ++ [x]) := I.sub.append (List.Sublist.refl _)
  have hndE : (E ++ [x]).Nodup := hnd.sublist hsub
  have last : ∀ S, S.Sublist (D ++ [x]) → okG t d 0 0 S = true → S ≠ [] → tsm t S ≤ d x := fun S hS ho hne => by
    obtain ⟨r, y, rfl⟩ := snoc_of hne
    have h1 := ok_last ho
    have hy : y ∈ D ++ [x] := hS.subset (by simp)
    rcases List.mem_append.1 hy with g | g
    · have := hd y g; omega
    · rw [List.mem_singleton.1 g] at h1 ⊢; exact h1
  -- some part of what was left, and of the one that is taken
  have wide : ∀ S, S.Sublist (D ++ [x]) → okG t d 0 0 S = true → ∃ S', S'.Nodup ∧ (∀ y, y ∈ S' → y ∈ E ++ [x]) ∧ S'.length = S.length ∧ tsm t S' ≤ tsm t S := fun S hS ho => by
    rcases sub_snoc.1 hS with g | ⟨S0, rfl, g⟩
    · obtain ⟨S', a, b, c, e⟩ := I.dom S g ho
      exact ⟨S', a, fun y hy => List.mem_append_left _ (b y hy), c, e⟩
    · rw [okG_app, Bool.and_eq_true] at ho
      obtain ⟨S', a, b, c, e⟩ := I.dom S0 g ho.1
      refine ⟨S' ++ [x], List.nodup_append.2 ⟨a, by simp, fun u hu v hv e => ?_⟩, fun y hy => ?_, by simp [c], ?_⟩
      · rw [List.mem_singleton.1 hv] at e
        exact hxE (e ▸ b u hu)
      · rcases List.mem_append.1 hy with g | g
        · exact List.mem_append_left _ (b y g)
        · exact List.mem_append_right _ g
      · rw [tsm_app, tsm_app]; omega
  by_cases c : tsm t (E ++ [x]) ≤ d x
  · rw [if_pos c]
    refine ⟨hsub, ?_, wide⟩
    rw [okG_app, I.ok]
    rw [tsm_app, tsm_cons] at c
    simp only [show tsm t [] = 0 from rfl] at c
    simp only [okG, Bool.and_true, Bool.true_and, decide_eq_true_eq]
    omega
  · rw [if_neg c]
    obtain ⟨k1, k2⟩ := lg_spec (t := t) (l := E ++ [x]) (by simp)
    generalize lgI t (E ++ [x]) = k at *
    have hp := erase_perm k1
    obtain ⟨l, hl⟩ : ∃ l, l = gE (E ++ [x]) k := ⟨_, rfl⟩
    rw [← hl] at hp k2
    have hndp := hp.nodup_iff.1 hndE
    obtain ⟨n1, n2⟩ := List.nodup_cons.1 hndp
    refine ⟨(List.eraseIdx_sublist ..).trans hsub, ?_, fun S hS ho => ?_⟩
    · -- still on time
      rcases Nat.lt_or_ge k E.length with g | g
      · rw [List.eraseIdx_append_of_lt_length g, okG_app, okG_erase ht g I.ok]
        have hpE := erase_perm g
        have e1 : gE E k = l := by
          rw [hl]; unfold gE; rw [List.getElem?_append_left g]
        rw [e1] at hpE
        have s1 := tsm_perm (t := t) hpE
        rw [tsm_cons] at s1
        have s2 := k2 x (by simp)
        have hne : E ≠ [] := List.length_pos_iff.1 (by omega)
        have s3 := last E (I.sub.trans (List.sublist_append_left ..)) I.ok hne
        simp only [okG, Bool.and_true, Bool.true_and, decide_eq_true_eq]
        omega
      · have : k = E.length := by simp at k1; omega
        subst this
        rw [List.eraseIdx_append_of_length_le (Nat.le_refl _), Nat.sub_self]
        simpa using I.ok
    · obtain ⟨S', a, b, c', e⟩ := wide S hS ho
      by_cases hlS : l ∈ S'
      · -- some one of them is not in it
        have : ∃ z, z ∈ E ++ [x] ∧ z ∉ S' := by
          refine Classical.byContradiction fun g => ?_
          have hall : ∀ z, z ∈ E ++ [x] → z ∈ S' := fun z hz => Classical.byContradiction fun k => g ⟨z, hz, k⟩
          have hpm := nd_perm a b (nd_le hndE hall) hndE
          have h1 := tsm_perm (t := t) hpm
          have h2 := last S hS ho (fun k => by
            rw [k] at c'
            have : S' = [] := List.length_eq_zero_iff.1 (by simpa using c')
            rw [this] at hlS; cases hlS)
          omega
        obtain ⟨z, hz, hzS⟩ := this
        have hpl := List.perm_cons_erase hlS
        have hne : z ≠ l := fun g => hzS (g ▸ hlS)
        have ndl := List.nodup_cons.1 (hpl.nodup_iff.1 a)
        refine ⟨z :: S'.erase l, List.nodup_cons.2 ⟨fun g => hzS (hpl.mem_iff.2 (List.mem_cons_of_mem _ g)), ndl.2⟩, fun y hy => ?_, ?_, ?_⟩
        · rcases List.mem_cons.1 hy with rfl | g
          · rcases List.mem_cons.1 (hp.mem_iff.1 hz) with g | g
            · exact absurd g hne
            · exact g
          · have h1 := b y (hpl.mem_iff.2 (List.mem_cons_of_mem _ g))
            rcases List.mem_cons.1 (hp.mem_iff.1 h1) with k | k
            · exact absurd (k ▸ g) ndl.1
            · exact k
        · have := hpl.length_eq
          simp only [List.length_cons] at this ⊢
          omega
        · have s1 := tsm_perm (t := t) hpl
          rw [tsm_cons] at s1 ⊢
          have := k2 z hz
          omega
      · refine ⟨S', a, fun y hy => ?_, c', e⟩
        rcases List.mem_cons.1 (hp.mem_iff.1 (b y hy)) with g | g
        · exact absurd (g ▸ hy) hlS
        · exact g
theorem lr_fst {s : List Int × List (Int × Int)} {x : Int} : (lrS t d s x).1 = if tsm t (s.1 ++ [x]) ≤ d x then s.1 ++ [x] else (s.1 ++ [x]).eraseIdx (lgI t (s.1 ++ [x])) := by
  unfold lrS; split <;> rfl
theorem lrG_inv (ht : ∀ x, 0 ≤ t x) {D : List Int} (hnd : D.Nodup) (hs : D.Pairwise fun a b => d a ≤ d b) : ∀ {k : Nat}, k ≤ D.length → LRI t d (D.take k) (lrG t d (D.take k)).1
  | 0, _ => LRI.nil
  | k + 1, hk => by
    have ih := lrG_inv ht hnd hs (k := k) (by omega)
    have hx : D[k]? = some D[k] := List.getElem?_eq_getElem (by omega)
    generalize D[k] = x at hx
    have e := take_snoc hx
    rw [e]
    have eg : lrG t d (D.take k ++ [x]) = lrS t d (lrG t d (D.take k)) x := by unfold lrG; rw [List.foldl_append]; rfl
    rw [eg, lr_fst]
    refine ih.step ht (by rw [← e]; exact hnd.sublist (List.take_sublist ..)) fun y hy => ?_
    obtain ⟨j, hj⟩ := List.getElem?_of_mem hy
    rw [List.getElem?_take] at hj
    split at hj
    · rename_i g
      obtain ⟨h1, h2⟩ := List.getElem?_eq_some_iff.1 hj
      obtain ⟨h3, h4⟩ := List.getElem?_eq_some_iff.1 hx
      have := List.pairwise_iff_getElem.1 hs j k h1 h3 g
      rw [h2, h4] at this
      exact this
    · cases hj
theorem LRI.most {D E S : List Int} (I : LRI t d D E) (hE : E.Nodup) (hS : S.Sublist D) (ho : okG t d 0 0 S = true) : S.length ≤ E.length ∧ (S.length = E.length → tsm t E ≤ tsm t S) := by
  obtain ⟨S', a, b, c, e⟩ := I.dom S hS ho
  have := nd_le a b
  refine ⟨by omega, fun h => ?_⟩
  have := tsm_perm (t := t) (nd_perm a b (by omega) hE)
  omega
/-! ### the steps -/
def gone (s : List (Int × Int)) : List Int := (s.map Prod.snd).filter fun x => decide (0 ≤ x)
theorem gone_snoc {s : List (Int × Int)} {p : Int × Int} : gone (s ++ [p]) = gone s ++ if 0 ≤ p.2 then [p.2] else [] := by
  unfold gone
  rw [List.map_append, List.filter_append]
  congr 1
  by_cases g : 0 ≤ p.2 <;> simp [g]
theorem lr_parts : ∀ {l : List Int} {s : List Int × List (Int × Int)} {L : List Int}, (∀ x, x ∈ l → 0 ≤ x) → (∀ x, x ∈ s.1 → 0 ≤ x) → (s.1 ++ gone s.2).Perm L → s.2.map Prod.fst = L → (((l.foldl (lrS t d) s).1 ++ gone (l.foldl (lrS t d) s).2).Perm (L ++ l) ∧ (l.foldl (lrS t d) s).2.map Prod.fst = L ++ l)
  | [], s, L, _, _, hp, hf => by rw [List.append_nil]; exact ⟨hp, hf⟩
  | x :: l, s, L, hl, hs, hp, hf => by
    have hx := hl x (List.mem_cons_self ..)
    rw [List.foldl_cons, show L ++ x :: l = (L ++ [x]) ++ l by simp]
    have hsx : ∀ y, y ∈ s.1 ++ [x] → 0 ≤ y := fun y hy => by
      rcases List.mem_append.1 hy with g | g
      · exact hs y g
      · rw [List.mem_singleton.1 g]; exact hx
    refine lr_parts (fun y hy => hl y (List.mem_cons_of_mem _ hy)) (fun y hy => ?_) ?_ ?_
    · rw [lr_fst] at hy
      split at hy
      · exact hsx y hy
      · exact hsx y ((List.eraseIdx_sublist ..).subset hy)
    · unfold lrS
      split
      · simp only [gone_snoc, show ¬ (0 : Int) ≤ -1 by omega, if_false, List.append_nil]
        have h1 : (s.1 ++ [x] ++ gone s.2).Perm (s.1 ++ gone s.2 ++ [x]) := by
          rw [List.append_assoc, List.append_assoc]
          exact List.perm_append_comm.append_left s.1
        exact h1.trans (hp.append_right _)
      · have hk := (lg_spec (t := t) (l := s.1 ++ [x]) (by simp)).1
        have hpe := erase_perm hk
        have h0 := hsx _ (hpe.symm.subset (List.mem_cons_self ..))
        simp only [gone_snoc, h0, if_true]
        generalize (s.1 ++ [x]).eraseIdx (lgI t (s.1 ++ [x])) = E at *
        generalize gE (s.1 ++ [x]) (lgI t (s.1 ++ [x])) = z at *
        have h1 : (E ++ (gone s.2 ++ [z])).Perm (z :: E ++ gone s.2) := by
          rw [← List.append_assoc]
          exact List.perm_append_comm (l₂ := [z])
        have h2 : (z :: E ++ gone s.2).Perm (s.1 ++ [x] ++ gone s.2) := hpe.symm.append_right _
        have h3 : (s.1 ++ [x] ++ gone s.2).Perm (s.1 ++ gone s.2 ++ [x]) := by
          rw [List.append_assoc, List.append_assoc]
          exact List.perm_append_comm.append_left s.1
        exact (h1.trans h2).trans (h3.trans (hp.append_right _))
    · unfold lrS
      split <;> simp [hf]
theorem lrG_parts {l : List Int} (hl : ∀ x, x ∈ l → 0 ≤ x) : ((lrG t d l).1 ++ gone (lrG t d l).2).Perm l ∧ (lrG t d l).2.map Prod.fst = l := by
  have := lr_parts (t := t) (d := d) (l := l) (s := ([], [])) (L := []) hl (fun x h => by cases h) (by simp [gone]) rfl
  unfold lrG
  simpa using this
theorem lrG_snoc {l : List Int} {x : Int} : lrG t d (l ++ [x]) = lrS t d (lrG t d l) x := by unfold lrG; rw [List.foldl_append]; rfl
end
end Go.Pm.PE

/- The late rule by the program. -/
set_option linter.unusedVariables false
set_option linter.unusedSimpArgs false
set_option maxRecDepth 4000
set_option maxHeartbeats 16000000
namespace Go.Pm.PP
open Go.Pm Go.Proofs Go.Pm.PE
theorem _root_.Go.Pm.Holds.base {h0 h1 h : Hp} {L : List Asn} (H : Holds h1 h L) (hp : h0 <+: h1) : Holds h0 h L := by
  have hl := hp.length_le
  refine ⟨hp.trans H.pre, fun i A e => ?_, H.dist⟩
  have := H.ok i A e
  cases A with
  | own v sz els => exact Own.low this hl
  | box r cs => exact ⟨Nat.le_trans hl this.1, this.2⟩
theorem own_bare {b : Nat} {h : Hp} {v : Value} {sz : Nat} {els : List (List Value)} (o : Own b h v sz els) (hp : plainC v = true) : v = .slice none 0 0 ∧ els = [] := by
  rcases o.2 with g | ⟨r, rest, k, _, _, rfl, _⟩
  · exact g
  · cases hp
theorem _root_.Go.Pm.Holds.gcTwo {h0 h : Hp} {u w : Value} {s1 s2 : Nat} {e1 e2 : List (List Value)} (H : Holds h0 h [.own u s1 e1, .own w s2 e2]) : Holds h0 (gc h0 h (.tuple #[u, w])) [.own u s1 e1, .own w s2 e2] := by
  rcases gc_cases h0 h (.tuple #[u, w]) with g | ⟨hp, g⟩
  · rw [g]; exact H
  · rw [g]
    have p1 : plainC u = true := plainT (r := [_]) hp
    have p2 : plainC w = true := plain2T (r := []) hp
    obtain ⟨rfl, rfl⟩ := own_bare (H.own 0 rfl) p1
    obtain ⟨rfl, rfl⟩ := own_bare (H.own 1 rfl) p2
    have n1 : Own h0.length h0 (.slice none 0 0) s1 [] := Own.nil
    have n2 : Own h0.length h0 (.slice none 0 0) s2 [] := Own.nil
    exact ((Holds.start (h := h0)).call List.prefix_rfl n1).call List.prefix_rfl n2
/-- One element is taken out of one's own list, in place. -/
theorem cut_I {h0 h : Hp} {L : List Asn} (H : Holds h0 h L) (i : Nat) {v : Value} {xs : List Int} (hi : L[i]? = some (.own v 1 (xs.map encI))) {k : Nat} (hk : k < xs.length) (hn : xs.length ≤ 2 ^ 30) :
    ∃ lo hi' v' h', sliceP P h t_S_int v none (some (.int .i64 k)) = some lo ∧ sliceP P h t_S_int v (some (.int .i64 ((k : Int) + 1))) none = some hi' ∧ appendP P h t_S_int lo hi' = some (v', h') ∧ Holds h0 h' (L.set i (.own v' 1 ((xs.eraseIdx k).map encI))) ∧ Keeps (rowV v) h h' := by
  have o := H.own i hi
  obtain ⟨lo, s1, o1, r1⟩ := o.front (P := P) u_S_int i_int (k := .i64) (j := (k : Int)) (by omega) (by simp; omega)
  rw [Int.toNat_natCast, ← List.map_take] at o1
  obtain ⟨hi', s2, f2, _⟩ := o.sees.back (P := P) u_S_int i_int (k := .i64) (j := (k : Int) + 1) (by omega) (by simp; omega)
  rw [show ((k : Int) + 1).toNat = k + 1 by omega, ← List.map_drop] at f2
  have hd : ((xs.drop (k + 1)).map encI).flatten.all one = true := ones_I _
  obtain ⟨v', h', e1, o2, k2, hr⟩ := o1.append (P := P) u_S_int e_t_int z_t_int s_t_int (by omega) (by rw [b_t_int]; omega) f2 hd H.pre.length_le (by rw [b_t_int]; simp; omega)
  rw [r1] at k2 hr
  refine ⟨lo, hi', v', h', s1, s2, e1, ?_, k2⟩
  rw [← List.map_append, ← List.eraseIdx_eq_take_drop_succ] at o2
  exact H.upd hi k2 o2 fun r hr' => by
    rcases hr with g | ⟨q, g, g2⟩
    · left; show rowV v = some r; rw [← g]; exact hr'
    · right; rw [show rowV v' = some r from hr'] at g; cases g; exact g2
def lrX (js : List Job) (k : Nat) : List Int × List (Int × Int) := lrG (tJ js) (dJ js) ((rulL 4 js).take k)
theorem lrX_succ {js : List Job} {k : Nat} {x : Int} (hx : (rulL 4 js)[k]? = some x) : lrX js (k + 1) = lrS (tJ js) (dJ js) (lrX js k) x := by
  unfold lrX; rw [take_succ' hx, lrG_snoc]
theorem rul_due {js : List Job} (hg : goodL js = true) : (rulL 4 js).Pairwise fun a b => dJ js a ≤ dJ js b := (rulL_sorted hg).imp fun {a b} h => by
  have : gapX 4 js a b = (jA js a).d - (jA js b).d := by unfold gapX gapJ; simp
  show (jA js a).d ≤ (jA js b).d
  omega
theorem lrX_inv {js : List Job} (hok : plOk js = true) {k : Nat} (hk : k ≤ js.length) : LRI (tJ js) (dJ js) ((rulL 4 js).take k) (lrX js k).1 :=
  lrG_inv (plOk_pl hok).t rulL_ord.nd (rul_due (plOk_of hok).2.1) (by rw [rulL_ord.len]; exact hk)
theorem lrX_parts {js : List Job} {k : Nat} : ((lrX js k).1 ++ gone (lrX js k).2).Perm ((rulL 4 js).take k) ∧ (lrX js k).2.map Prod.fst = (rulL 4 js).take k :=
  lrG_parts fun x hx => (rulL_ord.inn x (List.mem_of_mem_take hx)).1
theorem lrX_len {js : List Job} {k : Nat} : (lrX js k).1.length ≤ js.length ∧ (lrX js k).2.length ≤ js.length := by
  obtain ⟨h1, h2⟩ := @lrX_parts js k
  have e1 := h1.length_eq
  have e2 := congrArg List.length h2
  have hl : ((rulL 4 js).take k).length ≤ js.length := by rw [List.length_take, rulL_ord.len]; omega
  rw [List.length_append] at e1
  rw [List.length_map] at e2
  omega
theorem lrX_in {js : List Job} {k : Nat} : inN js.length (lrX js k).1 := fun x hx => rulL_ord.inn x (List.mem_of_mem_take ((@lrX_parts js k).1.mem_iff.1 (List.mem_append_left _ hx)))
section
variable {h : Hp} {vj v u : Value} {js : List Job} {xs ys : List Int}
theorem lateRule_run {k : Nat} (J : Jobs h vj js) (hok : plOk js = true) (hk : k ≤ js.length) : RunsC P G n_impl_lateRule [vj, .int .i64 k] h fun v h' => h <+: h' ∧ ∃ u w, v = .tuple #[u, w] ∧ Holds h h' [.own u 1 ((lrX js k).1.map encI), .own w 2 ((lrX js k).2.map encQ)] := by
  refine hideC fun K hK => enter_run e_impl_lateRule (by simp) ?_
  have Js := J
  obtain ⟨oj, cj, rfl⟩ := J.shapeT
  obtain ⟨hn, hg, _⟩ := plOk_of hok
  have p := plOk_pl hok
  simp -implicitDefEqProofs
  refine CL_post (ruledOrder_run (o := 4) Js hg hn) fun vr h2 ⟨hp2, o2⟩ => ?_
  have hl := rulL_ord (o := 4) (js := js) |>.len
  have S2 : Ints h2 vr (rulL 4 js) := o2.sees
  obtain ⟨v3, s3, f3⟩ := S2.front (P := P) u_S_int i_int (k := .i64) (j := (k : Int)) (by omega) (by simp; omega)
  rw [Int.toNat_natCast, ← List.map_take] at f3
  have hDl : ((rulL 4 js).take k).length = k := by rw [List.length_take, hl]; omega
  obtain ⟨ra, rc, rfl⟩ : ∃ a c, vr = .slice a (rulL 4 js).length c := S2.shapeT
  obtain ⟨da, dc, rfl⟩ : ∃ a c, v3 = .slice a k c := by obtain ⟨a, c, e⟩ := (f3 : Ints h2 v3 ((rulL 4 js).take k)).shapeT; exact ⟨a, c, by rw [e, hDl]⟩
  have f3 : Ints h2 (.slice da k dc) ((rulL 4 js).take k) := f3
  have H0 := own_nil (own_nil (Holds.start (h := h2)) Int encI 1) (Int × Int) encQ 2
  simp -implicitDefEqProofs [s3]
  refine R_loopO (fun m s h' => ∃ (i : Nat) (vl vs : Value), i + m = k ∧ s = [(0, .slice oj js.length cj), (6, vl), (7, vs), (8, .int .i64 (tsm (tJ js) (lrX js i).1)), (18, .slice da k dc), (19, .int .i64 k), (20, .int .i64 i)] ∧ Holds h2 h' [.own vl 1 ((lrX js i).1.map encI), .own vs 2 ((lrX js i).2.map encQ)]) (fun I hI m s h' => ?_) (n := k)
    ⟨0, .slice none 0 0, .slice none 0 0, Nat.zero_add _, by simp [lrX, lrG, tsm], H0⟩
  rintro ⟨i, vl, vs, hi, rfl, H⟩
  obtain ⟨lm1, lm2⟩ := @lrX_len js i
  by_cases hlt : i < k
  case neg =>
    have hlt' : ¬ (i : Int) < k := by omega
    have : i = k := by omega
    subst this
    obtain ⟨la, ln, lc, rfl⟩ : ∃ a n c, vl = .slice a n c := by obtain ⟨a, c, e⟩ := (H.sees 0 rfl).shape; exact ⟨_, _, _, e⟩
    obtain ⟨sa, sn, sc, rfl⟩ : ∃ a n c, vs = .slice a n c := by obtain ⟨a, c, e⟩ := (H.sees 1 rfl).shape; exact ⟨_, _, _, e⟩
    have H9 := (H.base hp2).gcTwo
    simp -implicitDefEqProofs [hlt, hlt']
    exact onK hK ⟨H9.pre, _, _, rfl, H9⟩
  have hlt' : (i : Int) < k := by omega
  obtain ⟨x, hx, _⟩ := drop_at (show i < (rulL 4 js).length by omega)
  have hx2 : ((rulL 4 js).take k)[i]? = some x := by rw [List.getElem?_take, if_pos hlt]; exact hx
  have ix := rulL_ord.inn x (List.mem_of_getElem? hx)
  have lx := load_I (f3.pre H.pre) hx2
  obtain ⟨v4, h4, a4, H4, _⟩ := push_I0 H 0 rfl x (by omega)
  have H4 : Holds h2 h4 [.own v4 1 (((lrX js i).1 ++ [x]).map encI), .own vs 2 ((lrX js i).2.map encQ)] := H4
  have lj := load_JX (Js.pre (hp2.trans H4.pre)) ix
  have es := lrX_succ hx
  have hin : inN js.length ((lrX js i).1 ++ [x]) := fun y hy => by
    rcases List.mem_append.1 hy with g | g
    · exact lrX_in y g
    · rw [List.mem_singleton.1 g]; exact ix
  generalize lrX js i = s0 at *
  obtain ⟨E, st⟩ := s0
  simp only at lm1 lm2 H4 hin a4
  have ts := tsm_nonneg (w := tJ js) p.t (S := E)
  have tb : tsm (tJ js) E ≤ 2 ^ 30 := by
    have := time_bd (good_bd hg) (xs := E)
    have e : timeGo js E = tsm (tJ js) E := rfl
    rw [e] at this
    omega
  have et : tJ js x = (jA js x).t := rfl
  have ed : dJ js x = (jA js x).d := rfl
  have jt := (good_bd hg).t x
  have w1 : IntKind.i64.wrap (tsm (tJ js) E + (jA js x).t) = tsm (tJ js) E + (jA js x).t := by rw [wrap_ok] <;> omega
  have etx : tsm (tJ js) (E ++ [x]) = tsm (tJ js) E + (jA js x).t := by rw [tsm_app, tsm_cons]; simp [tsm, tJ]
  obtain ⟨l4, c4, rfl⟩ : ∃ a c, v4 = .slice a (E ++ [x]).length c := (H4.sees 0 rfl : Ints h4 v4 (E ++ [x])).shapeT
  have S4 : Ints h4 (.slice l4 (E ++ [x]).length c4) (E ++ [x]) := H4.sees 0 rfl
  by_cases c : tsm (tJ js) (E ++ [x]) ≤ dJ js x
  · have c' : ¬ (jA js x).d < tsm (tJ js) E + (jA js x).t := by rw [← etx, ← ed]; omega
    have en : lrS (tJ js) (dJ js) (E, st) x = (E ++ [x], st ++ [(x, -1)]) := by unfold lrS; rw [if_pos c]
    rw [en] at es
    obtain ⟨v5, h5, a5, H5, _⟩ := push_Q0 H4 1 rfl (x, -1) (by omega)
    have H5 : Holds h2 h5 [.own (.slice l4 (E ++ [x]).length c4) 1 ((E ++ [x]).map encI), .own v5 2 ((st ++ [(x, -1)]).map encQ)] := H5
    simp -implicitDefEqProofs [-indexAddrP_some, hlt, hlt', lx, a4, lj, w1, c', a5, winc hlt (by omega)]
    exact ⟨m - 1, by omega, on hI ⟨i + 1, .slice l4 (E ++ [x]).length c4, v5, by omega, by rw [es, etx]; simp, by rw [es]; exact H5⟩⟩
  · have c' : (jA js x).d < tsm (tJ js) E + (jA js x).t := by rw [← etx, ← ed]; omega
    have en : lrS (tJ js) (dJ js) (E, st) x = ((E ++ [x]).eraseIdx (lgI (tJ js) (E ++ [x])), st ++ [(x, gE (E ++ [x]) (lgI (tJ js) (E ++ [x])))]) := by unfold lrS; rw [if_neg c]
    rw [en] at es
    obtain ⟨g1, _⟩ := lg_spec (t := tJ js) (l := E ++ [x]) (by simp)
    have hfold : lgI (tJ js) (E ++ [x]) = (List.range' 0 (E ++ [x]).length).foldl (lgS (tJ js) (E ++ [x])) 0 := rfl
    have hEl : (E ++ [x]).length ≤ 2 ^ 20 := by simp; omega
    simp -implicitDefEqProofs [-indexAddrP_some, hlt, hlt', lx, a4, lj, w1, c']
    have hFl : (E ++ [x]).length = E.length + 1 := by simp
    generalize E ++ [x] = F at *
    refine R_loopO (fun m s h' => ∃ (q : Nat), q + m = F.length ∧ s = [(0, .slice oj js.length cj), (6, .slice l4 F.length c4), (7, vs), (8, .int .i64 (tsm (tJ js) E + (jA js x).t)), (10, .int .i64 x), (12, .int .i64 ((List.range' 0 q).foldl (lgS (tJ js) F) 0 : Nat)), (18, .slice da k dc), (19, .int .i64 k), (20, .int .i64 i), (42, .slice l4 F.length c4), (43, .int .i64 F.length), (44, .int .i64 q)] ∧ h' = h4) (fun I2 hI2 m2 s2 h5 => ?_) (n := F.length)
      ⟨0, Nat.zero_add _, by simp [hFl], rfl⟩
    rintro ⟨q, hq, rfl, rfl⟩
    by_cases hlq : q < F.length
    · have hlq' : (q : Int) < F.length := by omega
      have ly := load_I S4 (gE_get hlq)
      have iy := hin (gE F q) (List.mem_of_getElem? (gE_get hlq))
      have ljy := load_JX (Js.pre (hp2.trans H4.pre)) iy
      have hb : (List.range' 0 q).foldl (lgS (tJ js) F) 0 < F.length := (lg_go (t := tJ js) (l := F) (m := q) (i := 0) (b := 0) (by omega) (by omega)).1
      have eb : (List.range' 0 (q + 1)).foldl (lgS (tJ js) F) 0 = lgS (tJ js) F ((List.range' 0 q).foldl (lgS (tJ js) F) 0) q := by
        rw [List.range'_concat, List.foldl_append]; simp
      generalize (List.range' 0 q).foldl (lgS (tJ js) F) 0 = b at *
      have lb := load_I S4 (gE_get hb)
      have ib := hin (gE F b) (List.mem_of_getElem? (gE_get hb))
      have ljb := load_JX (Js.pre (hp2.trans H4.pre)) ib
      by_cases c3 : (jA js (gE F b)).t < (jA js (gE F q)).t
      · have e3 : lgS (tJ js) F b q = q := by unfold lgS; exact if_pos c3
        simp -implicitDefEqProofs [-indexAddrP_some, hlq, hlq', ly, ljy, lb, ljb, c3, winc hlq (by omega)]
        exact ⟨m2 - 1, by omega, on hI2 ⟨q + 1, by omega, by rw [eb, e3]; simp, rfl⟩⟩
      · have e3 : lgS (tJ js) F b q = b := by unfold lgS; exact if_neg c3
        simp -implicitDefEqProofs [-indexAddrP_some, hlq, hlq', ly, ljy, lb, ljb, c3, winc hlq (by omega)]
        exact ⟨m2 - 1, by omega, on hI2 ⟨q + 1, by omega, by rw [eb, e3]; simp, rfl⟩⟩
    · have hlq' : ¬ (q : Int) < F.length := by omega
      have : q = F.length := by omega
      subst this
      rw [← hfold]
      generalize lgI (tJ js) F = b at *
      have lb := load_I S4 (gE_get g1)
      have ib := hin (gE F b) (List.mem_of_getElem? (gE_get g1))
      have ljb := load_JX (Js.pre (hp2.trans H4.pre)) ib
      have tz := (good_bd hg).t (gE F b)
      have w2 : IntKind.i64.wrap (tsm (tJ js) E + (jA js x).t - (jA js (gE F b)).t) = tsm (tJ js) E + (jA js x).t - (jA js (gE F b)).t := by rw [wrap_ok] <;> omega
      have w3 : IntKind.i64.wrap ((b : Int) + 1) = (b : Int) + 1 := by rw [wrap_ok] <;> omega
      obtain ⟨lo, hi', v6, h6, s1, s2, a6, H6, _⟩ := cut_I H4 0 rfl g1 (by omega)
      have H6 : Holds h2 h6 [.own v6 1 ((F.eraseIdx b).map encI), .own vs 2 (st.map encQ)] := H6
      obtain ⟨v7, h7, a7, H7, _⟩ := push_Q0 H6 1 rfl (x, gE F b) (by omega)
      have H7 : Holds h2 h7 [.own v6 1 ((F.eraseIdx b).map encI), .own v7 2 ((st ++ [(x, gE F b)]).map encQ)] := H7
      have hp := erase_perm g1
      have tp := tsm_perm (t := tJ js) hp
      rw [tsm_cons] at tp
      have etz : tJ js (gE F b) = (jA js (gE F b)).t := rfl
      have eT : tsm (tJ js) (F.eraseIdx b) = tsm (tJ js) E + (jA js x).t - (jA js (gE F b)).t := by omega
      obtain ⟨loa, lon, loc, rfl⟩ : ∃ a n c, lo = .slice a n c := by
        obtain ⟨lo', s1', o1', _⟩ := (H4.own 0 rfl).front (P := P) u_S_int i_int (k := .i64) (j := (b : Int)) (by omega) (by simp; omega)
        rw [s1] at s1'; cases s1'
        obtain ⟨a, c, e⟩ := o1'.shape; exact ⟨_, _, _, e⟩
      obtain ⟨v6a, v6n, v6c, rfl⟩ : ∃ a n c, v6 = .slice a n c := by obtain ⟨a, c, e⟩ := (H6.sees 0 rfl).shape; exact ⟨_, _, _, e⟩
      simp -implicitDefEqProofs [-indexAddrP_some, hlq, hlq', lb, ljb, w2, w3, s1, s2, a6, a7, winc hlt (by omega)]
      exact ⟨m - 1, by omega, on hI ⟨i + 1, .slice v6a v6n v6c, v7, by omega, by rw [es, eT]; simp, by rw [es]; exact H7⟩⟩
end
end Go.Pm.PP
