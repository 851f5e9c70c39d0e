/- Causes: numbers of events, plain law; stamp.Stamps. -/
import Derived.Test.YtjjhogleiolngaaKc
import Derived.Test.YtjjhogleiolngaaKd
import Derived.Test.YtjjhogleiolngaaS1
namespace Go.Proofs.Ytjjhogleiolngaa
set_option linter.unusedSimpArgs false
set_option linter.unusedVariables false
open Go.RowKit
attribute [local irreducible] AWP ACalls Wk GcTo
attribute [local simp] tab3 ti3 tab4 ti4 tab22 ti22 tab24 ti24 tab29 ti29 tab47 ti47 tab135 ti135 tab154 ti154
namespace Sn
open Vc
def snew (s : (Nat → Int) × (Nat → Int)) (p : Nat) (k : Int) (m : Nat) : Int := (if k = 3 then mx (s.1 p) (s.2 m) else s.1 p) + 1
def ss (P M : Nat → Nat) (K : Nat → Int) : Nat → (Nat → Int) × (Nat → Int)
  | 0 => (fun _ => 0, fun _ => 0)
  | i + 1 => (fun q => if q = P i then snew (ss P M K i) (P i) (K i) (M i) else (ss P M K i).1 q, fun m => if K i = 2 ∧ m = M i then snew (ss P M K i) (P i) (K i) (M i) else (ss P M K i).2 m)
def so (P M : Nat → Nat) (K : Nat → Int) (i : Nat) : Int := snew (ss P M K i) (P i) (K i) (M i)
section
variable {n : Nat} {P M : Nat → Nat} {K : Nat → Int}
theorem ss_bound : ∀ (i q : Nat), (0 ≤ (ss P M K i).1 q ∧ (ss P M K i).1 q ≤ i) ∧ (0 ≤ (ss P M K i).2 q ∧ (ss P M K i).2 q ≤ i)
  | 0, _ => ⟨⟨Int.le_refl _, Int.le_refl _⟩, ⟨Int.le_refl _, Int.le_refl _⟩⟩
  | i + 1, q => by
    have v : 0 ≤ snew (ss P M K i) (P i) (K i) (M i) ∧ snew (ss P M K i) (P i) (K i) (M i) ≤ (i + 1 : Nat) := by
      have h1 := ss_bound i (P i)
      have h2 := ss_bound i (M i)
      unfold snew mx
      split <;> (try split) <;> omega
    have h := ss_bound i q
    simp only [ss]
    constructor
    · split
      · exact v
      · omega
    · split
      · exact v
      · omega
theorem so_up (i : Nat) : (ss P M K i).1 (P i) < so P M K i := by
  unfold so snew mx
  split
  · split <;> omega
  · omega
theorem clk_ge {q j : Nat} : ∀ i, j < i → P j = q → so P M K j ≤ (ss P M K i).1 q
  | 0, h, _ => by omega
  | i + 1, h, hj => by
    simp only [ss]
    by_cases e : j = i
    · subst e; rw [if_pos hj.symm]; exact Int.le_refl _
    · have ih := clk_ge (q := q) i (by omega) hj
      split
      · next hq => rw [hq] at ih; have := so_up (P := P) (M := M) (K := K) i; unfold so at this; unfold so at ih ⊢; omega
      · exact ih
theorem sent_at {j : Nat} (hj : K j = 2) : ∀ i, j < i → (∀ j', j' < i → K j' = 2 → M j' = M j → j' = j) → (ss P M K i).2 (M j) = so P M K j
  | 0, h, _ => by omega
  | i + 1, h, hu => by
    simp only [ss]
    by_cases e : j = i
    · subst e; rw [if_pos ⟨hj, rfl⟩]; rfl
    · rw [if_neg (fun e' => e (hu i (by omega) e'.1 e'.2.symm).symm)]
      exact sent_at hj i (by omega) fun j' a => hu j' (by omega)
theorem so_D (hu : ∀ i j, i < n → j < n → K i = 2 → K j = 2 → M i = M j → i = j) {i j : Nat} (d : D n P M K i j) : so P M K i < so P M K j := by
  obtain ⟨h1, h2, h3⟩ := d
  rcases h3 with h3 | ⟨k1, k2, k3⟩
  · have := clk_ge (P := P) (M := M) (K := K) j h1 h3
    have := so_up (P := P) (M := M) (K := K) j
    omega
  · have := sent_at (P := P) (M := M) k1 j h1 fun j' a b c => hu j' i (by omega) (by omega) b k1 c
    unfold so at this ⊢
    unfold snew at this ⊢
    rw [if_pos k2, ← k3]
    unfold mx
    split <;> omega
theorem so_lt (hu : ∀ i j, i < n → j < n → K i = 2 → K j = 2 → M i = M j → i = j) {i j : Nat} (t : Relation.TransGen (D n P M K) i j) : so P M K i < so P M K j := by
  induction t with
  | single d => exact so_D hu d
  | tail _ d ih => have := so_D hu d; omega
end
end Sn
open Hi Ct Sn
/-- The numbers of a right history. -/
def soL (h : List Ev) : List Int := (List.range h.length).map fun i => so (eP h) (eM h) (eK h) i
theorem soL_at {h : List Ev} {i : Nat} (hi : i < h.length) : (soL h)[i]? = some (so (eP h) (eM h) (eK h) i) := by simp [soL, hi]
@[simp] theorem soL_len {h : List Ev} : (soL h).length = h.length := by simp [soL]
/-- Vectors tell causes. -/
theorem in_vo {h : List Ev} (hR : Right h) {j k : Nat} (hj : j < h.length) (hk : k < h.length) : (rk (eP h) j : Int) < Vc.vo (eP h) (eM h) (eK h) k (eP h j) ↔ Vc.R h.length (eP h) (eM h) (eK h) j k := by
  rw [hR.cnt hk]
  constructor
  · intro hlt
    rcases Classical.em (Vc.R h.length (eP h) (eM h) (eK h) j k) with h1 | h1
    · exact h1
    · have h2 : Vc.cnt h.length (eP h) (fun i => Vc.R h.length (eP h) (eM h) (eK h) i k) (eP h j) ≤ Vc.cnt h.length (eP h) (fun i => rk (eP h) i < rk (eP h) j) (eP h j) := Vc.cnt_mono fun i hi hp hr => by
        rcases Nat.lt_trichotomy i j with a | a | a
        · exact rk_mono a hp
        · subst a; exact absurd hr h1
        · exact absurd (Vc.R_trans (.inr (.single ⟨a, hi, .inl hp.symm⟩)) hr) h1
      rw [cnt_rk] at h2
      omega
  · intro hr
    have h2 : Vc.cnt h.length (eP h) (fun i => rk (eP h) i < rk (eP h) j + 1) (eP h j) ≤ Vc.cnt h.length (eP h) (fun i => Vc.R h.length (eP h) (eM h) (eK h) i k) (eP h j) := Vc.cnt_mono fun i hi hp hlt => by
      rcases Nat.lt_trichotomy i j with a | a | a
      · exact Vc.R_trans (.inr (.single ⟨a, hj, .inl hp⟩)) hr
      · subst a; exact hr
      · have := rk_mono (P := eP h) a hp.symm; omega
    rw [cnt_rk] at h2
    have := rk_lt (P := eP h) hj
    omega
theorem vo_0 {h : List Ev} (hR : Right h) {k : Nat} (hk : k < h.length) (q : Nat) : 0 ≤ Vc.vo (eP h) (eM h) (eK h) k q := by rw [hR.cnt hk]; omega
theorem vo_6 {h : List Ev} (hR : Right h) {k : Nat} (hk : k < h.length) {q : Nat} (hq : 6 ≤ q) : Vc.vo (eP h) (eM h) (eK h) k q = 0 := by
  rw [hR.cnt hk, Vc.cnt_congr (T := fun _ => False) (fun i hi hp => by have := Right.p6 hR hi; omega), Vc.cnt_zero fun i _ h => h]; rfl
theorem vo_cl {h : List Ev} (hR : Right h) {k : Nat} (hk : k < h.length) (q : Nat) : Vc.vo (eP h) (eM h) (eK h) k q ≤ szV h h.length q := by
  rw [hR.cnt hk]
  have h2 : Vc.cnt h.length (eP h) (fun i => Vc.R h.length (eP h) (eM h) (eK h) i k) q ≤ Vc.cnt h.length (eP h) (fun i => rk (eP h) i < (evs h.length (eP h) q).length) q := Vc.cnt_mono fun i hi hp _ => by
    have := rk_lt (P := eP h) hi; rw [hp] at this; exact this
  rw [cnt_rk] at h2
  unfold szV; omega
theorem vo_cut {h : List Ev} (he : hErr h = 0) {k : Nat} (hk : k < h.length) : CutR h (Vc.vo (eP h) (eM h) (eK h) k) :=
  ⟨he, fun q => vo_0 (right_of he) hk q, fun q => vo_cl (right_of he) hk q⟩
theorem vo_ok {h : List Ev} (he : hErr h = 0) {k : Nat} (hk : k < h.length) : cutE h (Vc.vo (eP h) (eM h) (eK h) k) = 0 := by
  unfold cutE
  rw [if_pos he, if_pos ⟨fun q _ => vo_0 (right_of he) hk q, fun q _ => vo_cl (right_of he) hk q⟩]
theorem vo_wi {h : List Ev} (hR : Right h) {i k : Nat} (hi : i < h.length) (hk : k < h.length) : wi (Vc.vo (eP h) (eM h) (eK h) i) (Vc.vo (eP h) (eM h) (eK h) k) ↔ Vc.R h.length (eP h) (eM h) (eK h) i k := by
  have h1 := Ct.within_iff (n := h.length) (P := eP h) (M := eM h) (K := eK h) (c := Vc.vo (eP h) (eM h) (eK h) k) (vo_0 hR hk) hi (fun i hi => Right.p6 hR hi)
  have h2 : wi (Vc.vo (eP h) (eM h) (eK h) i) (Vc.vo (eP h) (eM h) (eK h) k) ↔ ∀ q, q < 6 → (Vc.cnt h.length (eP h) (fun j => Vc.R h.length (eP h) (eM h) (eK h) j i) q : Int) ≤ Vc.vo (eP h) (eM h) (eK h) k q := by
    unfold wi
    constructor
    · intro w q hq; rw [← hR.cnt hi]; exact w q hq
    · intro w q hq; rw [hR.cnt hi]; exact w q hq
  rw [h2, h1]
  constructor
  · intro g; exact (in_vo hR hi hk).1 (g i hi (.inl rfl))
  · intro r j hj hr; exact (in_vo hR hj hk).2 (Vc.R_trans hr r)
theorem vo_gr {h : List Ev} (he : hErr h = 0) {k : Nat} (hk : k < h.length) : wi (grV h (Vc.vo (eP h) (eM h) (eK h) k) 6) (Vc.vo (eP h) (eM h) (eK h) k) ∧ wi (Vc.vo (eP h) (eM h) (eK h) k) (grV h (Vc.vo (eP h) (eM h) (eK h) k) 6) := by
  have hC := vo_cut he hk
  have hR := hC.right
  have key : ∀ q, q < 6 → grV h (Vc.vo (eP h) (eM h) (eK h) k) 6 q = Vc.vo (eP h) (eM h) (eK h) k q := fun q hq => by
    rw [hR.cnt hk]
    unfold grV
    rw [gr_cnt hR.uniq hR.send hC.c0 (fun q hq => hC.cl q) 6 (Nat.le_refl _) q hq]
    congr 1
    refine Vc.cnt_congr fun i hi _ => ?_
    constructor
    · rintro (a | ⟨z, z1, _, z2, z3⟩)
      · exact (in_vo hR hi hk).1 a
      · exact Vc.R_trans (.inr z3) ((in_vo hR z1 hk).1 z2)
    · intro r; exact .inl ((in_vo hR hi hk).2 r)
  exact ⟨fun q hq => by rw [key q hq]; exact Int.le_refl _, fun q hq => by rw [key q hq]; exact Int.le_refl _⟩
/-- What is asked of two events. -/
theorem top_pair {h : List Ev} (hR : Right h) {i k : Nat} (hi : i < h.length) (hk : k < h.length) :
    decide (cmpV (Vc.vo (eP h) (eM h) (eK h) i) (Vc.vo (eP h) (eM h) (eK h) k) = 1) = (!decide (i = k) && decide (wi (Vc.vo (eP h) (eM h) (eK h) i) (Vc.vo (eP h) (eM h) (eK h) k))) ∧
    (cmpV (Vc.vo (eP h) (eM h) (eK h) i) (Vc.vo (eP h) (eM h) (eK h) k) = 1 → so (eP h) (eM h) (eK h) i < so (eP h) (eM h) (eK h) k) := by
  have h1 := vo_wi hR hi hk
  have h2 := vo_wi hR hk hi
  unfold cmpV
  by_cases e : i = k
  · subst e
    have w := h1.2 (.inl rfl)
    simp [w]
  · by_cases w : wi (Vc.vo (eP h) (eM h) (eK h) i) (Vc.vo (eP h) (eM h) (eK h) k)
    · have r := h1.1 w
      have nw : ¬wi (Vc.vo (eP h) (eM h) (eK h) k) (Vc.vo (eP h) (eM h) (eK h) i) := fun w' => by
        have := Vc.R_le r; have := Vc.R_le (h2.1 w'); omega
      refine ⟨by simp [w, nw, e], fun _ => ?_⟩
      rcases r with r | r
      · exact absurd r e
      · exact so_lt hR.uniq r
    · refine ⟨?_, fun h => ?_⟩
      · simp [w]; split <;> decide
      · rw [if_neg w] at h; split at h <;> cases h
end Go.Proofs.Ytjjhogleiolngaa
