/- Cuts of a history: plain law over numbered events. No program stands here. -/
import Derived.Test.YtjjhogleiolngaaVm
set_option linter.unusedSimpArgs false
set_option linter.unusedVariables false
namespace Go.Proofs.Ytjjhogleiolngaa
namespace Ct
open Vc
/-- The events of a process; how many are ahead of an event in its process. -/
def evs (n : Nat) (P : Nat → Nat) (p : Nat) : List Nat := (List.range n).filter fun i => decide (P i = p)
def rk (P : Nat → Nat) (i : Nat) : Nat := (evs i P (P i)).length
section
variable {n : Nat} {P M : Nat → Nat} {K : Nat → Int}
theorem evs_succ (n p : Nat) : evs (n + 1) P p = evs n P p ++ if P n = p then [n] else [] := by
  unfold evs; rw [List.range_succ, List.filter_append]; congr 1
  by_cases h : P n = p <;> simp [h]
theorem evs_mem {p i : Nat} : i ∈ evs n P p ↔ i < n ∧ P i = p := by simp [evs]
theorem evs_at {i : Nat} (hi : i < n) : (evs n P (P i))[rk P i]? = some i := by
  induction n with
  | zero => omega
  | succ n ih =>
    rw [evs_succ]
    by_cases e : i = n
    · subst e
      rw [if_pos rfl]
      unfold rk
      rw [List.getElem?_append_right (Nat.le_refl _), Nat.sub_self]; rfl
    · have := ih (by omega)
      rw [List.getElem?_append_left (List.getElem?_eq_some_iff.1 this).1]; exact this
theorem evs_nodup (p : Nat) : (evs n P p).Nodup := List.Pairwise.filter _ List.nodup_range
theorem evs_get {p j i : Nat} (h : (evs n P p)[j]? = some i) : i < n ∧ P i = p ∧ rk P i = j := by
  have hm := evs_mem.1 (List.mem_of_getElem? h)
  refine ⟨hm.1, hm.2, ?_⟩
  have h2 := evs_at (P := P) hm.1
  rw [hm.2] at h2
  exact (List.getElem?_inj (List.getElem?_eq_some_iff.1 h2).1 (evs_nodup p)).1 (h2.trans h.symm)
theorem rk_lt {i : Nat} (hi : i < n) : rk P i < (evs n P (P i)).length := (List.getElem?_eq_some_iff.1 (evs_at hi)).1
theorem evs_mono {p a b : Nat} (h : a ≤ b) : (evs a P p).length ≤ (evs b P p).length := by
  induction b with
  | zero => have : a = 0 := by omega
            subst this; exact Nat.le_refl _
  | succ b ih =>
    by_cases e : a = b + 1
    · subst e; exact Nat.le_refl _
    · have := ih (by omega)
      rw [evs_succ, List.length_append]; omega
theorem rk_mono {i j : Nat} (hij : i < j) (h : P i = P j) : rk P i < rk P j := by
  have h1 : (evs (i + 1) P (P i)).length ≤ (evs j P (P i)).length := evs_mono (by omega)
  rw [evs_succ, if_pos rfl, List.length_append, List.length_singleton] at h1
  unfold rk
  rw [← h]; omega
theorem cnt_pos {S : Nat → Prop} {q : Nat} (h1 : S n) (h2 : P n = q) : cnt (n + 1) P S q = cnt n P S q + 1 := by
  unfold cnt; rw [List.range_succ, List.countP_append, List.countP_singleton]; simp [h1, h2]
theorem cnt_neg {S : Nat → Prop} {q : Nat} (h : ¬(S n ∧ P n = q)) : cnt (n + 1) P S q = cnt n P S q := by
  have h' : S n → ¬P n = q := fun a b => h ⟨a, b⟩
  unfold cnt; rw [List.range_succ, List.countP_append, List.countP_singleton]; simp; exact h'
theorem cnt_rk (m q : Nat) : cnt n P (fun i => rk P i < m) q = min m (evs n P q).length := by
  induction n with
  | zero => simp [cnt, evs]
  | succ n ih =>
    rw [evs_succ, List.length_append]
    by_cases hq : P n = q
    · have hr : rk P n = (evs n P q).length := by unfold rk; rw [hq]
      rw [if_pos hq, List.length_singleton]
      by_cases hm : rk P n < m
      · rw [cnt_pos (S := fun i => rk P i < m) hm hq, ih]; omega
      · rw [cnt_neg (S := fun i => rk P i < m) (fun h => hm h.1), ih]; omega
    · rw [if_neg hq, cnt_neg (S := fun i => rk P i < m) (fun h => hq h.2), ih]; simp
/-- Within: all that is ahead is in the cut. -/
theorem within_iff {c : Nat → Int} (hc : ∀ q, 0 ≤ c q) {k : Nat} (hk : k < n) (h6 : ∀ i, i < n → P i < 6) :
    (∀ q, q < 6 → (cnt n P (fun i => R n P M K i k) q : Int) ≤ c q) ↔ ∀ i, i < n → R n P M K i k → (rk P i : Int) < c (P i) := by
  constructor
  · intro h i hi hr
    have h1 := h (P i) (h6 i hi)
    have h2 : cnt n P (fun j => rk P j < rk P i + 1) (P i) ≤ cnt n P (fun j => R n P M K j k) (P i) := cnt_mono fun j hj hp hlt => by
      by_cases e : j = i
      · subst e; exact hr
      · rcases Nat.lt_or_gt_of_ne e with h | h
        · exact R_trans (.inr (.single ⟨h, hi, .inl hp⟩)) hr
        · have := rk_mono (P := P) h hp.symm; omega
    rw [cnt_rk] at h2
    have h3 := rk_lt (P := P) hi
    omega
  · intro h q hq
    have h2 : cnt n P (fun j => R n P M K j k) q ≤ cnt n P (fun j => rk P j < (c q).toNat) q := cnt_mono fun j hj hp hr => by
      have := h j hj hr; rw [hp] at this; have := hc q; omega
    rw [cnt_rk] at h2
    have := hc q
    omega
/-- What a cut grows to, process by process. -/
def inn (P : Nat → Nat) (c : Nat → Int) (i : Nat) : Prop := (rk P i : Int) < c (P i)
def vAt (n : Nat) (P M : Nat → Nat) (K : Nat → Int) (p : Nat) (j : Nat) : Nat → Int := match (evs n P p)[j]? with | some i => vo P M K i | none => fun _ => 0
def gr (n : Nat) (P M : Nat → Nat) (K : Nat → Int) (c : Nat → Int) : Nat → Nat → Int
  | 0 => c
  | p + 1 => if 0 < c p then fun q => mx (gr n P M K c p q) (vAt n P M K p (c p - 1).toNat q) else gr n P M K c p
def U (n : Nat) (P M : Nat → Nat) (K : Nat → Int) (c : Nat → Int) (p : Nat) (i : Nat) : Prop := inn P c i ∨ ∃ k, k < n ∧ P k < p ∧ inn P c k ∧ Relation.TransGen (D n P M K) i k
theorem U_down {c : Nat → Int} {p : Nat} : ∀ i j, i < j → j < n → P i = P j → U n P M K c p j → U n P M K c p i := by
  intro i j hij hj hp h
  rcases h with h | ⟨k, h1, h2, h3, h4⟩
  · left
    have := rk_mono hij hp
    unfold inn at h ⊢; rw [hp]; omega
  · exact .inr ⟨k, h1, h2, h3, by
      have := R_trans (.inr (.single ⟨hij, hj, .inl hp⟩)) (.inr h4 : R n P M K j k)
      rcases this with e | t
      · subst e; have := R_le (.inr h4 : R n P M K j i); omega
      · exact t⟩
theorem gr_cnt (hu : ∀ i j, i < n → j < n → K i = 2 → K j = 2 → M i = M j → i = j) (hs : ∀ i, i < n → K i = 3 → ∃ j, j < i ∧ K j = 2 ∧ M j = M i)
    {c : Nat → Int} (h0 : ∀ q, 0 ≤ c q) (hc : ∀ q, q < 6 → c q ≤ (evs n P q).length) : ∀ p, p ≤ 6 → ∀ q, q < 6 → gr n P M K c p q = (cnt n P (U n P M K c p) q : Int)
  | 0, _, q, hq => by
    have e : cnt n P (U n P M K c 0) q = cnt n P (fun i => rk P i < (c q).toNat) q := cnt_congr fun i hi hp => by
      have := h0 q
      constructor
      · rintro (h | ⟨k, _, h, _⟩)
        · unfold inn at h; rw [hp] at h; omega
        · omega
      · intro h; left; unfold inn; rw [hp]; omega
    rw [e, cnt_rk]
    have := h0 q
    have := hc q hq
    show c q = _
    omega
  | p + 1, hp, q, hq => by
    have ih := gr_cnt hu hs h0 hc p (by omega) q hq
    simp only [gr]
    by_cases hpos : 0 < c p
    · rw [if_pos hpos]
      have hcp := hc p (by omega)
      obtain ⟨k, hk⟩ : ∃ k, (evs n P p)[(c p - 1).toNat]? = some k := ⟨_, List.getElem?_eq_getElem (by omega)⟩
      obtain ⟨k1, k2, k3⟩ := evs_get hk
      simp only [vAt, hk]
      rw [ih, vo_cnt hu hs k k1 q, ← cnt_max U_down (fun i j a b d e => R_trans (.inr (.single ⟨a, b, .inl d⟩)) e)]
      congr 1
      refine cnt_congr fun i hi _ => ?_
      have kin : inn P c k := by unfold inn; rw [k2, k3]; omega
      constructor
      · rintro ((h | ⟨z, z1, z2, z3, z4⟩) | h)
        · exact .inl h
        · exact .inr ⟨z, z1, by omega, z3, z4⟩
        · rcases h with rfl | h
          · exact .inl kin
          · exact .inr ⟨k, k1, by omega, kin, h⟩
      · rintro (h | ⟨z, z1, z2, z3, z4⟩)
        · exact .inl (.inl h)
        · by_cases e : P z = p
          · right
            have hzk : z ≤ k := by
              rcases Nat.lt_or_ge k z with h | h
              · have := rk_mono h (k2.trans e.symm)
                unfold inn at z3; rw [e] at z3; omega
              · exact h
            by_cases ez : z = k
            · subst ez; exact .inr z4
            · exact .inr (.tail z4 ⟨by omega, k1, .inl (e.trans k2.symm)⟩)
          · exact .inl (.inr ⟨z, z1, by omega, z3, z4⟩)
    · rw [if_neg hpos, ih]
      congr 1
      refine cnt_congr fun i hi _ => ?_
      constructor
      · rintro (h | ⟨z, z1, z2, z3, z4⟩)
        · exact .inl h
        · exact .inr ⟨z, z1, by omega, z3, z4⟩
      · rintro (h | ⟨z, z1, z2, z3, z4⟩)
        · exact .inl h
        · refine .inr ⟨z, z1, ?_, z3, z4⟩
          by_cases e : P z = p
          · unfold inn at z3; rw [e] at z3; omega
          · omega
/-- What a cut shrinks to: good are those whose causes are all in. -/
def good (n : Nat) (P M : Nat → Nat) (K : Nat → Int) (c : Nat → Int) (k : Nat) : Prop := ∀ i, i < n → R n P M K i k → inn P c i
theorem good_down {c : Nat → Int} {i j : Nat} (hij : i < j) (hj : j < n) (hp : P i = P j) (h : good n P M K c j) : good n P M K c i :=
  fun z hz hr => h z hz (R_trans hr (.inr (.single ⟨hij, hj, .inl hp⟩)))
theorem good_cnt {c : Nat → Int} {p m : Nat} (hm : m ≤ (evs n P p).length) (h1 : ∀ j i, j < m → (evs n P p)[j]? = some i → good n P M K c i) (h2 : ∀ j i, m ≤ j → (evs n P p)[j]? = some i → ¬good n P M K c i) :
    cnt n P (good n P M K c) p = m := by
  have : cnt n P (good n P M K c) p = cnt n P (fun i => rk P i < m) p := cnt_congr fun i hi hp => by
    have e := evs_at (P := P) hi
    rw [hp] at e
    constructor
    · intro g
      rcases Nat.lt_or_ge (rk P i) m with h | h
      · exact h
      · exact absurd g (h2 _ _ h e)
    · intro h; exact h1 _ _ h e
  rw [this, cnt_rk]; omega
end
end Ct
end Go.Proofs.Ytjjhogleiolngaa
