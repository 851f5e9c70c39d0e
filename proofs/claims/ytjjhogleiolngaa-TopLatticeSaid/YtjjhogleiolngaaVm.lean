/- Vector clocks count causes: plain law over numbered events. No program stands here. -/
namespace Go.Proofs.Ytjjhogleiolngaa
set_option linter.unusedSimpArgs false
namespace Vc
open Classical
/-- Event i is right ahead of event j. -/
def D (n : Nat) (P M : Nat → Nat) (K : Nat → Int) (i j : Nat) : Prop := i < j ∧ j < n ∧ (P i = P j ∨ (K i = 2 ∧ K j = 3 ∧ M i = M j))
def mx (a b : Int) : Int := if a < b then b else a
def vnew (s : (Nat → Nat → Int) × (Nat → Nat → Int)) (p : Nat) (k : Int) (m : Nat) (q : Nat) : Int := (if k = 3 then mx (s.1 p q) (s.2 m q) else s.1 p q) + if q = p then 1 else 0
/-- Clocks and sent vectors ahead of event i. -/
def st (P M : Nat → Nat) (K : Nat → Int) : Nat → (Nat → Nat → Int) × (Nat → Nat → Int)
  | 0 => (fun _ _ => 0, fun _ _ => 0)
  | i + 1 => (fun q => if q = P i then vnew (st P M K i) (P i) (K i) (M i) else (st P M K i).1 q, fun m => if K i = 2 ∧ m = M i then vnew (st P M K i) (P i) (K i) (M i) else (st P M K i).2 m)
def vo (P M : Nat → Nat) (K : Nat → Int) (i : Nat) : Nat → Int := vnew (st P M K i) (P i) (K i) (M i)
section
variable {n : Nat} {P M : Nat → Nat} {K : Nat → Int}
theorem clk_none {q : Nat} : ∀ i, (∀ j, j < i → P j ≠ q) → (st P M K i).1 q = fun _ => 0
  | 0, _ => rfl
  | i + 1, h => by
    simp only [st]
    rw [if_neg (fun e => h i (by omega) e.symm)]
    exact clk_none i fun j hj => h j (by omega)
theorem clk_last {q j : Nat} : ∀ i, j < i → P j = q → (∀ j', j < j' → j' < i → P j' ≠ q) → (st P M K i).1 q = vo P M K j
  | 0, h, _, _ => by omega
  | i + 1, h, hj, hn => by
    simp only [st]
    by_cases e : j = i
    · subst e; rw [if_pos hj.symm]; rfl
    · rw [if_neg (fun e' => hn i (by omega) (by omega) e'.symm)]
      exact clk_last i (by omega) hj fun j' a b => hn j' a (by omega)
theorem snt_at {j : Nat} (hj : K j = 2) : ∀ i, j < i → (∀ j', j' < i → K j' = 2 → M j' = M j → j' = j) → (st P M K i).2 (M j) = vo P M K j
  | 0, h, _ => by omega
  | i + 1, h, hu => by
    simp only [st]
    by_cases e : j = i
    · subst e; rw [if_pos ⟨hj, rfl⟩]; rfl
    · rw [if_neg (fun e' => e (hu i (by omega) e'.1 e'.2.symm).symm)]
      exact snt_at hj i (by omega) fun j' a => hu j' (by omega)
theorem st_bound : ∀ (i q j : Nat), (0 ≤ (st P M K i).1 q j ∧ (st P M K i).1 q j ≤ i) ∧ (0 ≤ (st P M K i).2 q j ∧ (st P M K i).2 q j ≤ i)
  | 0, _, _ => ⟨⟨Int.le_refl _, Int.le_refl _⟩, ⟨Int.le_refl _, Int.le_refl _⟩⟩
  | i + 1, q, j => by
    have v : 0 ≤ vnew (st P M K i) (P i) (K i) (M i) j ∧ vnew (st P M K i) (P i) (K i) (M i) j ≤ (i + 1 : Nat) := by
      have h1 := st_bound i (P i) j
      have h2 := st_bound i (M i) j
      unfold vnew mx
      split <;> (try split) <;> (try split) <;> (try split) <;> omega
    have h := st_bound i q j
    simp only [st]
    constructor
    · split
      · exact v
      · omega
    · split
      · exact v
      · omega
def R (n : Nat) (P M : Nat → Nat) (K : Nat → Int) (i j : Nat) : Prop := i = j ∨ Relation.TransGen (D n P M K) i j
theorem R_le {i j : Nat} (h : R n P M K i j) : i ≤ j := by
  rcases h with h | h
  · omega
  · induction h with
    | single h => exact Nat.le_of_lt h.1
    | tail _ h ih => exact Nat.le_trans ih (Nat.le_of_lt h.1)
theorem R_D {i j k : Nat} (h : R n P M K i j) (d : D n P M K j k) : Relation.TransGen (D n P M K) i k := by
  rcases h with rfl | h
  · exact .single d
  · exact .tail h d
theorem R_trans {i j k : Nat} (h : R n P M K i j) (g : R n P M K j k) : R n P M K i k := by
  rcases g with rfl | g
  · exact h
  · right
    induction g with
    | single d => exact R_D h d
    | tail _ d ih => exact .tail ih d
theorem tg_last {i k : Nat} (h : Relation.TransGen (D n P M K) i k) : ∃ j, R n P M K i j ∧ D n P M K j k := by
  cases h with
  | single d => exact ⟨i, .inl rfl, d⟩
  | tail h d => exact ⟨_, .inr h, d⟩
noncomputable def cnt (n : Nat) (P : Nat → Nat) (S : Nat → Prop) (p : Nat) : Nat := (List.range n).countP fun i => decide (S i ∧ P i = p)
theorem cnt_congr {S T : Nat → Prop} {p : Nat} (h : ∀ i, i < n → P i = p → (S i ↔ T i)) : cnt n P S p = cnt n P T p := by
  unfold cnt
  apply List.countP_congr
  intro i hi
  have hi := List.mem_range.1 hi
  simp only [decide_eq_true_eq]
  constructor
  · rintro ⟨a, b⟩; exact ⟨(h i hi b).1 a, b⟩
  · rintro ⟨a, b⟩; exact ⟨(h i hi b).2 a, b⟩
theorem cnt_mono {S T : Nat → Prop} {p : Nat} (h : ∀ i, i < n → P i = p → S i → T i) : cnt n P S p ≤ cnt n P T p := by
  unfold cnt
  apply List.countP_mono_left
  intro i hi
  have hi := List.mem_range.1 hi
  simp only [decide_eq_true_eq]
  rintro ⟨a, b⟩; exact ⟨h i hi b a, b⟩
theorem cnt_zero {S : Nat → Prop} {p : Nat} (h : ∀ i, i < n → ¬S i) : cnt n P S p = 0 := by
  unfold cnt
  rw [List.countP_eq_zero]
  intro i hi
  have hi := List.mem_range.1 hi
  simp only [decide_eq_true_eq]
  exact fun ⟨a, _⟩ => h i hi a
theorem cnt_add {S : Nat → Prop} {p k : Nat} (hk : k < n) (h : ¬S k) : cnt n P (fun i => S i ∨ i = k) p = cnt n P S p + if p = P k then 1 else 0 := by
  obtain ⟨T, hT⟩ : ∃ T : Nat → Prop, T = fun i => S i ∨ i = k := ⟨_, rfl⟩
  rw [← hT]
  have hTi : ∀ i, T i ↔ (S i ∨ i = k) := fun i => by rw [hT]
  unfold cnt
  have key : ∀ m, (List.range m).countP (fun i => decide (T i ∧ P i = p)) = (List.range m).countP (fun i => decide (S i ∧ P i = p)) + if k < m ∧ p = P k then 1 else 0 := by
    intro m
    induction m with
    | zero => simp
    | succ m ih =>
      rw [List.range_succ, List.countP_append, List.countP_append, ih, List.countP_singleton, List.countP_singleton]
      by_cases e : m = k
      · subst e
        by_cases hp : P m = p
        · simp [hTi, h, hp]
        · have hp2 : ¬p = P m := fun e => hp e.symm
          simp [hTi, h, hp, hp2]
      · by_cases hs : S m ∧ P m = p
        · have hs2 : T m ∧ P m = p := ⟨(hTi m).2 (.inl hs.1), hs.2⟩
          simp only [hs, hs2, decide_true, if_true]
          by_cases hkm : k < m
          · simp [hkm, show k < m + 1 by omega]; omega
          · simp [hkm, show ¬k < m + 1 by omega]
        · have hs2 : ¬(T m ∧ P m = p) := fun ⟨a, b⟩ => hs ⟨((hTi m).1 a).resolve_right e, b⟩
          simp only [hs, hs2, decide_false]
          by_cases hkm : k < m
          · simp [hkm, show k < m + 1 by omega]
          · simp [hkm, show ¬k < m + 1 by omega]
  rw [key n]
  simp [hk]
/-- Begins of one row lie in each other. -/
theorem cnt_max {S T : Nat → Prop} {p : Nat} (hS : ∀ i j, i < j → j < n → P i = P j → S j → S i) (hT : ∀ i j, i < j → j < n → P i = P j → T j → T i) :
    (cnt n P (fun i => S i ∨ T i) p : Int) = mx (cnt n P S p) (cnt n P T p) := by
  have nest : (∀ i, i < n → P i = p → S i → T i) ∨ (∀ i, i < n → P i = p → T i → S i) := by
    by_cases h : ∀ i, i < n → P i = p → S i → T i
    · exact .inl h
    · refine .inr fun j hj hp ht => ?_
      have ⟨i, hi⟩ := Classical.not_forall.1 h
      simp only [Classical.not_imp] at hi
      obtain ⟨h1, h2, h3, h4⟩ := hi
      rcases Nat.lt_trichotomy i j with h | rfl | h
      · exact absurd (hT i j h hj (by omega) ht) h4
      · exact h3
      · exact hS j i h h1 (by omega) h3
  unfold mx
  rcases nest with h | h
  · rw [cnt_congr (T := T) fun i hi hp => ⟨fun a => a.elim (h i hi hp) id, .inr⟩]
    have := cnt_mono h
    split <;> omega
  · rw [cnt_congr (T := S) fun i hi hp => ⟨fun a => a.elim id (h i hi hp), .inl⟩]
    have := cnt_mono h
    split <;> omega
theorem vo_cnt (hu : ∀ i j, i < n → j < n → K i = 2 → K j = 2 → M i = M j → i = j) (hs : ∀ i, i < n → K i = 3 → ∃ j, j < i ∧ K j = 2 ∧ M j = M i) :
    ∀ k, k < n → ∀ p, vo P M K k p = (cnt n P (fun i => R n P M K i k) p : Int) := by
  intro k
  induction k using Nat.strongRecOn with
  | ind k ih =>
    intro hk p
    have down : ∀ z i j, i < j → j < n → P i = P j → R n P M K j z → R n P M K i z := fun z i j hij hj hp h => R_trans (.inr (.single ⟨hij, hj, .inl hp⟩)) h
    -- the event ahead of it, of the same process
    have hA : (st P M K k).1 (P k) p = (cnt n P (fun i => ∃ j, j < k ∧ P j = P k ∧ R n P M K i j) p : Int) := by
      by_cases hn : ∀ j, j < k → P j ≠ P k
      · rw [clk_none k hn, cnt_zero fun i _ ⟨j, h1, h2, _⟩ => hn j h1 h2]; rfl
      · obtain ⟨j, hj, hp, hl⟩ : ∃ j, j < k ∧ P j = P k ∧ ∀ j', j < j' → j' < k → P j' ≠ P k := by
          have key : ∀ m, m ≤ k → (∃ j, j < m ∧ P j = P k) → ∃ j, j < m ∧ P j = P k ∧ ∀ j', j < j' → j' < m → P j' ≠ P k := by
            intro m
            induction m with
            | zero => rintro _ ⟨j, h, _⟩; omega
            | succ m ihm =>
              rintro hm ⟨j, hj, hp⟩
              by_cases e : P m = P k
              · exact ⟨m, by omega, e, fun j' a b => by omega⟩
              · have : j ≠ m := fun e' => e (e' ▸ hp)
                obtain ⟨j2, a, b, c⟩ := ihm (by omega) ⟨j, by omega, hp⟩
                refine ⟨j2, by omega, b, fun j' h1 h2 => ?_⟩
                by_cases e' : j' = m
                · subst e'; exact e
                · exact c j' h1 (by omega)
          refine key k (Nat.le_refl _) ?_
          have ⟨j, h⟩ := Classical.not_forall.1 hn
          simp only [Classical.not_imp, ne_eq, Classical.not_not] at h
          exact ⟨j, h.1, h.2⟩
        rw [clk_last k hj hp hl, ih j hj (by omega) p]
        congr 1
        apply cnt_congr
        intro i hi _
        constructor
        · exact fun h => ⟨j, hj, hp, h⟩
        · rintro ⟨j', h1, h2, h3⟩
          by_cases e : j' = j
          · subst e; exact h3
          · have : j' < j := by
              rcases Nat.lt_trichotomy j' j with h | h | h
              · exact h
              · exact absurd h e
              · exact absurd h2 (hl j' h h1)
            exact R_trans h3 (.inr (.single ⟨this, by omega, .inl (by omega)⟩))
    have hk0 : ¬R n P M K k k → False := fun h => h (.inl rfl)
    unfold vo vnew
    rw [hA]
    by_cases hK : K k = 3
    · obtain ⟨s, hs1, hs2, hs3⟩ := hs k hk hK
      have hB : (st P M K k).2 (M k) p = (cnt n P (fun i => R n P M K i s) p : Int) := by
        rw [← hs3, snt_at hs2 k hs1 fun j' a b c => hu j' s (by omega) (by omega) b hs2 c]
        exact ih s hs1 (by omega) p
      rw [if_pos hK, hB, ← cnt_max (fun i j a b c d => by obtain ⟨z, z1, z2, z3⟩ := d; exact ⟨z, z1, z2, down z i j a b c z3⟩) (down s)]
      have e1 : cnt n P (fun i => R n P M K i k) p = cnt n P (fun i => ((∃ j, j < k ∧ P j = P k ∧ R n P M K i j) ∨ R n P M K i s) ∨ i = k) p := by
        apply cnt_congr
        intro i hi _
        constructor
        · rintro (h | h)
          · exact .inr h
          · obtain ⟨j, h1, h2, h3, h4⟩ := tg_last h
            rcases h4 with h4 | ⟨h4, _, h5⟩
            · exact .inl (.inl ⟨j, h2, h4, h1⟩)
            · have : j = s := hu j s (by omega) (by omega) h4 hs2 (by omega)
              subst this
              exact .inl (.inr h1)
        · rintro ((⟨j, h1, h2, h3⟩ | h) | h)
          · exact .inr (R_D h3 ⟨h1, hk, .inl h2⟩)
          · exact .inr (R_D h ⟨hs1, hk, .inr ⟨hs2, hK, hs3⟩⟩)
          · exact .inl h
      rw [e1, cnt_add hk]
      · push_cast
        split <;> simp
      · rintro (⟨j, h1, _, h3⟩ | h)
        · have := R_le h3; omega
        · have := R_le h; omega
    · rw [if_neg hK]
      have e1 : cnt n P (fun i => R n P M K i k) p = cnt n P (fun i => (∃ j, j < k ∧ P j = P k ∧ R n P M K i j) ∨ i = k) p := by
        apply cnt_congr
        intro i hi _
        constructor
        · rintro (h | h)
          · exact .inr h
          · obtain ⟨j, h1, h2, h3, h4⟩ := tg_last h
            rcases h4 with h4 | ⟨_, h4, _⟩
            · exact .inl ⟨j, h2, h4, h1⟩
            · exact absurd h4 hK
        · rintro (⟨j, h1, h2, h3⟩ | h)
          · exact .inr (R_D h3 ⟨h1, hk, .inl h2⟩)
          · exact .inl h
      rw [e1, cnt_add hk]
      · push_cast
        split <;> simp
      · rintro ⟨j, h1, _, h3⟩
        have := R_le h3; omega
end
end Vc
end Go.Proofs.Ytjjhogleiolngaa
