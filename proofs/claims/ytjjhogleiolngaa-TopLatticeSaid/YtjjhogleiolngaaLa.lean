/- Posets and what lies below: closure by Warshall's way, sets as bits. No program stands here. -/
import Derived.Test.YtjjhogleiolngaaVf
set_option linter.unusedVariables false
set_option linter.unusedSimpArgs false
namespace Go.Proofs.Ytjjhogleiolngaa
open Go.RowKit Cl
namespace Po
def inP (m n : Int) (p : Pa) : Prop := 0 ≤ p.a ∧ p.a < m ∧ 0 ≤ p.b ∧ p.b < n
instance (m n : Int) (p : Pa) : Decidable (inP m n p) := by unfold inP; infer_instance
def mErr (m n : Int) (l : List Pa) : Int := if m < 0 ∨ 40 < m ∨ n < 0 ∨ 40 < n then 1 else if 600 < l.length then 2 else if ∀ p ∈ l, inP m n p then 0 else 4
def loopy (n : Nat) (l : List Pa) : Prop := ∃ k, k < n ∧ clo l k k = true
open Classical in
noncomputable def poErr (n : Int) (l : List Pa) : Int := if n < 0 ∨ 20 < n then 1 else if ¬mErr n n l = 0 then mErr n n l else if loopy n.toNat l then 9 else 0
theorem mErr_ok {n : Int} {l : List Pa} (h : mErr n n l = 0) : 0 ≤ n ∧ n ≤ 40 ∧ l.length ≤ 600 ∧ Bd n.toNat l := by
  unfold mErr at h
  split at h
  · cases h
  · split at h
    · cases h
    · split at h
      · next h1 h2 h3 =>
        refine ⟨by omega, by omega, by omega, fun p hp => ?_⟩
        have := h3 p hp
        unfold inP at this
        omega
      · cases h
/-- Warshall's tables. -/
def W (l : List Pa) : Nat → Nat → Nat → Bool
  | 0, i, j => decide ((⟨i, j⟩ : Pa) ∈ l)
  | k + 1, i, j => W l k i j || (W l k i k && W l k k j)
def S (l : List Pa) (k i j : Nat) (i' j' : Nat) : Bool := if i' < i ∨ (i' = i ∧ j' < j) then W l (k + 1) i' j' else W l k i' j'
section
variable {n : Nat} {l : List Pa}
theorem W_in (hb : Bd n l) : ∀ k i j, W l k i j = true → i < n ∧ j < n
  | 0, i, j, h => by
    have := hb _ (of_decide_eq_true h)
    simp only at this; omega
  | k + 1, i, j, h => by
    simp only [W, Bool.or_eq_true, Bool.and_eq_true] at h
    rcases h with h | ⟨h1, h2⟩
    · exact W_in hb k i j h
    · exact ⟨(W_in hb k i k h1).1, (W_in hb k k j h2).2⟩
theorem W_ik (k i : Nat) : W l (k + 1) i k = W l k i k := by
  simp only [W]; cases W l k i k <;> simp
theorem W_kj (k j : Nat) : W l (k + 1) k j = W l k k j := by
  simp only [W]; cases W l k k j <;> simp
theorem S_ik (k i j i' : Nat) : S l k i j i' k = W l k i' k := by unfold S; rw [W_ik]; simp
theorem S_kj (k i j j' : Nat) : S l k i j k j' = W l k k j' := by unfold S; rw [W_kj]; simp
theorem S_at (k i j : Nat) : S l k i j i j = W l k i j := by unfold S; rw [if_neg (by omega)]
theorem S_0 (k : Nat) : S l k 0 0 = W l k := by funext i j; unfold S; rw [if_neg (by omega)]
theorem S_step (k i j : Nat) : (fun i' j' => if i' = i ∧ j' = j then (W l k i j || (W l k i k && W l k k j)) else S l k i j i' j') = S l k i (j + 1) := by
  funext i' j'
  by_cases e : i' = i ∧ j' = j
  · obtain ⟨rfl, rfl⟩ := e
    rw [if_pos ⟨rfl, rfl⟩]; unfold S; rw [if_pos (by omega)]; rfl
  · rw [if_neg e]; unfold S
    by_cases h : i' < i ∨ (i' = i ∧ j' < j)
    · rw [if_pos h, if_pos (by omega)]
    · rw [if_neg h, if_neg (by omega)]
theorem S_row (hb : Bd n l) (k i : Nat) : S l k i n = S l k (i + 1) 0 := by
  funext i' j'
  unfold S
  by_cases h : i' < i ∨ (i' = i ∧ j' < n)
  · rw [if_pos h, if_pos (by omega)]
  · rw [if_neg h]
    by_cases h2 : i' < i + 1 ∨ (i' = i + 1 ∧ j' < 0)
    · rw [if_pos h2]
      have : ¬j' < n := by omega
      cases e1 : W l k i' j' with
      | true => exact absurd (W_in hb _ _ _ e1).2 this
      | false =>
        cases e2 : W l (k + 1) i' j' with
        | true => exact absurd (W_in hb _ _ _ e2).2 this
        | false => rfl
    · rw [if_neg h2]
theorem S_all (hb : Bd n l) (k : Nat) : S l k n 0 = W l (k + 1) := by
  funext i' j'
  unfold S
  by_cases h : i' < n ∨ (i' = n ∧ j' < 0)
  · rw [if_pos h]
  · rw [if_neg h]
    have : ¬i' < n := by omega
    cases e1 : W l k i' j' with
    | true => exact absurd (W_in hb _ _ _ e1).1 this
    | false =>
      cases e2 : W l (k + 1) i' j' with
      | true => exact absurd (W_in hb _ _ _ e2).1 this
      | false => rfl
theorem W_comp : ∀ k m i j, m < k → W l k i m = true → W l k m j = true → W l k i j = true := by
  intro k
  induction k with
  | zero => intro m i j h; omega
  | succ k ih =>
    intro m i j hm h1 h2
    by_cases e : m = k
    · subst e
      rw [W_ik] at h1
      rw [W_kj] at h2
      simp only [W, h1, h2, Bool.and_true, Bool.or_true]
    · simp only [W, Bool.or_eq_true, Bool.and_eq_true] at h1 h2 ⊢
      have hmk : m < k := by omega
      rcases h1 with h1 | ⟨h1, h1'⟩
      · rcases h2 with h2 | ⟨h2, h2'⟩
        · exact .inl (ih m i j hmk h1 h2)
        · exact .inr ⟨ih m i k hmk h1 h2, h2'⟩
      · rcases h2 with h2 | ⟨h2, h2'⟩
        · exact .inr ⟨h1, ih m k j hmk h1' h2⟩
        · exact .inr ⟨h1, h2'⟩
theorem W_up : ∀ k i j, W l 0 i j = true → W l k i j = true
  | 0, _, _, h => h
  | k + 1, i, j, h => by simp only [W, Bool.or_eq_true]; exact .inl (W_up k i j h)
theorem W_snd : ∀ k i j, W l k i j = true → Relation.TransGen (Rl l) i j
  | 0, i, j, h => .single ⟨_, of_decide_eq_true h, rfl, rfl⟩
  | k + 1, i, j, h => by
    simp only [W, Bool.or_eq_true, Bool.and_eq_true] at h
    rcases h with h | ⟨h1, h2⟩
    · exact W_snd k i j h
    · exact .trans (W_snd k i k h1) (W_snd k k j h2)
open Classical in
theorem W_clo (hb : Bd n l) (i j : Nat) : W l n i j = clo l i j := by
  have rl : ∀ x y, Rl l x y → W l 0 x y = true := fun x y ⟨p, hp, h1, h2⟩ => by
    cases p; simp only at h1 h2; subst h1 h2; exact decide_eq_true hp
  have key : ∀ j, Relation.TransGen (Rl l) i j → W l n i j = true := by
    intro j t
    induction t with
    | single d => exact W_up n _ _ (rl _ _ d)
    | tail _ d ih => exact W_comp n _ _ _ (W_in hb _ _ _ ih).2 ih (W_up n _ _ (rl _ _ d))
  unfold clo
  cases e : W l n i j with
  | true => exact (decide_eq_true (W_snd n i j e)).symm
  | false => exact (decide_eq_false fun t => by rw [key j t] at e; cases e).symm
end
/-- The pairs of a table. -/
def row (c : Nat → Nat → Bool) (i : Nat) : Nat → List Pa
  | 0 => []
  | j + 1 => row c i j ++ if c i j then [⟨i, j⟩] else []
def prU (c : Nat → Nat → Bool) (n : Nat) : Nat → List Pa
  | 0 => []
  | i + 1 => prU c n i ++ row c i n
theorem row_mem {c : Nat → Nat → Bool} {i : Nat} {p : Pa} : ∀ {n}, p ∈ row c i n ↔ ∃ j, j < n ∧ p = ⟨i, j⟩ ∧ c i j = true
  | 0 => by simp [row]
  | n + 1 => by
    simp only [row, List.mem_append, row_mem (n := n)]
    constructor
    · rintro (⟨j, h1, h2, h3⟩ | h)
      · exact ⟨j, by omega, h2, h3⟩
      · by_cases e : c i n = true
        · rw [if_pos e] at h; exact ⟨n, by omega, by simpa using h, e⟩
        · rw [if_neg e] at h; cases h
    · rintro ⟨j, h1, h2, h3⟩
      by_cases e : j = n
      · subst e; right; rw [if_pos h3, h2]; simp
      · exact .inl ⟨j, by omega, h2, h3⟩
theorem prU_mem {c : Nat → Nat → Bool} {n : Nat} {p : Pa} : ∀ {m}, p ∈ prU c n m ↔ ∃ i j, i < m ∧ j < n ∧ p = ⟨i, j⟩ ∧ c i j = true
  | 0 => by simp [prU]
  | m + 1 => by
    simp only [prU, List.mem_append, prU_mem (m := m), row_mem]
    constructor
    · rintro (⟨i, j, h1, h2, h3⟩ | ⟨j, h1, h2⟩)
      · exact ⟨i, j, by omega, h2, h3⟩
      · exact ⟨m, j, by omega, h1, h2⟩
    · rintro ⟨i, j, h1, h2, h3⟩
      by_cases e : i = m
      · subst e; exact .inr ⟨j, h2, h3⟩
      · exact .inl ⟨i, j, by omega, h2, h3⟩
theorem row_len (c : Nat → Nat → Bool) (i : Nat) : ∀ n, (row c i n).length ≤ n
  | 0 => by simp [row]
  | n + 1 => by
    have := row_len c i n
    simp only [row, List.length_append]
    split <;> simp <;> omega
theorem prU_len (c : Nat → Nat → Bool) (n : Nat) : ∀ m, (prU c n m).length ≤ m * n
  | 0 => by simp [prU]
  | m + 1 => by
    have := prU_len c n m
    have := row_len c m n
    simp only [prU, List.length_append, Nat.succ_mul]; omega
/-- What b needs, as bits. -/
def nd (l : List Pa) (b : Nat) : Nat := l.foldl (fun s p => if p.b.toNat = b then s ||| 2 ^ p.a.toNat else s) 0
theorem nd_snoc (l : List Pa) (p : Pa) (b : Nat) : nd (l ++ [p]) b = if p.b.toNat = b then nd l b ||| 2 ^ p.a.toNat else nd l b := by
  unfold nd; rw [List.foldl_append]; rfl
theorem nd_bit (b a : Nat) : ∀ (l : List Pa), (nd l b).testBit a = true ↔ ∃ p ∈ l, p.a.toNat = a ∧ p.b.toNat = b := by
  have key : ∀ n (l : List Pa), l.length = n → ((nd l b).testBit a = true ↔ ∃ p ∈ l, p.a.toNat = a ∧ p.b.toNat = b) := by
    intro n
    induction n with
    | zero => intro l hl; have := List.length_eq_zero_iff.1 hl; subst this; simp [nd]
    | succ n ih =>
      intro l hl
      obtain ⟨l', p, rfl⟩ : ∃ l' p, l = l' ++ [p] := by
        have hne : l ≠ [] := by intro e; subst e; cases hl
        exact ⟨l.dropLast, l.getLast hne, (List.dropLast_concat_getLast hne).symm⟩
      have ih := ih l' (by simpa using hl)
      rw [nd_snoc]
      by_cases e : p.b.toNat = b
      · rw [if_pos e, Nat.testBit_or, Bool.or_eq_true, ih, Nat.testBit_two_pow, decide_eq_true_eq]
        constructor
        · rintro (⟨q, h1, h2⟩ | h)
          · exact ⟨q, by simp [h1], h2⟩
          · exact ⟨p, by simp, h, e⟩
        · rintro ⟨q, h1, h2, h3⟩
          rcases List.mem_append.1 h1 with h | h
          · exact .inl ⟨q, h, h2, h3⟩
          · simp at h; subst h; exact .inr h2
      · rw [if_neg e, ih]
        constructor
        · rintro ⟨q, h1, h2⟩; exact ⟨q, by simp [h1], h2⟩
        · rintro ⟨q, h1, h2, h3⟩
          rcases List.mem_append.1 h1 with h | h
          · exact ⟨q, h, h2, h3⟩
          · simp at h; subst h; exact absurd h3 e
  exact fun l => key _ l rfl
theorem nd_lt {l : List Pa} {m : Nat} (h : ∀ p ∈ l, p.a.toNat < m) (b : Nat) : nd l b < 2 ^ m := by
  apply Nat.lt_pow_two_of_testBit
  intro i hi
  cases e : (nd l b).testBit i with
  | false => rfl
  | true => obtain ⟨p, h1, h2, _⟩ := (nd_bit b i l).1 e; have := h p h1; omega
/-- Is s right for the first k, by needs; for the pairs before (a, b). -/
def rg (f : Nat → Nat) (s : Nat) : Nat → Bool
  | 0 => true
  | k + 1 => rg f s k && (!s.testBit k || decide (s &&& f k = f k))
def rb (c : Nat → Nat → Bool) (s a : Nat) : Nat → Bool
  | 0 => true
  | b + 1 => rb c s a b && !(c a b && s.testBit b && !s.testBit a)
def ra (c : Nat → Nat → Bool) (n s : Nat) : Nat → Bool
  | 0 => true
  | a + 1 => ra c n s a && rb c s a n
theorem rg_iff (f : Nat → Nat) (s : Nat) : ∀ n, rg f s n = true ↔ ∀ k, k < n → s.testBit k = true → s &&& f k = f k
  | 0 => by simp [rg]
  | n + 1 => by
    simp only [rg, Bool.and_eq_true, rg_iff f s n, Bool.or_eq_true, Bool.not_eq_true', decide_eq_true_eq]
    constructor
    · rintro ⟨h1, h2⟩ k hk hb
      by_cases e : k = n
      · subst e; rcases h2 with h2 | h2
        · rw [hb] at h2; cases h2
        · exact h2
      · exact h1 k (by omega) hb
    · intro h
      refine ⟨fun k hk => h k (by omega), ?_⟩
      cases e : s.testBit n with
      | false => exact .inl rfl
      | true => exact .inr (h n (by omega) e)
theorem rb_iff (c : Nat → Nat → Bool) (s a : Nat) : ∀ n, rb c s a n = true ↔ ∀ b, b < n → c a b = true → s.testBit b = true → s.testBit a = true
  | 0 => by simp [rb]
  | n + 1 => by
    simp only [rb, Bool.and_eq_true, rb_iff c s a n]
    constructor
    · rintro ⟨h1, h2⟩ b hb h3 h4
      by_cases e : b = n
      · subst e; rw [h3, h4] at h2; simpa using h2
      · exact h1 b (by omega) h3 h4
    · intro h
      refine ⟨fun b hb => h b (by omega), ?_⟩
      have := h n (by omega)
      cases h1 : c a n <;> cases h2 : s.testBit n <;> cases h3 : s.testBit a <;> simp_all
theorem ra_iff (c : Nat → Nat → Bool) (n s : Nat) : ∀ m, ra c n s m = true ↔ ∀ a b, a < m → b < n → c a b = true → s.testBit b = true → s.testBit a = true
  | 0 => by simp [ra]
  | m + 1 => by
    simp only [ra, Bool.and_eq_true, ra_iff c n s m, rb_iff]
    constructor
    · rintro ⟨h1, h2⟩ a b ha hb
      by_cases e : a = m
      · subst e; exact h2 b hb
      · exact h1 a b (by omega) hb
    · intro h
      exact ⟨fun a b ha => h a b (by omega), fun b hb => h m b (by omega) hb⟩
theorem and_all (s f : Nat) : s &&& f = f ↔ ∀ a, f.testBit a = true → s.testBit a = true := by
  constructor
  · intro h a ha
    rw [← h, Nat.testBit_and, Bool.and_eq_true] at ha
    exact ha.1
  · intro h
    apply Nat.eq_of_testBit_eq
    intro a
    rw [Nat.testBit_and]
    cases e : f.testBit a with
    | false => simp
    | true => rw [h a e]; rfl
theorem rg_ra (c : Nat → Nat → Bool) (n s : Nat) : rg (nd (prU c n n)) s n = ra c n s n := by
  rw [Bool.eq_iff_iff, rg_iff, ra_iff]
  constructor
  · intro h a b ha hb h1 h2
    exact (and_all _ _).1 (h b hb h2) a ((nd_bit b a _).2 ⟨⟨a, b⟩, prU_mem.2 ⟨a, b, ha, hb, rfl, h1⟩, by simp, by simp⟩)
  · intro h k hk h1
    refine (and_all _ _).2 fun a ha => ?_
    obtain ⟨p, hp, h2, h3⟩ := (nd_bit k a _).1 ha
    obtain ⟨i, j, hi, hj, rfl, hc⟩ := prU_mem.1 hp
    simp at h2 h3
    subst h2 h3
    exact h _ _ hi hj hc h1
/-- The sets. -/
def dn (p : Nat → Bool) (m : Nat) : List Nat := (List.range m).filter p
theorem dn_succ (p : Nat → Bool) (m : Nat) : dn p (m + 1) = dn p m ++ if p m then [m] else [] := by
  unfold dn; rw [List.range_succ, List.filter_append]; congr 1
  cases h : p m <;> simp [h]
theorem dn_len (p : Nat → Bool) (m : Nat) : (dn p m).length ≤ m := by
  have := List.length_filter_le p (List.range m)
  simpa [dn] using this
end Po
end Go.Proofs.Ytjjhogleiolngaa
