/- Lists of sets: why one is refused, in plain words; maps as functions. No program stands here. -/
import Derived.Test.YtjjhogleiolngaaU1
set_option linter.unusedVariables false
set_option linter.unusedSimpArgs false
namespace Go.Proofs.Ytjjhogleiolngaa
open Go.RowKit
def getR : List (Int × Int) → Int → Int
  | [], _ => 0
  | p :: r, z => if z = p.1 then p.2 else getR r z
def putR : List (Int × Int) → Int → Int → List (Int × Int)
  | [], x, y => [(x, y)]
  | p :: r, x, y => if x = p.1 then (x, y) :: r else p :: putR r x y
theorem getM_gen (z : Int) : ∀ (l : List (Int × Int)) (i : Nat), (match idxM l z i with | some q => q.2 | none => 0) = getR l z
  | [], _ => rfl
  | p :: r, i => by
    unfold idxM getR
    by_cases e : z = p.1
    · simp [e]
    · simp only [e, if_false]; exact getM_gen z r (i + 1)
theorem getM_R (l : List (Int × Int)) (z : Int) : getM l z = getR l z := getM_gen z l 0
theorem putM_gen (x y : Int) : ∀ (l : List (Int × Int)) (i : Nat), (match idxM l x i with | some q => l.set (q.1 - i) (x, y) | none => l ++ [(x, y)]) = putR l x y
  | [], _ => rfl
  | p :: r, i => by
    have ih := putM_gen x y r (i + 1)
    unfold putR
    by_cases e : x = p.1
    · simp [idxM, e]
    · rw [if_neg e]
      cases hi : idxM r x (i + 1) with
      | none => rw [hi] at ih; simp only [idxM, e, if_false, hi, List.cons_append]; rw [← ih]
      | some q =>
        rw [hi] at ih
        obtain ⟨h1, _⟩ := idxM_at hi
        simp only [idxM, e, if_false, hi]
        rw [← ih, show q.1 - i = (q.1 - (i + 1)) + 1 by omega, List.set_cons_succ]
theorem putM_R (l : List (Int × Int)) (x y : Int) : putM l x y = putR l x y := putM_gen x y l 0
theorem getR_put (x y z : Int) : ∀ l, getR (putR l x y) z = if z = x then y else getR l z
  | [] => rfl
  | p :: r => by
    have ih := getR_put x y z r
    unfold putR
    by_cases e : x = p.1
    · rw [if_pos e]
      by_cases e2 : z = x
      · subst e2; simp [getR]
      · have e3 : ¬z = p.1 := fun h => e2 (h.trans e.symm)
        simp [getR, e2, e3]
    · rw [if_neg e]
      by_cases e2 : z = p.1
      · have e3 : ¬z = x := fun h => e (h.symm.trans e2)
        simp [getR, e2, e3]
        intro h; exact absurd h.symm e
      · simp [getR, e2, ih]
theorem getM_put (l : List (Int × Int)) (x y z : Int) : getM (putM l x y) z = if z = x then y else getM l z := by rw [getM_R, putM_R, getM_R, getR_put]
namespace Se
def badS (l : List Nat) (i : Nat) : Int := if 4095 < l.getD i 0 then 1 else if 0 < i ∧ l.getD i 0 ≤ l.getD (i - 1) 0 then 4 else 0
def scanS (l : List Nat) : Nat → Nat → Int
  | 0, _ => 0
  | n + 1, i => if badS l i = 0 then scanS l n (i + 1) else badS l i
def Cl2 (l : List Nat) (s t : Nat) : Prop := (s ||| t) ∈ l ∧ (s &&& t) ∈ l
instance (l : List Nat) (s t : Nat) : Decidable (Cl2 l s t) := by unfold Cl2; infer_instance
def seErr (l : List Nat) : Int :=
  if l.length < 1 ∨ 4096 < l.length then 2 else if ¬l.getD 0 0 = 0 then 4 else if ¬scanS l l.length 0 = 0 then scanS l l.length 0 else if 300 < l.length then 2 else if ∀ s ∈ l, ∀ t ∈ l, Cl2 l s t then 0 else 4
theorem scanS_step (l : List Nat) {n i : Nat} (h : i < n) : scanS l (n - i) i = if badS l i = 0 then scanS l (n - (i + 1)) (i + 1) else badS l i := by
  obtain ⟨k, hk⟩ : ∃ k, n - i = k + 1 := ⟨n - i - 1, by omega⟩
  rw [hk, show n - (i + 1) = k by omega]; rfl
theorem scan_bad {l : List Nat} : ∀ n i, scanS l n i = 0 → ∀ j, i ≤ j → j < i + n → badS l j = 0
  | 0, i, _, j, h1, h2 => by omega
  | n + 1, i, h, j, h1, h2 => by
    unfold scanS at h
    by_cases e : badS l i = 0
    · rw [if_pos e] at h
      by_cases e2 : j = i
      · subst e2; exact e
      · exact scan_bad n (i + 1) h j (by omega) (by omega)
    · rw [if_neg e] at h; exact absurd h e
theorem bad_0 {l : List Nat} {i : Nat} (h : badS l i = 0) : l.getD i 0 ≤ 4095 ∧ (0 < i → l.getD (i - 1) 0 < l.getD i 0) := by
  unfold badS at h
  split at h
  · cases h
  · split at h
    · cases h
    · omega
theorem sorted {l : List Nat} (h : scanS l l.length 0 = 0) : ∀ d i, i + d + 1 < l.length → l.getD i 0 < l.getD (i + d + 1) 0
  | 0, i, hl => by have := (bad_0 (scan_bad _ _ h (i + 1) (by omega) (by omega))).2 (by omega); simpa using this
  | d + 1, i, hl => by
    have h1 := sorted h d i (by omega)
    have h2 := (bad_0 (scan_bad _ _ h (i + (d + 1) + 1) (by omega) (by omega))).2 (by omega)
    simp only [Nat.add_sub_cancel] at h2
    rw [show i + (d + 1) = i + d + 1 by omega] at h2 ⊢
    omega
theorem sorted' {l : List Nat} (h : scanS l l.length 0 = 0) {i j : Nat} (hij : i < j) (hj : j < l.length) : l.getD i 0 < l.getD j 0 := by
  have := sorted h (j - i - 1) i (by omega)
  rwa [show i + (j - i - 1) + 1 = j by omega] at this
theorem small {l : List Nat} (h : scanS l l.length 0 = 0) {s : Nat} (hs : s ∈ l) : s ≤ 4095 := by
  obtain ⟨i, hi⟩ := List.getElem?_of_mem hs
  have hl := (List.getElem?_eq_some_iff.1 hi).1
  have := (bad_0 (scan_bad _ _ h i (by omega) (by omega))).1
  simpa [List.getD_eq_getElem?_getD, hi] using this
theorem getD_at {l : List Nat} {i s : Nat} (h : l[i]? = some s) : l.getD i 0 = s := by simp [List.getD_eq_getElem?_getD, h]
end Se
theorem usl_at {H : List Blk} {a : Sc} {xs : List Nat} (h : USl H a xs) (h0 : 0 < xs.length) : ∃ id off cap cs, a = .sl id off 1 xs.length cap ∧ xs.length ≤ cap ∧ Blk.cells? H[id]? = some cs ∧
    ∀ (i : Nat) (x : Nat), xs[i]? = some x → cs[off + i]? = some (.int .u16 (x : Nat)) := by
  obtain ⟨id, off, cap, cs, h1, h2, h3, h4⟩ := GSl.at ulen h h0
  refine ⟨id, off, cap, cs, h1, h2, h3, fun i x hx => ?_⟩
  have r := (h4 i x hx).1
  rw [Nat.mul_one] at r
  have : ((cs.drop (off + i)).take 1)[0]? = some (.int .u16 (x : Nat)) := by rw [r]; rfl
  rw [List.getElem?_take_of_lt (by omega), List.getElem?_drop] at this
  exact this
end Go.Proofs.Ytjjhogleiolngaa
