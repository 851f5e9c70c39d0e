/- LatSays: firm sets, in plain words; what lies beneath. No program stands here. -/
import Derived.Test.YtjjhogleiolngaaUg
import Derived.Test.YtjjhogleiolngaaLa
set_option linter.unusedVariables false
set_option linter.unusedSimpArgs false
namespace Go.Proofs.Ytjjhogleiolngaa
open Go.RowKit
namespace Se
/-- The join of what lies strictly below s, among the first k. -/
def un (l : List Nat) (s : Nat) : Nat → Nat
  | 0 => 0
  | k + 1 => if Sub (l.getD k 0) s ∧ l.getD k 0 ≠ s then un l s k ||| l.getD k 0 else un l s k
def fp (l : List Nat) (s : Nat) : Bool := decide (un l s l.length ≠ s)
def fm (l : List Nat) (k : Nat) : List Nat := (l.take k).filter (fp l)
theorem Sub.or {s t u : Nat} (h : Sub s u) (k : Sub t u) : Sub (s ||| t) u := (sub_iff _ _).2 fun a ha => by
  rw [Nat.testBit_or, Bool.or_eq_true] at ha
  rcases ha with ha | ha
  · exact (sub_iff s u).1 h a ha
  · exact (sub_iff t u).1 k a ha
theorem un_sub (l : List Nat) (s : Nat) : ∀ k, Sub (un l s k) s
  | 0 => by unfold Sub un; simp
  | k + 1 => by
    have := un_sub l s k
    simp only [un]
    split
    · next h => exact this.or h.1
    · exact this
theorem un_le (l : List Nat) (s k : Nat) : un l s k ≤ s := (un_sub l s k).le
theorem un_yes {l : List Nat} {s t k : Nat} (h : l.getD k 0 = t) (h1 : Sub t s) (h2 : ¬t = s) : un l s (k + 1) = un l s k ||| t := by simp only [un, h]; exact if_pos ⟨h1, h2⟩
theorem un_no {l : List Nat} {s t k : Nat} (h : l.getD k 0 = t) (h1 : ¬(Sub t s ∧ ¬t = s)) : un l s (k + 1) = un l s k := by simp only [un, h]; exact if_neg h1
theorem fm_yes {l : List Nat} {k s : Nat} (h : l[k]? = some s) (h1 : ¬un l s l.length = s) : fm l (k + 1) = fm l k ++ [s] := by
  unfold fm; rw [take_snoc h, List.filter_append]; simp [fp, h1]
theorem fm_no {l : List Nat} {k s : Nat} (h : l[k]? = some s) (h1 : un l s l.length = s) : fm l (k + 1) = fm l k := by
  unfold fm; rw [take_snoc h, List.filter_append]; simp [fp, h1]
theorem fm_1 {l : List Nat} (h : Lt l) : fm l 1 = [] := by
  have h0 : l[0]? = some 0 := by
    have hl := h.len
    rw [List.getElem?_eq_getElem (by omega)]
    have := h.zero
    rw [getD_at (List.getElem?_eq_getElem (by omega))] at this
    rw [this]
  have := un_le l 0 l.length
  rw [fm_no h0 (by omega)]; rfl
theorem fm_len (l : List Nat) (k : Nat) : (fm l k).length ≤ l.length := Nat.le_trans (List.length_filter_le _ _) (by simp; omega)
theorem fm_mem {l : List Nat} {k s : Nat} (h : s ∈ fm l k) : s ∈ l := List.mem_of_mem_take (List.mem_filter.1 h).1
theorem Lt.pw {l : List Nat} (h : Lt l) : l.Pairwise (· < ·) := List.pairwise_iff_getElem.2 fun i j hi hj hij => by
  have := sorted' h.scan hij hj
  rwa [getD_at (List.getElem?_eq_getElem hi), getD_at (List.getElem?_eq_getElem hj)] at this
theorem fm_pw {l : List Nat} (h : Lt l) (k : Nat) : (fm l k).Pairwise (· < ·) := h.pw.sublist (List.filter_sublist.trans (List.take_sublist _ _))
theorem pw_inj {F : List Nat} (h : F.Pairwise (· < ·)) {i j s t : Nat} (hs : F[i]? = some s) (ht : F[j]? = some t) : s = t ↔ i = j := by
  obtain ⟨hi, e1⟩ := List.getElem?_eq_some_iff.1 hs
  obtain ⟨hj, e2⟩ := List.getElem?_eq_some_iff.1 ht
  have := List.pairwise_iff_getElem.1 h
  constructor
  · intro e
    rcases Nat.lt_trichotomy i j with a | a | a
    · have := this i j hi hj a; omega
    · exact a
    · have := this j i hj hi a; omega
  · rintro rfl; omega
/-- Which index lies below which. -/
def cc (F : List Nat) (i j : Nat) : Bool := decide (Sub (F.getD i 0) (F.getD j 0) ∧ i ≠ j)
theorem cc_eq {F : List Nat} {i j s t : Nat} (hs : F[i]? = some s) (ht : F[j]? = some t) : cc F i j = decide (Sub s t ∧ ¬i = j) := by unfold cc; rw [getD_at hs, getD_at ht]
theorem pr_len {F : List Nat} {n i j : Nat} (hn : n ≤ 300) (hi : i ≤ n) (hj : j ≤ n) (c : Nat → Nat → Bool) : (Po.prU c n i ++ Po.row c i j).length ≤ 90300 := by
  have h1 := Po.prU_len c n i
  have h2 := Po.row_len c i j
  have h3 : i * n ≤ 300 * 300 := Nat.mul_le_mul (by omega) hn
  rw [List.length_append]; omega
end Se
end Go.Proofs.Ytjjhogleiolngaa
