/- Blocks of many cells, by a function. No program stands here. -/
import Derived.Test.YtjjhogleiolngaaA11
namespace Go.Proofs.Ytjjhogleiolngaa
open Go.RowKit
def fnC (n : Nat) (f : Nat → Int) : List Sc := (List.range n).map fun j => .int .i64 (f j)
def fnB (n : Nat) (f : Nat → Bool) : List Sc := (List.range n).map fun j => .bool (f j)
section
variable {n : Nat}
@[simp] theorem fnC_len (f : Nat → Int) : (fnC n f).length = n := by simp [fnC]
@[simp] theorem fnB_len (f : Nat → Bool) : (fnB n f).length = n := by simp [fnB]
theorem fnC_at (f : Nat → Int) {i : Nat} (h : i < n) : (fnC n f)[i]? = some (.int .i64 (f i)) := by simp [fnC, h]
theorem fnB_at (f : Nat → Bool) {i : Nat} (h : i < n) : (fnB n f)[i]? = some (.bool (f i)) := by simp [fnB, h]
@[simp] theorem fnC_get (f : Nat → Int) {i : Nat} (h : i < (fnC n f).length) : (fnC n f)[i] = .int .i64 (f i) := by simp [fnC]
@[simp] theorem fnB_get (f : Nat → Bool) {i : Nat} (h : i < (fnB n f).length) : (fnB n f)[i] = .bool (f i) := by simp [fnB]
theorem fnC_ext {f g : Nat → Int} (h : ∀ j, j < n → f j = g j) : fnC n f = fnC n g := by
  unfold fnC; exact List.map_congr_left fun j hj => by rw [h j (List.mem_range.1 hj)]
theorem fnB_ext {f g : Nat → Bool} (h : ∀ j, j < n → f j = g j) : fnB n f = fnB n g := by
  unfold fnB; exact List.map_congr_left fun j hj => by rw [h j (List.mem_range.1 hj)]
theorem fnC_set (f : Nat → Int) {i : Nat} (h : i < n) (x : Int) : (fnC n f).set i (.int .i64 x) = fnC n (fun j => if j = i then x else f j) := by
  apply List.ext_getElem?
  intro q
  rw [List.getElem?_set]
  by_cases hq : q < n
  · rw [fnC_at _ hq, fnC_at _ hq]
    by_cases e : i = q
    · subst e; simp [h]
    · rw [if_neg e, if_neg (fun e' => e e'.symm)]
  · rw [List.getElem?_eq_none (l := fnC n _) (by simp; omega), List.getElem?_eq_none (by simp; omega), if_neg (by omega)]
theorem fnB_set (f : Nat → Bool) {i : Nat} (h : i < n) (x : Bool) : (fnB n f).set i (.bool x) = fnB n (fun j => if j = i then x else f j) := by
  apply List.ext_getElem?
  intro q
  rw [List.getElem?_set]
  by_cases hq : q < n
  · rw [fnB_at _ hq, fnB_at _ hq]
    by_cases e : i = q
    · subst e; simp [h]
    · rw [if_neg e, if_neg (fun e' => e e'.symm)]
  · rw [List.getElem?_eq_none (l := fnB n _) (by simp; omega), List.getElem?_eq_none (by simp; omega), if_neg (by omega)]
@[simp] theorem fnC_ren (m : Nat → Nat) (f : Nat → Int) : (fnC n f).map (renS m) = fnC n f := by
  unfold fnC; rw [List.map_map]; rfl
@[simp] theorem fnB_ren (m : Nat → Nat) (f : Nat → Bool) : (fnB n f).map (renS m) = fnB n f := by
  unfold fnB; rw [List.map_map]; rfl
@[simp] theorem fnC_all (f : Nat → Int) : (fnC n f).take n = fnC n f := List.take_of_length_le (by simp)
@[simp] theorem fnB_all (f : Nat → Bool) : (fnB n f).take n = fnB n f := List.take_of_length_le (by simp)
@[simp] theorem fnC_rep (x : Int) : List.replicate n (Sc.int .i64 x) = fnC n (fun _ => x) := by
  apply List.ext_getElem?; intro q
  by_cases hq : q < n
  · rw [fnC_at _ hq]; simp [hq]
  · rw [List.getElem?_eq_none (by simp; omega), List.getElem?_eq_none (by simp; omega)]
@[simp] theorem fnB_rep (x : Bool) : List.replicate n (Sc.bool x) = fnB n (fun _ => x) := by
  apply List.ext_getElem?; intro q
  by_cases hq : q < n
  · rw [fnB_at _ hq]; simp [hq]
  · rw [List.getElem?_eq_none (by simp; omega), List.getElem?_eq_none (by simp; omega)]
end
end Go.Proofs.Ytjjhogleiolngaa
