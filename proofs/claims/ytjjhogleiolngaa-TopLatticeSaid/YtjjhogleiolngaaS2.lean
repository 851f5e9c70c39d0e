/- Small words for walks: a first block for a slice that is still nil; lists of ints as slices. No program stands here. -/
import Derived.Test.YtjjhogleiolngaaB1
namespace Go.Proofs.Ytjjhogleiolngaa
open Go.RowKit
theorem wk_gcl0 {N : Nat} {H0 : List Blk} {T : Nat → AV} {L' : List Blk} {l : List (Nat × AV)} (ks : List Nat) (hg : GcOk H0.length ks H0.length [] L') (h : tlOkM (mStd H0.length ks H0.length) T l) :
    Wk N H0 T H0 (tl l) (H0 ++ L') := by
  have := wk_gcl (N := N) (H0 := H0) (T := T) (L := []) (L' := L') (l := l) ks (by simpa using hg) (by simpa using h)
  simpa using this
theorem wrapN (n : Nat) (h : n ≤ 1000000) : IntKind.i64.wrap (n : Int) = n := wrap_in _ (by omega) (by omega)
theorem intV_ne {id : Nat} {xs : List Int} (h : xs.length ≠ 0) : intV id xs = .sl id 0 1 xs.length xs.length := by cases xs; simp at h; rfl
theorem intB_ne {xs : List Int} (h : xs.length ≠ 0) : intB xs = .own (intsC xs) := by cases xs; simp at h; rfl
theorem take_snoc {α : Type} {xs : List α} {j : Nat} {x : α} (h : xs[j]? = some x) : xs.take (j + 1) = xs.take j ++ [x] := by rw [List.take_add_one, h]; rfl
/-- A slice that the function itself made, es cells for each element. -/
def gV {α : Type} (es id : Nat) (xs : List α) : Sc := match xs with | [] => .nils | _ :: _ => .sl id 0 es xs.length xs.length
def gB {α : Type} (enc : α → List Sc) (xs : List α) : Blk := match xs with | [] => .dead | _ :: _ => .own (xs.flatMap enc)
section
variable {α : Type} {enc : α → List Sc} {es : Nat}
@[simp] theorem gV_nil (id : Nat) : gV es id ([] : List α) = .nils := rfl
@[simp] theorem gV_cons (id : Nat) (x : α) (r : List α) : gV es id (x :: r) = .sl id 0 es (r.length + 1) (r.length + 1) := rfl
@[simp] theorem gB_nil : gB enc [] = .dead := rfl
theorem gB_cons (x : α) (r : List α) : gB enc (x :: r) = .own ((x :: r).flatMap enc) := rfl
theorem gV_ne {id : Nat} {xs : List α} (h : xs.length ≠ 0) : gV es id xs = .sl id 0 es xs.length xs.length := by cases xs; simp at h; rfl
theorem gB_ne {xs : List α} (h : xs.length ≠ 0) : gB enc xs = .own (xs.flatMap enc) := by cases xs; simp at h; rfl
@[simp] theorem ren_gV (m : Nat → Nat) (id : Nat) (xs : List α) : renS m (gV es id xs) = gV es (m id) xs := by cases xs <;> rfl
theorem ren_flat {m : Nat → Nat} (h : ∀ x, (enc x).all plainS = true) (xs : List α) : (xs.flatMap enc).map (renS m) = xs.flatMap enc :=
  ren_plain (by simp only [List.all_flatMap, List.all_eq_true]; intro x _; exact List.all_eq_true.1 (h x))
theorem ren_gB {m : Nat → Nat} (h : ∀ x, (enc x).all plainS = true) (xs : List α) : renB m (gB enc xs) = gB enc xs := by
  cases xs with
  | nil => rfl
  | cons x r => exact congrArg Blk.own (ren_flat h _)
theorem flat_len (hl : ∀ x, (enc x).length = es) : ∀ (xs : List α), (xs.flatMap enc).length = xs.length * es
  | [] => by simp
  | x :: r => by rw [List.flatMap_cons, List.length_append, flat_len hl r, hl, List.length_cons, Nat.succ_mul]; omega
theorem flat_at (hl : ∀ x, (enc x).length = es) : ∀ {xs : List α} {i : Nat} {x : α}, xs[i]? = some x → ((xs.flatMap enc).drop (i * es)).take es = enc x
  | [], _, _, h => by simp at h
  | y :: r, 0, x, h => by
    simp only [List.getElem?_cons_zero, Option.some.injEq] at h
    subst h
    rw [Nat.zero_mul, List.drop_zero, List.flatMap_cons, ← hl y, List.take_left]
  | y :: r, i + 1, x, h => by
    have ih := flat_at hl (xs := r) (i := i) (x := x) (by simpa using h)
    rw [List.flatMap_cons, show (i + 1) * es = (enc y).length + i * es by rw [hl, Nat.succ_mul]; omega, ← List.drop_drop, List.drop_left]
    exact ih
theorem flat_lt (hl : ∀ x, (enc x).length = es) {xs : List α} {i : Nat} (h : i < xs.length) : i * es + es ≤ (xs.flatMap enc).length := by
  rw [flat_len hl, ← Nat.succ_mul]; exact Nat.mul_le_mul_right _ h
/-- One cell of one element. -/
theorem flat_cell (hl : ∀ x, (enc x).length = es) {xs : List α} {i j : Nat} {x : α} (h : xs[i]? = some x) (hj : j < es) : (xs.flatMap enc)[i * es + j]? = (enc x)[j]? := by
  rw [← flat_at hl h, List.getElem?_take_of_lt hj, List.getElem?_drop]
theorem flat_all (hl : ∀ x, (enc x).length = es) (xs : List α) {n : Nat} (h : n = xs.length * es) : (xs.flatMap enc).take n = xs.flatMap enc :=
  List.take_of_length_le (by rw [flat_len hl, h]; exact Nat.le_refl _)
end
end Go.Proofs.Ytjjhogleiolngaa
