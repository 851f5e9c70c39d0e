/- Slices of structs that hold lists. No program stands here. -/
import Derived.Test.YtjjhogleiolngaaS1
import Derived.Test.YtjjhogleiolngaaS2
set_option linter.unusedVariables false
namespace Go.Proofs.Ytjjhogleiolngaa
open Go.RowKit
/-- A slice that holds a list: each element es cells. -/
def GSl {α : Type} (es : Nat) (enc : α → List Sc) (H : List Blk) (a : Sc) (xs : List α) : Prop :=
  (xs = [] ∧ (a = .nils ∨ a = .sle)) ∨
  ∃ id off cap cs, a = .sl id off es xs.length cap ∧ xs.length ≤ cap ∧ off + xs.length * es ≤ cs.length ∧ Blk.cells? H[id]? = some cs ∧ (cs.drop off).take (xs.length * es) = xs.flatMap enc
section
variable {α : Type} {es : Nat} {enc : α → List Sc} {H : List Blk} {a : Sc} {xs : List α}
theorem GSl.len (h : GSl es enc H a xs) {i : TI} {e : TypeId} (hi : i.k = .slice e) : lenC i (.sc a) = some (xs.length : Int) := by
  rcases h with ⟨rfl, rfl | rfl⟩ | ⟨id, off, cap, cs, rfl, _⟩ <;> simp [lenC, hi]
theorem GSl.app (h : GSl es enc H a xs) (L : List Blk) : GSl es enc (H ++ L) a xs := by
  rcases h with h | ⟨id, off, cap, cs, rfl, h1, h2, h3, h4⟩
  · exact .inl h
  · exact .inr ⟨id, off, cap, cs, rfl, h1, h2, lowc_of h3 L, h4⟩
theorem GSl.ren (h : GSl es enc H a xs) (ks : List Nat) (top : Nat) : renS (mStd H.length ks top) a = a := by
  rcases h with ⟨rfl, rfl | rfl⟩ | ⟨id, off, cap, cs, rfl, h1, h2, h3, h4⟩
  · rfl
  · rfl
  · rw [renS_sl, mStd_low (cells_lt h3)]
/-- One element's cells. -/
theorem gsl_row (hl : ∀ x, (enc x).length = es) {off : Nat} {cs : List Sc} (h2 : off + xs.length * es ≤ cs.length) (h4 : (cs.drop off).take (xs.length * es) = xs.flatMap enc) {i : Nat} {x : α} (hx : xs[i]? = some x) :
    (cs.drop (off + i * es)).take es = enc x ∧ off + i * es + es ≤ cs.length := by
  have hi := (List.getElem?_eq_some_iff.1 hx).1
  have hm : i * es + es ≤ xs.length * es := by rw [← Nat.succ_mul]; exact Nat.mul_le_mul_right _ hi
  refine ⟨?_, by omega⟩
  have := flat_at hl hx
  rw [← h4] at this
  rw [← this, List.drop_take, List.drop_drop, List.take_take, Nat.min_eq_left (by omega)]
theorem GSl.at (hl : ∀ x, (enc x).length = es) (h : GSl es enc H a xs) {i : Nat} (hi : i < xs.length) : ∃ id off cap cs, a = .sl id off es xs.length cap ∧ xs.length ≤ cap ∧ Blk.cells? H[id]? = some cs ∧
    ∀ (i : Nat) (x : α), xs[i]? = some x → (cs.drop (off + i * es)).take es = enc x ∧ off + i * es + es ≤ cs.length := by
  rcases h with ⟨rfl, _⟩ | ⟨id, off, cap, cs, h1, h2, h3, h4, h5⟩
  · simp at hi
  · exact ⟨id, off, cap, cs, h1, h2, h4, fun i x hx => gsl_row hl h3 h5 hx⟩
theorem GSl.own (hl : ∀ x, (enc x).length = es) {id : Nat} (h : H[id]? = some (gB enc xs)) : GSl es enc H (gV es id xs) xs := by
  cases xs with
  | nil => exact .inl ⟨rfl, .inl rfl⟩
  | cons x r => exact .inr ⟨id, 0, _, (x :: r).flatMap enc, rfl, Nat.le_refl _, by rw [flat_len hl]; omega, by rw [h]; rfl, by rw [List.drop_zero, flat_all hl _ rfl]⟩
theorem GSl.ownC (hl : ∀ x, (enc x).length = es) {id cap : Nat} {cs : List Sc} (h : H[id]? = some (.own cs)) (hc : cs.take (xs.length * es) = xs.flatMap enc) (hk : xs.length ≤ cap) (h2 : xs.length * es ≤ cs.length) : GSl es enc H (.sl id 0 es xs.length cap) xs :=
  .inr ⟨id, 0, cap, cs, rfl, hk, by omega, by rw [h]; rfl, by rw [List.drop_zero]; exact hc⟩
/-- The first i. -/
theorem GSl.pre (hl : ∀ x, (enc x).length = es) {id off cap : Nat} (h : GSl es enc H (.sl id off es xs.length cap) xs) {i : Nat} (hi : i ≤ xs.length) : GSl es enc H (.sl id off es i cap) (xs.take i) := by
  rcases h with ⟨rfl, h | h⟩ | ⟨id, off, cap, cs, h1, h2, h3, h4, h5⟩
  · cases h
  · cases h
  · cases h1
    have e : (xs.take i).length = i := by rw [List.length_take, Nat.min_eq_left hi]
    have hm : i * es ≤ xs.length * es := Nat.mul_le_mul_right _ hi
    refine .inr ⟨id, off, cap, cs, by rw [e], by omega, by rw [e]; omega, h4, ?_⟩
    rw [e]
    have : (cs.drop off).take (i * es) = (xs.flatMap enc).take (i * es) := by rw [← h5, List.take_take, Nat.min_eq_left hm]
    rw [this]
    have e2 : xs.flatMap enc = (xs.take i).flatMap enc ++ (xs.drop i).flatMap enc := by rw [← List.flatMap_append, List.take_append_drop]
    have e3 : ((xs.take i).flatMap enc).length = i * es := by rw [flat_len hl, e]
    rw [e2, ← e3, List.take_left]
end
theorem gV_lenC {α : Type} {es id : Nat} {xs : List α} {i : TI} {e : TypeId} (hi : i.k = .slice e) : lenC i (.sc (gV es id xs)) = some (xs.length : Int) := by
  cases xs <;> simp [lenC, hi, gV]
theorem gB_snoc {α : Type} {enc : α → List Sc} (xs : List α) (x : α) : gB enc (xs ++ [x]) = .own (xs.flatMap enc ++ enc x) := by
  cases xs <;> simp [gB]
theorem gV_snoc {α : Type} {es id : Nat} (xs : List α) (x : α) : gV es id (xs ++ [x]) = .sl id 0 es (xs.length + 1) (xs.length + 1) := by
  cases xs <;> simp [gV]
end Go.Proofs.Ytjjhogleiolngaa
