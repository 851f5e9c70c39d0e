/- PulseSays: slices.Index over bools, slices.Equal over ints. -/
import Derived.Test.YtdeockoaalpcjaaB2
namespace Go.Proofs.Ytdeockoaalpcjaa
set_option linter.unusedSimpArgs false
set_option linter.unusedVariables false
open Go.RowKit
attribute [local irreducible] AWP ACalls Wk GcTo
attribute [local simp] tab3 ti3 tab4 ti4 tab24 ti24 tab70 ti70
/-- The first index from i on, of n, where f says so; else -1. -/
def idxS (f : Nat → Bool) : Nat → Nat → Int
  | 0, _ => -1
  | n + 1, i => if f i then i else idxS f n (i + 1)
theorem idxS_step (f : Nat → Bool) {n i : Nat} (h : i < n) : idxS f (n - i) i = if f i then (i : Int) else idxS f (n - (i + 1)) (i + 1) := by
  obtain ⟨k, hk⟩ : ∃ k, n - i = k + 1 := ⟨n - i - 1, by omega⟩
  rw [hk, show n - (i + 1) = k by omega]; rfl
set_option maxRecDepth 100000 in
theorem indexBool {H : List Blk} {id off n cap : Nat} {cs : List Sc} {f : Nat → Bool} {v : Bool} {Q : AV → List Blk → Prop} (hcs : Blk.cells? H[id]? = some cs) (hn : n < 9223372036854775807)
    (hx : ∀ i, i < n → cs[off + i]? = some (.bool (f i))) (h : Q (.c (.sc (.int .i64 (idxS (fun i => v == f i) n 0)))) H) :
    ACalls Try.prog 41 [.sc (.sl id off 1 n cap), .sc (.bool v)] H Q := by
  refine acalls_of tabOk Try.func41 (by kernel_rfl) rfl (by kernel_rfl) ?_
  walk []
  refine awp_loop_at (α := {i : Nat // i ≤ n ∧ idxS (fun i => v == f i) n 0 = idxS (fun i => v == f i) (n - i) i}) (fun i => [(0, .c (.sc (.sl id off 1 n cap))), (1, .c (.sc (.bool v))), (7, .c (.sc (.int .i64 n))), (8, .c (.sc (.int .i64 i.1)))]) (fun _ => H) (fun i => n - i.1) ⟨0, by omega, rfl⟩ (wk_tl (by simp)) ?_
  rintro ⟨i, hi, he⟩
  by_cases hlt : i < n
  · have hci := hx i hlt
    have wr := wrapS i (by omega)
    rw [idxS_step _ hlt] at he
    cases hv : (v == f i) with
    | true =>
      walk [hlt, hcs, hci, wr, hv]
      refine ⟨H, _, GcTo.refl (Nat.le_refl _), ?_⟩
      simp only [hv, if_true] at he
      rw [he] at h; exact h
    | false =>
      walk [hlt, hcs, hci, wr, hv]
      simp only [hv] at he
      exact ⟨i + 1, by omega, ⟨by omega, he⟩, wk_tl (by simp)⟩
  · obtain rfl : i = n := by omega
    walk [hlt]
    refine ⟨H, _, GcTo.refl (Nat.le_refl _), ?_⟩
    rw [he, Nat.sub_self] at h; exact h
/-- A slice of ints that holds a list. -/
def ISl (H : List Blk) (a : Sc) (xs : List Int) : Prop :=
  (xs = [] ∧ (a = .nils ∨ a = .sle ∨ ∃ id off cap, a = .sl id off 1 0 cap)) ∨
  ∃ id off cap cs, a = .sl id off 1 xs.length cap ∧ Blk.cells? H[id]? = some cs ∧ ∀ (i : Nat) (x : Int), xs[i]? = some x → cs[off + i]? = some (.int .i64 x)
theorem ISl.len {H : List Blk} {a : Sc} {xs : List Int} (h : ISl H a xs) : lenC ti24 (.sc a) = some (xs.length : Int) := by
  rcases h with ⟨rfl, rfl | rfl | ⟨id, off, cap, rfl⟩⟩ | ⟨id, off, cap, cs, rfl, _⟩ <;> rfl
theorem ISl.at {H : List Blk} {a : Sc} {xs : List Int} (h : ISl H a xs) {i : Nat} (hi : i < xs.length) : ∃ id off cap cs, a = .sl id off 1 xs.length cap ∧ Blk.cells? H[id]? = some cs ∧ cs[off + i]? = some (.int .i64 xs[i]) := by
  rcases h with ⟨rfl, _⟩ | ⟨id, off, cap, cs, rfl, h1, h2⟩
  · simp at hi
  · exact ⟨id, off, cap, cs, rfl, h1, h2 i _ (List.getElem?_eq_getElem hi)⟩
theorem ISl.own {H : List Blk} {id : Nat} {xs : List Int} (h : H[id]? = some (intB xs)) : ISl H (intV id xs) xs := by
  cases xs with
  | nil => exact .inl ⟨rfl, .inl rfl⟩
  | cons x r => exact .inr ⟨id, 0, _, _, rfl, by rw [h]; rfl, fun i y hy => by rw [Nat.zero_add]; exact intsC_at _ hy⟩
attribute [-simp] lenC in
set_option maxRecDepth 100000 in
theorem equalInt {H : List Blk} {a b : Sc} {xs ys : List Int} {Q : AV → List Blk → Prop} (ha : ISl H a xs) (hb : ISl H b ys) (hn : xs.length < 9223372036854775807) 
    (h : Q (.c (.sc (.bool (decide (xs = ys))))) H) :
    ACalls Try.prog 42 [.sc a, .sc b] H Q := by
  refine acalls_of tabOk Try.func42 (by kernel_rfl) rfl (by kernel_rfl) ?_
  have la := ha.len
  have lb := hb.len
  simp only [ti24] at la lb
  by_cases hl : xs.length = ys.length
  · walk [la, lb, hl]
    refine awp_loop_at (α := {i : Nat // i ≤ xs.length ∧ ∀ j, j < i → xs[j]? = ys[j]?}) (fun i => [(0, .c (.sc a)), (1, .c (.sc b)), (12, .c (.sc (.int .i64 ys.length))), (13, .c (.sc (.int .i64 i.1)))]) (fun _ => H) (fun i => xs.length - i.1) ⟨0, by omega, by omega⟩ (wk_tl (by simp)) ?_
    rintro ⟨i, hi, he⟩
    by_cases hlt : i < xs.length
    · obtain ⟨id, off, cap, cs, rfl, hc, hx⟩ := ha.at hlt
      obtain ⟨id', off', cap', cs', rfl, hc', hx'⟩ := hb.at (hl ▸ hlt)
      have hlt' : i < ys.length := hl ▸ hlt
      have wr := wrapS i (by omega)
      walk [hlt, hlt', hl]
      refine awp_draw tabOk mixed [] (by kernel_rfl) ?_
      by_cases hq : xs[i] = ys[i]
      · simp [hlt, hlt', hl, hc, hc', hx, hx', hq]
        walk [hlt, hlt', hl, hq, wr]
        refine ⟨i + 1, by omega, ⟨by omega, fun j hj => ?_⟩, wk_tl (by simp)⟩
        by_cases hji : j < i
        · exact he j hji
        · obtain rfl : j = i := by omega
          rw [List.getElem?_eq_getElem hlt, List.getElem?_eq_getElem hlt', hq]
      · simp [hlt, hlt', hl, hc, hc', hx, hx', hq]
        walk [hlt, hlt', hl, hq, wr]
        refine ⟨H, _, GcTo.refl (Nat.le_refl _), ?_⟩
        rw [decide_eq_false (fun e => hq (by subst e; rfl))] at h; exact h
    · walk [hlt, ← hl]
      refine ⟨H, _, GcTo.refl (Nat.le_refl _), ?_⟩
      have e : xs = ys := by
        apply List.ext_getElem?
        intro j
        by_cases hj : j < i
        · exact he j hj
        · rw [List.getElem?_eq_none (by omega), List.getElem?_eq_none (by omega)]
      rw [decide_eq_true e] at h; exact h
  · have hl' : ¬ (xs.length : Int) = ys.length := by omega
    walk [la, lb, hl']
    refine ⟨H, _, GcTo.refl (Nat.le_refl _), ?_⟩
    rw [decide_eq_false (fun e => hl (by rw [e]))] at h; exact h
end Go.Proofs.Ytdeockoaalpcjaa
