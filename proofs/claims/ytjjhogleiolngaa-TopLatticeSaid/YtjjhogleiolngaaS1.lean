/- slices.Index, Contains, Equal over ints, by the abstract machine. -/
import Derived.Test.YtjjhogleiolngaaB2
namespace Go.Proofs.Ytjjhogleiolngaa
set_option linter.unusedSimpArgs false
set_option linter.unusedVariables false
open Go.RowKit
attribute [local irreducible] AWP ACalls Wk GcTo
attribute [local simp] tab3 ti3 tab47 ti47
/-- A slice of ints that holds a list. -/
def ISl (H : List Blk) (a : Sc) (xs : List Int) : Prop :=
  (xs = [] ∧ (a = .nils ∨ a = .sle)) ∨
  ∃ id off cap cs, a = .sl id off 1 xs.length cap ∧ xs.length ≤ cap ∧ off + xs.length ≤ cs.length ∧ Blk.cells? H[id]? = some cs ∧ ∀ (i : Nat) (x : Int), xs[i]? = some x → cs[off + i]? = some (.int .i64 x)
theorem ISl.len {H : List Blk} {a : Sc} {xs : List Int} (h : ISl H a xs) : lenC ⟨.slice 3, 1, 24, .sc .nils, none⟩ (.sc a) = some (xs.length : Int) := by
  rcases h with ⟨rfl, rfl | rfl⟩ | ⟨id, off, cap, cs, rfl, _⟩ <;> rfl
theorem ISl.at {H : List Blk} {a : Sc} {xs : List Int} (h : ISl H a xs) {i : Nat} (hi : i < xs.length) : ∃ id off cap cs, a = .sl id off 1 xs.length cap ∧ xs.length ≤ cap ∧ Blk.cells? H[id]? = some cs ∧ ∀ (i : Nat) (x : Int), xs[i]? = some x → cs[off + i]? = some (.int .i64 x) := by
  rcases h with ⟨rfl, _⟩ | ⟨id, off, cap, cs, h1, h2, _, h3, h4⟩
  · simp at hi
  · exact ⟨id, off, cap, cs, h1, h2, h3, h4⟩
theorem isl_src {cs : List Sc} {off : Nat} {xs : List Int} (h0 : off + xs.length ≤ cs.length) (h : ∀ (i : Nat) (x : Int), xs[i]? = some x → cs[off + i]? = some (.int .i64 x)) : (cs.drop off).take xs.length = intsC xs := by
  apply List.ext_getElem?
  intro j
  by_cases hj : j < xs.length
  · rw [List.getElem?_take_of_lt hj, List.getElem?_drop, h j _ (List.getElem?_eq_getElem hj), intsC_at _ (List.getElem?_eq_getElem hj)]
  · rw [List.getElem?_eq_none (by simp; omega), List.getElem?_eq_none (by simp; omega)]
theorem ISl.own {H : List Blk} {id : Nat} {xs : List Int} (h : H[id]? = some (intB xs)) : ISl H (intV id xs) xs := by
  cases xs with
  | nil => exact .inl ⟨rfl, .inl rfl⟩
  | cons x r => exact .inr ⟨id, 0, _, intsC (x :: r), rfl, Nat.le_refl _, by simp, by rw [h]; rfl, fun i y hy => by rw [Nat.zero_add]; exact intsC_at _ hy⟩
theorem ISl.ownC {H : List Blk} {id : Nat} {xs : List Int} (h : H[id]? = some (.own (intsC xs))) : ISl H (.sl id 0 1 xs.length xs.length) xs :=
  .inr ⟨id, 0, _, intsC xs, rfl, Nat.le_refl _, by simp, by rw [h]; rfl, fun i y hy => by rw [Nat.zero_add]; exact intsC_at _ hy⟩
theorem cells_lt {H : List Blk} {id : Nat} {cs : List Sc} (h : Blk.cells? H[id]? = some cs) : id < H.length := by
  cases hb : H[id]? with
  | none => rw [hb] at h; cases h
  | some b => exact (List.getElem?_eq_some_iff.1 hb).1
theorem ISl.app {H : List Blk} {a : Sc} {xs : List Int} (h : ISl H a xs) (L : List Blk) : ISl (H ++ L) a xs := by
  rcases h with h | ⟨id, off, cap, cs, rfl, h0, h3, h1, h2⟩
  · exact .inl h
  · exact .inr ⟨id, off, cap, cs, rfl, h0, h3, lowc_of h1 L, h2⟩
theorem ISl.ren {H : List Blk} {a : Sc} {xs : List Int} (h : ISl H a xs) (ks : List Nat) (top : Nat) : renS (mStd H.length ks top) a = a := by
  rcases h with ⟨rfl, rfl | rfl⟩ | ⟨id, off, cap, cs, rfl, h0, h3, h1, h2⟩
  · rfl
  · rfl
  · rw [renS_sl, mStd_low (cells_lt h1)]
/-- The first index from i on, of n, where f says so; else -1. -/
def idxS (f : Nat → Bool) : Nat → Nat → Int
  | 0, _ => -1
  | n + 1, i => if f i then i else idxS f n (i + 1)
theorem idxS_step (f : Nat → Bool) {n i : Nat} (h : i < n) : idxS f (n - i) i = if f i then (i : Int) else idxS f (n - (i + 1)) (i + 1) := by
  obtain ⟨k, hk⟩ : ∃ k, n - i = k + 1 := ⟨n - i - 1, by omega⟩
  rw [hk, show n - (i + 1) = k by omega]; rfl
theorem not_take {α : Type} {xs : List α} {v x : α} {i : Nat} (h : v ∉ xs.take i) (hx : xs[i]? = some x) (hv : ¬v = x) : v ∉ xs.take (i + 1) := by
  rw [List.take_add_one, hx]; simp [h, hv]
set_option maxRecDepth 100000 in
theorem indexInt {H : List Blk} {a : Sc} {xs : List Int} {v : Int} {Q : AV → List Blk → Prop} (ha : ISl H a xs) (hn : xs.length < 9223372036854775807)
    (h1 : v ∉ xs → Q (.c (.sc (.int .i64 (-1)))) H) (h2 : ∀ i : Nat, xs[i]? = some v → v ∉ xs.take i → Q (.c (.sc (.int .i64 i))) H) :
    ACalls Try.prog 130 [.sc a, .sc (.int .i64 v)] H Q := by
  refine acalls_of tabOk Try.func130 (by kernel_rfl) rfl (by kernel_rfl) ?_
  have la := ha.len
  (repeat' (first | refine awp_seq ?_ | (refine awp_region tabOk ?_; simp [-lenC, la]) | (refine awp_if ?_; simp [-lenC, la]) | refine awp_block ?_ | refine And.intro ?_ ?_ | intro _ | (refine awp_skip ?_; simp [-lenC, la]) | (refine awp_ret ?_; simp [-lenC, la]) | (refine awp_exit ?_; simp [-lenC, la])))
  refine awp_loop_at (α := {i : Nat // i ≤ xs.length ∧ v ∉ xs.take i}) (fun i => [(0, .c (.sc a)), (1, .c (.sc (.int .i64 v))), (7, .c (.sc (.int .i64 xs.length))), (8, .c (.sc (.int .i64 i.1)))]) (fun _ => H) (fun i => xs.length - i.1) ⟨0, by omega, by simp⟩ (wk_tl (by simp)) ?_
  rintro ⟨i, hi, he⟩
  by_cases hlt : i < xs.length
  · obtain ⟨id, off, cap, cs, rfl, hcap, hc, hx⟩ := ha.at hlt
    have hxi := List.getElem?_eq_getElem hlt
    have hci := hx i _ hxi
    have wr := wrapS i (by omega)
    by_cases hv : v = xs[i]
    · have hq := h2 i (by rw [hv]; exact hxi) he
      (repeat' (first | refine awp_seq ?_ | (refine awp_region tabOk ?_; simp [hlt, hc, hci, wr, hv]) | (refine awp_if ?_; simp [hlt, hc, hci, wr, hv]) | refine awp_block ?_ | refine And.intro ?_ ?_ | intro _ | (refine awp_skip ?_; simp [hlt, hc, hci, wr, hv]) | (refine awp_ret ?_; simp [hlt, hc, hci, wr, hv]) | (refine awp_exit ?_; simp [hlt, hc, hci, wr, hv])))
      exact ⟨H, _, GcTo.refl (Nat.le_refl _), hq⟩
    · (repeat' (first | refine awp_seq ?_ | (refine awp_region tabOk ?_; simp [hlt, hc, hci, wr, hv]) | (refine awp_if ?_; simp [hlt, hc, hci, wr, hv]) | refine awp_block ?_ | refine And.intro ?_ ?_ | intro _ | (refine awp_skip ?_; simp [hlt, hc, hci, wr, hv]) | (refine awp_ret ?_; simp [hlt, hc, hci, wr, hv]) | (refine awp_exit ?_; simp [hlt, hc, hci, wr, hv])))
      exact ⟨i + 1, by omega, ⟨by omega, not_take he hxi hv⟩, wk_tl (by simp)⟩
  · obtain rfl : i = xs.length := by omega
    (repeat' (first | refine awp_seq ?_ | (refine awp_region tabOk ?_; simp [hlt]) | (refine awp_if ?_; simp [hlt]) | refine awp_block ?_ | refine And.intro ?_ ?_ | intro _ | (refine awp_skip ?_; simp [hlt]) | (refine awp_ret ?_; simp [hlt]) | (refine awp_exit ?_; simp [hlt])))
    exact ⟨H, _, GcTo.refl (Nat.le_refl _), h1 (by rwa [List.take_length] at he)⟩
theorem containsInt {H : List Blk} {a : Sc} {xs : List Int} {v : Int} {Q : AV → List Blk → Prop} (ha : ISl H a xs) (hn : xs.length < 9223372036854775807)
    (h : Q (.c (.sc (.bool (decide (v ∈ xs))))) H) :
    ACalls Try.prog 87 [.sc a, .sc (.int .i64 v)] H Q := by
  refine acalls_of tabOk Try.func87 (by kernel_rfl) rfl (by kernel_rfl) ?_
  (repeat' (first | refine awp_seq ?_ | (refine awp_region tabOk ?_; simp) | (refine awp_if ?_; simp) | refine awp_block ?_ | refine And.intro ?_ ?_ | intro _ | (refine awp_skip ?_; simp) | (refine awp_ret ?_; simp) | (refine awp_exit ?_; simp)))
  refine indexInt ha hn (fun hv => ?_) (fun i hi hv => ?_)
  · ((try simp); (repeat' (first | refine awp_seq ?_ | (refine awp_region tabOk ?_; simp) | (refine awp_if ?_; simp) | refine awp_block ?_ | refine And.intro ?_ ?_ | intro _ | (refine awp_skip ?_; simp) | (refine awp_ret ?_; simp) | (refine awp_exit ?_; simp))))
    rw [decide_eq_false hv] at h
    exact ⟨H, _, GcTo.refl (Nat.le_refl _), h⟩
  · ((try simp); (repeat' (first | refine awp_seq ?_ | (refine awp_region tabOk ?_; simp) | (refine awp_if ?_; simp) | refine awp_block ?_ | refine And.intro ?_ ?_ | intro _ | (refine awp_skip ?_; simp) | (refine awp_ret ?_; simp) | (refine awp_exit ?_; simp))))
    rw [decide_eq_true (List.mem_of_getElem? hi)] at h
    exact ⟨H, _, GcTo.refl (Nat.le_refl _), h⟩
set_option maxRecDepth 100000 in
theorem equalInt {H : List Blk} {a b : Sc} {xs ys : List Int} {Q : AV → List Blk → Prop} (ha : ISl H a xs) (hb : ISl H b ys) (hn : xs.length < 9223372036854775807) 
    (h : Q (.c (.sc (.bool (decide (xs = ys))))) H) :
    ACalls Try.prog 56 [.sc a, .sc b] H Q := by
  refine acalls_of tabOk Try.func56 (by kernel_rfl) rfl (by kernel_rfl) ?_
  have la := ha.len
  have lb := hb.len
  by_cases hl : xs.length = ys.length
  · (repeat' (first | refine awp_seq ?_ | (refine awp_region tabOk ?_; simp [-lenC, la, lb, hl]) | (refine awp_if ?_; simp [-lenC, la, lb, hl]) | refine awp_block ?_ | refine And.intro ?_ ?_ | intro _ | (refine awp_skip ?_; simp [-lenC, la, lb, hl]) | (refine awp_ret ?_; simp [-lenC, la, lb, hl]) | (refine awp_exit ?_; simp [-lenC, la, lb, hl])))
    refine awp_loop_at (α := {i : Nat // i ≤ xs.length ∧ ∀ j, j < i → xs[j]? = ys[j]?}) (fun i => [(0, .c (.sc a)), (1, .c (.sc b)), (12, .c (.sc (.int .i64 ys.length))), (13, .c (.sc (.int .i64 i.1)))]) (fun _ => H) (fun i => xs.length - i.1) ⟨0, by omega, by omega⟩ (wk_tl (by simp)) ?_
    rintro ⟨i, hi, he⟩
    by_cases hlt : i < xs.length
    · obtain ⟨id, off, cap, cs, rfl, hcap, hc, hx⟩ := ha.at hlt
      obtain ⟨id', off', cap', cs', rfl, hcap', hc', hx'⟩ := hb.at (hl ▸ hlt)
      have hlt' : i < ys.length := hl ▸ hlt
      have wr := wrapS i (by omega)
      have hx := hx i _ (List.getElem?_eq_getElem hlt)
      have hx' := hx' i _ (List.getElem?_eq_getElem hlt')
      (repeat' (first | refine awp_seq ?_ | (refine awp_region tabOk ?_; simp [hlt, hlt', hl]) | (refine awp_if ?_; simp [hlt, hlt', hl]) | refine awp_block ?_ | refine And.intro ?_ ?_ | intro _ | (refine awp_skip ?_; simp [hlt, hlt', hl]) | (refine awp_ret ?_; simp [hlt, hlt', hl]) | (refine awp_exit ?_; simp [hlt, hlt', hl])))
      refine awp_draw tabOk mixed [] (by kernel_rfl) ?_
      by_cases hq : xs[i] = ys[i]
      · simp [hlt, hlt', hl, hc, hc', hx, hx', hq]
        (repeat' (first | refine awp_seq ?_ | (refine awp_region tabOk ?_; simp [hlt, hlt', hl, hq, wr]) | (refine awp_if ?_; simp [hlt, hlt', hl, hq, wr]) | refine awp_block ?_ | refine And.intro ?_ ?_ | intro _ | (refine awp_skip ?_; simp [hlt, hlt', hl, hq, wr]) | (refine awp_ret ?_; simp [hlt, hlt', hl, hq, wr]) | (refine awp_exit ?_; simp [hlt, hlt', hl, hq, wr])))
        refine ⟨i + 1, by omega, ⟨by omega, fun j hj => ?_⟩, wk_tl (by simp)⟩
        by_cases hji : j < i
        · exact he j hji
        · obtain rfl : j = i := by omega
          rw [List.getElem?_eq_getElem hlt, List.getElem?_eq_getElem hlt', hq]
      · simp [hlt, hlt', hl, hc, hc', hx, hx', hq]
        (repeat' (first | refine awp_seq ?_ | (refine awp_region tabOk ?_; simp [hlt, hlt', hl, hq, wr]) | (refine awp_if ?_; simp [hlt, hlt', hl, hq, wr]) | refine awp_block ?_ | refine And.intro ?_ ?_ | intro _ | (refine awp_skip ?_; simp [hlt, hlt', hl, hq, wr]) | (refine awp_ret ?_; simp [hlt, hlt', hl, hq, wr]) | (refine awp_exit ?_; simp [hlt, hlt', hl, hq, wr])))
        refine ⟨H, _, GcTo.refl (Nat.le_refl _), ?_⟩
        rw [decide_eq_false (fun e => hq (by subst e; rfl))] at h; exact h
    · (repeat' (first | refine awp_seq ?_ | (refine awp_region tabOk ?_; simp [hlt, ← hl]) | (refine awp_if ?_; simp [hlt, ← hl]) | refine awp_block ?_ | refine And.intro ?_ ?_ | intro _ | (refine awp_skip ?_; simp [hlt, ← hl]) | (refine awp_ret ?_; simp [hlt, ← hl]) | (refine awp_exit ?_; simp [hlt, ← hl])))
      refine ⟨H, _, GcTo.refl (Nat.le_refl _), ?_⟩
      have e : xs = ys := by
        apply List.ext_getElem?
        intro j
        by_cases hj : j < i
        · exact he j hj
        · rw [List.getElem?_eq_none (by omega), List.getElem?_eq_none (by omega)]
      rw [decide_eq_true e] at h; exact h
  · have hl' : ¬ (xs.length : Int) = ys.length := by omega
    (repeat' (first | refine awp_seq ?_ | (refine awp_region tabOk ?_; simp [-lenC, la, lb, hl']) | (refine awp_if ?_; simp [-lenC, la, lb, hl']) | refine awp_block ?_ | refine And.intro ?_ ?_ | intro _ | (refine awp_skip ?_; simp [-lenC, la, lb, hl']) | (refine awp_ret ?_; simp [-lenC, la, lb, hl']) | (refine awp_exit ?_; simp [-lenC, la, lb, hl'])))
    refine ⟨H, _, GcTo.refl (Nat.le_refl _), ?_⟩
    rw [decide_eq_false (fun e => hl (by rw [e]))] at h; exact h
end Go.Proofs.Ytjjhogleiolngaa
