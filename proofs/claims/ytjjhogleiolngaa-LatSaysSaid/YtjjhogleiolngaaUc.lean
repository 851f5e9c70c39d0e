/- Lists of sets: slices.BinarySearch, partref.SetsErr. -/
import Derived.Test.YtjjhogleiolngaaUb
namespace Go.Proofs.Ytjjhogleiolngaa
set_option linter.unusedSimpArgs false
set_option linter.unusedVariables false
open Go.RowKit
attribute [local irreducible] AWP ACalls Wk GcTo
attribute [local simp] tab3 ti3 tab4 ti4 tab29 ti29 tab40 ti40 tab44 ti44 tab145 ti145
open Se
theorem nan1 {H : List Blk} {x : Int} {Q : AV → List Blk → Prop} (q : Q (.c (.sc (.bool false))) H) : ACalls Try.prog 136 [.sc (.int .u16 x)] H Q := by
  refine acalls_of tabOk Try.func136 (by kernel_rfl) rfl (by kernel_rfl) ?_
  (repeat' (first | refine awp_seq ?_ | (refine awp_region tabOk ?_; simp) | (refine awp_if ?_; simp) | refine awp_block ?_ | refine And.intro ?_ ?_ | intro _ | (refine awp_skip ?_; simp) | (refine awp_ret ?_; simp) | (refine awp_exit ?_; simp)))
  exact ⟨H, _, GcTo.refl (Nat.le_refl _), q⟩
theorem nan2 {H : List Blk} {x : Int} {Q : AV → List Blk → Prop} (q : Q (.c (.sc (.bool false))) H) : ACalls Try.prog 146 [.sc (.int .u16 x)] H Q := by
  refine acalls_of tabOk Try.func146 (by kernel_rfl) rfl (by kernel_rfl) ?_
  (repeat' (first | refine awp_seq ?_ | (refine awp_region tabOk ?_; simp) | (refine awp_if ?_; simp) | refine awp_block ?_ | refine And.intro ?_ ?_ | intro _ | (refine awp_skip ?_; simp) | (refine awp_ret ?_; simp) | (refine awp_exit ?_; simp)))
  exact ⟨H, _, GcTo.refl (Nat.le_refl _), q⟩
theorem lessU16 {H : List Blk} {x y : Nat} {Q : AV → List Blk → Prop} (q : Q (.c (.sc (.bool (decide (x < y))))) H) : ACalls Try.prog 135 [.sc (.int .u16 x), .sc (.int .u16 y)] H Q := by
  refine acalls_of tabOk Try.func135 (by kernel_rfl) rfl (by kernel_rfl) ?_
  (repeat' (first | refine awp_seq ?_ | (refine awp_region tabOk ?_; simp) | (refine awp_if ?_; simp) | refine awp_block ?_ | refine And.intro ?_ ?_ | intro _ | (refine awp_skip ?_; simp) | (refine awp_ret ?_; simp) | (refine awp_exit ?_; simp)))
  refine nan2 ?_
  ((try simp); (repeat' (first | refine awp_seq ?_ | (refine awp_region tabOk ?_; simp) | (refine awp_if ?_; simp) | refine awp_block ?_ | refine And.intro ?_ ?_ | intro _ | (refine awp_skip ?_; simp) | (refine awp_ret ?_; simp) | (refine awp_exit ?_; simp))))
  refine ⟨.sc (.bool true), ?_⟩
  by_cases h : x < y
  · rw [decide_eq_true h] at q
    ((try simp [h]); (repeat' (first | refine awp_seq ?_ | (refine awp_region tabOk ?_; simp [h]) | (refine awp_if ?_; simp [h]) | refine awp_block ?_ | refine And.intro ?_ ?_ | intro _ | (refine awp_skip ?_; simp [h]) | (refine awp_ret ?_; simp [h]) | (refine awp_exit ?_; simp [h]))))
    exact ⟨H, _, GcTo.refl (Nat.le_refl _), q⟩
  · rw [decide_eq_false h] at q
    ((try simp [h]); (repeat' (first | refine awp_seq ?_ | (refine awp_region tabOk ?_; simp [h]) | (refine awp_if ?_; simp [h]) | refine awp_block ?_ | refine And.intro ?_ ?_ | intro _ | (refine awp_skip ?_; simp [h]) | (refine awp_ret ?_; simp [h]) | (refine awp_exit ?_; simp [h]))))
    exact ⟨H, _, GcTo.refl (Nat.le_refl _), q⟩
theorem wrap_u64n {n : Nat} (h : n < 18446744073709551616) : IntKind.u64.wrap (n : Int) = n := by
  simp only [IntKind.wrap, IntKind.signed, IntKind.bits]; simp; omega
set_option maxRecDepth 100000 in
set_option maxHeartbeats 1000000 in
theorem binSearch {H : List Blk} {a : Sc} {l : List Nat} {x : Nat} {Q : AV → List Blk → Prop} (ha : USl H a l) (h0 : 0 < l.length) (hl : l.length ≤ 4096) (hso : ∀ i j, i < j → j < l.length → l.getD i 0 < l.getD j 0)
    (q : ∀ pos : Int, Q (.tup [.sc (.int .i64 pos), .sc (.bool (decide (x ∈ l)))]) H) :
    ACalls Try.prog 93 [.sc a, .sc (.int .u16 x)] H Q := by
  refine acalls_of tabOk Try.func93 (by kernel_rfl) rfl (by kernel_rfl) ?_
  obtain ⟨id, off, cap, cs, rfl, hcap, hc, hx⟩ := usl_at ha h0
  obtain ⟨n, hn⟩ : ∃ n, l.length = n := ⟨_, rfl⟩
  rw [hn] at h0 hl hcap ⊢
  rw [hn] at hso
  have hget : ∀ k, k < n → ∃ s, l[k]? = some s ∧ l.getD k 0 = s := fun k hk => ⟨l[k]'(by omega), List.getElem?_eq_getElem _, getD_at (List.getElem?_eq_getElem _)⟩
  (repeat' (first | refine awp_seq ?_ | (refine awp_region tabOk ?_; simp) | (refine awp_if ?_; simp) | refine awp_block ?_ | refine And.intro ?_ ?_ | intro _ | (refine awp_skip ?_; simp) | (refine awp_ret ?_; simp) | (refine awp_exit ?_; simp)))
  refine awp_loop_at (α := {p : Nat × Nat // p.1 ≤ p.2 ∧ p.2 ≤ n ∧ (∀ k, k < p.1 → l.getD k 0 < x) ∧ ∀ k, p.2 ≤ k → k < n → x ≤ l.getD k 0}) (fun p => [(0, .c (.sc (.sl id off 1 n cap))), (1, .c (.sc (.int .u16 x))), (6, .c (.sc (.int .i64 n))), (7, .c (.sc (.int .i64 p.1.1))), (8, .c (.sc (.int .i64 p.1.2)))])
    (fun _ => H) (fun p => p.1.2 - p.1.1) ⟨(0, n), by simp, by simp, by simp, fun k h1 h2 => by simp at h1; omega⟩ (wk_tl (by simp)) ?_
  rintro ⟨⟨lo, hi⟩, h1, h2, h3, h4⟩
  simp only at h1 h2 h3 h4
  by_cases hlt : lo < hi
  · obtain ⟨m, hm⟩ : ∃ m, m = (lo + hi) / 2 := ⟨_, rfl⟩
    have hml : m < n := by omega
    have hml' : (m : Int) < n := by omega
    obtain ⟨s, hs, hgs⟩ := hget m hml
    have z1 := hx m s hs
    obtain ⟨_, z1'⟩ := List.getElem?_eq_some_iff.1 z1
    have w1 : IntKind.i64.wrap ((lo : Int) + (hi : Int)) = (lo : Int) + (hi : Int) := wrap_in _ (by omega) (by omega)
    have w2 : IntKind.u64.wrap ((lo : Int) + (hi : Int)) = (lo : Int) + (hi : Int) := by have := wrap_u64n (n := lo + hi) (by omega); push_cast at this; exact this
    have w3 : shrOf .u64 ((lo : Int) + (hi : Int)) 1 = (m : Int) := by
      have : shrOf .u64 ((lo + hi : Nat) : Int) ((1 : Nat) : Int) = (((lo + hi) / 2 ^ 1 : Nat) : Int) := shr_nat .u64 (lo + hi) 1 (by decide)
      rw [show (2 : Nat) ^ 1 = 2 from rfl, ← hm] at this
      push_cast at this; exact this
    have w4 := wrap_in (m : Int) (by omega) (by omega)
    have w5 := wrapS m (by omega)
    (repeat' (first | refine awp_seq ?_ | (refine awp_region tabOk ?_; simp [hlt, w1, w2, w3, w4, hml, hml', hc, z1, z1']) | (refine awp_if ?_; simp [hlt, w1, w2, w3, w4, hml, hml', hc, z1, z1']) | refine awp_block ?_ | refine And.intro ?_ ?_ | intro _ | (refine awp_skip ?_; simp [hlt, w1, w2, w3, w4, hml, hml', hc, z1, z1']) | (refine awp_ret ?_; simp [hlt, w1, w2, w3, w4, hml, hml', hc, z1, z1']) | (refine awp_exit ?_; simp [hlt, w1, w2, w3, w4, hml, hml', hc, z1, z1'])))
    refine lessU16 ?_
    by_cases hsx : s < x
    · ((try simp [hsx, w5]); (repeat' (first | refine awp_seq ?_ | (refine awp_region tabOk ?_; simp [hsx, w5]) | (refine awp_if ?_; simp [hsx, w5]) | refine awp_block ?_ | refine And.intro ?_ ?_ | intro _ | (refine awp_skip ?_; simp [hsx, w5]) | (refine awp_ret ?_; simp [hsx, w5]) | (refine awp_exit ?_; simp [hsx, w5]))))
      exact ⟨m + 1, hi, by omega, ⟨by omega, h2, fun k hk => by
        show l.getD k 0 < x
        by_cases e : k = m
        · subst e; rw [hgs]; exact hsx
        · have := hso k m (by omega) hml; omega, h4⟩, wk_tl (by simp [w5])⟩
    · ((try simp [hsx]); (repeat' (first | refine awp_seq ?_ | (refine awp_region tabOk ?_; simp [hsx]) | (refine awp_if ?_; simp [hsx]) | refine awp_block ?_ | refine And.intro ?_ ?_ | intro _ | (refine awp_skip ?_; simp [hsx]) | (refine awp_ret ?_; simp [hsx]) | (refine awp_exit ?_; simp [hsx]))))
      exact ⟨lo, m, by omega, ⟨by omega, by omega, h3, fun k hk hkn => by
        show x ≤ l.getD k 0
        by_cases e : k = m
        · subst e; rw [hgs]; omega
        · have := hso m k (by omega) hkn; omega⟩, wk_tl (by simp)⟩
  · obtain rfl : lo = hi := by omega
    have q' := q (lo : Int)
    by_cases hln : lo < n
    · obtain ⟨s, hs, hgs⟩ := hget lo hln
      have z1 := hx lo s hs
      obtain ⟨_, z1'⟩ := List.getElem?_eq_some_iff.1 z1
      have hln' : (lo : Int) < n := by omega
      by_cases e : s = x
      · subst e
        rw [decide_eq_true (List.mem_of_getElem? hs)] at q'
        (repeat' (first | refine awp_seq ?_ | (refine awp_region tabOk ?_; simp [hln, hln', hc, z1, z1']) | (refine awp_if ?_; simp [hln, hln', hc, z1, z1']) | refine awp_block ?_ | refine And.intro ?_ ?_ | intro _ | (refine awp_skip ?_; simp [hln, hln', hc, z1, z1']) | (refine awp_ret ?_; simp [hln, hln', hc, z1, z1']) | (refine awp_exit ?_; simp [hln, hln', hc, z1, z1'])))
        refine ⟨.sc (.bool false), ?_⟩
        refine ⟨.sc (.bool false), ?_⟩
        ((try simp); (repeat' (first | refine awp_seq ?_ | (refine awp_region tabOk ?_; simp) | (refine awp_if ?_; simp) | refine awp_block ?_ | refine And.intro ?_ ?_ | intro _ | (refine awp_skip ?_; simp) | (refine awp_ret ?_; simp) | (refine awp_exit ?_; simp))))
        exact ⟨H, _, GcTo.refl (Nat.le_refl _), q'⟩
      · have hnot : x ∉ l := fun hm => by
          obtain ⟨k, hk⟩ := List.getElem?_of_mem hm
          have hkn : k < n := by have := (List.getElem?_eq_some_iff.1 hk).1; omega
          have hgk := getD_at hk
          rcases Nat.lt_trichotomy k lo with h | h | h
          · have := h3 k h; omega
          · subst h; rw [hs] at hk; cases hk; exact e rfl
          · have a1 := hso lo k h hkn; have a2 := h4 lo (Nat.le_refl _) hln; omega
        rw [decide_eq_false hnot] at q'
        have e' : ¬(s : Int) = x := by omega
        (repeat' (first | refine awp_seq ?_ | (refine awp_region tabOk ?_; simp [hln, hln', hc, z1, z1', e, e']) | (refine awp_if ?_; simp [hln, hln', hc, z1, z1', e, e']) | refine awp_block ?_ | refine And.intro ?_ ?_ | intro _ | (refine awp_skip ?_; simp [hln, hln', hc, z1, z1', e, e']) | (refine awp_ret ?_; simp [hln, hln', hc, z1, z1', e, e']) | (refine awp_exit ?_; simp [hln, hln', hc, z1, z1', e, e'])))
        refine ⟨_, nan1 ⟨rfl, rfl⟩, ?_⟩
        simp
        refine ⟨.sc (.bool false), ?_⟩
        ((try simp); (repeat' (first | refine awp_seq ?_ | (refine awp_region tabOk ?_; simp) | (refine awp_if ?_; simp) | refine awp_block ?_ | refine And.intro ?_ ?_ | intro _ | (refine awp_skip ?_; simp) | (refine awp_ret ?_; simp) | (refine awp_exit ?_; simp))))
        exact ⟨H, _, GcTo.refl (Nat.le_refl _), q'⟩
    · have hnot : x ∉ l := fun hm => by
        obtain ⟨k, hk⟩ := List.getElem?_of_mem hm
        have hkn : k < n := by have := (List.getElem?_eq_some_iff.1 hk).1; omega
        have hgk := getD_at hk
        have := h3 k (by omega); omega
      rw [decide_eq_false hnot] at q'
      (repeat' (first | refine awp_seq ?_ | (refine awp_region tabOk ?_; simp [hln, hc]) | (refine awp_if ?_; simp [hln, hc]) | refine awp_block ?_ | refine And.intro ?_ ?_ | intro _ | (refine awp_skip ?_; simp [hln, hc]) | (refine awp_ret ?_; simp [hln, hc]) | (refine awp_exit ?_; simp [hln, hc])))
      refine ⟨.sc (.bool false), ?_⟩
      simp
      refine ⟨.sc (.bool false), ?_⟩
      ((try simp); (repeat' (first | refine awp_seq ?_ | (refine awp_region tabOk ?_; simp) | (refine awp_if ?_; simp) | refine awp_block ?_ | refine And.intro ?_ ?_ | intro _ | (refine awp_skip ?_; simp) | (refine awp_ret ?_; simp) | (refine awp_exit ?_; simp))))
      exact ⟨H, _, GcTo.refl (Nat.le_refl _), q'⟩
end Go.Proofs.Ytjjhogleiolngaa
