/- Posets: match.Check, partref.PairsErr on equal bounds. -/
import Derived.Test.YtjjhogleiolngaaLa
import Derived.Test.YtjjhogleiolngaaVc
namespace Go.Proofs.Ytjjhogleiolngaa
set_option linter.unusedSimpArgs false
set_option linter.unusedVariables false
open Go.RowKit
attribute [local irreducible] AWP ACalls Wk GcTo
attribute [local simp] tab3 ti3 tab4 ti4 tab29 ti29 tab36 ti36 tab62 ti62
open Po Cl
set_option maxRecDepth 100000 in
set_option maxHeartbeats 1000000 in
theorem matchCheck {H : List Blk} {a : Sc} {n : Int} {l : List Pa} {Q : AV → List Blk → Prop} (ha : PSl H a l) (q : Q (.c (.sc (.int .i64 (mErr n n l)))) H) :
    ACalls Try.prog 145 [.sc (.int .i64 n), .sc (.int .i64 n), .sc a] H Q := by
  refine acalls_of tabOk Try.func145 (by kernel_rfl) rfl (by kernel_rfl) ?_
  have la := ha.len (i := ti36) (e := 62) rfl
  have hra := ha.ren
  simp only [ti36] at la
  by_cases h0 : n < 0
  · have e : mErr n n l = 1 := if_pos (.inl h0)
    rw [e] at q
    (repeat' (first | refine awp_seq ?_ | (refine awp_region tabOk ?_; simp [h0]) | (refine awp_if ?_; simp [h0]) | refine awp_block ?_ | refine And.intro ?_ ?_ | intro _ | (refine awp_skip ?_; simp [h0]) | (refine awp_ret ?_; simp [h0]) | (refine awp_exit ?_; simp [h0])))
    exact ⟨H, _, GcTo.refl (Nat.le_refl _), q⟩
  by_cases h1 : 40 < n
  · have e : mErr n n l = 1 := if_pos (.inr (.inl h1))
    rw [e] at q
    (repeat' (first | refine awp_seq ?_ | (refine awp_region tabOk ?_; simp [h0, h1]) | (refine awp_if ?_; simp [h0, h1]) | refine awp_block ?_ | refine And.intro ?_ ?_ | intro _ | (refine awp_skip ?_; simp [h0, h1]) | (refine awp_ret ?_; simp [h0, h1]) | (refine awp_exit ?_; simp [h0, h1])))
    exact ⟨H, _, GcTo.refl (Nat.le_refl _), q⟩
  by_cases h2 : 600 < l.length
  · have h2' : (600 : Int) < l.length := by omega
    have e : mErr n n l = 2 := by unfold mErr; rw [if_neg (by omega), if_pos h2]
    rw [e] at q
    (repeat' (first | refine awp_seq ?_ | (refine awp_region tabOk ?_; simp [-lenC, la, h0, h1, h2']) | (refine awp_if ?_; simp [-lenC, la, h0, h1, h2']) | refine awp_block ?_ | refine And.intro ?_ ?_ | intro _ | (refine awp_skip ?_; simp [-lenC, la, h0, h1, h2']) | (refine awp_ret ?_; simp [-lenC, la, h0, h1, h2']) | (refine awp_exit ?_; simp [-lenC, la, h0, h1, h2'])))
    exact ⟨H, _, GcTo.refl (Nat.le_refl _), q⟩
  have h2' : ¬(600 : Int) < l.length := by omega
  have e : mErr n n l = if ∀ p ∈ l, inP n n p then 0 else 4 := by unfold mErr; rw [if_neg (by omega), if_neg h2]
  (repeat' (first | refine awp_seq ?_ | (refine awp_region tabOk ?_; simp [-lenC, la, h0, h1, h2']) | (refine awp_if ?_; simp [-lenC, la, h0, h1, h2']) | refine awp_block ?_ | refine And.intro ?_ ?_ | intro _ | (refine awp_skip ?_; simp [-lenC, la, h0, h1, h2']) | (refine awp_ret ?_; simp [-lenC, la, h0, h1, h2']) | (refine awp_exit ?_; simp [-lenC, la, h0, h1, h2'])))
  refine awp_loop_at (α := {i : Nat // i ≤ l.length ∧ ∀ p ∈ l.take i, inP n n p}) (fun i => [(0, .c (.sc (.int .i64 n))), (1, .c (.sc (.int .i64 n))), (26, .c (.sc a)), (27, .c (.sc (.int .i64 l.length))), (28, .c (.sc (.int .i64 i.1)))])
    (fun _ => H) (fun i => l.length - i.1) ⟨0, by omega, by simp⟩ (wk_tl (by simp)) ?_
  rintro ⟨i, hi, hp⟩
  by_cases hlt : i < l.length
  · obtain ⟨p, hx⟩ : ∃ p, l[i]? = some p := ⟨l[i], List.getElem?_eq_getElem hlt⟩
    obtain ⟨id, off, cap, cs, rfl, hcap, hc, hrow⟩ := GSl.at plen ha hlt
    obtain ⟨r1, r2⟩ := hrow i p hx
    have hc2 := fun L => lowc_of hc L
    have hid : ∀ ks top, mStd H.length ks top id = id := fun ks top => mStd_low (cells_lt hc)
    have wr := wrapS i (by omega)
    rw [penc_def] at r1
    by_cases hin : inP n n p
    · have hin' := hin
      obtain ⟨b1, b2, b3, b4⟩ := hin
      have c1 : ¬p.a < 0 := by omega
      have c2 : ¬n ≤ p.a := by omega
      have c3 : ¬p.b < 0 := by omega
      have c4 : ¬n ≤ p.b := by omega
      (repeat' (first | refine awp_seq ?_ | (refine awp_region tabOk ?_; simp [hlt, hc, hc2, r1, r2, c1, c2, c3, c4, wr]) | (refine awp_if ?_; simp [hlt, hc, hc2, r1, r2, c1, c2, c3, c4, wr]) | refine awp_block ?_ | refine And.intro ?_ ?_ | intro _ | (refine awp_skip ?_; simp [hlt, hc, hc2, r1, r2, c1, c2, c3, c4, wr]) | (refine awp_ret ?_; simp [hlt, hc, hc2, r1, r2, c1, c2, c3, c4, wr]) | (refine awp_exit ?_; simp [hlt, hc, hc2, r1, r2, c1, c2, c3, c4, wr])))
      exact ⟨i + 1, by omega, ⟨by omega, fun y hy => by
        rw [take_snoc hx] at hy
        rcases List.mem_append.1 hy with h | h
        · exact hp y h
        · simp at h; subst h; exact hin'⟩, wk_gclN (by simp [hid, wr])⟩
    · have e4 : mErr n n l = 4 := by rw [e, if_neg (fun h => hin (h p (List.mem_of_getElem? hx)))]
      rw [e4] at q
      have bad : p.a < 0 ∨ (¬p.a < 0 ∧ n ≤ p.a) ∨ (¬p.a < 0 ∧ ¬n ≤ p.a ∧ p.b < 0) ∨ (¬p.a < 0 ∧ ¬n ≤ p.a ∧ ¬p.b < 0 ∧ n ≤ p.b) := by unfold inP at hin; omega
      rcases bad with h1 | ⟨h1, h2⟩ | ⟨h1, h2, h3⟩ | ⟨h1, h2, h3, h4⟩
      · (repeat' (first | refine awp_seq ?_ | (refine awp_region tabOk ?_; simp [hlt, hc, hc2, r1, r2, h1]) | (refine awp_if ?_; simp [hlt, hc, hc2, r1, r2, h1]) | refine awp_block ?_ | refine And.intro ?_ ?_ | intro _ | (refine awp_skip ?_; simp [hlt, hc, hc2, r1, r2, h1]) | (refine awp_ret ?_; simp [hlt, hc, hc2, r1, r2, h1]) | (refine awp_exit ?_; simp [hlt, hc, hc2, r1, r2, h1])))
        exact ⟨H, _, gcTo_none (fun _ => rfl), q⟩
      · (repeat' (first | refine awp_seq ?_ | (refine awp_region tabOk ?_; simp [hlt, hc, hc2, r1, r2, h1, h2]) | (refine awp_if ?_; simp [hlt, hc, hc2, r1, r2, h1, h2]) | refine awp_block ?_ | refine And.intro ?_ ?_ | intro _ | (refine awp_skip ?_; simp [hlt, hc, hc2, r1, r2, h1, h2]) | (refine awp_ret ?_; simp [hlt, hc, hc2, r1, r2, h1, h2]) | (refine awp_exit ?_; simp [hlt, hc, hc2, r1, r2, h1, h2])))
        exact ⟨H, _, gcTo_none (fun _ => rfl), q⟩
      · (repeat' (first | refine awp_seq ?_ | (refine awp_region tabOk ?_; simp [hlt, hc, hc2, r1, r2, h1, h2, h3]) | (refine awp_if ?_; simp [hlt, hc, hc2, r1, r2, h1, h2, h3]) | refine awp_block ?_ | refine And.intro ?_ ?_ | intro _ | (refine awp_skip ?_; simp [hlt, hc, hc2, r1, r2, h1, h2, h3]) | (refine awp_ret ?_; simp [hlt, hc, hc2, r1, r2, h1, h2, h3]) | (refine awp_exit ?_; simp [hlt, hc, hc2, r1, r2, h1, h2, h3])))
        exact ⟨H, _, gcTo_none (fun _ => rfl), q⟩
      · (repeat' (first | refine awp_seq ?_ | (refine awp_region tabOk ?_; simp [hlt, hc, hc2, r1, r2, h1, h2, h3, h4]) | (refine awp_if ?_; simp [hlt, hc, hc2, r1, r2, h1, h2, h3, h4]) | refine awp_block ?_ | refine And.intro ?_ ?_ | intro _ | (refine awp_skip ?_; simp [hlt, hc, hc2, r1, r2, h1, h2, h3, h4]) | (refine awp_ret ?_; simp [hlt, hc, hc2, r1, r2, h1, h2, h3, h4]) | (refine awp_exit ?_; simp [hlt, hc, hc2, r1, r2, h1, h2, h3, h4])))
        exact ⟨H, _, gcTo_none (fun _ => rfl), q⟩
  · obtain rfl : i = l.length := by omega
    rw [List.take_length] at hp
    rw [e, if_pos hp] at q
    (repeat' (first | refine awp_seq ?_ | (refine awp_region tabOk ?_; simp [hlt]) | (refine awp_if ?_; simp [hlt]) | refine awp_block ?_ | refine And.intro ?_ ?_ | intro _ | (refine awp_skip ?_; simp [hlt]) | (refine awp_ret ?_; simp [hlt]) | (refine awp_exit ?_; simp [hlt])))
    exact ⟨H, _, GcTo.refl (Nat.le_refl _), q⟩
set_option maxRecDepth 100000 in
set_option maxHeartbeats 1000000 in
theorem pairsErr {H : List Blk} {a : Sc} {n : Int} {l : List Pa} {Q : AV → List Blk → Prop} (ha : PSl H a l) (q : Q (.c (.sc (.int .i64 (mErr n n l)))) H) :
    ACalls Try.prog 89 [.sc (.int .i64 n), .sc (.int .i64 n), .sc a] H Q := by
  refine acalls_of tabOk Try.func89 (by kernel_rfl) rfl (by kernel_rfl) ?_
  have la := ha.len (i := ti36) (e := 62) rfl
  have hra := ha.ren
  simp only [ti36] at la
  by_cases h0 : n < 0
  · have e : mErr n n l = 1 := if_pos (.inl h0)
    rw [e] at q
    (repeat' (first | refine awp_seq ?_ | (refine awp_region tabOk ?_; simp [h0]) | (refine awp_if ?_; simp [h0]) | refine awp_block ?_ | refine And.intro ?_ ?_ | intro _ | (refine awp_skip ?_; simp [h0]) | (refine awp_ret ?_; simp [h0]) | (refine awp_exit ?_; simp [h0])))
    exact ⟨H, _, GcTo.refl (Nat.le_refl _), q⟩
  by_cases h1 : 40 < n
  · have e : mErr n n l = 1 := if_pos (.inr (.inl h1))
    rw [e] at q
    (repeat' (first | refine awp_seq ?_ | (refine awp_region tabOk ?_; simp [h0, h1]) | (refine awp_if ?_; simp [h0, h1]) | refine awp_block ?_ | refine And.intro ?_ ?_ | intro _ | (refine awp_skip ?_; simp [h0, h1]) | (refine awp_ret ?_; simp [h0, h1]) | (refine awp_exit ?_; simp [h0, h1])))
    exact ⟨H, _, GcTo.refl (Nat.le_refl _), q⟩
  by_cases h2 : 600 < l.length
  · have h2' : (600 : Int) < l.length := by omega
    have e : mErr n n l = 2 := by unfold mErr; rw [if_neg (by omega), if_pos h2]
    rw [e] at q
    (repeat' (first | refine awp_seq ?_ | (refine awp_region tabOk ?_; simp [-lenC, la, h0, h1, h2']) | (refine awp_if ?_; simp [-lenC, la, h0, h1, h2']) | refine awp_block ?_ | refine And.intro ?_ ?_ | intro _ | (refine awp_skip ?_; simp [-lenC, la, h0, h1, h2']) | (refine awp_ret ?_; simp [-lenC, la, h0, h1, h2']) | (refine awp_exit ?_; simp [-lenC, la, h0, h1, h2'])))
    exact ⟨H, _, GcTo.refl (Nat.le_refl _), q⟩
  have h2' : ¬(600 : Int) < l.length := by omega
  have e : mErr n n l = if ∀ p ∈ l, inP n n p then 0 else 4 := by unfold mErr; rw [if_neg (by omega), if_neg h2]
  (repeat' (first | refine awp_seq ?_ | (refine awp_region tabOk ?_; simp [-lenC, la, h0, h1, h2']) | (refine awp_if ?_; simp [-lenC, la, h0, h1, h2']) | refine awp_block ?_ | refine And.intro ?_ ?_ | intro _ | (refine awp_skip ?_; simp [-lenC, la, h0, h1, h2']) | (refine awp_ret ?_; simp [-lenC, la, h0, h1, h2']) | (refine awp_exit ?_; simp [-lenC, la, h0, h1, h2'])))
  refine awp_loop_at (α := {i : Nat // i ≤ l.length ∧ ∀ p ∈ l.take i, inP n n p}) (fun i => [(0, .c (.sc (.int .i64 n))), (1, .c (.sc (.int .i64 n))), (22, .c (.sc a)), (23, .c (.sc (.int .i64 l.length))), (24, .c (.sc (.int .i64 i.1)))])
    (fun _ => H) (fun i => l.length - i.1) ⟨0, by omega, by simp⟩ (wk_tl (by simp)) ?_
  rintro ⟨i, hi, hp⟩
  by_cases hlt : i < l.length
  · obtain ⟨p, hx⟩ : ∃ p, l[i]? = some p := ⟨l[i], List.getElem?_eq_getElem hlt⟩
    obtain ⟨id, off, cap, cs, rfl, hcap, hc, hrow⟩ := GSl.at plen ha hlt
    obtain ⟨r1, r2⟩ := hrow i p hx
    have hc2 := fun L => lowc_of hc L
    have hid : ∀ ks top, mStd H.length ks top id = id := fun ks top => mStd_low (cells_lt hc)
    have wr := wrapS i (by omega)
    rw [penc_def] at r1
    by_cases hin : inP n n p
    · have hin' := hin
      obtain ⟨b1, b2, b3, b4⟩ := hin
      have c1 : ¬p.a < 0 := by omega
      have c2 : ¬n ≤ p.a := by omega
      have c3 : ¬p.b < 0 := by omega
      have c4 : ¬n ≤ p.b := by omega
      (repeat' (first | refine awp_seq ?_ | (refine awp_region tabOk ?_; simp [hlt, hc, hc2, r1, r2, c1, c2, c3, c4, wr]) | (refine awp_if ?_; simp [hlt, hc, hc2, r1, r2, c1, c2, c3, c4, wr]) | refine awp_block ?_ | refine And.intro ?_ ?_ | intro _ | (refine awp_skip ?_; simp [hlt, hc, hc2, r1, r2, c1, c2, c3, c4, wr]) | (refine awp_ret ?_; simp [hlt, hc, hc2, r1, r2, c1, c2, c3, c4, wr]) | (refine awp_exit ?_; simp [hlt, hc, hc2, r1, r2, c1, c2, c3, c4, wr])))
      exact ⟨i + 1, by omega, ⟨by omega, fun y hy => by
        rw [take_snoc hx] at hy
        rcases List.mem_append.1 hy with h | h
        · exact hp y h
        · simp at h; subst h; exact hin'⟩, wk_gclN (by simp [hid, wr])⟩
    · have e4 : mErr n n l = 4 := by rw [e, if_neg (fun h => hin (h p (List.mem_of_getElem? hx)))]
      rw [e4] at q
      have bad : p.a < 0 ∨ (¬p.a < 0 ∧ p.b < 0) ∨ (¬p.a < 0 ∧ ¬p.b < 0 ∧ n ≤ p.a) ∨ (¬p.a < 0 ∧ ¬p.b < 0 ∧ ¬n ≤ p.a ∧ n ≤ p.b) := by unfold inP at hin; omega
      rcases bad with h1 | ⟨h1, h2⟩ | ⟨h1, h2, h3⟩ | ⟨h1, h2, h3, h4⟩
      · (repeat' (first | refine awp_seq ?_ | (refine awp_region tabOk ?_; simp [hlt, hc, hc2, r1, r2, h1]) | (refine awp_if ?_; simp [hlt, hc, hc2, r1, r2, h1]) | refine awp_block ?_ | refine And.intro ?_ ?_ | intro _ | (refine awp_skip ?_; simp [hlt, hc, hc2, r1, r2, h1]) | (refine awp_ret ?_; simp [hlt, hc, hc2, r1, r2, h1]) | (refine awp_exit ?_; simp [hlt, hc, hc2, r1, r2, h1])))
        exact ⟨H, _, gcTo_none (fun _ => rfl), q⟩
      · (repeat' (first | refine awp_seq ?_ | (refine awp_region tabOk ?_; simp [hlt, hc, hc2, r1, r2, h1, h2]) | (refine awp_if ?_; simp [hlt, hc, hc2, r1, r2, h1, h2]) | refine awp_block ?_ | refine And.intro ?_ ?_ | intro _ | (refine awp_skip ?_; simp [hlt, hc, hc2, r1, r2, h1, h2]) | (refine awp_ret ?_; simp [hlt, hc, hc2, r1, r2, h1, h2]) | (refine awp_exit ?_; simp [hlt, hc, hc2, r1, r2, h1, h2])))
        exact ⟨H, _, gcTo_none (fun _ => rfl), q⟩
      · (repeat' (first | refine awp_seq ?_ | (refine awp_region tabOk ?_; simp [hlt, hc, hc2, r1, r2, h1, h2, h3]) | (refine awp_if ?_; simp [hlt, hc, hc2, r1, r2, h1, h2, h3]) | refine awp_block ?_ | refine And.intro ?_ ?_ | intro _ | (refine awp_skip ?_; simp [hlt, hc, hc2, r1, r2, h1, h2, h3]) | (refine awp_ret ?_; simp [hlt, hc, hc2, r1, r2, h1, h2, h3]) | (refine awp_exit ?_; simp [hlt, hc, hc2, r1, r2, h1, h2, h3])))
        exact ⟨H, _, gcTo_none (fun _ => rfl), q⟩
      · (repeat' (first | refine awp_seq ?_ | (refine awp_region tabOk ?_; simp [hlt, hc, hc2, r1, r2, h1, h2, h3, h4]) | (refine awp_if ?_; simp [hlt, hc, hc2, r1, r2, h1, h2, h3, h4]) | refine awp_block ?_ | refine And.intro ?_ ?_ | intro _ | (refine awp_skip ?_; simp [hlt, hc, hc2, r1, r2, h1, h2, h3, h4]) | (refine awp_ret ?_; simp [hlt, hc, hc2, r1, r2, h1, h2, h3, h4]) | (refine awp_exit ?_; simp [hlt, hc, hc2, r1, r2, h1, h2, h3, h4])))
        exact ⟨H, _, gcTo_none (fun _ => rfl), q⟩
  · obtain rfl : i = l.length := by omega
    rw [List.take_length] at hp
    rw [e, if_pos hp] at q
    (repeat' (first | refine awp_seq ?_ | (refine awp_region tabOk ?_; simp [hlt]) | (refine awp_if ?_; simp [hlt]) | refine awp_block ?_ | refine And.intro ?_ ?_ | intro _ | (refine awp_skip ?_; simp [hlt]) | (refine awp_ret ?_; simp [hlt]) | (refine awp_exit ?_; simp [hlt])))
    exact ⟨H, _, GcTo.refl (Nat.le_refl _), q⟩
end Go.Proofs.Ytjjhogleiolngaa
