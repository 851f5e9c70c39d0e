/- MatSays: Check. -/
import Derived.Test.YtdeockoaalpcjaaB2
import Derived.Test.YtdeockoaalpcjaaM2
namespace Go.Proofs.Ytdeockoaalpcjaa
set_option linter.unusedSimpArgs false
set_option linter.unusedVariables false
open Go.RowKit
attribute [local irreducible] AWP ACalls Wk GcTo
attribute [local simp] tab41 ti41 tab3 ti3 tab38 ti38 tab39 ti39 tab22 ti22
set_option maxHeartbeats 1000000 in
set_option maxRecDepth 100000 in
theorem matCheck {H : List Blk} {p : Mt} {Q : AV → List Blk → Prop} (q : Q (.c (.sc (.int .i64 p.err))) H) :
    ACalls Try.prog 26 [.agg p.cs] H Q := by
  refine acalls_of tabOk Try.func26 (by kernel_rfl) rfl (by kernel_rfl) ?_
  by_cases hp : p.n < 1 ∨ 6 < p.n ∨ p.me < 0 ∨ p.n ≤ p.me
  · have e : p.err = 1 := if_pos hp
    rw [e] at q
    rcases hp with h | h | h | h
    all_goals ((repeat' (first | refine awp_seq ?_ | (refine awp_region tabOk ?_; simp [h]) | (refine awp_if ?_; simp [h]) | refine awp_block ?_ | refine And.intro ?_ ?_ | intro _ | (refine awp_skip ?_; simp [h]) | (refine awp_ret ?_; simp [h]) | (refine awp_exit ?_; simp [h]))); exact ⟨H, _, gcTo_none (fun _ => rfl), q⟩)
  · have e : p.err = p.scan 6 0 := if_neg hp
    have c1 : ¬p.n < 1 := by omega
    have c2 : ¬6 < p.n := by omega
    have c3 : ¬p.me < 0 := by omega
    have c4 : ¬p.n ≤ p.me := by omega
    have hk : p.me.toNat < 6 := by omega
    have hm0 : 0 ≤ p.me := by omega
    have hm6 : p.me < 6 := by omega
    (repeat' (first | refine awp_seq ?_ | (refine awp_region tabOk ?_; simp [c1, c2, c3, c4]) | (refine awp_if ?_; simp [c1, c2, c3, c4]) | refine awp_block ?_ | refine And.intro ?_ ?_ | intro _ | (refine awp_skip ?_; simp [c1, c2, c3, c4]) | (refine awp_ret ?_; simp [c1, c2, c3, c4]) | (refine awp_exit ?_; simp [c1, c2, c3, c4])))
    refine awp_loop_at (α := {i : Nat // i ≤ 6 ∧ p.err = p.scan (6 - i) i}) (fun i => [(1, .c (.sc (.ptr H.length 0))), (28, .c (.agg (Mt.rs p.a))), (29, .c (.sc (.int .i64 i.1)))]) (fun _ => H ++ [.own p.cs]) (fun i => 6 - i.1) ⟨0, by omega, e⟩ (wk_tl (by simp)) ?_
    rintro ⟨i, hi, he⟩
    by_cases hlt : i < 6
    · have hi6 : (i : Int) < 6 := by omega
      have wr := wrapS i (by omega)
      rw [p.scan_step hlt] at he
      have rw1 := Mt.rs_row p.a hlt
      have ov := fun g : Nat → Int => splice_all (xs := Mt.vs g) (ys := [.int .i64 0, .int .i64 0, .int .i64 0, .int .i64 0, .int .i64 0, .int .i64 0]) rfl
      have c5 : i * 6 ≤ 30 := by omega
      (repeat' (first | refine awp_seq ?_ | (refine awp_region tabOk ?_; simp [hlt, hi6, rw1, ov, c5]) | (refine awp_if ?_; simp [hlt, hi6, rw1, ov, c5]) | refine awp_block ?_ | refine And.intro ?_ ?_ | intro _ | (refine awp_skip ?_; simp [hlt, hi6, rw1, ov, c5]) | (refine awp_ret ?_; simp [hlt, hi6, rw1, ov, c5]) | (refine awp_exit ?_; simp [hlt, hi6, rw1, ov, c5])))
      refine awp_loop_at (α := {j : Nat // j ≤ 6 ∧ p.row i 6 0 = p.row i (6 - j) j}) (fun j => [(1, .c (.sc (.ptr H.length 0))), (28, .c (.agg (Mt.rs p.a))), (29, .c (.sc (.int .i64 i))), (3, .c (.sc (.int .i64 i))), (33, .c (.agg (Mt.vs (p.a i)))), (34, .c (.sc (.int .i64 j.1)))]) (fun _ => H ++ [.own p.cs, .own (Mt.vs (p.a i))]) (fun j => 6 - j.1) ⟨0, by omega, rfl⟩ (wk_tl (by simp)) ?_
      rintro ⟨j, hj, hr⟩
      by_cases hjl : j < 6
      · have hj6 : (j : Int) < 6 := by omega
        have wj := wrapS j (by omega)
        have a1 := p.at_a hlt hjl
        have a2 := p.at_a hk hjl
        rw [p.row_step hjl] at hr
        have a3 := Mt.vs_at (p.a i) hjl
        (repeat' (first | refine awp_seq ?_ | (refine awp_region tabOk ?_; simp [hlt, hi6, hjl, hj6, a1, a2, a3, hm0, hm6, wj]) | (refine awp_if ?_; simp [hlt, hi6, hjl, hj6, a1, a2, a3, hm0, hm6, wj]) | refine awp_block ?_ | refine And.intro ?_ ?_ | intro _ | (refine awp_skip ?_; simp [hlt, hi6, hjl, hj6, a1, a2, a3, hm0, hm6, wj]) | (refine awp_ret ?_; simp [hlt, hi6, hjl, hj6, a1, a2, a3, hm0, hm6, wj]) | (refine awp_exit ?_; simp [hlt, hi6, hjl, hj6, a1, a2, a3, hm0, hm6, wj])))
        · rename_i h
          have eb : p.bad i j = 1 := if_pos h
          have e1 : p.err = 1 := by rw [he, hr, eb]; rfl
          exact ⟨H, _, gcTo_none (fun _ => rfl), e1 ▸ q⟩
        · assumption
        · assumption
        · assumption
        · rename_i h; by_cases h0 : 0 < p.a i j
          · exact .inr (h h0)
          · exact .inl (by omega)
        · rename_i b1 b2 h
          have eb : p.bad i j = 4 := by
            unfold Mt.bad; rw [if_neg (by omega), if_pos]
            rcases h with ⟨h, h'⟩ | h
            · refine .inl ⟨?_, by omega⟩; split <;> omega
            · exact .inr h
          have e1 : p.err = 4 := by rw [he, hr, eb]; rfl
          exact ⟨H, _, gcTo_none (fun _ => rfl), e1 ▸ q⟩
        · rename_i b1 b2 h1 h2
          have eb : p.bad i j = 0 := by
            unfold Mt.bad; rw [if_neg (by omega), if_neg]
            rintro (⟨h3, h4⟩ | h3)
            · have := h1 (by omega); split at h3 <;> omega
            · omega
          rw [if_pos eb] at hr
          exact ⟨j + 1, by omega, ⟨by omega, hr⟩, wk_tl (by simp)⟩
      · obtain rfl : j = 6 := by omega
        have hr0 : p.row i 6 0 = 0 := hr
        rw [if_pos hr0] at he
        (repeat' (first | refine awp_seq ?_ | (refine awp_region tabOk ?_; simp [wr]) | (refine awp_if ?_; simp [wr]) | refine awp_block ?_ | refine And.intro ?_ ?_ | intro _ | (refine awp_skip ?_; simp [wr]) | (refine awp_ret ?_; simp [wr]) | (refine awp_exit ?_; simp [wr])))
        exact ⟨i + 1, by omega, ⟨by omega, he⟩, wk_gcl [0] (gcOk_of (by decide) (by simp)) (by simp)⟩
    · obtain rfl : i = 6 := by omega
      (repeat' (first | refine awp_seq ?_ | (refine awp_region tabOk ?_; simp) | (refine awp_if ?_; simp) | refine awp_block ?_ | refine And.intro ?_ ?_ | intro _ | (refine awp_skip ?_; simp) | (refine awp_ret ?_; simp) | (refine awp_exit ?_; simp)))
      refine ⟨H, _, gcTo_none (fun _ => rfl), ?_⟩
      rw [he] at q; exact q
end Go.Proofs.Ytdeockoaalpcjaa
