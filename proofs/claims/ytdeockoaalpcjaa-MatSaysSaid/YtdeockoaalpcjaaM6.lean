/- MatSays: mat.Firm, partref.Meet, partref.FirmRow. -/
import Derived.Test.YtdeockoaalpcjaaM5
namespace Go.Proofs.Ytdeockoaalpcjaa
set_option linter.unusedSimpArgs false
set_option linter.unusedVariables false
open Go.RowKit
attribute [local irreducible] AWP ACalls Wk GcTo
attribute [local simp] tab41 ti41 tab3 ti3 tab38 ti38 tab39 ti39 tab22 ti22
set_option maxRecDepth 100000 in
theorem matFirm {H : List Blk} {p : Mt} {Q : AV → List Blk → Prop} (q : Q (.tup [.agg p.firmV, .sc (.int .i64 p.err)]) H) :
    ACalls Try.prog 25 [.agg p.cs] H Q := by
  refine acalls_of tabOk Try.func25 (by kernel_rfl) rfl (by kernel_rfl) ?_
  (repeat' (first | refine awp_seq ?_ | (refine awp_region tabOk ?_; simp [Mt.zero_cs]) | (refine awp_if ?_; simp [Mt.zero_cs]) | refine awp_block ?_ | refine And.intro ?_ ?_ | intro _ | (refine awp_skip ?_; simp [Mt.zero_cs]) | (refine awp_ret ?_; simp [Mt.zero_cs]) | (refine awp_exit ?_; simp [Mt.zero_cs])))
  refine matCheck ?_
  by_cases he : p.err = 0
  · have e1 : p.firmV = Mt.vs p.firm := if_neg (by simp [he])
    rw [e1, he] at q
    obtain ⟨g1, g2, g3, g4⟩ := Mt.err_me he
    have hk : p.me.toNat < 6 := by omega
    have hm6 : p.me < 6 := by omega
    have r1 := p.cs_row hk
    have c1 : 2 + p.me.toNat * 6 + 6 ≤ 38 := by omega
    have ov := fun g : Nat → Int => splice_all (xs := Mt.vs g) (ys := [.int .i64 0, .int .i64 0, .int .i64 0, .int .i64 0, .int .i64 0, .int .i64 0]) rfl
    obtain ⟨n, hn⟩ : ∃ n : Nat, p.n = n := ⟨p.n.toNat, by omega⟩
    have hf : p.firm = fun j => p.least (p.a p.me.toNat j) j n := by unfold Mt.firm; rw [hn]; rfl
    rw [hf] at q
    ((try simp [he, hm6, g3, r1, c1, ov, hn]); (repeat' (first | refine awp_seq ?_ | (refine awp_region tabOk ?_; simp [he, hm6, g3, r1, c1, ov, hn]) | (refine awp_if ?_; simp [he, hm6, g3, r1, c1, ov, hn]) | refine awp_block ?_ | refine And.intro ?_ ?_ | intro _ | (refine awp_skip ?_; simp [he, hm6, g3, r1, c1, ov, hn]) | (refine awp_ret ?_; simp [he, hm6, g3, r1, c1, ov, hn]) | (refine awp_exit ?_; simp [he, hm6, g3, r1, c1, ov, hn]))))
    refine awp_loop_at (α := {i : Nat // i ≤ n}) (fun i => [(1, .c (.sc (.ptr H.length 0))), (2, .c (.sc (.ptr (H.length + 1) 0))), (5, .c (.sc (.ptr (H.length + 2) 0))), (19, .c (.sc (.int .i64 n))), (20, .c (.sc (.int .i64 i.1)))]) (fun i => H ++ [.own p.cs, .own [.int .i64 0, .int .i64 0, .int .i64 0, .int .i64 0, .int .i64 0, .int .i64 0], .own (Mt.vs fun j => p.least (p.a p.me.toNat j) j i.1)]) (fun i => n - i.1) ⟨0, by omega⟩ (wk_tl (by simp)) ?_
    rintro ⟨i, hi⟩
    by_cases hlt : i < n
    · have hi6 : i < n := by omega
      have hi7 : (i : Int) < 6 := by omega
      have wr := wrapS i (by omega)
      have r2 := p.cs_row (i := i) (by omega)
      have c2 : 2 + i * 6 + 6 ≤ 38 := by omega
      (repeat' (first | refine awp_seq ?_ | (refine awp_region tabOk ?_; simp [hi6]) | (refine awp_if ?_; simp [hi6]) | refine awp_block ?_ | refine And.intro ?_ ?_ | intro _ | (refine awp_skip ?_; simp [hi6]) | (refine awp_ret ?_; simp [hi6]) | (refine awp_exit ?_; simp [hi6])))
      refine awp_draw tabOk mixed [] (by kernel_rfl) ?_
      simp [hi6, hi7, r2, c2]
      refine ⟨_, [], vectMin ⟨rfl, by simp⟩, ?_⟩
      simp [hi6, hi7, r2, c2]
      (repeat' (first | refine awp_seq ?_ | (refine awp_region tabOk ?_; simp [wr]) | (refine awp_if ?_; simp [wr]) | refine awp_block ?_ | refine And.intro ?_ ?_ | intro _ | (refine awp_skip ?_; simp [wr]) | (refine awp_ret ?_; simp [wr]) | (refine awp_exit ?_; simp [wr])))
      exact ⟨i + 1, by omega, by omega, wk_tl (by simp [Mt.least])⟩
    · obtain rfl : i = n := by omega
      (repeat' (first | refine awp_seq ?_ | (refine awp_region tabOk ?_; simp [ov]) | (refine awp_if ?_; simp [ov]) | refine awp_block ?_ | refine And.intro ?_ ?_ | intro _ | (refine awp_skip ?_; simp [ov]) | (refine awp_ret ?_; simp [ov]) | (refine awp_exit ?_; simp [ov])))
      exact ⟨H, _, gcTo_none (fun _ => rfl), q⟩
  · have e1 : p.firmV = Mt.vs fun _ => 0 := if_pos he
    rw [e1] at q
    ((try simp [he, Mt.zero_cs]); (repeat' (first | refine awp_seq ?_ | (refine awp_region tabOk ?_; simp [he, Mt.zero_cs]) | (refine awp_if ?_; simp [he, Mt.zero_cs]) | refine awp_block ?_ | refine And.intro ?_ ?_ | intro _ | (refine awp_skip ?_; simp [he, Mt.zero_cs]) | (refine awp_ret ?_; simp [he, Mt.zero_cs]) | (refine awp_exit ?_; simp [he, Mt.zero_cs]))))
    exact ⟨H, _, gcTo_none (fun _ => rfl), q⟩
set_option maxRecDepth 100000 in
theorem refFirm {H : List Blk} {p : Mt} {Q : AV → List Blk → Prop} (he : p.err = 0) (q : Q (.c (.agg (Mt.vs p.firm))) H) :
    ACalls Try.prog 27 [.agg p.cs] H Q := by
  refine acalls_of tabOk Try.func27 (by kernel_rfl) rfl (by kernel_rfl) ?_
  obtain ⟨g1, g2, g3, g4⟩ := Mt.err_me he
  have ov := fun g : Nat → Int => splice_all (xs := Mt.vs g) (ys := [.int .i64 0, .int .i64 0, .int .i64 0, .int .i64 0, .int .i64 0, .int .i64 0]) rfl
  obtain ⟨n, hn⟩ : ∃ n : Nat, p.n = n := ⟨p.n.toNat, by omega⟩
  have hf : p.firm = fun j => p.least (p.a p.me.toNat j) j n := by unfold Mt.firm; rw [hn]; rfl
  rw [hf] at q
  (repeat' (first | refine awp_seq ?_ | (refine awp_region tabOk ?_; simp) | (refine awp_if ?_; simp) | refine awp_block ?_ | refine And.intro ?_ ?_ | intro _ | (refine awp_skip ?_; simp) | (refine awp_ret ?_; simp) | (refine awp_exit ?_; simp)))
  refine awp_loop_at (α := {i : Nat // i ≤ 6}) (fun i => [(1, .c (.sc (.ptr H.length 0))), (2, .c (.sc (.ptr (H.length + 1) 0))), (3, .c (.sc (.ptr (H.length + 2) 0))), (7, .c (.sc (.int .i64 i.1)))]) (fun i => H ++ [.own p.cs, .own [.int .i64 0, .int .i64 0, .int .i64 0, .int .i64 0, .int .i64 0, .int .i64 0], .own (Mt.vs (Mt.upto (fun j => p.least (p.a p.me.toNat j) j n) i.1))]) (fun i => 6 - i.1) ⟨0, by omega⟩ (wk_tl (by simp [Mt.upto_0])) ?_
  rintro ⟨j, hj⟩
  by_cases hlt : j < 6
  · have hi6 : (j : Int) < 6 := by omega
    have wr := wrapS j (by omega)
    have a0 := p.at_a (i := 0) (by omega) hlt
    simp at a0
    (repeat' (first | refine awp_seq ?_ | (refine awp_region tabOk ?_; simp [hi6, hlt, a0, hn]) | (refine awp_if ?_; simp [hi6, hlt, a0, hn]) | refine awp_block ?_ | refine And.intro ?_ ?_ | intro _ | (refine awp_skip ?_; simp [hi6, hlt, a0, hn]) | (refine awp_ret ?_; simp [hi6, hlt, a0, hn]) | (refine awp_exit ?_; simp [hi6, hlt, a0, hn])))
    refine awp_loop_at (α := {i : Nat // i ≤ n}) (fun i => [(1, .c (.sc (.ptr H.length 0))), (2, .c (.sc (.ptr (H.length + 1) 0))), (3, .c (.sc (.ptr (H.length + 2) 0))), (4, .c (.sc (.int .i64 j))), (5, .c (.sc (.int .i64 (p.least (p.a 0 j) j i.1)))), (7, .c (.sc (.int .i64 j))), (16, .c (.sc (.int .i64 n))), (17, .c (.sc (.int .i64 i.1)))]) (fun _ => H ++ [.own p.cs, .own [.int .i64 0, .int .i64 0, .int .i64 0, .int .i64 0, .int .i64 0, .int .i64 0], .own (Mt.vs (Mt.upto (fun j => p.least (p.a p.me.toNat j) j n) j))]) (fun i => n - i.1) ⟨0, by omega⟩ (wk_tl (by simp [Mt.least])) ?_
    rintro ⟨i, hi⟩
    by_cases hil : i < n
    · have hi8 : i < n := by omega
      have hi7 : (i : Int) < 6 := by omega
      have wr2 := wrapS i (by omega)
      have a1 := p.at_a (i := i) (by omega) hlt
      (repeat' (first | refine awp_seq ?_ | (refine awp_region tabOk ?_; simp [hi8, hi7, hlt, hi6, a1, wr2]) | (refine awp_if ?_; simp [hi8, hi7, hlt, hi6, a1, wr2]) | refine awp_block ?_ | refine And.intro ?_ ?_ | intro _ | (refine awp_skip ?_; simp [hi8, hi7, hlt, hi6, a1, wr2]) | (refine awp_ret ?_; simp [hi8, hi7, hlt, hi6, a1, wr2]) | (refine awp_exit ?_; simp [hi8, hi7, hlt, hi6, a1, wr2])))
      exact ⟨i + 1, by omega, by omega, wk_tl (by simp [Mt.least, mn])⟩
    · obtain rfl : i = n := by omega
      have st := Mt.upto_set (fun j => p.least (p.a p.me.toNat j) j i) hlt
      have ef : p.least (p.a 0 j) j i = p.least (p.a p.me.toNat j) j i := Mt.least_any p j i 0 p.me.toNat (by omega) (by omega)
      have c1 : j + 1 ≤ 6 := by omega
      (repeat' (first | refine awp_seq ?_ | (refine awp_region tabOk ?_; simp [hi6, hlt, ef, st, wr, c1]) | (refine awp_if ?_; simp [hi6, hlt, ef, st, wr, c1]) | refine awp_block ?_ | refine And.intro ?_ ?_ | intro _ | (refine awp_skip ?_; simp [hi6, hlt, ef, st, wr, c1]) | (refine awp_ret ?_; simp [hi6, hlt, ef, st, wr, c1]) | (refine awp_exit ?_; simp [hi6, hlt, ef, st, wr, c1])))
      exact ⟨j + 1, by omega, by omega, wk_tl (by simp)⟩
  · obtain rfl : j = 6 := by omega
    rw [← Mt.upto_6] at q
    (repeat' (first | refine awp_seq ?_ | (refine awp_region tabOk ?_; simp [ov]) | (refine awp_if ?_; simp [ov]) | refine awp_block ?_ | refine And.intro ?_ ?_ | intro _ | (refine awp_skip ?_; simp [ov]) | (refine awp_ret ?_; simp [ov]) | (refine awp_exit ?_; simp [ov])))
    exact ⟨H, _, gcTo_none (fun _ => rfl), q⟩
set_option maxRecDepth 100000 in
theorem refMeet {H : List Blk} {p o : Mt} {Q : AV → List Blk → Prop} (he : p.err = 0) (ho : o.err = 0) (q : Q (.c (.agg (p.meet o).cs)) H) :
    ACalls Try.prog 28 [.agg p.cs, .agg o.cs] H Q := by
  refine acalls_of tabOk Try.func28 (by kernel_rfl) rfl (by kernel_rfl) ?_
  obtain ⟨g1, g2, g3, g4⟩ := Mt.err_me he
  obtain ⟨g5, g6, g7, g8⟩ := Mt.err_me ho
  have hk : p.me.toNat < 6 := by omega
  have hk2 : o.me.toNat < 6 := by omega
  have hm6 : p.me < 6 := by omega
  have hm7 : o.me < 6 := by omega
  (repeat' (first | refine awp_seq ?_ | (refine awp_region tabOk ?_; simp [Mt.zero_cs]) | (refine awp_if ?_; simp [Mt.zero_cs]) | refine awp_block ?_ | refine And.intro ?_ ?_ | intro _ | (refine awp_skip ?_; simp [Mt.zero_cs]) | (refine awp_ret ?_; simp [Mt.zero_cs]) | (refine awp_exit ?_; simp [Mt.zero_cs])))
  refine awp_loop_at (α := {i : Nat // i ≤ 6}) (fun i => [(2, .c (.sc (.ptr H.length 0))), (3, .c (.sc (.ptr (H.length + 1) 0))), (4, .c (.sc (.ptr (H.length + 2) 0))), (8, .c (.sc (.int .i64 i.1)))]) (fun i => H ++ [.own (p.m1 o i.1 0).cs, .own o.cs, .own Mt.zero.cs]) (fun i => 6 - i.1) ⟨0, by omega⟩ (wk_tl (by simp [Mt.m1_0])) ?_
  rintro ⟨i, hi⟩
  by_cases hlt : i < 6
  · have hi6 : (i : Int) < 6 := by omega
    have wr := wrapS i (by omega)
    (repeat' (first | refine awp_seq ?_ | (refine awp_region tabOk ?_; simp [hi6, hlt]) | (refine awp_if ?_; simp [hi6, hlt]) | refine awp_block ?_ | refine And.intro ?_ ?_ | intro _ | (refine awp_skip ?_; simp [hi6, hlt]) | (refine awp_ret ?_; simp [hi6, hlt]) | (refine awp_exit ?_; simp [hi6, hlt])))
    refine awp_loop_at (α := {j : Nat // j ≤ 6}) (fun j => [(2, .c (.sc (.ptr H.length 0))), (3, .c (.sc (.ptr (H.length + 1) 0))), (4, .c (.sc (.ptr (H.length + 2) 0))), (5, .c (.sc (.int .i64 i))), (8, .c (.sc (.int .i64 i))), (11, .c (.sc (.int .i64 j.1)))]) (fun j => H ++ [.own (p.m1 o i j.1).cs, .own o.cs, .own Mt.zero.cs]) (fun j => 6 - j.1) ⟨0, by omega⟩ (wk_tl (by simp)) ?_
    rintro ⟨j, hj⟩
    by_cases hjl : j < 6
    · have hj6 : (j : Int) < 6 := by omega
      have wr2 := wrapS j (by omega)
      have a1 := (p.m1 o i j).at_a hlt hjl
      rw [Mt.m1_at] at a1
      have a2 := o.at_a hlt hjl
      have st : (p.m1 o i j).cs.set (2 + i * 6 + j) (.int .i64 (if p.a i j < o.a i j then o.a i j else p.a i j)) = _ := p.m1_step o hlt hjl
      have c1 : 2 + i * 6 + j + 1 ≤ 38 := by omega
      (repeat' (first | refine awp_seq ?_ | (refine awp_region tabOk ?_; simp [hi6, hj6]) | (refine awp_if ?_; simp [hi6, hj6]) | refine awp_block ?_ | refine And.intro ?_ ?_ | intro _ | (refine awp_skip ?_; simp [hi6, hj6]) | (refine awp_ret ?_; simp [hi6, hj6]) | (refine awp_exit ?_; simp [hi6, hj6])))
      refine awp_draw tabOk mixed [] (by kernel_rfl) ?_
      simp [hi6, hj6, a1, a2, st, c1]
      (repeat' (first | refine awp_seq ?_ | (refine awp_region tabOk ?_; simp [wr2, c1]) | (refine awp_if ?_; simp [wr2, c1]) | refine awp_block ?_ | refine And.intro ?_ ?_ | intro _ | (refine awp_skip ?_; simp [wr2, c1]) | (refine awp_ret ?_; simp [wr2, c1]) | (refine awp_exit ?_; simp [wr2, c1])))
      exact ⟨j + 1, by omega, by omega, wk_tl (by simp)⟩
    · obtain rfl : j = 6 := by omega
      (repeat' (first | refine awp_seq ?_ | (refine awp_region tabOk ?_; simp [wr]) | (refine awp_if ?_; simp [wr]) | refine awp_block ?_ | refine And.intro ?_ ?_ | intro _ | (refine awp_skip ?_; simp [wr]) | (refine awp_ret ?_; simp [wr]) | (refine awp_exit ?_; simp [wr])))
      rw [p.m1_next o i]
      exact ⟨i + 1, by omega, by omega, wk_tl (by simp)⟩
  · obtain rfl : i = 6 := by omega
    rw [Mt.m1_all]
    (repeat' (first | refine awp_seq ?_ | (refine awp_region tabOk ?_; simp) | (refine awp_if ?_; simp) | refine awp_block ?_ | refine And.intro ?_ ?_ | intro _ | (refine awp_skip ?_; simp) | (refine awp_ret ?_; simp) | (refine awp_exit ?_; simp)))
    refine awp_loop_at (α := {j : Nat // j ≤ 6}) (fun j => [(2, .c (.sc (.ptr H.length 0))), (3, .c (.sc (.ptr (H.length + 1) 0))), (4, .c (.sc (.ptr (H.length + 2) 0))), (34, .c (.sc (.int .i64 j.1)))]) (fun j => H ++ [.own (p.m2 o j.1).cs, .own o.cs, .own Mt.zero.cs]) (fun j => 6 - j.1) ⟨0, by omega⟩ (wk_tl (by simp)) ?_
    rintro ⟨j, hj⟩
    by_cases hjl : j < 6
    · have hj6 : (j : Int) < 6 := by omega
      have wr2 := wrapS j (by omega)
      have a1 := (p.m2 o j).at_a hk hjl
      rw [Mt.m2_at] at a1
      have a2 := o.at_a hk2 hjl
      have st : (p.m2 o j).cs.set (2 + p.me.toNat * 6 + j) (.int .i64 (if mx (p.a p.me.toNat j) (o.a p.me.toNat j) < o.a o.me.toNat j then o.a o.me.toNat j else mx (p.a p.me.toNat j) (o.a p.me.toNat j))) = _ := p.m2_step o hk hjl
      have c1 : 2 + p.me.toNat * 6 + j + 1 ≤ 38 := by omega
      (repeat' (first | refine awp_seq ?_ | (refine awp_region tabOk ?_; simp [hj6]) | (refine awp_if ?_; simp [hj6]) | refine awp_block ?_ | refine And.intro ?_ ?_ | intro _ | (refine awp_skip ?_; simp [hj6]) | (refine awp_ret ?_; simp [hj6]) | (refine awp_exit ?_; simp [hj6])))
      refine awp_draw tabOk mixed [] (by kernel_rfl) ?_
      simp [hj6, hm6, hm7, g3, g7, a1, a2, st, c1]
      (repeat' (first | refine awp_seq ?_ | (refine awp_region tabOk ?_; simp [wr2, c1]) | (refine awp_if ?_; simp [wr2, c1]) | refine awp_block ?_ | refine And.intro ?_ ?_ | intro _ | (refine awp_skip ?_; simp [wr2, c1]) | (refine awp_ret ?_; simp [wr2, c1]) | (refine awp_exit ?_; simp [wr2, c1])))
      exact ⟨j + 1, by omega, by omega, wk_tl (by simp)⟩
    · obtain rfl : j = 6 := by omega
      (repeat' (first | refine awp_seq ?_ | (refine awp_region tabOk ?_; simp [Mt.zero_cs]) | (refine awp_if ?_; simp [Mt.zero_cs]) | refine awp_block ?_ | refine And.intro ?_ ?_ | intro _ | (refine awp_skip ?_; simp [Mt.zero_cs]) | (refine awp_ret ?_; simp [Mt.zero_cs]) | (refine awp_exit ?_; simp [Mt.zero_cs])))
      exact ⟨H, _, gcTo_none (fun _ => rfl), q⟩
end Go.Proofs.Ytdeockoaalpcjaa
