/- Cuts: partref.Grow, Shrink. -/
import Derived.Test.YtjjhogleiolngaaKe
namespace Go.Proofs.Ytjjhogleiolngaa
set_option linter.unusedSimpArgs false
set_option linter.unusedVariables false
open Go.RowKit
attribute [local irreducible] AWP ACalls Wk GcTo
attribute [local simp] tab3 ti3 tab4 ti4 tab23 ti23 tab24 ti24 tab135 ti135 tab80 ti80 tab82 ti82
open Hi Ct
set_option maxRecDepth 100000 in
set_option maxHeartbeats 2000000 in
theorem refGrow {H : List Blk} {a : Sc} {h : List Ev} {c : Nat → Int} {Q : AV → List Blk → Prop} (ha : ESl H a h) (hC : CutR h c) (q : Q (.c (.agg (Mt.vs (grV h c 6)))) H) :
    ACalls Try.prog 47 [.sc a, .agg (Mt.vs c)] H Q := by
  refine acalls_of tabOk Try.func47 (by kernel_rfl) rfl (by kernel_rfl) ?_
  have la := ha.len (i := ti24) (e := 135) rfl
  have hR := hC.right
  have hl := hR.len
  have vs_ov := fun g : Nat → Int => splice_all (xs := Mt.vs g) (ys := [.int .i64 0, .int .i64 0, .int .i64 0, .int .i64 0, .int .i64 0, .int .i64 0]) rfl
  simp only [ti24] at la
  obtain ⟨n, hn⟩ : ∃ n, h.length = n := ⟨_, rfl⟩
  rw [hn] at la hl
  (repeat' (first | refine awp_seq ?_ | (refine awp_region tabOk ?_; simp) | (refine awp_if ?_; simp) | refine awp_block ?_ | refine And.intro ?_ ?_ | intro _ | (refine awp_skip ?_; simp) | (refine awp_ret ?_; simp) | (refine awp_exit ?_; simp)))
  refine inCut (c := c) (ha.app _) hR ?_
  ((try simp); (repeat' (first | refine awp_seq ?_ | (refine awp_region tabOk ?_; simp) | (refine awp_if ?_; simp) | refine awp_block ?_ | refine And.intro ?_ ?_ | intro _ | (refine awp_skip ?_; simp) | (refine awp_ret ?_; simp) | (refine awp_exit ?_; simp))))
  refine causes (ha.app _) hR (fun b L hb => ?_)
  rw [hn] at hb
  obtain ⟨K, hK, k1, k2, hKl⟩ : ∃ K : List Blk, K = H ++ [.own (Mt.vs c), .own [.int .i64 0, .int .i64 0, .int .i64 0, .int .i64 0, .int .i64 0, .int .i64 0], .own (fnB n (inc h c))] ++ L ∧ (∀ M : List Blk, (K ++ M)[H.length + 1]? = some (.own [.int .i64 0, .int .i64 0, .int .i64 0, .int .i64 0, .int .i64 0, .int .i64 0])) ∧ (∀ M : List Blk, (K ++ M)[H.length + 2]? = some (.own (fnB n (inc h c)))) ∧ H.length + 1 < K.length :=
    ⟨_, rfl, by simp, by simp, by simp <;> omega⟩
  have haK : ESl K a h := by rw [hK]; exact (ha.app _).app L
  have hsK : ∀ b : Blk, ∃ M, K.set (H.length + 1) b = H ++ M := fun b => ⟨_, by rw [hK, List.append_assoc]; exact sap 1 _⟩
  have g1 : ∀ (M : List Blk) (b : Blk), (K.set (H.length + 1) b ++ M)[H.length + 1]? = some b := fun M b => by rw [List.getElem?_append_left (by simp; exact hKl), List.getElem?_set_self hKl]
  have g0 : ∀ (b : Blk), (K.set (H.length + 1) b)[H.length + 1]? = some b := fun b => List.getElem?_set_self hKl
  have e0 : H ++ [Blk.own (Mt.vs c), .own [.int .i64 0, .int .i64 0, .int .i64 0, .int .i64 0, .int .i64 0, .int .i64 0], .own (fnB h.length (inc h c))] ++ L = K := by rw [hK, hn]
  rw [hn] at e0 ⊢
  have hbK := hb
  rw [e0] at hbK
  obtain ⟨bid, bcs, rfl, hb1, hb2, hb3⟩ := hbK
  have hbL := fun M => lowc_of hb1 M
  have hk2c : Blk.cells? K[H.length + 2]? = some (fnB n (inc h c)) := by have := k2 []; rw [List.append_nil] at this; rw [this]; rfl
  have s1 : ∀ (M : List Blk) (b : Blk), (K ++ M).set (H.length + 1) b = K.set (H.length + 1) b ++ M := fun M b => setlow' hKl
  simp only [List.append_assoc, List.cons_append, List.nil_append] at e0
  ((try simp [e0]); (repeat' (first | refine awp_seq ?_ | (refine awp_region tabOk ?_; simp [e0]) | (refine awp_if ?_; simp [e0]) | refine awp_block ?_ | refine And.intro ?_ ?_ | intro _ | (refine awp_skip ?_; simp [e0]) | (refine awp_ret ?_; simp [e0]) | (refine awp_exit ?_; simp [e0]))))
  refine cloneBools hk2c (by omega) (fun h0 => ?_) (fun h0 => ?_)
  · subst h0
    have hres : cb h (fun j => gwU h c j h.length) h.length = fun _ => 0 := by rw [hn]; rfl
    rw [← gw_gr hC, hres] at q
    ((try simp [-lenC, la]); (repeat' (first | refine awp_seq ?_ | (refine awp_region tabOk ?_; simp [-lenC, la]) | (refine awp_if ?_; simp [-lenC, la]) | refine awp_block ?_ | refine And.intro ?_ ?_ | intro _ | (refine awp_skip ?_; simp [-lenC, la]) | (refine awp_ret ?_; simp [-lenC, la]) | (refine awp_exit ?_; simp [-lenC, la]))))
    refine awp_loop_at (α := Unit) (fun _ => [(0, .c (.sc a)), (4, .c (.sc (.ptr (H.length + 1) 0))), (7, .c (.sc .sle)), (18, .c (.sc (.int .i64 0))), (19, .c (.sc (.int .i64 0)))]) (fun _ => K) (fun _ => 0) () (wk_tl (by simp)) ?_
    intro _
    (repeat' (first | refine awp_seq ?_ | (refine awp_region tabOk ?_; simp) | (refine awp_if ?_; simp) | refine awp_block ?_ | refine And.intro ?_ ?_ | intro _ | (refine awp_skip ?_; simp) | (refine awp_ret ?_; simp) | (refine awp_exit ?_; simp)))
    refine cutOf (f := fun _ => false) haK hR (.inl hn) ?_
    have k1' := k1 []
    rw [List.append_nil] at k1'
    rw [hn, cb_0]
    ((try simp [vs_ov, k1', g0]); (repeat' (first | refine awp_seq ?_ | (refine awp_region tabOk ?_; simp [vs_ov, k1', g0]) | (refine awp_if ?_; simp [vs_ov, k1', g0]) | refine awp_block ?_ | refine And.intro ?_ ?_ | intro _ | (refine awp_skip ?_; simp [vs_ov, k1', g0]) | (refine awp_ret ?_; simp [vs_ov, k1', g0]) | (refine awp_exit ?_; simp [vs_ov, k1', g0]))))
    have := gcTo_Kn (H := H) (L := []) (v := .c (.agg (Mt.vs fun _ => 0))) (hsK (.own (Mt.vs fun _ => 0))) (fun _ => rfl)
    rw [List.append_nil] at this
    exact ⟨H, _, this, q⟩
  · ((try simp [-lenC, la]); (repeat' (first | refine awp_seq ?_ | (refine awp_region tabOk ?_; simp [-lenC, la]) | (refine awp_if ?_; simp [-lenC, la]) | refine awp_block ?_ | refine And.intro ?_ ?_ | intro _ | (refine awp_skip ?_; simp [-lenC, la]) | (refine awp_ret ?_; simp [-lenC, la]) | (refine awp_exit ?_; simp [-lenC, la]))))
    refine awp_loop_at (α := {i : Nat // i ≤ n}) (fun i => [(0, .c (.sc a)), (4, .c (.sc (.ptr (H.length + 1) 0))), (5, .c (.sc (.sl (H.length + 2) 0 1 n n))), (6, .c (.sc (.sl bid 0 1 n n))), (7, .c (.sc (.sl K.length 0 1 n n))), (18, .c (.sc (.int .i64 n))), (19, .c (.sc (.int .i64 i.1)))])
      (fun i => K ++ [.own (fnB n (tri n (gwU h c) i.1 0))]) (fun i => n - i.1) ⟨0, by omega⟩ (wk_tlE (by rw [tri_zero]; rfl) (by simp)) ?_
    rintro ⟨i, hi⟩
    by_cases hin : i < n
    · have wi := wrapS i (by omega)
      (repeat' (first | refine awp_seq ?_ | (refine awp_region tabOk ?_; simp [-lenC, la, hin]) | (refine awp_if ?_; simp [-lenC, la, hin]) | refine awp_block ?_ | refine And.intro ?_ ?_ | intro _ | (refine awp_skip ?_; simp [-lenC, la, hin]) | (refine awp_ret ?_; simp [-lenC, la, hin]) | (refine awp_exit ?_; simp [-lenC, la, hin])))
      refine awp_loop_at (α := {k : Nat // k ≤ n}) (fun k => [(0, .c (.sc a)), (4, .c (.sc (.ptr (H.length + 1) 0))), (5, .c (.sc (.sl (H.length + 2) 0 1 n n))), (6, .c (.sc (.sl bid 0 1 n n))), (7, .c (.sc (.sl K.length 0 1 n n))), (18, .c (.sc (.int .i64 n))), (19, .c (.sc (.int .i64 i))), (8, .c (.sc (.int .i64 i))), (23, .c (.sc (.int .i64 n))), (24, .c (.sc (.int .i64 k.1)))])
        (fun k => K ++ [.own (fnB n (tri n (gwU h c) i k.1))]) (fun k => n - k.1) ⟨0, by omega⟩ (wk_tl (by simp)) ?_
      rintro ⟨k, hk⟩
      by_cases hkn : k < n
      · have wk := wrapS k (by omega)
        obtain ⟨rid, c1, c2⟩ := hb3 i hin
        obtain ⟨_, c1'⟩ := List.getElem?_eq_some_iff.1 c1
        have c2K := fun M => lowc_of c2 M
        have hib : i < bcs.length := by omega
        have f1 := fnB_at (tri n (gwU h c) i k) hin
        rw [tri_at] at f1
        have f2 := fnB_at (inc h c) hkn
        have f3 := fnB_at (cau h i) hkn
        have st := fnB_set (n := n) (tri n (gwU h c) i k) hin (gwU h c i (k + 1))
        rw [tri_step] at st
        have ht := tri_at n (gwU h c) i k
        have hst : gwU h c i (k + 1) = (gwU h c i k || (inc h c k && cau h i k)) := rfl
        have hi1 : i + 1 ≤ n := hin
        rw [hst] at st
        generalize gwU h c i k = x at *
        generalize hy : inc h c k = y at *
        generalize hz : cau h i k = z at *
        cases x <;> cases y <;> cases z
        all_goals
          simp only [Bool.or_true, Bool.true_or, Bool.or_false, Bool.false_or, Bool.and_true, Bool.and_false, Bool.true_and, Bool.false_and, Bool.not_true, Bool.not_false] at st
          (repeat' (first | refine awp_seq ?_ | (refine awp_region tabOk ?_; simp [hkn, hin, hi1, k2, hbL, c1, c1', c2K, hib, f1, f2, f3, ht, st, wk, hy, hz]) | (refine awp_if ?_; simp [hkn, hin, hi1, k2, hbL, c1, c1', c2K, hib, f1, f2, f3, ht, st, wk, hy, hz]) | refine awp_block ?_ | refine And.intro ?_ ?_ | intro _ | (refine awp_skip ?_; simp [hkn, hin, hi1, k2, hbL, c1, c1', c2K, hib, f1, f2, f3, ht, st, wk, hy, hz]) | (refine awp_ret ?_; simp [hkn, hin, hi1, k2, hbL, c1, c1', c2K, hib, f1, f2, f3, ht, st, wk, hy, hz]) | (refine awp_exit ?_; simp [hkn, hin, hi1, k2, hbL, c1, c1', c2K, hib, f1, f2, f3, ht, st, wk, hy, hz])))
          exact ⟨k + 1, by omega, by omega, wk_tl (by simp [wk])⟩
      · obtain rfl : k = n := by omega
        (repeat' (first | refine awp_seq ?_ | (refine awp_region tabOk ?_; simp) | (refine awp_if ?_; simp) | refine awp_block ?_ | refine And.intro ?_ ?_ | intro _ | (refine awp_skip ?_; simp) | (refine awp_ret ?_; simp) | (refine awp_exit ?_; simp)))
        exact ⟨i + 1, by omega, by omega, wk_tlE (by rw [tri_next]) (by simp [wi])⟩
    · obtain rfl : i = n := by omega
      have hfin := tri_fin i (gwU h c)
      rw [hfin]
      (repeat' (first | refine awp_seq ?_ | (refine awp_region tabOk ?_; simp) | (refine awp_if ?_; simp) | refine awp_block ?_ | refine And.intro ?_ ?_ | intro _ | (refine awp_skip ?_; simp) | (refine awp_ret ?_; simp) | (refine awp_exit ?_; simp)))
      refine cutOf (f := fun j => gwU h c j i) (haK.app _) hR (.inr ⟨K.length, by rw [hn], by rw [hn]; simp⟩) ?_
      have hq := gw_gr hC
      rw [hn] at hq
      rw [hn, hq]
      ((try simp [vs_ov, k1, s1, g1]); (repeat' (first | refine awp_seq ?_ | (refine awp_region tabOk ?_; simp [vs_ov, k1, s1, g1]) | (refine awp_if ?_; simp [vs_ov, k1, s1, g1]) | refine awp_block ?_ | refine And.intro ?_ ?_ | intro _ | (refine awp_skip ?_; simp [vs_ov, k1, s1, g1]) | (refine awp_ret ?_; simp [vs_ov, k1, s1, g1]) | (refine awp_exit ?_; simp [vs_ov, k1, s1, g1]))))
      exact ⟨H, _, gcTo_Kn (hsK _) (fun _ => rfl), q⟩
set_option maxRecDepth 100000 in
set_option maxHeartbeats 2000000 in
theorem refShrink {H : List Blk} {a : Sc} {h : List Ev} {c : Nat → Int} {Q : AV → List Blk → Prop} (ha : ESl H a h) (hC : CutR h c) (q : Q (.c (.agg (Mt.vs (shV h c)))) H) :
    ACalls Try.prog 48 [.sc a, .agg (Mt.vs c)] H Q := by
  refine acalls_of tabOk Try.func48 (by kernel_rfl) rfl (by kernel_rfl) ?_
  have la := ha.len (i := ti24) (e := 135) rfl
  have hR := hC.right
  have hl := hR.len
  have vs_ov := fun g : Nat → Int => splice_all (xs := Mt.vs g) (ys := [.int .i64 0, .int .i64 0, .int .i64 0, .int .i64 0, .int .i64 0, .int .i64 0]) rfl
  simp only [ti24] at la
  obtain ⟨n, hn⟩ : ∃ n, h.length = n := ⟨_, rfl⟩
  rw [hn] at la hl
  (repeat' (first | refine awp_seq ?_ | (refine awp_region tabOk ?_; simp) | (refine awp_if ?_; simp) | refine awp_block ?_ | refine And.intro ?_ ?_ | intro _ | (refine awp_skip ?_; simp) | (refine awp_ret ?_; simp) | (refine awp_exit ?_; simp)))
  refine inCut (c := c) (ha.app _) hR ?_
  ((try simp); (repeat' (first | refine awp_seq ?_ | (refine awp_region tabOk ?_; simp) | (refine awp_if ?_; simp) | refine awp_block ?_ | refine And.intro ?_ ?_ | intro _ | (refine awp_skip ?_; simp) | (refine awp_ret ?_; simp) | (refine awp_exit ?_; simp))))
  refine causes (ha.app _) hR (fun b L hb => ?_)
  rw [hn] at hb
  obtain ⟨K, hK, k1, k2, hKl⟩ : ∃ K : List Blk, K = H ++ [.own (Mt.vs c), .own [.int .i64 0, .int .i64 0, .int .i64 0, .int .i64 0, .int .i64 0, .int .i64 0], .own (fnB n (inc h c))] ++ L ∧ (∀ M : List Blk, (K ++ M)[H.length + 1]? = some (.own [.int .i64 0, .int .i64 0, .int .i64 0, .int .i64 0, .int .i64 0, .int .i64 0])) ∧ (∀ M : List Blk, (K ++ M)[H.length + 2]? = some (.own (fnB n (inc h c)))) ∧ H.length + 1 < K.length :=
    ⟨_, rfl, by simp, by simp, by simp <;> omega⟩
  have haK : ESl K a h := by rw [hK]; exact (ha.app _).app L
  have hsK : ∀ b : Blk, ∃ M, K.set (H.length + 1) b = H ++ M := fun b => ⟨_, by rw [hK, List.append_assoc]; exact sap 1 _⟩
  have g1 : ∀ (M : List Blk) (b : Blk), (K.set (H.length + 1) b ++ M)[H.length + 1]? = some b := fun M b => by rw [List.getElem?_append_left (by simp; exact hKl), List.getElem?_set_self hKl]
  have g0 : ∀ (b : Blk), (K.set (H.length + 1) b)[H.length + 1]? = some b := fun b => List.getElem?_set_self hKl
  have e0 : H ++ [Blk.own (Mt.vs c), .own [.int .i64 0, .int .i64 0, .int .i64 0, .int .i64 0, .int .i64 0, .int .i64 0], .own (fnB h.length (inc h c))] ++ L = K := by rw [hK, hn]
  rw [hn] at e0 ⊢
  have hbK := hb
  rw [e0] at hbK
  obtain ⟨bid, bcs, rfl, hb1, hb2, hb3⟩ := hbK
  have hbL := fun M => lowc_of hb1 M
  have hk2c : Blk.cells? K[H.length + 2]? = some (fnB n (inc h c)) := by have := k2 []; rw [List.append_nil] at this; rw [this]; rfl
  have s1 : ∀ (M : List Blk) (b : Blk), (K ++ M).set (H.length + 1) b = K.set (H.length + 1) b ++ M := fun M b => setlow' hKl
  simp only [List.append_assoc, List.cons_append, List.nil_append] at e0
  ((try simp [e0]); (repeat' (first | refine awp_seq ?_ | (refine awp_region tabOk ?_; simp [e0]) | (refine awp_if ?_; simp [e0]) | refine awp_block ?_ | refine And.intro ?_ ?_ | intro _ | (refine awp_skip ?_; simp [e0]) | (refine awp_ret ?_; simp [e0]) | (refine awp_exit ?_; simp [e0]))))
  refine cloneBools hk2c (by omega) (fun h0 => ?_) (fun h0 => ?_)
  · subst h0
    have hres : cb h (fun j => shU h c j h.length) h.length = fun _ => 0 := by rw [hn]; rfl
    rw [← sh_gd (h := h) (c := c), hres] at q
    ((try simp [-lenC, la]); (repeat' (first | refine awp_seq ?_ | (refine awp_region tabOk ?_; simp [-lenC, la]) | (refine awp_if ?_; simp [-lenC, la]) | refine awp_block ?_ | refine And.intro ?_ ?_ | intro _ | (refine awp_skip ?_; simp [-lenC, la]) | (refine awp_ret ?_; simp [-lenC, la]) | (refine awp_exit ?_; simp [-lenC, la]))))
    refine awp_loop_at (α := Unit) (fun _ => [(0, .c (.sc a)), (4, .c (.sc (.ptr (H.length + 1) 0))), (7, .c (.sc .sle)), (18, .c (.sc (.int .i64 0))), (19, .c (.sc (.int .i64 0)))]) (fun _ => K) (fun _ => 0) () (wk_tl (by simp)) ?_
    intro _
    (repeat' (first | refine awp_seq ?_ | (refine awp_region tabOk ?_; simp) | (refine awp_if ?_; simp) | refine awp_block ?_ | refine And.intro ?_ ?_ | intro _ | (refine awp_skip ?_; simp) | (refine awp_ret ?_; simp) | (refine awp_exit ?_; simp)))
    refine cutOf (f := fun _ => false) haK hR (.inl hn) ?_
    have k1' := k1 []
    rw [List.append_nil] at k1'
    rw [hn, cb_0]
    ((try simp [vs_ov, k1', g0]); (repeat' (first | refine awp_seq ?_ | (refine awp_region tabOk ?_; simp [vs_ov, k1', g0]) | (refine awp_if ?_; simp [vs_ov, k1', g0]) | refine awp_block ?_ | refine And.intro ?_ ?_ | intro _ | (refine awp_skip ?_; simp [vs_ov, k1', g0]) | (refine awp_ret ?_; simp [vs_ov, k1', g0]) | (refine awp_exit ?_; simp [vs_ov, k1', g0]))))
    have := gcTo_Kn (H := H) (L := []) (v := .c (.agg (Mt.vs fun _ => 0))) (hsK (.own (Mt.vs fun _ => 0))) (fun _ => rfl)
    rw [List.append_nil] at this
    exact ⟨H, _, this, q⟩
  · ((try simp [-lenC, la]); (repeat' (first | refine awp_seq ?_ | (refine awp_region tabOk ?_; simp [-lenC, la]) | (refine awp_if ?_; simp [-lenC, la]) | refine awp_block ?_ | refine And.intro ?_ ?_ | intro _ | (refine awp_skip ?_; simp [-lenC, la]) | (refine awp_ret ?_; simp [-lenC, la]) | (refine awp_exit ?_; simp [-lenC, la]))))
    refine awp_loop_at (α := {i : Nat // i ≤ n}) (fun i => [(0, .c (.sc a)), (4, .c (.sc (.ptr (H.length + 1) 0))), (5, .c (.sc (.sl (H.length + 2) 0 1 n n))), (6, .c (.sc (.sl bid 0 1 n n))), (7, .c (.sc (.sl K.length 0 1 n n))), (18, .c (.sc (.int .i64 n))), (19, .c (.sc (.int .i64 i.1)))])
      (fun i => K ++ [.own (fnB n (tri n (shU h c) i.1 0))]) (fun i => n - i.1) ⟨0, by omega⟩ (wk_tlE (by rw [tri_zero]; rfl) (by simp)) ?_
    rintro ⟨i, hi⟩
    by_cases hin : i < n
    · have wi := wrapS i (by omega)
      (repeat' (first | refine awp_seq ?_ | (refine awp_region tabOk ?_; simp [-lenC, la, hin]) | (refine awp_if ?_; simp [-lenC, la, hin]) | refine awp_block ?_ | refine And.intro ?_ ?_ | intro _ | (refine awp_skip ?_; simp [-lenC, la, hin]) | (refine awp_ret ?_; simp [-lenC, la, hin]) | (refine awp_exit ?_; simp [-lenC, la, hin])))
      refine awp_loop_at (α := {k : Nat // k ≤ n}) (fun k => [(0, .c (.sc a)), (4, .c (.sc (.ptr (H.length + 1) 0))), (5, .c (.sc (.sl (H.length + 2) 0 1 n n))), (6, .c (.sc (.sl bid 0 1 n n))), (7, .c (.sc (.sl K.length 0 1 n n))), (18, .c (.sc (.int .i64 n))), (19, .c (.sc (.int .i64 i))), (8, .c (.sc (.int .i64 i))), (23, .c (.sc (.int .i64 n))), (24, .c (.sc (.int .i64 k.1)))])
        (fun k => K ++ [.own (fnB n (tri n (shU h c) i k.1))]) (fun k => n - k.1) ⟨0, by omega⟩ (wk_tl (by simp)) ?_
      rintro ⟨k, hk⟩
      by_cases hkn : k < n
      · have wk := wrapS k (by omega)
        obtain ⟨rid, c1, c2⟩ := hb3 k hkn
        obtain ⟨_, c1'⟩ := List.getElem?_eq_some_iff.1 c1
        have c2K := fun M => lowc_of c2 M
        have hib : k < bcs.length := by omega
        have f1 := fnB_at (tri n (shU h c) i k) hin
        rw [tri_at] at f1
        have f2 := fnB_at (inc h c) hkn
        have f3 := fnB_at (cau h k) hin
        have st := fnB_set (n := n) (tri n (shU h c) i k) hin (shU h c i (k + 1))
        rw [tri_step] at st
        have ht := tri_at n (shU h c) i k
        have hst : shU h c i (k + 1) = (shU h c i k && (inc h c k || !cau h k i)) := rfl
        have hi1 : i + 1 ≤ n := hin
        rw [hst] at st
        generalize shU h c i k = x at *
        generalize hy : inc h c k = y at *
        generalize hz : cau h k i = z at *
        cases x <;> cases y <;> cases z
        all_goals
          simp only [Bool.or_true, Bool.true_or, Bool.or_false, Bool.false_or, Bool.and_true, Bool.and_false, Bool.true_and, Bool.false_and, Bool.not_true, Bool.not_false] at st
          (repeat' (first | refine awp_seq ?_ | (refine awp_region tabOk ?_; simp [hkn, hin, hi1, k2, hbL, c1, c1', c2K, hib, f1, f2, f3, ht, st, wk, hy, hz]) | (refine awp_if ?_; simp [hkn, hin, hi1, k2, hbL, c1, c1', c2K, hib, f1, f2, f3, ht, st, wk, hy, hz]) | refine awp_block ?_ | refine And.intro ?_ ?_ | intro _ | (refine awp_skip ?_; simp [hkn, hin, hi1, k2, hbL, c1, c1', c2K, hib, f1, f2, f3, ht, st, wk, hy, hz]) | (refine awp_ret ?_; simp [hkn, hin, hi1, k2, hbL, c1, c1', c2K, hib, f1, f2, f3, ht, st, wk, hy, hz]) | (refine awp_exit ?_; simp [hkn, hin, hi1, k2, hbL, c1, c1', c2K, hib, f1, f2, f3, ht, st, wk, hy, hz])))
          exact ⟨k + 1, by omega, by omega, wk_tl (by simp [wk])⟩
      · obtain rfl : k = n := by omega
        (repeat' (first | refine awp_seq ?_ | (refine awp_region tabOk ?_; simp) | (refine awp_if ?_; simp) | refine awp_block ?_ | refine And.intro ?_ ?_ | intro _ | (refine awp_skip ?_; simp) | (refine awp_ret ?_; simp) | (refine awp_exit ?_; simp)))
        exact ⟨i + 1, by omega, by omega, wk_tlE (by rw [tri_next]) (by simp [wi])⟩
    · obtain rfl : i = n := by omega
      have hfin := tri_fin i (shU h c)
      rw [hfin]
      (repeat' (first | refine awp_seq ?_ | (refine awp_region tabOk ?_; simp) | (refine awp_if ?_; simp) | refine awp_block ?_ | refine And.intro ?_ ?_ | intro _ | (refine awp_skip ?_; simp) | (refine awp_ret ?_; simp) | (refine awp_exit ?_; simp)))
      refine cutOf (f := fun j => shU h c j i) (haK.app _) hR (.inr ⟨K.length, by rw [hn], by rw [hn]; simp⟩) ?_
      have hq := sh_gd (h := h) (c := c)
      rw [hn] at hq
      rw [hn, hq]
      ((try simp [vs_ov, k1, s1, g1]); (repeat' (first | refine awp_seq ?_ | (refine awp_region tabOk ?_; simp [vs_ov, k1, s1, g1]) | (refine awp_if ?_; simp [vs_ov, k1, s1, g1]) | refine awp_block ?_ | refine And.intro ?_ ?_ | intro _ | (refine awp_skip ?_; simp [vs_ov, k1, s1, g1]) | (refine awp_ret ?_; simp [vs_ov, k1, s1, g1]) | (refine awp_exit ?_; simp [vs_ov, k1, s1, g1]))))
      exact ⟨H, _, gcTo_Kn (hsK _) (fun _ => rfl), q⟩
end Go.Proofs.Ytjjhogleiolngaa
