/- Cuts: sizes, Check; partref.Sizes, CutErr. -/
import Derived.Test.YtjjhogleiolngaaVe
import Derived.Test.YtjjhogleiolngaaKm
namespace Go.Proofs.Ytjjhogleiolngaa
set_option linter.unusedSimpArgs false
set_option linter.unusedVariables false
open Go.RowKit
attribute [local irreducible] AWP ACalls Wk GcTo
attribute [local simp] tab3 ti3 tab4 ti4 tab23 ti23 tab24 ti24 tab29 ti29 tab135 ti135
open Hi Ct
theorem vs0 : ([.int .i64 0, .int .i64 0, .int .i64 0, .int .i64 0, .int .i64 0, .int .i64 0] : List Sc) = Mt.vs (fun _ => 0) := rfl
def szV (h : List Ev) (i : Nat) : Nat → Int := fun p => ((evs i (eP h) p).length : Int)
theorem szV_0 (h : List Ev) : szV h 0 = fun _ => 0 := by funext p; rfl
theorem szV_le (h : List Ev) (i p : Nat) : 0 ≤ szV h i p ∧ szV h i p ≤ i := by
  have : (evs i (eP h) p).length ≤ i := by
    have := List.length_filter_le (fun x => decide (eP h x = p)) (List.range i)
    simpa [evs] using this
  unfold szV; omega
theorem szV_step {h : List Ev} {i p : Nat} (hp : p < 6) (e : eP h i = p) : (Mt.vs (szV h i)).set p (.int .i64 (szV h i p + 1)) = Mt.vs (szV h (i + 1)) := by
  rw [Mt.vs_set _ hp]
  refine Mt.vs_ext fun j _ => ?_
  unfold szV
  rw [evs_succ, e]
  by_cases hj : j = p
  · subst hj; simp
  · have hj' : ¬p = j := fun e => hj e.symm
    simp [hj, hj']
def cutOk (h : List Ev) (c : Nat → Int) : Prop := wi (fun _ => 0) c ∧ wi c (szV h h.length)
instance (h : List Ev) (c : Nat → Int) : Decidable (cutOk h c) := by unfold cutOk; infer_instance
def cutE (h : List Ev) (c : Nat → Int) : Int := if hErr h = 0 then (if cutOk h c then 0 else 1) else hErr h
theorem cutE_ok {h : List Ev} {c : Nat → Int} (e : cutE h c = 0) : Right h ∧ wi (fun _ => 0) c ∧ wi c (szV h h.length) := by
  unfold cutE at e
  split at e
  · next he =>
    split at e
    · next hc => exact ⟨right_of he, hc.1, hc.2⟩
    · cases e
  · next he => exact absurd e he
set_option maxRecDepth 100000 in
set_option maxHeartbeats 1000000 in
theorem cutSizes {H : List Blk} {a : Sc} {h : List Ev} {Q : AV → List Blk → Prop} (ha : ESl H a h) (hR : Right h) (q : Q (.c (.agg (Mt.vs (szV h h.length)))) H) :
    ACalls Try.prog 94 [.sc a] H Q := by
  refine acalls_of tabOk Try.func94 (by kernel_rfl) rfl (by kernel_rfl) ?_
  have la := ha.len (i := ti24) (e := 135) rfl
  have hra := ha.ren
  have hl := hR.len
  have vs_ov := fun g : Nat → Int => splice_all (xs := Mt.vs g) (ys := [.int .i64 0, .int .i64 0, .int .i64 0, .int .i64 0, .int .i64 0, .int .i64 0]) rfl
  simp only [ti24] at la
  (repeat' (first | refine awp_seq ?_ | (refine awp_region tabOk ?_; simp [-lenC, la]) | (refine awp_if ?_; simp [-lenC, la]) | refine awp_block ?_ | refine And.intro ?_ ?_ | intro _ | (refine awp_skip ?_; simp [-lenC, la]) | (refine awp_ret ?_; simp [-lenC, la]) | (refine awp_exit ?_; simp [-lenC, la])))
  refine awp_loop_at (α := {i : Nat // i ≤ h.length}) (fun i => [(2, .c (.sc (.ptr H.length 0))), (3, .c (.sc (.ptr (H.length + 1) 0))), (6, .c (.sc a)), (7, .c (.sc (.int .i64 h.length))), (8, .c (.sc (.int .i64 i.1)))])
    (fun i => H ++ [.own [.int .i64 0, .int .i64 0, .int .i64 0, .int .i64 0, .int .i64 0, .int .i64 0], .own (Mt.vs (szV h i.1))]) (fun i => h.length - i.1) ⟨0, by omega⟩ (wk_tlE (by rw [szV_0]; simp; rfl) (by simp)) ?_
  rintro ⟨i, hi⟩
  by_cases hlt : i < h.length
  · obtain ⟨x, hx⟩ := at_lt hlt
    obtain ⟨id, off, cap, cs, rfl, hcap, hc, hrow⟩ := ha.row hlt
    obtain ⟨r1, r2⟩ := hrow i x hx
    have hc2 := fun L => lowc_of hc L
    have hid : ∀ ks top, mStd H.length ks top id = id := fun ks top => mStd_low (cells_lt hc)
    have wr := wrapS i (by omega)
    have hb := (hR.ev i x hx).1
    have hP := eP_at hx
    rw [enc_def] at r1
    obtain ⟨p, k, m⟩ := x
    obtain ⟨b1, b2, b3, b4⟩ := hb
    simp only at b1 b2 hP r1
    obtain ⟨p, rfl⟩ := Int.eq_ofNat_of_zero_le b1
    rw [Int.toNat_natCast] at hP
    have hp6 : p < 6 := by omega
    have hp6' : (p : Int) < 6 := by omega
    have hp5 : p ≤ 5 := by omega
    have a1 := Mt.vs_at (szV h i) hp6
    obtain ⟨_, a1'⟩ := List.getElem?_eq_some_iff.1 a1
    have hsz := szV_le h i p
    have wp : IntKind.i64.wrap (szV h i p + 1) = szV h i p + 1 := wrap_in _ (by omega) (by omega)
    have st := szV_step hp6 hP
    (repeat' (first | refine awp_seq ?_ | (refine awp_region tabOk ?_; simp [hlt, hc, hc2, r1, r2, hp6, hp6', hp5, a1, a1', wp, st, wr]) | (refine awp_if ?_; simp [hlt, hc, hc2, r1, r2, hp6, hp6', hp5, a1, a1', wp, st, wr]) | refine awp_block ?_ | refine And.intro ?_ ?_ | intro _ | (refine awp_skip ?_; simp [hlt, hc, hc2, r1, r2, hp6, hp6', hp5, a1, a1', wp, st, wr]) | (refine awp_ret ?_; simp [hlt, hc, hc2, r1, r2, hp6, hp6', hp5, a1, a1', wp, st, wr]) | (refine awp_exit ?_; simp [hlt, hc, hc2, r1, r2, hp6, hp6', hp5, a1, a1', wp, st, wr])))
    exact ⟨i + 1, by omega, by omega, wk_gcl [0, 1] (gcOk_of (by decide) (by simp)) (by simp [hid, wr])⟩
  · obtain rfl : i = h.length := by omega
    (repeat' (first | refine awp_seq ?_ | (refine awp_region tabOk ?_; simp [hlt, vs_ov]) | (refine awp_if ?_; simp [hlt, vs_ov]) | refine awp_block ?_ | refine And.intro ?_ ?_ | intro _ | (refine awp_skip ?_; simp [hlt, vs_ov]) | (refine awp_ret ?_; simp [hlt, vs_ov]) | (refine awp_exit ?_; simp [hlt, vs_ov])))
    exact ⟨H, _, gcTo_none (fun _ => rfl), q⟩
set_option maxRecDepth 100000 in
set_option maxHeartbeats 1000000 in
theorem refSizes {H : List Blk} {a : Sc} {h : List Ev} {Q : AV → List Blk → Prop} (ha : ESl H a h) (hR : Right h) (q : Q (.c (.agg (Mt.vs (szV h h.length)))) H) :
    ACalls Try.prog 96 [.sc a] H Q := by
  refine acalls_of tabOk Try.func96 (by kernel_rfl) rfl (by kernel_rfl) ?_
  have la := ha.len (i := ti24) (e := 135) rfl
  have hra := ha.ren
  have hl := hR.len
  have vs_ov := fun g : Nat → Int => splice_all (xs := Mt.vs g) (ys := [.int .i64 0, .int .i64 0, .int .i64 0, .int .i64 0, .int .i64 0, .int .i64 0]) rfl
  simp only [ti24] at la
  (repeat' (first | refine awp_seq ?_ | (refine awp_region tabOk ?_; simp [-lenC, la]) | (refine awp_if ?_; simp [-lenC, la]) | refine awp_block ?_ | refine And.intro ?_ ?_ | intro _ | (refine awp_skip ?_; simp [-lenC, la]) | (refine awp_ret ?_; simp [-lenC, la]) | (refine awp_exit ?_; simp [-lenC, la])))
  refine awp_loop_at (α := {i : Nat // i ≤ h.length}) (fun i => [(2, .c (.sc (.ptr H.length 0))), (3, .c (.sc (.ptr (H.length + 1) 0))), (6, .c (.sc a)), (7, .c (.sc (.int .i64 h.length))), (8, .c (.sc (.int .i64 i.1)))])
    (fun i => H ++ [.own [.int .i64 0, .int .i64 0, .int .i64 0, .int .i64 0, .int .i64 0, .int .i64 0], .own (Mt.vs (szV h i.1))]) (fun i => h.length - i.1) ⟨0, by omega⟩ (wk_tlE (by rw [szV_0]; simp; rfl) (by simp)) ?_
  rintro ⟨i, hi⟩
  by_cases hlt : i < h.length
  · obtain ⟨x, hx⟩ := at_lt hlt
    obtain ⟨id, off, cap, cs, rfl, hcap, hc, hrow⟩ := ha.row hlt
    obtain ⟨r1, r2⟩ := hrow i x hx
    have hc2 := fun L => lowc_of hc L
    have hid : ∀ ks top, mStd H.length ks top id = id := fun ks top => mStd_low (cells_lt hc)
    have wr := wrapS i (by omega)
    have hb := (hR.ev i x hx).1
    have hP := eP_at hx
    rw [enc_def] at r1
    obtain ⟨p, k, m⟩ := x
    obtain ⟨b1, b2, b3, b4⟩ := hb
    simp only at b1 b2 hP r1
    obtain ⟨p, rfl⟩ := Int.eq_ofNat_of_zero_le b1
    rw [Int.toNat_natCast] at hP
    have hp6 : p < 6 := by omega
    have hp6' : (p : Int) < 6 := by omega
    have hp5 : p ≤ 5 := by omega
    have a1 := Mt.vs_at (szV h i) hp6
    obtain ⟨_, a1'⟩ := List.getElem?_eq_some_iff.1 a1
    have hsz := szV_le h i p
    have wp : IntKind.i64.wrap (szV h i p + 1) = szV h i p + 1 := wrap_in _ (by omega) (by omega)
    have st := szV_step hp6 hP
    (repeat' (first | refine awp_seq ?_ | (refine awp_region tabOk ?_; simp [hlt, hc, hc2, r1, r2, hp6, hp6', hp5, a1, a1', wp, st, wr]) | (refine awp_if ?_; simp [hlt, hc, hc2, r1, r2, hp6, hp6', hp5, a1, a1', wp, st, wr]) | refine awp_block ?_ | refine And.intro ?_ ?_ | intro _ | (refine awp_skip ?_; simp [hlt, hc, hc2, r1, r2, hp6, hp6', hp5, a1, a1', wp, st, wr]) | (refine awp_ret ?_; simp [hlt, hc, hc2, r1, r2, hp6, hp6', hp5, a1, a1', wp, st, wr]) | (refine awp_exit ?_; simp [hlt, hc, hc2, r1, r2, hp6, hp6', hp5, a1, a1', wp, st, wr])))
    exact ⟨i + 1, by omega, by omega, wk_gcl [0, 1] (gcOk_of (by decide) (by simp)) (by simp [hid, wr])⟩
  · obtain rfl : i = h.length := by omega
    (repeat' (first | refine awp_seq ?_ | (refine awp_region tabOk ?_; simp [hlt, vs_ov]) | (refine awp_if ?_; simp [hlt, vs_ov]) | refine awp_block ?_ | refine And.intro ?_ ?_ | intro _ | (refine awp_skip ?_; simp [hlt, vs_ov]) | (refine awp_ret ?_; simp [hlt, vs_ov]) | (refine awp_exit ?_; simp [hlt, vs_ov])))
    exact ⟨H, _, gcTo_none (fun _ => rfl), q⟩
set_option maxRecDepth 100000 in
set_option maxHeartbeats 1000000 in
theorem cutCheck {H : List Blk} {a : Sc} {h : List Ev} {c : Nat → Int} {Q : AV → List Blk → Prop} (ha : ESl H a h) (q : Q (.c (.sc (.int .i64 (cutE h c)))) H) :
    ACalls Try.prog 46 [.sc a, .agg (Mt.vs c)] H Q := by
  refine acalls_of tabOk Try.func46 (by kernel_rfl) rfl (by kernel_rfl) ?_
  (repeat' (first | refine awp_seq ?_ | (refine awp_region tabOk ?_; simp) | (refine awp_if ?_; simp) | refine awp_block ?_ | refine And.intro ?_ ?_ | intro _ | (refine awp_skip ?_; simp) | (refine awp_ret ?_; simp) | (refine awp_exit ?_; simp)))
  refine stampCheck (ha.app _) ?_
  by_cases he : hErr h = 0
  · have hR := right_of he
    have e : cutE h c = if cutOk h c then 0 else 1 := if_pos he
    ((try simp [he]); (repeat' (first | refine awp_seq ?_ | (refine awp_region tabOk ?_; simp [he]) | (refine awp_if ?_; simp [he]) | refine awp_block ?_ | refine And.intro ?_ ?_ | intro _ | (refine awp_skip ?_; simp [he]) | (refine awp_ret ?_; simp [he]) | (refine awp_exit ?_; simp [he]))))
    refine awp_draw tabOk mixed [] (by kernel_rfl) ?_
    simp [vs0]
    refine ⟨_, [], vectWithin ⟨rfl, by simp⟩, ?_⟩
    simp
    by_cases h1 : wi (fun _ => 0) c
    · simp [h1]
      refine ⟨_, cutSizes (ha.app _) hR ⟨rfl, rfl⟩, ?_⟩
      refine ⟨_, vectWithin ⟨rfl, rfl⟩, ?_⟩
      by_cases h2 : wi c (szV h h.length)
      · rw [e, if_pos ⟨h1, h2⟩] at q
        simp [h1, h2]
        (repeat' (first | refine awp_seq ?_ | (refine awp_region tabOk ?_; simp) | (refine awp_if ?_; simp) | refine awp_block ?_ | refine And.intro ?_ ?_ | intro _ | (refine awp_skip ?_; simp) | (refine awp_ret ?_; simp) | (refine awp_exit ?_; simp)))
        exact ⟨H, _, gcTo_none (fun _ => rfl), q⟩
      · rw [e, if_neg (fun h => h2 h.2)] at q
        simp [h1, h2]
        (repeat' (first | refine awp_seq ?_ | (refine awp_region tabOk ?_; simp) | (refine awp_if ?_; simp) | refine awp_block ?_ | refine And.intro ?_ ?_ | intro _ | (refine awp_skip ?_; simp) | (refine awp_ret ?_; simp) | (refine awp_exit ?_; simp)))
        exact ⟨H, _, gcTo_none (fun _ => rfl), q⟩
    · rw [e, if_neg (fun h => h1 h.1)] at q
      simp [h1]
      refine ⟨.top, .sc (.bool true), ?_⟩
      simp
      (repeat' (first | refine awp_seq ?_ | (refine awp_region tabOk ?_; simp) | (refine awp_if ?_; simp) | refine awp_block ?_ | refine And.intro ?_ ?_ | intro _ | (refine awp_skip ?_; simp) | (refine awp_ret ?_; simp) | (refine awp_exit ?_; simp)))
      exact ⟨H, _, gcTo_none (fun _ => rfl), q⟩
  · have e : cutE h c = hErr h := if_neg he
    rw [e] at q
    ((try simp [he]); (repeat' (first | refine awp_seq ?_ | (refine awp_region tabOk ?_; simp [he]) | (refine awp_if ?_; simp [he]) | refine awp_block ?_ | refine And.intro ?_ ?_ | intro _ | (refine awp_skip ?_; simp [he]) | (refine awp_ret ?_; simp [he]) | (refine awp_exit ?_; simp [he]))))
    exact ⟨H, _, gcTo_none (fun _ => rfl), q⟩
set_option maxRecDepth 100000 in
set_option maxHeartbeats 1000000 in
theorem cutErr {H : List Blk} {a : Sc} {h : List Ev} {c : Nat → Int} {Q : AV → List Blk → Prop} (ha : ESl H a h) (q : Q (.c (.sc (.int .i64 (cutE h c)))) H) :
    ACalls Try.prog 42 [.sc a, .agg (Mt.vs c)] H Q := by
  refine acalls_of tabOk Try.func42 (by kernel_rfl) rfl (by kernel_rfl) ?_
  (repeat' (first | refine awp_seq ?_ | (refine awp_region tabOk ?_; simp) | (refine awp_if ?_; simp) | refine awp_block ?_ | refine And.intro ?_ ?_ | intro _ | (refine awp_skip ?_; simp) | (refine awp_ret ?_; simp) | (refine awp_exit ?_; simp)))
  refine historyErr (ha.app _) ?_
  by_cases he : hErr h = 0
  · have hR := right_of he
    have e : cutE h c = if cutOk h c then 0 else 1 := if_pos he
    ((try simp [he]); (repeat' (first | refine awp_seq ?_ | (refine awp_region tabOk ?_; simp [he]) | (refine awp_if ?_; simp [he]) | refine awp_block ?_ | refine And.intro ?_ ?_ | intro _ | (refine awp_skip ?_; simp [he]) | (refine awp_ret ?_; simp [he]) | (refine awp_exit ?_; simp [he]))))
    refine refSizes (ha.app _) hR ?_
    ((try simp); (repeat' (first | refine awp_seq ?_ | (refine awp_region tabOk ?_; simp) | (refine awp_if ?_; simp) | refine awp_block ?_ | refine And.intro ?_ ?_ | intro _ | (refine awp_skip ?_; simp) | (refine awp_ret ?_; simp) | (refine awp_exit ?_; simp))))
    refine awp_loop_at (α := {i : Nat // i ≤ 6 ∧ ∀ j, j < i → 0 ≤ c j ∧ c j ≤ szV h h.length j}) (fun i => [(3, .c (.sc (.ptr H.length 0))), (14, .c (.agg (Mt.vs (szV h h.length)))), (15, .c (.sc (.int .i64 i.1)))])
      (fun i => H ++ [.own (Mt.vs c)]) (fun i => 6 - i.1) ⟨0, by omega, by omega⟩ (wk_tl (by simp)) ?_
    rintro ⟨i, hi, hh⟩
    by_cases hlt : i < 6
    · have hi6 : (i : Int) < 6 := by omega
      have wr := wrapS i (by omega)
      have a1 := Mt.vs_at c hlt
      have a2 := Mt.vs_at (szV h h.length) hlt
      obtain ⟨_, a1'⟩ := List.getElem?_eq_some_iff.1 a1
      obtain ⟨_, a2'⟩ := List.getElem?_eq_some_iff.1 a2
      by_cases h1 : c i < 0
      · rw [e, if_neg (fun h => by have h' : 0 ≤ c i := h.1 i hlt; omega)] at q
        (repeat' (first | refine awp_seq ?_ | (refine awp_region tabOk ?_; simp [hlt, hi6, a1, a1', a2, a2', h1]) | (refine awp_if ?_; simp [hlt, hi6, a1, a1', a2, a2', h1]) | refine awp_block ?_ | refine And.intro ?_ ?_ | intro _ | (refine awp_skip ?_; simp [hlt, hi6, a1, a1', a2, a2', h1]) | (refine awp_ret ?_; simp [hlt, hi6, a1, a1', a2, a2', h1]) | (refine awp_exit ?_; simp [hlt, hi6, a1, a1', a2, a2', h1])))
        exact ⟨H, _, gcTo_none (fun _ => rfl), q⟩
      · by_cases h2 : szV h h.length i < c i
        · rw [e, if_neg (fun h => by have := h.2 i hlt; omega)] at q
          (repeat' (first | refine awp_seq ?_ | (refine awp_region tabOk ?_; simp [hlt, hi6, a1, a1', a2, a2', h1, h2]) | (refine awp_if ?_; simp [hlt, hi6, a1, a1', a2, a2', h1, h2]) | refine awp_block ?_ | refine And.intro ?_ ?_ | intro _ | (refine awp_skip ?_; simp [hlt, hi6, a1, a1', a2, a2', h1, h2]) | (refine awp_ret ?_; simp [hlt, hi6, a1, a1', a2, a2', h1, h2]) | (refine awp_exit ?_; simp [hlt, hi6, a1, a1', a2, a2', h1, h2])))
          exact ⟨H, _, gcTo_none (fun _ => rfl), q⟩
        · (repeat' (first | refine awp_seq ?_ | (refine awp_region tabOk ?_; simp [hlt, hi6, a1, a1', a2, a2', h1, h2, wr]) | (refine awp_if ?_; simp [hlt, hi6, a1, a1', a2, a2', h1, h2, wr]) | refine awp_block ?_ | refine And.intro ?_ ?_ | intro _ | (refine awp_skip ?_; simp [hlt, hi6, a1, a1', a2, a2', h1, h2, wr]) | (refine awp_ret ?_; simp [hlt, hi6, a1, a1', a2, a2', h1, h2, wr]) | (refine awp_exit ?_; simp [hlt, hi6, a1, a1', a2, a2', h1, h2, wr])))
          exact ⟨i + 1, by omega, ⟨by omega, fun j hj => by
            by_cases e : j = i
            · subst e; omega
            · exact hh j (by omega)⟩, wk_tl (by simp [wr])⟩
    · obtain rfl : i = 6 := by omega
      rw [e, if_pos ⟨fun j hj => (hh j hj).1, fun j hj => (hh j hj).2⟩] at q
      (repeat' (first | refine awp_seq ?_ | (refine awp_region tabOk ?_; simp) | (refine awp_if ?_; simp) | refine awp_block ?_ | refine And.intro ?_ ?_ | intro _ | (refine awp_skip ?_; simp) | (refine awp_ret ?_; simp) | (refine awp_exit ?_; simp)))
      exact ⟨H, _, gcTo_none (fun _ => rfl), q⟩
  · have e : cutE h c = hErr h := if_neg he
    rw [e] at q
    ((try simp [he]); (repeat' (first | refine awp_seq ?_ | (refine awp_region tabOk ?_; simp [he]) | (refine awp_if ?_; simp [he]) | refine awp_block ?_ | refine And.intro ?_ ?_ | intro _ | (refine awp_skip ?_; simp [he]) | (refine awp_ret ?_; simp [he]) | (refine awp_exit ?_; simp [he]))))
    exact ⟨H, _, gcTo_none (fun _ => rfl), q⟩
end Go.Proofs.Ytjjhogleiolngaa
