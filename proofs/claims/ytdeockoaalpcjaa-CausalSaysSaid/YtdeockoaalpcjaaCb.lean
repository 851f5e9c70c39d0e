/- CausalSays: right, ready, as the program and as the reference say; the closures. -/
import Derived.Test.YtdeockoaalpcjaaCa
import Derived.Test.YtdeockoaalpcjaaS4
namespace Go.Proofs.Ytdeockoaalpcjaa
set_option linter.unusedSimpArgs false
set_option linter.unusedVariables false
open Go.RowKit
attribute [local irreducible] AWP ACalls Wk GcTo
attribute [local simp] tab3 ti3 tab4 ti4 tab38 ti38 tab86 ti86 tab88 ti88 tab84 ti84 tab24 ti24 tab9 ti9
theorem zero_vs6 : ([.int .i64 0, .int .i64 0, .int .i64 0, .int .i64 0, .int .i64 0, .int .i64 0] : List Sc) = Mt.vs fun _ => 0 := rfl
set_option maxRecDepth 100000 in
theorem causalRight {H : List Blk} {m : Ma} {Q : AV → List Blk → Prop} (q : Q (.c (.sc (.bool (decide m.Rt)))) H) :
    ACalls Try.prog 119 [.agg m.enc] H Q := by
  refine acalls_of tabOk Try.func119 (by kernel_rfl) rfl (by kernel_rfl) ?_
  by_cases h0 : 0 ≤ m.src
  · by_cases h5 : m.src < 6
    · have hk : m.k < 6 := by unfold Ma.k; omega
      have a1 := m.at_at hk
      obtain ⟨_, b1⟩ := List.getElem?_eq_some_iff.1 a1
      have t : m.src.toNat = m.k := rfl
      (repeat' (first | refine awp_seq ?_ | (refine awp_region tabOk ?_; simp [h0, h5, zero_vs6]) | (refine awp_if ?_; simp [h0, h5, zero_vs6]) | refine awp_block ?_ | refine And.intro ?_ ?_ | intro _ | (refine awp_skip ?_; simp [h0, h5, zero_vs6]) | (refine awp_ret ?_; simp [h0, h5, zero_vs6]) | (refine awp_exit ?_; simp [h0, h5, zero_vs6])))
      refine ⟨_, within ⟨rfl, rfl⟩, ?_⟩
      by_cases hw : Wn (fun _ => 0) m.at_
      · have e : decide m.Rt = decide (0 < m.at_ m.k) := decide_eq_decide.2 ⟨fun h => h.2.2.2, fun h => ⟨h0, by omega, hw, h⟩⟩
        rw [e] at q
        ((try simp [hw, a1, b1, t, h0, h5]); (repeat' (first | refine awp_seq ?_ | (refine awp_region tabOk ?_; simp [hw, a1, b1, t, h0, h5]) | (refine awp_if ?_; simp [hw, a1, b1, t, h0, h5]) | refine awp_block ?_ | refine And.intro ?_ ?_ | intro _ | (refine awp_skip ?_; simp [hw, a1, b1, t, h0, h5]) | (refine awp_ret ?_; simp [hw, a1, b1, t, h0, h5]) | (refine awp_exit ?_; simp [hw, a1, b1, t, h0, h5]))))
        exact ⟨H, _, gcTo_none (fun _ => rfl), q⟩
      · rw [decide_eq_false (fun h => hw h.2.2.1)] at q
        ((try simp [hw, a1, b1, t, h0, h5]); (repeat' (first | refine awp_seq ?_ | (refine awp_region tabOk ?_; simp [hw, a1, b1, t, h0, h5]) | (refine awp_if ?_; simp [hw, a1, b1, t, h0, h5]) | refine awp_block ?_ | refine And.intro ?_ ?_ | intro _ | (refine awp_skip ?_; simp [hw, a1, b1, t, h0, h5]) | (refine awp_ret ?_; simp [hw, a1, b1, t, h0, h5]) | (refine awp_exit ?_; simp [hw, a1, b1, t, h0, h5]))))
        exact ⟨H, _, gcTo_none (fun _ => rfl), q⟩
    · rw [decide_eq_false (fun h => by have := h.2.1; omega)] at q
      (repeat' (first | refine awp_seq ?_ | (refine awp_region tabOk ?_; simp [h0, h5, zero_vs6]) | (refine awp_if ?_; simp [h0, h5, zero_vs6]) | refine awp_block ?_ | refine And.intro ?_ ?_ | intro _ | (refine awp_skip ?_; simp [h0, h5, zero_vs6]) | (refine awp_ret ?_; simp [h0, h5, zero_vs6]) | (refine awp_exit ?_; simp [h0, h5, zero_vs6])))
      exact ⟨.top, by ((try simp [h0, h5]); (repeat' (first | refine awp_seq ?_ | (refine awp_region tabOk ?_; simp [h0, h5]) | (refine awp_if ?_; simp [h0, h5]) | refine awp_block ?_ | refine And.intro ?_ ?_ | intro _ | (refine awp_skip ?_; simp [h0, h5]) | (refine awp_ret ?_; simp [h0, h5]) | (refine awp_exit ?_; simp [h0, h5])))); exact ⟨H, _, gcTo_none (fun _ => rfl), q⟩⟩
  · rw [decide_eq_false (fun h => h0 h.1)] at q
    (repeat' (first | refine awp_seq ?_ | (refine awp_region tabOk ?_; simp [h0, zero_vs6]) | (refine awp_if ?_; simp [h0, zero_vs6]) | refine awp_block ?_ | refine And.intro ?_ ?_ | intro _ | (refine awp_skip ?_; simp [h0, zero_vs6]) | (refine awp_ret ?_; simp [h0, zero_vs6]) | (refine awp_exit ?_; simp [h0, zero_vs6])))
    exact ⟨.top, by ((try simp [h0]); (repeat' (first | refine awp_seq ?_ | (refine awp_region tabOk ?_; simp [h0]) | (refine awp_if ?_; simp [h0]) | refine awp_block ?_ | refine And.intro ?_ ?_ | intro _ | (refine awp_skip ?_; simp [h0]) | (refine awp_ret ?_; simp [h0]) | (refine awp_exit ?_; simp [h0])))); exact ⟨H, _, gcTo_none (fun _ => rfl), q⟩⟩
set_option maxRecDepth 100000 in
theorem mailRight {H : List Blk} {m : Ma} {Q : AV → List Blk → Prop} (q : Q (.c (.sc (.bool (decide m.Rt)))) H) :
    ACalls Try.prog 56 [.agg m.enc] H Q := by
  refine acalls_of tabOk Try.func56 (by kernel_rfl) rfl (by kernel_rfl) ?_
  by_cases h0 : 0 ≤ m.src
  · by_cases h5 : m.src ≤ 5
    · have hk : m.k < 6 := by unfold Ma.k; omega
      have a1 := m.at_at hk
      obtain ⟨_, b1⟩ := List.getElem?_eq_some_iff.1 a1
      have t : m.src.toNat = m.k := rfl
      have h6 : m.src < 6 := by omega
      have hc : Blk.cells? (H ++ [.own m.enc])[H.length]? = some m.enc := by simp
      have hlo := mnU_lt m.at_ 0 5
      (repeat' (first | refine awp_seq ?_ | (refine awp_region tabOk ?_; simp [h0, h5, maxLen]) | (refine awp_if ?_; simp [h0, h5, maxLen]) | refine awp_block ?_ | refine And.intro ?_ ?_ | intro _ | (refine awp_skip ?_; simp [h0, h5, maxLen]) | (refine awp_ret ?_; simp [h0, h5, maxLen]) | (refine awp_exit ?_; simp [h0, h5, maxLen])))
      refine ⟨_, minInt (n := 5) (f := m.at_) hc (by omega) (fun i hi => m.at_at (by omega)) ⟨rfl, rfl⟩, ?_⟩
      by_cases hw : Wn (fun _ => 0) m.at_
      · have hm : 0 ≤ mnU m.at_ 5 := by
          rcases Int.lt_or_le (mnU m.at_ 5) 0 with h | h
          · obtain ⟨j, h1, h2⟩ := hlo.1 h; have h3 : 0 ≤ m.at_ j := hw j (by omega); omega
          · exact h
        have e : decide m.Rt = decide (0 < m.at_ m.k) := decide_eq_decide.2 ⟨fun h => h.2.2.2, fun h => ⟨h0, by omega, hw, h⟩⟩
        rw [e] at q
        ((try simp [hm, a1, b1, t, h0, h5, h6]); (repeat' (first | refine awp_seq ?_ | (refine awp_region tabOk ?_; simp [hm, a1, b1, t, h0, h5, h6]) | (refine awp_if ?_; simp [hm, a1, b1, t, h0, h5, h6]) | refine awp_block ?_ | refine And.intro ?_ ?_ | intro _ | (refine awp_skip ?_; simp [hm, a1, b1, t, h0, h5, h6]) | (refine awp_ret ?_; simp [hm, a1, b1, t, h0, h5, h6]) | (refine awp_exit ?_; simp [hm, a1, b1, t, h0, h5, h6]))))
        exact ⟨H, _, gcTo_none (fun _ => rfl), q⟩
      · have hm : ¬0 ≤ mnU m.at_ 5 := fun h => hw fun j hj => by
          rcases Int.lt_or_le (m.at_ j) 0 with h' | h'
          · have := hlo.2 ⟨j, by omega, h'⟩; omega
          · exact h'
        rw [decide_eq_false (fun h => hw h.2.2.1)] at q
        ((try simp [hm, a1, b1, t, h0, h5]); (repeat' (first | refine awp_seq ?_ | (refine awp_region tabOk ?_; simp [hm, a1, b1, t, h0, h5]) | (refine awp_if ?_; simp [hm, a1, b1, t, h0, h5]) | refine awp_block ?_ | refine And.intro ?_ ?_ | intro _ | (refine awp_skip ?_; simp [hm, a1, b1, t, h0, h5]) | (refine awp_ret ?_; simp [hm, a1, b1, t, h0, h5]) | (refine awp_exit ?_; simp [hm, a1, b1, t, h0, h5]))))
        exact ⟨H, _, gcTo_none (fun _ => rfl), q⟩
    · rw [decide_eq_false (fun h => h5 h.2.1)] at q
      (repeat' (first | refine awp_seq ?_ | (refine awp_region tabOk ?_; simp [h0, h5, maxLen]) | (refine awp_if ?_; simp [h0, h5, maxLen]) | refine awp_block ?_ | refine And.intro ?_ ?_ | intro _ | (refine awp_skip ?_; simp [h0, h5, maxLen]) | (refine awp_ret ?_; simp [h0, h5, maxLen]) | (refine awp_exit ?_; simp [h0, h5, maxLen])))
      exact ⟨.sc (.int .i64 0), by ((try simp [h0, h5]); (repeat' (first | refine awp_seq ?_ | (refine awp_region tabOk ?_; simp [h0, h5]) | (refine awp_if ?_; simp [h0, h5]) | refine awp_block ?_ | refine And.intro ?_ ?_ | intro _ | (refine awp_skip ?_; simp [h0, h5]) | (refine awp_ret ?_; simp [h0, h5]) | (refine awp_exit ?_; simp [h0, h5])))); exact ⟨H, _, gcTo_none (fun _ => rfl), q⟩⟩
  · rw [decide_eq_false (fun h => h0 h.1)] at q
    (repeat' (first | refine awp_seq ?_ | (refine awp_region tabOk ?_; simp [h0, maxLen]) | (refine awp_if ?_; simp [h0, maxLen]) | refine awp_block ?_ | refine And.intro ?_ ?_ | intro _ | (refine awp_skip ?_; simp [h0, maxLen]) | (refine awp_ret ?_; simp [h0, maxLen]) | (refine awp_exit ?_; simp [h0, maxLen])))
    exact ⟨.sc (.int .i64 0), by ((try simp [h0]); (repeat' (first | refine awp_seq ?_ | (refine awp_region tabOk ?_; simp [h0]) | (refine awp_if ?_; simp [h0]) | refine awp_block ?_ | refine And.intro ?_ ?_ | intro _ | (refine awp_skip ?_; simp [h0]) | (refine awp_ret ?_; simp [h0]) | (refine awp_exit ?_; simp [h0])))); exact ⟨H, _, gcTo_none (fun _ => rfl), q⟩⟩
theorem vs_setAt (g : Nat → Int) {k : Nat} (h : k < 6) (x : Int) : (Mt.vs g).set k (.int .i64 x) = Mt.vs (fun j => if j = k then x else g j) := Mt.vs_set g h x
set_option maxRecDepth 100000 in
theorem causalReady {H : List Blk} {me : Int} {seen : Nat → Int} {a : Sc} {m : Ma} {Q : AV → List Blk → Prop} (hr : m.Rt) (hwf : m.wf) (q : Q (.c (.sc (.bool (decide (m.Rd seen))))) H) :
    ACalls Try.prog 120 [.agg (caC me seen a), .agg m.enc] H Q := by
  refine acalls_of tabOk Try.func120 (by kernel_rfl) rfl (by kernel_rfl) ?_
  obtain ⟨hk, hkm⟩ := hr.k6
  have h0 := hr.1
  have h6 : m.src < 6 := by have := hr.2.1; omega
  have t : m.src.toNat = m.k := rfl
  have hp := hr.2.2.2
  have hm := hwf m.k hk
  have w1 := wrap_in (m.at_ m.k - 1) (by omega) (by omega)
  have v1 := Mt.vs_at m.at_ hk
  obtain ⟨_, v2⟩ := List.getElem?_eq_some_iff.1 v1
  have st := vs_setAt m.at_ hk (m.at_ m.k - 1)
  have v3 := Mt.vs_at (fun j => if j = m.k then m.at_ m.k - 1 else m.at_ j) hk
  rw [if_pos rfl] at v3
  have hrd : m.Rd seen ↔ m.at_ m.k - 1 = seen m.k ∧ Wn (fun j => if j = m.k then m.at_ m.k - 1 else m.at_ j) seen := by
    unfold Ma.Rd Wn
    constructor
    · rintro ⟨h1, h2⟩; refine ⟨h1, fun j hj => ?_⟩
      have := h2 j hj
      by_cases e : j = m.k
      · subst e; simpa using this
      · simpa [e] using this
    · rintro ⟨h1, h2⟩; refine ⟨h1, fun j hj => ?_⟩
      have := h2 j hj
      by_cases e : j = m.k
      · subst e; simpa using this
      · simpa [e] using this
  generalize (fun j => if j = m.k then m.at_ m.k - 1 else m.at_ j) = bf at *
  obtain ⟨_, v4⟩ := List.getElem?_eq_some_iff.1 v3
  have s1 := caC_seen me seen a hk
  obtain ⟨_, s2⟩ := List.getElem?_eq_some_iff.1 s1
  have ov := fun g : Nat → Int => splice_all (xs := Mt.vs g) (ys := [.int .i64 0, .int .i64 0, .int .i64 0, .int .i64 0, .int .i64 0, .int .i64 0]) rfl
  have c1 : m.k + 1 ≤ 6 := by omega
  (repeat' (first | refine awp_seq ?_ | (refine awp_region tabOk ?_; simp [ov, h0, h6, t, v1, v2, w1, st, c1]) | (refine awp_if ?_; simp [ov, h0, h6, t, v1, v2, w1, st, c1]) | refine awp_block ?_ | refine And.intro ?_ ?_ | intro _ | (refine awp_skip ?_; simp [ov, h0, h6, t, v1, v2, w1, st, c1]) | (refine awp_ret ?_; simp [ov, h0, h6, t, v1, v2, w1, st, c1]) | (refine awp_exit ?_; simp [ov, h0, h6, t, v1, v2, w1, st, c1])))
  refine awp_draw tabOk mixed [] (by kernel_rfl) ?_
  by_cases he : m.at_ m.k - 1 = seen m.k
  · have e : decide (m.Rd seen) = decide (Wn bf seen) := decide_eq_decide.2 ⟨fun h => (hrd.1 h).2, fun h => hrd.2 ⟨he, h⟩⟩
    rw [e] at q
    simp [h0, h6, t, v3, v4, s1, s2, he]
    refine ⟨_, within ⟨rfl, rfl⟩, ?_⟩
    ((try simp); (repeat' (first | refine awp_seq ?_ | (refine awp_region tabOk ?_; simp) | (refine awp_if ?_; simp) | refine awp_block ?_ | refine And.intro ?_ ?_ | intro _ | (refine awp_skip ?_; simp) | (refine awp_ret ?_; simp) | (refine awp_exit ?_; simp))))
    exact ⟨H, _, gcTo_none (fun _ => rfl), q⟩
  · rw [decide_eq_false (fun h => he (hrd.1 h).1)] at q
    simp [h0, h6, t, v3, v4, s1, s2, he]
    refine ⟨.sc (.bool false), ?_⟩
    (repeat' (first | refine awp_seq ?_ | (refine awp_region tabOk ?_; simp) | (refine awp_if ?_; simp) | refine awp_block ?_ | refine And.intro ?_ ?_ | intro _ | (refine awp_skip ?_; simp) | (refine awp_ret ?_; simp) | (refine awp_exit ?_; simp)))
    exact ⟨H, _, gcTo_none (fun _ => rfl), q⟩
set_option maxRecDepth 100000 in
theorem mailReady {H : List Blk} {seen : Nat → Int} {m : Ma} {Q : AV → List Blk → Prop} (hr : m.Rt) (hwf : m.wf) (hs : ∀ j, j < 6 → 0 ≤ seen j ∧ seen j ≤ 9223372036854775807) (q : Q (.c (.sc (.bool (decide (m.Rd seen))))) H) :
    ACalls Try.prog 114 [.agg (Mt.vs seen), .agg m.enc] H Q := by
  refine acalls_of tabOk Try.func114 (by kernel_rfl) rfl (by kernel_rfl) ?_
  obtain ⟨hk, hkm⟩ := hr.k6
  have hp := hr.2.2.2
  have hm := hwf m.k hk
  have good : (∀ j, j < 6 → if j = m.k then m.at_ j - 1 = seen j else m.at_ j ≤ seen j) ↔ m.Rd seen := by
    unfold Ma.Rd
    constructor
    · intro h
      have h1 := h m.k hk
      rw [if_pos rfl] at h1
      refine ⟨h1, fun j hj => ?_⟩
      have := h j hj
      by_cases e : j = m.k
      · subst e; rw [if_pos rfl]; omega
      · rw [if_neg e] at this ⊢; exact this
    · rintro ⟨h1, h2⟩ j hj
      have := h2 j hj
      by_cases e : j = m.k
      · subst e; rw [if_pos rfl]; exact h1
      · rw [if_neg e] at this ⊢; exact this
  (repeat' (first | refine awp_seq ?_ | (refine awp_region tabOk ?_; simp) | (refine awp_if ?_; simp) | refine awp_block ?_ | refine And.intro ?_ ?_ | intro _ | (refine awp_skip ?_; simp) | (refine awp_ret ?_; simp) | (refine awp_exit ?_; simp)))
  refine awp_loop_at (α := {i : Nat // i ≤ 6 ∧ ∀ j, j < i → if j = m.k then m.at_ j - 1 = seen j else m.at_ j ≤ seen j}) (fun i => [(2, .c (.sc (.ptr H.length 0))), (3, .c (.sc (.ptr (H.length + 1) 0))), (6, .c (.sc (.int .i64 i.1)))]) (fun i => H ++ [.own (Mt.vs seen), .own m.enc]) (fun i => 6 - i.1) ⟨0, by omega, fun j h => by omega⟩ (wk_tl (by simp)) ?_
  rintro ⟨i, hi, hall⟩
  by_cases hlt : i < 6
  · have hi6 : (i : Int) < 6 := by omega
    have wr := wrapS i (by omega)
    have a1 := Mt.vs_at seen hlt
    have a2 := m.at_at hlt
    obtain ⟨_, b1⟩ := List.getElem?_eq_some_iff.1 a1
    obtain ⟨_, b2⟩ := List.getElem?_eq_some_iff.1 a2
    have hsi := hs i hlt
    have hmi := hwf i hlt
    (repeat' (first | refine awp_seq ?_ | (refine awp_region tabOk ?_; simp [hi6, hlt]) | (refine awp_if ?_; simp [hi6, hlt]) | refine awp_block ?_ | refine And.intro ?_ ?_ | intro _ | (refine awp_skip ?_; simp [hi6, hlt]) | (refine awp_ret ?_; simp [hi6, hlt]) | (refine awp_exit ?_; simp [hi6, hlt])))
    refine awp_draw tabOk mixed [] (by kernel_rfl) ?_
    by_cases hik : i = m.k
    · have e1 : m.src = (i : Int) := by omega
      by_cases hv : m.at_ i - 1 = seen i
      · have w1 : IntKind.i64.wrap (seen i + 1) = m.at_ i := by rw [wrap_in _ (by omega) (by omega)]; omega
        simp [hi6, hlt, a1, a2, b1, b2, e1, w1]
        (repeat' (first | refine awp_seq ?_ | (refine awp_region tabOk ?_; simp [wr]) | (refine awp_if ?_; simp [wr]) | refine awp_block ?_ | refine And.intro ?_ ?_ | intro _ | (refine awp_skip ?_; simp [wr]) | (refine awp_ret ?_; simp [wr]) | (refine awp_exit ?_; simp [wr])))
        exact ⟨i + 1, by omega, ⟨by omega, fun j hj => by
          by_cases e : j = i
          · subst e; first | (rw [if_pos hik]; exact hv) | (rw [if_neg hik]; omega)
          · exact hall j (by omega)⟩, wk_tl (by simp [wr])⟩
      · have w1 : ¬m.at_ i = IntKind.i64.wrap (seen i + 1) := by
          by_cases hb : seen i = 9223372036854775807
          · rw [hb]
            have : IntKind.i64.wrap (9223372036854775807 + 1) = -9223372036854775808 := rfl
            rw [this]; subst hik; omega
          · rw [wrap_in _ (by omega) (by omega)]; omega
        simp [hi6, hlt, a1, a2, b1, b2, e1, w1]
        (repeat' (first | refine awp_seq ?_ | (refine awp_region tabOk ?_; simp) | (refine awp_if ?_; simp) | refine awp_block ?_ | refine And.intro ?_ ?_ | intro _ | (refine awp_skip ?_; simp) | (refine awp_ret ?_; simp) | (refine awp_exit ?_; simp)))
        refine ⟨H, _, gcTo_none (fun _ => rfl), ?_⟩
        rw [decide_eq_false (fun h => by
          have := good.2 h i hlt
          first | (rw [if_pos hik] at this; exact hv this) | (rw [if_neg hik] at this; omega))] at q
        exact q
    · have e1 : ¬(i : Int) = m.src := by omega
      by_cases hv : seen i < m.at_ i
      · simp [hi6, hlt, a1, a2, b1, b2, e1, hv]
        (repeat' (first | refine awp_seq ?_ | (refine awp_region tabOk ?_; simp) | (refine awp_if ?_; simp) | refine awp_block ?_ | refine And.intro ?_ ?_ | intro _ | (refine awp_skip ?_; simp) | (refine awp_ret ?_; simp) | (refine awp_exit ?_; simp)))
        refine ⟨H, _, gcTo_none (fun _ => rfl), ?_⟩
        rw [decide_eq_false (fun h => by
          have := good.2 h i hlt
          first | (rw [if_pos hik] at this; exact hv this) | (rw [if_neg hik] at this; omega))] at q
        exact q
      · have hv' : m.at_ i ≤ seen i := by omega
        simp [hi6, hlt, a1, a2, b1, b2, e1, hv, hv']
        (repeat' (first | refine awp_seq ?_ | (refine awp_region tabOk ?_; simp [wr]) | (refine awp_if ?_; simp [wr]) | refine awp_block ?_ | refine And.intro ?_ ?_ | intro _ | (refine awp_skip ?_; simp [wr]) | (refine awp_ret ?_; simp [wr]) | (refine awp_exit ?_; simp [wr])))
        exact ⟨i + 1, by omega, ⟨by omega, fun j hj => by
          by_cases e : j = i
          · subst e; first | (rw [if_pos hik]; exact hv) | (rw [if_neg hik]; omega)
          · exact hall j (by omega)⟩, wk_tl (by simp [wr])⟩
  · obtain rfl : i = 6 := by omega
    rw [decide_eq_true (good.1 hall)] at q
    (repeat' (first | refine awp_seq ?_ | (refine awp_region tabOk ?_; simp) | (refine awp_if ?_; simp) | refine awp_block ?_ | refine And.intro ?_ ?_ | intro _ | (refine awp_skip ?_; simp) | (refine awp_ret ?_; simp) | (refine awp_exit ?_; simp)))
    exact ⟨H, _, gcTo_none (fun _ => rfl), q⟩
set_option maxRecDepth 100000 in
theorem err1 {H : List Blk} {cid : Nat} {x m : Ma} {Q : AV → List Blk → Prop} (hc : Blk.cells? H[cid]? = some m.enc) (h1 : 0 ≤ x.src ∧ x.src ≤ 5) (q : Q (.c (.sc (.bool (decide (x.Sm m))))) H) :
    ACalls Try.prog 116 [.agg x.enc, .sc (.ptr cid 0)] H Q := by
  refine acalls_of tabOk Try.func116 (by kernel_rfl) rfl (by kernel_rfl) ?_
  have hcL := fun L => lowc_of hc L
  (repeat' (first | refine awp_seq ?_ | (refine awp_region tabOk ?_; simp [hcL]) | (refine awp_if ?_; simp [hcL]) | refine awp_block ?_ | refine And.intro ?_ ?_ | intro _ | (refine awp_skip ?_; simp [hcL]) | (refine awp_ret ?_; simp [hcL]) | (refine awp_exit ?_; simp [hcL])))
  refine mailSame h1 ?_
  ((try simp); (repeat' (first | refine awp_seq ?_ | (refine awp_region tabOk ?_; simp) | (refine awp_if ?_; simp) | refine awp_block ?_ | refine And.intro ?_ ?_ | intro _ | (refine awp_skip ?_; simp) | (refine awp_ret ?_; simp) | (refine awp_exit ?_; simp))))
  exact ⟨H, _, gcTo_none (fun _ => rfl), q⟩
set_option maxRecDepth 100000 in
theorem hearMail1 {H : List Blk} {cid : Nat} {x m : Ma} {Q : AV → List Blk → Prop} (hc : Blk.cells? H[cid]? = some m.enc) (h1 : 0 ≤ x.src ∧ x.src ≤ 5) (q : Q (.c (.sc (.bool (decide (x.Sm m))))) H) :
    ACalls Try.prog 127 [.agg x.enc, .sc (.ptr cid 0)] H Q := by
  refine acalls_of tabOk Try.func127 (by kernel_rfl) rfl (by kernel_rfl) ?_
  have hcL := fun L => lowc_of hc L
  (repeat' (first | refine awp_seq ?_ | (refine awp_region tabOk ?_; simp [hcL]) | (refine awp_if ?_; simp [hcL]) | refine awp_block ?_ | refine And.intro ?_ ?_ | intro _ | (refine awp_skip ?_; simp [hcL]) | (refine awp_ret ?_; simp [hcL]) | (refine awp_exit ?_; simp [hcL])))
  refine mailSame h1 ?_
  ((try simp); (repeat' (first | refine awp_seq ?_ | (refine awp_region tabOk ?_; simp) | (refine awp_if ?_; simp) | refine awp_block ?_ | refine And.intro ?_ ?_ | intro _ | (refine awp_skip ?_; simp) | (refine awp_ret ?_; simp) | (refine awp_exit ?_; simp))))
  exact ⟨H, _, gcTo_none (fun _ => rfl), q⟩
set_option maxRecDepth 100000 in
theorem hearMail2 {H : List Blk} {cid : Nat} {x : Ma} {me : Int} {seen : Nat → Int} {a : Sc} {Q : AV → List Blk → Prop} (hc : Blk.cells? H[cid]? = some (caC me seen a)) (hr : x.Rt) (hwf : x.wf) (hs : ∀ j, j < 6 → 0 ≤ seen j ∧ seen j ≤ 9223372036854775807)
    (q : Q (.c (.sc (.bool (decide (x.Rd seen))))) H) : ACalls Try.prog 128 [.agg x.enc, .sc (.ptr cid 0)] H Q := by
  refine acalls_of tabOk Try.func128 (by kernel_rfl) rfl (by kernel_rfl) ?_
  have hcL := fun L => lowc_of hc L
  (repeat' (first | refine awp_seq ?_ | (refine awp_region tabOk ?_; simp [hcL]) | (refine awp_if ?_; simp [hcL]) | refine awp_block ?_ | refine And.intro ?_ ?_ | intro _ | (refine awp_skip ?_; simp [hcL]) | (refine awp_ret ?_; simp [hcL]) | (refine awp_exit ?_; simp [hcL])))
  refine mailReady hr hwf hs ?_
  ((try simp); (repeat' (first | refine awp_seq ?_ | (refine awp_region tabOk ?_; simp) | (refine awp_if ?_; simp) | refine awp_block ?_ | refine And.intro ?_ ?_ | intro _ | (refine awp_skip ?_; simp) | (refine awp_ret ?_; simp) | (refine awp_exit ?_; simp))))
  exact ⟨H, _, gcTo_none (fun _ => rfl), q⟩
set_option maxRecDepth 100000 in
theorem hear1 {H : List Blk} {cid : Nat} {x : Ma} {me : Int} {seen : Nat → Int} {a : Sc} {Q : AV → List Blk → Prop} (hc : Blk.cells? H[cid]? = some (caC me seen a)) (hr : x.Rt) (hwf : x.wf)
    (q : Q (.c (.sc (.bool (decide (x.Rd seen))))) H) : ACalls Try.prog 122 [.agg x.enc, .sc (.ptr cid 0)] H Q := by
  refine acalls_of tabOk Try.func122 (by kernel_rfl) rfl (by kernel_rfl) ?_
  have hcL := fun L => lowc_of hc L
  (repeat' (first | refine awp_seq ?_ | (refine awp_region tabOk ?_; simp [hcL]) | (refine awp_if ?_; simp [hcL]) | refine awp_block ?_ | refine And.intro ?_ ?_ | intro _ | (refine awp_skip ?_; simp [hcL]) | (refine awp_ret ?_; simp [hcL]) | (refine awp_exit ?_; simp [hcL])))
  refine causalReady hr hwf ?_
  ((try simp); (repeat' (first | refine awp_seq ?_ | (refine awp_region tabOk ?_; simp) | (refine awp_if ?_; simp) | refine awp_block ?_ | refine And.intro ?_ ?_ | intro _ | (refine awp_skip ?_; simp) | (refine awp_ret ?_; simp) | (refine awp_exit ?_; simp))))
  exact ⟨H, _, gcTo_none (fun _ => rfl), q⟩
set_option maxRecDepth 100000 in
theorem hear2 {H : List Blk} {cid : Nat} {x : Ma} {me : Int} {seen : Nat → Int} {a : Sc} {Q : AV → List Blk → Prop} (hc : Blk.cells? H[cid]? = some (caC me seen a)) (hr : x.Rt)
    (q : Q (.c (.sc (.bool (decide (x.at_ x.k ≤ seen x.k))))) H) : ACalls Try.prog 124 [.agg x.enc, .sc (.ptr cid 0)] H Q := by
  refine acalls_of tabOk Try.func124 (by kernel_rfl) rfl (by kernel_rfl) ?_
  have hcL := fun L => lowc_of hc L
  obtain ⟨hk, hkm⟩ := hr.k6
  have h0 := hr.1
  have h6 : x.src < 6 := by have := hr.2.1; omega
  have t : x.src.toNat = x.k := rfl
  have a1 := x.at_at hk
  have s1 := caC_seen me seen a hk
  obtain ⟨_, a2⟩ := List.getElem?_eq_some_iff.1 a1
  obtain ⟨_, s2⟩ := List.getElem?_eq_some_iff.1 s1
  (repeat' (first | refine awp_seq ?_ | (refine awp_region tabOk ?_; simp) | (refine awp_if ?_; simp) | refine awp_block ?_ | refine And.intro ?_ ?_ | intro _ | (refine awp_skip ?_; simp) | (refine awp_ret ?_; simp) | (refine awp_exit ?_; simp)))
  refine awp_draw tabOk mixed [] (by kernel_rfl) ?_
  simp [hcL, h0, h6, t, a1, s1, a2, s2]
  (repeat' (first | refine awp_seq ?_ | (refine awp_region tabOk ?_; simp) | (refine awp_if ?_; simp) | refine awp_block ?_ | refine And.intro ?_ ?_ | intro _ | (refine awp_skip ?_; simp) | (refine awp_ret ?_; simp) | (refine awp_exit ?_; simp)))
  exact ⟨H, _, gcTo_none (fun _ => rfl), q⟩
end Go.Proofs.Ytdeockoaalpcjaa
