/- CausalSays: causal.Check, partref.CausalErr. -/
import Derived.Test.YtdeockoaalpcjaaCb
import Derived.Test.YtdeockoaalpcjaaCc
namespace Go.Proofs.Ytdeockoaalpcjaa
set_option linter.unusedSimpArgs false
set_option linter.unusedVariables false
open Go.RowKit
attribute [local irreducible] AWP ACalls Wk GcTo
attribute [local simp] tab3 ti3 tab4 ti4 tab38 ti38 tab86 ti86 tab88 ti88 tab84 ti84 tab24 ti24 tab9 ti9 tab22 ti22
def twinM (xs : List Ma) (i : Nat) (m : Ma) : Bool := (xs.take i).any fun x => decide (x.Sm m)
def badM (me : Int) (seen : Nat → Int) (xs : List Ma) (i : Nat) (m : Ma) : Prop := ¬m.Rt ∨ m.src = me ∨ m.at_ m.k ≤ seen m.k ∨ m.Rd seen ∨ twinM xs i m = true
instance (me : Int) (seen : Nat → Int) (xs : List Ma) (i : Nat) (m : Ma) : Decidable (badM me seen xs i m) := by unfold badM; infer_instance
def scanM (me : Int) (seen : Nat → Int) (xs : List Ma) : Nat → Nat → Int
  | 0, _ => 0
  | n + 1, i => match xs[i]? with
    | none => 0
    | some m => if badM me seen xs i m then 4 else scanM me seen xs n (i + 1)
def caErr (me : Int) (seen : Nat → Int) (xs : List Ma) : Int := if me < 0 ∨ 5 < me ∨ ¬Wn (fun _ => 0) seen then 1 else if 40 < xs.length then 2 else scanM me seen xs xs.length 0
theorem scanM_step {me : Int} {seen : Nat → Int} {xs : List Ma} {i : Nat} {m : Ma} (h : xs[i]? = some m) : scanM me seen xs (xs.length - i) i = if badM me seen xs i m then 4 else scanM me seen xs (xs.length - (i + 1)) (i + 1) := by
  have hi := (List.getElem?_eq_some_iff.1 h).1
  obtain ⟨k, hk⟩ : ∃ k, xs.length - i = k + 1 := ⟨xs.length - i - 1, by omega⟩
  rw [hk, show xs.length - (i + 1) = k by omega]
  simp only [scanM, h]
theorem twinM_step {xs : List Ma} {j : Nat} {x m : Ma} (h : xs[j]? = some x) : twinM xs (j + 1) m = (twinM xs j m || decide (x.Sm m)) := by
  unfold twinM; rw [take_snoc h, List.any_append]; simp
set_option maxRecDepth 100000 in
set_option maxHeartbeats 2000000 in
theorem causalCheck {H : List Blk} {me : Int} {seen : Nat → Int} {a : Sc} {xs : List Ma} {Q : AV → List Blk → Prop} (ha : MSl H a xs) (hxw : ∀ x ∈ xs, x.wf) (q : Q (.c (.sc (.int .i64 (caErr me seen xs)))) H) :
    ACalls Try.prog 54 [.agg (caC me seen a)] H Q := by
  refine acalls_of tabOk Try.func54 (by kernel_rfl) rfl (by kernel_rfl) ?_
  have hra := ha.ren
  have la := ha.len (i := ⟨.slice 88, 1, 24, .sc .nils, none⟩) rfl
  by_cases hm0 : me < 0
  · have e : caErr me seen xs = 1 := if_pos (.inl hm0)
    rw [e] at q
    (repeat' (first | refine awp_seq ?_ | (refine awp_region tabOk ?_; simp [hm0, zero_vs6]) | (refine awp_if ?_; simp [hm0, zero_vs6]) | refine awp_block ?_ | refine And.intro ?_ ?_ | intro _ | (refine awp_skip ?_; simp [hm0, zero_vs6]) | (refine awp_ret ?_; simp [hm0, zero_vs6]) | (refine awp_exit ?_; simp [hm0, zero_vs6])))
    refine ⟨.sc (.bool false), ?_⟩
    ((try simp [hm0]); (repeat' (first | refine awp_seq ?_ | (refine awp_region tabOk ?_; simp [hm0]) | (refine awp_if ?_; simp [hm0]) | refine awp_block ?_ | refine And.intro ?_ ?_ | intro _ | (refine awp_skip ?_; simp [hm0]) | (refine awp_ret ?_; simp [hm0]) | (refine awp_exit ?_; simp [hm0]))))
    exact ⟨H, _, gcTo_none (fun _ => rfl), q⟩
  by_cases hm5 : 6 ≤ me
  · have e : caErr me seen xs = 1 := if_pos (.inr (.inl (by omega)))
    rw [e] at q
    (repeat' (first | refine awp_seq ?_ | (refine awp_region tabOk ?_; simp [hm0, hm5, zero_vs6]) | (refine awp_if ?_; simp [hm0, hm5, zero_vs6]) | refine awp_block ?_ | refine And.intro ?_ ?_ | intro _ | (refine awp_skip ?_; simp [hm0, hm5, zero_vs6]) | (refine awp_ret ?_; simp [hm0, hm5, zero_vs6]) | (refine awp_exit ?_; simp [hm0, hm5, zero_vs6])))
    refine ⟨.sc (.bool false), ?_⟩
    ((try simp [hm0, hm5]); (repeat' (first | refine awp_seq ?_ | (refine awp_region tabOk ?_; simp [hm0, hm5]) | (refine awp_if ?_; simp [hm0, hm5]) | refine awp_block ?_ | refine And.intro ?_ ?_ | intro _ | (refine awp_skip ?_; simp [hm0, hm5]) | (refine awp_ret ?_; simp [hm0, hm5]) | (refine awp_exit ?_; simp [hm0, hm5]))))
    exact ⟨H, _, gcTo_none (fun _ => rfl), q⟩
  (repeat' (first | refine awp_seq ?_ | (refine awp_region tabOk ?_; simp [hm0, hm5, zero_vs6]) | (refine awp_if ?_; simp [hm0, hm5, zero_vs6]) | refine awp_block ?_ | refine And.intro ?_ ?_ | intro _ | (refine awp_skip ?_; simp [hm0, hm5, zero_vs6]) | (refine awp_ret ?_; simp [hm0, hm5, zero_vs6]) | (refine awp_exit ?_; simp [hm0, hm5, zero_vs6])))
  refine ⟨_, within ⟨rfl, rfl⟩, ?_⟩
  by_cases hw : Wn (fun _ => 0) seen
  · by_cases hl : 40 < xs.length
    · have e : caErr me seen xs = 2 := by unfold caErr; rw [if_neg (by simp only [hw, not_true, or_false]; omega), if_pos hl]
      rw [e] at q
      have hl' : (40 : Int) < xs.length := by omega
      ((try simp [hm0, hm5, hw, -lenC, la, hl']); (repeat' (first | refine awp_seq ?_ | (refine awp_region tabOk ?_; simp [hm0, hm5, hw, -lenC, la, hl']) | (refine awp_if ?_; simp [hm0, hm5, hw, -lenC, la, hl']) | refine awp_block ?_ | refine And.intro ?_ ?_ | intro _ | (refine awp_skip ?_; simp [hm0, hm5, hw, -lenC, la, hl']) | (refine awp_ret ?_; simp [hm0, hm5, hw, -lenC, la, hl']) | (refine awp_exit ?_; simp [hm0, hm5, hw, -lenC, la, hl']))))
      exact ⟨H, _, gcTo_none (fun _ => rfl), q⟩
    · have e : caErr me seen xs = scanM me seen xs xs.length 0 := by unfold caErr; rw [if_neg (by simp only [hw, not_true, or_false]; omega), if_neg hl]
      have hl' : ¬(40 : Int) < xs.length := by omega
      ((try simp [hm0, hm5, hw, -lenC, la, hl']); (repeat' (first | refine awp_seq ?_ | (refine awp_region tabOk ?_; simp [hm0, hm5, hw, -lenC, la, hl']) | (refine awp_if ?_; simp [hm0, hm5, hw, -lenC, la, hl']) | refine awp_block ?_ | refine And.intro ?_ ?_ | intro _ | (refine awp_skip ?_; simp [hm0, hm5, hw, -lenC, la, hl']) | (refine awp_ret ?_; simp [hm0, hm5, hw, -lenC, la, hl']) | (refine awp_exit ?_; simp [hm0, hm5, hw, -lenC, la, hl']))))
      refine awp_loop_at (α := {i : Nat // i ≤ xs.length ∧ caErr me seen xs = scanM me seen xs (xs.length - i) i ∧ ∀ x ∈ xs.take i, x.Rt}) (fun i => [(1, .c (.sc (.ptr H.length 0))), (27, .c (.sc a)), (28, .c (.sc (.int .i64 xs.length))), (29, .c (.sc (.int .i64 i.1)))])
        (fun _ => H ++ [.own (caC me seen a)]) (fun i => xs.length - i.1) ⟨0, by omega, e, fun x hx => by simp at hx⟩ (wk_tl (by simp)) ?_
      rintro ⟨i, hi, he, hall⟩
      by_cases hlt : i < xs.length
      · obtain ⟨m, hx⟩ : ∃ m, xs[i]? = some m := ⟨xs[i], List.getElem?_eq_getElem hlt⟩
        have hmw := hxw m (List.mem_of_getElem? hx)
        rw [scanM_step hx] at he
        obtain ⟨id, off, cap, cs, rfl, hcap, hc, hrow⟩ := ha.at mlen hlt
        have hcL := fun L => lowc_of hc L
        have hid := cells_lt hc
        obtain ⟨r1, r2⟩ := hrow i m hx
        have wi := wrapS i (by omega)
        have hicap : (i : Int) ≤ cap := by omega
        have hicap2 : i ≤ cap := by omega
        (repeat' (first | refine awp_seq ?_ | (refine awp_region tabOk ?_; simp [hlt, hcL, r1, r2]) | (refine awp_if ?_; simp [hlt, hcL, r1, r2]) | refine awp_block ?_ | refine And.intro ?_ ?_ | intro _ | (refine awp_skip ?_; simp [hlt, hcL, r1, r2]) | (refine awp_ret ?_; simp [hlt, hcL, r1, r2]) | (refine awp_exit ?_; simp [hlt, hcL, r1, r2])))
        refine awp_draw tabOk mixed [] (by kernel_rfl) ?_
        simp
        refine ⟨_, [], causalRight ⟨rfl, by simp⟩, ?_⟩
        by_cases hR : m.Rt
        · obtain ⟨hk, hkm⟩ := hR.k6
          have h0 := hR.1
          have h6 : m.src < 6 := by have := hR.2.1; omega
          have t : m.src.toNat = m.k := rfl
          have a1 := m.at_at hk
          have s1 := caC_seen me seen (.sl id off 8 xs.length cap) hk
          obtain ⟨_, a2⟩ := List.getElem?_eq_some_iff.1 a1
          obtain ⟨_, s2⟩ := List.getElem?_eq_some_iff.1 s1
          by_cases hme : m.src = me
          · rw [if_pos (.inr (.inl hme))] at he
            rw [he] at q
            simp [hR, hme, h0, h6, t, a1, a2, s1, s2]
            refine ⟨.sc (.bool false), ?_⟩
            (repeat' (first | refine awp_seq ?_ | (refine awp_region tabOk ?_; simp) | (refine awp_if ?_; simp) | refine awp_block ?_ | refine And.intro ?_ ?_ | intro _ | (refine awp_skip ?_; simp) | (refine awp_ret ?_; simp) | (refine awp_exit ?_; simp)))
            exact ⟨H, _, gcTo_none (fun _ => rfl), q⟩
          · by_cases hle : m.at_ m.k ≤ seen m.k
            · rw [if_pos (.inr (.inr (.inl hle)))] at he
              rw [he] at q
              simp [hR, hme, h0, h6, t, a1, a2, s1, s2, hle]
              refine ⟨.sc (.bool false), ?_⟩
              (repeat' (first | refine awp_seq ?_ | (refine awp_region tabOk ?_; simp) | (refine awp_if ?_; simp) | refine awp_block ?_ | refine And.intro ?_ ?_ | intro _ | (refine awp_skip ?_; simp) | (refine awp_ret ?_; simp) | (refine awp_exit ?_; simp)))
              exact ⟨H, _, gcTo_none (fun _ => rfl), q⟩
            · simp [hR, hme, h0, h6, t, a1, a2, s1, s2, hle]
              refine ⟨_, causalReady hR hmw ⟨rfl, rfl⟩, ?_⟩
              by_cases hrd : m.Rd seen
              · rw [if_pos (.inr (.inr (.inr (.inl hrd))))] at he
                rw [he] at q
                (repeat' (first | refine awp_seq ?_ | (refine awp_region tabOk ?_; simp [hrd]) | (refine awp_if ?_; simp [hrd]) | refine awp_block ?_ | refine And.intro ?_ ?_ | intro _ | (refine awp_skip ?_; simp [hrd]) | (refine awp_ret ?_; simp [hrd]) | (refine awp_exit ?_; simp [hrd])))
                exact ⟨H, _, gcTo_none (fun _ => rfl), q⟩
              · (repeat' (first | refine awp_seq ?_ | (refine awp_region tabOk ?_; simp [hrd, wi, hicap, hicap2]) | (refine awp_if ?_; simp [hrd, wi, hicap, hicap2]) | refine awp_block ?_ | refine And.intro ?_ ?_ | intro _ | (refine awp_skip ?_; simp [hrd, wi, hicap, hicap2]) | (refine awp_ret ?_; simp [hrd, wi, hicap, hicap2]) | (refine awp_exit ?_; simp [hrd, wi, hicap, hicap2])))
                refine awp_loop_at (α := {j : Nat // j ≤ i ∧ twinM xs j m = false}) (fun j => [(1, .c (.sc (.ptr H.length 0))), (4, .c (.sc (.ptr (H.length + 1) 0))), (27, .c (.sc (.sl id off 8 xs.length cap))), (28, .c (.sc (.int .i64 xs.length))), (29, .c (.sc (.int .i64 i))), (65, .c (.sc (.sl id off 8 i cap))), (66, .c (.sc (.int .i64 i))), (67, .c (.sc (.int .i64 j.1)))])
                  (fun _ => H ++ [.own (caC me seen (.sl id off 8 xs.length cap)), .own m.enc]) (fun j => i - j.1) ⟨0, by omega, rfl⟩ (wk_tl (by simp)) ?_
                rintro ⟨j, hj, hnt⟩
                by_cases hjl : j < i
                · obtain ⟨x, hxj⟩ : ∃ x, xs[j]? = some x := ⟨xs[j]'(by omega), List.getElem?_eq_getElem (by omega)⟩
                  have hxt : x ∈ xs.take i := List.mem_of_getElem? (by rw [List.getElem?_take_of_lt hjl]; exact hxj)
                  have hxR := hall x hxt
                  obtain ⟨hxk, hxkm⟩ := hxR.k6
                  have x0 := hxR.1
                  have x6 : x.src < 6 := by have := hxR.2.1; omega
                  have b1 := x.at_at hk
                  obtain ⟨_, b2⟩ := List.getElem?_eq_some_iff.1 b1
                  obtain ⟨r3, r4⟩ := hrow j x hxj
                  have wj := wrapS j (by omega)
                  have tx : x.src.toNat = x.k := rfl
                  have hstep := twinM_step (m := m) hxj
                  rw [hnt, Bool.false_or] at hstep
                  (repeat' (first | refine awp_seq ?_ | (refine awp_region tabOk ?_; simp [hjl, hcL, r3, r4]) | (refine awp_if ?_; simp [hjl, hcL, r3, r4]) | refine awp_block ?_ | refine And.intro ?_ ?_ | intro _ | (refine awp_skip ?_; simp [hjl, hcL, r3, r4]) | (refine awp_ret ?_; simp [hjl, hcL, r3, r4]) | (refine awp_exit ?_; simp [hjl, hcL, r3, r4])))
                  refine awp_draw tabOk mixed [] (by kernel_rfl) ?_
                  by_cases hss : x.src = m.src
                  · have hkk : x.k = m.k := by unfold Ma.k; rw [hss]
                    have hsmiff : decide (x.Sm m) = decide (x.at_ m.k = m.at_ m.k) := by unfold Ma.Sm; simp [hss, hkk]
                    rw [hsmiff] at hstep
                    by_cases hat : x.at_ m.k = m.at_ m.k
                    · rw [if_pos (.inr (.inr (.inr (.inr (by
                        unfold twinM; exact List.any_eq_true.2 ⟨x, hxt, by rw [hsmiff]; exact decide_eq_true hat⟩)))))] at he
                      rw [he] at q
                      simp [hss, h0, h6, t, a1, a2, b1, b2, hat]
                      (repeat' (first | refine awp_seq ?_ | (refine awp_region tabOk ?_; simp) | (refine awp_if ?_; simp) | refine awp_block ?_ | refine And.intro ?_ ?_ | intro _ | (refine awp_skip ?_; simp) | (refine awp_ret ?_; simp) | (refine awp_exit ?_; simp)))
                      exact ⟨H, _, gcTo_none (fun _ => rfl), q⟩
                    · simp [hss, h0, h6, t, a1, a2, b1, b2, hat]
                      (repeat' (first | refine awp_seq ?_ | (refine awp_region tabOk ?_; simp [wj]) | (refine awp_if ?_; simp [wj]) | refine awp_block ?_ | refine And.intro ?_ ?_ | intro _ | (refine awp_skip ?_; simp [wj]) | (refine awp_ret ?_; simp [wj]) | (refine awp_exit ?_; simp [wj])))
                      exact ⟨j + 1, by omega, ⟨by omega, by rw [hstep]; exact decide_eq_false hat⟩, wk_gcl [0, 1] (gcOk_of (by decide) (by simp [mStd_low hid])) (by simp [wj, mStd_low hid])⟩
                  · simp [hss]
                    (repeat' (first | refine awp_seq ?_ | (refine awp_region tabOk ?_; simp [wj]) | (refine awp_if ?_; simp [wj]) | refine awp_block ?_ | refine And.intro ?_ ?_ | intro _ | (refine awp_skip ?_; simp [wj]) | (refine awp_ret ?_; simp [wj]) | (refine awp_exit ?_; simp [wj])))
                    exact ⟨j + 1, by omega, ⟨by omega, by rw [hstep]; exact decide_eq_false fun h => hss h.1⟩, wk_gcl [0, 1] (gcOk_of (by decide) (by simp [mStd_low hid])) (by simp [wj, mStd_low hid])⟩
                · obtain rfl : j = i := by omega
                  have hnb : ¬badM me seen xs j m := by
                    rintro (h | h | h | h | h)
                    · exact h hR
                    · exact hme h
                    · exact hle h
                    · exact hrd h
                    · rw [hnt] at h; cases h
                  rw [if_neg hnb] at he
                  (repeat' (first | refine awp_seq ?_ | (refine awp_region tabOk ?_; simp [wi]) | (refine awp_if ?_; simp [wi]) | refine awp_block ?_ | refine And.intro ?_ ?_ | intro _ | (refine awp_skip ?_; simp [wi]) | (refine awp_ret ?_; simp [wi]) | (refine awp_exit ?_; simp [wi])))
                  exact ⟨j + 1, by omega, ⟨by omega, he, fun x h => by
                    rw [take_snoc hx] at h
                    rcases List.mem_append.1 h with h | h
                    · exact hall x h
                    · simp at h; subst h; exact hR⟩, wk_gcl [0] (gcOk_of (by decide) (by simp [mStd_low hid])) (by simp [wi, mStd_low hid])⟩
        · rw [if_pos (.inl hR)] at he
          rw [he] at q
          simp [hR]
          refine ⟨.sc (.bool false), ?_⟩
          (repeat' (first | refine awp_seq ?_ | (refine awp_region tabOk ?_; simp) | (refine awp_if ?_; simp) | refine awp_block ?_ | refine And.intro ?_ ?_ | intro _ | (refine awp_skip ?_; simp) | (refine awp_ret ?_; simp) | (refine awp_exit ?_; simp)))
          exact ⟨H, _, gcTo_none (fun _ => rfl), q⟩
      · obtain rfl : i = xs.length := by omega
        rw [he, Nat.sub_self] at q
        (repeat' (first | refine awp_seq ?_ | (refine awp_region tabOk ?_; simp) | (refine awp_if ?_; simp) | refine awp_block ?_ | refine And.intro ?_ ?_ | intro _ | (refine awp_skip ?_; simp) | (refine awp_ret ?_; simp) | (refine awp_exit ?_; simp)))
        exact ⟨H, _, gcTo_none (fun _ => rfl), q⟩
  · have e : caErr me seen xs = 1 := if_pos (.inr (.inr hw))
    rw [e] at q
    ((try simp [hm0, hm5, hw]); (repeat' (first | refine awp_seq ?_ | (refine awp_region tabOk ?_; simp [hm0, hm5, hw]) | (refine awp_if ?_; simp [hm0, hm5, hw]) | refine awp_block ?_ | refine And.intro ?_ ?_ | intro _ | (refine awp_skip ?_; simp [hm0, hm5, hw]) | (refine awp_ret ?_; simp [hm0, hm5, hw]) | (refine awp_exit ?_; simp [hm0, hm5, hw]))))
    exact ⟨H, _, gcTo_none (fun _ => rfl), q⟩
end Go.Proofs.Ytdeockoaalpcjaa
