/- CausalSays: partref.CausalErr. -/
import Derived.Test.YtdeockoaalpcjaaCd
namespace Go.Proofs.Ytdeockoaalpcjaa
set_option linter.unusedSimpArgs false
set_option linter.unusedVariables false
open Go.RowKit
attribute [local irreducible] AWP ACalls Wk GcTo
attribute [local simp] tab3 ti3 tab4 ti4 tab38 ti38 tab86 ti86 tab88 ti88 tab84 ti84 tab24 ti24 tab9 ti9 tab22 ti22
set_option maxRecDepth 100000 in
set_option maxHeartbeats 2000000 in
theorem causalErr {H : List Blk} {me : Int} {seen : Nat → Int} {a : Sc} {xs : List Ma} {Q : AV → List Blk → Prop} (ha : MSl H a xs) (hxw : ∀ x ∈ xs, x.wf) (hsm : ∀ j, j < 6 → seen j ≤ 9223372036854775807) (q : Q (.c (.sc (.int .i64 (caErr me seen xs)))) H) :
    ACalls Try.prog 51 [.agg (caC me seen a)] H Q := by
  refine acalls_of tabOk Try.func51 (by kernel_rfl) rfl (by kernel_rfl) ?_
  have hra := ha.ren
  have la := ha.len (i := ⟨.slice 88, 1, 24, .sc .nils, none⟩) rfl
  by_cases hm0 : me < 0
  · have e : caErr me seen xs = 1 := if_pos (.inl hm0)
    rw [e] at q
    (repeat' (first | refine awp_seq ?_ | (refine awp_region tabOk ?_; simp [hm0, maxLen]) | (refine awp_if ?_; simp [hm0, maxLen]) | refine awp_block ?_ | refine And.intro ?_ ?_ | intro _ | (refine awp_skip ?_; simp [hm0, maxLen]) | (refine awp_ret ?_; simp [hm0, maxLen]) | (refine awp_exit ?_; simp [hm0, maxLen])))
    refine ⟨.sc (.int .i64 0), ?_⟩
    ((try simp [hm0]); (repeat' (first | refine awp_seq ?_ | (refine awp_region tabOk ?_; simp [hm0]) | (refine awp_if ?_; simp [hm0]) | refine awp_block ?_ | refine And.intro ?_ ?_ | intro _ | (refine awp_skip ?_; simp [hm0]) | (refine awp_ret ?_; simp [hm0]) | (refine awp_exit ?_; simp [hm0]))))
    exact ⟨H, _, gcTo_none (fun _ => rfl), q⟩
  by_cases hm5 : 5 < me
  · have e : caErr me seen xs = 1 := if_pos (.inr (.inl (by omega)))
    rw [e] at q
    (repeat' (first | refine awp_seq ?_ | (refine awp_region tabOk ?_; simp [hm0, hm5, maxLen]) | (refine awp_if ?_; simp [hm0, hm5, maxLen]) | refine awp_block ?_ | refine And.intro ?_ ?_ | intro _ | (refine awp_skip ?_; simp [hm0, hm5, maxLen]) | (refine awp_ret ?_; simp [hm0, hm5, maxLen]) | (refine awp_exit ?_; simp [hm0, hm5, maxLen])))
    refine ⟨.sc (.int .i64 0), ?_⟩
    ((try simp [hm0, hm5]); (repeat' (first | refine awp_seq ?_ | (refine awp_region tabOk ?_; simp [hm0, hm5]) | (refine awp_if ?_; simp [hm0, hm5]) | refine awp_block ?_ | refine And.intro ?_ ?_ | intro _ | (refine awp_skip ?_; simp [hm0, hm5]) | (refine awp_ret ?_; simp [hm0, hm5]) | (refine awp_exit ?_; simp [hm0, hm5]))))
    exact ⟨H, _, gcTo_none (fun _ => rfl), q⟩
  have hc0 : Blk.cells? (H ++ [.own (caC me seen a)])[H.length]? = some (caC me seen a) := by simp
  have hlo := mnU_lt seen 0 5
  (repeat' (first | refine awp_seq ?_ | (refine awp_region tabOk ?_; simp [hm0, hm5, maxLen]) | (refine awp_if ?_; simp [hm0, hm5, maxLen]) | refine awp_block ?_ | refine And.intro ?_ ?_ | intro _ | (refine awp_skip ?_; simp [hm0, hm5, maxLen]) | (refine awp_ret ?_; simp [hm0, hm5, maxLen]) | (refine awp_exit ?_; simp [hm0, hm5, maxLen])))
  refine ⟨_, minInt (n := 5) (f := seen) hc0 (by omega) (fun i hi => caC_seen me seen a (by omega)) ⟨rfl, rfl⟩, ?_⟩
  by_cases hw : Wn (fun _ => 0) seen
  · have hmn : ¬mnU seen 5 < 0 := fun h => by
      obtain ⟨j, h1, h2⟩ := hlo.1 h; have h3 : 0 ≤ seen j := hw j (by omega); omega
    have hsb : ∀ j, j < 6 → 0 ≤ seen j ∧ seen j ≤ 9223372036854775807 := fun j hj => ⟨hw j hj, hsm j hj⟩
    by_cases hl : 40 < xs.length
    · have e : caErr me seen xs = 2 := by unfold caErr; rw [if_neg (by simp only [hw, not_true, or_false]; omega), if_pos hl]
      rw [e] at q
      have hl' : (40 : Int) < xs.length := by omega
      ((try simp [hm0, hm5, hmn, -lenC, la, hl']); (repeat' (first | refine awp_seq ?_ | (refine awp_region tabOk ?_; simp [hm0, hm5, hmn, -lenC, la, hl']) | (refine awp_if ?_; simp [hm0, hm5, hmn, -lenC, la, hl']) | refine awp_block ?_ | refine And.intro ?_ ?_ | intro _ | (refine awp_skip ?_; simp [hm0, hm5, hmn, -lenC, la, hl']) | (refine awp_ret ?_; simp [hm0, hm5, hmn, -lenC, la, hl']) | (refine awp_exit ?_; simp [hm0, hm5, hmn, -lenC, la, hl']))))
      exact ⟨H, _, gcTo_none (fun _ => rfl), q⟩
    · have e : caErr me seen xs = scanM me seen xs xs.length 0 := by unfold caErr; rw [if_neg (by simp only [hw, not_true, or_false]; omega), if_neg hl]
      have hl' : ¬(40 : Int) < xs.length := by omega
      ((try simp [hm0, hm5, hmn, -lenC, la, hl']); (repeat' (first | refine awp_seq ?_ | (refine awp_region tabOk ?_; simp [hm0, hm5, hmn, -lenC, la, hl']) | (refine awp_if ?_; simp [hm0, hm5, hmn, -lenC, la, hl']) | refine awp_block ?_ | refine And.intro ?_ ?_ | intro _ | (refine awp_skip ?_; simp [hm0, hm5, hmn, -lenC, la, hl']) | (refine awp_ret ?_; simp [hm0, hm5, hmn, -lenC, la, hl']) | (refine awp_exit ?_; simp [hm0, hm5, hmn, -lenC, la, hl']))))
      refine awp_loop_at (α := {i : Nat // i ≤ xs.length ∧ caErr me seen xs = scanM me seen xs (xs.length - i) i ∧ ∀ x ∈ xs.take i, x.Rt}) (fun i => [(1, .c (.sc (.ptr H.length 0))), (24, .c (.sc a)), (25, .c (.sc (.int .i64 xs.length))), (26, .c (.sc (.int .i64 i.1)))])
        (fun _ => H ++ [.own (caC me seen a)]) (fun i => xs.length - i.1) ⟨0, by omega, e, fun x hx => by simp at hx⟩ (wk_tl (by simp)) ?_
      rintro ⟨i, hi, he, hall⟩
      by_cases hlt : i < xs.length
      · obtain ⟨m, hx⟩ : ∃ m, xs[i]? = some m := ⟨xs[i], List.getElem?_eq_getElem hlt⟩
        have hmw := hxw m (List.mem_of_getElem? hx)
        rw [scanM_step hx] at he
        have hsl : MSl H a xs := ha
        obtain ⟨id, off, cap, cs, rfl, hcap, hc, hrow⟩ := ha.at mlen hlt
        have hcL := fun L => lowc_of hc L
        have hid := cells_lt hc
        obtain ⟨r1, r2⟩ := hrow i m hx
        have wi := wrapS i (by omega)
        have hicap : (i : Int) ≤ cap := by omega
        have hicap2 : i ≤ cap := by omega
        have hpre := hsl.pre mlen (Nat.le_of_lt hlt)
        (repeat' (first | refine awp_seq ?_ | (refine awp_region tabOk ?_; simp [hlt, hcL, r1, r2]) | (refine awp_if ?_; simp [hlt, hcL, r1, r2]) | refine awp_block ?_ | refine And.intro ?_ ?_ | intro _ | (refine awp_skip ?_; simp [hlt, hcL, r1, r2]) | (refine awp_ret ?_; simp [hlt, hcL, r1, r2]) | (refine awp_exit ?_; simp [hlt, hcL, r1, r2])))
        refine awp_draw tabOk mixed [] (by kernel_rfl) ?_
        simp
        refine ⟨_, [], mailRight ⟨rfl, by simp⟩, ?_⟩
        by_cases hR : m.Rt
        · obtain ⟨hk, hkm⟩ := hR.k6
          have h0 := hR.1
          have h6 : m.src < 6 := by have := hR.2.1; omega
          have t : m.src.toNat = m.k := rfl
          have a1 := m.at_at hk
          have s1 := caC_seen me seen (.sl id off 8 xs.length cap) hk
          obtain ⟨_, a2⟩ := List.getElem?_eq_some_iff.1 a1
          obtain ⟨_, s2⟩ := List.getElem?_eq_some_iff.1 s1
          by_cases hme : m.src = me
          · rw [if_pos (.inr (.inl hme))] at he
            rw [he] at q
            simp [hR, hme, h0, h6, t, a1, a2, s1, s2]
            refine ⟨.sc (.bool false), ?_⟩
            simp
            refine ⟨.sc (.bool false), ?_⟩
            (repeat' (first | refine awp_seq ?_ | (refine awp_region tabOk ?_; simp) | (refine awp_if ?_; simp) | refine awp_block ?_ | refine And.intro ?_ ?_ | intro _ | (refine awp_skip ?_; simp) | (refine awp_ret ?_; simp) | (refine awp_exit ?_; simp)))
            exact ⟨H, _, gcTo_none (fun _ => rfl), q⟩
          · by_cases hle : m.at_ m.k ≤ seen m.k
            · rw [if_pos (.inr (.inr (.inl hle)))] at he
              rw [he] at q
              simp [hR, hme, h0, h6, t, a1, a2, s1, s2, hle]
              refine ⟨.sc (.bool false), ?_⟩
              simp
              refine ⟨.sc (.bool false), ?_⟩
              (repeat' (first | refine awp_seq ?_ | (refine awp_region tabOk ?_; simp) | (refine awp_if ?_; simp) | refine awp_block ?_ | refine And.intro ?_ ?_ | intro _ | (refine awp_skip ?_; simp) | (refine awp_ret ?_; simp) | (refine awp_exit ?_; simp)))
              exact ⟨H, _, gcTo_none (fun _ => rfl), q⟩
            · simp [hR, hme, h0, h6, t, a1, a2, s1, s2, hle]
              refine ⟨_, mailReady hR hmw hsb ⟨rfl, rfl⟩, ?_⟩
              by_cases hrd : m.Rd seen
              · rw [if_pos (.inr (.inr (.inr (.inl hrd))))] at he
                rw [he] at q
                simp [hrd]
                refine ⟨.sc (.bool false), ?_⟩
                (repeat' (first | refine awp_seq ?_ | (refine awp_region tabOk ?_; simp [hrd]) | (refine awp_if ?_; simp [hrd]) | refine awp_block ?_ | refine And.intro ?_ ?_ | intro _ | (refine awp_skip ?_; simp [hrd]) | (refine awp_ret ?_; simp [hrd]) | (refine awp_exit ?_; simp [hrd])))
                exact ⟨H, _, gcTo_none (fun _ => rfl), q⟩
              · simp [hrd, hicap, hicap2]
                refine ⟨_, containsMail (p := fun x => decide (x.Sm m)) (hpre.app _) (by rw [List.length_take]; omega) (fun x hx Q q => by
                  have hr := hall x hx
                  exact err1 (m := m) (by simp) ⟨hr.1, hr.2.1⟩ q) ⟨rfl, rfl⟩, ?_⟩
                rw [show ((xs.take i).any fun x => decide (x.Sm m)) = twinM xs i m from rfl]
                cases htw : twinM xs i m with
                | true =>
                  rw [if_pos (.inr (.inr (.inr (.inr htw))))] at he
                  rw [he] at q
                  (repeat' (first | refine awp_seq ?_ | (refine awp_region tabOk ?_; simp) | (refine awp_if ?_; simp) | refine awp_block ?_ | refine And.intro ?_ ?_ | intro _ | (refine awp_skip ?_; simp) | (refine awp_ret ?_; simp) | (refine awp_exit ?_; simp)))
                  exact ⟨H, _, gcTo_none (fun _ => rfl), q⟩
                | false =>
                  have hnb : ¬badM me seen xs i m := by
                    rintro (h | h | h | h | h)
                    · exact h hR
                    · exact hme h
                    · exact hle h
                    · exact hrd h
                    · rw [htw] at h; cases h
                  rw [if_neg hnb] at he
                  (repeat' (first | refine awp_seq ?_ | (refine awp_region tabOk ?_; simp [wi]) | (refine awp_if ?_; simp [wi]) | refine awp_block ?_ | refine And.intro ?_ ?_ | intro _ | (refine awp_skip ?_; simp [wi]) | (refine awp_ret ?_; simp [wi]) | (refine awp_exit ?_; simp [wi])))
                  exact ⟨i + 1, by omega, ⟨by omega, he, fun x h => by
                    rw [take_snoc hx] at h
                    rcases List.mem_append.1 h with h | h
                    · exact hall x h
                    · simp at h; subst h; exact hR⟩, wk_gcl [0] (gcOk_of (by decide) (by simp [mStd_low hid])) (by simp [wi, mStd_low hid])⟩
        · rw [if_pos (.inl hR)] at he
          rw [he] at q
          simp [hR]
          refine ⟨.sc (.bool false), ?_⟩
          simp
          refine ⟨.sc (.bool false), ?_⟩
          (repeat' (first | refine awp_seq ?_ | (refine awp_region tabOk ?_; simp) | (refine awp_if ?_; simp) | refine awp_block ?_ | refine And.intro ?_ ?_ | intro _ | (refine awp_skip ?_; simp) | (refine awp_ret ?_; simp) | (refine awp_exit ?_; simp)))
          exact ⟨H, _, gcTo_none (fun _ => rfl), q⟩
      · obtain rfl : i = xs.length := by omega
        rw [he, Nat.sub_self] at q
        (repeat' (first | refine awp_seq ?_ | (refine awp_region tabOk ?_; simp) | (refine awp_if ?_; simp) | refine awp_block ?_ | refine And.intro ?_ ?_ | intro _ | (refine awp_skip ?_; simp) | (refine awp_ret ?_; simp) | (refine awp_exit ?_; simp)))
        exact ⟨H, _, gcTo_none (fun _ => rfl), q⟩
  · have hmn : mnU seen 5 < 0 := by
      by_cases h : mnU seen 5 < 0
      · exact h
      · exact absurd (fun j hj => by
          rcases Int.lt_or_le (seen j) 0 with h' | h'
          · have := hlo.2 ⟨j, by omega, h'⟩; omega
          · exact h') hw
    have e : caErr me seen xs = 1 := if_pos (.inr (.inr hw))
    rw [e] at q
    ((try simp [hm0, hm5, hmn]); (repeat' (first | refine awp_seq ?_ | (refine awp_region tabOk ?_; simp [hm0, hm5, hmn]) | (refine awp_if ?_; simp [hm0, hm5, hmn]) | refine awp_block ?_ | refine And.intro ?_ ?_ | intro _ | (refine awp_skip ?_; simp [hm0, hm5, hmn]) | (refine awp_ret ?_; simp [hm0, hm5, hmn]) | (refine awp_exit ?_; simp [hm0, hm5, hmn]))))
    exact ⟨H, _, gcTo_none (fun _ => rfl), q⟩
end Go.Proofs.Ytdeockoaalpcjaa
