/- CausalSays: causal.Hear. -/
import Derived.Test.YtdeockoaalpcjaaCg
namespace Go.Proofs.Ytdeockoaalpcjaa
set_option linter.unusedSimpArgs false
set_option linter.unusedVariables false
open Go.RowKit
attribute [local irreducible] AWP ACalls Wk GcTo
attribute [local simp] tab3 ti3 tab4 ti4 tab38 ti38 tab86 ti86 tab88 ti88 tab84 ti84 tab24 ti24 tab9 ti9 tab22 ti22
theorem hear_late {me : Int} {seen : Nat → Int} {xs : List Ma} {m : Ma} (h : m.src = me ∨ m.at_ m.k ≤ seen m.k ∨ twinM xs xs.length m = true) : hearR me seen xs m = ⟨0, me, seen, xs, []⟩ := if_pos h
theorem hear_ready {me : Int} {seen : Nat → Int} {xs : List Ma} {m : Ma} (h : ¬(m.src = me ∨ m.at_ m.k ≤ seen m.k ∨ twinM xs xs.length m = true)) (hr : m.Rd seen) : hearR me seen xs m = endM me (runM xs.length (bump seen m.k) xs [m]) := by
  unfold hearR; rw [if_neg h, if_pos hr]
theorem hear_full {me : Int} {seen : Nat → Int} {xs : List Ma} {m : Ma} (h : ¬(m.src = me ∨ m.at_ m.k ≤ seen m.k ∨ twinM xs xs.length m = true)) (hr : ¬m.Rd seen) (hl : xs.length = 40) : hearR me seen xs m = ⟨8, 0, fun _ => 0, [], []⟩ := by
  unfold hearR; rw [if_neg h, if_neg hr, if_pos hl]
theorem hear_hold {me : Int} {seen : Nat → Int} {xs : List Ma} {m : Ma} (h : ¬(m.src = me ∨ m.at_ m.k ≤ seen m.k ∨ twinM xs xs.length m = true)) (hr : ¬m.Rd seen) (hl : ¬xs.length = 40) : hearR me seen xs m = ⟨0, me, seen, xs ++ [m], []⟩ := by
  unfold hearR; rw [if_neg h, if_neg hr, if_neg hl]
theorem msl_nil {H : List Blk} : MSl H .nils [] := .inl ⟨rfl, .inl rfl⟩
set_option maxRecDepth 100000 in
set_option maxHeartbeats 4000000 in
theorem causalHear {H : List Blk} {me : Int} {seen : Nat → Int} {a : Sc} {xs : List Ma} {m : Ma} {Q : AV → List Blk → Prop} (ha : MSl H a xs) (hxw : ∀ x ∈ xs, x.wf) (hmw : m.wf) (hsm : ∀ j, j < 6 → seen j ≤ 9223372036854775807)
    (q0 : ¬caErr me seen xs = 0 → Q (.tup [.agg (caC 0 (fun _ => 0) .nils), .sc .nils, .sc (.int .i64 (caErr me seen xs))]) H)
    (q1 : caErr me seen xs = 0 → ¬m.Rt → Q (.tup [.agg (caC 0 (fun _ => 0) .nils), .sc .nils, .sc (.int .i64 1)]) H)
    (q2 : caErr me seen xs = 0 → m.Rt → ∀ b c L, MSl (H ++ L) b (hearR me seen xs m).hold → MSl (H ++ L) c (hearR me seen xs m).out → Q (.tup [.agg (caC (hearR me seen xs m).me (hearR me seen xs m).seen b), .sc c, .sc (.int .i64 (hearR me seen xs m).e)]) (H ++ L)) :
    ACalls Try.prog 53 [.agg (caC me seen a), .agg m.enc] H Q := by
  refine acalls_of tabOk Try.func53 (by kernel_rfl) rfl (by kernel_rfl) ?_
  have hra := ha.ren
  (repeat' (first | refine awp_seq ?_ | (refine awp_region tabOk ?_; simp) | (refine awp_if ?_; simp) | refine awp_block ?_ | refine And.intro ?_ ?_ | intro _ | (refine awp_skip ?_; simp) | (refine awp_ret ?_; simp) | (refine awp_exit ?_; simp)))
  refine causalCheck (ha.app _) hxw ?_
  by_cases he : caErr me seen xs = 0
  · obtain ⟨g1, g2, g3, g4, g5⟩ := err_ok he
    have hxR := scan_ok g5
    have hsb : Sb seen := fun j hj => ⟨g3 j hj, hsm j hj⟩
    rw [he]
    ((try simp); (repeat' (first | refine awp_seq ?_ | (refine awp_region tabOk ?_; simp) | (refine awp_if ?_; simp) | refine awp_block ?_ | refine And.intro ?_ ?_ | intro _ | (refine awp_skip ?_; simp) | (refine awp_ret ?_; simp) | (refine awp_exit ?_; simp))))
    refine causalRight ?_
    by_cases hR : m.Rt
    · obtain ⟨hk, hkm⟩ := hR.k6
      have q3 := q2 he hR
      have h0 := hR.1
      have h6 : m.src < 6 := by have := hR.2.1; omega
      have t : m.src.toNat = m.k := rfl
      have a1 := m.at_at hk
      have s1 := fun c => caC_seen me seen c hk
      obtain ⟨_, a2⟩ := List.getElem?_eq_some_iff.1 a1
      have s2 : ∀ c (h : 1 + m.k < (caC me seen c).length), (caC me seen c)[1 + m.k] = .int .i64 (seen m.k) := fun c h => (List.getElem?_eq_some_iff.1 (s1 c)).2
      have st : ∀ c, (caC me seen c).set (1 + m.k) (.int .i64 (seen m.k + 1)) = caC me (bump seen m.k) c := fun c => caC_setS me seen c hk _
      have hk7 : 1 + m.k ≤ 7 := by omega
      ((try simp [hR]); (repeat' (first | refine awp_seq ?_ | (refine awp_region tabOk ?_; simp [hR]) | (refine awp_if ?_; simp [hR]) | refine awp_block ?_ | refine And.intro ?_ ?_ | intro _ | (refine awp_skip ?_; simp [hR]) | (refine awp_ret ?_; simp [hR]) | (refine awp_exit ?_; simp [hR]))))
      refine cloneMail (ha.app _) (by omega) (fun b h1 h2 => ?_) (fun h1 => ?_)
      · subst h1
        rcases h2 with rfl | rfl
        · ((try simp); (repeat' (first | refine awp_seq ?_ | (refine awp_region tabOk ?_; simp) | (refine awp_if ?_; simp) | refine awp_block ?_ | refine And.intro ?_ ?_ | intro _ | (refine awp_skip ?_; simp) | (refine awp_ret ?_; simp) | (refine awp_exit ?_; simp))))
          refine awp_draw tabOk mixed [] (by kernel_rfl) ?_
          by_cases hme : m.src = me
          · simp [hR, hme, h0, h6, t, a1, a2, s1, s2]
            rw [hear_late (.inl hme)] at q3
            (repeat' (first | refine awp_seq ?_ | (refine awp_region tabOk ?_; simp) | (refine awp_if ?_; simp) | refine awp_block ?_ | refine And.intro ?_ ?_ | intro _ | (refine awp_skip ?_; simp) | (refine awp_ret ?_; simp) | (refine awp_exit ?_; simp)))
            refine ⟨H, _, gcTo_none (fun _ => rfl), ?_⟩
            have := q3 .nils .nils [] (.inl ⟨rfl, .inl rfl⟩) (msl_nil)
            rw [List.append_nil] at this
            exact this
          · by_cases hle : m.at_ m.k ≤ seen m.k
            · simp [hR, hme, h0, h6, t, a1, a2, s1, s2, hle]
              rw [hear_late (.inr (.inl hle))] at q3
              (repeat' (first | refine awp_seq ?_ | (refine awp_region tabOk ?_; simp) | (refine awp_if ?_; simp) | refine awp_block ?_ | refine And.intro ?_ ?_ | intro _ | (refine awp_skip ?_; simp) | (refine awp_ret ?_; simp) | (refine awp_exit ?_; simp)))
              refine ⟨H, _, gcTo_none (fun _ => rfl), ?_⟩
              have := q3 .nils .nils [] (.inl ⟨rfl, .inl rfl⟩) (msl_nil)
              rw [List.append_nil] at this
              exact this
            · simp [hR, hme, h0, h6, t, a1, a2, s1, s2, hle]
              have hnl : ¬(m.src = me ∨ m.at_ m.k ≤ seen m.k ∨ twinM [] ([] : List Ma).length m = true) := by
                rintro (h | h | h)
                · exact hme h
                · exact hle h
                · simp [twinM] at h
              (repeat' (first | refine awp_seq ?_ | (refine awp_region tabOk ?_; simp) | (refine awp_if ?_; simp) | refine awp_block ?_ | refine And.intro ?_ ?_ | intro _ | (refine awp_skip ?_; simp) | (refine awp_ret ?_; simp) | (refine awp_exit ?_; simp)))
              refine awp_loop_at (α := Unit) (fun _ => [(2, .c (.sc (.ptr H.length 0))), (3, .c (.sc (.ptr (H.length + 1) 0))), (4, .c (.sc (.ptr (H.length + 2) 0))), (48, .c (.sc (.int .i64 0))), (49, .c (.sc (.int .i64 0)))])
                (fun _ => H ++ [.own (caC me seen .nils), .own m.enc, .own (caC 0 (fun _ => 0) .nils)]) (fun _ => 0) () (wk_tl (by simp [zero_caC])) ?_
              rintro ⟨⟩
              (repeat' (first | refine awp_seq ?_ | (refine awp_region tabOk ?_; simp [zero_caC]) | (refine awp_if ?_; simp [zero_caC]) | refine awp_block ?_ | refine And.intro ?_ ?_ | intro _ | (refine awp_skip ?_; simp [zero_caC]) | (refine awp_ret ?_; simp [zero_caC]) | (refine awp_exit ?_; simp [zero_caC])))
              refine causalReady hR hmw ?_
              by_cases hrd : m.Rd seen
              · rw [hear_ready hnl hrd] at q3
                have wi := bump_wrap hsb hrd hmw hR
                ((try simp [hrd, h0, h6, t, s1, s2, wi, st, hk7, maxLen]); (repeat' (first | refine awp_seq ?_ | (refine awp_region tabOk ?_; simp [hrd, h0, h6, t, s1, s2, wi, st, hk7, maxLen]) | (refine awp_if ?_; simp [hrd, h0, h6, t, s1, s2, wi, st, hk7, maxLen]) | refine awp_block ?_ | refine And.intro ?_ ?_ | intro _ | (refine awp_skip ?_; simp [hrd, h0, h6, t, s1, s2, wi, st, hk7, maxLen]) | (refine awp_ret ?_; simp [hrd, h0, h6, t, s1, s2, wi, st, hk7, maxLen]) | (refine awp_exit ?_; simp [hrd, h0, h6, t, s1, s2, wi, st, hk7, maxLen]))))
                refine awp_loop_at (α := Unit) (fun _ => [(2, .c (.sc (.ptr H.length 0))), (4, .c (.sc (.ptr (H.length + 2) 0))), (10, .c (.sc (.sl (H.length + 3) 0 8 1 1)))])
                  (fun _ => H ++ [.own (caC me (bump seen m.k) .nils), .own m.enc, .own (caC 0 (fun _ => 0) .nils), .own m.enc]) (fun _ => 0) () (wk_tl (by simp [zero_caC])) ?_
                rintro ⟨⟩
                (repeat' (first | refine awp_seq ?_ | (refine awp_region tabOk ?_; simp [zero_caC]) | (refine awp_if ?_; simp [zero_caC]) | refine awp_block ?_ | refine And.intro ?_ ?_ | intro _ | (refine awp_skip ?_; simp [zero_caC]) | (refine awp_ret ?_; simp [zero_caC]) | (refine awp_exit ?_; simp [zero_caC])))
                refine indexMail (xs := []) (p := fun x => decide (x.Rd (bump seen m.k))) (.inl ⟨rfl, .inl rfl⟩) (by simp) (fun x hx => nomatch hx) (fun _ => ?_) (fun i x hx => nomatch hx)
                ((try simp); (repeat' (first | refine awp_seq ?_ | (refine awp_region tabOk ?_; simp) | (refine awp_if ?_; simp) | refine awp_block ?_ | refine And.intro ?_ ?_ | intro _ | (refine awp_skip ?_; simp) | (refine awp_ret ?_; simp) | (refine awp_exit ?_; simp))))
                refine deleteFuncNone (.inl rfl) ?_
                ((try simp); (repeat' (first | refine awp_seq ?_ | (refine awp_region tabOk ?_; simp) | (refine awp_if ?_; simp) | refine awp_block ?_ | refine And.intro ?_ ?_ | intro _ | (refine awp_skip ?_; simp) | (refine awp_ret ?_; simp) | (refine awp_exit ?_; simp))))
                rw [show runM ([] : List Ma).length (bump seen m.k) [] [m] = (bump seen m.k, [], [m]) from rfl] at q3
                refine ⟨H ++ [.own m.enc], .tup [.agg (caC me (bump seen m.k) .nils), .sc (.sl H.length 0 8 1 1), .sc (.int .i64 0)], gcTo_std [3] (gcOk_of (by decide) (by simp)) (by simp), ?_⟩
                exact q3 .nils _ _ (.inl ⟨rfl, .inl rfl⟩) (GSl.ownC (cs := m.enc) (xs := [m]) mlen (by simp) (by simp) (Nat.le_refl _) (by simp))
              · rw [hear_hold hnl hrd (by simp)] at q3
                ((try simp [hrd, maxLen]); (repeat' (first | refine awp_seq ?_ | (refine awp_region tabOk ?_; simp [hrd, maxLen]) | (refine awp_if ?_; simp [hrd, maxLen]) | refine awp_block ?_ | refine And.intro ?_ ?_ | intro _ | (refine awp_skip ?_; simp [hrd, maxLen]) | (refine awp_ret ?_; simp [hrd, maxLen]) | (refine awp_exit ?_; simp [hrd, maxLen]))))
                refine ⟨H ++ [.own m.enc], .tup [.agg (caC me seen (.sl H.length 0 8 1 1)), .sc .nils, .sc (.int .i64 0)], gcTo_std [4] (gcOk_of (by decide) (by simp)) (by simp), ?_⟩
                exact q3 _ _ _ (GSl.ownC (cs := m.enc) mlen (by simp) (by simp) (Nat.le_refl _) (by simp)) msl_nil
        · ((try simp); (repeat' (first | refine awp_seq ?_ | (refine awp_region tabOk ?_; simp) | (refine awp_if ?_; simp) | refine awp_block ?_ | refine And.intro ?_ ?_ | intro _ | (refine awp_skip ?_; simp) | (refine awp_ret ?_; simp) | (refine awp_exit ?_; simp))))
          refine awp_draw tabOk mixed [] (by kernel_rfl) ?_
          by_cases hme : m.src = me
          · simp [hR, hme, h0, h6, t, a1, a2, s1, s2]
            rw [hear_late (.inl hme)] at q3
            (repeat' (first | refine awp_seq ?_ | (refine awp_region tabOk ?_; simp) | (refine awp_if ?_; simp) | refine awp_block ?_ | refine And.intro ?_ ?_ | intro _ | (refine awp_skip ?_; simp) | (refine awp_ret ?_; simp) | (refine awp_exit ?_; simp)))
            refine ⟨H, _, gcTo_none (fun _ => rfl), ?_⟩
            have := q3 .sle .nils [] (.inl ⟨rfl, .inr rfl⟩) (msl_nil)
            rw [List.append_nil] at this
            exact this
          · by_cases hle : m.at_ m.k ≤ seen m.k
            · simp [hR, hme, h0, h6, t, a1, a2, s1, s2, hle]
              rw [hear_late (.inr (.inl hle))] at q3
              (repeat' (first | refine awp_seq ?_ | (refine awp_region tabOk ?_; simp) | (refine awp_if ?_; simp) | refine awp_block ?_ | refine And.intro ?_ ?_ | intro _ | (refine awp_skip ?_; simp) | (refine awp_ret ?_; simp) | (refine awp_exit ?_; simp)))
              refine ⟨H, _, gcTo_none (fun _ => rfl), ?_⟩
              have := q3 .sle .nils [] (.inl ⟨rfl, .inr rfl⟩) (msl_nil)
              rw [List.append_nil] at this
              exact this
            · simp [hR, hme, h0, h6, t, a1, a2, s1, s2, hle]
              have hnl : ¬(m.src = me ∨ m.at_ m.k ≤ seen m.k ∨ twinM [] ([] : List Ma).length m = true) := by
                rintro (h | h | h)
                · exact hme h
                · exact hle h
                · simp [twinM] at h
              (repeat' (first | refine awp_seq ?_ | (refine awp_region tabOk ?_; simp) | (refine awp_if ?_; simp) | refine awp_block ?_ | refine And.intro ?_ ?_ | intro _ | (refine awp_skip ?_; simp) | (refine awp_ret ?_; simp) | (refine awp_exit ?_; simp)))
              refine awp_loop_at (α := Unit) (fun _ => [(2, .c (.sc (.ptr H.length 0))), (3, .c (.sc (.ptr (H.length + 1) 0))), (4, .c (.sc (.ptr (H.length + 2) 0))), (48, .c (.sc (.int .i64 0))), (49, .c (.sc (.int .i64 0)))])
                (fun _ => H ++ [.own (caC me seen .sle), .own m.enc, .own (caC 0 (fun _ => 0) .nils)]) (fun _ => 0) () (wk_tl (by simp [zero_caC])) ?_
              rintro ⟨⟩
              (repeat' (first | refine awp_seq ?_ | (refine awp_region tabOk ?_; simp [zero_caC]) | (refine awp_if ?_; simp [zero_caC]) | refine awp_block ?_ | refine And.intro ?_ ?_ | intro _ | (refine awp_skip ?_; simp [zero_caC]) | (refine awp_ret ?_; simp [zero_caC]) | (refine awp_exit ?_; simp [zero_caC])))
              refine causalReady hR hmw ?_
              by_cases hrd : m.Rd seen
              · rw [hear_ready hnl hrd] at q3
                have wi := bump_wrap hsb hrd hmw hR
                ((try simp [hrd, h0, h6, t, s1, s2, wi, st, hk7, maxLen]); (repeat' (first | refine awp_seq ?_ | (refine awp_region tabOk ?_; simp [hrd, h0, h6, t, s1, s2, wi, st, hk7, maxLen]) | (refine awp_if ?_; simp [hrd, h0, h6, t, s1, s2, wi, st, hk7, maxLen]) | refine awp_block ?_ | refine And.intro ?_ ?_ | intro _ | (refine awp_skip ?_; simp [hrd, h0, h6, t, s1, s2, wi, st, hk7, maxLen]) | (refine awp_ret ?_; simp [hrd, h0, h6, t, s1, s2, wi, st, hk7, maxLen]) | (refine awp_exit ?_; simp [hrd, h0, h6, t, s1, s2, wi, st, hk7, maxLen]))))
                refine awp_loop_at (α := Unit) (fun _ => [(2, .c (.sc (.ptr H.length 0))), (4, .c (.sc (.ptr (H.length + 2) 0))), (10, .c (.sc (.sl (H.length + 3) 0 8 1 1)))])
                  (fun _ => H ++ [.own (caC me (bump seen m.k) .sle), .own m.enc, .own (caC 0 (fun _ => 0) .nils), .own m.enc]) (fun _ => 0) () (wk_tl (by simp [zero_caC])) ?_
                rintro ⟨⟩
                (repeat' (first | refine awp_seq ?_ | (refine awp_region tabOk ?_; simp [zero_caC]) | (refine awp_if ?_; simp [zero_caC]) | refine awp_block ?_ | refine And.intro ?_ ?_ | intro _ | (refine awp_skip ?_; simp [zero_caC]) | (refine awp_ret ?_; simp [zero_caC]) | (refine awp_exit ?_; simp [zero_caC])))
                refine indexMail (xs := []) (p := fun x => decide (x.Rd (bump seen m.k))) (.inl ⟨rfl, .inr rfl⟩) (by simp) (fun x hx => nomatch hx) (fun _ => ?_) (fun i x hx => nomatch hx)
                ((try simp); (repeat' (first | refine awp_seq ?_ | (refine awp_region tabOk ?_; simp) | (refine awp_if ?_; simp) | refine awp_block ?_ | refine And.intro ?_ ?_ | intro _ | (refine awp_skip ?_; simp) | (refine awp_ret ?_; simp) | (refine awp_exit ?_; simp))))
                refine deleteFuncNone (.inr rfl) ?_
                ((try simp); (repeat' (first | refine awp_seq ?_ | (refine awp_region tabOk ?_; simp) | (refine awp_if ?_; simp) | refine awp_block ?_ | refine And.intro ?_ ?_ | intro _ | (refine awp_skip ?_; simp) | (refine awp_ret ?_; simp) | (refine awp_exit ?_; simp))))
                rw [show runM ([] : List Ma).length (bump seen m.k) [] [m] = (bump seen m.k, [], [m]) from rfl] at q3
                refine ⟨H ++ [.own m.enc], .tup [.agg (caC me (bump seen m.k) .sle), .sc (.sl H.length 0 8 1 1), .sc (.int .i64 0)], gcTo_std [3] (gcOk_of (by decide) (by simp)) (by simp), ?_⟩
                exact q3 .sle _ _ (.inl ⟨rfl, .inr rfl⟩) (GSl.ownC (cs := m.enc) (xs := [m]) mlen (by simp) (by simp) (Nat.le_refl _) (by simp))
              · rw [hear_hold hnl hrd (by simp)] at q3
                ((try simp [hrd, maxLen]); (repeat' (first | refine awp_seq ?_ | (refine awp_region tabOk ?_; simp [hrd, maxLen]) | (refine awp_if ?_; simp [hrd, maxLen]) | refine awp_block ?_ | refine And.intro ?_ ?_ | intro _ | (refine awp_skip ?_; simp [hrd, maxLen]) | (refine awp_ret ?_; simp [hrd, maxLen]) | (refine awp_exit ?_; simp [hrd, maxLen]))))
                refine ⟨H ++ [.own m.enc], .tup [.agg (caC me seen (.sl H.length 0 8 1 1)), .sc .nils, .sc (.int .i64 0)], gcTo_std [4] (gcOk_of (by decide) (by simp)) (by simp), ?_⟩
                exact q3 _ _ _ (GSl.ownC (cs := m.enc) mlen (by simp) (by simp) (Nat.le_refl _) (by simp)) msl_nil
      · have hCl : (xs.flatMap Ma.enc).length = xs.length * 8 := flat_len mlen _
        have hCr : ∀ f : Nat → Nat, (xs.flatMap Ma.enc).map (renS f) = xs.flatMap Ma.enc := fun f => Ma_ren f xs
        have hrow : ∀ (i : Nat) (x : Ma), xs[i]? = some x → ((xs.flatMap Ma.enc).drop (i * 8)).take 8 = x.enc ∧ i * 8 + 8 ≤ (xs.flatMap Ma.enc).length := fun i x hx => by
          have := gsl_row (off := 0) (cs := xs.flatMap Ma.enc) mlen (by rw [hCl]; omega) (by rw [List.drop_zero, flat_all mlen _ rfl]) hx
          rw [Nat.zero_add] at this
          exact this
        have hCt : (xs.flatMap Ma.enc).take (xs.length * 8) = xs.flatMap Ma.enc := flat_all mlen _ rfl
        obtain ⟨C, hC⟩ : ∃ C, C = xs.flatMap Ma.enc := ⟨_, rfl⟩
        have hg : ∀ L, MSl (H ++ [.own C] ++ L) (.sl H.length 0 8 xs.length xs.length) xs := fun L => (GSl.ownC (cs := C) mlen (by simp) (by rw [hC, hCt]) (Nat.le_refl _) (by rw [hC, hCl]; exact Nat.le_refl _)).app L
        rw [← hC] at hCl hCr hrow hCt ⊢
        ((try simp); (repeat' (first | refine awp_seq ?_ | (refine awp_region tabOk ?_; simp) | (refine awp_if ?_; simp) | refine awp_block ?_ | refine And.intro ?_ ?_ | intro _ | (refine awp_skip ?_; simp) | (refine awp_ret ?_; simp) | (refine awp_exit ?_; simp))))
        refine awp_draw tabOk mixed [] (by kernel_rfl) ?_
        by_cases hme : m.src = me
        · simp [hR, hme, h0, h6, t, a1, a2, s1, s2]
          rw [hear_late (.inl hme)] at q3
          (repeat' (first | refine awp_seq ?_ | (refine awp_region tabOk ?_; simp) | (refine awp_if ?_; simp) | refine awp_block ?_ | refine And.intro ?_ ?_ | intro _ | (refine awp_skip ?_; simp) | (refine awp_ret ?_; simp) | (refine awp_exit ?_; simp)))
          refine ⟨H ++ [.own C], .tup [.agg (caC me seen (.sl H.length 0 8 xs.length xs.length)), .sc .nils, .sc (.int .i64 0)], gcTo_std [3] (gcOk_of (by decide) (by simp [hCr])) (by simp), ?_⟩
          exact q3 _ .nils [.own C] (by simpa using hg []) msl_nil
        · by_cases hle : m.at_ m.k ≤ seen m.k
          · simp [hR, hme, h0, h6, t, a1, a2, s1, s2, hle]
            rw [hear_late (.inr (.inl hle))] at q3
            (repeat' (first | refine awp_seq ?_ | (refine awp_region tabOk ?_; simp) | (refine awp_if ?_; simp) | refine awp_block ?_ | refine And.intro ?_ ?_ | intro _ | (refine awp_skip ?_; simp) | (refine awp_ret ?_; simp) | (refine awp_exit ?_; simp)))
            refine ⟨H ++ [.own C], .tup [.agg (caC me seen (.sl H.length 0 8 xs.length xs.length)), .sc .nils, .sc (.int .i64 0)], gcTo_std [3] (gcOk_of (by decide) (by simp [hCr])) (by simp), ?_⟩
            exact q3 _ .nils [.own C] (by simpa using hg []) msl_nil
          · simp [hR, hme, h0, h6, t, a1, a2, s1, s2, hle]
            (repeat' (first | refine awp_seq ?_ | (refine awp_region tabOk ?_; simp) | (refine awp_if ?_; simp) | refine awp_block ?_ | refine And.intro ?_ ?_ | intro _ | (refine awp_skip ?_; simp) | (refine awp_ret ?_; simp) | (refine awp_exit ?_; simp)))
            refine awp_loop_at (α := {i : Nat // i ≤ xs.length ∧ twinM xs i m = false}) (fun i => [(2, .c (.sc (.ptr H.length 0))), (3, .c (.sc (.ptr (H.length + 1) 0))), (4, .c (.sc (.ptr (H.length + 2) 0))), (47, .c (.sc (.sl (H.length + 3) 0 8 xs.length xs.length))), (48, .c (.sc (.int .i64 xs.length))), (49, .c (.sc (.int .i64 i.1)))])
              (fun _ => H ++ [.own (caC me seen (.sl (H.length + 3) 0 8 xs.length xs.length)), .own m.enc, .own (caC 0 (fun _ => 0) .nils), .own C]) (fun i => xs.length - i.1) ⟨0, by omega, rfl⟩ (wk_tl (by simp [zero_caC])) ?_
            rintro ⟨i, hi, hnt⟩
            by_cases hlt : i < xs.length
            · obtain ⟨x, hx⟩ : ∃ x, xs[i]? = some x := ⟨xs[i], List.getElem?_eq_getElem hlt⟩
              have hxR := hxR x (List.mem_of_getElem? hx)
              have x0 := hxR.1
              have b1 := x.at_at hk
              obtain ⟨_, b2⟩ := List.getElem?_eq_some_iff.1 b1
              obtain ⟨r1, r2⟩ := hrow i x hx
              have wj := wrapS i (by omega)
              have hstep := twinM_step (m := m) hx
              rw [hnt, Bool.false_or] at hstep
              (repeat' (first | refine awp_seq ?_ | (refine awp_region tabOk ?_; simp [hlt, r1, r2]) | (refine awp_if ?_; simp [hlt, r1, r2]) | refine awp_block ?_ | refine And.intro ?_ ?_ | intro _ | (refine awp_skip ?_; simp [hlt, r1, r2]) | (refine awp_ret ?_; simp [hlt, r1, r2]) | (refine awp_exit ?_; simp [hlt, r1, r2])))
              refine awp_draw tabOk mixed [] (by kernel_rfl) ?_
              by_cases hss : x.src = m.src
              · have hkk : x.k = m.k := by unfold Ma.k; rw [hss]
                have hsmiff : decide (x.Sm m) = decide (x.at_ m.k = m.at_ m.k) := by unfold Ma.Sm; simp [hss, hkk]
                by_cases hat : x.at_ m.k = m.at_ m.k
                · rw [hear_late (.inr (.inr (by
                    unfold twinM; exact List.any_eq_true.2 ⟨x, by rw [List.take_length]; exact List.mem_of_getElem? hx, by rw [hsmiff]; exact decide_eq_true hat⟩)))] at q3
                  simp [hss, h0, h6, t, a1, a2, b1, b2, hat]
                  (repeat' (first | refine awp_seq ?_ | (refine awp_region tabOk ?_; simp) | (refine awp_if ?_; simp) | refine awp_block ?_ | refine And.intro ?_ ?_ | intro _ | (refine awp_skip ?_; simp) | (refine awp_ret ?_; simp) | (refine awp_exit ?_; simp)))
                  refine ⟨H ++ [.own C], .tup [.agg (caC me seen (.sl H.length 0 8 xs.length xs.length)), .sc .nils, .sc (.int .i64 0)], gcTo_std [3] (gcOk_of (by decide) (by simp [hCr])) (by simp), ?_⟩
                  exact q3 _ .nils [.own C] (by simpa using hg []) msl_nil
                · rw [hsmiff] at hstep
                  simp [hss, h0, h6, t, a1, a2, b1, b2, hat]
                  (repeat' (first | refine awp_seq ?_ | (refine awp_region tabOk ?_; simp [wj]) | (refine awp_if ?_; simp [wj]) | refine awp_block ?_ | refine And.intro ?_ ?_ | intro _ | (refine awp_skip ?_; simp [wj]) | (refine awp_ret ?_; simp [wj]) | (refine awp_exit ?_; simp [wj])))
                  exact ⟨i + 1, by omega, ⟨by omega, by rw [hstep]; exact decide_eq_false hat⟩, wk_gcl [0, 1, 2, 3] (gcOk_of (by decide) (by simp [hCr])) (by simp [wj])⟩
              · simp [hss]
                (repeat' (first | refine awp_seq ?_ | (refine awp_region tabOk ?_; simp [wj]) | (refine awp_if ?_; simp [wj]) | refine awp_block ?_ | refine And.intro ?_ ?_ | intro _ | (refine awp_skip ?_; simp [wj]) | (refine awp_ret ?_; simp [wj]) | (refine awp_exit ?_; simp [wj])))
                exact ⟨i + 1, by omega, ⟨by omega, by rw [hstep]; exact decide_eq_false fun h => hss h.1⟩, wk_gcl [0, 1, 2, 3] (gcOk_of (by decide) (by simp [hCr])) (by simp [wj])⟩
            · obtain rfl : i = xs.length := by omega
              have hnl : ¬(m.src = me ∨ m.at_ m.k ≤ seen m.k ∨ twinM xs xs.length m = true) := by
                rintro (h | h | h)
                · exact hme h
                · exact hle h
                · rw [hnt] at h; cases h
              (repeat' (first | refine awp_seq ?_ | (refine awp_region tabOk ?_; simp [zero_caC]) | (refine awp_if ?_; simp [zero_caC]) | refine awp_block ?_ | refine And.intro ?_ ?_ | intro _ | (refine awp_skip ?_; simp [zero_caC]) | (refine awp_ret ?_; simp [zero_caC]) | (refine awp_exit ?_; simp [zero_caC])))
              refine causalReady hR hmw ?_
              by_cases hrd : m.Rd seen
              · rw [hear_ready hnl hrd] at q3
                have wi := bump_wrap hsb hrd hmw hR
                have hsb2 := hsb.bump hrd hmw hR
                ((try simp [hrd, h0, h6, t, s1, s2, wi, st, hk7, maxLen]); (repeat' (first | refine awp_seq ?_ | (refine awp_region tabOk ?_; simp [hrd, h0, h6, t, s1, s2, wi, st, hk7, maxLen]) | (refine awp_if ?_; simp [hrd, h0, h6, t, s1, s2, wi, st, hk7, maxLen]) | refine awp_block ?_ | refine And.intro ?_ ?_ | intro _ | (refine awp_skip ?_; simp [hrd, h0, h6, t, s1, s2, wi, st, hk7, maxLen]) | (refine awp_ret ?_; simp [hrd, h0, h6, t, s1, s2, wi, st, hk7, maxLen]) | (refine awp_exit ?_; simp [hrd, h0, h6, t, s1, s2, wi, st, hk7, maxLen]))))
                refine awp_loop_at (α := {r : (Nat → Int) × List Ma × List Ma × List Sc // Sb r.1 ∧ (∀ x ∈ r.2.1, x.Rt ∧ x.wf) ∧ r.2.1.length ≤ xs.length ∧ r.2.2.1.length + r.2.1.length = xs.length + 1 ∧ r.2.2.2.length = C.length ∧ (∀ f : Nat → Nat, r.2.2.2.map (renS f) = r.2.2.2) ∧
                    r.2.2.2.take (r.2.1.length * 8) = r.2.1.flatMap Ma.enc ∧ runM xs.length (bump seen m.k) xs [m] = runM r.2.1.length r.1 r.2.1 r.2.2.1})
                  (fun r => [(2, .c (.sc (.ptr H.length 0))), (4, .c (.sc (.ptr (H.length + 2) 0))), (10, .c (.sc (.sl (H.length + 4) 0 8 r.1.2.2.1.length r.1.2.2.1.length)))])
                  (fun r => H ++ [.own (caC me r.1.1 (.sl (H.length + 3) 0 8 r.1.2.1.length xs.length)), .own m.enc, .own (caC 0 (fun _ => 0) .nils), .own r.1.2.2.2, .own (r.1.2.2.1.flatMap Ma.enc)]) (fun r => r.1.2.1.length)
                  ⟨(bump seen m.k, xs, [m], C), hsb2, fun x hx => ⟨hxR x hx, hxw x hx⟩, Nat.le_refl _, by show 1 + xs.length = _; omega, rfl, hCr, by show C.take (xs.length * 8) = _; rw [hCt, hC], rfl⟩ (wk_tl (by simp [zero_caC])) ?_
                rintro ⟨⟨s, hold, out, cs⟩, i1, i2, i3, i4, i5, i6, i7, i8⟩
                simp only at i1 i2 i3 i4 i5 i6 i7 i8
                rw [i8] at q3
                have hOl : (out.flatMap Ma.enc).length = out.length * 8 := flat_len mlen _
                have hOr : ∀ f : Nat → Nat, (out.flatMap Ma.enc).map (renS f) = out.flatMap Ma.enc := fun f => Ma_ren f out
                have hOt : (out.flatMap Ma.enc).take (out.length * 8) = out.flatMap Ma.enc := flat_all mlen _ rfl
                obtain ⟨O, hO⟩ : ∃ O, O = out.flatMap Ma.enc := ⟨_, rfl⟩
                rw [← hO] at hOl hOr hOt
                simp only [← hO]
                have hcl : hold.length * 8 ≤ cs.length := by rw [i5, hCl]; omega
                (repeat' (first | refine awp_seq ?_ | (refine awp_region tabOk ?_; simp [zero_caC]) | (refine awp_if ?_; simp [zero_caC]) | refine awp_block ?_ | refine And.intro ?_ ?_ | intro _ | (refine awp_skip ?_; simp [zero_caC]) | (refine awp_ret ?_; simp [zero_caC]) | (refine awp_exit ?_; simp [zero_caC])))
                refine indexMail (xs := hold) (p := fun x => decide (x.Rd s)) (GSl.ownC (cs := cs) mlen (by simp) i7 i3 hcl) (by omega) (fun x hx Q q => hear1 (me := me) (seen := s) (a := .sl (H.length + 3) 0 8 hold.length xs.length) (by simp) (i2 x hx).1 (i2 x hx).2 q) (fun hno => ?_) (fun k x hx hpx hpre => ?_)
                · rw [runM_stop hno] at q3
                  ((try simp); (repeat' (first | refine awp_seq ?_ | (refine awp_region tabOk ?_; simp) | (refine awp_if ?_; simp) | refine awp_block ?_ | refine And.intro ?_ ?_ | intro _ | (refine awp_skip ?_; simp) | (refine awp_ret ?_; simp) | (refine awp_exit ?_; simp))))
                  refine deleteFuncMail (id := H.length + 3) (off := 0) (cap := xs.length) (cid := H.length) (cs := cs) (C := caC me s (.sl (H.length + 3) 0 8 hold.length xs.length)) (xs := hold) (p := lateM s) (by simp) i3 (by omega) i6 (by omega) (by rw [List.drop_zero]; exact i7) (by simp) (by omega)
                    (fun ks top => by simp [mStd_low]) (fun x hx K Q hK q => hear2 hK (i2 x hx).1 q) (fun cs' z1 z2 z3 => ?_)
                  ((try simp [zero_caC]); (repeat' (first | refine awp_seq ?_ | (refine awp_region tabOk ?_; simp [zero_caC]) | (refine awp_if ?_; simp [zero_caC]) | refine awp_block ?_ | refine And.intro ?_ ?_ | intro _ | (refine awp_skip ?_; simp [zero_caC]) | (refine awp_ret ?_; simp [zero_caC]) | (refine awp_exit ?_; simp [zero_caC]))))
                  rw [List.drop_zero] at z3
                  refine ⟨H ++ [.own cs', .own O], .tup [.agg (caC me s (.sl H.length 0 8 (hold.filter fun x => !lateM s x).length xs.length)), .sc (.sl (H.length + 1) 0 8 out.length out.length), .sc (.int .i64 0)], gcTo_std [3, 4] (gcOk_of (by decide) (by simp [z2, hOr])) (by simp), ?_⟩
                  have hfl := List.length_filter_le (fun x => !lateM s x) hold
                  exact q3 _ _ [.own cs', .own O] (GSl.ownC (cs := cs') mlen (by simp) z3 (by omega) (by omega)) (GSl.ownC (cs := O) mlen (by simp) (by rw [hOt, hO]) (Nat.le_refl _) (by rw [hOl]; exact Nat.le_refl _))
                · have hk2 : k < hold.length := (List.getElem?_eq_some_iff.1 hx).1
                  have hk0 : ¬(k : Int) < 0 := by omega
                  have wk := wrapS k (by omega)
                  have row := gsl_row (off := 0) (cs := cs) mlen (by omega) (by rw [List.drop_zero]; exact i7) hx
                  rw [Nat.zero_add] at row
                  obtain ⟨r1, r2⟩ := row
                  have hrx := of_decide_eq_true hpx
                  obtain ⟨xR, xw⟩ := i2 x (List.mem_of_getElem? hx)
                  obtain ⟨xk, xkm⟩ := xR.k6
                  have x0 := xR.1
                  have x6 : x.src < 6 := by have := xR.2.1; omega
                  have tx : x.src.toNat = x.k := rfl
                  have u1 := fun c => caC_seen me s c xk
                  have u2 : ∀ c (h : 1 + x.k < (caC me s c).length), (caC me s c)[1 + x.k] = .int .i64 (s x.k) := fun c h => (List.getElem?_eq_some_iff.1 (u1 c)).2
                  have ut : ∀ c, (caC me s c).set (1 + x.k) (.int .i64 (s x.k + 1)) = caC me (bump s x.k) c := fun c => caC_setS me s c xk _
                  have xk7 : 1 + x.k ≤ 7 := by omega
                  have xwi := bump_wrap i1 hrx xw xR
                  have xsb := i1.bump hrx xw xR
                  have hml : (out.length + 1) * 72 ≤ 140737488355328 := by omega
                  have hml1 : out.length + 1 ≤ maxLen := by simp only [maxLen]; omega
                  have hno : ¬out.length + 1 ≤ out.length := by omega
                  rw [runM_step hx hpx hpre] at q3
                  obtain ⟨n1, hn1⟩ : ∃ n1, hold.length = n1 + 1 := ⟨hold.length - 1, by omega⟩
                  have hel : (hold.eraseIdx k).length = n1 := by rw [List.length_eraseIdx_of_lt hk2]; omega
                  ((try simp [hk0, hk2, r1, r2, wk]); (repeat' (first | refine awp_seq ?_ | (refine awp_region tabOk ?_; simp [hk0, hk2, r1, r2, wk]) | (refine awp_if ?_; simp [hk0, hk2, r1, r2, wk]) | refine awp_block ?_ | refine And.intro ?_ ?_ | intro _ | (refine awp_skip ?_; simp [hk0, hk2, r1, r2, wk]) | (refine awp_ret ?_; simp [hk0, hk2, r1, r2, wk]) | (refine awp_exit ?_; simp [hk0, hk2, r1, r2, wk]))))
                  simp only [hn1]
                  refine deleteMail (cs := cs) (xs := hold) (by simp) hn1 (by omega) (by omega) (by omega) (by rw [List.drop_zero, ← hn1]; exact i7) (by omega) (by omega) (fun cs' z1 z2 z3 => ?_)
                  have z2' := fun f => z2 f (i6 f)
                  ((try simp [x0, x6, tx, u1, u2, ut, xk7, xwi, hOt, hno, hml, hml1, hOl]); (repeat' (first | refine awp_seq ?_ | (refine awp_region tabOk ?_; simp [x0, x6, tx, u1, u2, ut, xk7, xwi, hOt, hno, hml, hml1, hOl]) | (refine awp_if ?_; simp [x0, x6, tx, u1, u2, ut, xk7, xwi, hOt, hno, hml, hml1, hOl]) | refine awp_block ?_ | refine And.intro ?_ ?_ | intro _ | (refine awp_skip ?_; simp [x0, x6, tx, u1, u2, ut, xk7, xwi, hOt, hno, hml, hml1, hOl]) | (refine awp_ret ?_; simp [x0, x6, tx, u1, u2, ut, xk7, xwi, hOt, hno, hml, hml1, hOl]) | (refine awp_exit ?_; simp [x0, x6, tx, u1, u2, ut, xk7, xwi, hOt, hno, hml, hml1, hOl]))))
                  rw [List.drop_zero] at z3
                  refine ⟨bump s x.k, hold.eraseIdx k, by omega, out ++ [x], cs', ⟨xsb, fun y hy => i2 y (List.mem_of_mem_eraseIdx hy), by omega, by rw [List.length_append, hel]; simp; omega, by omega, z2', by rw [hel]; exact z3, i8.trans (runM_step hx hpx hpre)⟩, ?_⟩
                  exact wk_gcl [0, 1, 2, 3, 7] (gcOk_of (by decide) (by simp [z2', hOr, hel, ← hO, zero_caC])) (by simp)
              · by_cases h40 : xs.length = 40
                · rw [hear_full hnl hrd h40] at q3
                  have h40' : (xs.length : Int) = 40 := by omega
                  ((try simp [hrd, h40']); (repeat' (first | refine awp_seq ?_ | (refine awp_region tabOk ?_; simp [hrd, h40']) | (refine awp_if ?_; simp [hrd, h40']) | refine awp_block ?_ | refine And.intro ?_ ?_ | intro _ | (refine awp_skip ?_; simp [hrd, h40']) | (refine awp_ret ?_; simp [hrd, h40']) | (refine awp_exit ?_; simp [hrd, h40']))))
                  have := q3 .nils .nils [] msl_nil msl_nil
                  rw [List.append_nil] at this
                  exact ⟨H, _, gcTo_none (fun _ => rfl), this⟩
                · rw [hear_hold hnl hrd h40] at q3
                  have h40' : ¬(xs.length : Int) = 40 := by omega
                  have hml : (xs.length + 1) * 72 ≤ 140737488355328 := by omega
                  have hml1 : xs.length + 1 ≤ maxLen := by simp only [maxLen]; omega
                  have hno : ¬xs.length + 1 ≤ xs.length := by omega
                  ((try simp [hrd, h40', hCt, hno, hml, hml1, hCl]); (repeat' (first | refine awp_seq ?_ | (refine awp_region tabOk ?_; simp [hrd, h40', hCt, hno, hml, hml1, hCl]) | (refine awp_if ?_; simp [hrd, h40', hCt, hno, hml, hml1, hCl]) | refine awp_block ?_ | refine And.intro ?_ ?_ | intro _ | (refine awp_skip ?_; simp [hrd, h40', hCt, hno, hml, hml1, hCl]) | (refine awp_ret ?_; simp [hrd, h40', hCt, hno, hml, hml1, hCl]) | (refine awp_exit ?_; simp [hrd, h40', hCt, hno, hml, hml1, hCl]))))
                  refine ⟨H ++ [.own (C ++ m.enc)], .tup [.agg (caC me seen (.sl H.length 0 8 (xs.length + 1) (xs.length + 1))), .sc .nils, .sc (.int .i64 0)], gcTo_std [5] (gcOk_of (by decide) (by simp [hCr])) (by simp), ?_⟩
                  have hl1 : (xs ++ [m]).length = xs.length + 1 := by simp
                  have := GSl.ownC (H := H ++ [.own (C ++ m.enc)]) (id := H.length) (cap := xs.length + 1) (cs := C ++ m.enc) (xs := xs ++ [m]) (enc := Ma.enc) (es := 8) mlen (by simp) (by rw [hl1, List.take_of_length_le (by simp [hCl]; omega), hC]; simp) (by omega) (by simp [hCl]; omega)
                  rw [hl1] at this
                  exact q3 _ _ _ this msl_nil
    · ((try simp [hR, zero_caC]); (repeat' (first | refine awp_seq ?_ | (refine awp_region tabOk ?_; simp [hR, zero_caC]) | (refine awp_if ?_; simp [hR, zero_caC]) | refine awp_block ?_ | refine And.intro ?_ ?_ | intro _ | (refine awp_skip ?_; simp [hR, zero_caC]) | (refine awp_ret ?_; simp [hR, zero_caC]) | (refine awp_exit ?_; simp [hR, zero_caC]))))
      exact ⟨H, _, gcTo_none (fun _ => rfl), q1 he hR⟩
  · ((try simp [he, zero_caC]); (repeat' (first | refine awp_seq ?_ | (refine awp_region tabOk ?_; simp [he, zero_caC]) | (refine awp_if ?_; simp [he, zero_caC]) | refine awp_block ?_ | refine And.intro ?_ ?_ | intro _ | (refine awp_skip ?_; simp [he, zero_caC]) | (refine awp_ret ?_; simp [he, zero_caC]) | (refine awp_exit ?_; simp [he, zero_caC]))))
    exact ⟨H, _, gcTo_none (fun _ => rfl), q0 he⟩
end Go.Proofs.Ytdeockoaalpcjaa
