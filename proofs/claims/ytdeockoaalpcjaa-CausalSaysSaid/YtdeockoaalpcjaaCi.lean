/- CausalSays: partref.HearMail. Printed by gen_hm.py. -/
import Derived.Test.YtdeockoaalpcjaaCh
namespace Go.Proofs.Ytdeockoaalpcjaa
set_option linter.unusedSimpArgs false
set_option linter.unusedVariables false
open Go.RowKit
attribute [local irreducible] AWP ACalls Wk GcTo
attribute [local simp] tab3 ti3 tab4 ti4 tab38 ti38 tab86 ti86 tab88 ti88 tab84 ti84 tab24 ti24 tab9 ti9 tab22 ti22
theorem cloneNils {H : List Blk} {Q : AV → List Blk → Prop} (q : Q (.c (.sc .nils)) H) : ACalls Try.prog 118 [.sc .nils] H Q := by
  refine acalls_of tabOk Try.func118 (by kernel_rfl) rfl (by kernel_rfl) ?_
  (repeat' (first | refine awp_seq ?_ | (refine awp_region tabOk ?_; simp) | (refine awp_if ?_; simp) | refine awp_block ?_ | refine And.intro ?_ ?_ | intro _ | (refine awp_skip ?_; simp) | (refine awp_ret ?_; simp) | (refine awp_exit ?_; simp)))
  exact ⟨_, _, GcTo.refl (by simp), q⟩
theorem cloneSle {H : List Blk} {Q : AV → List Blk → Prop} (q : Q (.c (.sc .sle)) H) : ACalls Try.prog 118 [.sc .sle] H Q := by
  refine acalls_of tabOk Try.func118 (by kernel_rfl) rfl (by kernel_rfl) ?_
  (repeat' (first | refine awp_seq ?_ | (refine awp_region tabOk ?_; simp [maxLen]) | (refine awp_if ?_; simp [maxLen]) | refine awp_block ?_ | refine And.intro ?_ ?_ | intro _ | (refine awp_skip ?_; simp [maxLen]) | (refine awp_ret ?_; simp [maxLen]) | (refine awp_exit ?_; simp [maxLen])))
  exact ⟨_, _, GcTo.refl (by simp), q⟩
theorem twinM_all (xs : List Ma) (m : Ma) : twinM xs xs.length m = xs.any fun x => decide (x.Sm m) := by unfold twinM; rw [List.take_length]
theorem erase_last (xs : List Ma) (m : Ma) : (xs ++ [m]).eraseIdx xs.length = xs := by
  rw [List.eraseIdx_append_of_length_le (Nat.le_refl _)]; simp
set_option maxRecDepth 100000 in
set_option maxHeartbeats 8000000 in
theorem refHear {H : List Blk} {me : Int} {seen : Nat → Int} {a : Sc} {xs : List Ma} {m : Ma} {Q : AV → List Blk → Prop} (ha : MSl H a xs) (hxR : ∀ x ∈ xs, x.Rt ∧ x.wf) (hmw : m.wf) (hR : m.Rt) (hsb : Sb seen) (g4 : xs.length ≤ 40)
    (q3 : ∀ b c L, MSl (H ++ L) b (hearR me seen xs m).hold → MSl (H ++ L) c (hearR me seen xs m).out → Q (.tup [.agg (caC (hearR me seen xs m).me (hearR me seen xs m).seen b), .sc c, .sc (.int .i64 (hearR me seen xs m).e)]) (H ++ L)) :
    ACalls Try.prog 57 [.agg (caC me seen a), .agg m.enc] H Q := by
  refine acalls_of tabOk Try.func57 (by kernel_rfl) rfl (by kernel_rfl) ?_
  have hra := ha.ren
  obtain ⟨hk, hkm⟩ := hR.k6
  have h0 := hR.1
  have h6 : m.src < 6 := by have := hR.2.1; omega
  have t : m.src.toNat = m.k := rfl
  have a1 := m.at_at hk
  have s1 := fun c => caC_seen me seen c hk
  obtain ⟨_, a2⟩ := List.getElem?_eq_some_iff.1 a1
  have s2 : ∀ c (h : 1 + m.k < (caC me seen c).length), (caC me seen c)[1 + m.k] = .int .i64 (seen m.k) := fun c h => (List.getElem?_eq_some_iff.1 (s1 c)).2
  have st : ∀ c, (caC me seen c).set (1 + m.k) (.int .i64 (seen m.k + 1)) = caC me (bump seen m.k) c := fun c => caC_setS me seen c hk _
  have hk7 : 1 + m.k ≤ 7 := by omega
  (repeat' (first | refine awp_seq ?_ | (refine awp_region tabOk ?_; simp) | (refine awp_if ?_; simp) | refine awp_block ?_ | refine And.intro ?_ ?_ | intro _ | (refine awp_skip ?_; simp) | (refine awp_ret ?_; simp) | (refine awp_exit ?_; simp)))
  refine cloneMail (ha.app _) (by omega) (fun b h1 h2 => ?_) (fun h1 => ?_)
  · subst h1
    rcases h2 with rfl | rfl
    · have hb : MSl H .nils [] := .inl ⟨rfl, .inl rfl⟩
      ((try simp); (repeat' (first | refine awp_seq ?_ | (refine awp_region tabOk ?_; simp) | (refine awp_if ?_; simp) | refine awp_block ?_ | refine And.intro ?_ ?_ | intro _ | (refine awp_skip ?_; simp) | (refine awp_ret ?_; simp) | (refine awp_exit ?_; simp))))
      refine awp_draw tabOk mixed [] (by kernel_rfl) ?_
      by_cases hme : m.src = me
      · simp [hR, hme, h0, h6, t, a1, a2, s1, s2]
        refine ⟨.sc (.bool false), ?_⟩
        rw [hear_late (.inl hme)] at q3
        (repeat' (first | refine awp_seq ?_ | (refine awp_region tabOk ?_; simp) | (refine awp_if ?_; simp) | refine awp_block ?_ | refine And.intro ?_ ?_ | intro _ | (refine awp_skip ?_; simp) | (refine awp_ret ?_; simp) | (refine awp_exit ?_; simp)))
        refine ⟨H, _, gcTo_none (fun _ => rfl), ?_⟩
        have := q3 .nils .nils [] (.inl ⟨rfl, .inl rfl⟩) (msl_nil)
        rw [List.append_nil] at this
        exact this
      · by_cases hle : m.at_ m.k ≤ seen m.k
        · simp [hR, hme, h0, h6, t, a1, a2, s1, s2, hle]
          refine ⟨.sc (.bool false), ?_⟩
          rw [hear_late (.inr (.inl hle))] at q3
          (repeat' (first | refine awp_seq ?_ | (refine awp_region tabOk ?_; simp) | (refine awp_if ?_; simp) | refine awp_block ?_ | refine And.intro ?_ ?_ | intro _ | (refine awp_skip ?_; simp) | (refine awp_ret ?_; simp) | (refine awp_exit ?_; simp)))
          refine ⟨H, _, gcTo_none (fun _ => rfl), ?_⟩
          have := q3 .nils .nils [] (.inl ⟨rfl, .inl rfl⟩) (msl_nil)
          rw [List.append_nil] at this
          exact this
        · simp [hR, hme, h0, h6, t, a1, a2, s1, s2, hle]
          refine ⟨_, containsMail (xs := []) (p := fun x => decide (x.Sm m)) (.inl ⟨rfl, .inl rfl⟩) (by simp) (fun x hx Q q => hearMail1 (m := m) (by simp) ⟨(hxR x hx).1.1, (hxR x hx).1.2.1⟩ q) ⟨rfl, rfl⟩, ?_⟩
          rw [← twinM_all]
          cases hnt : twinM [] ([] : List Ma).length m with
          | true =>
            rw [hear_late (.inr (.inr hnt))] at q3
            (repeat' (first | refine awp_seq ?_ | (refine awp_region tabOk ?_; simp) | (refine awp_if ?_; simp) | refine awp_block ?_ | refine And.intro ?_ ?_ | intro _ | (refine awp_skip ?_; simp) | (refine awp_ret ?_; simp) | (refine awp_exit ?_; simp)))
            refine ⟨H, _, gcTo_none (fun _ => rfl), ?_⟩
            have := q3 .nils .nils [] (.inl ⟨rfl, .inl rfl⟩) (msl_nil)
            rw [List.append_nil] at this
            exact this
          | false =>
            have hnl : ¬(m.src = me ∨ m.at_ m.k ≤ seen m.k ∨ twinM [] ([] : List Ma).length m = true) := by
              rintro (h | h | h)
              · exact hme h
              · exact hle h
              · rw [hnt] at h; cases h
            (repeat' (first | refine awp_seq ?_ | (refine awp_region tabOk ?_; simp) | (refine awp_if ?_; simp) | refine awp_block ?_ | refine And.intro ?_ ?_ | intro _ | (refine awp_skip ?_; simp) | (refine awp_ret ?_; simp) | (refine awp_exit ?_; simp)))
            refine awp_draw tabOk mixed [] (by kernel_rfl) ?_
            simp
            refine ⟨_, [], cloneNils ⟨rfl, by simp⟩, by simp, ?_⟩
            simp [maxLen]
            (repeat' (first | refine awp_seq ?_ | (refine awp_region tabOk ?_; simp [maxLen]) | (refine awp_if ?_; simp [maxLen]) | refine awp_block ?_ | refine And.intro ?_ ?_ | intro _ | (refine awp_skip ?_; simp [maxLen]) | (refine awp_ret ?_; simp [maxLen]) | (refine awp_exit ?_; simp [maxLen])))
            refine mailReady hR hmw hsb ?_
            by_cases hrd : m.Rd seen
            · rw [hear_ready hnl hrd] at q3
              have wi := bump_wrap hsb hrd hmw hR
              have hsb2 := hsb.bump hrd hmw hR
              have hwm : IntKind.i64.wrap ((0 : Int) + 1 - 1) = (0 : Int) := by rw [Int.add_sub_cancel]; exact wrap_in _ (by omega) (by omega)
              have hwm2 : IntKind.i64.wrap (0 : Int) = (0 : Int) := wrap_in _ (by omega) (by omega)
              ((try simp [hrd, hwm]); (repeat' (first | refine awp_seq ?_ | (refine awp_region tabOk ?_; simp [hrd, hwm]) | (refine awp_if ?_; simp [hrd, hwm]) | refine awp_block ?_ | refine And.intro ?_ ?_ | intro _ | (refine awp_skip ?_; simp [hrd, hwm]) | (refine awp_ret ?_; simp [hrd, hwm]) | (refine awp_exit ?_; simp [hrd, hwm]))))
              refine awp_loop_at (α := {r : (Nat → Int) × List Ma × List Ma × List Sc × Int // Sb r.1 ∧ (∀ x ∈ r.2.1, x.Rt ∧ x.wf) ∧ r.2.1.length ≤ 1 ∧ r.2.2.1.length + r.2.1.length = 1 ∧ r.2.2.2.1.length = (1) * 8 ∧ (∀ f : Nat → Nat, r.2.2.2.1.map (renS f) = r.2.2.2.1) ∧
                  r.2.2.2.1.take (r.2.1.length * 8) = r.2.1.flatMap Ma.enc ∧ ((r.2.2.2.2 = -1 ∧ ¬r.2.2.1 = [] ∧ runM ([] : List Ma).length (bump seen m.k) [] [m] = (r.1, r.2.1, r.2.2.1)) ∨
                  ∃ (k : Nat) (x : Ma), r.2.2.2.2 = k ∧ r.2.1[k]? = some x ∧ x.Rd r.1 ∧ runM ([] : List Ma).length (bump seen m.k) [] [m] = runM (r.2.1.eraseIdx k).length (bump r.1 x.k) (r.2.1.eraseIdx k) (r.2.2.1 ++ [x]))})
                (fun r => [(2, .c (.sc (.ptr H.length 0))), (4, .c (.sc (.ptr (H.length + 2) 0))), (7, .c (.sc (.sl (H.length + 3) 0 8 r.1.2.1.length (1)))), (8, .c (.sc (gV 8 (H.length + 4) r.1.2.2.1))), (9, .c (.sc (.int .i64 r.1.2.2.2.2)))])
                (fun r => H ++ [.own (caC me r.1.1 (.nils)), .own m.enc, .own (caC 0 (fun _ => 0) .nils), .own r.1.2.2.2.1, gB Ma.enc r.1.2.2.1]) (fun r => r.1.2.1.length)
                ⟨(seen, [] ++ [m], [], m.enc, 0), hsb, fun x hx => by
                  rcases List.mem_append.1 hx with h | h
                  · exact hxR x h
                  · rw [List.mem_singleton] at h; subst h; exact ⟨hR, hmw⟩, by simp, by simp, by simp [mlen], by simp [Ma.ren_enc], by simp, .inr ⟨([] : List Ma).length, m, rfl, by simp, hrd, by simp only [erase_last]; rfl⟩⟩ (wk_gcl [0, 1, 2, 4, 9] (gcOk_of (by decide) (by simp [zero_caC, Ma.ren_enc])) (by simp [hwm2])) ?_
              rintro ⟨⟨s, all, told, cs, kk⟩, i1, i2, i3, i4, i5, i6, i7, i8⟩
              simp only at i1 i2 i3 i4 i5 i6 i7 i8
              rcases i8 with ⟨rfl, htn, i8⟩ | ⟨k, x, rfl, hx, hrx, i8⟩
              · rw [i8] at q3
                have hV := gV_ne (es := 8) (id := H.length + 4) (xs := told) (by simpa using htn)
                have hB := gB_ne (enc := Ma.enc) (xs := told) (by simpa using htn)
                have hOl : (told.flatMap Ma.enc).length = told.length * 8 := flat_len mlen _
                have hOr : ∀ f : Nat → Nat, (told.flatMap Ma.enc).map (renS f) = told.flatMap Ma.enc := fun f => Ma_ren f told
                have hOt : (told.flatMap Ma.enc).take (told.length * 8) = told.flatMap Ma.enc := flat_all mlen _ rfl
                obtain ⟨O, hO⟩ : ∃ O, O = told.flatMap Ma.enc := ⟨_, rfl⟩
                rw [← hO] at hOl hOr hOt hB
                simp only [hV, hB]
                (repeat' (first | refine awp_seq ?_ | (refine awp_region tabOk ?_; simp [zero_caC]) | (refine awp_if ?_; simp [zero_caC]) | refine awp_block ?_ | refine And.intro ?_ ?_ | intro _ | (refine awp_skip ?_; simp [zero_caC]) | (refine awp_ret ?_; simp [zero_caC]) | (refine awp_exit ?_; simp [zero_caC])))
                refine awp_loop_at (α := {i : Nat // i ≤ all.length}) (fun i => [(2, .c (.sc (.ptr H.length 0))), (4, .c (.sc (.ptr (H.length + 2) 0))), (8, .c (.sc (.sl (H.length + 4) 0 8 told.length told.length))), (90, .c (.sc (.sl (H.length + 3) 0 8 all.length (1)))), (91, .c (.sc (.int .i64 all.length))), (92, .c (.sc (.int .i64 i.1)))])
                  (fun i => H ++ [.own (caC me s (gV 8 (H.length + 5) ((all.take i.1).filter fun x => !lateM s x))), .own m.enc, .own (caC 0 (fun _ => 0) .nils), .own cs, .own O, gB Ma.enc ((all.take i.1).filter fun x => !lateM s x)]) (fun i => all.length - i.1) ⟨0, by omega⟩ (wk_gcl [0, 1, 2, 3, 4, 9] (gcOk_of (by decide) (by simp [i6, hOr, zero_caC])) (by simp)) ?_
                rintro ⟨i, hi⟩
                simp only
                by_cases hlt : i < all.length
                · obtain ⟨x, hx⟩ : ∃ x, all[i]? = some x := ⟨all[i], List.getElem?_eq_getElem hlt⟩
                  have wi := wrapS i (by omega)
                  have row := gsl_row (off := 0) (cs := cs) mlen (by omega) (by rw [List.drop_zero]; exact i7) hx
                  rw [Nat.zero_add] at row
                  obtain ⟨r1, r2⟩ := row
                  obtain ⟨xR, xw⟩ := i2 x (List.mem_of_getElem? hx)
                  obtain ⟨xk, xkm⟩ := xR.k6
                  have x0 := xR.1
                  have x6 : x.src < 6 := by have := xR.2.1; omega
                  have tx : x.src.toNat = x.k := rfl
                  have u1 := fun c => caC_seen me s c xk
                  have u2 : ∀ c (h : 1 + x.k < (caC me s c).length), (caC me s c)[1 + x.k] = .int .i64 (s x.k) := fun c h => (List.getElem?_eq_some_iff.1 (u1 c)).2
                  have b1 := x.at_at xk
                  obtain ⟨_, b2⟩ := List.getElem?_eq_some_iff.1 b1
                  have hft : (all.take (i + 1)).filter (fun x => !lateM s x) = (all.take i).filter (fun x => !lateM s x) ++ if lateM s x then [] else [x] := by
                    rw [take_snoc hx, List.filter_append]; cases h : lateM s x <;> simp [h]
                  have hWl : ((all.take i).filter fun x => !lateM s x).length ≤ i := Nat.le_trans (List.length_filter_le _ _) (by rw [List.length_take]; omega)
                  obtain ⟨W, hW⟩ : ∃ W, W = (all.take i).filter fun x => !lateM s x := ⟨_, rfl⟩
                  rw [← hW] at hft hWl
                  rw [← hW]
                  (repeat' (first | refine awp_seq ?_ | (refine awp_region tabOk ?_; simp [hlt, r1, r2]) | (refine awp_if ?_; simp [hlt, r1, r2]) | refine awp_block ?_ | refine And.intro ?_ ?_ | intro _ | (refine awp_skip ?_; simp [hlt, r1, r2]) | (refine awp_ret ?_; simp [hlt, r1, r2]) | (refine awp_exit ?_; simp [hlt, r1, r2])))
                  refine awp_draw tabOk mixed [] (by kernel_rfl) ?_
                  by_cases hla : x.at_ x.k ≤ s x.k
                  · have hl2 : lateM s x = true := decide_eq_true hla
                    have hla2 : ¬s x.k < x.at_ x.k := by omega
                    rw [hl2, if_pos rfl, List.append_nil] at hft
                    simp [x0, x6, tx, u1, u2, b1, b2, hla2]
                    (repeat' (first | refine awp_seq ?_ | (refine awp_region tabOk ?_; simp [wi]) | (refine awp_if ?_; simp [wi]) | refine awp_block ?_ | refine And.intro ?_ ?_ | intro _ | (refine awp_skip ?_; simp [wi]) | (refine awp_ret ?_; simp [wi]) | (refine awp_exit ?_; simp [wi])))
                    refine ⟨i + 1, by omega, by omega, ?_⟩
                    rw [hft]
                    exact wk_gcl [0, 1, 2, 3, 4, 5] (gcOk_of (by decide) (by simp [i6, hOr, zero_caC]; exact .inr (ren_gB (fun _ => rfl) _).symm)) (by simp [wi])
                  · have hl2 : lateM s x = false := decide_eq_false hla
                    have hla2 : s x.k < x.at_ x.k := by omega
                    rw [hl2, if_neg (by simp)] at hft
                    simp [x0, x6, tx, u1, u2, b1, b2, hla2]
                    by_cases hW0 : W = []
                    · rw [hW0] at hft ⊢
                      (repeat' (first | refine awp_seq ?_ | (refine awp_region tabOk ?_; simp [maxLen, wi]) | (refine awp_if ?_; simp [maxLen, wi]) | refine awp_block ?_ | refine And.intro ?_ ?_ | intro _ | (refine awp_skip ?_; simp [maxLen, wi]) | (refine awp_ret ?_; simp [maxLen, wi]) | (refine awp_exit ?_; simp [maxLen, wi])))
                      refine ⟨i + 1, by omega, by omega, ?_⟩
                      rw [hft]
                      exact wk_gcl [0, 1, 2, 3, 4, 8] (gcOk_of (by decide) (by simp [i6, hOr, zero_caC, gB_cons])) (by simp [wi])
                    · have hV2 := gV_ne (es := 8) (id := H.length + 5) (xs := W) (by simpa using hW0)
                      have hB2 := gB_ne (enc := Ma.enc) (xs := W) (by simpa using hW0)
                      have hWL : (W.flatMap Ma.enc).length = W.length * 8 := flat_len mlen _
                      have hWr : ∀ f : Nat → Nat, (W.flatMap Ma.enc).map (renS f) = W.flatMap Ma.enc := fun f => Ma_ren f W
                      have hWt : (W.flatMap Ma.enc).take (W.length * 8) = W.flatMap Ma.enc := flat_all mlen _ rfl
                      have hsn : gB Ma.enc (W ++ [x]) = _ := gB_snoc W x
                      obtain ⟨V, hVV⟩ : ∃ V, V = W.flatMap Ma.enc := ⟨_, rfl⟩
                      rw [← hVV] at hWL hWr hWt hB2 hsn
                      have kml : (W.length + 1) * 72 ≤ 140737488355328 := by omega
                      have kml1 : W.length + 1 ≤ 9223372036854775807 := by omega
                      have kno : ¬W.length + 1 ≤ W.length := by omega
                      simp only [hV2, hB2]
                      (repeat' (first | refine awp_seq ?_ | (refine awp_region tabOk ?_; simp [wi, hWL, hWt, kml, kml1, kno, maxLen]) | (refine awp_if ?_; simp [wi, hWL, hWt, kml, kml1, kno, maxLen]) | refine awp_block ?_ | refine And.intro ?_ ?_ | intro _ | (refine awp_skip ?_; simp [wi, hWL, hWt, kml, kml1, kno, maxLen]) | (refine awp_ret ?_; simp [wi, hWL, hWt, kml, kml1, kno, maxLen]) | (refine awp_exit ?_; simp [wi, hWL, hWt, kml, kml1, kno, maxLen])))
                      refine ⟨i + 1, by omega, by omega, ?_⟩
                      rw [hft]
                      exact wk_gcl [0, 1, 2, 3, 4, 8] (gcOk_of (by decide) (by simp [i6, hOr, zero_caC, hsn, hWr, gV_snoc])) (by simp [wi])
                · obtain rfl : i = all.length := by omega
                  rw [List.take_length]
                  have q4 : ∀ b c L, MSl (H ++ L) b (all.filter fun x => !lateM s x) → MSl (H ++ L) c told → Q (.tup [.agg (caC me s b), .sc c, .sc (.int .i64 0)]) (H ++ L) := q3
                  have hfl := List.length_filter_le (fun x => !lateM s x) all
                  obtain ⟨W, hW⟩ : ∃ W, W = all.filter fun x => !lateM s x := ⟨_, rfl⟩
                  rw [← hW] at q4 hfl ⊢
                  by_cases hW0 : W = []
                  · rw [hW0] at q4 ⊢
                    (repeat' (first | refine awp_seq ?_ | (refine awp_region tabOk ?_; simp) | (refine awp_if ?_; simp) | refine awp_block ?_ | refine And.intro ?_ ?_ | intro _ | (refine awp_skip ?_; simp) | (refine awp_ret ?_; simp) | (refine awp_exit ?_; simp)))
                    refine ⟨H ++ [.own O], .tup [.agg (caC me s .nils), .sc (.sl H.length 0 8 told.length told.length), .sc (.int .i64 0)], gcTo_std [4] (gcOk_of (by decide) (by simp [hOr])) (by simp), ?_⟩
                    exact q4 _ _ [.own O] msl_nil (GSl.ownC (cs := O) mlen (by simp) (by rw [hOt, hO]) (Nat.le_refl _) (by rw [hOl]; exact Nat.le_refl _))
                  · have hV2 := gV_ne (es := 8) (id := H.length + 5) (xs := W) (by simpa using hW0)
                    have hB2 := gB_ne (enc := Ma.enc) (xs := W) (by simpa using hW0)
                    have hWr : ∀ f : Nat → Nat, (W.flatMap Ma.enc).map (renS f) = W.flatMap Ma.enc := fun f => Ma_ren f W
                    simp only [hV2, hB2]
                    (repeat' (first | refine awp_seq ?_ | (refine awp_region tabOk ?_; simp) | (refine awp_if ?_; simp) | refine awp_block ?_ | refine And.intro ?_ ?_ | intro _ | (refine awp_skip ?_; simp) | (refine awp_ret ?_; simp) | (refine awp_exit ?_; simp)))
                    refine ⟨H ++ [.own O, .own (W.flatMap Ma.enc)], .tup [.agg (caC me s (.sl (H.length + 1) 0 8 W.length W.length)), .sc (.sl H.length 0 8 told.length told.length), .sc (.int .i64 0)], gcTo_std [4, 5] (gcOk_of (by decide) (by simp [hOr, hWr])) (by simp), ?_⟩
                    exact q4 _ _ [.own O, .own (W.flatMap Ma.enc)] (GSl.ownC (cs := W.flatMap Ma.enc) mlen (by simp) (by rw [flat_all mlen _ rfl]) (Nat.le_refl _) (by rw [flat_len mlen]; exact Nat.le_refl _)) (GSl.ownC (cs := O) mlen (by simp) (by rw [hOt, hO]) (Nat.le_refl _) (by rw [hOl]; exact Nat.le_refl _))
              · have hk2 : k < all.length := (List.getElem?_eq_some_iff.1 hx).1
                have hk0 : (0 : Int) ≤ k := by omega
                have wk := wrapS k (by omega)
                have row := gsl_row (off := 0) (cs := cs) mlen (by omega) (by rw [List.drop_zero]; exact i7) hx
                rw [Nat.zero_add] at row
                obtain ⟨r1, r2⟩ := row
                obtain ⟨xR, xw⟩ := i2 x (List.mem_of_getElem? hx)
                obtain ⟨xk, xkm⟩ := xR.k6
                have x0 := xR.1
                have x6 : x.src < 6 := by have := xR.2.1; omega
                have tx : x.src.toNat = x.k := rfl
                have u1 := fun c => caC_seen me s c xk
                have u2 : ∀ c (h : 1 + x.k < (caC me s c).length), (caC me s c)[1 + x.k] = .int .i64 (s x.k) := fun c h => (List.getElem?_eq_some_iff.1 (u1 c)).2
                have ut : ∀ c, (caC me s c).set (1 + x.k) (.int .i64 (s x.k + 1)) = caC me (bump s x.k) c := fun c => caC_setS me s c xk _
                have xk7 : 1 + x.k ≤ 7 := by omega
                have xwi := bump_wrap i1 hrx xw xR
                have xsb := i1.bump hrx xw xR
                have kml : (told.length + 1) * 72 ≤ 140737488355328 := by omega
                have kml1 : told.length + 1 ≤ 9223372036854775807 := by omega
                have kno : ¬told.length + 1 ≤ told.length := by omega
                obtain ⟨n1, hn1⟩ : ∃ n1, all.length = n1 + 1 := ⟨all.length - 1, by omega⟩
                have hel : (all.eraseIdx k).length = n1 := by rw [List.length_eraseIdx_of_lt hk2]; omega
                have hal : (told ++ [x]).length + (all.eraseIdx k).length = 1 := by rw [hel, List.length_append, List.length_singleton]; omega
                by_cases htn : told = []
                · subst htn
                  (repeat' (first | refine awp_seq ?_ | (refine awp_region tabOk ?_; simp [hk0, hk2, r1, r2, x0, x6, tx, u1, u2, ut, xk7, xwi, wk, maxLen]) | (refine awp_if ?_; simp [hk0, hk2, r1, r2, x0, x6, tx, u1, u2, ut, xk7, xwi, wk, maxLen]) | refine awp_block ?_ | refine And.intro ?_ ?_ | intro _ | (refine awp_skip ?_; simp [hk0, hk2, r1, r2, x0, x6, tx, u1, u2, ut, xk7, xwi, wk, maxLen]) | (refine awp_ret ?_; simp [hk0, hk2, r1, r2, x0, x6, tx, u1, u2, ut, xk7, xwi, wk, maxLen]) | (refine awp_exit ?_; simp [hk0, hk2, r1, r2, x0, x6, tx, u1, u2, ut, xk7, xwi, wk, maxLen])))
                  simp only [hn1]
                  refine deleteMail (cs := cs) (xs := all) (by simp) hn1 (by omega) (by omega) (by omega) (by rw [List.drop_zero, ← hn1]; exact i7) (by omega) (by omega) (fun cs' z1 z2 z3 => ?_)
                  have z2' := fun f => z2 f (i6 f)
                  rw [List.drop_zero] at z3
                  ((try simp); (repeat' (first | refine awp_seq ?_ | (refine awp_region tabOk ?_; simp) | (refine awp_if ?_; simp) | refine awp_block ?_ | refine And.intro ?_ ?_ | intro _ | (refine awp_skip ?_; simp) | (refine awp_ret ?_; simp) | (refine awp_exit ?_; simp))))
                  refine indexMail (xs := all.eraseIdx k) (p := fun y => decide (y.Rd (bump s x.k))) (by rw [← hel]; exact GSl.ownC (cs := cs') mlen (by simp) (by rw [hel]; exact z3) (by omega) (by omega)) (by omega) (fun y hy Q q => hearMail2 (me := me) (seen := bump s x.k) (a := .nils) (by simp) (i2 y (List.mem_of_mem_eraseIdx hy)).1 (i2 y (List.mem_of_mem_eraseIdx hy)).2 xsb q) (fun hno => ?_) (fun k' x' hx' hp' hb' => ?_)
                  · rw [runM_stop hno] at i8
                    ((try simp); (repeat' (first | refine awp_seq ?_ | (refine awp_region tabOk ?_; simp) | (refine awp_if ?_; simp) | refine awp_block ?_ | refine And.intro ?_ ?_ | intro _ | (refine awp_skip ?_; simp) | (refine awp_ret ?_; simp) | (refine awp_exit ?_; simp))))
                    refine ⟨bump s x.k, all.eraseIdx k, by omega, [] ++ [x], cs', -1, ⟨xsb, fun y hy => i2 y (List.mem_of_mem_eraseIdx hy), by omega, hal, by omega, z2', by rw [hel]; exact z3, .inl ⟨rfl, by simp, i8⟩⟩, ?_⟩
                    exact wk_gcl [0, 1, 2, 3, 7] (gcOk_of (by decide) (by simp [z2', Ma.ren_enc, gB_snoc, gB_cons, gV_snoc, hel, zero_caC])) (by simp [gV_snoc, hel])
                  · rw [runM_step hx' hp' hb'] at i8
                    ((try simp); (repeat' (first | refine awp_seq ?_ | (refine awp_region tabOk ?_; simp) | (refine awp_if ?_; simp) | refine awp_block ?_ | refine And.intro ?_ ?_ | intro _ | (refine awp_skip ?_; simp) | (refine awp_ret ?_; simp) | (refine awp_exit ?_; simp))))
                    refine ⟨bump s x.k, all.eraseIdx k, by omega, [] ++ [x], cs', k', ⟨xsb, fun y hy => i2 y (List.mem_of_mem_eraseIdx hy), by omega, hal, by omega, z2', by rw [hel]; exact z3, .inr ⟨k', rfl, x', hx', of_decide_eq_true hp', i8⟩⟩, ?_⟩
                    exact wk_gcl [0, 1, 2, 3, 7] (gcOk_of (by decide) (by simp [z2', Ma.ren_enc, gB_snoc, gB_cons, gV_snoc, hel, zero_caC])) (by simp [gV_snoc, hel])
                · have hV := gV_ne (es := 8) (id := H.length + 4) (xs := told) (by simpa using htn)
                  have hB := gB_ne (enc := Ma.enc) (xs := told) (by simpa using htn)
                  have hOl : (told.flatMap Ma.enc).length = told.length * 8 := flat_len mlen _
                  have hOr : ∀ f : Nat → Nat, (told.flatMap Ma.enc).map (renS f) = told.flatMap Ma.enc := fun f => Ma_ren f told
                  have hOt : (told.flatMap Ma.enc).take (told.length * 8) = told.flatMap Ma.enc := flat_all mlen _ rfl
                  have hsn : gB Ma.enc (told ++ [x]) = _ := gB_snoc told x
                  obtain ⟨O, hO⟩ : ∃ O, O = told.flatMap Ma.enc := ⟨_, rfl⟩
                  rw [← hO] at hOl hOr hOt hB hsn
                  simp only [hV, hB]
                  (repeat' (first | refine awp_seq ?_ | (refine awp_region tabOk ?_; simp [hk0, hk2, r1, r2, x0, x6, tx, u1, u2, ut, xk7, xwi, wk, hOt, kno, kml, kml1, hOl, maxLen]) | (refine awp_if ?_; simp [hk0, hk2, r1, r2, x0, x6, tx, u1, u2, ut, xk7, xwi, wk, hOt, kno, kml, kml1, hOl, maxLen]) | refine awp_block ?_ | refine And.intro ?_ ?_ | intro _ | (refine awp_skip ?_; simp [hk0, hk2, r1, r2, x0, x6, tx, u1, u2, ut, xk7, xwi, wk, hOt, kno, kml, kml1, hOl, maxLen]) | (refine awp_ret ?_; simp [hk0, hk2, r1, r2, x0, x6, tx, u1, u2, ut, xk7, xwi, wk, hOt, kno, kml, kml1, hOl, maxLen]) | (refine awp_exit ?_; simp [hk0, hk2, r1, r2, x0, x6, tx, u1, u2, ut, xk7, xwi, wk, hOt, kno, kml, kml1, hOl, maxLen])))
                  simp only [hn1]
                  refine deleteMail (cs := cs) (xs := all) (by simp) hn1 (by omega) (by omega) (by omega) (by rw [List.drop_zero, ← hn1]; exact i7) (by omega) (by omega) (fun cs' z1 z2 z3 => ?_)
                  have z2' := fun f => z2 f (i6 f)
                  rw [List.drop_zero] at z3
                  ((try simp); (repeat' (first | refine awp_seq ?_ | (refine awp_region tabOk ?_; simp) | (refine awp_if ?_; simp) | refine awp_block ?_ | refine And.intro ?_ ?_ | intro _ | (refine awp_skip ?_; simp) | (refine awp_ret ?_; simp) | (refine awp_exit ?_; simp))))
                  refine indexMail (xs := all.eraseIdx k) (p := fun y => decide (y.Rd (bump s x.k))) (by rw [← hel]; exact GSl.ownC (cs := cs') mlen (by simp) (by rw [hel]; exact z3) (by omega) (by omega)) (by omega) (fun y hy Q q => hearMail2 (me := me) (seen := bump s x.k) (a := .nils) (by simp) (i2 y (List.mem_of_mem_eraseIdx hy)).1 (i2 y (List.mem_of_mem_eraseIdx hy)).2 xsb q) (fun hno => ?_) (fun k' x' hx' hp' hb' => ?_)
                  · rw [runM_stop hno] at i8
                    ((try simp); (repeat' (first | refine awp_seq ?_ | (refine awp_region tabOk ?_; simp) | (refine awp_if ?_; simp) | refine awp_block ?_ | refine And.intro ?_ ?_ | intro _ | (refine awp_skip ?_; simp) | (refine awp_ret ?_; simp) | (refine awp_exit ?_; simp))))
                    refine ⟨bump s x.k, all.eraseIdx k, by omega, told ++ [x], cs', -1, ⟨xsb, fun y hy => i2 y (List.mem_of_mem_eraseIdx hy), by omega, hal, by omega, z2', by rw [hel]; exact z3, .inl ⟨rfl, by simp, i8⟩⟩, ?_⟩
                    exact wk_gcl [0, 1, 2, 3, 7] (gcOk_of (by decide) (by simp [z2', Ma.ren_enc, hsn, hOr, gV_snoc, hel, zero_caC])) (by simp [gV_snoc, hel])
                  · rw [runM_step hx' hp' hb'] at i8
                    ((try simp); (repeat' (first | refine awp_seq ?_ | (refine awp_region tabOk ?_; simp) | (refine awp_if ?_; simp) | refine awp_block ?_ | refine And.intro ?_ ?_ | intro _ | (refine awp_skip ?_; simp) | (refine awp_ret ?_; simp) | (refine awp_exit ?_; simp))))
                    refine ⟨bump s x.k, all.eraseIdx k, by omega, told ++ [x], cs', k', ⟨xsb, fun y hy => i2 y (List.mem_of_mem_eraseIdx hy), by omega, hal, by omega, z2', by rw [hel]; exact z3, .inr ⟨k', rfl, x', hx', of_decide_eq_true hp', i8⟩⟩, ?_⟩
                    exact wk_gcl [0, 1, 2, 3, 7] (gcOk_of (by decide) (by simp [z2', Ma.ren_enc, hsn, hOr, gV_snoc, hel, zero_caC])) (by simp [gV_snoc, hel])
            · rw [hear_hold hnl hrd (by simp)] at q3
              ((try simp [hrd]); (repeat' (first | refine awp_seq ?_ | (refine awp_region tabOk ?_; simp [hrd]) | (refine awp_if ?_; simp [hrd]) | refine awp_block ?_ | refine And.intro ?_ ?_ | intro _ | (refine awp_skip ?_; simp [hrd]) | (refine awp_ret ?_; simp [hrd]) | (refine awp_exit ?_; simp [hrd]))))
              refine ⟨H ++ [.own m.enc], .tup [.agg (caC me seen (.sl H.length 0 8 1 1)), .sc .nils, .sc (.int .i64 0)], gcTo_std [4] (gcOk_of (by decide) (by simp)) (by simp), ?_⟩
              exact q3 _ _ _ (GSl.ownC (cs := m.enc) mlen (by simp) (by simp) (Nat.le_refl _) (by simp)) msl_nil
    · have hb : MSl H .sle [] := .inl ⟨rfl, .inr rfl⟩
      ((try simp); (repeat' (first | refine awp_seq ?_ | (refine awp_region tabOk ?_; simp) | (refine awp_if ?_; simp) | refine awp_block ?_ | refine And.intro ?_ ?_ | intro _ | (refine awp_skip ?_; simp) | (refine awp_ret ?_; simp) | (refine awp_exit ?_; simp))))
      refine awp_draw tabOk mixed [] (by kernel_rfl) ?_
      by_cases hme : m.src = me
      · simp [hR, hme, h0, h6, t, a1, a2, s1, s2]
        refine ⟨.sc (.bool false), ?_⟩
        rw [hear_late (.inl hme)] at q3
        (repeat' (first | refine awp_seq ?_ | (refine awp_region tabOk ?_; simp) | (refine awp_if ?_; simp) | refine awp_block ?_ | refine And.intro ?_ ?_ | intro _ | (refine awp_skip ?_; simp) | (refine awp_ret ?_; simp) | (refine awp_exit ?_; simp)))
        refine ⟨H, _, gcTo_none (fun _ => rfl), ?_⟩
        have := q3 .sle .nils [] (.inl ⟨rfl, .inr rfl⟩) (msl_nil)
        rw [List.append_nil] at this
        exact this
      · by_cases hle : m.at_ m.k ≤ seen m.k
        · simp [hR, hme, h0, h6, t, a1, a2, s1, s2, hle]
          refine ⟨.sc (.bool false), ?_⟩
          rw [hear_late (.inr (.inl hle))] at q3
          (repeat' (first | refine awp_seq ?_ | (refine awp_region tabOk ?_; simp) | (refine awp_if ?_; simp) | refine awp_block ?_ | refine And.intro ?_ ?_ | intro _ | (refine awp_skip ?_; simp) | (refine awp_ret ?_; simp) | (refine awp_exit ?_; simp)))
          refine ⟨H, _, gcTo_none (fun _ => rfl), ?_⟩
          have := q3 .sle .nils [] (.inl ⟨rfl, .inr rfl⟩) (msl_nil)
          rw [List.append_nil] at this
          exact this
        · simp [hR, hme, h0, h6, t, a1, a2, s1, s2, hle]
          refine ⟨_, containsMail (xs := []) (p := fun x => decide (x.Sm m)) (.inl ⟨rfl, .inr rfl⟩) (by simp) (fun x hx Q q => hearMail1 (m := m) (by simp) ⟨(hxR x hx).1.1, (hxR x hx).1.2.1⟩ q) ⟨rfl, rfl⟩, ?_⟩
          rw [← twinM_all]
          cases hnt : twinM [] ([] : List Ma).length m with
          | true =>
            rw [hear_late (.inr (.inr hnt))] at q3
            (repeat' (first | refine awp_seq ?_ | (refine awp_region tabOk ?_; simp) | (refine awp_if ?_; simp) | refine awp_block ?_ | refine And.intro ?_ ?_ | intro _ | (refine awp_skip ?_; simp) | (refine awp_ret ?_; simp) | (refine awp_exit ?_; simp)))
            refine ⟨H, _, gcTo_none (fun _ => rfl), ?_⟩
            have := q3 .sle .nils [] (.inl ⟨rfl, .inr rfl⟩) (msl_nil)
            rw [List.append_nil] at this
            exact this
          | false =>
            have hnl : ¬(m.src = me ∨ m.at_ m.k ≤ seen m.k ∨ twinM [] ([] : List Ma).length m = true) := by
              rintro (h | h | h)
              · exact hme h
              · exact hle h
              · rw [hnt] at h; cases h
            (repeat' (first | refine awp_seq ?_ | (refine awp_region tabOk ?_; simp) | (refine awp_if ?_; simp) | refine awp_block ?_ | refine And.intro ?_ ?_ | intro _ | (refine awp_skip ?_; simp) | (refine awp_ret ?_; simp) | (refine awp_exit ?_; simp)))
            refine awp_draw tabOk mixed [] (by kernel_rfl) ?_
            simp
            refine ⟨_, [], cloneSle ⟨rfl, by simp⟩, by simp, ?_⟩
            simp [maxLen]
            (repeat' (first | refine awp_seq ?_ | (refine awp_region tabOk ?_; simp [maxLen]) | (refine awp_if ?_; simp [maxLen]) | refine awp_block ?_ | refine And.intro ?_ ?_ | intro _ | (refine awp_skip ?_; simp [maxLen]) | (refine awp_ret ?_; simp [maxLen]) | (refine awp_exit ?_; simp [maxLen])))
            refine mailReady hR hmw hsb ?_
            by_cases hrd : m.Rd seen
            · rw [hear_ready hnl hrd] at q3
              have wi := bump_wrap hsb hrd hmw hR
              have hsb2 := hsb.bump hrd hmw hR
              have hwm : IntKind.i64.wrap ((0 : Int) + 1 - 1) = (0 : Int) := by rw [Int.add_sub_cancel]; exact wrap_in _ (by omega) (by omega)
              have hwm2 : IntKind.i64.wrap (0 : Int) = (0 : Int) := wrap_in _ (by omega) (by omega)
              ((try simp [hrd, hwm]); (repeat' (first | refine awp_seq ?_ | (refine awp_region tabOk ?_; simp [hrd, hwm]) | (refine awp_if ?_; simp [hrd, hwm]) | refine awp_block ?_ | refine And.intro ?_ ?_ | intro _ | (refine awp_skip ?_; simp [hrd, hwm]) | (refine awp_ret ?_; simp [hrd, hwm]) | (refine awp_exit ?_; simp [hrd, hwm]))))
              refine awp_loop_at (α := {r : (Nat → Int) × List Ma × List Ma × List Sc × Int // Sb r.1 ∧ (∀ x ∈ r.2.1, x.Rt ∧ x.wf) ∧ r.2.1.length ≤ 1 ∧ r.2.2.1.length + r.2.1.length = 1 ∧ r.2.2.2.1.length = (1) * 8 ∧ (∀ f : Nat → Nat, r.2.2.2.1.map (renS f) = r.2.2.2.1) ∧
                  r.2.2.2.1.take (r.2.1.length * 8) = r.2.1.flatMap Ma.enc ∧ ((r.2.2.2.2 = -1 ∧ ¬r.2.2.1 = [] ∧ runM ([] : List Ma).length (bump seen m.k) [] [m] = (r.1, r.2.1, r.2.2.1)) ∨
                  ∃ (k : Nat) (x : Ma), r.2.2.2.2 = k ∧ r.2.1[k]? = some x ∧ x.Rd r.1 ∧ runM ([] : List Ma).length (bump seen m.k) [] [m] = runM (r.2.1.eraseIdx k).length (bump r.1 x.k) (r.2.1.eraseIdx k) (r.2.2.1 ++ [x]))})
                (fun r => [(2, .c (.sc (.ptr H.length 0))), (4, .c (.sc (.ptr (H.length + 2) 0))), (7, .c (.sc (.sl (H.length + 3) 0 8 r.1.2.1.length (1)))), (8, .c (.sc (gV 8 (H.length + 4) r.1.2.2.1))), (9, .c (.sc (.int .i64 r.1.2.2.2.2)))])
                (fun r => H ++ [.own (caC me r.1.1 (.sle)), .own m.enc, .own (caC 0 (fun _ => 0) .nils), .own r.1.2.2.2.1, gB Ma.enc r.1.2.2.1]) (fun r => r.1.2.1.length)
                ⟨(seen, [] ++ [m], [], m.enc, 0), hsb, fun x hx => by
                  rcases List.mem_append.1 hx with h | h
                  · exact hxR x h
                  · rw [List.mem_singleton] at h; subst h; exact ⟨hR, hmw⟩, by simp, by simp, by simp [mlen], by simp [Ma.ren_enc], by simp, .inr ⟨([] : List Ma).length, m, rfl, by simp, hrd, by simp only [erase_last]; rfl⟩⟩ (wk_gcl [0, 1, 2, 4, 9] (gcOk_of (by decide) (by simp [zero_caC, Ma.ren_enc])) (by simp [hwm2])) ?_
              rintro ⟨⟨s, all, told, cs, kk⟩, i1, i2, i3, i4, i5, i6, i7, i8⟩
              simp only at i1 i2 i3 i4 i5 i6 i7 i8
              rcases i8 with ⟨rfl, htn, i8⟩ | ⟨k, x, rfl, hx, hrx, i8⟩
              · rw [i8] at q3
                have hV := gV_ne (es := 8) (id := H.length + 4) (xs := told) (by simpa using htn)
                have hB := gB_ne (enc := Ma.enc) (xs := told) (by simpa using htn)
                have hOl : (told.flatMap Ma.enc).length = told.length * 8 := flat_len mlen _
                have hOr : ∀ f : Nat → Nat, (told.flatMap Ma.enc).map (renS f) = told.flatMap Ma.enc := fun f => Ma_ren f told
                have hOt : (told.flatMap Ma.enc).take (told.length * 8) = told.flatMap Ma.enc := flat_all mlen _ rfl
                obtain ⟨O, hO⟩ : ∃ O, O = told.flatMap Ma.enc := ⟨_, rfl⟩
                rw [← hO] at hOl hOr hOt hB
                simp only [hV, hB]
                (repeat' (first | refine awp_seq ?_ | (refine awp_region tabOk ?_; simp [zero_caC]) | (refine awp_if ?_; simp [zero_caC]) | refine awp_block ?_ | refine And.intro ?_ ?_ | intro _ | (refine awp_skip ?_; simp [zero_caC]) | (refine awp_ret ?_; simp [zero_caC]) | (refine awp_exit ?_; simp [zero_caC])))
                refine awp_loop_at (α := {i : Nat // i ≤ all.length}) (fun i => [(2, .c (.sc (.ptr H.length 0))), (4, .c (.sc (.ptr (H.length + 2) 0))), (8, .c (.sc (.sl (H.length + 4) 0 8 told.length told.length))), (90, .c (.sc (.sl (H.length + 3) 0 8 all.length (1)))), (91, .c (.sc (.int .i64 all.length))), (92, .c (.sc (.int .i64 i.1)))])
                  (fun i => H ++ [.own (caC me s (gV 8 (H.length + 5) ((all.take i.1).filter fun x => !lateM s x))), .own m.enc, .own (caC 0 (fun _ => 0) .nils), .own cs, .own O, gB Ma.enc ((all.take i.1).filter fun x => !lateM s x)]) (fun i => all.length - i.1) ⟨0, by omega⟩ (wk_gcl [0, 1, 2, 3, 4, 9] (gcOk_of (by decide) (by simp [i6, hOr, zero_caC])) (by simp)) ?_
                rintro ⟨i, hi⟩
                simp only
                by_cases hlt : i < all.length
                · obtain ⟨x, hx⟩ : ∃ x, all[i]? = some x := ⟨all[i], List.getElem?_eq_getElem hlt⟩
                  have wi := wrapS i (by omega)
                  have row := gsl_row (off := 0) (cs := cs) mlen (by omega) (by rw [List.drop_zero]; exact i7) hx
                  rw [Nat.zero_add] at row
                  obtain ⟨r1, r2⟩ := row
                  obtain ⟨xR, xw⟩ := i2 x (List.mem_of_getElem? hx)
                  obtain ⟨xk, xkm⟩ := xR.k6
                  have x0 := xR.1
                  have x6 : x.src < 6 := by have := xR.2.1; omega
                  have tx : x.src.toNat = x.k := rfl
                  have u1 := fun c => caC_seen me s c xk
                  have u2 : ∀ c (h : 1 + x.k < (caC me s c).length), (caC me s c)[1 + x.k] = .int .i64 (s x.k) := fun c h => (List.getElem?_eq_some_iff.1 (u1 c)).2
                  have b1 := x.at_at xk
                  obtain ⟨_, b2⟩ := List.getElem?_eq_some_iff.1 b1
                  have hft : (all.take (i + 1)).filter (fun x => !lateM s x) = (all.take i).filter (fun x => !lateM s x) ++ if lateM s x then [] else [x] := by
                    rw [take_snoc hx, List.filter_append]; cases h : lateM s x <;> simp [h]
                  have hWl : ((all.take i).filter fun x => !lateM s x).length ≤ i := Nat.le_trans (List.length_filter_le _ _) (by rw [List.length_take]; omega)
                  obtain ⟨W, hW⟩ : ∃ W, W = (all.take i).filter fun x => !lateM s x := ⟨_, rfl⟩
                  rw [← hW] at hft hWl
                  rw [← hW]
                  (repeat' (first | refine awp_seq ?_ | (refine awp_region tabOk ?_; simp [hlt, r1, r2]) | (refine awp_if ?_; simp [hlt, r1, r2]) | refine awp_block ?_ | refine And.intro ?_ ?_ | intro _ | (refine awp_skip ?_; simp [hlt, r1, r2]) | (refine awp_ret ?_; simp [hlt, r1, r2]) | (refine awp_exit ?_; simp [hlt, r1, r2])))
                  refine awp_draw tabOk mixed [] (by kernel_rfl) ?_
                  by_cases hla : x.at_ x.k ≤ s x.k
                  · have hl2 : lateM s x = true := decide_eq_true hla
                    have hla2 : ¬s x.k < x.at_ x.k := by omega
                    rw [hl2, if_pos rfl, List.append_nil] at hft
                    simp [x0, x6, tx, u1, u2, b1, b2, hla2]
                    (repeat' (first | refine awp_seq ?_ | (refine awp_region tabOk ?_; simp [wi]) | (refine awp_if ?_; simp [wi]) | refine awp_block ?_ | refine And.intro ?_ ?_ | intro _ | (refine awp_skip ?_; simp [wi]) | (refine awp_ret ?_; simp [wi]) | (refine awp_exit ?_; simp [wi])))
                    refine ⟨i + 1, by omega, by omega, ?_⟩
                    rw [hft]
                    exact wk_gcl [0, 1, 2, 3, 4, 5] (gcOk_of (by decide) (by simp [i6, hOr, zero_caC]; exact .inr (ren_gB (fun _ => rfl) _).symm)) (by simp [wi])
                  · have hl2 : lateM s x = false := decide_eq_false hla
                    have hla2 : s x.k < x.at_ x.k := by omega
                    rw [hl2, if_neg (by simp)] at hft
                    simp [x0, x6, tx, u1, u2, b1, b2, hla2]
                    by_cases hW0 : W = []
                    · rw [hW0] at hft ⊢
                      (repeat' (first | refine awp_seq ?_ | (refine awp_region tabOk ?_; simp [maxLen, wi]) | (refine awp_if ?_; simp [maxLen, wi]) | refine awp_block ?_ | refine And.intro ?_ ?_ | intro _ | (refine awp_skip ?_; simp [maxLen, wi]) | (refine awp_ret ?_; simp [maxLen, wi]) | (refine awp_exit ?_; simp [maxLen, wi])))
                      refine ⟨i + 1, by omega, by omega, ?_⟩
                      rw [hft]
                      exact wk_gcl [0, 1, 2, 3, 4, 8] (gcOk_of (by decide) (by simp [i6, hOr, zero_caC, gB_cons])) (by simp [wi])
                    · have hV2 := gV_ne (es := 8) (id := H.length + 5) (xs := W) (by simpa using hW0)
                      have hB2 := gB_ne (enc := Ma.enc) (xs := W) (by simpa using hW0)
                      have hWL : (W.flatMap Ma.enc).length = W.length * 8 := flat_len mlen _
                      have hWr : ∀ f : Nat → Nat, (W.flatMap Ma.enc).map (renS f) = W.flatMap Ma.enc := fun f => Ma_ren f W
                      have hWt : (W.flatMap Ma.enc).take (W.length * 8) = W.flatMap Ma.enc := flat_all mlen _ rfl
                      have hsn : gB Ma.enc (W ++ [x]) = _ := gB_snoc W x
                      obtain ⟨V, hVV⟩ : ∃ V, V = W.flatMap Ma.enc := ⟨_, rfl⟩
                      rw [← hVV] at hWL hWr hWt hB2 hsn
                      have kml : (W.length + 1) * 72 ≤ 140737488355328 := by omega
                      have kml1 : W.length + 1 ≤ 9223372036854775807 := by omega
                      have kno : ¬W.length + 1 ≤ W.length := by omega
                      simp only [hV2, hB2]
                      (repeat' (first | refine awp_seq ?_ | (refine awp_region tabOk ?_; simp [wi, hWL, hWt, kml, kml1, kno, maxLen]) | (refine awp_if ?_; simp [wi, hWL, hWt, kml, kml1, kno, maxLen]) | refine awp_block ?_ | refine And.intro ?_ ?_ | intro _ | (refine awp_skip ?_; simp [wi, hWL, hWt, kml, kml1, kno, maxLen]) | (refine awp_ret ?_; simp [wi, hWL, hWt, kml, kml1, kno, maxLen]) | (refine awp_exit ?_; simp [wi, hWL, hWt, kml, kml1, kno, maxLen])))
                      refine ⟨i + 1, by omega, by omega, ?_⟩
                      rw [hft]
                      exact wk_gcl [0, 1, 2, 3, 4, 8] (gcOk_of (by decide) (by simp [i6, hOr, zero_caC, hsn, hWr, gV_snoc])) (by simp [wi])
                · obtain rfl : i = all.length := by omega
                  rw [List.take_length]
                  have q4 : ∀ b c L, MSl (H ++ L) b (all.filter fun x => !lateM s x) → MSl (H ++ L) c told → Q (.tup [.agg (caC me s b), .sc c, .sc (.int .i64 0)]) (H ++ L) := q3
                  have hfl := List.length_filter_le (fun x => !lateM s x) all
                  obtain ⟨W, hW⟩ : ∃ W, W = all.filter fun x => !lateM s x := ⟨_, rfl⟩
                  rw [← hW] at q4 hfl ⊢
                  by_cases hW0 : W = []
                  · rw [hW0] at q4 ⊢
                    (repeat' (first | refine awp_seq ?_ | (refine awp_region tabOk ?_; simp) | (refine awp_if ?_; simp) | refine awp_block ?_ | refine And.intro ?_ ?_ | intro _ | (refine awp_skip ?_; simp) | (refine awp_ret ?_; simp) | (refine awp_exit ?_; simp)))
                    refine ⟨H ++ [.own O], .tup [.agg (caC me s .nils), .sc (.sl H.length 0 8 told.length told.length), .sc (.int .i64 0)], gcTo_std [4] (gcOk_of (by decide) (by simp [hOr])) (by simp), ?_⟩
                    exact q4 _ _ [.own O] msl_nil (GSl.ownC (cs := O) mlen (by simp) (by rw [hOt, hO]) (Nat.le_refl _) (by rw [hOl]; exact Nat.le_refl _))
                  · have hV2 := gV_ne (es := 8) (id := H.length + 5) (xs := W) (by simpa using hW0)
                    have hB2 := gB_ne (enc := Ma.enc) (xs := W) (by simpa using hW0)
                    have hWr : ∀ f : Nat → Nat, (W.flatMap Ma.enc).map (renS f) = W.flatMap Ma.enc := fun f => Ma_ren f W
                    simp only [hV2, hB2]
                    (repeat' (first | refine awp_seq ?_ | (refine awp_region tabOk ?_; simp) | (refine awp_if ?_; simp) | refine awp_block ?_ | refine And.intro ?_ ?_ | intro _ | (refine awp_skip ?_; simp) | (refine awp_ret ?_; simp) | (refine awp_exit ?_; simp)))
                    refine ⟨H ++ [.own O, .own (W.flatMap Ma.enc)], .tup [.agg (caC me s (.sl (H.length + 1) 0 8 W.length W.length)), .sc (.sl H.length 0 8 told.length told.length), .sc (.int .i64 0)], gcTo_std [4, 5] (gcOk_of (by decide) (by simp [hOr, hWr])) (by simp), ?_⟩
                    exact q4 _ _ [.own O, .own (W.flatMap Ma.enc)] (GSl.ownC (cs := W.flatMap Ma.enc) mlen (by simp) (by rw [flat_all mlen _ rfl]) (Nat.le_refl _) (by rw [flat_len mlen]; exact Nat.le_refl _)) (GSl.ownC (cs := O) mlen (by simp) (by rw [hOt, hO]) (Nat.le_refl _) (by rw [hOl]; exact Nat.le_refl _))
              · have hk2 : k < all.length := (List.getElem?_eq_some_iff.1 hx).1
                have hk0 : (0 : Int) ≤ k := by omega
                have wk := wrapS k (by omega)
                have row := gsl_row (off := 0) (cs := cs) mlen (by omega) (by rw [List.drop_zero]; exact i7) hx
                rw [Nat.zero_add] at row
                obtain ⟨r1, r2⟩ := row
                obtain ⟨xR, xw⟩ := i2 x (List.mem_of_getElem? hx)
                obtain ⟨xk, xkm⟩ := xR.k6
                have x0 := xR.1
                have x6 : x.src < 6 := by have := xR.2.1; omega
                have tx : x.src.toNat = x.k := rfl
                have u1 := fun c => caC_seen me s c xk
                have u2 : ∀ c (h : 1 + x.k < (caC me s c).length), (caC me s c)[1 + x.k] = .int .i64 (s x.k) := fun c h => (List.getElem?_eq_some_iff.1 (u1 c)).2
                have ut : ∀ c, (caC me s c).set (1 + x.k) (.int .i64 (s x.k + 1)) = caC me (bump s x.k) c := fun c => caC_setS me s c xk _
                have xk7 : 1 + x.k ≤ 7 := by omega
                have xwi := bump_wrap i1 hrx xw xR
                have xsb := i1.bump hrx xw xR
                have kml : (told.length + 1) * 72 ≤ 140737488355328 := by omega
                have kml1 : told.length + 1 ≤ 9223372036854775807 := by omega
                have kno : ¬told.length + 1 ≤ told.length := by omega
                obtain ⟨n1, hn1⟩ : ∃ n1, all.length = n1 + 1 := ⟨all.length - 1, by omega⟩
                have hel : (all.eraseIdx k).length = n1 := by rw [List.length_eraseIdx_of_lt hk2]; omega
                have hal : (told ++ [x]).length + (all.eraseIdx k).length = 1 := by rw [hel, List.length_append, List.length_singleton]; omega
                by_cases htn : told = []
                · subst htn
                  (repeat' (first | refine awp_seq ?_ | (refine awp_region tabOk ?_; simp [hk0, hk2, r1, r2, x0, x6, tx, u1, u2, ut, xk7, xwi, wk, maxLen]) | (refine awp_if ?_; simp [hk0, hk2, r1, r2, x0, x6, tx, u1, u2, ut, xk7, xwi, wk, maxLen]) | refine awp_block ?_ | refine And.intro ?_ ?_ | intro _ | (refine awp_skip ?_; simp [hk0, hk2, r1, r2, x0, x6, tx, u1, u2, ut, xk7, xwi, wk, maxLen]) | (refine awp_ret ?_; simp [hk0, hk2, r1, r2, x0, x6, tx, u1, u2, ut, xk7, xwi, wk, maxLen]) | (refine awp_exit ?_; simp [hk0, hk2, r1, r2, x0, x6, tx, u1, u2, ut, xk7, xwi, wk, maxLen])))
                  simp only [hn1]
                  refine deleteMail (cs := cs) (xs := all) (by simp) hn1 (by omega) (by omega) (by omega) (by rw [List.drop_zero, ← hn1]; exact i7) (by omega) (by omega) (fun cs' z1 z2 z3 => ?_)
                  have z2' := fun f => z2 f (i6 f)
                  rw [List.drop_zero] at z3
                  ((try simp); (repeat' (first | refine awp_seq ?_ | (refine awp_region tabOk ?_; simp) | (refine awp_if ?_; simp) | refine awp_block ?_ | refine And.intro ?_ ?_ | intro _ | (refine awp_skip ?_; simp) | (refine awp_ret ?_; simp) | (refine awp_exit ?_; simp))))
                  refine indexMail (xs := all.eraseIdx k) (p := fun y => decide (y.Rd (bump s x.k))) (by rw [← hel]; exact GSl.ownC (cs := cs') mlen (by simp) (by rw [hel]; exact z3) (by omega) (by omega)) (by omega) (fun y hy Q q => hearMail2 (me := me) (seen := bump s x.k) (a := .sle) (by simp) (i2 y (List.mem_of_mem_eraseIdx hy)).1 (i2 y (List.mem_of_mem_eraseIdx hy)).2 xsb q) (fun hno => ?_) (fun k' x' hx' hp' hb' => ?_)
                  · rw [runM_stop hno] at i8
                    ((try simp); (repeat' (first | refine awp_seq ?_ | (refine awp_region tabOk ?_; simp) | (refine awp_if ?_; simp) | refine awp_block ?_ | refine And.intro ?_ ?_ | intro _ | (refine awp_skip ?_; simp) | (refine awp_ret ?_; simp) | (refine awp_exit ?_; simp))))
                    refine ⟨bump s x.k, all.eraseIdx k, by omega, [] ++ [x], cs', -1, ⟨xsb, fun y hy => i2 y (List.mem_of_mem_eraseIdx hy), by omega, hal, by omega, z2', by rw [hel]; exact z3, .inl ⟨rfl, by simp, i8⟩⟩, ?_⟩
                    exact wk_gcl [0, 1, 2, 3, 7] (gcOk_of (by decide) (by simp [z2', Ma.ren_enc, gB_snoc, gB_cons, gV_snoc, hel, zero_caC])) (by simp [gV_snoc, hel])
                  · rw [runM_step hx' hp' hb'] at i8
                    ((try simp); (repeat' (first | refine awp_seq ?_ | (refine awp_region tabOk ?_; simp) | (refine awp_if ?_; simp) | refine awp_block ?_ | refine And.intro ?_ ?_ | intro _ | (refine awp_skip ?_; simp) | (refine awp_ret ?_; simp) | (refine awp_exit ?_; simp))))
                    refine ⟨bump s x.k, all.eraseIdx k, by omega, [] ++ [x], cs', k', ⟨xsb, fun y hy => i2 y (List.mem_of_mem_eraseIdx hy), by omega, hal, by omega, z2', by rw [hel]; exact z3, .inr ⟨k', rfl, x', hx', of_decide_eq_true hp', i8⟩⟩, ?_⟩
                    exact wk_gcl [0, 1, 2, 3, 7] (gcOk_of (by decide) (by simp [z2', Ma.ren_enc, gB_snoc, gB_cons, gV_snoc, hel, zero_caC])) (by simp [gV_snoc, hel])
                · have hV := gV_ne (es := 8) (id := H.length + 4) (xs := told) (by simpa using htn)
                  have hB := gB_ne (enc := Ma.enc) (xs := told) (by simpa using htn)
                  have hOl : (told.flatMap Ma.enc).length = told.length * 8 := flat_len mlen _
                  have hOr : ∀ f : Nat → Nat, (told.flatMap Ma.enc).map (renS f) = told.flatMap Ma.enc := fun f => Ma_ren f told
                  have hOt : (told.flatMap Ma.enc).take (told.length * 8) = told.flatMap Ma.enc := flat_all mlen _ rfl
                  have hsn : gB Ma.enc (told ++ [x]) = _ := gB_snoc told x
                  obtain ⟨O, hO⟩ : ∃ O, O = told.flatMap Ma.enc := ⟨_, rfl⟩
                  rw [← hO] at hOl hOr hOt hB hsn
                  simp only [hV, hB]
                  (repeat' (first | refine awp_seq ?_ | (refine awp_region tabOk ?_; simp [hk0, hk2, r1, r2, x0, x6, tx, u1, u2, ut, xk7, xwi, wk, hOt, kno, kml, kml1, hOl, maxLen]) | (refine awp_if ?_; simp [hk0, hk2, r1, r2, x0, x6, tx, u1, u2, ut, xk7, xwi, wk, hOt, kno, kml, kml1, hOl, maxLen]) | refine awp_block ?_ | refine And.intro ?_ ?_ | intro _ | (refine awp_skip ?_; simp [hk0, hk2, r1, r2, x0, x6, tx, u1, u2, ut, xk7, xwi, wk, hOt, kno, kml, kml1, hOl, maxLen]) | (refine awp_ret ?_; simp [hk0, hk2, r1, r2, x0, x6, tx, u1, u2, ut, xk7, xwi, wk, hOt, kno, kml, kml1, hOl, maxLen]) | (refine awp_exit ?_; simp [hk0, hk2, r1, r2, x0, x6, tx, u1, u2, ut, xk7, xwi, wk, hOt, kno, kml, kml1, hOl, maxLen])))
                  simp only [hn1]
                  refine deleteMail (cs := cs) (xs := all) (by simp) hn1 (by omega) (by omega) (by omega) (by rw [List.drop_zero, ← hn1]; exact i7) (by omega) (by omega) (fun cs' z1 z2 z3 => ?_)
                  have z2' := fun f => z2 f (i6 f)
                  rw [List.drop_zero] at z3
                  ((try simp); (repeat' (first | refine awp_seq ?_ | (refine awp_region tabOk ?_; simp) | (refine awp_if ?_; simp) | refine awp_block ?_ | refine And.intro ?_ ?_ | intro _ | (refine awp_skip ?_; simp) | (refine awp_ret ?_; simp) | (refine awp_exit ?_; simp))))
                  refine indexMail (xs := all.eraseIdx k) (p := fun y => decide (y.Rd (bump s x.k))) (by rw [← hel]; exact GSl.ownC (cs := cs') mlen (by simp) (by rw [hel]; exact z3) (by omega) (by omega)) (by omega) (fun y hy Q q => hearMail2 (me := me) (seen := bump s x.k) (a := .sle) (by simp) (i2 y (List.mem_of_mem_eraseIdx hy)).1 (i2 y (List.mem_of_mem_eraseIdx hy)).2 xsb q) (fun hno => ?_) (fun k' x' hx' hp' hb' => ?_)
                  · rw [runM_stop hno] at i8
                    ((try simp); (repeat' (first | refine awp_seq ?_ | (refine awp_region tabOk ?_; simp) | (refine awp_if ?_; simp) | refine awp_block ?_ | refine And.intro ?_ ?_ | intro _ | (refine awp_skip ?_; simp) | (refine awp_ret ?_; simp) | (refine awp_exit ?_; simp))))
                    refine ⟨bump s x.k, all.eraseIdx k, by omega, told ++ [x], cs', -1, ⟨xsb, fun y hy => i2 y (List.mem_of_mem_eraseIdx hy), by omega, hal, by omega, z2', by rw [hel]; exact z3, .inl ⟨rfl, by simp, i8⟩⟩, ?_⟩
                    exact wk_gcl [0, 1, 2, 3, 7] (gcOk_of (by decide) (by simp [z2', Ma.ren_enc, hsn, hOr, gV_snoc, hel, zero_caC])) (by simp [gV_snoc, hel])
                  · rw [runM_step hx' hp' hb'] at i8
                    ((try simp); (repeat' (first | refine awp_seq ?_ | (refine awp_region tabOk ?_; simp) | (refine awp_if ?_; simp) | refine awp_block ?_ | refine And.intro ?_ ?_ | intro _ | (refine awp_skip ?_; simp) | (refine awp_ret ?_; simp) | (refine awp_exit ?_; simp))))
                    refine ⟨bump s x.k, all.eraseIdx k, by omega, told ++ [x], cs', k', ⟨xsb, fun y hy => i2 y (List.mem_of_mem_eraseIdx hy), by omega, hal, by omega, z2', by rw [hel]; exact z3, .inr ⟨k', rfl, x', hx', of_decide_eq_true hp', i8⟩⟩, ?_⟩
                    exact wk_gcl [0, 1, 2, 3, 7] (gcOk_of (by decide) (by simp [z2', Ma.ren_enc, hsn, hOr, gV_snoc, hel, zero_caC])) (by simp [gV_snoc, hel])
            · rw [hear_hold hnl hrd (by simp)] at q3
              ((try simp [hrd]); (repeat' (first | refine awp_seq ?_ | (refine awp_region tabOk ?_; simp [hrd]) | (refine awp_if ?_; simp [hrd]) | refine awp_block ?_ | refine And.intro ?_ ?_ | intro _ | (refine awp_skip ?_; simp [hrd]) | (refine awp_ret ?_; simp [hrd]) | (refine awp_exit ?_; simp [hrd]))))
              refine ⟨H ++ [.own m.enc], .tup [.agg (caC me seen (.sl H.length 0 8 1 1)), .sc .nils, .sc (.int .i64 0)], gcTo_std [4] (gcOk_of (by decide) (by simp)) (by simp), ?_⟩
              exact q3 _ _ _ (GSl.ownC (cs := m.enc) mlen (by simp) (by simp) (Nat.le_refl _) (by simp)) msl_nil
  · have hCl : (xs.flatMap Ma.enc).length = xs.length * 8 := flat_len mlen _
    have hCr : ∀ f : Nat → Nat, (xs.flatMap Ma.enc).map (renS f) = xs.flatMap Ma.enc := fun f => Ma_ren f xs
    have hCt : (xs.flatMap Ma.enc).take (xs.length * 8) = xs.flatMap Ma.enc := flat_all mlen _ rfl
    obtain ⟨C, hC⟩ : ∃ C, C = xs.flatMap Ma.enc := ⟨_, rfl⟩
    have hg : ∀ L, MSl (H ++ [.own C] ++ L) (.sl H.length 0 8 xs.length xs.length) xs := fun L => (GSl.ownC (cs := C) mlen (by simp) (by rw [hC, hCt]) (Nat.le_refl _) (by rw [hC, hCl]; exact Nat.le_refl _)).app L
    rw [← hC] at hCl hCr hCt ⊢
    have hml : (xs.length + 1) * 72 ≤ 140737488355328 := by omega
    have hml1 : xs.length + 1 ≤ 4611686018427387904 := by omega
    have hml2 : xs.length ≤ 9223372036854775806 := by omega
    have hno : ¬xs.length + 1 ≤ xs.length := by omega
    ((try simp); (repeat' (first | refine awp_seq ?_ | (refine awp_region tabOk ?_; simp) | (refine awp_if ?_; simp) | refine awp_block ?_ | refine And.intro ?_ ?_ | intro _ | (refine awp_skip ?_; simp) | (refine awp_ret ?_; simp) | (refine awp_exit ?_; simp))))
    refine awp_draw tabOk mixed [] (by kernel_rfl) ?_
    by_cases hme : m.src = me
    · simp [hR, hme, h0, h6, t, a1, a2, s1, s2]
      refine ⟨.sc (.bool false), ?_⟩
      rw [hear_late (.inl hme)] at q3
      (repeat' (first | refine awp_seq ?_ | (refine awp_region tabOk ?_; simp) | (refine awp_if ?_; simp) | refine awp_block ?_ | refine And.intro ?_ ?_ | intro _ | (refine awp_skip ?_; simp) | (refine awp_ret ?_; simp) | (refine awp_exit ?_; simp)))
      refine ⟨H ++ [.own C], .tup [.agg (caC me seen (.sl H.length 0 8 xs.length xs.length)), .sc .nils, .sc (.int .i64 0)], gcTo_std [3] (gcOk_of (by decide) (by simp [hCr])) (by simp), ?_⟩
      exact q3 _ .nils [.own C] (by simpa using hg []) msl_nil
    · by_cases hle : m.at_ m.k ≤ seen m.k
      · simp [hR, hme, h0, h6, t, a1, a2, s1, s2, hle]
        refine ⟨.sc (.bool false), ?_⟩
        rw [hear_late (.inr (.inl hle))] at q3
        (repeat' (first | refine awp_seq ?_ | (refine awp_region tabOk ?_; simp) | (refine awp_if ?_; simp) | refine awp_block ?_ | refine And.intro ?_ ?_ | intro _ | (refine awp_skip ?_; simp) | (refine awp_ret ?_; simp) | (refine awp_exit ?_; simp)))
        refine ⟨H ++ [.own C], .tup [.agg (caC me seen (.sl H.length 0 8 xs.length xs.length)), .sc .nils, .sc (.int .i64 0)], gcTo_std [3] (gcOk_of (by decide) (by simp [hCr])) (by simp), ?_⟩
        exact q3 _ .nils [.own C] (by simpa using hg []) msl_nil
      · simp [hR, hme, h0, h6, t, a1, a2, s1, s2, hle]
        refine ⟨_, containsMail (xs := xs) (p := fun x => decide (x.Sm m)) (GSl.ownC (cs := C) mlen (by simp) (by rw [hCt, hC]) (Nat.le_refl _) (by rw [hCl]; exact Nat.le_refl _)) (by omega) (fun x hx Q q => hearMail1 (m := m) (by simp) ⟨(hxR x hx).1.1, (hxR x hx).1.2.1⟩ q) ⟨rfl, rfl⟩, ?_⟩
        rw [← twinM_all]
        cases hnt : twinM xs (xs : List Ma).length m with
        | true =>
          rw [hear_late (.inr (.inr hnt))] at q3
          (repeat' (first | refine awp_seq ?_ | (refine awp_region tabOk ?_; simp) | (refine awp_if ?_; simp) | refine awp_block ?_ | refine And.intro ?_ ?_ | intro _ | (refine awp_skip ?_; simp) | (refine awp_ret ?_; simp) | (refine awp_exit ?_; simp)))
          refine ⟨H ++ [.own C], .tup [.agg (caC me seen (.sl H.length 0 8 xs.length xs.length)), .sc .nils, .sc (.int .i64 0)], gcTo_std [3] (gcOk_of (by decide) (by simp [hCr])) (by simp), ?_⟩
          exact q3 _ .nils [.own C] (by simpa using hg []) msl_nil
        | false =>
          have hnl : ¬(m.src = me ∨ m.at_ m.k ≤ seen m.k ∨ twinM xs (xs : List Ma).length m = true) := by
            rintro (h | h | h)
            · exact hme h
            · exact hle h
            · rw [hnt] at h; cases h
          (repeat' (first | refine awp_seq ?_ | (refine awp_region tabOk ?_; simp) | (refine awp_if ?_; simp) | refine awp_block ?_ | refine And.intro ?_ ?_ | intro _ | (refine awp_skip ?_; simp) | (refine awp_ret ?_; simp) | (refine awp_exit ?_; simp)))
          refine awp_draw tabOk mixed [] (by kernel_rfl) ?_
          simp
          refine ⟨_, [.own C], cloneMail (xs := xs) (GSl.ownC (cs := C) mlen (by simp) (by rw [hCt, hC]) (Nat.le_refl _) (by rw [hCl]; exact Nat.le_refl _)) (by omega) (fun b h _ => absurd h h1) (fun _ => ⟨rfl, by simp [hC]⟩), by simp [Blk.isOwn], ?_⟩
          simp [maxLen, hCt, hno, hml, hml1, hml2, hCl]
          (repeat' (first | refine awp_seq ?_ | (refine awp_region tabOk ?_; simp [maxLen, hCt, hno, hml, hml1, hml2, hCl]) | (refine awp_if ?_; simp [maxLen, hCt, hno, hml, hml1, hml2, hCl]) | refine awp_block ?_ | refine And.intro ?_ ?_ | intro _ | (refine awp_skip ?_; simp [maxLen, hCt, hno, hml, hml1, hml2, hCl]) | (refine awp_ret ?_; simp [maxLen, hCt, hno, hml, hml1, hml2, hCl]) | (refine awp_exit ?_; simp [maxLen, hCt, hno, hml, hml1, hml2, hCl])))
          refine mailReady hR hmw hsb ?_
          by_cases hrd : m.Rd seen
          · rw [hear_ready hnl hrd] at q3
            have wi := bump_wrap hsb hrd hmw hR
            have hsb2 := hsb.bump hrd hmw hR
            have hwm : IntKind.i64.wrap ((xs.length : Int) + 1 - 1) = (xs.length : Int) := by rw [Int.add_sub_cancel]; exact wrap_in _ (by omega) (by omega)
            have hwm2 : IntKind.i64.wrap (xs.length : Int) = (xs.length : Int) := wrap_in _ (by omega) (by omega)
            ((try simp [hrd, hwm]); (repeat' (first | refine awp_seq ?_ | (refine awp_region tabOk ?_; simp [hrd, hwm]) | (refine awp_if ?_; simp [hrd, hwm]) | refine awp_block ?_ | refine And.intro ?_ ?_ | intro _ | (refine awp_skip ?_; simp [hrd, hwm]) | (refine awp_ret ?_; simp [hrd, hwm]) | (refine awp_exit ?_; simp [hrd, hwm]))))
            refine awp_loop_at (α := {r : (Nat → Int) × List Ma × List Ma × List Sc × Int // Sb r.1 ∧ (∀ x ∈ r.2.1, x.Rt ∧ x.wf) ∧ r.2.1.length ≤ xs.length + 1 ∧ r.2.2.1.length + r.2.1.length = xs.length + 1 ∧ r.2.2.2.1.length = (xs.length + 1) * 8 ∧ (∀ f : Nat → Nat, r.2.2.2.1.map (renS f) = r.2.2.2.1) ∧
                r.2.2.2.1.take (r.2.1.length * 8) = r.2.1.flatMap Ma.enc ∧ ((r.2.2.2.2 = -1 ∧ ¬r.2.2.1 = [] ∧ runM (xs : List Ma).length (bump seen m.k) xs [m] = (r.1, r.2.1, r.2.2.1)) ∨
                ∃ (k : Nat) (x : Ma), r.2.2.2.2 = k ∧ r.2.1[k]? = some x ∧ x.Rd r.1 ∧ runM (xs : List Ma).length (bump seen m.k) xs [m] = runM (r.2.1.eraseIdx k).length (bump r.1 x.k) (r.2.1.eraseIdx k) (r.2.2.1 ++ [x]))})
              (fun r => [(2, .c (.sc (.ptr H.length 0))), (4, .c (.sc (.ptr (H.length + 2) 0))), (7, .c (.sc (.sl (H.length + 4) 0 8 r.1.2.1.length (xs.length + 1)))), (8, .c (.sc (gV 8 (H.length + 5) r.1.2.2.1))), (9, .c (.sc (.int .i64 r.1.2.2.2.2)))])
              (fun r => H ++ [.own (caC me r.1.1 (.sl (H.length + 3) 0 8 xs.length xs.length)), .own m.enc, .own (caC 0 (fun _ => 0) .nils), .own C, .own r.1.2.2.2.1, gB Ma.enc r.1.2.2.1]) (fun r => r.1.2.1.length)
              ⟨(seen, xs ++ [m], [], C ++ m.enc, xs.length), hsb, fun x hx => by
                rcases List.mem_append.1 hx with h | h
                · exact hxR x h
                · rw [List.mem_singleton] at h; subst h; exact ⟨hR, hmw⟩, by simp, by simp, by simp [hCl, Nat.add_mul], by simp [hCr], by simp [hC]; exact List.take_of_length_le (by simp [← hC, hCl]; omega), .inr ⟨(xs : List Ma).length, m, rfl, by simp, hrd, by simp only [erase_last]; rfl⟩⟩ (wk_gcl [0, 1, 2, 3, 6, 9] (gcOk_of (by decide) (by simp [zero_caC, hCr])) (by simp [hwm2])) ?_
            rintro ⟨⟨s, all, told, cs, kk⟩, i1, i2, i3, i4, i5, i6, i7, i8⟩
            simp only at i1 i2 i3 i4 i5 i6 i7 i8
            rcases i8 with ⟨rfl, htn, i8⟩ | ⟨k, x, rfl, hx, hrx, i8⟩
            · rw [i8] at q3
              have hV := gV_ne (es := 8) (id := H.length + 5) (xs := told) (by simpa using htn)
              have hB := gB_ne (enc := Ma.enc) (xs := told) (by simpa using htn)
              have hOl : (told.flatMap Ma.enc).length = told.length * 8 := flat_len mlen _
              have hOr : ∀ f : Nat → Nat, (told.flatMap Ma.enc).map (renS f) = told.flatMap Ma.enc := fun f => Ma_ren f told
              have hOt : (told.flatMap Ma.enc).take (told.length * 8) = told.flatMap Ma.enc := flat_all mlen _ rfl
              obtain ⟨O, hO⟩ : ∃ O, O = told.flatMap Ma.enc := ⟨_, rfl⟩
              rw [← hO] at hOl hOr hOt hB
              simp only [hV, hB]
              (repeat' (first | refine awp_seq ?_ | (refine awp_region tabOk ?_; simp [zero_caC]) | (refine awp_if ?_; simp [zero_caC]) | refine awp_block ?_ | refine And.intro ?_ ?_ | intro _ | (refine awp_skip ?_; simp [zero_caC]) | (refine awp_ret ?_; simp [zero_caC]) | (refine awp_exit ?_; simp [zero_caC])))
              refine awp_loop_at (α := {i : Nat // i ≤ all.length}) (fun i => [(2, .c (.sc (.ptr H.length 0))), (4, .c (.sc (.ptr (H.length + 2) 0))), (8, .c (.sc (.sl (H.length + 4) 0 8 told.length told.length))), (90, .c (.sc (.sl (H.length + 3) 0 8 all.length (xs.length + 1)))), (91, .c (.sc (.int .i64 all.length))), (92, .c (.sc (.int .i64 i.1)))])
                (fun i => H ++ [.own (caC me s (gV 8 (H.length + 5) ((all.take i.1).filter fun x => !lateM s x))), .own m.enc, .own (caC 0 (fun _ => 0) .nils), .own cs, .own O, gB Ma.enc ((all.take i.1).filter fun x => !lateM s x)]) (fun i => all.length - i.1) ⟨0, by omega⟩ (wk_gcl [0, 1, 2, 4, 5, 9] (gcOk_of (by decide) (by simp [i6, hOr, zero_caC])) (by simp)) ?_
              rintro ⟨i, hi⟩
              simp only
              by_cases hlt : i < all.length
              · obtain ⟨x, hx⟩ : ∃ x, all[i]? = some x := ⟨all[i], List.getElem?_eq_getElem hlt⟩
                have wi := wrapS i (by omega)
                have row := gsl_row (off := 0) (cs := cs) mlen (by omega) (by rw [List.drop_zero]; exact i7) hx
                rw [Nat.zero_add] at row
                obtain ⟨r1, r2⟩ := row
                obtain ⟨xR, xw⟩ := i2 x (List.mem_of_getElem? hx)
                obtain ⟨xk, xkm⟩ := xR.k6
                have x0 := xR.1
                have x6 : x.src < 6 := by have := xR.2.1; omega
                have tx : x.src.toNat = x.k := rfl
                have u1 := fun c => caC_seen me s c xk
                have u2 : ∀ c (h : 1 + x.k < (caC me s c).length), (caC me s c)[1 + x.k] = .int .i64 (s x.k) := fun c h => (List.getElem?_eq_some_iff.1 (u1 c)).2
                have b1 := x.at_at xk
                obtain ⟨_, b2⟩ := List.getElem?_eq_some_iff.1 b1
                have hft : (all.take (i + 1)).filter (fun x => !lateM s x) = (all.take i).filter (fun x => !lateM s x) ++ if lateM s x then [] else [x] := by
                  rw [take_snoc hx, List.filter_append]; cases h : lateM s x <;> simp [h]
                have hWl : ((all.take i).filter fun x => !lateM s x).length ≤ i := Nat.le_trans (List.length_filter_le _ _) (by rw [List.length_take]; omega)
                obtain ⟨W, hW⟩ : ∃ W, W = (all.take i).filter fun x => !lateM s x := ⟨_, rfl⟩
                rw [← hW] at hft hWl
                rw [← hW]
                (repeat' (first | refine awp_seq ?_ | (refine awp_region tabOk ?_; simp [hlt, r1, r2]) | (refine awp_if ?_; simp [hlt, r1, r2]) | refine awp_block ?_ | refine And.intro ?_ ?_ | intro _ | (refine awp_skip ?_; simp [hlt, r1, r2]) | (refine awp_ret ?_; simp [hlt, r1, r2]) | (refine awp_exit ?_; simp [hlt, r1, r2])))
                refine awp_draw tabOk mixed [] (by kernel_rfl) ?_
                by_cases hla : x.at_ x.k ≤ s x.k
                · have hl2 : lateM s x = true := decide_eq_true hla
                  have hla2 : ¬s x.k < x.at_ x.k := by omega
                  rw [hl2, if_pos rfl, List.append_nil] at hft
                  simp [x0, x6, tx, u1, u2, b1, b2, hla2]
                  (repeat' (first | refine awp_seq ?_ | (refine awp_region tabOk ?_; simp [wi]) | (refine awp_if ?_; simp [wi]) | refine awp_block ?_ | refine And.intro ?_ ?_ | intro _ | (refine awp_skip ?_; simp [wi]) | (refine awp_ret ?_; simp [wi]) | (refine awp_exit ?_; simp [wi])))
                  refine ⟨i + 1, by omega, by omega, ?_⟩
                  rw [hft]
                  exact wk_gcl [0, 1, 2, 3, 4, 5] (gcOk_of (by decide) (by simp [i6, hOr, zero_caC]; exact .inr (ren_gB (fun _ => rfl) _).symm)) (by simp [wi])
                · have hl2 : lateM s x = false := decide_eq_false hla
                  have hla2 : s x.k < x.at_ x.k := by omega
                  rw [hl2, if_neg (by simp)] at hft
                  simp [x0, x6, tx, u1, u2, b1, b2, hla2]
                  by_cases hW0 : W = []
                  · rw [hW0] at hft ⊢
                    (repeat' (first | refine awp_seq ?_ | (refine awp_region tabOk ?_; simp [maxLen, wi]) | (refine awp_if ?_; simp [maxLen, wi]) | refine awp_block ?_ | refine And.intro ?_ ?_ | intro _ | (refine awp_skip ?_; simp [maxLen, wi]) | (refine awp_ret ?_; simp [maxLen, wi]) | (refine awp_exit ?_; simp [maxLen, wi])))
                    refine ⟨i + 1, by omega, by omega, ?_⟩
                    rw [hft]
                    exact wk_gcl [0, 1, 2, 3, 4, 8] (gcOk_of (by decide) (by simp [i6, hOr, zero_caC, gB_cons])) (by simp [wi])
                  · have hV2 := gV_ne (es := 8) (id := H.length + 5) (xs := W) (by simpa using hW0)
                    have hB2 := gB_ne (enc := Ma.enc) (xs := W) (by simpa using hW0)
                    have hWL : (W.flatMap Ma.enc).length = W.length * 8 := flat_len mlen _
                    have hWr : ∀ f : Nat → Nat, (W.flatMap Ma.enc).map (renS f) = W.flatMap Ma.enc := fun f => Ma_ren f W
                    have hWt : (W.flatMap Ma.enc).take (W.length * 8) = W.flatMap Ma.enc := flat_all mlen _ rfl
                    have hsn : gB Ma.enc (W ++ [x]) = _ := gB_snoc W x
                    obtain ⟨V, hVV⟩ : ∃ V, V = W.flatMap Ma.enc := ⟨_, rfl⟩
                    rw [← hVV] at hWL hWr hWt hB2 hsn
                    have kml : (W.length + 1) * 72 ≤ 140737488355328 := by omega
                    have kml1 : W.length + 1 ≤ 9223372036854775807 := by omega
                    have kno : ¬W.length + 1 ≤ W.length := by omega
                    simp only [hV2, hB2]
                    (repeat' (first | refine awp_seq ?_ | (refine awp_region tabOk ?_; simp [wi, hWL, hWt, kml, kml1, kno, maxLen]) | (refine awp_if ?_; simp [wi, hWL, hWt, kml, kml1, kno, maxLen]) | refine awp_block ?_ | refine And.intro ?_ ?_ | intro _ | (refine awp_skip ?_; simp [wi, hWL, hWt, kml, kml1, kno, maxLen]) | (refine awp_ret ?_; simp [wi, hWL, hWt, kml, kml1, kno, maxLen]) | (refine awp_exit ?_; simp [wi, hWL, hWt, kml, kml1, kno, maxLen])))
                    refine ⟨i + 1, by omega, by omega, ?_⟩
                    rw [hft]
                    exact wk_gcl [0, 1, 2, 3, 4, 8] (gcOk_of (by decide) (by simp [i6, hOr, zero_caC, hsn, hWr, gV_snoc])) (by simp [wi])
              · obtain rfl : i = all.length := by omega
                rw [List.take_length]
                have q4 : ∀ b c L, MSl (H ++ L) b (all.filter fun x => !lateM s x) → MSl (H ++ L) c told → Q (.tup [.agg (caC me s b), .sc c, .sc (.int .i64 0)]) (H ++ L) := q3
                have hfl := List.length_filter_le (fun x => !lateM s x) all
                obtain ⟨W, hW⟩ : ∃ W, W = all.filter fun x => !lateM s x := ⟨_, rfl⟩
                rw [← hW] at q4 hfl ⊢
                by_cases hW0 : W = []
                · rw [hW0] at q4 ⊢
                  (repeat' (first | refine awp_seq ?_ | (refine awp_region tabOk ?_; simp) | (refine awp_if ?_; simp) | refine awp_block ?_ | refine And.intro ?_ ?_ | intro _ | (refine awp_skip ?_; simp) | (refine awp_ret ?_; simp) | (refine awp_exit ?_; simp)))
                  refine ⟨H ++ [.own O], .tup [.agg (caC me s .nils), .sc (.sl H.length 0 8 told.length told.length), .sc (.int .i64 0)], gcTo_std [4] (gcOk_of (by decide) (by simp [hOr])) (by simp), ?_⟩
                  exact q4 _ _ [.own O] msl_nil (GSl.ownC (cs := O) mlen (by simp) (by rw [hOt, hO]) (Nat.le_refl _) (by rw [hOl]; exact Nat.le_refl _))
                · have hV2 := gV_ne (es := 8) (id := H.length + 5) (xs := W) (by simpa using hW0)
                  have hB2 := gB_ne (enc := Ma.enc) (xs := W) (by simpa using hW0)
                  have hWr : ∀ f : Nat → Nat, (W.flatMap Ma.enc).map (renS f) = W.flatMap Ma.enc := fun f => Ma_ren f W
                  simp only [hV2, hB2]
                  (repeat' (first | refine awp_seq ?_ | (refine awp_region tabOk ?_; simp) | (refine awp_if ?_; simp) | refine awp_block ?_ | refine And.intro ?_ ?_ | intro _ | (refine awp_skip ?_; simp) | (refine awp_ret ?_; simp) | (refine awp_exit ?_; simp)))
                  refine ⟨H ++ [.own O, .own (W.flatMap Ma.enc)], .tup [.agg (caC me s (.sl (H.length + 1) 0 8 W.length W.length)), .sc (.sl H.length 0 8 told.length told.length), .sc (.int .i64 0)], gcTo_std [4, 5] (gcOk_of (by decide) (by simp [hOr, hWr])) (by simp), ?_⟩
                  exact q4 _ _ [.own O, .own (W.flatMap Ma.enc)] (GSl.ownC (cs := W.flatMap Ma.enc) mlen (by simp) (by rw [flat_all mlen _ rfl]) (Nat.le_refl _) (by rw [flat_len mlen]; exact Nat.le_refl _)) (GSl.ownC (cs := O) mlen (by simp) (by rw [hOt, hO]) (Nat.le_refl _) (by rw [hOl]; exact Nat.le_refl _))
            · have hk2 : k < all.length := (List.getElem?_eq_some_iff.1 hx).1
              have hk0 : (0 : Int) ≤ k := by omega
              have wk := wrapS k (by omega)
              have row := gsl_row (off := 0) (cs := cs) mlen (by omega) (by rw [List.drop_zero]; exact i7) hx
              rw [Nat.zero_add] at row
              obtain ⟨r1, r2⟩ := row
              obtain ⟨xR, xw⟩ := i2 x (List.mem_of_getElem? hx)
              obtain ⟨xk, xkm⟩ := xR.k6
              have x0 := xR.1
              have x6 : x.src < 6 := by have := xR.2.1; omega
              have tx : x.src.toNat = x.k := rfl
              have u1 := fun c => caC_seen me s c xk
              have u2 : ∀ c (h : 1 + x.k < (caC me s c).length), (caC me s c)[1 + x.k] = .int .i64 (s x.k) := fun c h => (List.getElem?_eq_some_iff.1 (u1 c)).2
              have ut : ∀ c, (caC me s c).set (1 + x.k) (.int .i64 (s x.k + 1)) = caC me (bump s x.k) c := fun c => caC_setS me s c xk _
              have xk7 : 1 + x.k ≤ 7 := by omega
              have xwi := bump_wrap i1 hrx xw xR
              have xsb := i1.bump hrx xw xR
              have kml : (told.length + 1) * 72 ≤ 140737488355328 := by omega
              have kml1 : told.length + 1 ≤ 9223372036854775807 := by omega
              have kno : ¬told.length + 1 ≤ told.length := by omega
              obtain ⟨n1, hn1⟩ : ∃ n1, all.length = n1 + 1 := ⟨all.length - 1, by omega⟩
              have hel : (all.eraseIdx k).length = n1 := by rw [List.length_eraseIdx_of_lt hk2]; omega
              have hal : (told ++ [x]).length + (all.eraseIdx k).length = xs.length + 1 := by rw [hel, List.length_append, List.length_singleton]; omega
              by_cases htn : told = []
              · subst htn
                (repeat' (first | refine awp_seq ?_ | (refine awp_region tabOk ?_; simp [hk0, hk2, r1, r2, x0, x6, tx, u1, u2, ut, xk7, xwi, wk, maxLen]) | (refine awp_if ?_; simp [hk0, hk2, r1, r2, x0, x6, tx, u1, u2, ut, xk7, xwi, wk, maxLen]) | refine awp_block ?_ | refine And.intro ?_ ?_ | intro _ | (refine awp_skip ?_; simp [hk0, hk2, r1, r2, x0, x6, tx, u1, u2, ut, xk7, xwi, wk, maxLen]) | (refine awp_ret ?_; simp [hk0, hk2, r1, r2, x0, x6, tx, u1, u2, ut, xk7, xwi, wk, maxLen]) | (refine awp_exit ?_; simp [hk0, hk2, r1, r2, x0, x6, tx, u1, u2, ut, xk7, xwi, wk, maxLen])))
                simp only [hn1]
                refine deleteMail (cs := cs) (xs := all) (by simp) hn1 (by omega) (by omega) (by omega) (by rw [List.drop_zero, ← hn1]; exact i7) (by omega) (by omega) (fun cs' z1 z2 z3 => ?_)
                have z2' := fun f => z2 f (i6 f)
                rw [List.drop_zero] at z3
                ((try simp); (repeat' (first | refine awp_seq ?_ | (refine awp_region tabOk ?_; simp) | (refine awp_if ?_; simp) | refine awp_block ?_ | refine And.intro ?_ ?_ | intro _ | (refine awp_skip ?_; simp) | (refine awp_ret ?_; simp) | (refine awp_exit ?_; simp))))
                refine indexMail (xs := all.eraseIdx k) (p := fun y => decide (y.Rd (bump s x.k))) (by rw [← hel]; exact GSl.ownC (cs := cs') mlen (by simp) (by rw [hel]; exact z3) (by omega) (by omega)) (by omega) (fun y hy Q q => hearMail2 (me := me) (seen := bump s x.k) (a := .sl (H.length + 3) 0 8 xs.length xs.length) (by simp) (i2 y (List.mem_of_mem_eraseIdx hy)).1 (i2 y (List.mem_of_mem_eraseIdx hy)).2 xsb q) (fun hno => ?_) (fun k' x' hx' hp' hb' => ?_)
                · rw [runM_stop hno] at i8
                  ((try simp); (repeat' (first | refine awp_seq ?_ | (refine awp_region tabOk ?_; simp) | (refine awp_if ?_; simp) | refine awp_block ?_ | refine And.intro ?_ ?_ | intro _ | (refine awp_skip ?_; simp) | (refine awp_ret ?_; simp) | (refine awp_exit ?_; simp))))
                  refine ⟨bump s x.k, all.eraseIdx k, by omega, [] ++ [x], cs', -1, ⟨xsb, fun y hy => i2 y (List.mem_of_mem_eraseIdx hy), by omega, hal, by omega, z2', by rw [hel]; exact z3, .inl ⟨rfl, by simp, i8⟩⟩, ?_⟩
                  exact wk_gcl [0, 1, 2, 3, 4, 8] (gcOk_of (by decide) (by simp [z2', hCr, gB_snoc, gB_cons, gV_snoc, hel, zero_caC])) (by simp [gV_snoc, hel])
                · rw [runM_step hx' hp' hb'] at i8
                  ((try simp); (repeat' (first | refine awp_seq ?_ | (refine awp_region tabOk ?_; simp) | (refine awp_if ?_; simp) | refine awp_block ?_ | refine And.intro ?_ ?_ | intro _ | (refine awp_skip ?_; simp) | (refine awp_ret ?_; simp) | (refine awp_exit ?_; simp))))
                  refine ⟨bump s x.k, all.eraseIdx k, by omega, [] ++ [x], cs', k', ⟨xsb, fun y hy => i2 y (List.mem_of_mem_eraseIdx hy), by omega, hal, by omega, z2', by rw [hel]; exact z3, .inr ⟨k', rfl, x', hx', of_decide_eq_true hp', i8⟩⟩, ?_⟩
                  exact wk_gcl [0, 1, 2, 3, 4, 8] (gcOk_of (by decide) (by simp [z2', hCr, gB_snoc, gB_cons, gV_snoc, hel, zero_caC])) (by simp [gV_snoc, hel])
              · have hV := gV_ne (es := 8) (id := H.length + 5) (xs := told) (by simpa using htn)
                have hB := gB_ne (enc := Ma.enc) (xs := told) (by simpa using htn)
                have hOl : (told.flatMap Ma.enc).length = told.length * 8 := flat_len mlen _
                have hOr : ∀ f : Nat → Nat, (told.flatMap Ma.enc).map (renS f) = told.flatMap Ma.enc := fun f => Ma_ren f told
                have hOt : (told.flatMap Ma.enc).take (told.length * 8) = told.flatMap Ma.enc := flat_all mlen _ rfl
                have hsn : gB Ma.enc (told ++ [x]) = _ := gB_snoc told x
                obtain ⟨O, hO⟩ : ∃ O, O = told.flatMap Ma.enc := ⟨_, rfl⟩
                rw [← hO] at hOl hOr hOt hB hsn
                simp only [hV, hB]
                (repeat' (first | refine awp_seq ?_ | (refine awp_region tabOk ?_; simp [hk0, hk2, r1, r2, x0, x6, tx, u1, u2, ut, xk7, xwi, wk, hOt, kno, kml, kml1, hOl, maxLen]) | (refine awp_if ?_; simp [hk0, hk2, r1, r2, x0, x6, tx, u1, u2, ut, xk7, xwi, wk, hOt, kno, kml, kml1, hOl, maxLen]) | refine awp_block ?_ | refine And.intro ?_ ?_ | intro _ | (refine awp_skip ?_; simp [hk0, hk2, r1, r2, x0, x6, tx, u1, u2, ut, xk7, xwi, wk, hOt, kno, kml, kml1, hOl, maxLen]) | (refine awp_ret ?_; simp [hk0, hk2, r1, r2, x0, x6, tx, u1, u2, ut, xk7, xwi, wk, hOt, kno, kml, kml1, hOl, maxLen]) | (refine awp_exit ?_; simp [hk0, hk2, r1, r2, x0, x6, tx, u1, u2, ut, xk7, xwi, wk, hOt, kno, kml, kml1, hOl, maxLen])))
                simp only [hn1]
                refine deleteMail (cs := cs) (xs := all) (by simp) hn1 (by omega) (by omega) (by omega) (by rw [List.drop_zero, ← hn1]; exact i7) (by omega) (by omega) (fun cs' z1 z2 z3 => ?_)
                have z2' := fun f => z2 f (i6 f)
                rw [List.drop_zero] at z3
                ((try simp); (repeat' (first | refine awp_seq ?_ | (refine awp_region tabOk ?_; simp) | (refine awp_if ?_; simp) | refine awp_block ?_ | refine And.intro ?_ ?_ | intro _ | (refine awp_skip ?_; simp) | (refine awp_ret ?_; simp) | (refine awp_exit ?_; simp))))
                refine indexMail (xs := all.eraseIdx k) (p := fun y => decide (y.Rd (bump s x.k))) (by rw [← hel]; exact GSl.ownC (cs := cs') mlen (by simp) (by rw [hel]; exact z3) (by omega) (by omega)) (by omega) (fun y hy Q q => hearMail2 (me := me) (seen := bump s x.k) (a := .sl (H.length + 3) 0 8 xs.length xs.length) (by simp) (i2 y (List.mem_of_mem_eraseIdx hy)).1 (i2 y (List.mem_of_mem_eraseIdx hy)).2 xsb q) (fun hno => ?_) (fun k' x' hx' hp' hb' => ?_)
                · rw [runM_stop hno] at i8
                  ((try simp); (repeat' (first | refine awp_seq ?_ | (refine awp_region tabOk ?_; simp) | (refine awp_if ?_; simp) | refine awp_block ?_ | refine And.intro ?_ ?_ | intro _ | (refine awp_skip ?_; simp) | (refine awp_ret ?_; simp) | (refine awp_exit ?_; simp))))
                  refine ⟨bump s x.k, all.eraseIdx k, by omega, told ++ [x], cs', -1, ⟨xsb, fun y hy => i2 y (List.mem_of_mem_eraseIdx hy), by omega, hal, by omega, z2', by rw [hel]; exact z3, .inl ⟨rfl, by simp, i8⟩⟩, ?_⟩
                  exact wk_gcl [0, 1, 2, 3, 4, 8] (gcOk_of (by decide) (by simp [z2', hCr, hsn, hOr, gV_snoc, hel, zero_caC])) (by simp [gV_snoc, hel])
                · rw [runM_step hx' hp' hb'] at i8
                  ((try simp); (repeat' (first | refine awp_seq ?_ | (refine awp_region tabOk ?_; simp) | (refine awp_if ?_; simp) | refine awp_block ?_ | refine And.intro ?_ ?_ | intro _ | (refine awp_skip ?_; simp) | (refine awp_ret ?_; simp) | (refine awp_exit ?_; simp))))
                  refine ⟨bump s x.k, all.eraseIdx k, by omega, told ++ [x], cs', k', ⟨xsb, fun y hy => i2 y (List.mem_of_mem_eraseIdx hy), by omega, hal, by omega, z2', by rw [hel]; exact z3, .inr ⟨k', rfl, x', hx', of_decide_eq_true hp', i8⟩⟩, ?_⟩
                  exact wk_gcl [0, 1, 2, 3, 4, 8] (gcOk_of (by decide) (by simp [z2', hCr, hsn, hOr, gV_snoc, hel, zero_caC])) (by simp [gV_snoc, hel])
          · by_cases h40 : xs.length = 40
            · rw [hear_full hnl hrd h40] at q3
              have h40' : (40 : Int) < (xs.length : Int) + 1 := by omega
              ((try simp [hrd, h40']); (repeat' (first | refine awp_seq ?_ | (refine awp_region tabOk ?_; simp [hrd, h40']) | (refine awp_if ?_; simp [hrd, h40']) | refine awp_block ?_ | refine And.intro ?_ ?_ | intro _ | (refine awp_skip ?_; simp [hrd, h40']) | (refine awp_ret ?_; simp [hrd, h40']) | (refine awp_exit ?_; simp [hrd, h40']))))
              have := q3 .nils .nils [] msl_nil msl_nil
              rw [List.append_nil] at this
              exact ⟨H, _, gcTo_none (fun _ => rfl), this⟩
            · rw [hear_hold hnl hrd h40] at q3
              have h40' : ¬(40 : Int) < (xs.length : Int) + 1 := by omega
              ((try simp [hrd, h40']); (repeat' (first | refine awp_seq ?_ | (refine awp_region tabOk ?_; simp [hrd, h40']) | (refine awp_if ?_; simp [hrd, h40']) | refine awp_block ?_ | refine And.intro ?_ ?_ | intro _ | (refine awp_skip ?_; simp [hrd, h40']) | (refine awp_ret ?_; simp [hrd, h40']) | (refine awp_exit ?_; simp [hrd, h40']))))
              refine ⟨H ++ [.own (C ++ m.enc)], .tup [.agg (caC me seen (.sl H.length 0 8 (xs.length + 1) (xs.length + 1))), .sc .nils, .sc (.int .i64 0)], gcTo_std [6] (gcOk_of (by decide) (by simp [hCr])) (by simp), ?_⟩
              have hl1 : (xs ++ [m]).length = xs.length + 1 := by simp
              have := GSl.ownC (H := H ++ [.own (C ++ m.enc)]) (id := H.length) (cap := xs.length + 1) (cs := C ++ m.enc) (xs := xs ++ [m]) (enc := Ma.enc) (es := 8) mlen (by simp) (by rw [hl1, List.take_of_length_le (by simp [hCl]; omega), hC]; simp) (by omega) (by simp [hCl]; omega)
              rw [hl1] at this
              exact q3 _ _ _ this msl_nil
end Go.Proofs.Ytdeockoaalpcjaa
