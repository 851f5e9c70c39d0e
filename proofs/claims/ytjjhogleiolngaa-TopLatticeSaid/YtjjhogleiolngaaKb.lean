/- Cuts: cut.story. -/
import Derived.Test.YtjjhogleiolngaaKa
namespace Go.Proofs.Ytjjhogleiolngaa
set_option linter.unusedSimpArgs false
set_option linter.unusedVariables false
open Go.RowKit
attribute [local irreducible] AWP ACalls Wk GcTo
attribute [local simp] tab3 ti3 tab4 ti4 tab23 ti23 tab24 ti24 tab28 ti28 tab29 ti29 tab135 ti135 tab149 ti149
open Hi Ct
/-- The vectors of the first i events, by process. -/
def stP (h : List Ev) (i p : Nat) : List (Nat → Int) := (evs i (eP h) p).map (Vc.vo (eP h) (eM h) (eK h))
theorem stP_0 (h : List Ev) (p : Nat) : stP h 0 p = [] := rfl
theorem stP_step {h : List Ev} {i p : Nat} (e : eP h i = p) (q : Nat) : stP h (i + 1) q = stP h i q ++ if p = q then [Vc.vo (eP h) (eM h) (eK h) i] else [] := by
  unfold stP; rw [evs_succ, e, List.map_append]; congr 1; split <;> rfl
theorem stP_len (h : List Ev) (i p : Nat) : (stP h i p).length ≤ i := by
  have := List.length_filter_le (fun x => decide (eP h x = p)) (List.range i)
  unfold stP evs; rw [List.length_map]; simpa using this
def hdS (b : Nat) (F : Nat → List (Nat → Int)) : List Sc := [gV 6 b (F 0), gV 6 (b + 1) (F 1), gV 6 (b + 2) (F 2), gV 6 (b + 3) (F 3), gV 6 (b + 4) (F 4), gV 6 (b + 5) (F 5)]
def sBs (F : Nat → List (Nat → Int)) : List Blk := [gB Mt.vs (F 0), gB Mt.vs (F 1), gB Mt.vs (F 2), gB Mt.vs (F 3), gB Mt.vs (F 4), gB Mt.vs (F 5)]
theorem vren (f : Nat → Nat) (x : Nat → Int) : (Mt.vs x).map (renS f) = Mt.vs x := rfl
set_option maxRecDepth 100000 in
set_option maxHeartbeats 4000000 in
theorem cutStory {H : List Blk} {a : Sc} {h : List Ev} {Q : AV → List Blk → Prop} (ha : ESl H a h) (he : hErr h = 0) (q : Q (.c (.agg (hdS H.length (stP h h.length)))) (H ++ sBs (stP h h.length))) :
    ACalls Try.prog 99 [.sc a] H Q := by
  refine acalls_of tabOk Try.func99 (by kernel_rfl) rfl (by kernel_rfl) ?_
  have la := ha.len (i := ti24) (e := 135) rfl
  have hra := ha.ren
  have hR := right_of he
  have hl := hR.len
  have hgr := fun (m : Nat → Nat) (l : List (Nat → Int)) => ren_gB (m := m) (enc := Mt.vs) (fun x => rfl) l
  have vs_ov := fun g : Nat → Int => splice_all (xs := Mt.vs g) (ys := [.int .i64 0, .int .i64 0, .int .i64 0, .int .i64 0, .int .i64 0, .int .i64 0]) rfl
  simp only [ti24] at la
  (repeat' (first | refine awp_seq ?_ | (refine awp_region tabOk ?_; simp) | (refine awp_if ?_; simp) | refine awp_block ?_ | refine And.intro ?_ ?_ | intro _ | (refine awp_skip ?_; simp) | (refine awp_ret ?_; simp) | (refine awp_exit ?_; simp)))
  refine vectVectorsX (ha.app _) (fun h => absurd he h) (fun _ => ?_)
  ((try simp [-lenC, la]); (repeat' (first | refine awp_seq ?_ | (refine awp_region tabOk ?_; simp [-lenC, la]) | (refine awp_if ?_; simp [-lenC, la]) | refine awp_block ?_ | refine And.intro ?_ ?_ | intro _ | (refine awp_skip ?_; simp [-lenC, la]) | (refine awp_ret ?_; simp [-lenC, la]) | (refine awp_exit ?_; simp [-lenC, la]))))
  refine awp_loop_at (α := {i : Nat // i ≤ h.length}) (fun i => [(2, .c (.sc (.ptr H.length 0))), (3, .c (.sc (.ptr (H.length + 1) 0))), (4, .c (.sc (gV 6 (H.length + 2) (vosL h)))), (13, .c (.sc a)), (14, .c (.sc (.int .i64 h.length))), (15, .c (.sc (.int .i64 i.1)))])
    (fun i => H ++ ([.own [.nils, .nils, .nils, .nils, .nils, .nils], .own (hdS (H.length + 3) (stP h i.1)), gB Mt.vs (vosL h)] ++ sBs (stP h i.1))) (fun i => h.length - i.1) ⟨0, by omega⟩
    (wk_gcl [0, 1, 2, 10, 11, 12, 13, 14, 15] (gcOk_of (by decide) (by simp [sBs, hdS, stP_0, hgr])) (by simp [hra])) ?_
  rintro ⟨i, hi⟩
  by_cases hlt : i < h.length
  · obtain ⟨x, hx⟩ := at_lt hlt
    obtain ⟨id, off, cap, cs, rfl, hcap, hc, hrow⟩ := ha.row hlt
    obtain ⟨r1, r2⟩ := hrow i x hx
    have hc2 := fun L => lowc_of hc L
    have hid : ∀ ks top, mStd H.length ks top id = id := fun ks top => mStd_low (cells_lt hc)
    have wr := wrapS i (by omega)
    have hb := (hR.ev i x hx).1
    have hP := eP_at hx
    rw [enc_def] at r1
    obtain ⟨p, k, m⟩ := x
    obtain ⟨b1, b2, b3, b4⟩ := hb
    simp only at b1 b2 hP r1
    obtain ⟨p, rfl⟩ := Int.eq_ofNat_of_zero_le b1
    rw [Int.toNat_natCast] at hP
    have hS := stP_step hP
    have hSl := stP_len h i p
    have hne : (vosL h).length ≠ 0 := by rw [vosL_len]; omega
    have hV := gV_ne (es := 6) (id := H.length + 2) hne
    have hB := gB_ne (enc := Mt.vs) hne
    have hfa := flat_at vlen (vosL_at hlt)
    have hfl := flat_lt vlen (xs := vosL h) (i := i) (by rw [vosL_len]; omega)
    rw [vosL_len] at hV
    generalize Vc.vo (Hi.eP h) (Hi.eM h) (Hi.eK h) i = V at *
    obtain ⟨VF, hVF⟩ : ∃ VF, VF = (vosL h).flatMap Mt.vs := ⟨_, rfl⟩
    have hVr : ∀ f : Nat → Nat, VF.map (renS f) = VF := fun f => by rw [hVF, List.map_flatMap]; congr 1
    rw [← hVF] at hfa hfl hB
    have hlt' : (i : Int) < h.length := by omega
    rw [hV, hB]
    have hp6 : p = 0 ∨ p = 1 ∨ p = 2 ∨ p = 3 ∨ p = 4 ∨ p = 5 := by omega
    have hg1 : gB Mt.vs [V] = .own (Mt.vs V) := by simp [gB]
    cases hO : stP h i p with
    | nil =>
      rcases hp6 with rfl | rfl | rfl | rfl | rfl | rfl
      · simp only [hdS, sBs, hO, gV_nil, gB_nil]
        (repeat' (first | refine awp_seq ?_ | (refine awp_region tabOk ?_; simp [hlt, hc, hc2, r1, r2]) | (refine awp_if ?_; simp [hlt, hc, hc2, r1, r2]) | refine awp_block ?_ | refine And.intro ?_ ?_ | intro _ | (refine awp_skip ?_; simp [hlt, hc, hc2, r1, r2]) | (refine awp_ret ?_; simp [hlt, hc, hc2, r1, r2]) | (refine awp_exit ?_; simp [hlt, hc, hc2, r1, r2])))
        refine awp_draw tabOk mixed [(1, 11)] (by kernel_rfl) ?_
        simp [hlt, hlt', hfa, hfl, vs_ov, maxLen]
        (repeat' (first | refine awp_seq ?_ | (refine awp_region tabOk ?_; simp [wr]) | (refine awp_if ?_; simp [wr]) | refine awp_block ?_ | refine And.intro ?_ ?_ | intro _ | (refine awp_skip ?_; simp [wr]) | (refine awp_ret ?_; simp [wr]) | (refine awp_exit ?_; simp [wr])))
        exact ⟨i + 1, by omega, by omega, wk_gcl [0, 1, 2, 11, 4, 5, 6, 7, 8] (gcOk_of (by decide) (by simp [hdS, sBs, hS, hO, hgr, hVr, hg1, hB, Nat.add_assoc])) (by simp [hid, wr, hV])⟩
      · simp only [hdS, sBs, hO, gV_nil, gB_nil]
        (repeat' (first | refine awp_seq ?_ | (refine awp_region tabOk ?_; simp [hlt, hc, hc2, r1, r2]) | (refine awp_if ?_; simp [hlt, hc, hc2, r1, r2]) | refine awp_block ?_ | refine And.intro ?_ ?_ | intro _ | (refine awp_skip ?_; simp [hlt, hc, hc2, r1, r2]) | (refine awp_ret ?_; simp [hlt, hc, hc2, r1, r2]) | (refine awp_exit ?_; simp [hlt, hc, hc2, r1, r2])))
        refine awp_draw tabOk mixed [(1, 11)] (by kernel_rfl) ?_
        simp [hlt, hlt', hfa, hfl, vs_ov, maxLen]
        (repeat' (first | refine awp_seq ?_ | (refine awp_region tabOk ?_; simp [wr]) | (refine awp_if ?_; simp [wr]) | refine awp_block ?_ | refine And.intro ?_ ?_ | intro _ | (refine awp_skip ?_; simp [wr]) | (refine awp_ret ?_; simp [wr]) | (refine awp_exit ?_; simp [wr])))
        exact ⟨i + 1, by omega, by omega, wk_gcl [0, 1, 2, 3, 11, 5, 6, 7, 8] (gcOk_of (by decide) (by simp [hdS, sBs, hS, hO, hgr, hVr, hg1, hB, Nat.add_assoc])) (by simp [hid, wr, hV])⟩
      · simp only [hdS, sBs, hO, gV_nil, gB_nil]
        (repeat' (first | refine awp_seq ?_ | (refine awp_region tabOk ?_; simp [hlt, hc, hc2, r1, r2]) | (refine awp_if ?_; simp [hlt, hc, hc2, r1, r2]) | refine awp_block ?_ | refine And.intro ?_ ?_ | intro _ | (refine awp_skip ?_; simp [hlt, hc, hc2, r1, r2]) | (refine awp_ret ?_; simp [hlt, hc, hc2, r1, r2]) | (refine awp_exit ?_; simp [hlt, hc, hc2, r1, r2])))
        refine awp_draw tabOk mixed [(1, 11)] (by kernel_rfl) ?_
        simp [hlt, hlt', hfa, hfl, vs_ov, maxLen]
        (repeat' (first | refine awp_seq ?_ | (refine awp_region tabOk ?_; simp [wr]) | (refine awp_if ?_; simp [wr]) | refine awp_block ?_ | refine And.intro ?_ ?_ | intro _ | (refine awp_skip ?_; simp [wr]) | (refine awp_ret ?_; simp [wr]) | (refine awp_exit ?_; simp [wr])))
        exact ⟨i + 1, by omega, by omega, wk_gcl [0, 1, 2, 3, 4, 11, 6, 7, 8] (gcOk_of (by decide) (by simp [hdS, sBs, hS, hO, hgr, hVr, hg1, hB, Nat.add_assoc])) (by simp [hid, wr, hV])⟩
      · simp only [hdS, sBs, hO, gV_nil, gB_nil]
        (repeat' (first | refine awp_seq ?_ | (refine awp_region tabOk ?_; simp [hlt, hc, hc2, r1, r2]) | (refine awp_if ?_; simp [hlt, hc, hc2, r1, r2]) | refine awp_block ?_ | refine And.intro ?_ ?_ | intro _ | (refine awp_skip ?_; simp [hlt, hc, hc2, r1, r2]) | (refine awp_ret ?_; simp [hlt, hc, hc2, r1, r2]) | (refine awp_exit ?_; simp [hlt, hc, hc2, r1, r2])))
        refine awp_draw tabOk mixed [(1, 11)] (by kernel_rfl) ?_
        simp [hlt, hlt', hfa, hfl, vs_ov, maxLen]
        (repeat' (first | refine awp_seq ?_ | (refine awp_region tabOk ?_; simp [wr]) | (refine awp_if ?_; simp [wr]) | refine awp_block ?_ | refine And.intro ?_ ?_ | intro _ | (refine awp_skip ?_; simp [wr]) | (refine awp_ret ?_; simp [wr]) | (refine awp_exit ?_; simp [wr])))
        exact ⟨i + 1, by omega, by omega, wk_gcl [0, 1, 2, 3, 4, 5, 11, 7, 8] (gcOk_of (by decide) (by simp [hdS, sBs, hS, hO, hgr, hVr, hg1, hB, Nat.add_assoc])) (by simp [hid, wr, hV])⟩
      · simp only [hdS, sBs, hO, gV_nil, gB_nil]
        (repeat' (first | refine awp_seq ?_ | (refine awp_region tabOk ?_; simp [hlt, hc, hc2, r1, r2]) | (refine awp_if ?_; simp [hlt, hc, hc2, r1, r2]) | refine awp_block ?_ | refine And.intro ?_ ?_ | intro _ | (refine awp_skip ?_; simp [hlt, hc, hc2, r1, r2]) | (refine awp_ret ?_; simp [hlt, hc, hc2, r1, r2]) | (refine awp_exit ?_; simp [hlt, hc, hc2, r1, r2])))
        refine awp_draw tabOk mixed [(1, 11)] (by kernel_rfl) ?_
        simp [hlt, hlt', hfa, hfl, vs_ov, maxLen]
        (repeat' (first | refine awp_seq ?_ | (refine awp_region tabOk ?_; simp [wr]) | (refine awp_if ?_; simp [wr]) | refine awp_block ?_ | refine And.intro ?_ ?_ | intro _ | (refine awp_skip ?_; simp [wr]) | (refine awp_ret ?_; simp [wr]) | (refine awp_exit ?_; simp [wr])))
        exact ⟨i + 1, by omega, by omega, wk_gcl [0, 1, 2, 3, 4, 5, 6, 11, 8] (gcOk_of (by decide) (by simp [hdS, sBs, hS, hO, hgr, hVr, hg1, hB, Nat.add_assoc])) (by simp [hid, wr, hV])⟩
      · simp only [hdS, sBs, hO, gV_nil, gB_nil]
        (repeat' (first | refine awp_seq ?_ | (refine awp_region tabOk ?_; simp [hlt, hc, hc2, r1, r2]) | (refine awp_if ?_; simp [hlt, hc, hc2, r1, r2]) | refine awp_block ?_ | refine And.intro ?_ ?_ | intro _ | (refine awp_skip ?_; simp [hlt, hc, hc2, r1, r2]) | (refine awp_ret ?_; simp [hlt, hc, hc2, r1, r2]) | (refine awp_exit ?_; simp [hlt, hc, hc2, r1, r2])))
        refine awp_draw tabOk mixed [(1, 11)] (by kernel_rfl) ?_
        simp [hlt, hlt', hfa, hfl, vs_ov, maxLen]
        (repeat' (first | refine awp_seq ?_ | (refine awp_region tabOk ?_; simp [wr]) | (refine awp_if ?_; simp [wr]) | refine awp_block ?_ | refine And.intro ?_ ?_ | intro _ | (refine awp_skip ?_; simp [wr]) | (refine awp_ret ?_; simp [wr]) | (refine awp_exit ?_; simp [wr])))
        exact ⟨i + 1, by omega, by omega, wk_gcl [0, 1, 2, 3, 4, 5, 6, 7, 11] (gcOk_of (by decide) (by simp [hdS, sBs, hS, hO, hgr, hVr, hg1, hB, Nat.add_assoc])) (by simp [hid, wr, hV])⟩
    | cons o O =>
      rw [hO, List.length_cons] at hSl
      obtain ⟨OF, hOF, hgB, hOFl, hOFt, hOFr⟩ := gB_own vlen vren o O
      have hno : ¬O.length + 1 + 1 ≤ O.length + 1 := by omega
      have hml : (O.length + 1 + 1) * 48 ≤ 140737488355328 := by omega
      have hml1 : O.length + 1 + 1 ≤ 9223372036854775807 := by omega
      have hgs := gB_snoc (enc := Mt.vs) (o :: O) V
      rw [← hOF, List.cons_append] at hgs
      rcases hp6 with rfl | rfl | rfl | rfl | rfl | rfl
      · simp only [hdS, sBs, hO, gV_cons, hgB, Nat.add_assoc, Nat.reduceAdd]
        (repeat' (first | refine awp_seq ?_ | (refine awp_region tabOk ?_; simp [hlt, hc, hc2, r1, r2]) | (refine awp_if ?_; simp [hlt, hc, hc2, r1, r2]) | refine awp_block ?_ | refine And.intro ?_ ?_ | intro _ | (refine awp_skip ?_; simp [hlt, hc, hc2, r1, r2]) | (refine awp_ret ?_; simp [hlt, hc, hc2, r1, r2]) | (refine awp_exit ?_; simp [hlt, hc, hc2, r1, r2])))
        refine awp_draw tabOk mixed [(1, 11)] (by kernel_rfl) ?_
        simp [hlt, hlt', hfa, hfl, vs_ov, maxLen, hno, hml, hml1, hOFl, hOFt]
        (repeat' (first | refine awp_seq ?_ | (refine awp_region tabOk ?_; simp [wr]) | (refine awp_if ?_; simp [wr]) | refine awp_block ?_ | refine And.intro ?_ ?_ | intro _ | (refine awp_skip ?_; simp [wr]) | (refine awp_ret ?_; simp [wr]) | (refine awp_exit ?_; simp [wr])))
        exact ⟨i + 1, by omega, by omega, wk_gcl [0, 1, 2, 11, 4, 5, 6, 7, 8] (gcOk_of (by decide) (by simp [hdS, sBs, hS, hO, hgr, hVr, hB, hgs, hOFr, Nat.add_assoc])) (by simp [hid, wr, hV])⟩
      · simp only [hdS, sBs, hO, gV_cons, hgB, Nat.add_assoc, Nat.reduceAdd]
        (repeat' (first | refine awp_seq ?_ | (refine awp_region tabOk ?_; simp [hlt, hc, hc2, r1, r2]) | (refine awp_if ?_; simp [hlt, hc, hc2, r1, r2]) | refine awp_block ?_ | refine And.intro ?_ ?_ | intro _ | (refine awp_skip ?_; simp [hlt, hc, hc2, r1, r2]) | (refine awp_ret ?_; simp [hlt, hc, hc2, r1, r2]) | (refine awp_exit ?_; simp [hlt, hc, hc2, r1, r2])))
        refine awp_draw tabOk mixed [(1, 11)] (by kernel_rfl) ?_
        simp [hlt, hlt', hfa, hfl, vs_ov, maxLen, hno, hml, hml1, hOFl, hOFt]
        (repeat' (first | refine awp_seq ?_ | (refine awp_region tabOk ?_; simp [wr]) | (refine awp_if ?_; simp [wr]) | refine awp_block ?_ | refine And.intro ?_ ?_ | intro _ | (refine awp_skip ?_; simp [wr]) | (refine awp_ret ?_; simp [wr]) | (refine awp_exit ?_; simp [wr])))
        exact ⟨i + 1, by omega, by omega, wk_gcl [0, 1, 2, 3, 11, 5, 6, 7, 8] (gcOk_of (by decide) (by simp [hdS, sBs, hS, hO, hgr, hVr, hB, hgs, hOFr, Nat.add_assoc])) (by simp [hid, wr, hV])⟩
      · simp only [hdS, sBs, hO, gV_cons, hgB, Nat.add_assoc, Nat.reduceAdd]
        (repeat' (first | refine awp_seq ?_ | (refine awp_region tabOk ?_; simp [hlt, hc, hc2, r1, r2]) | (refine awp_if ?_; simp [hlt, hc, hc2, r1, r2]) | refine awp_block ?_ | refine And.intro ?_ ?_ | intro _ | (refine awp_skip ?_; simp [hlt, hc, hc2, r1, r2]) | (refine awp_ret ?_; simp [hlt, hc, hc2, r1, r2]) | (refine awp_exit ?_; simp [hlt, hc, hc2, r1, r2])))
        refine awp_draw tabOk mixed [(1, 11)] (by kernel_rfl) ?_
        simp [hlt, hlt', hfa, hfl, vs_ov, maxLen, hno, hml, hml1, hOFl, hOFt]
        (repeat' (first | refine awp_seq ?_ | (refine awp_region tabOk ?_; simp [wr]) | (refine awp_if ?_; simp [wr]) | refine awp_block ?_ | refine And.intro ?_ ?_ | intro _ | (refine awp_skip ?_; simp [wr]) | (refine awp_ret ?_; simp [wr]) | (refine awp_exit ?_; simp [wr])))
        exact ⟨i + 1, by omega, by omega, wk_gcl [0, 1, 2, 3, 4, 11, 6, 7, 8] (gcOk_of (by decide) (by simp [hdS, sBs, hS, hO, hgr, hVr, hB, hgs, hOFr, Nat.add_assoc])) (by simp [hid, wr, hV])⟩
      · simp only [hdS, sBs, hO, gV_cons, hgB, Nat.add_assoc, Nat.reduceAdd]
        (repeat' (first | refine awp_seq ?_ | (refine awp_region tabOk ?_; simp [hlt, hc, hc2, r1, r2]) | (refine awp_if ?_; simp [hlt, hc, hc2, r1, r2]) | refine awp_block ?_ | refine And.intro ?_ ?_ | intro _ | (refine awp_skip ?_; simp [hlt, hc, hc2, r1, r2]) | (refine awp_ret ?_; simp [hlt, hc, hc2, r1, r2]) | (refine awp_exit ?_; simp [hlt, hc, hc2, r1, r2])))
        refine awp_draw tabOk mixed [(1, 11)] (by kernel_rfl) ?_
        simp [hlt, hlt', hfa, hfl, vs_ov, maxLen, hno, hml, hml1, hOFl, hOFt]
        (repeat' (first | refine awp_seq ?_ | (refine awp_region tabOk ?_; simp [wr]) | (refine awp_if ?_; simp [wr]) | refine awp_block ?_ | refine And.intro ?_ ?_ | intro _ | (refine awp_skip ?_; simp [wr]) | (refine awp_ret ?_; simp [wr]) | (refine awp_exit ?_; simp [wr])))
        exact ⟨i + 1, by omega, by omega, wk_gcl [0, 1, 2, 3, 4, 5, 11, 7, 8] (gcOk_of (by decide) (by simp [hdS, sBs, hS, hO, hgr, hVr, hB, hgs, hOFr, Nat.add_assoc])) (by simp [hid, wr, hV])⟩
      · simp only [hdS, sBs, hO, gV_cons, hgB, Nat.add_assoc, Nat.reduceAdd]
        (repeat' (first | refine awp_seq ?_ | (refine awp_region tabOk ?_; simp [hlt, hc, hc2, r1, r2]) | (refine awp_if ?_; simp [hlt, hc, hc2, r1, r2]) | refine awp_block ?_ | refine And.intro ?_ ?_ | intro _ | (refine awp_skip ?_; simp [hlt, hc, hc2, r1, r2]) | (refine awp_ret ?_; simp [hlt, hc, hc2, r1, r2]) | (refine awp_exit ?_; simp [hlt, hc, hc2, r1, r2])))
        refine awp_draw tabOk mixed [(1, 11)] (by kernel_rfl) ?_
        simp [hlt, hlt', hfa, hfl, vs_ov, maxLen, hno, hml, hml1, hOFl, hOFt]
        (repeat' (first | refine awp_seq ?_ | (refine awp_region tabOk ?_; simp [wr]) | (refine awp_if ?_; simp [wr]) | refine awp_block ?_ | refine And.intro ?_ ?_ | intro _ | (refine awp_skip ?_; simp [wr]) | (refine awp_ret ?_; simp [wr]) | (refine awp_exit ?_; simp [wr])))
        exact ⟨i + 1, by omega, by omega, wk_gcl [0, 1, 2, 3, 4, 5, 6, 11, 8] (gcOk_of (by decide) (by simp [hdS, sBs, hS, hO, hgr, hVr, hB, hgs, hOFr, Nat.add_assoc])) (by simp [hid, wr, hV])⟩
      · simp only [hdS, sBs, hO, gV_cons, hgB, Nat.add_assoc, Nat.reduceAdd]
        (repeat' (first | refine awp_seq ?_ | (refine awp_region tabOk ?_; simp [hlt, hc, hc2, r1, r2]) | (refine awp_if ?_; simp [hlt, hc, hc2, r1, r2]) | refine awp_block ?_ | refine And.intro ?_ ?_ | intro _ | (refine awp_skip ?_; simp [hlt, hc, hc2, r1, r2]) | (refine awp_ret ?_; simp [hlt, hc, hc2, r1, r2]) | (refine awp_exit ?_; simp [hlt, hc, hc2, r1, r2])))
        refine awp_draw tabOk mixed [(1, 11)] (by kernel_rfl) ?_
        simp [hlt, hlt', hfa, hfl, vs_ov, maxLen, hno, hml, hml1, hOFl, hOFt]
        (repeat' (first | refine awp_seq ?_ | (refine awp_region tabOk ?_; simp [wr]) | (refine awp_if ?_; simp [wr]) | refine awp_block ?_ | refine And.intro ?_ ?_ | intro _ | (refine awp_skip ?_; simp [wr]) | (refine awp_ret ?_; simp [wr]) | (refine awp_exit ?_; simp [wr])))
        exact ⟨i + 1, by omega, by omega, wk_gcl [0, 1, 2, 3, 4, 5, 6, 7, 11] (gcOk_of (by decide) (by simp [hdS, sBs, hS, hO, hgr, hVr, hB, hgs, hOFr, Nat.add_assoc])) (by simp [hid, wr, hV])⟩
  · obtain rfl : i = h.length := by omega
    (repeat' (first | refine awp_seq ?_ | (refine awp_region tabOk ?_; simp [hlt, hdS]) | (refine awp_if ?_; simp [hlt, hdS]) | refine awp_block ?_ | refine And.intro ?_ ?_ | intro _ | (refine awp_skip ?_; simp [hlt, hdS]) | (refine awp_ret ?_; simp [hlt, hdS]) | (refine awp_exit ?_; simp [hlt, hdS])))
    exact ⟨H ++ sBs (stP h h.length), .c (.agg (hdS H.length (stP h h.length))), gcTo_std [3, 4, 5, 6, 7, 8] (gcOk_of (by decide) (by simp [sBs, hgr])) (by simp [hdS]), q⟩
end Go.Proofs.Ytjjhogleiolngaa
