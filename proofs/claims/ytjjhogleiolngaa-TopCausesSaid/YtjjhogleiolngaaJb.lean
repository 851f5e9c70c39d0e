/- Causes: stamp.Stamps. -/
import Derived.Test.YtjjhogleiolngaaJa
namespace Go.Proofs.Ytjjhogleiolngaa
set_option linter.unusedSimpArgs false
set_option linter.unusedVariables false
open Go.RowKit
attribute [local irreducible] AWP ACalls Wk GcTo
attribute [local simp] tab3 ti3 tab4 ti4 tab22 ti22 tab24 ti24 tab29 ti29 tab47 ti47 tab135 ti135 tab154 ti154
open Hi Ct Sn
theorem vs00 : Mt.vs (fun _ => 0) = [.int .i64 0, .int .i64 0, .int .i64 0, .int .i64 0, .int .i64 0, .int .i64 0] := rfl
set_option maxRecDepth 100000 in
set_option maxHeartbeats 2000000 in
theorem stampStamps {H : List Blk} {a : Sc} {h : List Ev} {Q : AV → List Blk → Prop} (ha : ESl H a h) (he : hErr h = 0)
    (q : Q (.tup [.sc (intV H.length (soL h)), .sc (.int .i64 0)]) (H ++ [intB (soL h)])) :
    ACalls Try.prog 51 [.sc a] H Q := by
  refine acalls_of tabOk Try.func51 (by kernel_rfl) rfl (by kernel_rfl) ?_
  have la := ha.len (i := ti24) (e := 135) rfl
  have hra := ha.ren
  simp only [ti24] at la
  (repeat' (first | refine awp_seq ?_ | (refine awp_region tabOk ?_; simp) | (refine awp_if ?_; simp) | refine awp_block ?_ | refine And.intro ?_ ?_ | intro _ | (refine awp_skip ?_; simp) | (refine awp_ret ?_; simp) | (refine awp_exit ?_; simp)))
  refine stampCheck ha ?_
  have hR := right_of he
  have hl := hR.len
  ((try simp [he, -lenC, la]); (repeat' (first | refine awp_seq ?_ | (refine awp_region tabOk ?_; simp [he, -lenC, la]) | (refine awp_if ?_; simp [he, -lenC, la]) | refine awp_block ?_ | refine And.intro ?_ ?_ | intro _ | (refine awp_skip ?_; simp [he, -lenC, la]) | (refine awp_ret ?_; simp [he, -lenC, la]) | (refine awp_exit ?_; simp [he, -lenC, la]))))
  refine awp_loop_at (α := {i : Nat // i ≤ h.length}) (fun i => [(5, .c (.sc (.ptr H.length 0))), (6, .c (.sc (.ptr (H.length + 1) 0))), (7, .c (.sc (intV (H.length + 2) ((soL h).take i.1)))), (16, .c (.sc a)), (17, .c (.sc (.int .i64 h.length))), (18, .c (.sc (.int .i64 i.1)))])
    (fun i => H ++ [.own (Mt.vs (ss (eP h) (eM h) (eK h) i.1).1), .own (fnC 30 (ss (eP h) (eM h) (eK h) i.1).2), intB ((soL h).take i.1)]) (fun i => h.length - i.1) ⟨0, by omega⟩ (wk_gcl [0, 1, 9] (gcOk_of (by decide) (by simp [ss, vs00])) (by simp [hra])) ?_
  rintro ⟨i, hi⟩
  by_cases hlt : i < h.length
  · obtain ⟨x, hx⟩ := at_lt hlt
    obtain ⟨id, off, cap, cs, rfl, hcap, hc, hrow⟩ := ha.row hlt
    obtain ⟨r1, r2⟩ := hrow i x hx
    have hc2 := fun L => lowc_of hc L
    have hid : ∀ ks top, mStd H.length ks top id = id := fun ks top => mStd_low (cells_lt hc)
    have wr := wrapS i (by omega)
    obtain ⟨hb, _⟩ := hR.ev i x hx
    have eP := eP_at hx
    have eM := eM_at hx
    have eK := eK_at hx
    rw [enc_def] at r1
    obtain ⟨p, k, m⟩ := x
    obtain ⟨b1, b2, b3, b4⟩ := hb
    simp only at b1 b2 b3 b4 eP eM eK r1
    obtain ⟨p, rfl⟩ := Int.eq_ofNat_of_zero_le b1
    obtain ⟨m, rfl⟩ := Int.eq_ofNat_of_zero_le b3
    rw [Int.toNat_natCast] at eP eM
    have hp6 : p < 6 := by omega
    have hp6' : (p : Int) < 6 := by omega
    have hp5 : p ≤ 5 := by omega
    have hm30 : m < 30 := by omega
    have hm29 : m ≤ 29 := by omega
    have c6 : (m : Int) < 30 := by omega
    obtain ⟨c, hc0⟩ : ∃ c, c = (ss (Hi.eP h) (Hi.eM h) (Hi.eK h) i).1 := ⟨_, rfl⟩
    obtain ⟨s, hs0⟩ : ∃ s, s = (ss (Hi.eP h) (Hi.eM h) (Hi.eK h) i).2 := ⟨_, rfl⟩
    have e1 : Mt.vs (ss (Hi.eP h) (Hi.eM h) (Hi.eK h) (i + 1)).1 = Mt.vs (fun q => if q = p then so (Hi.eP h) (Hi.eM h) (Hi.eK h) i else c q) := by
      rw [hc0]; simp only [ss, so, eP]
    have e2 : (ss (Hi.eP h) (Hi.eM h) (Hi.eK h) (i + 1)).2 = fun q => if k = 2 ∧ q = m then so (Hi.eP h) (Hi.eM h) (Hi.eK h) i else s q := by
      funext q; rw [hs0]; simp only [ss, so, eK, eM]
    have e3 : so (Hi.eP h) (Hi.eM h) (Hi.eK h) i = (if k = 3 then Vc.mx (c p) (s m) else c p) + 1 := by
      unfold so snew; rw [eP, eM, eK, ← hc0, ← hs0]
    have hbd := (ss_bound (P := Hi.eP h) (M := Hi.eM h) (K := Hi.eK h) i p).1
    have hbs := (ss_bound (P := Hi.eP h) (M := Hi.eM h) (K := Hi.eK h) i m).2
    have htk := take_snoc (soL_at hlt)
    rw [← hc0, ← hs0]
    rw [← hc0] at hbd
    rw [← hs0] at hbs
    have hll : ((soL h).take i).length = i := by rw [List.length_take, soL_len]; omega
    generalize so (Hi.eP h) (Hi.eM h) (Hi.eK h) i = V at *
    have a1 := Mt.vs_at c hp6
    obtain ⟨_, a1'⟩ := List.getElem?_eq_some_iff.1 a1
    have a2 := fnC_at (n := 30) s hm30
    have t4 := fnC_set (n := 30) s hm30 V
    obtain ⟨C2, hC2⟩ : ∃ C2, C2 = Mt.vs (fun q => if q = p then V else c q) := ⟨_, rfl⟩
    have t3 : C2[p]? = some (.int .i64 V) := by rw [hC2, Mt.vs_at _ hp6]; simp
    have hC2l : p < C2.length := by rw [hC2]; exact hp6
    have hC2r : ∀ f : Nat → Nat, C2.map (renS f) = C2 := fun f => by rw [hC2]; rfl
    obtain ⟨_, t3'⟩ := List.getElem?_eq_some_iff.1 t3
    have t7 : ∀ x, (Mt.vs (fun j => if j = p then x else c j)).set p (.int .i64 V) = C2 := fun x => by
      rw [hC2, Mt.vs_set _ hp6]; refine Mt.vs_ext fun j _ => ?_
      by_cases e : j = p <;> simp [e]
    have t8 : (Mt.vs c).set p (.int .i64 V) = C2 := by rw [hC2, Mt.vs_set _ hp6]
    by_cases k3 : k = 3
    · obtain ⟨F, hF⟩ : ∃ F, Vc.mx (c p) (s m) = F := ⟨_, rfl⟩
      have hFb : 0 ≤ F ∧ F ≤ i := by rw [← hF]; unfold Vc.mx; split <;> omega
      rw [if_pos k3, hF] at e3
      have hF' : (if c p < s m then s m else c p) = F := hF
      have k2 : ¬k = 2 := by omega
      rw [show (fun q => if k = 2 ∧ q = m then V else s q) = s by funext q; simp [k2]] at e2
      have t5 := Mt.vs_set c hp6 F
      have t6 := Mt.vs_at (fun j => if j = p then F else c j) hp6
      simp only [if_true] at t6
      obtain ⟨_, t6'⟩ := List.getElem?_eq_some_iff.1 t6
      have t7' := t7 F
      generalize (fun j => if j = p then F else c j) = c1 at *
      have wF : IntKind.i64.wrap (F + 1) = V := by rw [e3]; exact wrap_in _ (by omega) (by omega)
      (repeat' (first | refine awp_seq ?_ | (refine awp_region tabOk ?_; simp [hlt, hc, hc2, r1, r2, hp6, hp6', k3]) | (refine awp_if ?_; simp [hlt, hc, hc2, r1, r2, hp6, hp6', k3]) | refine awp_block ?_ | refine And.intro ?_ ?_ | intro _ | (refine awp_skip ?_; simp [hlt, hc, hc2, r1, r2, hp6, hp6', k3]) | (refine awp_ret ?_; simp [hlt, hc, hc2, r1, r2, hp6, hp6', k3]) | (refine awp_exit ?_; simp [hlt, hc, hc2, r1, r2, hp6, hp6', k3])))
      refine awp_draw tabOk mixed [] (by kernel_rfl) ?_
      simp [hp6, hp6', c6, hm30, a1, a1', a2, hF', hp5, t5]
      cases hO : (soL h).take i with
      | nil =>
        rw [hO] at htk hll
        (repeat' (first | refine awp_seq ?_ | (refine awp_region tabOk ?_; simp [hp6, hp6', t6, t6', wF, hp5, t7', k3, t3', hC2l, t3, maxLen, wr]) | (refine awp_if ?_; simp [hp6, hp6', t6, t6', wF, hp5, t7', k3, t3', hC2l, t3, maxLen, wr]) | refine awp_block ?_ | refine And.intro ?_ ?_ | intro _ | (refine awp_skip ?_; simp [hp6, hp6', t6, t6', wF, hp5, t7', k3, t3', hC2l, t3, maxLen, wr]) | (refine awp_ret ?_; simp [hp6, hp6', t6, t6', wF, hp5, t7', k3, t3', hC2l, t3, maxLen, wr]) | (refine awp_exit ?_; simp [hp6, hp6', t6, t6', wF, hp5, t7', k3, t3', hC2l, t3, maxLen, wr])))
        refine ⟨i + 1, by omega, by omega, ?_⟩
        rw [htk]
        exact wk_gcl [0, 1, 5] (gcOk_of (by decide) (by simp [intB, intsC, e1, e2, ← hC2, hC2r])) (by simp [hid, wr, intV, ← hll])
      | cons o O =>
        rw [hO] at htk hll
        have hno : ¬O.length + 1 + 1 ≤ O.length + 1 := by omega
        have hll1 : O.length + 1 = i := by simpa using hll
        have hml : (O.length + 1 + 1) * 8 ≤ 140737488355328 := by omega
        have hml1 : O.length + 1 + 1 ≤ 9223372036854775807 := by omega
        (repeat' (first | refine awp_seq ?_ | (refine awp_region tabOk ?_; simp [hp6, hp6', t6, t6', wF, hp5, t7', k3, t3', hC2l, t3, maxLen, wr, hno, hml, hml1]) | (refine awp_if ?_; simp [hp6, hp6', t6, t6', wF, hp5, t7', k3, t3', hC2l, t3, maxLen, wr, hno, hml, hml1]) | refine awp_block ?_ | refine And.intro ?_ ?_ | intro _ | (refine awp_skip ?_; simp [hp6, hp6', t6, t6', wF, hp5, t7', k3, t3', hC2l, t3, maxLen, wr, hno, hml, hml1]) | (refine awp_ret ?_; simp [hp6, hp6', t6, t6', wF, hp5, t7', k3, t3', hC2l, t3, maxLen, wr, hno, hml, hml1]) | (refine awp_exit ?_; simp [hp6, hp6', t6, t6', wF, hp5, t7', k3, t3', hC2l, t3, maxLen, wr, hno, hml, hml1])))
        refine ⟨i + 1, by omega, by omega, ?_⟩
        rw [htk]
        exact wk_gcl [0, 1, 5] (gcOk_of (by decide) (by simp [e1, e2, ← hC2, hC2r, intsC_one])) (by simp [hid, wr, intV, ← hll1])
    · rw [if_neg k3] at e3
      have wF : IntKind.i64.wrap (c p + 1) = V := by rw [e3]; exact wrap_in _ (by omega) (by omega)
      by_cases k2 : k = 2
      · rw [show (fun q => if k = 2 ∧ q = m then V else s q) = fun q => if q = m then V else s q by funext q; simp [k2]] at e2
        (repeat' (first | refine awp_seq ?_ | (refine awp_region tabOk ?_; simp [hlt, hc, hc2, r1, r2, hp6, hp6', k3, a1, a1', wF, hp5, t8, k2]) | (refine awp_if ?_; simp [hlt, hc, hc2, r1, r2, hp6, hp6', k3, a1, a1', wF, hp5, t8, k2]) | refine awp_block ?_ | refine And.intro ?_ ?_ | intro _ | (refine awp_skip ?_; simp [hlt, hc, hc2, r1, r2, hp6, hp6', k3, a1, a1', wF, hp5, t8, k2]) | (refine awp_ret ?_; simp [hlt, hc, hc2, r1, r2, hp6, hp6', k3, a1, a1', wF, hp5, t8, k2]) | (refine awp_exit ?_; simp [hlt, hc, hc2, r1, r2, hp6, hp6', k3, a1, a1', wF, hp5, t8, k2])))
        refine awp_draw tabOk mixed [] (by kernel_rfl) ?_
        simp [hp6, hp6', c6, hm30, hm29, t3, t3', hC2l, t4]
        cases hO : (soL h).take i with
        | nil =>
          rw [hO] at htk hll
          (repeat' (first | refine awp_seq ?_ | (refine awp_region tabOk ?_; simp [k2, t3', hC2l, t3, maxLen, wr]) | (refine awp_if ?_; simp [k2, t3', hC2l, t3, maxLen, wr]) | refine awp_block ?_ | refine And.intro ?_ ?_ | intro _ | (refine awp_skip ?_; simp [k2, t3', hC2l, t3, maxLen, wr]) | (refine awp_ret ?_; simp [k2, t3', hC2l, t3, maxLen, wr]) | (refine awp_exit ?_; simp [k2, t3', hC2l, t3, maxLen, wr])))
          refine ⟨i + 1, by omega, by omega, ?_⟩
          rw [htk]
          exact wk_gcl [0, 1, 5] (gcOk_of (by decide) (by simp [intB, intsC, e1, e2, ← hC2, hC2r])) (by simp [hid, wr, intV, ← hll])
        | cons o O =>
          rw [hO] at htk hll
          have hno : ¬O.length + 1 + 1 ≤ O.length + 1 := by omega
          have hll1 : O.length + 1 = i := by simpa using hll
          have hml : (O.length + 1 + 1) * 8 ≤ 140737488355328 := by omega
          have hml1 : O.length + 1 + 1 ≤ 9223372036854775807 := by omega
          (repeat' (first | refine awp_seq ?_ | (refine awp_region tabOk ?_; simp [k2, t3', hC2l, t3, maxLen, wr, hno, hml, hml1]) | (refine awp_if ?_; simp [k2, t3', hC2l, t3, maxLen, wr, hno, hml, hml1]) | refine awp_block ?_ | refine And.intro ?_ ?_ | intro _ | (refine awp_skip ?_; simp [k2, t3', hC2l, t3, maxLen, wr, hno, hml, hml1]) | (refine awp_ret ?_; simp [k2, t3', hC2l, t3, maxLen, wr, hno, hml, hml1]) | (refine awp_exit ?_; simp [k2, t3', hC2l, t3, maxLen, wr, hno, hml, hml1])))
          refine ⟨i + 1, by omega, by omega, ?_⟩
          rw [htk]
          exact wk_gcl [0, 1, 5] (gcOk_of (by decide) (by simp [e1, e2, ← hC2, hC2r, intsC_one])) (by simp [hid, wr, intV, ← hll1])
      · rw [show (fun q => if k = 2 ∧ q = m then V else s q) = s by funext q; simp [k2]] at e2
        cases hO : (soL h).take i with
        | nil =>
          rw [hO] at htk hll
          (repeat' (first | refine awp_seq ?_ | (refine awp_region tabOk ?_; simp [hlt, hc, hc2, r1, r2, hp6, hp6', k3, a1, a1', wF, hp5, t8, k2, t3', hC2l, t3, maxLen, wr]) | (refine awp_if ?_; simp [hlt, hc, hc2, r1, r2, hp6, hp6', k3, a1, a1', wF, hp5, t8, k2, t3', hC2l, t3, maxLen, wr]) | refine awp_block ?_ | refine And.intro ?_ ?_ | intro _ | (refine awp_skip ?_; simp [hlt, hc, hc2, r1, r2, hp6, hp6', k3, a1, a1', wF, hp5, t8, k2, t3', hC2l, t3, maxLen, wr]) | (refine awp_ret ?_; simp [hlt, hc, hc2, r1, r2, hp6, hp6', k3, a1, a1', wF, hp5, t8, k2, t3', hC2l, t3, maxLen, wr]) | (refine awp_exit ?_; simp [hlt, hc, hc2, r1, r2, hp6, hp6', k3, a1, a1', wF, hp5, t8, k2, t3', hC2l, t3, maxLen, wr])))
          refine ⟨i + 1, by omega, by omega, ?_⟩
          rw [htk]
          exact wk_gcl [0, 1, 5] (gcOk_of (by decide) (by simp [intB, intsC, e1, e2, ← hC2, hC2r])) (by simp [hid, wr, intV, ← hll])
        | cons o O =>
          rw [hO] at htk hll
          have hno : ¬O.length + 1 + 1 ≤ O.length + 1 := by omega
          have hll1 : O.length + 1 = i := by simpa using hll
          have hml : (O.length + 1 + 1) * 8 ≤ 140737488355328 := by omega
          have hml1 : O.length + 1 + 1 ≤ 9223372036854775807 := by omega
          (repeat' (first | refine awp_seq ?_ | (refine awp_region tabOk ?_; simp [hlt, hc, hc2, r1, r2, hp6, hp6', k3, a1, a1', wF, hp5, t8, k2, t3', hC2l, t3, maxLen, wr, hno, hml, hml1]) | (refine awp_if ?_; simp [hlt, hc, hc2, r1, r2, hp6, hp6', k3, a1, a1', wF, hp5, t8, k2, t3', hC2l, t3, maxLen, wr, hno, hml, hml1]) | refine awp_block ?_ | refine And.intro ?_ ?_ | intro _ | (refine awp_skip ?_; simp [hlt, hc, hc2, r1, r2, hp6, hp6', k3, a1, a1', wF, hp5, t8, k2, t3', hC2l, t3, maxLen, wr, hno, hml, hml1]) | (refine awp_ret ?_; simp [hlt, hc, hc2, r1, r2, hp6, hp6', k3, a1, a1', wF, hp5, t8, k2, t3', hC2l, t3, maxLen, wr, hno, hml, hml1]) | (refine awp_exit ?_; simp [hlt, hc, hc2, r1, r2, hp6, hp6', k3, a1, a1', wF, hp5, t8, k2, t3', hC2l, t3, maxLen, wr, hno, hml, hml1])))
          refine ⟨i + 1, by omega, by omega, ?_⟩
          rw [htk]
          exact wk_gcl [0, 1, 5] (gcOk_of (by decide) (by simp [e1, e2, ← hC2, hC2r, intsC_one])) (by simp [hid, wr, intV, ← hll1])
  · obtain rfl : i = h.length := by omega
    have htl : (soL h).take h.length = soL h := List.take_of_length_le (by simp)
    rw [htl]
    (repeat' (first | refine awp_seq ?_ | (refine awp_region tabOk ?_; simp [hlt]) | (refine awp_if ?_; simp [hlt]) | refine awp_block ?_ | refine And.intro ?_ ?_ | intro _ | (refine awp_skip ?_; simp [hlt]) | (refine awp_ret ?_; simp [hlt]) | (refine awp_exit ?_; simp [hlt])))
    exact ⟨H ++ [intB (soL h)], .tup [.sc (intV H.length (soL h)), .sc (.int .i64 0)], gcTo_std [2] (gcOk_of (by decide) (by simp)) (by simp), q⟩
end Go.Proofs.Ytjjhogleiolngaa
