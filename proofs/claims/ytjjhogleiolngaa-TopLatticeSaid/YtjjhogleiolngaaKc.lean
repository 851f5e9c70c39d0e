/- Cuts: cut.grow, Right, Grow. -/
import Derived.Test.YtjjhogleiolngaaKb
namespace Go.Proofs.Ytjjhogleiolngaa
set_option linter.unusedSimpArgs false
set_option linter.unusedVariables false
open Go.RowKit
attribute [local irreducible] AWP ACalls Wk GcTo
attribute [local simp] tab3 ti3 tab4 ti4 tab23 ti23 tab24 ti24 tab28 ti28 tab29 ti29 tab135 ti135 tab149 ti149
open Hi Ct
structure CutR (h : List Ev) (c : Nat → Int) : Prop where
  err : hErr h = 0
  c0 : ∀ q, 0 ≤ c q
  cl : ∀ q, c q ≤ szV h h.length q
theorem CutR.right {h : List Ev} {c : Nat → Int} (r : CutR h c) : Right h := right_of r.err
theorem Right.p6 {h : List Ev} (hR : Right h) {i : Nat} (hi : i < h.length) : eP h i < 6 := by
  obtain ⟨x, hx⟩ := at_lt hi
  have := (hR.ev i x hx).1
  rw [eP_at hx]; unfold inB at this; omega
theorem cutR_of {h : List Ev} {c : Nat → Int} (h6 : ∀ q, 6 ≤ q → c q = 0) (e : cutE h c = 0) : CutR h c := by
  obtain ⟨h1, h2, h3⟩ := cutE_ok e
  have he : hErr h = 0 := by
    unfold cutE at e
    split at e
    · assumption
    · next he => exact absurd e he
  refine ⟨he, fun q => ?_, fun q => ?_⟩
  · by_cases hq : q < 6
    · exact h2 q hq
    · rw [h6 q (by omega)]; omega
  · by_cases hq : q < 6
    · exact h3 q hq
    · rw [h6 q (by omega)]; exact (szV_le _ _ _).1
def grV (h : List Ev) (c : Nat → Int) : Nat → Nat → Int := Ct.gr h.length (eP h) (eM h) (eK h) c
theorem st_at {h : List Ev} {p j : Nat} (hj : j < (evs h.length (eP h) p).length) : (stP h h.length p)[j]? = some (vAt h.length (eP h) (eM h) (eK h) p j) := by
  unfold stP vAt
  rw [List.getElem?_map, List.getElem?_eq_getElem hj]; rfl
theorem hdS_at (b : Nat) (F : Nat → List (Nat → Int)) {p : Nat} (h : p < 6) : (hdS b F)[p]? = some (gV 6 (b + p) (F p)) := by
  match p, h with | 0, _ => rfl | 1, _ => rfl | 2, _ => rfl | 3, _ => rfl | 4, _ => rfl | 5, _ => rfl
theorem sBs_at (F : Nat → List (Nat → Int)) {p : Nat} (h : p < 6) : (sBs F)[p]? = some (gB Mt.vs (F p)) := by
  match p, h with | 0, _ => rfl | 1, _ => rfl | 2, _ => rfl | 3, _ => rfl | 4, _ => rfl | 5, _ => rfl
theorem hdS_len (b : Nat) (F : Nat → List (Nat → Int)) : (hdS b F).length = 6 := rfl
theorem sBs_len (F : Nat → List (Nat → Int)) : (sBs F).length = 6 := rfl
set_option maxRecDepth 100000 in
set_option maxHeartbeats 2000000 in
theorem cutGrow0 {H : List Blk} {a : Sc} {h : List Ev} {c : Nat → Int} {Q : AV → List Blk → Prop} (ha : ESl H a h) (hC : CutR h c) (q : Q (.c (.agg (Mt.vs (grV h c 6)))) H) :
    ACalls Try.prog 95 [.sc a, .agg (Mt.vs c)] H Q := by
  refine acalls_of tabOk Try.func95 (by kernel_rfl) rfl (by kernel_rfl) ?_
  have hra := ha.ren
  have vs_ov := fun g : Nat → Int => splice_all (xs := Mt.vs g) (ys := [.int .i64 0, .int .i64 0, .int .i64 0, .int .i64 0, .int .i64 0, .int .i64 0]) rfl
  (repeat' (first | refine awp_seq ?_ | (refine awp_region tabOk ?_; simp) | (refine awp_if ?_; simp) | refine awp_block ?_ | refine And.intro ?_ ?_ | intro _ | (refine awp_skip ?_; simp) | (refine awp_ret ?_; simp) | (refine awp_exit ?_; simp)))
  refine cutStory (ha.app _) hC.err ?_
  obtain ⟨F, hF⟩ : ∃ F, F = stP h h.length := ⟨_, rfl⟩
  have hlen : ∀ p, (F p).length = (evs h.length (eP h) p).length := fun p => by rw [hF]; simp [stP]
  have hSt : ∀ p j, j < (evs h.length (eP h) p).length → (F p)[j]? = some (vAt h.length (eP h) (eM h) (eK h) p j) := fun p j hj => by rw [hF]; exact st_at hj
  rw [← hF]
  ((try simp [hdS, vs_ov]); (repeat' (first | refine awp_seq ?_ | (refine awp_region tabOk ?_; simp [hdS, vs_ov]) | (refine awp_if ?_; simp [hdS, vs_ov]) | refine awp_block ?_ | refine And.intro ?_ ?_ | intro _ | (refine awp_skip ?_; simp [hdS, vs_ov]) | (refine awp_ret ?_; simp [hdS, vs_ov]) | (refine awp_exit ?_; simp [hdS, vs_ov]))))
  obtain ⟨K, hK⟩ : ∃ K, K = H ++ ([.own (Mt.vs c), .own [.int .i64 0, .int .i64 0, .int .i64 0, .int .i64 0, .int .i64 0, .int .i64 0]] ++ sBs F ++ [.own (hdS (H.length + 2) F)]) := ⟨_, rfl⟩
  have kl : K.length = H.length + 9 := by rw [hK]; simp [sBs]
  have k0 : ∀ M : List Blk, (K ++ M)[H.length]? = some (.own (Mt.vs c)) := fun M => by rw [hK, List.append_assoc]; simp
  have k1 : ∀ M : List Blk, (K ++ M)[H.length + 1]? = some (.own [.int .i64 0, .int .i64 0, .int .i64 0, .int .i64 0, .int .i64 0, .int .i64 0]) := fun M => by rw [hK, List.append_assoc]; simp
  have k8 : ∀ M : List Blk, (K ++ M)[H.length + 8]? = some (.own (hdS (H.length + 2) F)) := fun M => by rw [hK, List.append_assoc]; simp [sBs]
  have kp : ∀ (M : List Blk) p, p < 6 → (K ++ M)[H.length + 2 + p]? = some (gB Mt.vs (F p)) := fun M p hp => by
    rw [hK, List.append_assoc, List.getElem?_append_right (by omega), show H.length + 2 + p - H.length = p + 1 + 1 by omega]
    simp only [List.cons_append, List.nil_append, List.getElem?_cons_succ, List.append_assoc]
    rw [List.getElem?_append_left (by rw [sBs_len]; exact hp), sBs_at F hp]
  have s1 : ∀ (M : List Blk) (b : Blk), (K ++ M).set (H.length + 1) b = K.set (H.length + 1) b ++ M := fun M b => setlow' (by omega)
  refine awp_loop_at (α := {p : Nat // p ≤ 6}) (fun p => [(4, .c (.sc (.ptr (H.length + 1) 0))), (5, .c (.sc (.ptr (H.length + 8) 0))), (6, .c (.sc (.ptr K.length 0))), (12, .c (.agg (Mt.vs c))), (13, .c (.sc (.int .i64 p.1)))])
    (fun p => K ++ [.own (Mt.vs (grV h c p.1))]) (fun p => 6 - p.1) ⟨0, by omega⟩ (wk_tlE (by rw [hK]; simp [hdS, sBs, grV, Ct.gr, vs_ov]) (by simp [kl, sBs_len])) ?_
  rintro ⟨p, hp⟩
  by_cases hp6 : p < 6
  · have wp := wrapS p (by omega)
    have hp6' : (p : Int) < 6 := by omega
    have a1 := Mt.vs_at c hp6
    obtain ⟨_, a1'⟩ := List.getElem?_eq_some_iff.1 a1
    have hcp := hC.c0 p
    have hcl : c p ≤ ((evs h.length (eP h) p).length : Int) := hC.cl p
    by_cases hpos : 0 < c p
    · have hgr : grV h c (p + 1) = fun q => Vc.mx (grV h c p q) (vAt h.length (eP h) (eM h) (eK h) p (c p - 1).toNat q) := by
        unfold grV; simp only [Ct.gr]; rw [if_pos hpos]
      obtain ⟨j, hj⟩ : ∃ j : Nat, c p = (j : Int) + 1 := ⟨(c p - 1).toNat, by omega⟩
      have hjl : j < (F p).length := by rw [hlen]; omega
      have hne : (F p).length ≠ 0 := by omega
      have hat := hSt p j (by omega)
      rw [show (c p - 1).toNat = j by omega] at hgr
      generalize vAt h.length (eP h) (eM h) (eK h) p j = V at *
      have hfa := flat_at vlen hat
      have hfl := flat_lt vlen hjl
      have hV := gV_ne (es := 6) (id := H.length + 2 + p) hne
      have hB := gB_ne (enc := Mt.vs) hne
      have hkp := fun M => kp M p hp6
      have hh := hdS_at (H.length + 2) F hp6
      obtain ⟨_, hh'⟩ := List.getElem?_eq_some_iff.1 hh
      obtain ⟨OF, hOF⟩ : ∃ OF, OF = (F p).flatMap Mt.vs := ⟨_, rfl⟩
      rw [← hOF] at hfa hfl hB
      rw [hV] at hh hh'
      simp only [hB] at hkp
      have wj := wrap_in (j : Int) (by omega) (by have := szV_le h h.length p; have := hC.right.len; have : c p ≤ szV h h.length p := hC.cl p; omega)
      have hj0 : (0 : Int) < (j : Int) + 1 := by omega
      have hjl' : (j : Int) < (F p).length := by omega
      have e1 : (j : Int) + 1 - 1 = j := by omega
      (repeat' (first | refine awp_seq ?_ | (refine awp_region tabOk ?_; simp [hp6, hp6', a1, a1', hj, hj0]) | (refine awp_if ?_; simp [hp6, hp6', a1, a1', hj, hj0]) | refine awp_block ?_ | refine And.intro ?_ ?_ | intro _ | (refine awp_skip ?_; simp [hp6, hp6', a1, a1', hj, hj0]) | (refine awp_ret ?_; simp [hp6, hp6', a1, a1', hj, hj0]) | (refine awp_exit ?_; simp [hp6, hp6', a1, a1', hj, hj0])))
      refine awp_draw tabOk mixed [] (by kernel_rfl) ?_
      simp [hp6, hp6', k8, hh, hh', hdS_len, e1, wj, hjl, hjl', hkp, hfa, hfl]
      refine ⟨_, [], vectMax ⟨rfl, by simp⟩, ?_⟩
      simp
      (repeat' (first | refine awp_seq ?_ | (refine awp_region tabOk ?_; simp [wp]) | (refine awp_if ?_; simp [wp]) | refine awp_block ?_ | refine And.intro ?_ ?_ | intro _ | (refine awp_skip ?_; simp [wp]) | (refine awp_ret ?_; simp [wp]) | (refine awp_exit ?_; simp [wp])))
      exact ⟨p + 1, by omega, by omega, wk_tlE (by rw [hgr]) (by simp [wp])⟩
    · have hgr : grV h c (p + 1) = grV h c p := by unfold grV; simp only [Ct.gr]; rw [if_neg hpos]
      have hn0 : c p = 0 := by omega
      (repeat' (first | refine awp_seq ?_ | (refine awp_region tabOk ?_; simp [hp6, hp6', a1, a1', hn0, wp]) | (refine awp_if ?_; simp [hp6, hp6', a1, a1', hn0, wp]) | refine awp_block ?_ | refine And.intro ?_ ?_ | intro _ | (refine awp_skip ?_; simp [hp6, hp6', a1, a1', hn0, wp]) | (refine awp_ret ?_; simp [hp6, hp6', a1, a1', hn0, wp]) | (refine awp_exit ?_; simp [hp6, hp6', a1, a1', hn0, wp])))
      exact ⟨p + 1, by omega, by omega, wk_tlE (by rw [hgr]) (by simp [wp])⟩
  · obtain rfl : p = 6 := by omega
    rw [kl, hK, List.append_assoc, List.append_assoc]
    (repeat' (first | refine awp_seq ?_ | (refine awp_region tabOk ?_; simp [vs_ov, sBs]) | (refine awp_if ?_; simp [vs_ov, sBs]) | refine awp_block ?_ | refine And.intro ?_ ?_ | intro _ | (refine awp_skip ?_; simp [vs_ov, sBs]) | (refine awp_ret ?_; simp [vs_ov, sBs]) | (refine awp_exit ?_; simp [vs_ov, sBs])))
    exact ⟨H, _, gcTo_none (fun _ => rfl), q⟩
set_option maxRecDepth 100000 in
set_option maxHeartbeats 1000000 in
theorem cutRight {H : List Blk} {a : Sc} {h : List Ev} {c : Nat → Int} {Q : AV → List Blk → Prop} (ha : ESl H a h) (h6 : ∀ q, 6 ≤ q → c q = 0) (q0 : ¬cutE h c = 0 → Q (.tup [.sc (.bool false), .sc (.int .i64 (cutE h c))]) H)
    (q1 : cutE h c = 0 → Q (.tup [.sc (.bool (decide (wi (grV h c 6) c ∧ wi c (grV h c 6)))), .sc (.int .i64 0)]) H) :
    ACalls Try.prog 43 [.sc a, .agg (Mt.vs c)] H Q := by
  refine acalls_of tabOk Try.func43 (by kernel_rfl) rfl (by kernel_rfl) ?_
  (repeat' (first | refine awp_seq ?_ | (refine awp_region tabOk ?_; simp) | (refine awp_if ?_; simp) | refine awp_block ?_ | refine And.intro ?_ ?_ | intro _ | (refine awp_skip ?_; simp) | (refine awp_ret ?_; simp) | (refine awp_exit ?_; simp)))
  refine cutCheck (ha.app _) ?_
  by_cases he : cutE h c = 0
  · have q := q1 he
    ((try simp [he]); (repeat' (first | refine awp_seq ?_ | (refine awp_region tabOk ?_; simp [he]) | (refine awp_if ?_; simp [he]) | refine awp_block ?_ | refine And.intro ?_ ?_ | intro _ | (refine awp_skip ?_; simp [he]) | (refine awp_ret ?_; simp [he]) | (refine awp_exit ?_; simp [he]))))
    refine awp_draw tabOk mixed [] (by kernel_rfl) ?_
    simp
    refine ⟨_, [], cutGrow0 (ha.app _) (cutR_of h6 he) ⟨rfl, by simp⟩, ?_⟩
    simp [vs_eqv, vs_okv]
    (repeat' (first | refine awp_seq ?_ | (refine awp_region tabOk ?_; simp) | (refine awp_if ?_; simp) | refine awp_block ?_ | refine And.intro ?_ ?_ | intro _ | (refine awp_skip ?_; simp) | (refine awp_ret ?_; simp) | (refine awp_exit ?_; simp)))
    exact ⟨H, _, gcTo_none (fun _ => rfl), by simpa using q⟩
  · have q := q0 he
    ((try simp [he]); (repeat' (first | refine awp_seq ?_ | (refine awp_region tabOk ?_; simp [he]) | (refine awp_if ?_; simp [he]) | refine awp_block ?_ | refine And.intro ?_ ?_ | intro _ | (refine awp_skip ?_; simp [he]) | (refine awp_ret ?_; simp [he]) | (refine awp_exit ?_; simp [he]))))
    exact ⟨H, _, gcTo_none (fun _ => rfl), q⟩
set_option maxRecDepth 100000 in
set_option maxHeartbeats 1000000 in
theorem cutGrow {H : List Blk} {a : Sc} {h : List Ev} {c : Nat → Int} {Q : AV → List Blk → Prop} (ha : ESl H a h) (h6 : ∀ q, 6 ≤ q → c q = 0) (q0 : ¬cutE h c = 0 → Q (.tup [.agg (Mt.vs fun _ => 0), .sc (.int .i64 (cutE h c))]) H)
    (q1 : cutE h c = 0 → Q (.tup [.agg (Mt.vs (grV h c 6)), .sc (.int .i64 0)]) H) :
    ACalls Try.prog 44 [.sc a, .agg (Mt.vs c)] H Q := by
  refine acalls_of tabOk Try.func44 (by kernel_rfl) rfl (by kernel_rfl) ?_
  have vs_ov := fun g : Nat → Int => splice_all (xs := Mt.vs g) (ys := [.int .i64 0, .int .i64 0, .int .i64 0, .int .i64 0, .int .i64 0, .int .i64 0]) rfl
  (repeat' (first | refine awp_seq ?_ | (refine awp_region tabOk ?_; simp) | (refine awp_if ?_; simp) | refine awp_block ?_ | refine And.intro ?_ ?_ | intro _ | (refine awp_skip ?_; simp) | (refine awp_ret ?_; simp) | (refine awp_exit ?_; simp)))
  refine cutCheck (ha.app _) ?_
  by_cases he : cutE h c = 0
  · have q := q1 he
    ((try simp [he]); (repeat' (first | refine awp_seq ?_ | (refine awp_region tabOk ?_; simp [he]) | (refine awp_if ?_; simp [he]) | refine awp_block ?_ | refine And.intro ?_ ?_ | intro _ | (refine awp_skip ?_; simp [he]) | (refine awp_ret ?_; simp [he]) | (refine awp_exit ?_; simp [he]))))
    refine cutGrow0 (ha.app _) (cutR_of h6 he) ?_
    ((try simp [vs_ov]); (repeat' (first | refine awp_seq ?_ | (refine awp_region tabOk ?_; simp [vs_ov]) | (refine awp_if ?_; simp [vs_ov]) | refine awp_block ?_ | refine And.intro ?_ ?_ | intro _ | (refine awp_skip ?_; simp [vs_ov]) | (refine awp_ret ?_; simp [vs_ov]) | (refine awp_exit ?_; simp [vs_ov]))))
    exact ⟨H, _, gcTo_none (fun _ => rfl), q⟩
  · have q := q0 he
    ((try simp [he]); (repeat' (first | refine awp_seq ?_ | (refine awp_region tabOk ?_; simp [he]) | (refine awp_if ?_; simp [he]) | refine awp_block ?_ | refine And.intro ?_ ?_ | intro _ | (refine awp_skip ?_; simp [he]) | (refine awp_ret ?_; simp [he]) | (refine awp_exit ?_; simp [he]))))
    exact ⟨H, _, gcTo_none (fun _ => rfl), q⟩
end Go.Proofs.Ytjjhogleiolngaa
