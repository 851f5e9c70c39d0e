/- Cuts: cut.Shrink. -/
import Derived.Test.YtjjhogleiolngaaKc
namespace Go.Proofs.Ytjjhogleiolngaa
set_option linter.unusedSimpArgs false
set_option linter.unusedVariables false
open Go.RowKit
attribute [local irreducible] AWP ACalls Wk GcTo
attribute [local simp] tab3 ti3 tab4 ti4 tab23 ti23 tab24 ti24 tab28 ti28 tab29 ti29 tab135 ti135 tab149 ti149
open Hi Ct
def gd (h : List Ev) (c : Nat → Int) : Nat → Prop := good h.length (eP h) (eM h) (eK h) c
noncomputable def shV (h : List Ev) (c : Nat → Int) (q : Nat) : Int := (Vc.cnt h.length (eP h) (gd h c) q : Int)
theorem gd_iff {h : List Ev} {c : Nat → Int} (hC : CutR h c) {i : Nat} (hi : i < h.length) : wi (Vc.vo (eP h) (eM h) (eK h) i) c ↔ gd h c i := by
  unfold gd good inn
  rw [← Ct.within_iff hC.c0 hi (fun i hi => Right.p6 hC.right hi)]
  unfold wi
  constructor
  · intro w q hq; rw [← hC.right.cnt hi]; exact w q hq
  · intro w q hq; rw [hC.right.cnt hi]; exact w q hq
theorem sh_at {h : List Ev} {c : Nat → Int} (hC : CutR h c) {p m : Nat} (hm : (m : Int) ≤ c p) (h1 : m = 0 ∨ ∃ i, (evs h.length (eP h) p)[m - 1]? = some i ∧ gd h c i)
    (h2 : ∀ j i, m ≤ j → (j : Int) < c p → (evs h.length (eP h) p)[j]? = some i → ¬gd h c i) : shV h c p = m := by
  have hcl : c p ≤ ((evs h.length (eP h) p).length : Int) := hC.cl p
  unfold shV
  congr 1
  refine good_cnt (by omega) (fun j i hj hi => ?_) (fun j i hj hi hg => ?_)
  · rcases h1 with h1 | ⟨k, hk, hg⟩
    · omega
    · obtain ⟨a1, a2, a3⟩ := evs_get hi
      obtain ⟨b1, b2, b3⟩ := evs_get hk
      by_cases e : j = m - 1
      · subst e; rw [hk] at hi; cases hi; exact hg
      · have hlt : i < k := by
          rcases Nat.lt_trichotomy i k with h | h | h
          · exact h
          · subst h; omega
          · have := rk_mono h (b2.trans a2.symm); omega
        exact good_down hlt b1 (a2.trans b2.symm) hg
  · by_cases e : (j : Int) < c p
    · exact h2 j i hj e hi hg
    · obtain ⟨a1, a2, a3⟩ := evs_get hi
      have := hg i a1 (.inl rfl)
      unfold inn at this
      rw [a2, a3] at this; omega
noncomputable def shO (h : List Ev) (c : Nat → Int) (p : Nat) (m : Int) (q : Nat) : Int := if q < p then shV h c q else if q = p then m else c q
theorem shO_at (h : List Ev) (c : Nat → Int) (p : Nat) (m : Int) : shO h c p m p = m := by simp [shO]
theorem shO_set {h : List Ev} {c : Nat → Int} {p : Nat} (hp : p < 6) (m m' : Int) : (Mt.vs (shO h c p m)).set p (.int .i64 m') = Mt.vs (shO h c p m') := by
  rw [Mt.vs_set _ hp]
  refine Mt.vs_ext fun j _ => ?_
  unfold shO
  by_cases e : j = p
  · subst e; simp
  · simp [e]
theorem shO_next {h : List Ev} {c : Nat → Int} {p : Nat} {m : Int} (e : shV h c p = m) : Mt.vs (shO h c p m) = Mt.vs (shO h c (p + 1) (c (p + 1))) := by
  refine Mt.vs_ext fun j _ => ?_
  unfold shO
  by_cases h1 : j < p
  · rw [if_pos h1, if_pos (by omega)]
  · rw [if_neg h1]
    by_cases h2 : j = p
    · subst h2; rw [if_pos rfl, if_pos (by omega), e]
    · rw [if_neg h2, if_neg (by omega)]
      by_cases h3 : j = p + 1
      · subst h3; rw [if_pos rfl]
      · rw [if_neg h3]
theorem shO_0 (h : List Ev) (c : Nat → Int) : Mt.vs (shO h c 0 (c 0)) = Mt.vs c := by
  refine Mt.vs_ext fun j _ => ?_
  unfold shO
  rw [if_neg (by omega)]
  split
  · next e => rw [e]
  · rfl
theorem shO_6 (h : List Ev) (c : Nat → Int) (m : Int) : Mt.vs (shO h c 6 m) = Mt.vs (shV h c) := by
  refine Mt.vs_ext fun j hj => ?_
  unfold shO; rw [if_pos hj]
set_option maxRecDepth 100000 in
set_option maxHeartbeats 2000000 in
theorem cutShrink {H : List Blk} {a : Sc} {h : List Ev} {c : Nat → Int} {Q : AV → List Blk → Prop} (ha : ESl H a h) (h6 : ∀ q, 6 ≤ q → c q = 0) (q0 : ¬cutE h c = 0 → Q (.tup [.agg (Mt.vs fun _ => 0), .sc (.int .i64 (cutE h c))]) H)
    (q1 : cutE h c = 0 → Q (.tup [.agg (Mt.vs (shV h c)), .sc (.int .i64 0)]) H) :
    ACalls Try.prog 45 [.sc a, .agg (Mt.vs c)] H Q := by
  refine acalls_of tabOk Try.func45 (by kernel_rfl) rfl (by kernel_rfl) ?_
  have hra := ha.ren
  have vs_ov := fun g : Nat → Int => splice_all (xs := Mt.vs g) (ys := [.int .i64 0, .int .i64 0, .int .i64 0, .int .i64 0, .int .i64 0, .int .i64 0]) rfl
  (repeat' (first | refine awp_seq ?_ | (refine awp_region tabOk ?_; simp) | (refine awp_if ?_; simp) | refine awp_block ?_ | refine And.intro ?_ ?_ | intro _ | (refine awp_skip ?_; simp) | (refine awp_ret ?_; simp) | (refine awp_exit ?_; simp)))
  refine cutCheck (ha.app _) ?_
  by_cases he : cutE h c = 0
  · have q := q1 he
    have hC := cutR_of h6 he
    ((try simp [he]); (repeat' (first | refine awp_seq ?_ | (refine awp_region tabOk ?_; simp [he]) | (refine awp_if ?_; simp [he]) | refine awp_block ?_ | refine And.intro ?_ ?_ | intro _ | (refine awp_skip ?_; simp [he]) | (refine awp_ret ?_; simp [he]) | (refine awp_exit ?_; simp [he]))))
    refine cutStory (ha.app _) hC.err ?_
    obtain ⟨F, hF⟩ : ∃ F, F = stP h h.length := ⟨_, rfl⟩
    have hlen : ∀ p, (F p).length = (evs h.length (eP h) p).length := fun p => by rw [hF]; simp [stP]
    have hSt : ∀ p j, j < (evs h.length (eP h) p).length → (F p)[j]? = some (vAt h.length (eP h) (eM h) (eK h) p j) := fun p j hj => by rw [hF]; exact st_at hj
    rw [← hF]
    ((try simp [hdS, vs_ov]); (repeat' (first | refine awp_seq ?_ | (refine awp_region tabOk ?_; simp [hdS, vs_ov]) | (refine awp_if ?_; simp [hdS, vs_ov]) | refine awp_block ?_ | refine And.intro ?_ ?_ | intro _ | (refine awp_skip ?_; simp [hdS, vs_ov]) | (refine awp_ret ?_; simp [hdS, vs_ov]) | (refine awp_exit ?_; simp [hdS, vs_ov]))))
    obtain ⟨K, hK⟩ : ∃ K, K = H ++ ([.own (Mt.vs c), .own [.int .i64 0, .int .i64 0, .int .i64 0, .int .i64 0, .int .i64 0, .int .i64 0]] ++ sBs F ++ [.own (hdS (H.length + 2) F)]) := ⟨_, rfl⟩
    have kl : K.length = H.length + 9 := by rw [hK]; simp [sBs]
    have k0 : ∀ M : List Blk, (K ++ M)[H.length]? = some (.own (Mt.vs c)) := fun M => by rw [hK, List.append_assoc]; simp
    have k8 : ∀ M : List Blk, (K ++ M)[H.length + 8]? = some (.own (hdS (H.length + 2) F)) := fun M => by rw [hK, List.append_assoc]; simp [sBs]
    have kp : ∀ (M : List Blk) p, p < 6 → (K ++ M)[H.length + 2 + p]? = some (gB Mt.vs (F p)) := fun M p hp => by
      rw [hK, List.append_assoc, List.getElem?_append_right (by omega), show H.length + 2 + p - H.length = p + 1 + 1 by omega]
      simp only [List.cons_append, List.nil_append, List.getElem?_cons_succ, List.append_assoc]
      rw [List.getElem?_append_left (by rw [sBs_len]; exact hp), sBs_at F hp]
    refine awp_loop_at (α := {p : Nat // p ≤ 6}) (fun p => [(3, .c (.sc (.ptr H.length 0))), (4, .c (.sc (.ptr (H.length + 1) 0))), (7, .c (.sc (.ptr (H.length + 8) 0))), (8, .c (.sc (.ptr K.length 0))), (20, .c (.sc (.int .i64 p.1)))])
      (fun p => K ++ [.own (Mt.vs (shO h c p.1 (c p.1)))]) (fun p => 6 - p.1) ⟨0, by omega⟩ (wk_tlE (by rw [hK, shO_0]; simp [hdS, sBs, vs_ov]) (by simp [kl, sBs_len])) ?_
    rintro ⟨p, hp⟩
    by_cases hp6 : p < 6
    · have wp := wrapS p (by omega)
      have hp6' : (p : Int) < 6 := by omega
      have hp5 : p ≤ 5 := by omega
      have hcp := hC.c0 p
      have hcl : c p ≤ ((evs h.length (eP h) p).length : Int) := hC.cl p
      have hcn : c p ≤ 60 := by have h1 := hC.cl p; have h2 := szV_le h h.length p; have h3 := hC.right.len; omega
      obtain ⟨m0, hm0⟩ := Int.eq_ofNat_of_zero_le hcp
      (repeat' (first | refine awp_seq ?_ | (refine awp_region tabOk ?_; simp [hp6']) | (refine awp_if ?_; simp [hp6']) | refine awp_block ?_ | refine And.intro ?_ ?_ | intro _ | (refine awp_skip ?_; simp [hp6']) | (refine awp_ret ?_; simp [hp6']) | (refine awp_exit ?_; simp [hp6'])))
      refine awp_loop_at (α := {m : Nat // (m : Int) ≤ c p ∧ ∀ j i, m ≤ j → (j : Int) < c p → (evs h.length (eP h) p)[j]? = some i → ¬gd h c i}) (fun m => [(3, .c (.sc (.ptr H.length 0))), (4, .c (.sc (.ptr (H.length + 1) 0))), (7, .c (.sc (.ptr (H.length + 8) 0))), (8, .c (.sc (.ptr K.length 0))), (20, .c (.sc (.int .i64 p))), (9, .c (.sc (.int .i64 p)))])
        (fun m => K ++ [.own (Mt.vs (shO h c p m.1))]) (fun m => m.1) ⟨m0, by omega, fun j i h1 h2 => by omega⟩ (wk_tlE (congrArg (fun z => K ++ [Blk.own (Mt.vs (shO h c p z))]) hm0) (by simp)) ?_
      rintro ⟨m, hm, hno⟩
      have a1 := Mt.vs_at (shO h c p m) hp6
      rw [shO_at] at a1
      obtain ⟨_, a1'⟩ := List.getElem?_eq_some_iff.1 a1
      by_cases hpos : 0 < m
      · obtain ⟨j, rfl⟩ : ∃ j, m = j + 1 := ⟨m - 1, by omega⟩
        have hjl : j < (F p).length := by rw [hlen]; omega
        have hne : (F p).length ≠ 0 := by omega
        have hat := hSt p j (by rw [← hlen]; exact hjl)
        obtain ⟨i, hi⟩ : ∃ i, (evs h.length (eP h) p)[j]? = some i := ⟨_, List.getElem?_eq_getElem (by rw [← hlen]; exact hjl)⟩
        obtain ⟨i1, i2, i3⟩ := evs_get hi
        have hvA : vAt h.length (eP h) (eM h) (eK h) p j = Vc.vo (eP h) (eM h) (eK h) i := by unfold vAt; rw [hi]
        have hgi := gd_iff hC i1
        rw [← hvA] at hgi
        generalize vAt h.length (eP h) (eM h) (eK h) p j = V at *
        have hfa := flat_at vlen hat
        have hfl := flat_lt vlen hjl
        have hV := gV_ne (es := 6) (id := H.length + 2 + p) hne
        have hB := gB_ne (enc := Mt.vs) hne
        have hkp := fun M => kp M p hp6
        have hh := hdS_at (H.length + 2) F hp6
        obtain ⟨_, hh'⟩ := List.getElem?_eq_some_iff.1 hh
        obtain ⟨OF, hOF⟩ : ∃ OF, OF = (F p).flatMap Mt.vs := ⟨_, rfl⟩
        rw [← hOF] at hfa hfl hB
        rw [hV] at hh hh'
        simp only [hB] at hkp
        push_cast at a1 a1'
        have wj := wrap_in (j : Int) (by omega) (by omega)
        have hj0 : (0 : Int) < (j : Int) + 1 := by omega
        have hjl' : (j : Int) < (F p).length := by omega
        have e1 : (j : Int) + 1 - 1 = j := by omega
        have st := shO_set (h := h) (c := c) hp6 ((j + 1 : Nat) : Int) (j : Int)
        push_cast at st
        by_cases hg : gd h c i
        · have hw := hgi.2 hg
          (repeat' (first | refine awp_seq ?_ | (refine awp_region tabOk ?_; simp) | (refine awp_if ?_; simp) | refine awp_block ?_ | refine And.intro ?_ ?_ | intro _ | (refine awp_skip ?_; simp) | (refine awp_ret ?_; simp) | (refine awp_exit ?_; simp)))
          refine awp_draw tabOk mixed [] (by kernel_rfl) ?_
          simp [hp6, hp6', a1, a1', hj0, k0, k8, hh, hh', hdS_len, e1, wj, hjl, hjl', hkp, hfa, hfl]
          refine ⟨_, vectWithin ⟨rfl, rfl⟩, ?_⟩
          simp [hw]
          (repeat' (first | refine awp_seq ?_ | (refine awp_region tabOk ?_; simp [wp]) | (refine awp_if ?_; simp [wp]) | refine awp_block ?_ | refine And.intro ?_ ?_ | intro _ | (refine awp_skip ?_; simp [wp]) | (refine awp_ret ?_; simp [wp]) | (refine awp_exit ?_; simp [wp])))
          have hsh := sh_at hC hm (.inr ⟨i, hi, hg⟩) hno
          exact ⟨p + 1, by omega, by omega, wk_tlE (by rw [← shO_next hsh]; rfl) (by simp [wp])⟩
        · have hw : ¬wi V c := fun w => hg (hgi.1 w)
          (repeat' (first | refine awp_seq ?_ | (refine awp_region tabOk ?_; simp) | (refine awp_if ?_; simp) | refine awp_block ?_ | refine And.intro ?_ ?_ | intro _ | (refine awp_skip ?_; simp) | (refine awp_ret ?_; simp) | (refine awp_exit ?_; simp)))
          refine awp_draw tabOk mixed [] (by kernel_rfl) ?_
          simp [hp6, hp6', a1, a1', hj0, k0, k8, hh, hh', hdS_len, e1, wj, hjl, hjl', hkp, hfa, hfl]
          refine ⟨_, vectWithin ⟨rfl, rfl⟩, ?_⟩
          simp [hw]
          (repeat' (first | refine awp_seq ?_ | (refine awp_region tabOk ?_; simp [hp6, hp6', a1, a1', e1, wj, hp5, st]) | (refine awp_if ?_; simp [hp6, hp6', a1, a1', e1, wj, hp5, st]) | refine awp_block ?_ | refine And.intro ?_ ?_ | intro _ | (refine awp_skip ?_; simp [hp6, hp6', a1, a1', e1, wj, hp5, st]) | (refine awp_ret ?_; simp [hp6, hp6', a1, a1', e1, wj, hp5, st]) | (refine awp_exit ?_; simp [hp6, hp6', a1, a1', e1, wj, hp5, st])))
          exact ⟨j, by omega, ⟨by omega, fun j' i' h1 h2 h3 => by
            by_cases e : j' = j
            · subst e; rw [hi] at h3; cases h3; exact hg
            · exact hno j' i' (by omega) h2 h3⟩, wk_tl (by simp)⟩
      · obtain rfl : m = 0 := by omega
        have hsh := sh_at hC hm (.inl rfl) hno
        have hh := hdS_at (H.length + 2) F hp6
        obtain ⟨_, hh'⟩ := List.getElem?_eq_some_iff.1 hh
        push_cast at a1 a1'
        (repeat' (first | refine awp_seq ?_ | (refine awp_region tabOk ?_; simp) | (refine awp_if ?_; simp) | refine awp_block ?_ | refine And.intro ?_ ?_ | intro _ | (refine awp_skip ?_; simp) | (refine awp_ret ?_; simp) | (refine awp_exit ?_; simp)))
        refine awp_draw tabOk mixed [] (by kernel_rfl) ?_
        have hkp := fun M => kp M p hp6
        cases hFp : F p with
        | nil =>
          rw [hFp] at hh hh'
          simp [hp6, hp6', a1, a1', k0, k8, hh, hh', hdS_len]
          refine ⟨.sc (.bool true), ?_⟩
          simp
          (repeat' (first | refine awp_seq ?_ | (refine awp_region tabOk ?_; simp [wp]) | (refine awp_if ?_; simp [wp]) | refine awp_block ?_ | refine And.intro ?_ ?_ | intro _ | (refine awp_skip ?_; simp [wp]) | (refine awp_ret ?_; simp [wp]) | (refine awp_exit ?_; simp [wp])))
          exact ⟨p + 1, by omega, by omega, wk_tlE (by rw [← shO_next hsh]; rfl) (by simp [wp])⟩
        | cons o O =>
          rw [hFp] at hh hh'
          obtain ⟨OF, hOF, hgB, hOFl, hOFt, hOFr⟩ := gB_own vlen vren o O
          simp only [hFp, hgB] at hkp
          simp [hp6, hp6', a1, a1', k0, k8, hh, hh', hdS_len, hkp]
          refine ⟨.sc (.bool true), ?_⟩
          simp
          (repeat' (first | refine awp_seq ?_ | (refine awp_region tabOk ?_; simp [wp]) | (refine awp_if ?_; simp [wp]) | refine awp_block ?_ | refine And.intro ?_ ?_ | intro _ | (refine awp_skip ?_; simp [wp]) | (refine awp_ret ?_; simp [wp]) | (refine awp_exit ?_; simp [wp])))
          exact ⟨p + 1, by omega, by omega, wk_tlE (by rw [← shO_next hsh]; rfl) (by simp [wp])⟩
    · obtain rfl : p = 6 := by omega
      rw [kl, hK, shO_6, List.append_assoc, List.append_assoc]
      (repeat' (first | refine awp_seq ?_ | (refine awp_region tabOk ?_; simp [vs_ov, sBs]) | (refine awp_if ?_; simp [vs_ov, sBs]) | refine awp_block ?_ | refine And.intro ?_ ?_ | intro _ | (refine awp_skip ?_; simp [vs_ov, sBs]) | (refine awp_ret ?_; simp [vs_ov, sBs]) | (refine awp_exit ?_; simp [vs_ov, sBs])))
      exact ⟨H, _, gcTo_none (fun _ => rfl), q⟩
  · have q := q0 he
    ((try simp [he]); (repeat' (first | refine awp_seq ?_ | (refine awp_region tabOk ?_; simp [he]) | (refine awp_if ?_; simp [he]) | refine awp_block ?_ | refine And.intro ?_ ?_ | intro _ | (refine awp_skip ?_; simp [he]) | (refine awp_ret ?_; simp [he]) | (refine awp_exit ?_; simp [he]))))
    exact ⟨H, _, gcTo_none (fun _ => rfl), q⟩
end Go.Proofs.Ytjjhogleiolngaa
