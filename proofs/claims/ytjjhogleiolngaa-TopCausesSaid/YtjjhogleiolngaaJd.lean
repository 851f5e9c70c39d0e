/- TopCauses: the law. -/
import Derived.Test.YtjjhogleiolngaaJc
import Derived.Test.YtjjhogleiolngaaVj
namespace Go.Proofs.Ytjjhogleiolngaa
set_option linter.unusedSimpArgs false
set_option linter.unusedVariables false
open Go.RowKit
attribute [local irreducible] AWP ACalls Wk GcTo
attribute [local simp] tab3 ti3 tab4 ti4 tab23 ti23 tab24 ti24 tab28 ti28 tab29 ti29 tab47 ti47
open Hi Ct Sn
theorem v_len {h : List Ev} {id : Nat} {xs : List (Nat → Int)} {n : Nat} (hn : xs.length = n) (h0 : n ≠ 0) : gV 6 id xs = .sl id 0 6 n n := by
  have := gV_ne (es := 6) (id := id) (xs := xs) (by omega)
  rwa [hn] at this
set_option maxRecDepth 100000 in
set_option maxHeartbeats 2000000 in
theorem causes_law {H : List Blk} {a : Sc} {l : List Ev} {Q : AV → List Blk → Prop} (ha : ESl H a l) (hn : l.length ≤ 9223372036854775807) (q : Q (.c (.sc (.bool true))) H) :
    ACalls Try.prog 9 [.sc a] H Q := by
  refine acalls_of tabOk Try.func9 (by kernel_rfl) rfl (by kernel_rfl) ?_
  (repeat' (first | refine awp_seq ?_ | (refine awp_region tabOk ?_; simp) | (refine awp_if ?_; simp) | refine awp_block ?_ | refine And.intro ?_ ?_ | intro _ | (refine awp_skip ?_; simp) | (refine awp_ret ?_; simp) | (refine awp_exit ?_; simp)))
  refine grownT ?_
  ((try simp); (repeat' (first | refine awp_seq ?_ | (refine awp_region tabOk ?_; simp) | (refine awp_if ?_; simp) | refine awp_block ?_ | refine And.intro ?_ ?_ | intro _ | (refine awp_skip ?_; simp) | (refine awp_ret ?_; simp) | (refine awp_exit ?_; simp))))
  refine historyOf ha hn ?_
  have he := histL_ok l
  generalize histL l = h at *
  have hR := right_of he
  have hl := hR.len
  ((try simp); (repeat' (first | refine awp_seq ?_ | (refine awp_region tabOk ?_; simp) | (refine awp_if ?_; simp) | refine awp_block ?_ | refine And.intro ?_ ?_ | intro _ | (refine awp_skip ?_; simp) | (refine awp_ret ?_; simp) | (refine awp_exit ?_; simp))))
  refine stampStamps (h := h) (GSl.own elen (by simp)) he ?_
  ((try simp); (repeat' (first | refine awp_seq ?_ | (refine awp_region tabOk ?_; simp) | (refine awp_if ?_; simp) | refine awp_block ?_ | refine And.intro ?_ ?_ | intro _ | (refine awp_skip ?_; simp) | (refine awp_ret ?_; simp) | (refine awp_exit ?_; simp))))
  refine vectVectorsX (xs := h) ((GSl.own (H := H ++ [gB Ev.enc h]) (id := H.length) elen (by simp)).app [intB (soL h)] |> fun x => by simpa using x) (fun h => absurd he h) (fun _ => ?_)
  obtain ⟨K, hK⟩ : ∃ K, K = H ++ [gB Ev.enc h, intB (soL h), gB Mt.vs (vosL h)] := ⟨_, rfl⟩
  have hKH : ∃ M, K = H ++ M := ⟨_, hK⟩
  have k0 : ESl K (gV 3 H.length h) h := by rw [hK]; exact GSl.own elen (by simp)
  have k1 : ISl K (intV (H.length + 1) (soL h)) (soL h) := by rw [hK]; exact ISl.own (by simp)
  have k2 : VSl K (gV 6 (H.length + 2) (vosL h)) (vosL h) := by rw [hK]; exact GSl.own vlen (by simp)
  have lh : lenC ⟨.slice 135, 1, 24, .sc .nils, none⟩ (.sc (gV 3 H.length h)) = some (h.length : Int) := gV_lenC rfl
  ((try simp [-lenC, lh]); (repeat' (first | refine awp_seq ?_ | (refine awp_region tabOk ?_; simp [-lenC, lh]) | (refine awp_if ?_; simp [-lenC, lh]) | refine awp_block ?_ | refine And.intro ?_ ?_ | intro _ | (refine awp_skip ?_; simp [-lenC, lh]) | (refine awp_ret ?_; simp [-lenC, lh]) | (refine awp_exit ?_; simp [-lenC, lh]))))
  rw [← hK]
  have hgoal : ∀ v : AV, (∀ top, renV (mStd H.length [] top) v = v) → GcTo H K v H v := fun v hv => by
    have := gcTo_Kn (L := []) (v := v) hKH hv
    rwa [List.append_nil] at this
  refine awp_loop_at (α := {i : Nat // i ≤ h.length}) (fun i => [(3, .c (.sc (gV 3 H.length h))), (4, .c (.sc (intV (H.length + 1) (soL h)))), (6, .c (.sc (gV 6 (H.length + 2) (vosL h)))), (35, .c (.sc (.int .i64 h.length))), (36, .c (.sc (.int .i64 i.1)))])
    (fun i => K) (fun i => h.length - i.1) ⟨0, by omega⟩ (wk_tl (by simp)) ?_
  rintro ⟨i, hi⟩
  by_cases hlt : i < h.length
  · have wri := wrapS i (by omega)
    obtain ⟨vid, voff, vcap, vcs, ev, hvcap, hvc, hvr⟩ := GSl.at vlen k2 (i := i) (by rw [vosL_len]; exact hlt)
    obtain ⟨r1, r2⟩ := hvr i _ (vosL_at hlt)
    obtain ⟨sid, soff, scap, scs, es, hscap, hsc, hsx⟩ := k1.at (i := i) (by rw [soL_len]; exact hlt)
    have s1 := hsx i _ (soL_at hlt)
    obtain ⟨_, s1'⟩ := List.getElem?_eq_some_iff.1 s1
    rw [vosL_len] at ev hvcap
    rw [soL_len] at es hscap
    have hlt' : (i : Int) < h.length := by omega
    rw [ev, es]
    (repeat' (first | refine awp_seq ?_ | (refine awp_region tabOk ?_; simp [-lenC, lh, hlt, hlt', hvc, r1, r2]) | (refine awp_if ?_; simp [-lenC, lh, hlt, hlt', hvc, r1, r2]) | refine awp_block ?_ | refine And.intro ?_ ?_ | intro _ | (refine awp_skip ?_; simp [-lenC, lh, hlt, hlt', hvc, r1, r2]) | (refine awp_ret ?_; simp [-lenC, lh, hlt, hlt', hvc, r1, r2]) | (refine awp_exit ?_; simp [-lenC, lh, hlt, hlt', hvc, r1, r2])))
    refine cutRight k0 (fun q hq => vo_6 hR hlt hq) (fun hh => absurd (vo_ok he hlt) hh) (fun _ => ?_)
    ((try simp [-lenC, lh, vo_gr he hlt]); (repeat' (first | refine awp_seq ?_ | (refine awp_region tabOk ?_; simp [-lenC, lh, vo_gr he hlt]) | (refine awp_if ?_; simp [-lenC, lh, vo_gr he hlt]) | refine awp_block ?_ | refine And.intro ?_ ?_ | intro _ | (refine awp_skip ?_; simp [-lenC, lh, vo_gr he hlt]) | (refine awp_ret ?_; simp [-lenC, lh, vo_gr he hlt]) | (refine awp_exit ?_; simp [-lenC, lh, vo_gr he hlt]))))
    refine awp_loop_at (α := {k : Nat // k ≤ h.length}) (fun k => [(3, .c (.sc (gV 3 H.length h))), (4, .c (.sc (.sl sid soff 1 h.length scap))), (6, .c (.sc (.sl vid voff 6 h.length vcap))), (35, .c (.sc (.int .i64 h.length))), (36, .c (.sc (.int .i64 i))), (8, .c (.sc (.int .i64 i))), (55, .c (.sc (.int .i64 h.length))), (56, .c (.sc (.int .i64 k.1)))])
      (fun k => K) (fun k => h.length - k.1) ⟨0, by omega⟩ (wk_tl (by simp)) ?_
    rintro ⟨k, hk⟩
    by_cases hkl : k < h.length
    · have wk := wrapS k (by omega)
      have hkl' : (k : Int) < h.length := by omega
      obtain ⟨u1, u2⟩ := hvr k _ (vosL_at hkl)
      have s2 := hsx k _ (soL_at hkl)
      obtain ⟨_, s2'⟩ := List.getElem?_eq_some_iff.1 s2
      obtain ⟨tp1, tp2⟩ := top_pair hR hlt hkl
      generalize Vc.vo (eP h) (eM h) (eK h) i = Vi at *
      generalize Vc.vo (eP h) (eM h) (eK h) k = Vk at *
      generalize so (eP h) (eM h) (eK h) i = Si at *
      generalize so (eP h) (eM h) (eK h) k = Sk at *
      obtain ⟨C, hC⟩ : ∃ C, cmpV Vi Vk = C := ⟨_, rfl⟩
      rw [hC] at tp1 tp2
      have hcase : (C = 1 ∧ ¬i = k ∧ wi Vi Vk ∧ Si < Sk) ∨ (¬C = 1 ∧ i = k) ∨ (¬C = 1 ∧ ¬i = k ∧ ¬wi Vi Vk) := by
        by_cases c1 : C = 1
        · have hlt := tp2 c1
          rw [decide_eq_true c1] at tp1
          by_cases e : i = k
          · rw [decide_eq_true e] at tp1; cases tp1
          · by_cases w : wi Vi Vk
            · exact .inl ⟨c1, e, w, hlt⟩
            · rw [decide_eq_false w, Bool.and_false] at tp1; cases tp1
        · rw [decide_eq_false c1] at tp1
          by_cases e : i = k
          · exact .inr (.inl ⟨c1, e⟩)
          · by_cases w : wi Vi Vk
            · rw [decide_eq_false e, decide_eq_true w] at tp1; cases tp1
            · exact .inr (.inr ⟨c1, e, w⟩)
      (repeat' (first | refine awp_seq ?_ | (refine awp_region tabOk ?_; simp [-lenC, lh, hkl]) | (refine awp_if ?_; simp [-lenC, lh, hkl]) | refine awp_block ?_ | refine And.intro ?_ ?_ | intro _ | (refine awp_skip ?_; simp [-lenC, lh, hkl]) | (refine awp_ret ?_; simp [-lenC, lh, hkl]) | (refine awp_exit ?_; simp [-lenC, lh, hkl])))
      refine awp_draw tabOk mixed [] (by kernel_rfl) ?_
      simp [hlt, hlt', hkl, hkl', hvc, r1, r2, u1, u2]
      refine ⟨_, [], vectCompare ⟨rfl, by simp⟩, ?_⟩
      simp [hC]
      (repeat' (first | refine awp_seq ?_ | (refine awp_region tabOk ?_; simp) | (refine awp_if ?_; simp) | refine awp_block ?_ | refine And.intro ?_ ?_ | intro _ | (refine awp_skip ?_; simp) | (refine awp_ret ?_; simp) | (refine awp_exit ?_; simp)))
      refine awp_draw tabOk mixed [] (by kernel_rfl) ?_
      rcases hcase with ⟨c1, c2, c3, c4⟩ | ⟨c1, c2⟩ | ⟨c1, c2, c3⟩
      · have c2' : ¬(i : Int) = k := by omega
        have c5 : ¬Sk ≤ Si := by omega
        simp [hlt, hlt', hkl, hkl', hvc, r1, r2, u1, u2, c1, c2, c2']
        refine ⟨_, vectWithin ⟨rfl, rfl⟩, ?_⟩
        simp [c3]
        (repeat' (first | refine awp_seq ?_ | (refine awp_region tabOk ?_; simp) | (refine awp_if ?_; simp) | refine awp_block ?_ | refine And.intro ?_ ?_ | intro _ | (refine awp_skip ?_; simp) | (refine awp_ret ?_; simp) | (refine awp_exit ?_; simp)))
        refine awp_draw tabOk mixed [] (by kernel_rfl) ?_
        simp [hlt, hlt', hkl, hkl', hsc, s1, s1', s2, s2', c5]
        (repeat' (first | refine awp_seq ?_ | (refine awp_region tabOk ?_; simp [wk]) | (refine awp_if ?_; simp [wk]) | refine awp_block ?_ | refine And.intro ?_ ?_ | intro _ | (refine awp_skip ?_; simp [wk]) | (refine awp_ret ?_; simp [wk]) | (refine awp_exit ?_; simp [wk])))
        exact ⟨k + 1, by omega, by omega, wk_tl (by simp [wk])⟩
      · subst c2
        simp [hlt, hlt', hkl, hkl', hvc, r1, r2, u1, u2, c1]
        refine ⟨.sc (.bool true), ?_⟩
        simp
        (repeat' (first | refine awp_seq ?_ | (refine awp_region tabOk ?_; simp) | (refine awp_if ?_; simp) | refine awp_block ?_ | refine And.intro ?_ ?_ | intro _ | (refine awp_skip ?_; simp) | (refine awp_ret ?_; simp) | (refine awp_exit ?_; simp)))
        refine awp_draw tabOk mixed [] (by kernel_rfl) ?_
        simp [hlt, hlt', hkl, hkl', hsc, s1, s1', s2, s2']
        (repeat' (first | refine awp_seq ?_ | (refine awp_region tabOk ?_; simp [wk]) | (refine awp_if ?_; simp [wk]) | refine awp_block ?_ | refine And.intro ?_ ?_ | intro _ | (refine awp_skip ?_; simp [wk]) | (refine awp_ret ?_; simp [wk]) | (refine awp_exit ?_; simp [wk])))
        exact ⟨i + 1, by omega, by omega, wk_tl (by simp [wk])⟩
      · have c2' : ¬(i : Int) = k := by omega
        simp [hlt, hlt', hkl, hkl', hvc, r1, r2, u1, u2, c1, c2, c2']
        refine ⟨_, vectWithin ⟨rfl, rfl⟩, ?_⟩
        simp [c3]
        (repeat' (first | refine awp_seq ?_ | (refine awp_region tabOk ?_; simp) | (refine awp_if ?_; simp) | refine awp_block ?_ | refine And.intro ?_ ?_ | intro _ | (refine awp_skip ?_; simp) | (refine awp_ret ?_; simp) | (refine awp_exit ?_; simp)))
        refine awp_draw tabOk mixed [] (by kernel_rfl) ?_
        simp [hlt, hlt', hkl, hkl', hsc, s1, s1', s2, s2']
        (repeat' (first | refine awp_seq ?_ | (refine awp_region tabOk ?_; simp [wk]) | (refine awp_if ?_; simp [wk]) | refine awp_block ?_ | refine And.intro ?_ ?_ | intro _ | (refine awp_skip ?_; simp [wk]) | (refine awp_ret ?_; simp [wk]) | (refine awp_exit ?_; simp [wk])))
        exact ⟨k + 1, by omega, by omega, wk_tl (by simp [wk])⟩
    · obtain rfl : k = h.length := by omega
      (repeat' (first | refine awp_seq ?_ | (refine awp_region tabOk ?_; simp) | (refine awp_if ?_; simp) | refine awp_block ?_ | refine And.intro ?_ ?_ | intro _ | (refine awp_skip ?_; simp) | (refine awp_ret ?_; simp) | (refine awp_exit ?_; simp)))
      exact ⟨i + 1, by omega, by omega, wk_tl (by simp [wri])⟩
  · obtain rfl : i = h.length := by omega
    (repeat' (first | refine awp_seq ?_ | (refine awp_region tabOk ?_; simp [hlt]) | (refine awp_if ?_; simp [hlt]) | refine awp_block ?_ | refine And.intro ?_ ?_ | intro _ | (refine awp_skip ?_; simp [hlt]) | (refine awp_ret ?_; simp [hlt]) | (refine awp_exit ?_; simp [hlt])))
    exact ⟨H, _, hgoal _ (fun _ => rfl), q⟩
end Go.Proofs.Ytjjhogleiolngaa
