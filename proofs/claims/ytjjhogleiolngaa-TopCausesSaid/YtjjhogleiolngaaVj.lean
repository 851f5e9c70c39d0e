/- VectSays: the law. -/
import Derived.Test.YtjjhogleiolngaaVi
namespace Go.Proofs.Ytjjhogleiolngaa
set_option linter.unusedSimpArgs false
set_option linter.unusedVariables false
open Go.RowKit
attribute [local irreducible] AWP ACalls Wk GcTo
attribute [local simp] tab3 ti3 tab4 ti4 tab23 ti23 tab24 ti24 tab28 ti28 tab29 ti29
open Hi Cl
theorem vs_eqs (f : Nat → Int) : eqSs (Mt.vs f) (Mt.vs f) = true := by simp [Mt.vs, eqSs, eqS]
theorem cmp_two (f g : Nat → Int) : decide (cmpV f g < 2) = decide (wi f g) := by
  unfold cmpV
  by_cases h1 : wi f g <;> by_cases h2 : wi g f <;> simp [h1, h2]
set_option maxRecDepth 100000 in
theorem equalVec {H : List Blk} {a b : Sc} {xs : List (Nat → Int)} {Q : AV → List Blk → Prop} (ha : VSl H a xs) (hb : VSl H b xs) (hn : xs.length < 1000000000)
    (q : Q (.c (.sc (.bool true))) H) : ACalls Try.prog 22 [.sc a, .sc b] H Q := by
  refine acalls_of tabOk Try.func22 (by kernel_rfl) rfl (by kernel_rfl) ?_
  have la := ha.len (i := ti28) (e := 23) rfl
  have lb := hb.len (i := ti28) (e := 23) rfl
  simp only [ti28] at la lb
  (repeat' (first | refine awp_seq ?_ | (refine awp_region tabOk ?_; simp [-lenC, la, lb]) | (refine awp_if ?_; simp [-lenC, la, lb]) | refine awp_block ?_ | refine And.intro ?_ ?_ | intro _ | (refine awp_skip ?_; simp [-lenC, la, lb]) | (refine awp_ret ?_; simp [-lenC, la, lb]) | (refine awp_exit ?_; simp [-lenC, la, lb])))
  refine awp_loop_at (α := {i : Nat // i ≤ xs.length}) (fun i => [(0, .c (.sc a)), (1, .c (.sc b)), (12, .c (.sc (.int .i64 xs.length))), (13, .c (.sc (.int .i64 i.1)))]) (fun _ => H) (fun i => xs.length - i.1) ⟨0, by omega⟩ (wk_tl (by simp)) ?_
  rintro ⟨i, hi⟩
  by_cases hlt : i < xs.length
  · obtain ⟨id, off, cap, cs, rfl, hcap, hc, hx⟩ := GSl.at vlen ha hlt
    obtain ⟨id', off', cap', cs', rfl, hcap', hc', hx'⟩ := GSl.at vlen hb hlt
    have wr := wrapS i (by omega)
    obtain ⟨r1, r2⟩ := hx i _ (List.getElem?_eq_getElem hlt)
    obtain ⟨r1', r2'⟩ := hx' i _ (List.getElem?_eq_getElem hlt)
    (repeat' (first | refine awp_seq ?_ | (refine awp_region tabOk ?_; simp [hlt]) | (refine awp_if ?_; simp [hlt]) | refine awp_block ?_ | refine And.intro ?_ ?_ | intro _ | (refine awp_skip ?_; simp [hlt]) | (refine awp_ret ?_; simp [hlt]) | (refine awp_exit ?_; simp [hlt])))
    refine awp_draw tabOk mixed [] (by kernel_rfl) ?_
    simp [hlt, hc, hc', r1, r2, r1', r2', vs_eqs, vs_okv]
    (repeat' (first | refine awp_seq ?_ | (refine awp_region tabOk ?_; simp [wr]) | (refine awp_if ?_; simp [wr]) | refine awp_block ?_ | refine And.intro ?_ ?_ | intro _ | (refine awp_skip ?_; simp [wr]) | (refine awp_ret ?_; simp [wr]) | (refine awp_exit ?_; simp [wr])))
    exact ⟨i + 1, by omega, by omega, wk_tl (by simp [wr])⟩
  · obtain rfl : i = xs.length := by omega
    (repeat' (first | refine awp_seq ?_ | (refine awp_region tabOk ?_; simp [hlt]) | (refine awp_if ?_; simp [hlt]) | refine awp_block ?_ | refine And.intro ?_ ?_ | intro _ | (refine awp_skip ?_; simp [hlt]) | (refine awp_ret ?_; simp [hlt]) | (refine awp_exit ?_; simp [hlt])))
    exact ⟨H, _, GcTo.refl (Nat.le_refl _), q⟩
set_option maxRecDepth 100000 in
set_option maxHeartbeats 2000000 in
theorem vect_law {H : List Blk} {f g : Nat → Int} {a : Sc} {h : List Ev} {Q : AV → List Blk → Prop} (ha : ESl H a h) (q : Q (.c (.sc (.bool true))) H) :
    ACalls Try.prog 3 [.agg (Mt.vs f), .agg (Mt.vs g), .sc a] H Q := by
  refine acalls_of tabOk Try.func3 (by kernel_rfl) rfl (by kernel_rfl) ?_
  have hra := ha.ren
  have ov := fun g : Nat → Int => splice_all (xs := Mt.vs g) (ys := [.int .i64 0, .int .i64 0, .int .i64 0, .int .i64 0, .int .i64 0, .int .i64 0]) rfl
  (repeat' (first | refine awp_seq ?_ | (refine awp_region tabOk ?_; simp) | (refine awp_if ?_; simp) | refine awp_block ?_ | refine And.intro ?_ ?_ | intro _ | (refine awp_skip ?_; simp) | (refine awp_ret ?_; simp) | (refine awp_exit ?_; simp)))
  refine awp_draw tabOk mixed [] (by kernel_rfl) ?_
  simp
  refine ⟨_, [], vectMax ⟨rfl, by simp⟩, ?_⟩
  simp
  refine ⟨_, [], vectMin ⟨rfl, by simp⟩, ?_⟩
  simp [ov]
  (repeat' (first | refine awp_seq ?_ | (refine awp_region tabOk ?_; simp) | (refine awp_if ?_; simp) | refine awp_block ?_ | refine And.intro ?_ ?_ | intro _ | (refine awp_skip ?_; simp) | (refine awp_ret ?_; simp) | (refine awp_exit ?_; simp)))
  refine awp_loop_at (α := {i : Nat // i ≤ 6}) (fun i => [(2, .c (.sc a)), (3, .c (.sc (.ptr H.length 0))), (4, .c (.sc (.ptr (H.length + 1) 0))), (7, .c (.sc (.ptr (H.length + 2) 0))), (8, .c (.sc (.ptr (H.length + 3) 0))), (19, .c (.sc (.int .i64 i.1)))])
    (fun _ => H ++ [.own (Mt.vs f), .own (Mt.vs g), .own (Mt.vs fun j => Vc.mx (f j) (g j)), .own (Mt.vs fun j => mn (f j) (g j))]) (fun i => 6 - i.1) ⟨0, by omega⟩ (wk_tl (by simp)) ?_
  rintro ⟨i, hi⟩
  by_cases hlt : i < 6
  · have hi6 : (i : Int) < 6 := by omega
    have wr := wrapS i (by omega)
    have a1 := Mt.vs_at f hlt
    have a2 := Mt.vs_at g hlt
    have a3 := Mt.vs_at (fun j => Vc.mx (f j) (g j)) hlt
    have hmx : (if f i < g i then g i else f i) = Vc.mx (f i) (g i) := rfl
    have hmn : (if g i < f i then g i else f i) = mn (f i) (g i) := rfl
    have a4 := Mt.vs_at (fun j => mn (f j) (g j)) hlt
    (repeat' (first | refine awp_seq ?_ | (refine awp_region tabOk ?_; simp [hi6, hlt]) | (refine awp_if ?_; simp [hi6, hlt]) | refine awp_block ?_ | refine And.intro ?_ ?_ | intro _ | (refine awp_skip ?_; simp [hi6, hlt]) | (refine awp_ret ?_; simp [hi6, hlt]) | (refine awp_exit ?_; simp [hi6, hlt])))
    refine awp_draw tabOk mixed [] (by kernel_rfl) ?_
    simp [hi6, hlt, a1, a2, a3, a4, hmx, hmn]
    (repeat' (first | refine awp_seq ?_ | (refine awp_region tabOk ?_; simp [wr]) | (refine awp_if ?_; simp [wr]) | refine awp_block ?_ | refine And.intro ?_ ?_ | intro _ | (refine awp_skip ?_; simp [wr]) | (refine awp_ret ?_; simp [wr]) | (refine awp_exit ?_; simp [wr])))
    exact ⟨i + 1, by omega, by omega, wk_tl (by simp [wr])⟩
  · obtain rfl : i = 6 := by omega
    (repeat' (first | refine awp_seq ?_ | (refine awp_region tabOk ?_; simp) | (refine awp_if ?_; simp) | refine awp_block ?_ | refine And.intro ?_ ?_ | intro _ | (refine awp_skip ?_; simp) | (refine awp_ret ?_; simp) | (refine awp_exit ?_; simp)))
    refine awp_draw tabOk mixed [] (by kernel_rfl) ?_
    simp
    refine ⟨_, [], vectCompare ⟨rfl, by simp⟩, ?_⟩
    simp
    refine ⟨_, [], refCompare ⟨rfl, by simp⟩, ?_⟩
    simp
    refine ⟨_, vectWithin ⟨rfl, rfl⟩, ?_⟩
    simp
    refine ⟨_, refCompare ⟨rfl, rfl⟩, ?_⟩
    simp [cmp_two]
    (repeat' (first | refine awp_seq ?_ | (refine awp_region tabOk ?_; simp) | (refine awp_if ?_; simp) | refine awp_block ?_ | refine And.intro ?_ ?_ | intro _ | (refine awp_skip ?_; simp) | (refine awp_ret ?_; simp) | (refine awp_exit ?_; simp)))
    refine vectVectors (ha.app _) (fun he => ?_) (fun he b L hb => ?_)
    · ((try simp); (repeat' (first | refine awp_seq ?_ | (refine awp_region tabOk ?_; simp) | (refine awp_if ?_; simp) | refine awp_block ?_ | refine And.intro ?_ ?_ | intro _ | (refine awp_skip ?_; simp) | (refine awp_ret ?_; simp) | (refine awp_exit ?_; simp))))
      refine historyErr (ha.app _) ?_
      ((try simp [he]); (repeat' (first | refine awp_seq ?_ | (refine awp_region tabOk ?_; simp [he]) | (refine awp_if ?_; simp [he]) | refine awp_block ?_ | refine And.intro ?_ ?_ | intro _ | (refine awp_skip ?_; simp [he]) | (refine awp_ret ?_; simp [he]) | (refine awp_exit ?_; simp [he]))))
      exact ⟨H, _, gcTo_none (fun _ => rfl), q⟩
    · have hR := right_of he
      obtain ⟨K, hK⟩ : ∃ K, K = H ++ [.own (Mt.vs f), .own (Mt.vs g), .own (Mt.vs fun j => Vc.mx (f j) (g j)), .own (Mt.vs fun j => mn (f j) (g j))] ++ L := ⟨_, rfl⟩
      have haK : ESl K a h := by rw [hK]; exact (ha.app _).app L
      have hKH : ∃ M, K = H ++ M := ⟨_, by rw [hK, List.append_assoc]⟩
      rw [← hK] at hb ⊢
      ((try simp); (repeat' (first | refine awp_seq ?_ | (refine awp_region tabOk ?_; simp) | (refine awp_if ?_; simp) | refine awp_block ?_ | refine And.intro ?_ ?_ | intro _ | (refine awp_skip ?_; simp) | (refine awp_ret ?_; simp) | (refine awp_exit ?_; simp))))
      refine historyErr haK ?_
      ((try simp [he]); (repeat' (first | refine awp_seq ?_ | (refine awp_region tabOk ?_; simp [he]) | (refine awp_if ?_; simp [he]) | refine awp_block ?_ | refine And.intro ?_ ?_ | intro _ | (refine awp_skip ?_; simp [he]) | (refine awp_ret ?_; simp [he]) | (refine awp_exit ?_; simp [he]))))
      refine refVectors haK hR (fun b2 L2 hb2 => ?_)
      ((try simp); (repeat' (first | refine awp_seq ?_ | (refine awp_region tabOk ?_; simp) | (refine awp_if ?_; simp) | refine awp_block ?_ | refine And.intro ?_ ?_ | intro _ | (refine awp_skip ?_; simp) | (refine awp_ret ?_; simp) | (refine awp_exit ?_; simp))))
      refine equalVec (hb.app L2) hb2 (by rw [vosL_len]; have := hR.len; omega) ?_
      ((try simp); (repeat' (first | refine awp_seq ?_ | (refine awp_region tabOk ?_; simp) | (refine awp_if ?_; simp) | refine awp_block ?_ | refine And.intro ?_ ?_ | intro _ | (refine awp_skip ?_; simp) | (refine awp_ret ?_; simp) | (refine awp_exit ?_; simp))))
      exact ⟨H, _, gcTo_Kn hKH (fun _ => rfl), q⟩
end Go.Proofs.Ytjjhogleiolngaa
