/- WireSays: slices.Concat over ints, NoteRead$1. -/
import Derived.Test.YtdeockoaalpcjaaWd
namespace Go.Proofs.Ytdeockoaalpcjaa
set_option linter.unusedSimpArgs false
set_option linter.unusedVariables false
open Go.RowKit
attribute [local irreducible] AWP ACalls Wk GcTo
attribute [local simp] tab3 ti3 tab9 ti9 tab5 ti5 tab24 ti24 tab25 ti25
open Wi
set_option maxRecDepth 100000 in
theorem growNil {H : List Blk} {n : Nat} {Q : AV → List Blk → Prop} (h0 : 0 < n) (hn : n < 1000000)
    (q : Q (.c (.sc (.sl H.length 0 1 0 n))) (H ++ [.own (List.replicate n (Sc.int .i64 0))])) :
    ACalls Try.prog 137 [.sc .nils, .sc (.int .i64 n)] H Q := by
  refine acalls_of tabOk Try.func137 (by kernel_rfl) rfl (by kernel_rfl) ?_
  have w0 : IntKind.i64.wrap 0 = 0 := wrap_in _ (by omega) (by omega)
  have w1 := wrap_in (n : Int) (by omega) (by omega)
  have h1 : (0 : Int) < n := by omega
  have h2 : (n : Int) ≤ 9223372036854775807 := by omega
  have h3 : (n : Int) * 8 ≤ 281474976710656 := by omega
  (repeat' (first | refine awp_seq ?_ | (refine awp_region tabOk ?_; simp [w0, w1, h0, h1, h2, h3]) | (refine awp_if ?_; simp [w0, w1, h0, h1, h2, h3]) | refine awp_block ?_ | refine And.intro ?_ ?_ | intro _ | (refine awp_skip ?_; simp [w0, w1, h0, h1, h2, h3]) | (refine awp_ret ?_; simp [w0, w1, h0, h1, h2, h3]) | (refine awp_exit ?_; simp [w0, w1, h0, h1, h2, h3])))
  all_goals first | trivial | exact ⟨_, _, GcTo.refl (by simp), q⟩
/-- The two lists, one behind the other; not both empty. -/
theorem concat2 {H : List Blk} {g : Nat} {a b : Sc} {xs ys : List Int} {Q : AV → List Blk → Prop} (hg : Blk.cells? H[g]? = some [a, b]) (ha : ISl H a xs) (hb : ISl H b ys) (h0 : 0 < xs.length + ys.length) (hn : xs.length + ys.length < 1000000)
    (q : Q (.c (.sc (.sl H.length 0 1 (xs.length + ys.length) (xs.length + ys.length)))) (H ++ [.own (intsC (xs ++ ys))])) :
    ACalls Try.prog 74 [.sc (.sl g 0 1 2 2)] H Q := by
  refine acalls_of tabOk Try.func74 (by kernel_rfl) rfl (by kernel_rfl) ?_
  have la := ha.len
  have lb := hb.len
  have wl := wrap_in (xs.length : Int) (by omega) (by omega)
  have wl2 := wrap_in ((xs.length : Int) + ys.length) (by omega) (by omega)
  have p1 : ¬((xs.length : Int) < 0) := by omega
  have p2 : ¬((xs.length : Int) + ys.length < 0) := by omega
  have w1 : IntKind.i64.wrap 1 = 1 := wrap_in _ (by omega) (by omega)
  have w2 : IntKind.i64.wrap 2 = 2 := wrap_in _ (by omega) (by omega)
  have hgl := fun L => lowc_of hg L
  (repeat' (first | refine awp_seq ?_ | (refine awp_region tabOk ?_; simp) | (refine awp_if ?_; simp) | refine awp_block ?_ | refine And.intro ?_ ?_ | intro _ | (refine awp_skip ?_; simp) | (refine awp_ret ?_; simp) | (refine awp_exit ?_; simp)))
  refine awp_loop_at (α := {i : Nat // i ≤ 2}) (fun i => [(0, .c (.sc (.sl g 0 1 2 2))), (3, .c (.sc (.int .i64 (match i.1 with | 0 => 0 | 1 => xs.length | _ => (xs.length : Int) + ys.length)))), (9, .c (.sc (.sl g 0 1 2 2))), (10, .c (.sc (.int .i64 2))), (11, .c (.sc (.int .i64 i.1)))]) (fun _ => H) (fun i => 2 - i.1) ⟨0, by omega⟩ (wk_tl (by simp)) ?_
  rintro ⟨i, hi⟩
  match i, hi with
  | 0, _ =>
    (repeat' (first | refine awp_seq ?_ | (refine awp_region tabOk ?_; simp [-lenC, hg, la, lb, wl, p1, w1]) | (refine awp_if ?_; simp [-lenC, hg, la, lb, wl, p1, w1]) | refine awp_block ?_ | refine And.intro ?_ ?_ | intro _ | (refine awp_skip ?_; simp [-lenC, hg, la, lb, wl, p1, w1]) | (refine awp_ret ?_; simp [-lenC, hg, la, lb, wl, p1, w1]) | (refine awp_exit ?_; simp [-lenC, hg, la, lb, wl, p1, w1])))
    exact ⟨1, by omega, by omega, wk_tl (by simp [w1])⟩
  | 1, _ =>
    (repeat' (first | refine awp_seq ?_ | (refine awp_region tabOk ?_; simp [-lenC, hg, la, lb, wl2, p2, w2]) | (refine awp_if ?_; simp [-lenC, hg, la, lb, wl2, p2, w2]) | refine awp_block ?_ | refine And.intro ?_ ?_ | intro _ | (refine awp_skip ?_; simp [-lenC, hg, la, lb, wl2, p2, w2]) | (refine awp_ret ?_; simp [-lenC, hg, la, lb, wl2, p2, w2]) | (refine awp_exit ?_; simp [-lenC, hg, la, lb, wl2, p2, w2])))
    exact ⟨2, by omega, by omega, wk_tl (by simp [w2])⟩
  | 2, _ =>
    (repeat' (first | refine awp_seq ?_ | (refine awp_region tabOk ?_; simp) | (refine awp_if ?_; simp) | refine awp_block ?_ | refine And.intro ?_ ?_ | intro _ | (refine awp_skip ?_; simp) | (refine awp_ret ?_; simp) | (refine awp_exit ?_; simp)))
    refine growNil (n := xs.length + ys.length) h0 hn ?_
    ((try simp); (repeat' (first | refine awp_seq ?_ | (refine awp_region tabOk ?_; simp) | (refine awp_if ?_; simp) | refine awp_block ?_ | refine And.intro ?_ ?_ | intro _ | (refine awp_skip ?_; simp) | (refine awp_ret ?_; simp) | (refine awp_exit ?_; simp))))
    have tz : ∀ (l : List Int), (intsC l).take l.length = intsC l := fun l => List.take_of_length_le (by simp)
    refine awp_loop_at (α := {i : Nat // i ≤ 2}) (fun i => match i.1 with
        | 0 => [(6, .c (.sc (.sl H.length 0 1 0 (xs.length + ys.length)))), (25, .c (.sc (.sl g 0 1 2 2))), (26, .c (.sc (.int .i64 2))), (27, .c (.sc (.int .i64 0)))]
        | 1 => [(6, .c (.sc (.sl H.length 0 1 xs.length xs.length))), (25, .c (.sc (.sl g 0 1 2 2))), (26, .c (.sc (.int .i64 2))), (27, .c (.sc (.int .i64 1)))]
        | _ => [(6, .c (.sc (.sl H.length 0 1 (xs.length + ys.length) (xs.length + ys.length)))), (25, .c (.sc (.sl g 0 1 2 2))), (26, .c (.sc (.int .i64 2))), (27, .c (.sc (.int .i64 2)))])
      (fun i => match i.1 with
        | 0 => H ++ [.own (List.replicate (xs.length + ys.length) (Sc.int .i64 0))]
        | 1 => H ++ [.own (intsC xs)]
        | _ => H ++ [.own (intsC (xs ++ ys))]) (fun i => 2 - i.1) ⟨0, by omega⟩ (wk_tlH rfl (by simp)) ?_
    have gm : ∀ ks top, mStd H.length ks top g = g := fun ks top => mStd_low (cells_lt hg)
    rintro ⟨i, hi⟩
    match i, hi with
    | 0, _ =>
      rcases ha with ⟨rfl, rfl | rfl⟩ | ⟨id, off, cap, cs, rfl, h1, h2, h3, h4⟩
      · (repeat' (first | refine awp_seq ?_ | (refine awp_region tabOk ?_; simp [hgl, maxLen]) | (refine awp_if ?_; simp [hgl, maxLen]) | refine awp_block ?_ | refine And.intro ?_ ?_ | intro _ | (refine awp_skip ?_; simp [hgl, maxLen]) | (refine awp_ret ?_; simp [hgl, maxLen]) | (refine awp_exit ?_; simp [hgl, maxLen])))
        exact ⟨1, by omega, by omega, wk_gcl [1] (gcOk_of (by decide) (by simp [intsC])) (by simp [w1, gm])⟩
      · (repeat' (first | refine awp_seq ?_ | (refine awp_region tabOk ?_; simp [hgl, maxLen]) | (refine awp_if ?_; simp [hgl, maxLen]) | refine awp_block ?_ | refine And.intro ?_ ?_ | intro _ | (refine awp_skip ?_; simp [hgl, maxLen]) | (refine awp_ret ?_; simp [hgl, maxLen]) | (refine awp_exit ?_; simp [hgl, maxLen])))
        exact ⟨1, by omega, by omega, wk_gcl [1] (gcOk_of (by decide) (by simp [intsC])) (by simp [w1, gm])⟩
      · have src := isl_src h2 h4
        have hcL := fun L => lowc_of h3 L
        (repeat' (first | refine awp_seq ?_ | (refine awp_region tabOk ?_; simp [hgl, maxLen, hcL, h2, src]) | (refine awp_if ?_; simp [hgl, maxLen, hcL, h2, src]) | refine awp_block ?_ | refine And.intro ?_ ?_ | intro _ | (refine awp_skip ?_; simp [hgl, maxLen, hcL, h2, src]) | (refine awp_ret ?_; simp [hgl, maxLen, hcL, h2, src]) | (refine awp_exit ?_; simp [hgl, maxLen, hcL, h2, src])))
        · omega
        · omega
        exact ⟨1, by omega, by omega, wk_gcl [1] (gcOk_of (by decide) (by simp)) (by simp [w1, gm])⟩
    | 1, _ =>
      rcases hb with ⟨rfl, rfl | rfl⟩ | ⟨id, off, cap, cs, rfl, h1, h2, h3, h4⟩
      · (repeat' (first | refine awp_seq ?_ | (refine awp_region tabOk ?_; simp [hgl, maxLen, tz]) | (refine awp_if ?_; simp [hgl, maxLen, tz]) | refine awp_block ?_ | refine And.intro ?_ ?_ | intro _ | (refine awp_skip ?_; simp [hgl, maxLen, tz]) | (refine awp_ret ?_; simp [hgl, maxLen, tz]) | (refine awp_exit ?_; simp [hgl, maxLen, tz])))
        all_goals first | omega | skip
        exact ⟨2, by omega, by omega, wk_gcl [1] (gcOk_of (by decide) (by simp)) (by simp [w2, gm])⟩
      · (repeat' (first | refine awp_seq ?_ | (refine awp_region tabOk ?_; simp [hgl, maxLen, tz]) | (refine awp_if ?_; simp [hgl, maxLen, tz]) | refine awp_block ?_ | refine And.intro ?_ ?_ | intro _ | (refine awp_skip ?_; simp [hgl, maxLen, tz]) | (refine awp_ret ?_; simp [hgl, maxLen, tz]) | (refine awp_exit ?_; simp [hgl, maxLen, tz])))
        all_goals first | omega | skip
        exact ⟨2, by omega, by omega, wk_gcl [1] (gcOk_of (by decide) (by simp)) (by simp [w2, gm])⟩
      · have src := isl_src h2 h4
        have hcL := fun L => lowc_of h3 L
        (repeat' (first | refine awp_seq ?_ | (refine awp_region tabOk ?_; simp [hgl, maxLen, hcL, h2, src, tz]) | (refine awp_if ?_; simp [hgl, maxLen, hcL, h2, src, tz]) | refine awp_block ?_ | refine And.intro ?_ ?_ | intro _ | (refine awp_skip ?_; simp [hgl, maxLen, hcL, h2, src, tz]) | (refine awp_ret ?_; simp [hgl, maxLen, hcL, h2, src, tz]) | (refine awp_exit ?_; simp [hgl, maxLen, hcL, h2, src, tz])))
        all_goals first | omega | skip
        exact ⟨2, by omega, by omega, wk_gcl [1] (gcOk_of (by decide) (by simp)) (by simp [w2, gm])⟩
    | 2, _ =>
      (repeat' (first | refine awp_seq ?_ | (refine awp_region tabOk ?_; simp) | (refine awp_if ?_; simp) | refine awp_block ?_ | refine And.intro ?_ ?_ | intro _ | (refine awp_skip ?_; simp) | (refine awp_ret ?_; simp) | (refine awp_exit ?_; simp)))
      exact ⟨_, _, GcTo.refl (by simp), q⟩
set_option maxRecDepth 100000 in
theorem three {H : List Blk} {id i : Nat} {s : ByteArray} {Q : AV → List Blk → Prop} (hH : Blk.cells? H[id]? = some [.str s]) (hi : i + 3 ≤ s.size) (hn : i < 1000000)
    (q : Q (.c (.sc (.int .i64 ((bat s i + 256 * bat s (i + 1) + 65536 * bat s (i + 2) : Nat) : Int)))) H) :
    ACalls Try.prog 113 [.sc (.int .i64 i), .sc (.ptr id 0)] H Q := by
  refine acalls_of tabOk Try.func113 (by kernel_rfl) rfl (by kernel_rfl) ?_
  have b0 := bat_lt s i
  have b1 := bat_lt s (i + 1)
  have b2 := bat_lt s (i + 2)
  have c0 : (s[i]?.getD 0).toNat = bat s i := rfl
  have c1 : (s[i + 1]?.getD 0).toNat = bat s (i + 1) := rfl
  have c2 : (s[i + 2]?.getD 0).toNat = bat s (i + 2) := rfl
  have d0 : ∀ h, (s[i]'h).toNat = bat s i := fun h => by unfold bat; rw [getElem?_pos s i h]; rfl
  have d1 : ∀ h, (s[i + 1]'h).toNat = bat s (i + 1) := fun h => by unfold bat; rw [getElem?_pos s (i + 1) h]; rfl
  have d2 : ∀ h, (s[i + 2]'h).toNat = bat s (i + 2) := fun h => by unfold bat; rw [getElem?_pos s (i + 2) h]; rfl
  generalize bat s i = x at *
  generalize bat s (i + 1) = y at *
  generalize bat s (i + 2) = z at *
  have w1 : IntKind.i64.wrap ((i : Int) + 1) = ((i + 1 : Nat) : Int) := wrapS i (by omega)
  have w2 : IntKind.i64.wrap ((i : Int) + 2) = ((i + 2 : Nat) : Int) := by rw [wrap_in _ (by omega) (by omega)]; rfl
  have x0 := wrap_in (x : Int) (by omega) (by omega)
  have x1 := wrap_in (y : Int) (by omega) (by omega)
  have x2 := wrap_in (z : Int) (by omega) (by omega)
  have x3 := wrap_in (256 * (y : Int)) (by omega) (by omega)
  have x4 := wrap_in (65536 * (z : Int)) (by omega) (by omega)
  have x5 := wrap_in ((x : Int) + 256 * y) (by omega) (by omega)
  have x6 : IntKind.i64.wrap ((x : Int) + 256 * y + 65536 * z) = ((x + 256 * y + 65536 * z : Nat) : Int) := by rw [wrap_in _ (by omega) (by omega)]; omega
  have l0 : i < s.size := by omega
  have l1 : i + 1 < s.size := by omega
  have l2 : i + 2 < s.size := by omega
  have t1 : ((i : Int) + 1).toNat = i + 1 := by omega
  have t2 : ((i : Int) + 2).toNat = i + 2 := by omega
  have p1 : (0 : Int) ≤ (i : Int) + 1 := by omega
  have p2 : (0 : Int) ≤ (i : Int) + 2 := by omega
  have q1 : (i : Int) + 1 < s.size := by omega
  have q2 : (i : Int) + 2 < s.size := by omega
  (repeat' (first | refine awp_seq ?_ | (refine awp_region tabOk ?_; simp) | (refine awp_if ?_; simp) | refine awp_block ?_ | refine And.intro ?_ ?_ | intro _ | (refine awp_skip ?_; simp) | (refine awp_ret ?_; simp) | (refine awp_exit ?_; simp)))
  refine awp_draw tabOk mixed [] (by kernel_rfl) ?_
  simp [hH, w1, w2, x0, x1, x2, x3, x4, x5, x6, l0, l1, l2, c0, c1, c2, d0, d1, d2, t1, t2, p1, p2, q1, q2]
  (repeat' (first | refine awp_seq ?_ | (refine awp_region tabOk ?_; simp [x6]) | (refine awp_if ?_; simp [x6]) | refine awp_block ?_ | refine And.intro ?_ ?_ | intro _ | (refine awp_skip ?_; simp [x6]) | (refine awp_ret ?_; simp [x6]) | (refine awp_exit ?_; simp [x6])))
  exact ⟨H, _, GcTo.refl (Nat.le_refl _), by simpa using q⟩
end Go.Proofs.Ytdeockoaalpcjaa
