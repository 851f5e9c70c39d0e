/- RingSays: ring.Round, ring.probe. -/
import Derived.Test.YtdeockoaalpcjaaG3
namespace Go.Proofs.Ytdeockoaalpcjaa
set_option linter.unusedSimpArgs false
set_option linter.unusedVariables false
open Go.RowKit
attribute [local irreducible] AWP ACalls Wk GcTo
attribute [local simp] tab3 ti3 tab24 ti24 tab22 ti22
open Rg
namespace Rg
theorem sum_at {f : Nat → Nat} (n : Nat) : sum f (n + 1) = sum f n + f n := rfl
theorem sum_le {f : Nat → Nat} {b : Nat} (h : ∀ i, f i ≤ b) : ∀ n, sum f n ≤ n * b
  | 0 => by simp [sum]
  | n + 1 => by have := sum_le h n; have := h n; rw [sum_at, Nat.add_mul]; omega
end Rg
set_option maxRecDepth 100000 in
theorem ringRound {H : List Blk} {a : Sc} {l : List Int} {Q : AV → List Blk → Prop} (ha : ISl H a l) (q0 : ¬err l = 0 → Q (.tup [.sc (.int .i64 0), .sc (.int .i64 0), .sc (.int .i64 (err l))]) H)
    (q1 : err l = 0 → Q (.tup [.sc (.int .i64 (lead l)), .sc (.int .i64 (sent l)), .sc (.int .i64 0)]) H) :
    ACalls Try.prog 30 [.sc a] H Q := by
  refine acalls_of tabOk Try.func30 (by kernel_rfl) rfl (by kernel_rfl) ?_
  (repeat' (first | refine awp_seq ?_ | (refine awp_region tabOk ?_; simp) | (refine awp_if ?_; simp) | refine awp_block ?_ | refine And.intro ?_ ?_ | intro _ | (refine awp_skip ?_; simp) | (refine awp_ret ?_; simp) | (refine awp_exit ?_; simp)))
  refine ringCheck ha ?_
  by_cases he : err l = 0
  · have q := q1 he
    have hR := right_of he
    obtain ⟨id, off, cap, cs, rfl, hcap, hc, hx⟩ := ha.at (i := 0) (by have := hR.n1; omega)
    obtain ⟨n, hn⟩ : ∃ n, l.length = n := ⟨_, rfl⟩
    have hn1 : 1 ≤ n := hn ▸ hR.n1
    have hn2 : n ≤ 30 := hn ▸ hR.n2
    rw [hn]
    ((try simp [he]); (repeat' (first | refine awp_seq ?_ | (refine awp_region tabOk ?_; simp [he]) | (refine awp_if ?_; simp [he]) | refine awp_block ?_ | refine And.intro ?_ ?_ | intro _ | (refine awp_skip ?_; simp [he]) | (refine awp_ret ?_; simp [he]) | (refine awp_exit ?_; simp [he]))))
    have hs : ∀ i, sum (fun i => cnt l 1 i n) i ≤ i * n := fun i => sum_le (fun _ => cnt_le n) i
    refine awp_loop_at (α := {i : Nat // i ≤ n}) (fun i => [(0, .c (.sc (.sl id off 1 n cap))), (6, .c (.sc (.int .i64 n))), (7, .c (.sc (.int .i64 (sum (fun i => cnt l 1 i n) i.1 : Nat)))), (8, .c (.sc (.int .i64 (last (fun i => alive l 1 i (n - 1)) 0 i.1)))), (20, .c (.sc (.sl id off 1 n cap))), (21, .c (.sc (.int .i64 n))), (22, .c (.sc (.int .i64 i.1)))]) (fun _ => H) (fun i => n - i.1) ⟨0, by omega⟩ (wk_tl (by simp [sum, last])) ?_
    rintro ⟨i, hi⟩
    by_cases hlt : i < n
    · have hil : i < l.length := by omega
      have hxi := hx i _ (val_at hil)
      have wr := wrapS i (by omega)
      have hsi := hs i
      have hsn : i * n ≤ 30 * 30 := Nat.mul_le_mul (by omega) hn2
      (repeat' (first | refine awp_seq ?_ | (refine awp_region tabOk ?_; simp [hlt, hc, hxi]) | (refine awp_if ?_; simp [hlt, hc, hxi]) | refine awp_block ?_ | refine And.intro ?_ ?_ | intro _ | (refine awp_skip ?_; simp [hlt, hc, hxi]) | (refine awp_ret ?_; simp [hlt, hc, hxi]) | (refine awp_exit ?_; simp [hlt, hc, hxi])))
      refine awp_loop_at (α := {k : Nat // 1 ≤ k ∧ k ≤ n ∧ alive l 1 i (k - 1) = true}) (fun k => [(0, .c (.sc (.sl id off 1 n cap))), (6, .c (.sc (.int .i64 n))), (7, .c (.sc (.int .i64 (sum (fun i => cnt l 1 i n) i + (k.1 - 1) : Nat)))), (8, .c (.sc (.int .i64 (last (fun i => alive l 1 i (n - 1)) 0 i)))), (9, .c (.sc (.int .i64 i))), (10, .c (.sc (.int .i64 (val l i)))), (11, .c (.sc (.int .i64 k.1))), (20, .c (.sc (.sl id off 1 n cap))), (21, .c (.sc (.int .i64 n))), (22, .c (.sc (.int .i64 i)))]) (fun _ => H) (fun k => n - k.1) ⟨1, by omega, by omega, rfl⟩ (wk_tl (by simp)) ?_
      rintro ⟨k, hk1, hk2, hal⟩
      have hp : pos n 1 i k < n := pos_lt hlt
      have hxp := hx _ _ (val_at (l := l) (i := pos n 1 i k) (by omega))
      have w1 : IntKind.i64.wrap (((sum (fun i => cnt l 1 i n) i + (k - 1) : Nat) : Int) + 1) = ((sum (fun i => cnt l 1 i n) i + k : Nat) : Int) := by
        rw [wrapS _ (by omega)]; congr 1; omega
      rw [Int.natCast_add] at w1
      have w2 : (IntKind.i64.wrap ((i : Int) + k)).tmod n = (pos n 1 i k : Nat) := by
        have e := wrapN (i + k) (by omega)
        rw [Int.natCast_add] at e
        rw [e, ← Int.natCast_add, ← Int.ofNat_tmod]; unfold pos; rw [Nat.mul_one]
      have wk := wrapS k (by omega)
      have hn0 : ¬n = 0 := by omega
      by_cases hpi : pos n 1 i k = i
      · have hkn : k = n := (pos_one hlt hk1 hk2).1 hpi
        subst hkn
        have e1 : sum (fun i => cnt l 1 i k) i + k = sum (fun i => cnt l 1 i k) (i + 1) := by
          rw [sum_at, cnt_all fun j hj => alive_mono hal (by omega)]
        have e2 : last (fun i => alive l 1 i (k - 1)) 0 (i + 1) = i := by show (if _ then _ else _) = _; rw [if_pos hal]
        rw [e1] at w1
        (repeat' (first | refine awp_seq ?_ | (refine awp_region tabOk ?_; simp [w1, w2, hn0, hpi, wr]) | (refine awp_if ?_; simp [w1, w2, hn0, hpi, wr]) | refine awp_block ?_ | refine And.intro ?_ ?_ | intro _ | (refine awp_skip ?_; simp [w1, w2, hn0, hpi, wr]) | (refine awp_ret ?_; simp [w1, w2, hn0, hpi, wr]) | (refine awp_exit ?_; simp [w1, w2, hn0, hpi, wr])))
        exact ⟨i + 1, by omega, by omega, wk_tl (by simp [e2])⟩
      · have hpz : ¬((pos n 1 i k : Nat) : Int) = i := by omega
        by_cases hv : val l i < val l (pos n 1 i k)
        · have hst : stop l 1 i k = true := by unfold stop; rw [hn, decide_eq_true hv, Bool.or_true]
          have hkn : k < n := by
            rcases Nat.lt_or_ge k n with h | h
            · exact h
            · exact absurd ((pos_one hlt hk1 hk2).2 (by omega)) hpi
          have hdead : alive l 1 i k = false := by
            obtain ⟨m, rfl⟩ : ∃ m, k = m + 1 := ⟨k - 1, by omega⟩
            simp only [alive, hst, Bool.not_true, Bool.and_false]
          have e1 : sum (fun i => cnt l 1 i n) i + k = sum (fun i => cnt l 1 i n) (i + 1) := by
            rw [sum_at, cnt_end hdead hk2, cnt_all fun j hj => alive_mono hal (by omega)]
          have e2 : last (fun i => alive l 1 i (n - 1)) 0 (i + 1) = last (fun i => alive l 1 i (n - 1)) 0 i := by
            show (if _ then _ else _) = _; rw [if_neg (by show ¬alive l 1 i (n - 1) = true; rw [alive_dead hdead (by omega)]; simp)]
          rw [e1] at w1
          (repeat' (first | refine awp_seq ?_ | (refine awp_region tabOk ?_; simp [w1, w2, hn0, hpz, hp, hc, hxp, hv, wr]) | (refine awp_if ?_; simp [w1, w2, hn0, hpz, hp, hc, hxp, hv, wr]) | refine awp_block ?_ | refine And.intro ?_ ?_ | intro _ | (refine awp_skip ?_; simp [w1, w2, hn0, hpz, hp, hc, hxp, hv, wr]) | (refine awp_ret ?_; simp [w1, w2, hn0, hpz, hp, hc, hxp, hv, wr]) | (refine awp_exit ?_; simp [w1, w2, hn0, hpz, hp, hc, hxp, hv, wr])))
          exact ⟨i + 1, by omega, by omega, wk_tl (by simp [e2])⟩
        · have hst : stop l 1 i k = false := by unfold stop; rw [hn, decide_eq_false hv, decide_eq_false hpi]; rfl
          have hal2 : alive l 1 i k = true := by
            obtain ⟨m, rfl⟩ : ∃ m, k = m + 1 := ⟨k - 1, by omega⟩
            simp only [Nat.add_sub_cancel] at hal
            simp only [alive, hst, hal, Bool.not_false, Bool.and_true]
          have hkn : k < n := by
            rcases Nat.lt_or_ge k n with h | h
            · exact h
            · exact absurd ((pos_one hlt hk1 hk2).2 (by omega)) hpi
          have hv' : val l (pos n 1 i k) ≤ val l i := by omega
          (repeat' (first | refine awp_seq ?_ | (refine awp_region tabOk ?_; simp [w1, w2, hn0, hpz, hp, hc, hxp, hv, hv', wk]) | (refine awp_if ?_; simp [w1, w2, hn0, hpz, hp, hc, hxp, hv, hv', wk]) | refine awp_block ?_ | refine And.intro ?_ ?_ | intro _ | (refine awp_skip ?_; simp [w1, w2, hn0, hpz, hp, hc, hxp, hv, hv', wk]) | (refine awp_ret ?_; simp [w1, w2, hn0, hpz, hp, hc, hxp, hv, hv', wk]) | (refine awp_exit ?_; simp [w1, w2, hn0, hpz, hp, hc, hxp, hv, hv', wk])))
          exact ⟨k + 1, by omega, ⟨by omega, by omega, by simpa using hal2⟩, wk_tl (by simp)⟩
    · obtain rfl : i = n := by omega
      have e1 : lead l = last (fun i => alive l 1 i (l.length - 1)) 0 l.length := rfl
      have e2 : sent l = sum (fun i => cnt l 1 i l.length) l.length := rfl
      rw [e1, e2, hn] at q
      (repeat' (first | refine awp_seq ?_ | (refine awp_region tabOk ?_; simp [hlt]) | (refine awp_if ?_; simp [hlt]) | refine awp_block ?_ | refine And.intro ?_ ?_ | intro _ | (refine awp_skip ?_; simp [hlt]) | (refine awp_ret ?_; simp [hlt]) | (refine awp_exit ?_; simp [hlt])))
      exact ⟨H, _, GcTo.refl (Nat.le_refl _), q⟩
  · ((try simp [he]); (repeat' (first | refine awp_seq ?_ | (refine awp_region tabOk ?_; simp [he]) | (refine awp_if ?_; simp [he]) | refine awp_block ?_ | refine And.intro ?_ ?_ | intro _ | (refine awp_skip ?_; simp [he]) | (refine awp_ret ?_; simp [he]) | (refine awp_exit ?_; simp [he]))))
    exact ⟨H, _, GcTo.refl (Nat.le_refl _), q0 he⟩
set_option maxRecDepth 100000 in
theorem ringProbe {H : List Blk} {a : Sc} {l : List Int} {i w far : Nat} {wi : Int} {Q : AV → List Blk → Prop} (ha : ISl H a l) (hi : i < l.length) (hn2 : l.length ≤ 30) (hwi : wi = w) (hw : w ≤ 30) (hfar : far ≤ 60)
    (q : Q (.tup [.sc (.int .i64 ((probeA l w i far).1 : Nat)), .sc (.bool (probeA l w i far).2)]) H) :
    ACalls Try.prog 108 [.sc a, .sc (.int .i64 i), .sc (.int .i64 wi), .sc (.int .i64 far)] H Q := by
  subst hwi
  refine acalls_of tabOk Try.func108 (by kernel_rfl) rfl (by kernel_rfl) ?_
  obtain ⟨id, off, cap, cs, rfl, hcap, hc, hx⟩ := ha.at hi
  obtain ⟨n, hn⟩ : ∃ n, l.length = n := ⟨_, rfl⟩
  rw [hn] at hi hn2
  have hxi := hx i _ (val_at (by omega))
  rw [hn]
  (repeat' (first | refine awp_seq ?_ | (refine awp_region tabOk ?_; simp) | (refine awp_if ?_; simp) | refine awp_block ?_ | refine And.intro ?_ ?_ | intro _ | (refine awp_skip ?_; simp) | (refine awp_ret ?_; simp) | (refine awp_exit ?_; simp)))
  refine awp_loop_at (α := {k : Nat // 1 ≤ k ∧ k ≤ far + 1 ∧ probeA l w i far = lookA l w i far (far + 1 - k) k}) (fun k => [(0, .c (.sc (.sl id off 1 n cap))), (1, .c (.sc (.int .i64 i))), (2, .c (.sc (.int .i64 w))), (3, .c (.sc (.int .i64 far))), (10, .c (.sc (.int .i64 n))), (11, .c (.sc (.int .i64 k.1)))]) (fun _ => H) (fun k => far + 1 - k.1) ⟨1, by omega, by omega, rfl⟩ (wk_tl (by simp)) ?_
  rintro ⟨k, hk1, hk2, hal⟩
  by_cases hlt : k ≤ far
  · have hp : pos n w i k < n := pos_lt hi
    have hxp := hx _ _ (val_at (l := l) (i := pos n w i k) (by omega))
    have hkw : k * w ≤ 60 * 30 := Nat.mul_le_mul (by omega) hw
    have w1 : IntKind.i64.wrap ((k : Int) * w) = ((k * w : Nat) : Int) := by
      have := wrapN (k * w) (by omega)
      rwa [Int.natCast_mul] at this
    have w2 : (IntKind.i64.wrap ((i : Int) + ((k * w : Nat) : Int))).tmod n = (pos n w i k : Nat) := by
      have e := wrapN (i + k * w) (by omega)
      rw [Int.natCast_add] at e
      rw [e, ← Int.natCast_add, ← Int.ofNat_tmod]; rfl
    have wk := wrapS k (by omega)
    have hn0 : ¬n = 0 := by omega
    obtain ⟨f, hf⟩ : ∃ f, far + 1 - k = f + 1 := ⟨far - k, by omega⟩
    rw [hf] at hal
    unfold lookA at hal
    rw [hn] at hal
    rw [Int.natCast_mul] at w1 w2
    by_cases hpi : pos n w i k = i
    · rw [if_pos hpi] at hal
      rw [hal] at q
      (repeat' (first | refine awp_seq ?_ | (refine awp_region tabOk ?_; simp [hlt, w1, w2, hn0, hpi]) | (refine awp_if ?_; simp [hlt, w1, w2, hn0, hpi]) | refine awp_block ?_ | refine And.intro ?_ ?_ | intro _ | (refine awp_skip ?_; simp [hlt, w1, w2, hn0, hpi]) | (refine awp_ret ?_; simp [hlt, w1, w2, hn0, hpi]) | (refine awp_exit ?_; simp [hlt, w1, w2, hn0, hpi])))
      exact ⟨H, _, GcTo.refl (Nat.le_refl _), q⟩
    · rw [if_neg hpi] at hal
      have hpz : ¬((pos n w i k : Nat) : Int) = i := by omega
      (repeat' (first | refine awp_seq ?_ | (refine awp_region tabOk ?_; simp [hlt, w1, w2, hn0, hpz]) | (refine awp_if ?_; simp [hlt, w1, w2, hn0, hpz]) | refine awp_block ?_ | refine And.intro ?_ ?_ | intro _ | (refine awp_skip ?_; simp [hlt, w1, w2, hn0, hpz]) | (refine awp_ret ?_; simp [hlt, w1, w2, hn0, hpz]) | (refine awp_exit ?_; simp [hlt, w1, w2, hn0, hpz])))
      refine awp_draw tabOk mixed [] (by kernel_rfl) ?_
      by_cases hv : val l i < val l (pos n w i k)
      · rw [if_pos hv] at hal
        rw [hal] at q
        simp [hp, hi, hc, hxp, hxi, hv]
        (repeat' (first | refine awp_seq ?_ | (refine awp_region tabOk ?_; simp [hv]) | (refine awp_if ?_; simp [hv]) | refine awp_block ?_ | refine And.intro ?_ ?_ | intro _ | (refine awp_skip ?_; simp [hv]) | (refine awp_ret ?_; simp [hv]) | (refine awp_exit ?_; simp [hv])))
        exact ⟨H, _, GcTo.refl (Nat.le_refl _), q⟩
      · rw [if_neg hv] at hal
        have hv' : val l (pos n w i k) ≤ val l i := by omega
        simp [hp, hi, hc, hxp, hxi, hv, hv']
        (repeat' (first | refine awp_seq ?_ | (refine awp_region tabOk ?_; simp [hv, hv', wk]) | (refine awp_if ?_; simp [hv, hv', wk]) | refine awp_block ?_ | refine And.intro ?_ ?_ | intro _ | (refine awp_skip ?_; simp [hv, hv', wk]) | (refine awp_ret ?_; simp [hv, hv', wk]) | (refine awp_exit ?_; simp [hv, hv', wk])))
        exact ⟨k + 1, by omega, ⟨by omega, by omega, by rw [hal, show far + 1 - (k + 1) = f by omega]⟩, wk_tl (by simp)⟩
  · obtain rfl : k = far + 1 := by omega
    rw [Nat.sub_self] at hal
    have hal : probeA l w i far = (2 * far, true) := hal
    rw [hal] at q
    have w3 : IntKind.i64.wrap (2 * (far : Int)) = ((2 * far : Nat) : Int) := by
      have := wrapN (2 * far) (by omega)
      rwa [Int.natCast_mul] at this
    have hlt' : far < far + 1 := by omega
    have hlt2 : ¬((far : Int) + 1 ≤ far) := by omega
    rw [Int.natCast_mul] at w3 q
    (repeat' (first | refine awp_seq ?_ | (refine awp_region tabOk ?_; simp [hlt', hlt2, w3]) | (refine awp_if ?_; simp [hlt', hlt2, w3]) | refine awp_block ?_ | refine And.intro ?_ ?_ | intro _ | (refine awp_skip ?_; simp [hlt', hlt2, w3]) | (refine awp_ret ?_; simp [hlt', hlt2, w3]) | (refine awp_exit ?_; simp [hlt', hlt2, w3])))
    exact ⟨H, _, GcTo.refl (Nat.le_refl _), q⟩
end Go.Proofs.Ytdeockoaalpcjaa
