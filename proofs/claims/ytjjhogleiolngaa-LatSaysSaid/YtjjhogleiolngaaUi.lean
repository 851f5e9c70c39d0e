/- LatSays: lat.Firm, partref.Firm. -/
import Derived.Test.YtjjhogleiolngaaUh
import Derived.Test.YtjjhogleiolngaaVe
namespace Go.Proofs.Ytjjhogleiolngaa
set_option linter.unusedSimpArgs false
set_option linter.unusedVariables false
open Go.RowKit
attribute [local irreducible] AWP ACalls Wk GcTo
attribute [local simp] tab3 ti3 tab4 ti4 tab29 ti29 tab40 ti40 tab44 ti44 tab47 ti47 tab207 ti207 tab205 ti205
open Se
set_option maxRecDepth 100000 in
set_option maxHeartbeats 2000000 in
theorem latFirm {H : List Blk} {a : Sc} {l : List Nat} {Q : AV → List Blk → Prop} (ha : USl H a l) (hw : ∀ s ∈ l, s < 65536)
    (q0 : ¬seErr l = 0 → Q (.tup [.sc .nils, .sc (.int .i64 (seErr l))]) H)
    (q1 : seErr l = 0 → Q (.tup [.sc (gV 1 H.length (fm l l.length)), .sc (.int .i64 0)]) (H ++ [gB u16e (fm l l.length)])) :
    ACalls Try.prog 33 [.sc a] H Q := by
  refine acalls_of tabOk Try.func33 (by kernel_rfl) rfl (by kernel_rfl) ?_
  have hgu := fun (m : Nat → Nat) (l : List Nat) => ren_gB (m := m) (enc := u16e) (fun x => rfl) l
  (repeat' (first | refine awp_seq ?_ | (refine awp_region tabOk ?_; simp) | (refine awp_if ?_; simp) | refine awp_block ?_ | refine And.intro ?_ ?_ | intro _ | (refine awp_skip ?_; simp) | (refine awp_ret ?_; simp) | (refine awp_exit ?_; simp)))
  refine latCheck ha hw ?_
  by_cases he : seErr l = 0
  · have q := q1 he
    have hL := lt_of he
    have hl1 := hL.len
    have hf1 := fm_1 hL
    obtain ⟨id, off, cap, cs, hae, hcap, hc, hx⟩ := usl_at ha (by omega)
    obtain ⟨n, hn⟩ : ∃ n, l.length = n := ⟨_, rfl⟩
    rw [hn] at hae hcap hl1 q
    subst hae
    have hcL := fun L => lowc_of hc L
    have hid : ∀ ks top, mStd H.length ks top id = id := fun ks top => mStd_low (cells_lt hc)
    have hn1 : 1 ≤ n := hl1.1
    have hn0 : 0 < n := by omega
    have hc1 : 1 ≤ cap := by omega
    have hc2 : n ≤ cap := hcap
    have hn1' : (1 : Int) ≤ n := by omega
    ((try simp [he, hn1, hn1', hc1, hc2]); (repeat' (first | refine awp_seq ?_ | (refine awp_region tabOk ?_; simp [he, hn1, hn1', hc1, hc2]) | (refine awp_if ?_; simp [he, hn1, hn1', hc1, hc2]) | refine awp_block ?_ | refine And.intro ?_ ?_ | intro _ | (refine awp_skip ?_; simp [he, hn1, hn1', hc1, hc2]) | (refine awp_ret ?_; simp [he, hn1, hn1', hc1, hc2]) | (refine awp_exit ?_; simp [he, hn1, hn1', hc1, hc2]))))
    refine awp_loop_at (α := {j : Nat // j ≤ n - 1}) (fun j => [(0, .c (.sc (.sl id off 1 n cap))), (5, .c (.sc (gV 1 H.length (fm l (j.1 + 1))))), (17, .c (.sc (.sl id (off + 1) 1 (n - 1) (cap - 1)))), (18, .c (.sc (.int .i64 ((n - 1 : Nat) : Int)))), (19, .c (.sc (.int .i64 j.1)))])
      (fun j => H ++ [gB u16e (fm l (j.1 + 1))]) (fun j => n - j.1) ⟨0, by omega⟩ (wk_gcl0 [9] (gcOk_of (by decide) (by simp [hf1])) (by simp [hid, hf1])) ?_
    rintro ⟨j, hj⟩
    by_cases hjn : j < n - 1
    · obtain ⟨s, hs⟩ : ∃ s, l[j + 1]? = some s := ⟨l[j + 1]'(by omega), List.getElem?_eq_getElem _⟩
      have z1 := hx (j + 1) s hs
      rw [show off + (j + 1) = off + 1 + j by omega] at z1
      obtain ⟨_, z1'⟩ := List.getElem?_eq_some_iff.1 z1
      have hjn' : (j : Int) < ((n - 1 : Nat) : Int) := by omega
      have wj := wrapS j (by omega)
      have hs1 := hL.small (List.mem_of_getElem? hs)
      (repeat' (first | refine awp_seq ?_ | (refine awp_region tabOk ?_; simp [hjn, hjn', hcL, z1, z1']) | (refine awp_if ?_; simp [hjn, hjn', hcL, z1, z1']) | refine awp_block ?_ | refine And.intro ?_ ?_ | intro _ | (refine awp_skip ?_; simp [hjn, hjn', hcL, z1, z1']) | (refine awp_ret ?_; simp [hjn, hjn', hcL, z1, z1']) | (refine awp_exit ?_; simp [hjn, hjn', hcL, z1, z1'])))
      refine awp_loop_at (α := {y : Nat // y ≤ n}) (fun y => [(0, .c (.sc (.sl id off 1 n cap))), (5, .c (.sc (gV 1 H.length (fm l (j + 1))))), (17, .c (.sc (.sl id (off + 1) 1 (n - 1) (cap - 1)))), (18, .c (.sc (.int .i64 ((n - 1 : Nat) : Int)))), (19, .c (.sc (.int .i64 j))), (7, .c (.sc (.int .u16 s))), (8, .c (.sc (.int .u16 (un l s y.1 : Nat)))), (23, .c (.sc (.sl id off 1 n cap))), (24, .c (.sc (.int .i64 n))), (25, .c (.sc (.int .i64 y.1)))])
        (fun y => H ++ [gB u16e (fm l (j + 1))]) (fun y => n - y.1) ⟨0, by omega⟩ (wk_tl (by simp [un])) ?_
      rintro ⟨y, hy⟩
      by_cases hyn : y < n
      · obtain ⟨t, ht⟩ : ∃ s, l[y]? = some s := ⟨l[y]'(by omega), List.getElem?_eq_getElem _⟩
        have z2 := hx y t ht
        obtain ⟨_, z2'⟩ := List.getElem?_eq_some_iff.1 z2
        have hyn' : (y : Int) < n := by omega
        have wy := wrapS y (by omega)
        have ht1 := hL.small (List.mem_of_getElem? ht)
        have hu := un_le l s y
        have o1 := u16_and (a := t) (b := s) (by omega) (by omega)
        have o2 := u16_or (a := un l s y) (b := t) (by omega) (by omega)
        have u1 : t &&& s = t → ¬t = s → un l s (y + 1) = un l s y ||| t := fun h1 h2 => un_yes (getD_at ht) h1 h2
        have u2 : ¬(t &&& s = t ∧ ¬t = s) → un l s (y + 1) = un l s y := fun h1 => un_no (getD_at ht) h1
        generalize hA : t &&& s = A at *
        generalize hB : un l s y ||| t = B at *
        by_cases d1 : t = s
        · have d1' : (t : Int) = s := by omega
          have u3 := u2 fun h => h.2 d1
          (repeat' (first | refine awp_seq ?_ | (refine awp_region tabOk ?_; simp [hyn, hyn', hcL, z2, z2', d1, d1', wy]) | (refine awp_if ?_; simp [hyn, hyn', hcL, z2, z2', d1, d1', wy]) | refine awp_block ?_ | refine And.intro ?_ ?_ | intro _ | (refine awp_skip ?_; simp [hyn, hyn', hcL, z2, z2', d1, d1', wy]) | (refine awp_ret ?_; simp [hyn, hyn', hcL, z2, z2', d1, d1', wy]) | (refine awp_exit ?_; simp [hyn, hyn', hcL, z2, z2', d1, d1', wy])))
          exact ⟨y + 1, by omega, by omega, wk_tl (by simp [wy, u3])⟩
        · have d1' : ¬(t : Int) = s := by omega
          by_cases d2 : A = t
          · have d2' : (A : Int) = t := by omega
            have u3 := u1 d2 d1
            (repeat' (first | refine awp_seq ?_ | (refine awp_region tabOk ?_; simp [hyn, hyn', hcL, z2, z2', d1, d1', o1, d2, d2', o2, wy]) | (refine awp_if ?_; simp [hyn, hyn', hcL, z2, z2', d1, d1', o1, d2, d2', o2, wy]) | refine awp_block ?_ | refine And.intro ?_ ?_ | intro _ | (refine awp_skip ?_; simp [hyn, hyn', hcL, z2, z2', d1, d1', o1, d2, d2', o2, wy]) | (refine awp_ret ?_; simp [hyn, hyn', hcL, z2, z2', d1, d1', o1, d2, d2', o2, wy]) | (refine awp_exit ?_; simp [hyn, hyn', hcL, z2, z2', d1, d1', o1, d2, d2', o2, wy])))
            exact ⟨y + 1, by omega, by omega, wk_tl (by simp [wy, u3])⟩
          · have d2' : ¬(A : Int) = t := by omega
            have u3 := u2 fun h => d2 h.1
            (repeat' (first | refine awp_seq ?_ | (refine awp_region tabOk ?_; simp [hyn, hyn', hcL, z2, z2', d1, d1', o1, d2, d2', wy]) | (refine awp_if ?_; simp [hyn, hyn', hcL, z2, z2', d1, d1', o1, d2, d2', wy]) | refine awp_block ?_ | refine And.intro ?_ ?_ | intro _ | (refine awp_skip ?_; simp [hyn, hyn', hcL, z2, z2', d1, d1', o1, d2, d2', wy]) | (refine awp_ret ?_; simp [hyn, hyn', hcL, z2, z2', d1, d1', o1, d2, d2', wy]) | (refine awp_exit ?_; simp [hyn, hyn', hcL, z2, z2', d1, d1', o1, d2, d2', wy])))
            exact ⟨y + 1, by omega, by omega, wk_tl (by simp [wy, u3])⟩
      · obtain rfl : y = n := by omega
        have fl := fm_len l (j + 1)
        by_cases d : un l s y = s
        · have d' : ((un l s y : Nat) : Int) = s := by omega
          have f2 := fm_no hs (by rw [hn]; exact d)
          (repeat' (first | refine awp_seq ?_ | (refine awp_region tabOk ?_; simp [d, d', wj]) | (refine awp_if ?_; simp [d, d', wj]) | refine awp_block ?_ | refine And.intro ?_ ?_ | intro _ | (refine awp_skip ?_; simp [d, d', wj]) | (refine awp_ret ?_; simp [d, d', wj]) | (refine awp_exit ?_; simp [d, d', wj])))
          exact ⟨j + 1, by omega, by omega, wk_tlE (by rw [f2]) (by simp [wj, f2])⟩
        · have d' : ¬((un l s y : Nat) : Int) = s := by omega
          have f2 := fm_yes hs (by rw [hn]; exact d)
          cases hO : fm l (j + 1) with
          | nil =>
            rw [hO] at f2
            (repeat' (first | refine awp_seq ?_ | (refine awp_region tabOk ?_; simp [d, d', wj, maxLen]) | (refine awp_if ?_; simp [d, d', wj, maxLen]) | refine awp_block ?_ | refine And.intro ?_ ?_ | intro _ | (refine awp_skip ?_; simp [d, d', wj, maxLen]) | (refine awp_ret ?_; simp [d, d', wj, maxLen]) | (refine awp_exit ?_; simp [d, d', wj, maxLen])))
            refine ⟨j + 1, by omega, by omega, ?_⟩
            rw [f2]
            exact wk_gcl [2] (gcOk_of (by decide) (by simp [gB, u16e])) (by simp [hid, wj])
          | cons o O =>
            rw [hO] at f2 fl
            obtain ⟨OF, hOF, hgB, hOFl, hOFt, hOFr⟩ := gB_own ulen uren o O
            rw [List.length_cons] at fl
            rw [Nat.mul_one] at hOFl hOFt
            have hno : ¬O.length + 1 + 1 ≤ O.length + 1 := by omega
            have hml : (O.length + 1 + 1) * 2 ≤ 140737488355328 := by omega
            have hml1 : O.length + 1 + 1 ≤ 9223372036854775807 := by omega
            (repeat' (first | refine awp_seq ?_ | (refine awp_region tabOk ?_; simp [d, d', wj, maxLen, hgB, hno, hml, hml1, hOFl, hOFt]) | (refine awp_if ?_; simp [d, d', wj, maxLen, hgB, hno, hml, hml1, hOFl, hOFt]) | refine awp_block ?_ | refine And.intro ?_ ?_ | intro _ | (refine awp_skip ?_; simp [d, d', wj, maxLen, hgB, hno, hml, hml1, hOFl, hOFt]) | (refine awp_ret ?_; simp [d, d', wj, maxLen, hgB, hno, hml, hml1, hOFl, hOFt]) | (refine awp_exit ?_; simp [d, d', wj, maxLen, hgB, hno, hml, hml1, hOFl, hOFt])))
            refine ⟨j + 1, by omega, by omega, ?_⟩
            rw [f2, gB_snoc, gV_snoc, ← hOF]
            exact wk_gcl [2] (gcOk_of (by decide) (by simp [hOFr, u16e])) (by simp [hid, wj])
    · obtain rfl : j = n - 1 := by omega
      (repeat' (first | refine awp_seq ?_ | (refine awp_region tabOk ?_; simp) | (refine awp_if ?_; simp) | refine awp_block ?_ | refine And.intro ?_ ?_ | intro _ | (refine awp_skip ?_; simp) | (refine awp_ret ?_; simp) | (refine awp_exit ?_; simp)))
      rw [show n - 1 + 1 = n by omega]
      exact ⟨_, _, GcTo.refl (by simp), q⟩
  · have q := q0 he
    ((try simp [he]); (repeat' (first | refine awp_seq ?_ | (refine awp_region tabOk ?_; simp [he]) | (refine awp_if ?_; simp [he]) | refine awp_block ?_ | refine And.intro ?_ ?_ | intro _ | (refine awp_skip ?_; simp [he]) | (refine awp_ret ?_; simp [he]) | (refine awp_exit ?_; simp [he]))))
    exact ⟨H, _, GcTo.refl (Nat.le_refl _), q⟩
set_option maxRecDepth 100000 in
set_option maxHeartbeats 2000000 in
theorem refFirm {H : List Blk} {a : Sc} {l : List Nat} {Q : AV → List Blk → Prop} (ha : USl H a l) (hL : Lt l)
    (q : Q (.c (.sc (gV 1 H.length (fm l l.length)))) (H ++ [gB u16e (fm l l.length)])) :
    ACalls Try.prog 37 [.sc a] H Q := by
  refine acalls_of tabOk Try.func37 (by kernel_rfl) rfl (by kernel_rfl) ?_
  have hl1 := hL.len
  obtain ⟨id, off, cap, cs, hae, hcap, hc, hx⟩ := usl_at ha (by omega)
  obtain ⟨n, hn⟩ : ∃ n, l.length = n := ⟨_, rfl⟩
  rw [hn] at hae hcap hl1 q
  subst hae
  have hcL := fun L => lowc_of hc L
  have hid : ∀ ks top, mStd H.length ks top id = id := fun ks top => mStd_low (cells_lt hc)
  (repeat' (first | refine awp_seq ?_ | (refine awp_region tabOk ?_; simp) | (refine awp_if ?_; simp) | refine awp_block ?_ | refine And.intro ?_ ?_ | intro _ | (refine awp_skip ?_; simp) | (refine awp_ret ?_; simp) | (refine awp_exit ?_; simp)))
  refine awp_loop_at (α := {j : Nat // j ≤ n}) (fun j => [(0, .c (.sc (.sl id off 1 n cap))), (3, .c (.sc (gV 1 H.length (fm l j.1)))), (9, .c (.sc (.sl id off 1 n cap))), (10, .c (.sc (.int .i64 n))), (11, .c (.sc (.int .i64 j.1)))])
    (fun j => H ++ [gB u16e (fm l j.1)]) (fun j => n - j.1) ⟨0, by omega⟩ (wk_gcl0 [9] (gcOk_of (by decide) (by simp [fm])) (by simp [hid, fm])) ?_
  rintro ⟨j, hj⟩
  by_cases hjn : j < n
  · obtain ⟨s, hs⟩ : ∃ s, l[j]? = some s := ⟨l[j]'(by omega), List.getElem?_eq_getElem _⟩
    have z1 := hx j s hs
    obtain ⟨_, z1'⟩ := List.getElem?_eq_some_iff.1 z1
    have hjn' : (j : Int) < n := by omega
    have wj := wrapS j (by omega)
    have hs1 := hL.small (List.mem_of_getElem? hs)
    (repeat' (first | refine awp_seq ?_ | (refine awp_region tabOk ?_; simp [hjn, hjn', hcL, z1, z1']) | (refine awp_if ?_; simp [hjn, hjn', hcL, z1, z1']) | refine awp_block ?_ | refine And.intro ?_ ?_ | intro _ | (refine awp_skip ?_; simp [hjn, hjn', hcL, z1, z1']) | (refine awp_ret ?_; simp [hjn, hjn', hcL, z1, z1']) | (refine awp_exit ?_; simp [hjn, hjn', hcL, z1, z1'])))
    refine awp_loop_at (α := {y : Nat // y ≤ n}) (fun y => [(0, .c (.sc (.sl id off 1 n cap))), (3, .c (.sc (gV 1 H.length (fm l j)))), (9, .c (.sc (.sl id off 1 n cap))), (10, .c (.sc (.int .i64 n))), (11, .c (.sc (.int .i64 j))), (5, .c (.sc (.int .u16 s))), (6, .c (.sc (.int .u16 (un l s y.1 : Nat)))), (15, .c (.sc (.sl id off 1 n cap))), (16, .c (.sc (.int .i64 n))), (17, .c (.sc (.int .i64 y.1)))])
      (fun y => H ++ [gB u16e (fm l j)]) (fun y => n - y.1) ⟨0, by omega⟩ (wk_tl (by simp [un])) ?_
    rintro ⟨y, hy⟩
    by_cases hyn : y < n
    · obtain ⟨t, ht⟩ : ∃ s, l[y]? = some s := ⟨l[y]'(by omega), List.getElem?_eq_getElem _⟩
      have z2 := hx y t ht
      obtain ⟨_, z2'⟩ := List.getElem?_eq_some_iff.1 z2
      have hyn' : (y : Int) < n := by omega
      have wy := wrapS y (by omega)
      have ht1 := hL.small (List.mem_of_getElem? ht)
      have hu := un_le l s y
      have o1 := u16_or (a := t) (b := s) (by omega) (by omega)
      have o2 := u16_or (a := un l s y) (b := t) (by omega) (by omega)
      have u1 : t ||| s = s → ¬t = s → un l s (y + 1) = un l s y ||| t := fun h1 h2 => un_yes (getD_at ht) ((or_sub _ _).1 h1) h2
      have u2 : ¬(t ||| s = s ∧ ¬t = s) → un l s (y + 1) = un l s y := fun h1 => un_no (getD_at ht) fun h => h1 ⟨(or_sub _ _).2 h.1, h.2⟩
      have hle : t ||| s = s → t ≤ s := fun h => Se.Sub.le ((or_sub _ _).1 h)
      generalize hA : t ||| s = A at *
      generalize hB : un l s y ||| t = B at *
      by_cases d1 : A = s
      · have d1' : (A : Int) = s := by omega
        have := hle d1
        by_cases d2 : t < s
        · have d2' : (t : Int) < s := by omega
          have u3 := u1 d1 (by omega)
          (repeat' (first | refine awp_seq ?_ | (refine awp_region tabOk ?_; simp [hyn, hyn', hcL, z2, z2', d1, d1', o1, d2, d2', o2, wy]) | (refine awp_if ?_; simp [hyn, hyn', hcL, z2, z2', d1, d1', o1, d2, d2', o2, wy]) | refine awp_block ?_ | refine And.intro ?_ ?_ | intro _ | (refine awp_skip ?_; simp [hyn, hyn', hcL, z2, z2', d1, d1', o1, d2, d2', o2, wy]) | (refine awp_ret ?_; simp [hyn, hyn', hcL, z2, z2', d1, d1', o1, d2, d2', o2, wy]) | (refine awp_exit ?_; simp [hyn, hyn', hcL, z2, z2', d1, d1', o1, d2, d2', o2, wy])))
          exact ⟨y + 1, by omega, by omega, wk_tl (by simp [wy, u3])⟩
        · have d2' : ¬(t : Int) < s := by omega
          have u3 := u2 fun h => h.2 (by omega)
          (repeat' (first | refine awp_seq ?_ | (refine awp_region tabOk ?_; simp [hyn, hyn', hcL, z2, z2', d1, d1', o1, d2, d2', wy]) | (refine awp_if ?_; simp [hyn, hyn', hcL, z2, z2', d1, d1', o1, d2, d2', wy]) | refine awp_block ?_ | refine And.intro ?_ ?_ | intro _ | (refine awp_skip ?_; simp [hyn, hyn', hcL, z2, z2', d1, d1', o1, d2, d2', wy]) | (refine awp_ret ?_; simp [hyn, hyn', hcL, z2, z2', d1, d1', o1, d2, d2', wy]) | (refine awp_exit ?_; simp [hyn, hyn', hcL, z2, z2', d1, d1', o1, d2, d2', wy])))
          exact ⟨y + 1, by omega, by omega, wk_tl (by simp [wy, u3])⟩
      · have d1' : ¬(A : Int) = s := by omega
        have u3 := u2 fun h => d1 h.1
        (repeat' (first | refine awp_seq ?_ | (refine awp_region tabOk ?_; simp [hyn, hyn', hcL, z2, z2', d1, d1', o1, wy]) | (refine awp_if ?_; simp [hyn, hyn', hcL, z2, z2', d1, d1', o1, wy]) | refine awp_block ?_ | refine And.intro ?_ ?_ | intro _ | (refine awp_skip ?_; simp [hyn, hyn', hcL, z2, z2', d1, d1', o1, wy]) | (refine awp_ret ?_; simp [hyn, hyn', hcL, z2, z2', d1, d1', o1, wy]) | (refine awp_exit ?_; simp [hyn, hyn', hcL, z2, z2', d1, d1', o1, wy])))
        exact ⟨y + 1, by omega, by omega, wk_tl (by simp [wy, u3])⟩
    · obtain rfl : y = n := by omega
      have fl := fm_len l j
      have hu := un_le l s y
      by_cases d : un l s y < s
      · have d' : ((un l s y : Nat) : Int) < s := by omega
        have f2 := fm_yes hs (by rw [hn]; omega)
        cases hO : fm l j with
        | nil =>
          rw [hO] at f2
          (repeat' (first | refine awp_seq ?_ | (refine awp_region tabOk ?_; simp [d, d', wj, maxLen]) | (refine awp_if ?_; simp [d, d', wj, maxLen]) | refine awp_block ?_ | refine And.intro ?_ ?_ | intro _ | (refine awp_skip ?_; simp [d, d', wj, maxLen]) | (refine awp_ret ?_; simp [d, d', wj, maxLen]) | (refine awp_exit ?_; simp [d, d', wj, maxLen])))
          refine ⟨j + 1, by omega, by omega, ?_⟩
          rw [f2]
          exact wk_gcl [2] (gcOk_of (by decide) (by simp [gB, u16e])) (by simp [hid, wj])
        | cons o O =>
          rw [hO] at f2 fl
          obtain ⟨OF, hOF, hgB, hOFl, hOFt, hOFr⟩ := gB_own ulen uren o O
          rw [List.length_cons] at fl
          rw [Nat.mul_one] at hOFl hOFt
          have hno : ¬O.length + 1 + 1 ≤ O.length + 1 := by omega
          have hml : (O.length + 1 + 1) * 2 ≤ 140737488355328 := by omega
          have hml1 : O.length + 1 + 1 ≤ 9223372036854775807 := by omega
          (repeat' (first | refine awp_seq ?_ | (refine awp_region tabOk ?_; simp [d, d', wj, maxLen, hgB, hno, hml, hml1, hOFl, hOFt]) | (refine awp_if ?_; simp [d, d', wj, maxLen, hgB, hno, hml, hml1, hOFl, hOFt]) | refine awp_block ?_ | refine And.intro ?_ ?_ | intro _ | (refine awp_skip ?_; simp [d, d', wj, maxLen, hgB, hno, hml, hml1, hOFl, hOFt]) | (refine awp_ret ?_; simp [d, d', wj, maxLen, hgB, hno, hml, hml1, hOFl, hOFt]) | (refine awp_exit ?_; simp [d, d', wj, maxLen, hgB, hno, hml, hml1, hOFl, hOFt])))
          refine ⟨j + 1, by omega, by omega, ?_⟩
          rw [f2, gB_snoc, gV_snoc, ← hOF]
          exact wk_gcl [2] (gcOk_of (by decide) (by simp [hOFr, u16e])) (by simp [hid, wj])
      · have d' : ¬((un l s y : Nat) : Int) < s := by omega
        have f2 := fm_no hs (by rw [hn]; omega)
        (repeat' (first | refine awp_seq ?_ | (refine awp_region tabOk ?_; simp [d, d', wj]) | (refine awp_if ?_; simp [d, d', wj]) | refine awp_block ?_ | refine And.intro ?_ ?_ | intro _ | (refine awp_skip ?_; simp [d, d', wj]) | (refine awp_ret ?_; simp [d, d', wj]) | (refine awp_exit ?_; simp [d, d', wj])))
        exact ⟨j + 1, by omega, by omega, wk_tlE (by rw [f2]) (by simp [wj, f2])⟩
  · obtain rfl : j = n := by omega
    (repeat' (first | refine awp_seq ?_ | (refine awp_region tabOk ?_; simp) | (refine awp_if ?_; simp) | refine awp_block ?_ | refine And.intro ?_ ?_ | intro _ | (refine awp_skip ?_; simp) | (refine awp_ret ?_; simp) | (refine awp_exit ?_; simp)))
    exact ⟨_, _, GcTo.refl (by simp), q⟩
end Go.Proofs.Ytjjhogleiolngaa
