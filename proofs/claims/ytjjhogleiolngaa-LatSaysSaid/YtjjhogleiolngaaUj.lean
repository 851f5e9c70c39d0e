/- LatSays: lat.Back, lat.Both, slices.Equal over pairs. -/
import Derived.Test.YtjjhogleiolngaaUi
namespace Go.Proofs.Ytjjhogleiolngaa
set_option linter.unusedSimpArgs false
set_option linter.unusedVariables false
open Go.RowKit
attribute [local irreducible] AWP ACalls Wk GcTo
attribute [local simp] tab3 ti3 tab4 ti4 tab29 ti29 tab36 ti36 tab62 ti62 tab38 ti38 tab40 ti40 tab44 ti44
open Se Po
theorem paren (f : Nat → Nat) (x : Pa) : x.enc.map (renS f) = x.enc := rfl
set_option maxRecDepth 100000 in
set_option maxHeartbeats 4000000 in
theorem latBack {H : List Blk} {a : Sc} {l : List Nat} {Q : AV → List Blk → Prop} (ha : USl H a l) (hw : ∀ s ∈ l, s < 65536)
    (q0 : ¬seErr l = 0 → Q (.tup [.agg [.int .i64 0, .nils], .sc (.int .i64 (seErr l))]) H)
    (q1 : seErr l = 0 → ∀ F N, F = fm l l.length → N = F.length → Q (.tup [.agg [.int .i64 N, gV 2 H.length (prU (cc F) N N)], .sc (.int .i64 0)]) (H ++ [gB Pa.enc (prU (cc F) N N)])) :
    ACalls Try.prog 34 [.sc a] H Q := by
  refine acalls_of tabOk Try.func34 (by kernel_rfl) rfl (by kernel_rfl) ?_
  have hgr := fun (m : Nat → Nat) (l : List Pa) => ren_gB (m := m) (enc := Pa.enc) (fun x => rfl) l
  have hgu := fun (m : Nat → Nat) (l : List Nat) => ren_gB (m := m) (enc := u16e) (fun x => rfl) l
  (repeat' (first | refine awp_seq ?_ | (refine awp_region tabOk ?_; simp) | (refine awp_if ?_; simp) | refine awp_block ?_ | refine And.intro ?_ ?_ | intro _ | (refine awp_skip ?_; simp) | (refine awp_ret ?_; simp) | (refine awp_exit ?_; simp)))
  refine latFirm (ha.app _) hw (fun he => ?_) (fun he => ?_)
  · have q := q0 he
    ((try simp [he]); (repeat' (first | refine awp_seq ?_ | (refine awp_region tabOk ?_; simp [he]) | (refine awp_if ?_; simp [he]) | refine awp_block ?_ | refine And.intro ?_ ?_ | intro _ | (refine awp_skip ?_; simp [he]) | (refine awp_ret ?_; simp [he]) | (refine awp_exit ?_; simp [he]))))
    exact ⟨H, _, gcTo_none (fun _ => rfl), q⟩
  have hL := lt_of he
  have hl1 := hL.len
  obtain ⟨F, hF⟩ : ∃ F, F = fm l l.length := ⟨_, rfl⟩
  obtain ⟨N, hN⟩ : ∃ N, N = F.length := ⟨_, rfl⟩
  have q := q1 he F N hF hN
  have hN3 : N ≤ 300 := by rw [hN, hF]; exact Nat.le_trans (fm_len _ _) hl1.2
  have hpw : F.Pairwise (· < ·) := by rw [hF]; exact fm_pw hL _
  have hmem : ∀ s ∈ F, s ≤ 4095 := fun s hs => hL.small (fm_mem (by rw [← hF]; exact hs))
  rw [← hF]
  clear q0 q1
  have lF : lenC ti40 (.sc (gV 1 (H.length + 1) F)) = some (F.length : Int) := gV_lenC (e := 44) rfl
  simp only [ti40] at lF
  rw [← hN] at lF
  ((try simp [-lenC, lF]); (repeat' (first | refine awp_seq ?_ | (refine awp_region tabOk ?_; simp [-lenC, lF]) | (refine awp_if ?_; simp [-lenC, lF]) | refine awp_block ?_ | refine And.intro ?_ ?_ | intro _ | (refine awp_skip ?_; simp [-lenC, lF]) | (refine awp_ret ?_; simp [-lenC, lF]) | (refine awp_exit ?_; simp [-lenC, lF]))))
  refine awp_loop_at (α := {i : Nat // i ≤ N}) (fun i => [(2, .c (.sc (.ptr H.length 0))), (4, .c (.sc (gV 1 (H.length + 1) F))), (6, .c (.sc (.ptr (H.length + 2) 0))), (23, .c (.sc (gV 1 (H.length + 1) F))), (24, .c (.sc (.int .i64 N))), (25, .c (.sc (.int .i64 i.1)))])
    (fun i => H ++ [.own [.int .i64 0, .nils], gB u16e F, .own [.int .i64 N, gV 2 (H.length + 3) (prU (cc F) N i.1)], gB Pa.enc (prU (cc F) N i.1)]) (fun i => N - i.1) ⟨0, by omega⟩ (wk_gcl [0, 1, 2, 9] (gcOk_of (by decide) (by simp [prU, hgu])) (by simp [prU])) ?_
  rintro ⟨i, hi⟩
  by_cases hin : i < N
  · have wi := wrapS i (by omega)
    have hin' : (i : Int) < N := by omega
    obtain ⟨s, hs⟩ : ∃ s, F[i]? = some s := ⟨F[i]'(by omega), List.getElem?_eq_getElem _⟩
    have hs1 := hmem s (List.mem_of_getElem? hs)
    have hne : F.length ≠ 0 := by omega
    have hV := gV_ne (es := 1) (id := H.length + 1) hne
    have hB := gB_ne (enc := u16e) hne
    rw [← hN] at hV
    obtain ⟨OF, hOF⟩ : ∃ OF, OF = F.flatMap u16e := ⟨_, rfl⟩
    have hcell : ∀ k t, F[k]? = some t → OF[k]? = some (Sc.int .u16 (t : Nat)) := fun k t ht => by
      have := flat_cell ulen ht (j := 0) (by omega)
      rw [Nat.mul_one, Nat.add_zero] at this
      rw [hOF, this]; rfl
    have hOr : ∀ f : Nat → Nat, OF.map (renS f) = OF := fun f => by rw [hOF, List.map_flatMap]; congr 1
    rw [← hOF] at hB
    have z1 := hcell i s hs
    obtain ⟨_, z1'⟩ := List.getElem?_eq_some_iff.1 z1
    rw [hV, hB]
    (repeat' (first | refine awp_seq ?_ | (refine awp_region tabOk ?_; simp [hin, hin', z1, z1']) | (refine awp_if ?_; simp [hin, hin', z1, z1']) | refine awp_block ?_ | refine And.intro ?_ ?_ | intro _ | (refine awp_skip ?_; simp [hin, hin', z1, z1']) | (refine awp_ret ?_; simp [hin, hin', z1, z1']) | (refine awp_exit ?_; simp [hin, hin', z1, z1'])))
    refine awp_loop_at (α := {j : Nat // j ≤ N}) (fun j => [(2, .c (.sc (.ptr H.length 0))), (4, .c (.sc (.sl (H.length + 1) 0 1 N N))), (6, .c (.sc (.ptr (H.length + 2) 0))), (23, .c (.sc (.sl (H.length + 1) 0 1 N N))), (24, .c (.sc (.int .i64 N))), (25, .c (.sc (.int .i64 i))), (7, .c (.sc (.int .i64 i))), (8, .c (.sc (.int .u16 s))), (30, .c (.sc (.sl (H.length + 1) 0 1 N N))), (31, .c (.sc (.int .i64 N))), (32, .c (.sc (.int .i64 j.1)))])
      (fun j => H ++ [.own [.int .i64 0, .nils], .own OF, .own [.int .i64 N, gV 2 (H.length + 3) (prU (cc F) N i ++ row (cc F) i j.1)], gB Pa.enc (prU (cc F) N i ++ row (cc F) i j.1)]) (fun j => N - j.1) ⟨0, by omega⟩ (wk_tlE (by simp [row]) (by simp [row])) ?_
    rintro ⟨j, hj⟩
    by_cases hjn : j < N
    · have wj := wrapS j (by omega)
      have hjn' : (j : Int) < N := by omega
      obtain ⟨t, ht⟩ : ∃ s, F[j]? = some s := ⟨F[j]'(by omega), List.getElem?_eq_getElem _⟩
      have ht1 := hmem t (List.mem_of_getElem? ht)
      have z2 := hcell j t ht
      obtain ⟨_, z2'⟩ := List.getElem?_eq_some_iff.1 z2
      have o1 := u16_and (a := s) (b := t) (by omega) (by omega)
      have hcc := cc_eq hs ht
      have hrow : prU (cc F) N i ++ row (cc F) i (j + 1) = (prU (cc F) N i ++ row (cc F) i j) ++ if cc F i j then [⟨i, j⟩] else [] := by rw [List.append_assoc]; rfl
      have hlen := pr_len (F := F) hN3 hi hj (cc F)
      have hcy : ¬i = j → s &&& t = s → cc F i j = true := fun h1 h2 => by rw [hcc]; exact decide_eq_true ⟨h2, h1⟩
      have hcn : ¬(s &&& t = s ∧ ¬i = j) → cc F i j = false := fun h1 => by rw [hcc]; exact decide_eq_false h1
      generalize hA : s &&& t = A at *
      by_cases d1 : i = j
      · rw [hcn fun h => h.2 d1, if_neg (by decide), List.append_nil] at hrow
        subst d1
        (repeat' (first | refine awp_seq ?_ | (refine awp_region tabOk ?_; simp [hjn, hjn', z2, z2', wj]) | (refine awp_if ?_; simp [hjn, hjn', z2, z2', wj]) | refine awp_block ?_ | refine And.intro ?_ ?_ | intro _ | (refine awp_skip ?_; simp [hjn, hjn', z2, z2', wj]) | (refine awp_ret ?_; simp [hjn, hjn', z2, z2', wj]) | (refine awp_exit ?_; simp [hjn, hjn', z2, z2', wj])))
        exact ⟨i + 1, by omega, by omega, wk_tlE (by rw [hrow]) (by simp [wj, hrow])⟩
      have d1' : ¬(i : Int) = j := by omega
      by_cases d2 : A = s
      · have d2' : (A : Int) = s := by omega
        rw [hcy d1 d2, if_pos rfl] at hrow
        cases hl : prU (cc F) N i ++ row (cc F) i j with
        | nil =>
          rw [hl] at hrow
          (repeat' (first | refine awp_seq ?_ | (refine awp_region tabOk ?_; simp [hjn, hjn', z2, z2', d1, d1', o1, d2, d2', wj, maxLen]) | (refine awp_if ?_; simp [hjn, hjn', z2, z2', d1, d1', o1, d2, d2', wj, maxLen]) | refine awp_block ?_ | refine And.intro ?_ ?_ | intro _ | (refine awp_skip ?_; simp [hjn, hjn', z2, z2', d1, d1', o1, d2, d2', wj, maxLen]) | (refine awp_ret ?_; simp [hjn, hjn', z2, z2', d1, d1', o1, d2, d2', wj, maxLen]) | (refine awp_exit ?_; simp [hjn, hjn', z2, z2', d1, d1', o1, d2, d2', wj, maxLen])))
          refine ⟨j + 1, by omega, by omega, ?_⟩
          rw [hrow]
          exact wk_gcl [0, 1, 2, 5] (gcOk_of (by decide) (by simp [gB, Pa.enc, hOr])) (by simp [wj])
        | cons o O =>
          rw [hl] at hrow hlen
          obtain ⟨OG, hOG, hgB, hOFl, hOFt, hOFr⟩ := gB_own plen paren o O
          rw [List.length_cons] at hlen
          have hno : ¬O.length + 1 + 1 ≤ O.length + 1 := by omega
          have hml : (O.length + 1 + 1) * 16 ≤ 140737488355328 := by omega
          have hml1 : O.length + 1 + 1 ≤ 9223372036854775807 := by omega
          (repeat' (first | refine awp_seq ?_ | (refine awp_region tabOk ?_; simp [hjn, hjn', z2, z2', d1, d1', o1, d2, d2', wj, maxLen, hgB, hno, hml, hml1, hOFl, hOFt]) | (refine awp_if ?_; simp [hjn, hjn', z2, z2', d1, d1', o1, d2, d2', wj, maxLen, hgB, hno, hml, hml1, hOFl, hOFt]) | refine awp_block ?_ | refine And.intro ?_ ?_ | intro _ | (refine awp_skip ?_; simp [hjn, hjn', z2, z2', d1, d1', o1, d2, d2', wj, maxLen, hgB, hno, hml, hml1, hOFl, hOFt]) | (refine awp_ret ?_; simp [hjn, hjn', z2, z2', d1, d1', o1, d2, d2', wj, maxLen, hgB, hno, hml, hml1, hOFl, hOFt]) | (refine awp_exit ?_; simp [hjn, hjn', z2, z2', d1, d1', o1, d2, d2', wj, maxLen, hgB, hno, hml, hml1, hOFl, hOFt])))
          refine ⟨j + 1, by omega, by omega, ?_⟩
          rw [hrow, gB_snoc, gV_snoc, ← hOG]
          exact wk_gcl [0, 1, 2, 5] (gcOk_of (by decide) (by simp [hOFr, Pa.enc, hOr])) (by simp [wj])
      · have d2' : ¬(A : Int) = s := by omega
        rw [hcn fun h => d2 h.1, if_neg (by decide), List.append_nil] at hrow
        (repeat' (first | refine awp_seq ?_ | (refine awp_region tabOk ?_; simp [hjn, hjn', z2, z2', d1, d1', o1, d2, d2', wj]) | (refine awp_if ?_; simp [hjn, hjn', z2, z2', d1, d1', o1, d2, d2', wj]) | refine awp_block ?_ | refine And.intro ?_ ?_ | intro _ | (refine awp_skip ?_; simp [hjn, hjn', z2, z2', d1, d1', o1, d2, d2', wj]) | (refine awp_ret ?_; simp [hjn, hjn', z2, z2', d1, d1', o1, d2, d2', wj]) | (refine awp_exit ?_; simp [hjn, hjn', z2, z2', d1, d1', o1, d2, d2', wj])))
        exact ⟨j + 1, by omega, by omega, wk_tlE (by rw [hrow]) (by simp [wj, hrow])⟩
    · obtain rfl : j = N := by omega
      (repeat' (first | refine awp_seq ?_ | (refine awp_region tabOk ?_; simp) | (refine awp_if ?_; simp) | refine awp_block ?_ | refine And.intro ?_ ?_ | intro _ | (refine awp_skip ?_; simp) | (refine awp_ret ?_; simp) | (refine awp_exit ?_; simp)))
      exact ⟨i + 1, by omega, by omega, wk_tlE rfl (by simp [wi])⟩
  · obtain rfl : i = N := by omega
    (repeat' (first | refine awp_seq ?_ | (refine awp_region tabOk ?_; simp) | (refine awp_if ?_; simp) | refine awp_block ?_ | refine And.intro ?_ ?_ | intro _ | (refine awp_skip ?_; simp) | (refine awp_ret ?_; simp) | (refine awp_exit ?_; simp)))
    exact ⟨H ++ [gB Pa.enc (prU (cc F) i i)], .tup [.agg [.int .i64 i, gV 2 H.length (prU (cc F) i i)], .sc (.int .i64 0)], gcTo_std [3] (gcOk_of (by decide) (by simp [hgr])) (by simp), q⟩
set_option maxRecDepth 100000 in
set_option maxHeartbeats 2000000 in
theorem latBoth {H : List Blk} {a : Sc} {l : List Nat} {i j : Int} {Q : AV → List Blk → Prop} (ha : USl H a l) (hw : ∀ s ∈ l, s < 65536)
    (q0 : ¬seErr l = 0 → Q (.tup [.sc (.int .u16 0), .sc (.int .u16 0), .sc (.int .i64 (seErr l))]) H)
    (q1 : seErr l = 0 → ¬(0 ≤ i ∧ i < l.length ∧ 0 ≤ j ∧ j < l.length) → Q (.tup [.sc (.int .u16 0), .sc (.int .u16 0), .sc (.int .i64 1)]) H)
    (q2 : seErr l = 0 → ∀ x y s t : Nat, i = x → j = y → l[x]? = some s → l[y]? = some t → Q (.tup [.sc (.int .u16 (s ||| t : Nat)), .sc (.int .u16 (s &&& t : Nat)), .sc (.int .i64 0)]) H) :
    ACalls Try.prog 35 [.sc a, .sc (.int .i64 i), .sc (.int .i64 j)] H Q := by
  refine acalls_of tabOk Try.func35 (by kernel_rfl) rfl (by kernel_rfl) ?_
  (repeat' (first | refine awp_seq ?_ | (refine awp_region tabOk ?_; simp) | (refine awp_if ?_; simp) | refine awp_block ?_ | refine And.intro ?_ ?_ | intro _ | (refine awp_skip ?_; simp) | (refine awp_ret ?_; simp) | (refine awp_exit ?_; simp)))
  refine latCheck ha hw ?_
  by_cases he : seErr l = 0
  · have q1 := q1 he
    have q2 := q2 he
    have hL := lt_of he
    have hl1 := hL.len
    obtain ⟨id, off, cap, cs, hae, hcap, hc, hx⟩ := usl_at ha (by omega)
    obtain ⟨n, hn⟩ : ∃ n, l.length = n := ⟨_, rfl⟩
    rw [hn] at hae hcap hl1 q1
    subst hae
    by_cases d1 : i < 0
    · have q := q1 (by omega)
      ((try simp [he, d1]); (repeat' (first | refine awp_seq ?_ | (refine awp_region tabOk ?_; simp [he, d1]) | (refine awp_if ?_; simp [he, d1]) | refine awp_block ?_ | refine And.intro ?_ ?_ | intro _ | (refine awp_skip ?_; simp [he, d1]) | (refine awp_ret ?_; simp [he, d1]) | (refine awp_exit ?_; simp [he, d1]))))
      exact ⟨H, _, GcTo.refl (Nat.le_refl _), q⟩
    by_cases d2 : (n : Int) ≤ i
    · have q := q1 (by omega)
      ((try simp [he, d1, d2]); (repeat' (first | refine awp_seq ?_ | (refine awp_region tabOk ?_; simp [he, d1, d2]) | (refine awp_if ?_; simp [he, d1, d2]) | refine awp_block ?_ | refine And.intro ?_ ?_ | intro _ | (refine awp_skip ?_; simp [he, d1, d2]) | (refine awp_ret ?_; simp [he, d1, d2]) | (refine awp_exit ?_; simp [he, d1, d2]))))
      exact ⟨H, _, GcTo.refl (Nat.le_refl _), q⟩
    by_cases d3 : j < 0
    · have q := q1 (by omega)
      ((try simp [he, d1, d2, d3]); (repeat' (first | refine awp_seq ?_ | (refine awp_region tabOk ?_; simp [he, d1, d2, d3]) | (refine awp_if ?_; simp [he, d1, d2, d3]) | refine awp_block ?_ | refine And.intro ?_ ?_ | intro _ | (refine awp_skip ?_; simp [he, d1, d2, d3]) | (refine awp_ret ?_; simp [he, d1, d2, d3]) | (refine awp_exit ?_; simp [he, d1, d2, d3]))))
      exact ⟨H, _, GcTo.refl (Nat.le_refl _), q⟩
    by_cases d4 : (n : Int) ≤ j
    · have q := q1 (by omega)
      ((try simp [he, d1, d2, d3, d4]); (repeat' (first | refine awp_seq ?_ | (refine awp_region tabOk ?_; simp [he, d1, d2, d3, d4]) | (refine awp_if ?_; simp [he, d1, d2, d3, d4]) | refine awp_block ?_ | refine And.intro ?_ ?_ | intro _ | (refine awp_skip ?_; simp [he, d1, d2, d3, d4]) | (refine awp_ret ?_; simp [he, d1, d2, d3, d4]) | (refine awp_exit ?_; simp [he, d1, d2, d3, d4]))))
      exact ⟨H, _, GcTo.refl (Nat.le_refl _), q⟩
    obtain ⟨x, rfl⟩ := Int.eq_ofNat_of_zero_le (show 0 ≤ i by omega)
    obtain ⟨y, rfl⟩ := Int.eq_ofNat_of_zero_le (show 0 ≤ j by omega)
    obtain ⟨s, hs⟩ : ∃ s, l[x]? = some s := ⟨l[x]'(by omega), List.getElem?_eq_getElem _⟩
    obtain ⟨t, ht⟩ : ∃ s, l[y]? = some s := ⟨l[y]'(by omega), List.getElem?_eq_getElem _⟩
    have q := q2 x y s t rfl rfl hs ht
    have z1 := hx x s hs
    obtain ⟨_, z1'⟩ := List.getElem?_eq_some_iff.1 z1
    have z2 := hx y t ht
    obtain ⟨_, z2'⟩ := List.getElem?_eq_some_iff.1 z2
    have e1 : x < n := by omega
    have e2 : y < n := by omega
    have e1' : (x : Int) < n := by omega
    have e2' : (y : Int) < n := by omega
    have b1 := hL.small (List.mem_of_getElem? hs)
    have b2 := hL.small (List.mem_of_getElem? ht)
    have o1 := u16_or (a := s) (b := t) (by omega) (by omega)
    have o2 := u16_and (a := s) (b := t) (by omega) (by omega)
    ((try simp [he, d1, d2, d3, d4, e1, e2, e1', e2']); (repeat' (first | refine awp_seq ?_ | (refine awp_region tabOk ?_; simp [he, d1, d2, d3, d4, e1, e2, e1', e2']) | (refine awp_if ?_; simp [he, d1, d2, d3, d4, e1, e2, e1', e2']) | refine awp_block ?_ | refine And.intro ?_ ?_ | intro _ | (refine awp_skip ?_; simp [he, d1, d2, d3, d4, e1, e2, e1', e2']) | (refine awp_ret ?_; simp [he, d1, d2, d3, d4, e1, e2, e1', e2']) | (refine awp_exit ?_; simp [he, d1, d2, d3, d4, e1, e2, e1', e2']))))
    refine awp_draw tabOk mixed [] (by kernel_rfl) ?_
    simp [hc, z1, z1', z2, z2', e1, e2, e1', e2', o1, o2]
    (repeat' (first | refine awp_seq ?_ | (refine awp_region tabOk ?_; simp) | (refine awp_if ?_; simp) | refine awp_block ?_ | refine And.intro ?_ ?_ | intro _ | (refine awp_skip ?_; simp) | (refine awp_ret ?_; simp) | (refine awp_exit ?_; simp)))
    exact ⟨H, _, GcTo.refl (Nat.le_refl _), q⟩
  · have q := q0 he
    ((try simp [he]); (repeat' (first | refine awp_seq ?_ | (refine awp_region tabOk ?_; simp [he]) | (refine awp_if ?_; simp [he]) | refine awp_block ?_ | refine And.intro ?_ ?_ | intro _ | (refine awp_skip ?_; simp [he]) | (refine awp_ret ?_; simp [he]) | (refine awp_exit ?_; simp [he]))))
    exact ⟨H, _, GcTo.refl (Nat.le_refl _), q⟩
theorem Pa.eq_enc (m : Pa) : eqSs m.enc m.enc = true := by simp [Pa.enc, eqSs, eqS]
theorem Pa.ok_enc (m : Pa) : okSs [.int .i64, .int .i64] m.enc = true := rfl
set_option maxRecDepth 100000 in
theorem equalPairs {H : List Blk} {a b : Sc} {xs : List Pa} {Q : AV → List Blk → Prop} (ha : GSl 2 Pa.enc H a xs) (hb : GSl 2 Pa.enc H b xs) (hn : xs.length < 1000000) (q : Q (.c (.sc (.bool true))) H) :
    ACalls Try.prog 38 [.sc a, .sc b] H Q := by
  refine acalls_of tabOk Try.func38 (by kernel_rfl) rfl (by kernel_rfl) ?_
  have la := ha.len (i := ⟨.slice 62, 1, 24, .sc .nils, none⟩) rfl
  have lb := hb.len (i := ⟨.slice 62, 1, 24, .sc .nils, none⟩) rfl
  (repeat' (first | refine awp_seq ?_ | (refine awp_region tabOk ?_; simp [-lenC, la, lb]) | (refine awp_if ?_; simp [-lenC, la, lb]) | refine awp_block ?_ | refine And.intro ?_ ?_ | intro _ | (refine awp_skip ?_; simp [-lenC, la, lb]) | (refine awp_ret ?_; simp [-lenC, la, lb]) | (refine awp_exit ?_; simp [-lenC, la, lb])))
  refine awp_loop_at (α := {i : Nat // i ≤ xs.length}) (fun i => [(0, .c (.sc a)), (1, .c (.sc b)), (12, .c (.sc (.int .i64 xs.length))), (13, .c (.sc (.int .i64 i.1)))]) (fun _ => H) (fun i => xs.length - i.1) ⟨0, by omega⟩ (wk_tl (by simp)) ?_
  rintro ⟨i, hi⟩
  by_cases hlt : i < xs.length
  · obtain ⟨x, hx⟩ : ∃ x, xs[i]? = some x := ⟨xs[i], List.getElem?_eq_getElem hlt⟩
    obtain ⟨id, off, cap, cs, rfl, hcap, hc, hrow⟩ := ha.at plen hlt
    obtain ⟨id', off', cap', cs', rfl, hcap', hc', hrow'⟩ := hb.at plen hlt
    obtain ⟨r1, r2⟩ := hrow i x hx
    obtain ⟨r3, r4⟩ := hrow' i x hx
    have wr := wrapS i (by omega)
    (repeat' (first | refine awp_seq ?_ | (refine awp_region tabOk ?_; simp [hlt]) | (refine awp_if ?_; simp [hlt]) | refine awp_block ?_ | refine And.intro ?_ ?_ | intro _ | (refine awp_skip ?_; simp [hlt]) | (refine awp_ret ?_; simp [hlt]) | (refine awp_exit ?_; simp [hlt])))
    refine awp_draw tabOk mixed [] (by kernel_rfl) ?_
    simp [hlt, hc, hc', r1, r2, r3, r4, Pa.eq_enc, Pa.ok_enc]
    (repeat' (first | refine awp_seq ?_ | (refine awp_region tabOk ?_; simp) | (refine awp_if ?_; simp) | refine awp_block ?_ | refine And.intro ?_ ?_ | intro _ | (refine awp_skip ?_; simp) | (refine awp_ret ?_; simp) | (refine awp_exit ?_; simp)))
    exact ⟨i + 1, by omega, by omega, wk_tl (by simp [wr])⟩
  · obtain rfl : i = xs.length := by omega
    (repeat' (first | refine awp_seq ?_ | (refine awp_region tabOk ?_; simp) | (refine awp_if ?_; simp) | refine awp_block ?_ | refine And.intro ?_ ?_ | intro _ | (refine awp_skip ?_; simp) | (refine awp_ret ?_; simp) | (refine awp_exit ?_; simp)))
    exact ⟨H, _, GcTo.refl (Nat.le_refl _), q⟩
end Go.Proofs.Ytjjhogleiolngaa
