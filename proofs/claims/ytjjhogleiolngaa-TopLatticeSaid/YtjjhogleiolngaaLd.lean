/- Posets: poset.pairs, Check, Close; partref.PosetErr. -/
import Derived.Test.YtjjhogleiolngaaLc
import Derived.Test.YtjjhogleiolngaaVh
namespace Go.Proofs.Ytjjhogleiolngaa
set_option linter.unusedSimpArgs false
set_option linter.unusedVariables false
open Go.RowKit
attribute [local irreducible] AWP ACalls Wk GcTo
attribute [local simp] tab3 ti3 tab4 ti4 tab29 ti29 tab36 ti36 tab62 ti62 tab38 ti38 tab207 ti207 tab205 ti205 tab80 ti80 tab82 ti82
open Po Cl
set_option maxRecDepth 100000 in
set_option maxHeartbeats 2000000 in
theorem pairsOf {H : List Blk} {id n : Nat} {c : Nat → Nat → Bool} {Q : AV → List Blk → Prop} (hc : Blk.cells? H[id]? = some (tbB c)) (hn : n ≤ 20)
    (q : Q (.c (.sc (gV 2 H.length (prU c n n)))) (H ++ [gB Pa.enc (prU c n n)])) :
    ACalls Try.prog 133 [.sc (.ptr id 0), .sc (.int .i64 n)] H Q := by
  refine acalls_of tabOk Try.func133 (by kernel_rfl) rfl (by kernel_rfl) ?_
  have hcL := fun L => lowc_of hc L
  have hid : ∀ ks top, mStd H.length ks top id = id := fun ks top => mStd_low (cells_lt hc)
  have hgr := fun (m : Nat → Nat) (l : List Pa) => ren_gB (m := m) (enc := Pa.enc) (fun x => rfl) l
  (repeat' (first | refine awp_seq ?_ | (refine awp_region tabOk ?_; simp) | (refine awp_if ?_; simp) | refine awp_block ?_ | refine And.intro ?_ ?_ | intro _ | (refine awp_skip ?_; simp) | (refine awp_ret ?_; simp) | (refine awp_exit ?_; simp)))
  refine awp_loop_at (α := {i : Nat // i ≤ n}) (fun i => [(0, .c (.sc (.ptr id 0))), (1, .c (.sc (.int .i64 n))), (5, .c (.sc (gV 2 H.length (prU c n i.1)))), (8, .c (.sc (.int .i64 n))), (9, .c (.sc (.int .i64 i.1)))])
    (fun i => H ++ [gB Pa.enc (prU c n i.1)]) (fun i => n - i.1) ⟨0, by omega⟩ (wk_gcl0 [9] (gcOk_of (by decide) (by simp [prU])) (by simp [hid, prU])) ?_
  rintro ⟨i, hi⟩
  by_cases hin : i < n
  · have wi := wrapS i (by omega)
    (repeat' (first | refine awp_seq ?_ | (refine awp_region tabOk ?_; simp [hin]) | (refine awp_if ?_; simp [hin]) | refine awp_block ?_ | refine And.intro ?_ ?_ | intro _ | (refine awp_skip ?_; simp [hin]) | (refine awp_ret ?_; simp [hin]) | (refine awp_exit ?_; simp [hin])))
    refine awp_loop_at (α := {j : Nat // j ≤ n}) (fun j => [(0, .c (.sc (.ptr id 0))), (1, .c (.sc (.int .i64 n))), (5, .c (.sc (gV 2 H.length (prU c n i ++ row c i j.1)))), (8, .c (.sc (.int .i64 n))), (9, .c (.sc (.int .i64 i))), (6, .c (.sc (.int .i64 i))), (12, .c (.sc (.int .i64 n))), (13, .c (.sc (.int .i64 j.1)))])
      (fun j => H ++ [gB Pa.enc (prU c n i ++ row c i j.1)]) (fun j => n - j.1) ⟨0, by omega⟩ (wk_tlE (by simp [row]) (by simp [row])) ?_
    rintro ⟨j, hj⟩
    by_cases hjn : j < n
    · have wj := wrapS j (by omega)
      have i20 : i < 20 := by omega
      have j20 : j < 20 := by omega
      have i20' : (i : Int) < 20 := by omega
      have j20' : (j : Int) < 20 := by omega
      have a1 := tbB_at c i20 j20
      obtain ⟨_, a1'⟩ := List.getElem?_eq_some_iff.1 a1
      have hrow : prU c n i ++ row c i (j + 1) = (prU c n i ++ row c i j) ++ if c i j then [⟨i, j⟩] else [] := by rw [List.append_assoc]; rfl
      have hlen : (prU c n i ++ row c i j).length ≤ 420 := by
        have h1 := prU_len c n i
        have h2 := row_len c i j
        have h3 : i * n ≤ 20 * 20 := Nat.mul_le_mul (by omega) hn
        rw [List.length_append]; omega
      by_cases hcij : c i j = true
      · rw [if_pos hcij] at hrow
        cases hl : prU c n i ++ row c i j with
        | nil =>
          rw [hl] at hrow
          (repeat' (first | refine awp_seq ?_ | (refine awp_region tabOk ?_; simp [hjn, hcL, i20, j20, i20', j20', a1, a1', hcij, maxLen, wj]) | (refine awp_if ?_; simp [hjn, hcL, i20, j20, i20', j20', a1, a1', hcij, maxLen, wj]) | refine awp_block ?_ | refine And.intro ?_ ?_ | intro _ | (refine awp_skip ?_; simp [hjn, hcL, i20, j20, i20', j20', a1, a1', hcij, maxLen, wj]) | (refine awp_ret ?_; simp [hjn, hcL, i20, j20, i20', j20', a1, a1', hcij, maxLen, wj]) | (refine awp_exit ?_; simp [hjn, hcL, i20, j20, i20', j20', a1, a1', hcij, maxLen, wj])))
          refine ⟨j + 1, by omega, by omega, ?_⟩
          rw [hrow]
          exact wk_gcl [2] (gcOk_of (by decide) (by simp [gB, Pa.enc])) (by simp [hid, wj])
        | cons o O =>
          rw [hl] at hrow hlen
          obtain ⟨OF, hOF, hgB, hOFl, hOFt, hOFr⟩ := gB_own plen pren o O
          rw [List.length_cons] at hlen
          have hno : ¬O.length + 1 + 1 ≤ O.length + 1 := by omega
          have hml : (O.length + 1 + 1) * 16 ≤ 140737488355328 := by omega
          have hml1 : O.length + 1 + 1 ≤ 9223372036854775807 := by omega
          (repeat' (first | refine awp_seq ?_ | (refine awp_region tabOk ?_; simp [hjn, hcL, i20, j20, i20', j20', a1, a1', hcij, maxLen, wj, hgB, hno, hml, hml1, hOFl, hOFt]) | (refine awp_if ?_; simp [hjn, hcL, i20, j20, i20', j20', a1, a1', hcij, maxLen, wj, hgB, hno, hml, hml1, hOFl, hOFt]) | refine awp_block ?_ | refine And.intro ?_ ?_ | intro _ | (refine awp_skip ?_; simp [hjn, hcL, i20, j20, i20', j20', a1, a1', hcij, maxLen, wj, hgB, hno, hml, hml1, hOFl, hOFt]) | (refine awp_ret ?_; simp [hjn, hcL, i20, j20, i20', j20', a1, a1', hcij, maxLen, wj, hgB, hno, hml, hml1, hOFl, hOFt]) | (refine awp_exit ?_; simp [hjn, hcL, i20, j20, i20', j20', a1, a1', hcij, maxLen, wj, hgB, hno, hml, hml1, hOFl, hOFt])))
          refine ⟨j + 1, by omega, by omega, ?_⟩
          rw [hrow, gB_snoc, gV_snoc, ← hOF]
          exact wk_gcl [2] (gcOk_of (by decide) (by simp [hOFr, Pa.enc])) (by simp [hid, wj])
      · have hcij' : c i j = false := by simpa using hcij
        rw [if_neg hcij, List.append_nil] at hrow
        (repeat' (first | refine awp_seq ?_ | (refine awp_region tabOk ?_; simp [hjn, hcL, i20, j20, i20', j20', a1, a1', hcij', wj]) | (refine awp_if ?_; simp [hjn, hcL, i20, j20, i20', j20', a1, a1', hcij', wj]) | refine awp_block ?_ | refine And.intro ?_ ?_ | intro _ | (refine awp_skip ?_; simp [hjn, hcL, i20, j20, i20', j20', a1, a1', hcij', wj]) | (refine awp_ret ?_; simp [hjn, hcL, i20, j20, i20', j20', a1, a1', hcij', wj]) | (refine awp_exit ?_; simp [hjn, hcL, i20, j20, i20', j20', a1, a1', hcij', wj])))
        exact ⟨j + 1, by omega, by omega, wk_tlE (by rw [hrow]) (by simp [wj, hrow])⟩
    · obtain rfl : j = n := by omega
      (repeat' (first | refine awp_seq ?_ | (refine awp_region tabOk ?_; simp) | (refine awp_if ?_; simp) | refine awp_block ?_ | refine And.intro ?_ ?_ | intro _ | (refine awp_skip ?_; simp) | (refine awp_ret ?_; simp) | (refine awp_exit ?_; simp)))
      exact ⟨i + 1, by omega, by omega, wk_tlE rfl (by simp [wi]; rfl)⟩
  · obtain rfl : i = n := by omega
    (repeat' (first | refine awp_seq ?_ | (refine awp_region tabOk ?_; simp) | (refine awp_if ?_; simp) | refine awp_block ?_ | refine And.intro ?_ ?_ | intro _ | (refine awp_skip ?_; simp) | (refine awp_ret ?_; simp) | (refine awp_exit ?_; simp)))
    exact ⟨_, _, GcTo.refl (by simp), q⟩
theorem gB_live {α : Type} {enc : α → List Sc} (l : List α) : (gB enc l).live → (gB enc l).isOwn := by cases l <;> simp [gB, Blk.live, Blk.isOwn]
theorem poErr_1 {n : Int} {l : List Pa} (h : n < 0 ∨ 20 < n) : poErr n l = 1 := if_pos h
theorem poErr_2 {n : Int} {l : List Pa} (h : ¬(n < 0 ∨ 20 < n)) (h2 : ¬mErr n n l = 0) : poErr n l = mErr n n l := by unfold poErr; rw [if_neg h, if_pos h2]
theorem poErr_3 {n : Int} {l : List Pa} (h : ¬(n < 0 ∨ 20 < n)) (h2 : mErr n n l = 0) (h3 : loopy n.toNat l) : poErr n l = 9 := by unfold poErr; rw [if_neg h, if_neg (by omega), if_pos h3]
theorem poErr_0 {n : Int} {l : List Pa} (h : ¬(n < 0 ∨ 20 < n)) (h2 : mErr n n l = 0) (h3 : ¬loopy n.toNat l) : poErr n l = 0 := by unfold poErr; rw [if_neg h, if_neg (by omega), if_neg h3]
theorem poErr_ok {n : Int} {l : List Pa} (h : poErr n l = 0) : 0 ≤ n ∧ n ≤ 20 ∧ l.length ≤ 600 ∧ Bd n.toNat l := by
  by_cases h1 : n < 0 ∨ 20 < n
  · rw [poErr_1 h1] at h; cases h
  · by_cases h2 : mErr n n l = 0
    · obtain ⟨a, b, c, d⟩ := mErr_ok h2
      exact ⟨a, by omega, c, d⟩
    · rw [poErr_2 h1 h2] at h; exact absurd h h2
set_option maxRecDepth 100000 in
set_option maxHeartbeats 2000000 in
theorem posetCheck {H : List Blk} {a : Sc} {n : Int} {l : List Pa} {Q : AV → List Blk → Prop} (ha : PSl H a l) (q : Q (.c (.sc (.int .i64 (poErr n l)))) H) :
    ACalls Try.prog 132 [.agg [.int .i64 n, a]] H Q := by
  refine acalls_of tabOk Try.func132 (by kernel_rfl) rfl (by kernel_rfl) ?_
  have hra := ha.ren
  by_cases h0 : n < 0
  · rw [poErr_1 (.inl h0)] at q
    (repeat' (first | refine awp_seq ?_ | (refine awp_region tabOk ?_; simp [h0]) | (refine awp_if ?_; simp [h0]) | refine awp_block ?_ | refine And.intro ?_ ?_ | intro _ | (refine awp_skip ?_; simp [h0]) | (refine awp_ret ?_; simp [h0]) | (refine awp_exit ?_; simp [h0])))
    exact ⟨H, _, gcTo_none (fun _ => rfl), q⟩
  by_cases h1 : 20 < n
  · rw [poErr_1 (.inr h1)] at q
    (repeat' (first | refine awp_seq ?_ | (refine awp_region tabOk ?_; simp [h0, h1]) | (refine awp_if ?_; simp [h0, h1]) | refine awp_block ?_ | refine And.intro ?_ ?_ | intro _ | (refine awp_skip ?_; simp [h0, h1]) | (refine awp_ret ?_; simp [h0, h1]) | (refine awp_exit ?_; simp [h0, h1])))
    exact ⟨H, _, gcTo_none (fun _ => rfl), q⟩
  have h01 : ¬(n < 0 ∨ 20 < n) := by omega
  (repeat' (first | refine awp_seq ?_ | (refine awp_region tabOk ?_; simp [h0, h1]) | (refine awp_if ?_; simp [h0, h1]) | refine awp_block ?_ | refine And.intro ?_ ?_ | intro _ | (refine awp_skip ?_; simp [h0, h1]) | (refine awp_ret ?_; simp [h0, h1]) | (refine awp_exit ?_; simp [h0, h1])))
  refine matchCheck (ha.app _) ?_
  by_cases hm : mErr n n l = 0
  · obtain ⟨g1, g2, g3, g4⟩ := mErr_ok hm
    obtain ⟨n, rfl⟩ := Int.eq_ofNat_of_zero_le g1
    rw [Int.toNat_natCast] at g4
    ((try simp [hm]); (repeat' (first | refine awp_seq ?_ | (refine awp_region tabOk ?_; simp [hm]) | (refine awp_if ?_; simp [hm]) | refine awp_block ?_ | refine And.intro ?_ ?_ | intro _ | (refine awp_skip ?_; simp [hm]) | (refine awp_ret ?_; simp [hm]) | (refine awp_exit ?_; simp [hm]))))
    refine closed (ha.app _) (by omega) g3 g4 ?_
    ((try simp); (repeat' (first | refine awp_seq ?_ | (refine awp_region tabOk ?_; simp) | (refine awp_if ?_; simp) | refine awp_block ?_ | refine And.intro ?_ ?_ | intro _ | (refine awp_skip ?_; simp) | (refine awp_ret ?_; simp) | (refine awp_exit ?_; simp))))
    refine awp_loop_at (α := {k : Nat // k ≤ n ∧ ∀ j, j < k → clo l j j = false}) (fun k => [(4, .c (.sc (.ptr (H.length + 1) 0))), (27, .c (.sc (.int .i64 n))), (28, .c (.sc (.int .i64 k.1)))])
      (fun k => H ++ [.own [.int .i64 n, a], .own (tbB (clo l))]) (fun k => n - k.1) ⟨0, by omega, by omega⟩ (wk_tlE (by simp) (by simp)) ?_
    rintro ⟨k, hk, hno⟩
    by_cases hkn : k < n
    · have wk := wrapS k (by omega)
      have k20 : k < 20 := by omega
      have k20' : (k : Int) < 20 := by omega
      have a1 := tbB_at (clo l) k20 k20
      obtain ⟨_, a1'⟩ := List.getElem?_eq_some_iff.1 a1
      cases hc : clo l k k with
      | true =>
        rw [poErr_3 h01 hm ⟨k, by omega, hc⟩] at q
        (repeat' (first | refine awp_seq ?_ | (refine awp_region tabOk ?_; simp [hkn, k20, k20', a1, a1', hc]) | (refine awp_if ?_; simp [hkn, k20, k20', a1, a1', hc]) | refine awp_block ?_ | refine And.intro ?_ ?_ | intro _ | (refine awp_skip ?_; simp [hkn, k20, k20', a1, a1', hc]) | (refine awp_ret ?_; simp [hkn, k20, k20', a1, a1', hc]) | (refine awp_exit ?_; simp [hkn, k20, k20', a1, a1', hc])))
        exact ⟨H, _, gcTo_none (fun _ => rfl), q⟩
      | false =>
        (repeat' (first | refine awp_seq ?_ | (refine awp_region tabOk ?_; simp [hkn, k20, k20', a1, a1', hc, wk]) | (refine awp_if ?_; simp [hkn, k20, k20', a1, a1', hc, wk]) | refine awp_block ?_ | refine And.intro ?_ ?_ | intro _ | (refine awp_skip ?_; simp [hkn, k20, k20', a1, a1', hc, wk]) | (refine awp_ret ?_; simp [hkn, k20, k20', a1, a1', hc, wk]) | (refine awp_exit ?_; simp [hkn, k20, k20', a1, a1', hc, wk])))
        exact ⟨k + 1, by omega, ⟨by omega, fun j hj => by
          by_cases e : j = k
          · subst e; exact hc
          · exact hno j (by omega)⟩, wk_tl (by simp [wk])⟩
    · obtain rfl : k = n := by omega
      rw [poErr_0 h01 hm (fun ⟨j, h1, h2⟩ => by rw [hno j (by omega)] at h2; cases h2)] at q
      (repeat' (first | refine awp_seq ?_ | (refine awp_region tabOk ?_; simp) | (refine awp_if ?_; simp) | refine awp_block ?_ | refine And.intro ?_ ?_ | intro _ | (refine awp_skip ?_; simp) | (refine awp_ret ?_; simp) | (refine awp_exit ?_; simp)))
      exact ⟨H, _, gcTo_none (fun _ => rfl), q⟩
  · rw [poErr_2 h01 hm] at q
    ((try simp [hm]); (repeat' (first | refine awp_seq ?_ | (refine awp_region tabOk ?_; simp [hm]) | (refine awp_if ?_; simp [hm]) | refine awp_block ?_ | refine And.intro ?_ ?_ | intro _ | (refine awp_skip ?_; simp [hm]) | (refine awp_ret ?_; simp [hm]) | (refine awp_exit ?_; simp [hm]))))
    exact ⟨H, _, gcTo_none (fun _ => rfl), q⟩
set_option maxRecDepth 100000 in
set_option maxHeartbeats 2000000 in
theorem posetErr {H : List Blk} {a : Sc} {n : Int} {l : List Pa} {Q : AV → List Blk → Prop} (ha : PSl H a l) (q : Q (.c (.sc (.int .i64 (poErr n l)))) H) :
    ACalls Try.prog 24 [.agg [.int .i64 n, a]] H Q := by
  refine acalls_of tabOk Try.func24 (by kernel_rfl) rfl (by kernel_rfl) ?_
  have hra := ha.ren
  by_cases h0 : n < 0
  · rw [poErr_1 (.inl h0)] at q
    (repeat' (first | refine awp_seq ?_ | (refine awp_region tabOk ?_; simp [h0]) | (refine awp_if ?_; simp [h0]) | refine awp_block ?_ | refine And.intro ?_ ?_ | intro _ | (refine awp_skip ?_; simp [h0]) | (refine awp_ret ?_; simp [h0]) | (refine awp_exit ?_; simp [h0])))
    exact ⟨H, _, gcTo_none (fun _ => rfl), q⟩
  by_cases h1 : 20 < n
  · rw [poErr_1 (.inr h1)] at q
    (repeat' (first | refine awp_seq ?_ | (refine awp_region tabOk ?_; simp [h0, h1]) | (refine awp_if ?_; simp [h0, h1]) | refine awp_block ?_ | refine And.intro ?_ ?_ | intro _ | (refine awp_skip ?_; simp [h0, h1]) | (refine awp_ret ?_; simp [h0, h1]) | (refine awp_exit ?_; simp [h0, h1])))
    exact ⟨H, _, gcTo_none (fun _ => rfl), q⟩
  have h01 : ¬(n < 0 ∨ 20 < n) := by omega
  (repeat' (first | refine awp_seq ?_ | (refine awp_region tabOk ?_; simp [h0, h1]) | (refine awp_if ?_; simp [h0, h1]) | refine awp_block ?_ | refine And.intro ?_ ?_ | intro _ | (refine awp_skip ?_; simp [h0, h1]) | (refine awp_ret ?_; simp [h0, h1]) | (refine awp_exit ?_; simp [h0, h1])))
  refine pairsErr (ha.app _) ?_
  by_cases hm : mErr n n l = 0
  · obtain ⟨g1, g2, g3, g4⟩ := mErr_ok hm
    obtain ⟨n, rfl⟩ := Int.eq_ofNat_of_zero_le g1
    rw [Int.toNat_natCast] at g4
    ((try simp [hm]); (repeat' (first | refine awp_seq ?_ | (refine awp_region tabOk ?_; simp [hm]) | (refine awp_if ?_; simp [hm]) | refine awp_block ?_ | refine And.intro ?_ ?_ | intro _ | (refine awp_skip ?_; simp [hm]) | (refine awp_ret ?_; simp [hm]) | (refine awp_exit ?_; simp [hm]))))
    refine closure (ha.app _) (by omega) (by omega) g4 (fun b L hb => ?_)
    obtain ⟨K, hK⟩ : ∃ K, K = H ++ [.own [.int .i64 n, a]] ++ L := ⟨_, rfl⟩
    rw [← hK] at hb ⊢
    obtain ⟨bid, bcs, rfl, hb1, hb2, hb3⟩ := hb
    ((try simp); (repeat' (first | refine awp_seq ?_ | (refine awp_region tabOk ?_; simp) | (refine awp_if ?_; simp) | refine awp_block ?_ | refine And.intro ?_ ?_ | intro _ | (refine awp_skip ?_; simp) | (refine awp_ret ?_; simp) | (refine awp_exit ?_; simp))))
    refine awp_loop_at (α := {k : Nat // k ≤ n ∧ ∀ j, j < k → clo l j j = false}) (fun k => [(28, .c (.sc (.sl bid 0 1 n n))), (29, .c (.sc (.int .i64 n))), (30, .c (.sc (.int .i64 k.1)))])
      (fun k => K) (fun k => n - k.1) ⟨0, by omega, by omega⟩ (wk_tl (by simp)) ?_
    rintro ⟨k, hk, hno⟩
    by_cases hkn : k < n
    · have wk := wrapS k (by omega)
      obtain ⟨rid, c1, c2⟩ := hb3 k hkn
      obtain ⟨_, c1'⟩ := List.getElem?_eq_some_iff.1 c1
      have hkb : k < bcs.length := by omega
      have a1 := fnB_at (clo l k) hkn
      cases hc : clo l k k with
      | true =>
        rw [poErr_3 h01 hm ⟨k, by omega, hc⟩] at q
        (repeat' (first | refine awp_seq ?_ | (refine awp_region tabOk ?_; simp [hkn, hb1, c1, c1', c2, hkb, a1, hc]) | (refine awp_if ?_; simp [hkn, hb1, c1, c1', c2, hkb, a1, hc]) | refine awp_block ?_ | refine And.intro ?_ ?_ | intro _ | (refine awp_skip ?_; simp [hkn, hb1, c1, c1', c2, hkb, a1, hc]) | (refine awp_ret ?_; simp [hkn, hb1, c1, c1', c2, hkb, a1, hc]) | (refine awp_exit ?_; simp [hkn, hb1, c1, c1', c2, hkb, a1, hc])))
        have := gcTo_Kn (H := H) (K := K) (L := []) (v := .c (.sc (.int .i64 9))) ⟨_, by rw [hK, List.append_assoc]⟩ (fun _ => rfl)
        rw [List.append_nil] at this
        exact ⟨H, _, this, q⟩
      | false =>
        (repeat' (first | refine awp_seq ?_ | (refine awp_region tabOk ?_; simp [hkn, hb1, c1, c1', c2, hkb, a1, hc, wk]) | (refine awp_if ?_; simp [hkn, hb1, c1, c1', c2, hkb, a1, hc, wk]) | refine awp_block ?_ | refine And.intro ?_ ?_ | intro _ | (refine awp_skip ?_; simp [hkn, hb1, c1, c1', c2, hkb, a1, hc, wk]) | (refine awp_ret ?_; simp [hkn, hb1, c1, c1', c2, hkb, a1, hc, wk]) | (refine awp_exit ?_; simp [hkn, hb1, c1, c1', c2, hkb, a1, hc, wk])))
        exact ⟨k + 1, by omega, ⟨by omega, fun j hj => by
          by_cases e : j = k
          · subst e; exact hc
          · exact hno j (by omega)⟩, wk_tl (by simp [wk])⟩
    · obtain rfl : k = n := by omega
      rw [poErr_0 h01 hm (fun ⟨j, h1, h2⟩ => by rw [hno j (by omega)] at h2; cases h2)] at q
      (repeat' (first | refine awp_seq ?_ | (refine awp_region tabOk ?_; simp) | (refine awp_if ?_; simp) | refine awp_block ?_ | refine And.intro ?_ ?_ | intro _ | (refine awp_skip ?_; simp) | (refine awp_ret ?_; simp) | (refine awp_exit ?_; simp)))
      have := gcTo_Kn (H := H) (K := K) (L := []) (v := .c (.sc (.int .i64 0))) ⟨_, by rw [hK, List.append_assoc]⟩ (fun _ => rfl)
      rw [List.append_nil] at this
      exact ⟨H, _, this, q⟩
  · rw [poErr_2 h01 hm] at q
    ((try simp [hm]); (repeat' (first | refine awp_seq ?_ | (refine awp_region tabOk ?_; simp [hm]) | (refine awp_if ?_; simp [hm]) | refine awp_block ?_ | refine And.intro ?_ ?_ | intro _ | (refine awp_skip ?_; simp [hm]) | (refine awp_ret ?_; simp [hm]) | (refine awp_exit ?_; simp [hm]))))
    exact ⟨H, _, gcTo_none (fun _ => rfl), q⟩
set_option maxRecDepth 100000 in
set_option maxHeartbeats 2000000 in
theorem posetClose {H : List Blk} {a : Sc} {n : Int} {l : List Pa} {Q : AV → List Blk → Prop} (ha : PSl H a l) (q0 : ¬poErr n l = 0 → Q (.tup [.sc .nils, .sc (.int .i64 (poErr n l))]) H)
    (q1 : poErr n l = 0 → Q (.tup [.sc (gV 2 H.length (prU (clo l) n.toNat n.toNat)), .sc (.int .i64 0)]) (H ++ [gB Pa.enc (prU (clo l) n.toNat n.toNat)])) :
    ACalls Try.prog 91 [.agg [.int .i64 n, a]] H Q := by
  refine acalls_of tabOk Try.func91 (by kernel_rfl) rfl (by kernel_rfl) ?_
  have hra := ha.ren
  have hgr := fun (m : Nat → Nat) (l : List Pa) => ren_gB (m := m) (enc := Pa.enc) (fun x => rfl) l
  (repeat' (first | refine awp_seq ?_ | (refine awp_region tabOk ?_; simp) | (refine awp_if ?_; simp) | refine awp_block ?_ | refine And.intro ?_ ?_ | intro _ | (refine awp_skip ?_; simp) | (refine awp_ret ?_; simp) | (refine awp_exit ?_; simp)))
  refine posetCheck (ha.app _) ?_
  by_cases he : poErr n l = 0
  · have q := q1 he
    obtain ⟨g1, g2, g3, g4⟩ := poErr_ok he
    obtain ⟨n, rfl⟩ := Int.eq_ofNat_of_zero_le g1
    rw [Int.toNat_natCast] at g4 q
    ((try simp [he]); (repeat' (first | refine awp_seq ?_ | (refine awp_region tabOk ?_; simp [he]) | (refine awp_if ?_; simp [he]) | refine awp_block ?_ | refine And.intro ?_ ?_ | intro _ | (refine awp_skip ?_; simp [he]) | (refine awp_ret ?_; simp [he]) | (refine awp_exit ?_; simp [he]))))
    refine awp_draw tabOk mixed [] (by kernel_rfl) ?_
    simp
    refine ⟨_, [.own (tbB (clo l))], closed (ha.app _) (by omega) g3 g4 ⟨rfl, by simp⟩, by simp [Blk.isOwn], ?_⟩
    simp
    refine ⟨_, [gB Pa.enc (prU (clo l) n n)], pairsOf (id := H.length + 1) (c := clo l) (by simp) (by omega) ⟨rfl, by simp⟩, ?_⟩
    simp
    refine ⟨gB_live _, ?_⟩
    (repeat' (first | refine awp_seq ?_ | (refine awp_region tabOk ?_; simp) | (refine awp_if ?_; simp) | refine awp_block ?_ | refine And.intro ?_ ?_ | intro _ | (refine awp_skip ?_; simp) | (refine awp_ret ?_; simp) | (refine awp_exit ?_; simp)))
    exact ⟨H ++ [gB Pa.enc (prU (clo l) n n)], .tup [.sc (gV 2 H.length (prU (clo l) n n)), .sc (.int .i64 0)], gcTo_std [2] (gcOk_of (by decide) (by simp [hgr])) (by simp), q⟩
  · have q := q0 he
    ((try simp [he]); (repeat' (first | refine awp_seq ?_ | (refine awp_region tabOk ?_; simp [he]) | (refine awp_if ?_; simp [he]) | refine awp_block ?_ | refine And.intro ?_ ?_ | intro _ | (refine awp_skip ?_; simp [he]) | (refine awp_ret ?_; simp [he]) | (refine awp_exit ?_; simp [he]))))
    exact ⟨H, _, gcTo_none (fun _ => rfl), q⟩
end Go.Proofs.Ytjjhogleiolngaa
