/- Posets: poset.closed. -/
import Derived.Test.YtjjhogleiolngaaLb
namespace Go.Proofs.Ytjjhogleiolngaa
set_option linter.unusedSimpArgs false
set_option linter.unusedVariables false
open Go.RowKit
attribute [local irreducible] AWP ACalls Wk GcTo
attribute [local simp] tab3 ti3 tab4 ti4 tab29 ti29 tab36 ti36 tab62 ti62 tab38 ti38 tab207 ti207 tab205 ti205
open Po Cl
def tbB (c : Nat → Nat → Bool) : List Sc := fnB 400 fun q => c (q / 20) (q % 20)
@[simp] theorem tbB_len (c : Nat → Nat → Bool) : (tbB c).length = 400 := by simp [tbB]
@[simp] theorem tbB_ren (m : Nat → Nat) (c : Nat → Nat → Bool) : (tbB c).map (renS m) = tbB c := by simp [tbB]
theorem tbB_at (c : Nat → Nat → Bool) {i j : Nat} (hi : i < 20) (hj : j < 20) : (tbB c)[i * 20 + j]? = some (.bool (c i j)) := by
  unfold tbB
  rw [fnB_at _ (by omega), show (i * 20 + j) / 20 = i by omega, show (i * 20 + j) % 20 = j by omega]
theorem tbB_set (c : Nat → Nat → Bool) {i j : Nat} (hi : i < 20) (hj : j < 20) (x : Bool) : (tbB c).set (i * 20 + j) (.bool x) = tbB (fun i' j' => if i' = i ∧ j' = j then x else c i' j') := by
  unfold tbB
  rw [fnB_set _ (by omega)]
  refine fnB_ext fun q hq => ?_
  by_cases e : q = i * 20 + j
  · subst e
    rw [if_pos rfl]
    have h1 : (i * 20 + j) / 20 = i ∧ (i * 20 + j) % 20 = j := by omega
    exact (if_pos h1).symm
  · rw [if_neg e]
    have h1 : ¬(q / 20 = i ∧ q % 20 = j) := by omega
    exact (if_neg h1).symm
theorem tbB_zero : fnB 400 (fun _ => false) = tbB (fun _ _ => false) := rfl
theorem base_step {l : List Pa} {t i j : Nat} (h : l[t]? = some ⟨i, j⟩) : (fun i' j' : Nat => if i' = i ∧ j' = j then true else decide ((⟨i', j'⟩ : Pa) ∈ l.take t)) = fun i' j' : Nat => decide ((⟨i', j'⟩ : Pa) ∈ l.take (t + 1)) := by
  funext i' j'
  rw [take_snoc h]
  by_cases e : i' = i ∧ j' = j
  · obtain ⟨rfl, rfl⟩ := e
    rw [if_pos ⟨rfl, rfl⟩]
    exact (decide_eq_true (by simp)).symm
  · rw [if_neg e, decide_eq_decide, List.mem_append, List.mem_singleton]
    constructor
    · exact .inl
    · rintro (h | h)
      · exact h
      · simp only [Pa.mk.injEq] at h
        exact absurd ⟨by omega, by omega⟩ e
set_option maxRecDepth 100000 in
set_option maxHeartbeats 2000000 in
theorem closed {H : List Blk} {a : Sc} {n : Nat} {l : List Pa} {Q : AV → List Blk → Prop} (ha : PSl H a l) (hn : n ≤ 20) (hl : l.length ≤ 600) (hb : Bd n l) (q : Q (.c (.sc (.ptr H.length 0))) (H ++ [.own (tbB (clo l))])) :
    ACalls Try.prog 134 [.agg [.int .i64 n, a]] H Q := by
  refine acalls_of tabOk Try.func134 (by kernel_rfl) rfl (by kernel_rfl) ?_
  have la := ha.len (i := ti36) (e := 62) rfl
  have hra := ha.ren
  simp only [ti36] at la
  (repeat' (first | refine awp_seq ?_ | (refine awp_region tabOk ?_; simp [-lenC, la]) | (refine awp_if ?_; simp [-lenC, la]) | refine awp_block ?_ | refine And.intro ?_ ?_ | intro _ | (refine awp_skip ?_; simp [-lenC, la]) | (refine awp_ret ?_; simp [-lenC, la]) | (refine awp_exit ?_; simp [-lenC, la])))
  refine awp_loop_at (α := {t : Nat // t ≤ l.length}) (fun t => [(1, .c (.sc (.ptr H.length 0))), (3, .c (.sc (.ptr (H.length + 1) 0))), (10, .c (.sc a)), (11, .c (.sc (.int .i64 l.length))), (12, .c (.sc (.int .i64 t.1)))])
    (fun t => H ++ [.own [.int .i64 n, a], .own (tbB fun i j => decide ((⟨i, j⟩ : Pa) ∈ l.take t.1))]) (fun t => l.length - t.1) ⟨0, by omega⟩ (wk_tlE (by simp [tbB_zero]) (by simp)) ?_
  rintro ⟨t, ht⟩
  by_cases hlt : t < l.length
  · obtain ⟨p, hx⟩ : ∃ p, l[t]? = some p := ⟨l[t], List.getElem?_eq_getElem hlt⟩
    obtain ⟨id, off, cap, cs, rfl, hcap, hc, hrow⟩ := GSl.at plen ha hlt
    obtain ⟨r1, r2⟩ := hrow t p hx
    have hc2 := fun L => lowc_of hc L
    have hid : ∀ ks top, mStd H.length ks top id = id := fun ks top => mStd_low (cells_lt hc)
    have wr := wrapS t (by omega)
    obtain ⟨b1, b2, b3, b4⟩ := hb p (List.mem_of_getElem? hx)
    rw [penc_def] at r1
    obtain ⟨x, y⟩ := p
    simp only at b1 b2 b3 b4 r1
    obtain ⟨x, rfl⟩ := Int.eq_ofNat_of_zero_le b1
    obtain ⟨y, rfl⟩ := Int.eq_ofNat_of_zero_le b3
    have x20 : x < 20 := by omega
    have y20 : y < 20 := by omega
    have x20' : (x : Int) < 20 := by omega
    have y20' : (y : Int) < 20 := by omega
    have hxy : x * 20 + y ≤ 399 := by omega
    have st := tbB_set (fun i j => decide ((⟨i, j⟩ : Pa) ∈ l.take t)) x20 y20 true
    rw [base_step hx] at st
    (repeat' (first | refine awp_seq ?_ | (refine awp_region tabOk ?_; simp [hlt, hc2, r1, r2]) | (refine awp_if ?_; simp [hlt, hc2, r1, r2]) | refine awp_block ?_ | refine And.intro ?_ ?_ | intro _ | (refine awp_skip ?_; simp [hlt, hc2, r1, r2]) | (refine awp_ret ?_; simp [hlt, hc2, r1, r2]) | (refine awp_exit ?_; simp [hlt, hc2, r1, r2])))
    refine awp_draw tabOk mixed [] (by kernel_rfl) ?_
    simp [x20, y20, x20', y20', hxy, st]
    (repeat' (first | refine awp_seq ?_ | (refine awp_region tabOk ?_; simp [wr]) | (refine awp_if ?_; simp [wr]) | refine awp_block ?_ | refine And.intro ?_ ?_ | intro _ | (refine awp_skip ?_; simp [wr]) | (refine awp_ret ?_; simp [wr]) | (refine awp_exit ?_; simp [wr])))
    exact ⟨t + 1, by omega, by omega, wk_gcl [0, 1] (gcOk_of (by decide) (by simp [hid])) (by simp [hid, wr])⟩
  · obtain rfl : t = l.length := by omega
    rw [List.take_length]
    (repeat' (first | refine awp_seq ?_ | (refine awp_region tabOk ?_; simp) | (refine awp_if ?_; simp) | refine awp_block ?_ | refine And.intro ?_ ?_ | intro _ | (refine awp_skip ?_; simp) | (refine awp_ret ?_; simp) | (refine awp_exit ?_; simp)))
    refine awp_loop_at (α := {k : Nat // k ≤ n}) (fun k => [(1, .c (.sc (.ptr H.length 0))), (3, .c (.sc (.ptr (H.length + 1) 0))), (24, .c (.sc (.int .i64 n))), (25, .c (.sc (.int .i64 k.1)))])
      (fun k => H ++ [.own [.int .i64 n, a], .own (tbB (W l k.1))]) (fun k => n - k.1) ⟨0, by omega⟩ (wk_tl (by simp)) ?_
    rintro ⟨k, hk⟩
    by_cases hkn : k < n
    · have wk := wrapS k (by omega)
      (repeat' (first | refine awp_seq ?_ | (refine awp_region tabOk ?_; simp [hkn]) | (refine awp_if ?_; simp [hkn]) | refine awp_block ?_ | refine And.intro ?_ ?_ | intro _ | (refine awp_skip ?_; simp [hkn]) | (refine awp_ret ?_; simp [hkn]) | (refine awp_exit ?_; simp [hkn])))
      refine awp_loop_at (α := {i : Nat // i ≤ n}) (fun i => [(1, .c (.sc (.ptr H.length 0))), (3, .c (.sc (.ptr (H.length + 1) 0))), (24, .c (.sc (.int .i64 n))), (25, .c (.sc (.int .i64 k))), (6, .c (.sc (.int .i64 k))), (29, .c (.sc (.int .i64 n))), (30, .c (.sc (.int .i64 i.1)))])
        (fun i => H ++ [.own [.int .i64 n, a], .own (tbB (S l k i.1 0))]) (fun i => n - i.1) ⟨0, by omega⟩ (wk_tlE (by rw [S_0]) (by simp)) ?_
      rintro ⟨i, hi⟩
      by_cases hin : i < n
      · have wi := wrapS i (by omega)
        (repeat' (first | refine awp_seq ?_ | (refine awp_region tabOk ?_; simp [hin]) | (refine awp_if ?_; simp [hin]) | refine awp_block ?_ | refine And.intro ?_ ?_ | intro _ | (refine awp_skip ?_; simp [hin]) | (refine awp_ret ?_; simp [hin]) | (refine awp_exit ?_; simp [hin])))
        refine awp_loop_at (α := {j : Nat // j ≤ n}) (fun j => [(1, .c (.sc (.ptr H.length 0))), (3, .c (.sc (.ptr (H.length + 1) 0))), (24, .c (.sc (.int .i64 n))), (25, .c (.sc (.int .i64 k))), (6, .c (.sc (.int .i64 k))), (29, .c (.sc (.int .i64 n))), (30, .c (.sc (.int .i64 i))), (7, .c (.sc (.int .i64 i))), (34, .c (.sc (.int .i64 n))), (35, .c (.sc (.int .i64 j.1)))])
          (fun j => H ++ [.own [.int .i64 n, a], .own (tbB (S l k i j.1))]) (fun j => n - j.1) ⟨0, by omega⟩ (wk_tl (by simp)) ?_
        rintro ⟨j, hj⟩
        by_cases hjn : j < n
        · have wj := wrapS j (by omega)
          have i20 : i < 20 := by omega
          have j20 : j < 20 := by omega
          have k20 : k < 20 := by omega
          have i20' : (i : Int) < 20 := by omega
          have j20' : (j : Int) < 20 := by omega
          have k20' : (k : Int) < 20 := by omega
          have hij : i * 20 + j ≤ 399 := by omega
          have a1 := tbB_at (S l k i j) i20 j20
          have a2 := tbB_at (S l k i j) i20 k20
          have a3 := tbB_at (S l k i j) k20 j20
          rw [S_at] at a1
          rw [S_ik] at a2
          rw [S_kj] at a3
          have st := tbB_set (S l k i j) i20 j20 (W l k i j || (W l k i k && W l k k j))
          rw [S_step] at st
          generalize W l k i j = x at *
          generalize W l k i k = y at *
          generalize W l k k j = z at *
          (repeat' (first | refine awp_seq ?_ | (refine awp_region tabOk ?_; simp [hjn]) | (refine awp_if ?_; simp [hjn]) | refine awp_block ?_ | refine And.intro ?_ ?_ | intro _ | (refine awp_skip ?_; simp [hjn]) | (refine awp_ret ?_; simp [hjn]) | (refine awp_exit ?_; simp [hjn])))
          cases x <;> cases y <;> cases z
          all_goals
            refine awp_draw tabOk mixed [] (by kernel_rfl) ?_
            simp at st
            simp [i20, j20, k20, i20', j20', k20', hij, a1, a2, a3, st]
            (repeat' (first | refine awp_seq ?_ | (refine awp_region tabOk ?_; simp [wj]) | (refine awp_if ?_; simp [wj]) | refine awp_block ?_ | refine And.intro ?_ ?_ | intro _ | (refine awp_skip ?_; simp [wj]) | (refine awp_ret ?_; simp [wj]) | (refine awp_exit ?_; simp [wj])))
            exact ⟨j + 1, by omega, by omega, wk_tl (by simp [wj])⟩
        · obtain rfl : j = n := by omega
          (repeat' (first | refine awp_seq ?_ | (refine awp_region tabOk ?_; simp) | (refine awp_if ?_; simp) | refine awp_block ?_ | refine And.intro ?_ ?_ | intro _ | (refine awp_skip ?_; simp) | (refine awp_ret ?_; simp) | (refine awp_exit ?_; simp)))
          exact ⟨i + 1, by omega, by omega, wk_tlE (by rw [S_row hb]) (by simp [wi])⟩
      · obtain rfl : i = n := by omega
        (repeat' (first | refine awp_seq ?_ | (refine awp_region tabOk ?_; simp) | (refine awp_if ?_; simp) | refine awp_block ?_ | refine And.intro ?_ ?_ | intro _ | (refine awp_skip ?_; simp) | (refine awp_ret ?_; simp) | (refine awp_exit ?_; simp)))
        exact ⟨k + 1, by omega, by omega, wk_tlE (by rw [S_all hb]) (by simp [wk])⟩
    · obtain rfl : k = n := by omega
      have e : tbB (W l k) = tbB (clo l) := by congr 1; funext i j; exact W_clo hb i j
      rw [e]
      (repeat' (first | refine awp_seq ?_ | (refine awp_region tabOk ?_; simp) | (refine awp_if ?_; simp) | refine awp_block ?_ | refine And.intro ?_ ?_ | intro _ | (refine awp_skip ?_; simp) | (refine awp_ret ?_; simp) | (refine awp_exit ?_; simp)))
      exact ⟨H ++ [.own (tbB (clo l))], .c (.sc (.ptr H.length 0)), gcTo_std [1] (gcOk_of (by decide) (by simp)) (by simp), q⟩
end Go.Proofs.Ytjjhogleiolngaa
