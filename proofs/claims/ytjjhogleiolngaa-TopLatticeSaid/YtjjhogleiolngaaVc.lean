/- Histories: partref.HistoryErr. -/
import Derived.Test.YtjjhogleiolngaaVb
namespace Go.Proofs.Ytjjhogleiolngaa
set_option linter.unusedSimpArgs false
set_option linter.unusedVariables false
open Go.RowKit
attribute [local irreducible] AWP ACalls Wk GcTo
attribute [local simp] tab3 ti3 tab4 ti4 tab24 ti24 tab29 ti29 tab135 ti135
open Hi
theorem wk_gclN {N : Nat} {H0 : List Blk} {T : Nat → AV} {L : List Blk} {l : List (Nat × AV)} (h : tlOkM (mStd H0.length [] (H0 ++ L).length) T l) : Wk N H0 T (H0 ++ L) (tl l) H0 := by
  have := wk_gcl (N := N) (H0 := H0) (T := T) (L := L) (L' := []) (l := l) [] (gcOk_of (by decide) (by simp)) h
  simpa using this
theorem mem_snoc {xs : List Ev} {j : Nat} {x y : Ev} (hy : xs[j]? = some y) : decide (x ∈ xs.take (j + 1)) = (decide (x ∈ xs.take j) || decide (y = x)) := by
  rw [take_snoc hy, ← Bool.decide_or, decide_eq_decide, List.mem_append, List.mem_singleton]
  exact ⟨fun h => h.imp id Eq.symm, fun h => h.imp id Eq.symm⟩
set_option maxRecDepth 100000 in
set_option maxHeartbeats 2000000 in
theorem historyErr {H : List Blk} {a : Sc} {xs : List Ev} {Q : AV → List Blk → Prop} (ha : ESl H a xs) (q : Q (.c (.sc (.int .i64 (hErr xs)))) H) :
    ACalls Try.prog 21 [.sc a] H Q := by
  refine acalls_of tabOk Try.func21 (by kernel_rfl) rfl (by kernel_rfl) ?_
  have la := ha.len (i := ti24) (e := 135) rfl
  have hra := ha.ren
  simp only [ti24] at la
  by_cases hn : 60 < xs.length
  · have hn' : (60 : Int) < xs.length := by omega
    have e : hErr xs = 2 := if_pos hn
    rw [e] at q
    (repeat' (first | refine awp_seq ?_ | (refine awp_region tabOk ?_; simp [-lenC, la, hn']) | (refine awp_if ?_; simp [-lenC, la, hn']) | refine awp_block ?_ | refine And.intro ?_ ?_ | intro _ | (refine awp_skip ?_; simp [-lenC, la, hn']) | (refine awp_ret ?_; simp [-lenC, la, hn']) | (refine awp_exit ?_; simp [-lenC, la, hn'])))
    exact ⟨H, _, GcTo.refl (Nat.le_refl _), q⟩
  · have hn' : ¬(60 : Int) < xs.length := by omega
    have e : hErr xs = scanE xs xs.length 0 := if_neg hn
    (repeat' (first | refine awp_seq ?_ | (refine awp_region tabOk ?_; simp [-lenC, la, hn']) | (refine awp_if ?_; simp [-lenC, la, hn']) | refine awp_block ?_ | refine And.intro ?_ ?_ | intro _ | (refine awp_skip ?_; simp [-lenC, la, hn']) | (refine awp_ret ?_; simp [-lenC, la, hn']) | (refine awp_exit ?_; simp [-lenC, la, hn'])))
    refine awp_loop_at (α := {i : Nat // i ≤ xs.length ∧ hErr xs = scanE xs (xs.length - i) i ∧ ∀ y ∈ xs.take i, inB y}) (fun i => [(0, .c (.sc a)), (12, .c (.sc a)), (13, .c (.sc (.int .i64 xs.length))), (14, .c (.sc (.int .i64 i.1)))])
      (fun i => H) (fun i => xs.length - i.1) ⟨0, by omega, e, by simp⟩ (wk_tl (by simp)) ?_
    rintro ⟨i, hi, he, hb⟩
    by_cases hlt : i < xs.length
    · obtain ⟨x, hx⟩ := at_lt hlt
      rw [scanE_step hx] at he
      obtain ⟨id, off, cap, cs, rfl, hcap, hc, hrow⟩ := ha.row hlt
      obtain ⟨r1, r2⟩ := hrow i x hx
      have hc2 := fun L => lowc_of hc L
      have hid : ∀ ks top, mStd H.length ks top id = id := fun ks top => mStd_low (cells_lt hc)
      have wr := wrapS i (by omega)
      have htk := take_snoc hx
      have hbb : ∀ y ∈ xs.take (i + 1), inB x → inB y := fun y hy hbx => by
        rw [htk] at hy
        rcases List.mem_append.1 hy with h | h
        · exact hb y h
        · simp at h; subst h; exact hbx
      rw [enc_def] at r1
      by_cases hbx : inB x
      · have hbx' := hbx
        obtain ⟨p, k, m⟩ := x
        obtain ⟨b1, b2, b3, b4⟩ := hbx
        simp only at b1 b2 b3 b4
        have c1 : ¬p < 0 := by omega
        have c2 : ¬(5 : Int) < p := by omega
        have c3 : ¬m < 0 := by omega
        have c4 : ¬(29 : Int) < m := by omega
        have hee : evE (xs.take i) ⟨p, k, m⟩ = if okEv (xs.take i) ⟨p, k, m⟩ then 0 else 4 := if_pos hbx'
        have hic : (i : Int) ≤ cap := by omega
        have hic2 : i ≤ cap := by omega
        simp only at r1
        (repeat' (first | refine awp_seq ?_ | (refine awp_region tabOk ?_; simp [hlt, hc, hc2, r1, r2, c1, c2, c3, c4, hic, hic2]) | (refine awp_if ?_; simp [hlt, hc, hc2, r1, r2, c1, c2, c3, c4, hic, hic2]) | refine awp_block ?_ | refine And.intro ?_ ?_ | intro _ | (refine awp_skip ?_; simp [hlt, hc, hc2, r1, r2, c1, c2, c3, c4, hic, hic2]) | (refine awp_ret ?_; simp [hlt, hc, hc2, r1, r2, c1, c2, c3, c4, hic, hic2]) | (refine awp_exit ?_; simp [hlt, hc, hc2, r1, r2, c1, c2, c3, c4, hic, hic2])))
        refine awp_loop_at (α := {j : Nat // j ≤ i}) (fun j => [(0, .c (.sc (.sl id off 3 xs.length cap))), (12, .c (.sc (.sl id off 3 xs.length cap))), (13, .c (.sc (.int .i64 xs.length))), (14, .c (.sc (.int .i64 i))),
            (4, .c (.sc (.ptr H.length 0))), (5, .c (.sc (.int .i64 (sentBy (xs.take j.1) m)))), (6, .c (.sc (.bool (decide (⟨p, k, m⟩ ∈ xs.take j.1))))), (39, .c (.sc (.sl id off 3 i cap))), (40, .c (.sc (.int .i64 i))), (41, .c (.sc (.int .i64 j.1)))])
          (fun j => H ++ [.own [.int .i64 p, .int .i64 k, .int .i64 m]]) (fun j => i - j.1) ⟨0, by omega⟩ (wk_tl (by simp [sentBy_nil])) ?_
        rintro ⟨j, hj⟩
        by_cases hjl : j < i
        · obtain ⟨y, hy⟩ := at_lt (h := xs) (i := j) (by omega)
          obtain ⟨y1, y2⟩ := hrow j y hy
          have wj := wrapS j (by omega)
          have hms := mem_snoc (x := ⟨p, k, m⟩) hy
          have hsn := sentBy_snoc (xs.take j) y m
          rw [← take_snoc hy] at hsn
          obtain ⟨T, hT⟩ : ∃ T, T = decide ((⟨p, k, m⟩ : Ev) ∈ xs.take j) := ⟨_, rfl⟩
          rw [← hT] at hms ⊢
          obtain ⟨yp, yk, ym⟩ := y
          rw [enc_def] at y1
          simp only at y1 hsn
          have hye : decide ((⟨yp, yk, ym⟩ : Ev) = ⟨p, k, m⟩) = (decide (yp = p) && (decide (yk = k) && decide (ym = m))) := by
            rw [← Bool.decide_and, ← Bool.decide_and, decide_eq_decide]; simp
          rw [hye] at hms
          cases T
          all_goals
            by_cases e1 : yk = 2 ∧ ym = m
            · obtain ⟨e1, e2⟩ := e1
              rw [if_pos ⟨e1, e2⟩] at hsn
              (repeat' (first | refine awp_seq ?_ | (refine awp_region tabOk ?_; simp [hjl, hc2, y1, y2, e1, e2]) | (refine awp_if ?_; simp [hjl, hc2, y1, y2, e1, e2]) | refine awp_block ?_ | refine And.intro ?_ ?_ | intro _ | (refine awp_skip ?_; simp [hjl, hc2, y1, y2, e1, e2]) | (refine awp_ret ?_; simp [hjl, hc2, y1, y2, e1, e2]) | (refine awp_exit ?_; simp [hjl, hc2, y1, y2, e1, e2])))
              exact ⟨j + 1, by omega, by omega, wk_gcl [0] (gcOk_of (by decide) (by simp)) (by simp [hms, hsn, hid, e1, e2, wj])⟩
            · rw [if_neg e1] at hsn
              have e1' : yk = 2 → ¬ym = m := fun h1 h2 => e1 ⟨h1, h2⟩
              (repeat' (first | refine awp_seq ?_ | (refine awp_region tabOk ?_; simp [hjl, hc2, y1, y2, e1']) | (refine awp_if ?_; simp [hjl, hc2, y1, y2, e1']) | refine awp_block ?_ | refine And.intro ?_ ?_ | intro _ | (refine awp_skip ?_; simp [hjl, hc2, y1, y2, e1']) | (refine awp_ret ?_; simp [hjl, hc2, y1, y2, e1']) | (refine awp_exit ?_; simp [hjl, hc2, y1, y2, e1'])))
              · exact absurd ‹ym = m› (e1' ‹yk = 2›)
              exact ⟨j + 1, by omega, by omega, wk_gcl [0] (gcOk_of (by decide) (by simp)) (by simp [hms, hsn, hid, wj])⟩
        · obtain rfl : j = i := by omega
          have good : okEv (xs.take j) ⟨p, k, m⟩ → hErr xs = scanE xs (xs.length - (j + 1)) (j + 1) ∧ ∀ y ∈ xs.take (j + 1), inB y := fun hok => by
            rw [hee, if_pos hok, if_pos rfl] at he
            exact ⟨he, fun y hy => hbb y hy hbx'⟩
          (repeat' (first | refine awp_seq ?_ | (refine awp_region tabOk ?_; simp [wr]) | (refine awp_if ?_; simp [wr]) | refine awp_block ?_ | refine And.intro ?_ ?_ | intro _ | (refine awp_skip ?_; simp [wr]) | (refine awp_ret ?_; simp [wr]) | (refine awp_exit ?_; simp [wr])))
          · obtain ⟨g1, g2⟩ := good (.inl ⟨‹k = 1›, ‹m = 0›⟩)
            exact ⟨j + 1, by omega, ⟨by omega, g1, g2⟩, wk_gclN (by simp [hid, wr])⟩
          · obtain ⟨g1, g2⟩ := good (.inr (.inl ⟨‹k = 2›, ‹sentBy (xs.take j) m < 0›⟩))
            exact ⟨j + 1, by omega, ⟨by omega, g1, g2⟩, wk_gclN (by simp [hid, wr])⟩
          · obtain ⟨g1, g2⟩ := good (.inr (.inr ⟨‹k = 3›, ‹0 ≤ sentBy (xs.take j) m›, ‹¬sentBy (xs.take j) m = p›, ‹¬(⟨p, k, m⟩ : Ev) ∈ xs.take j›⟩))
            exact ⟨j + 1, by omega, ⟨by omega, g1, g2⟩, wk_gclN (by simp [hid, wr])⟩
          · rename_i h1 h2 h3
            have hok : ¬okEv (xs.take j) ⟨p, k, m⟩ := by
              rintro (⟨a1, a2⟩ | ⟨a1, a2⟩ | ⟨a1, a2, a3, a4⟩)
              · exact h1 a1 a2
              · have := h2 a1; simp only at a2; omega
              · exact a4 (h3 a1 a2 a3)
            rw [hee, if_neg hok, if_neg (by decide)] at he
            exact ⟨H, _, gcTo_none (fun _ => rfl), he ▸ q⟩
      · have hee : evE (xs.take i) x = 1 := if_neg hbx
        rw [hee, if_neg (by decide)] at he
        have bad : x.p < 0 ∨ (¬x.p < 0 ∧ 5 < x.p) ∨ (¬x.p < 0 ∧ ¬5 < x.p ∧ x.m < 0) ∨ (¬x.p < 0 ∧ ¬5 < x.p ∧ ¬x.m < 0 ∧ 29 < x.m) := by unfold inB at hbx; omega
        rcases bad with h1 | ⟨h1, h2⟩ | ⟨h1, h2, h3⟩ | ⟨h1, h2, h3, h4⟩
        · (repeat' (first | refine awp_seq ?_ | (refine awp_region tabOk ?_; simp [hlt, hc, hc2, r1, r2, h1]) | (refine awp_if ?_; simp [hlt, hc, hc2, r1, r2, h1]) | refine awp_block ?_ | refine And.intro ?_ ?_ | intro _ | (refine awp_skip ?_; simp [hlt, hc, hc2, r1, r2, h1]) | (refine awp_ret ?_; simp [hlt, hc, hc2, r1, r2, h1]) | (refine awp_exit ?_; simp [hlt, hc, hc2, r1, r2, h1])))
          exact ⟨H, _, gcTo_none (fun _ => rfl), he ▸ q⟩
        · (repeat' (first | refine awp_seq ?_ | (refine awp_region tabOk ?_; simp [hlt, hc, hc2, r1, r2, h1, h2]) | (refine awp_if ?_; simp [hlt, hc, hc2, r1, r2, h1, h2]) | refine awp_block ?_ | refine And.intro ?_ ?_ | intro _ | (refine awp_skip ?_; simp [hlt, hc, hc2, r1, r2, h1, h2]) | (refine awp_ret ?_; simp [hlt, hc, hc2, r1, r2, h1, h2]) | (refine awp_exit ?_; simp [hlt, hc, hc2, r1, r2, h1, h2])))
          exact ⟨H, _, gcTo_none (fun _ => rfl), he ▸ q⟩
        · (repeat' (first | refine awp_seq ?_ | (refine awp_region tabOk ?_; simp [hlt, hc, hc2, r1, r2, h1, h2, h3]) | (refine awp_if ?_; simp [hlt, hc, hc2, r1, r2, h1, h2, h3]) | refine awp_block ?_ | refine And.intro ?_ ?_ | intro _ | (refine awp_skip ?_; simp [hlt, hc, hc2, r1, r2, h1, h2, h3]) | (refine awp_ret ?_; simp [hlt, hc, hc2, r1, r2, h1, h2, h3]) | (refine awp_exit ?_; simp [hlt, hc, hc2, r1, r2, h1, h2, h3])))
          exact ⟨H, _, gcTo_none (fun _ => rfl), he ▸ q⟩
        · (repeat' (first | refine awp_seq ?_ | (refine awp_region tabOk ?_; simp [hlt, hc, hc2, r1, r2, h1, h2, h3, h4]) | (refine awp_if ?_; simp [hlt, hc, hc2, r1, r2, h1, h2, h3, h4]) | refine awp_block ?_ | refine And.intro ?_ ?_ | intro _ | (refine awp_skip ?_; simp [hlt, hc, hc2, r1, r2, h1, h2, h3, h4]) | (refine awp_ret ?_; simp [hlt, hc, hc2, r1, r2, h1, h2, h3, h4]) | (refine awp_exit ?_; simp [hlt, hc, hc2, r1, r2, h1, h2, h3, h4])))
          exact ⟨H, _, gcTo_none (fun _ => rfl), he ▸ q⟩
    · obtain rfl : i = xs.length := by omega
      have : hErr xs = 0 := by rw [he, Nat.sub_self]; rfl
      (repeat' (first | refine awp_seq ?_ | (refine awp_region tabOk ?_; simp [hlt]) | (refine awp_if ?_; simp [hlt]) | refine awp_block ?_ | refine And.intro ?_ ?_ | intro _ | (refine awp_skip ?_; simp [hlt]) | (refine awp_ret ?_; simp [hlt]) | (refine awp_exit ?_; simp [hlt])))
      exact ⟨H, _, GcTo.refl (Nat.le_refl _), this ▸ q⟩
end Go.Proofs.Ytjjhogleiolngaa
