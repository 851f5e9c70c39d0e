/- LatSays: the law. -/
import Derived.Test.YtjjhogleiolngaaUj
namespace Go.Proofs.Ytjjhogleiolngaa
set_option linter.unusedSimpArgs false
set_option linter.unusedVariables false
open Go.RowKit
attribute [local irreducible] AWP ACalls Wk GcTo
attribute [local simp] tab3 ti3 tab4 ti4 tab29 ti29 tab36 ti36 tab62 ti62 tab38 ti38 tab40 ti40 tab44 ti44
open Se Po
def Bo (l : List Nat) (i j : Int) (X Y : Nat) (e : Int) : Prop :=
  (¬(0 ≤ i ∧ i < l.length ∧ 0 ≤ j ∧ j < l.length) ∧ X = 0 ∧ Y = 0 ∧ e = 1) ∨ ∃ x y s t : Nat, i = x ∧ j = y ∧ l[x]? = some s ∧ l[y]? = some t ∧ X = s ||| t ∧ Y = s &&& t ∧ e = 0
theorem latBoth2 {H : List Blk} {a : Sc} {l : List Nat} {i j : Int} {Q : AV → List Blk → Prop} (ha : USl H a l) (hw : ∀ s ∈ l, s < 65536) (he : seErr l = 0)
    (q : ∀ X Y : Nat, ∀ e, Bo l i j X Y e → Q (.tup [.sc (.int .u16 X), .sc (.int .u16 Y), .sc (.int .i64 e)]) H) :
    ACalls Try.prog 35 [.sc a, .sc (.int .i64 i), .sc (.int .i64 j)] H Q :=
  latBoth ha hw (fun h => absurd he h) (fun _ hr => q 0 0 1 (.inl ⟨hr, rfl, rfl, rfl⟩)) (fun _ x y s t h1 h2 h3 h4 => q _ _ _ (.inr ⟨x, y, s, t, h1, h2, h3, h4, rfl, rfl, rfl⟩))
set_option maxRecDepth 100000 in
set_option maxHeartbeats 4000000 in
theorem lat_law {H : List Blk} {a : Sc} {l : List Nat} {i0 j0 : Int} {Q : AV → List Blk → Prop} (ha : USl H a l) (hw : ∀ s ∈ l, s < 65536) (q : Q (.c (.sc (.bool true))) H) :
    ACalls Try.prog 6 [.sc a, .sc (.int .i64 i0), .sc (.int .i64 j0)] H Q := by
  refine acalls_of tabOk Try.func6 (by kernel_rfl) rfl (by kernel_rfl) ?_
  have hgr := fun (m : Nat → Nat) (l : List Pa) => ren_gB (m := m) (enc := Pa.enc) (fun x => rfl) l
  have hgu := fun (m : Nat → Nat) (l : List Nat) => ren_gB (m := m) (enc := u16e) (fun x => rfl) l
  (repeat' (first | refine awp_seq ?_ | (refine awp_region tabOk ?_; simp) | (refine awp_if ?_; simp) | refine awp_block ?_ | refine And.intro ?_ ?_ | intro _ | (refine awp_skip ?_; simp) | (refine awp_ret ?_; simp) | (refine awp_exit ?_; simp)))
  refine setsErr ha hw ?_
  ((try simp); (repeat' (first | refine awp_seq ?_ | (refine awp_region tabOk ?_; simp) | (refine awp_if ?_; simp) | refine awp_block ?_ | refine And.intro ?_ ?_ | intro _ | (refine awp_skip ?_; simp) | (refine awp_ret ?_; simp) | (refine awp_exit ?_; simp))))
  refine latFirm ha hw (fun he => ?_) (fun he => ?_)
  · ((try simp); (repeat' (first | refine awp_seq ?_ | (refine awp_region tabOk ?_; simp) | (refine awp_if ?_; simp) | refine awp_block ?_ | refine And.intro ?_ ?_ | intro _ | (refine awp_skip ?_; simp) | (refine awp_ret ?_; simp) | (refine awp_exit ?_; simp))))
    refine latBack ha hw (fun _ => ?_) (fun h => absurd h he)
    ((try simp); (repeat' (first | refine awp_seq ?_ | (refine awp_region tabOk ?_; simp) | (refine awp_if ?_; simp) | refine awp_block ?_ | refine And.intro ?_ ?_ | intro _ | (refine awp_skip ?_; simp) | (refine awp_ret ?_; simp) | (refine awp_exit ?_; simp))))
    refine latBoth (ha.app _) hw (fun _ => ?_) (fun h => absurd h he) (fun h => absurd h he)
    ((try simp); (repeat' (first | refine awp_seq ?_ | (refine awp_region tabOk ?_; simp) | (refine awp_if ?_; simp) | refine awp_block ?_ | refine And.intro ?_ ?_ | intro _ | (refine awp_skip ?_; simp) | (refine awp_ret ?_; simp) | (refine awp_exit ?_; simp))))
    refine latCheck (ha.app _) hw ?_
    ((try simp [he]); (repeat' (first | refine awp_seq ?_ | (refine awp_region tabOk ?_; simp [he]) | (refine awp_if ?_; simp [he]) | refine awp_block ?_ | refine And.intro ?_ ?_ | intro _ | (refine awp_skip ?_; simp [he]) | (refine awp_ret ?_; simp [he]) | (refine awp_exit ?_; simp [he]))))
    exact ⟨H, _, gcTo_none (fun _ => rfl), q⟩
  have hL := lt_of he
  have hl1 := hL.len
  ((try simp); (repeat' (first | refine awp_seq ?_ | (refine awp_region tabOk ?_; simp) | (refine awp_if ?_; simp) | refine awp_block ?_ | refine And.intro ?_ ?_ | intro _ | (refine awp_skip ?_; simp) | (refine awp_ret ?_; simp) | (refine awp_exit ?_; simp))))
  refine latBack (ha.app _) hw (fun h => absurd he h) (fun _ F N hF hN => ?_)
  rw [← hF]
  have hN3 : N ≤ 300 := by rw [hN, hF]; exact Nat.le_trans (fm_len _ _) hl1.2
  have hpw : F.Pairwise (· < ·) := by rw [hF]; exact fm_pw hL _
  have hmem : ∀ s ∈ F, s ≤ 4095 := fun s hs => hL.small (fm_mem (by rw [← hF]; exact hs))
  have hPl : (prU (cc F) N N).length < 1000000 := by
    have h1 := prU_len (cc F) N N
    have h3 : N * N ≤ 300 * 300 := Nat.mul_le_mul (by omega) hN3
    omega
  obtain ⟨P, hP⟩ : ∃ P, P = prU (cc F) N N := ⟨_, rfl⟩
  rw [← hP] at hPl ⊢
  ((try simp); (repeat' (first | refine awp_seq ?_ | (refine awp_region tabOk ?_; simp) | (refine awp_if ?_; simp) | refine awp_block ?_ | refine And.intro ?_ ?_ | intro _ | (refine awp_skip ?_; simp) | (refine awp_ret ?_; simp) | (refine awp_exit ?_; simp))))
  refine latBoth2 (ha.app _) hw he (fun X Y e hB0 => ?_)
  ((try simp); (repeat' (first | refine awp_seq ?_ | (refine awp_region tabOk ?_; simp) | (refine awp_if ?_; simp) | refine awp_block ?_ | refine And.intro ?_ ?_ | intro _ | (refine awp_skip ?_; simp) | (refine awp_ret ?_; simp) | (refine awp_exit ?_; simp))))
  refine latCheck (ha.app _) hw ?_
  ((try simp [he]); (repeat' (first | refine awp_seq ?_ | (refine awp_region tabOk ?_; simp [he]) | (refine awp_if ?_; simp [he]) | refine awp_block ?_ | refine And.intro ?_ ?_ | intro _ | (refine awp_skip ?_; simp [he]) | (refine awp_ret ?_; simp [he]) | (refine awp_exit ?_; simp [he]))))
  refine refFirm (ha.app _) hL ?_
  rw [← hF]
  have lF : lenC ti40 (.sc (gV 1 (H.length + 3) F)) = some (F.length : Int) := gV_lenC (e := 44) rfl
  simp only [ti40] at lF
  rw [← hN] at lF
  obtain ⟨id, off, cap, cs, hae, hcap, hc, hx⟩ := usl_at ha (by omega)
  obtain ⟨n, hn⟩ : ∃ n, l.length = n := ⟨_, rfl⟩
  rw [hn] at hae hcap hl1
  subst hae
  have hcL := fun L => lowc_of hc L
  have hid : ∀ ks top, mStd H.length ks top id = id := fun ks top => mStd_low (cells_lt hc)
  ((try simp [-lenC, lF]); (repeat' (first | refine awp_seq ?_ | (refine awp_region tabOk ?_; simp [-lenC, lF]) | (refine awp_if ?_; simp [-lenC, lF]) | refine awp_block ?_ | refine And.intro ?_ ?_ | intro _ | (refine awp_skip ?_; simp [-lenC, lF]) | (refine awp_ret ?_; simp [-lenC, lF]) | (refine awp_exit ?_; simp [-lenC, lF]))))
  refine awp_loop_at (α := {i : Nat // i ≤ N}) (fun i => [(0, .c (.sc (.sl id off 1 n cap))), (1, .c (.sc (.int .i64 i0))), (2, .c (.sc (.int .i64 j0))), (8, .c (.sc (gV 1 H.length F))), (9, .c (.sc (.int .i64 0))), (10, .c (.sc (.ptr (H.length + 2) 0))), (11, .c (.sc (.int .i64 0))), (12, .c (.sc (.int .u16 X))), (13, .c (.sc (.int .u16 Y))), (14, .c (.sc (.int .i64 e))), (15, .c (.sc (gV 1 (H.length + 3) F))), (16, .c (.sc (gV 2 (H.length + 4) (prU (cc F) N i.1)))), (86, .c (.sc (gV 1 (H.length + 3) F))), (87, .c (.sc (.int .i64 N))), (88, .c (.sc (.int .i64 i.1)))])
    (fun i => H ++ [gB u16e F, gB Pa.enc P, .own [.int .i64 N, gV 2 (H.length + 1) P], gB u16e F, gB Pa.enc (prU (cc F) N i.1)]) (fun i => N - i.1) ⟨0, by omega⟩ (wk_gcl [0, 1, 2, 3, 9] (gcOk_of (by decide) (by simp [prU, hgu, hgr])) (by simp [prU, hid])) ?_
  rintro ⟨i, hi⟩
  by_cases hin : i < N
  · have wi := wrapS i (by omega)
    have hin' : (i : Int) < N := by omega
    obtain ⟨s, hs⟩ : ∃ s, F[i]? = some s := ⟨F[i]'(by omega), List.getElem?_eq_getElem _⟩
    have hs1 := hmem s (List.mem_of_getElem? hs)
    have hne : F.length ≠ 0 := by omega
    have hV := fun id => gV_ne (es := 1) (id := id) hne
    have hB := gB_ne (enc := u16e) hne
    simp only [← hN] at hV
    obtain ⟨OF, hOF⟩ : ∃ OF, OF = F.flatMap u16e := ⟨_, rfl⟩
    have hcell : ∀ k t, F[k]? = some t → OF[k]? = some (Sc.int .u16 (t : Nat)) := fun k t ht => by
      have := flat_cell ulen ht (j := 0) (by omega)
      rw [Nat.mul_one, Nat.add_zero] at this
      rw [hOF, this]; rfl
    have hOr : ∀ f : Nat → Nat, OF.map (renS f) = OF := fun f => by rw [hOF, List.map_flatMap]; congr 1
    rw [← hOF] at hB
    have z1 := hcell i s hs
    obtain ⟨_, z1'⟩ := List.getElem?_eq_some_iff.1 z1
    rw [hV, hV, hB]
    (repeat' (first | refine awp_seq ?_ | (refine awp_region tabOk ?_; simp [hin, hin', z1, z1']) | (refine awp_if ?_; simp [hin, hin', z1, z1']) | refine awp_block ?_ | refine And.intro ?_ ?_ | intro _ | (refine awp_skip ?_; simp [hin, hin', z1, z1']) | (refine awp_ret ?_; simp [hin, hin', z1, z1']) | (refine awp_exit ?_; simp [hin, hin', z1, z1'])))
    refine awp_loop_at (α := {j : Nat // j ≤ N}) (fun j => [(0, .c (.sc (.sl id off 1 n cap))), (1, .c (.sc (.int .i64 i0))), (2, .c (.sc (.int .i64 j0))), (8, .c (.sc (.sl H.length 0 1 N N))), (9, .c (.sc (.int .i64 0))), (10, .c (.sc (.ptr (H.length + 2) 0))), (11, .c (.sc (.int .i64 0))), (12, .c (.sc (.int .u16 X))), (13, .c (.sc (.int .u16 Y))), (14, .c (.sc (.int .i64 e))), (15, .c (.sc (.sl (H.length + 3) 0 1 N N))), (16, .c (.sc (gV 2 (H.length + 4) (prU (cc F) N i ++ row (cc F) i j.1)))), (86, .c (.sc (.sl (H.length + 3) 0 1 N N))), (87, .c (.sc (.int .i64 N))), (88, .c (.sc (.int .i64 i))), (17, .c (.sc (.int .i64 i))), (18, .c (.sc (.int .u16 s))), (93, .c (.sc (.sl (H.length + 3) 0 1 N N))), (94, .c (.sc (.int .i64 N))), (95, .c (.sc (.int .i64 j.1)))])
      (fun j => H ++ [.own OF, gB Pa.enc P, .own [.int .i64 N, gV 2 (H.length + 1) P], .own OF, gB Pa.enc (prU (cc F) N i ++ row (cc F) i j.1)]) (fun j => N - j.1) ⟨0, by omega⟩ (wk_tlE (by simp [row]) (by simp [row])) ?_
    rintro ⟨j, hj⟩
    by_cases hjn : j < N
    · have wj := wrapS j (by omega)
      have hjn' : (j : Int) < N := by omega
      obtain ⟨t, ht⟩ : ∃ s, F[j]? = some s := ⟨F[j]'(by omega), List.getElem?_eq_getElem _⟩
      have ht1 := hmem t (List.mem_of_getElem? ht)
      have z2 := hcell j t ht
      obtain ⟨_, z2'⟩ := List.getElem?_eq_some_iff.1 z2
      have o1 := u16_or (a := s) (b := t) (by omega) (by omega)
      have hcc := cc_eq hs ht
      have hrow : prU (cc F) N i ++ row (cc F) i (j + 1) = (prU (cc F) N i ++ row (cc F) i j) ++ if cc F i j then [⟨i, j⟩] else [] := by rw [List.append_assoc]; rfl
      have hlen := pr_len (F := F) hN3 hi hj (cc F)
      have hcy : ¬i = j → s ||| t = t → cc F i j = true := fun h1 h2 => by rw [hcc]; exact decide_eq_true ⟨(or_sub _ _).1 h2, h1⟩
      have hcn : ¬(s ||| t = t ∧ ¬i = j) → cc F i j = false := fun h1 => by rw [hcc]; exact decide_eq_false fun h => h1 ⟨(or_sub _ _).2 h.1, h.2⟩
      have hij := pw_inj hpw hs ht
      by_cases d1 : i = j
      · rw [hcn fun h => h.2 d1, if_neg (by decide), List.append_nil] at hrow
        subst d1
        obtain rfl : s = t := hij.2 rfl
        rw [Nat.or_self] at o1
        (repeat' (first | refine awp_seq ?_ | (refine awp_region tabOk ?_; simp [hjn, hjn', z2, z2', o1, wj]) | (refine awp_if ?_; simp [hjn, hjn', z2, z2', o1, wj]) | refine awp_block ?_ | refine And.intro ?_ ?_ | intro _ | (refine awp_skip ?_; simp [hjn, hjn', z2, z2', o1, wj]) | (refine awp_ret ?_; simp [hjn, hjn', z2, z2', o1, wj]) | (refine awp_exit ?_; simp [hjn, hjn', z2, z2', o1, wj])))
        exact ⟨i + 1, by omega, by omega, wk_tlE (by rw [hrow]) (by simp [wj, hrow])⟩
      have d1' : ¬s = t := fun h => d1 (hij.1 h)
      have d1i : ¬(s : Int) = t := by omega
      generalize hA : s ||| t = A at *
      by_cases d2 : A = t
      · have d2' : (A : Int) = t := by omega
        rw [hcy d1 d2, if_pos rfl] at hrow
        cases hl : prU (cc F) N i ++ row (cc F) i j with
        | nil =>
          rw [hl] at hrow
          (repeat' (first | refine awp_seq ?_ | (refine awp_region tabOk ?_; simp [hjn, hjn', z2, z2', d1', d1i, o1, d2, d2', wj, maxLen]) | (refine awp_if ?_; simp [hjn, hjn', z2, z2', d1', d1i, o1, d2, d2', wj, maxLen]) | refine awp_block ?_ | refine And.intro ?_ ?_ | intro _ | (refine awp_skip ?_; simp [hjn, hjn', z2, z2', d1', d1i, o1, d2, d2', wj, maxLen]) | (refine awp_ret ?_; simp [hjn, hjn', z2, z2', d1', d1i, o1, d2, d2', wj, maxLen]) | (refine awp_exit ?_; simp [hjn, hjn', z2, z2', d1', d1i, o1, d2, d2', wj, maxLen])))
          refine ⟨j + 1, by omega, by omega, ?_⟩
          rw [hrow]
          exact wk_gcl [0, 1, 2, 3, 6] (gcOk_of (by decide) (by simp [gB_cons, Pa.enc, hOr, hgr])) (by simp [wj, hid])
        | cons o O =>
          rw [hl] at hrow hlen
          obtain ⟨OG, hOG, hgB, hOFl, hOFt, hOFr⟩ := gB_own plen paren o O
          rw [List.length_cons] at hlen
          have hno : ¬O.length + 1 + 1 ≤ O.length + 1 := by omega
          have hml : (O.length + 1 + 1) * 16 ≤ 140737488355328 := by omega
          have hml1 : O.length + 1 + 1 ≤ 9223372036854775807 := by omega
          (repeat' (first | refine awp_seq ?_ | (refine awp_region tabOk ?_; simp [hjn, hjn', z2, z2', d1', d1i, o1, d2, d2', wj, maxLen, hgB, hno, hml, hml1, hOFl, hOFt]) | (refine awp_if ?_; simp [hjn, hjn', z2, z2', d1', d1i, o1, d2, d2', wj, maxLen, hgB, hno, hml, hml1, hOFl, hOFt]) | refine awp_block ?_ | refine And.intro ?_ ?_ | intro _ | (refine awp_skip ?_; simp [hjn, hjn', z2, z2', d1', d1i, o1, d2, d2', wj, maxLen, hgB, hno, hml, hml1, hOFl, hOFt]) | (refine awp_ret ?_; simp [hjn, hjn', z2, z2', d1', d1i, o1, d2, d2', wj, maxLen, hgB, hno, hml, hml1, hOFl, hOFt]) | (refine awp_exit ?_; simp [hjn, hjn', z2, z2', d1', d1i, o1, d2, d2', wj, maxLen, hgB, hno, hml, hml1, hOFl, hOFt])))
          refine ⟨j + 1, by omega, by omega, ?_⟩
          rw [hrow, gB_snoc, gV_snoc, ← hOG]
          exact wk_gcl [0, 1, 2, 3, 6] (gcOk_of (by decide) (by simp [hOFr, Pa.enc, hOr, hgr])) (by simp [wj, hid])
      · have d2' : ¬(A : Int) = t := by omega
        rw [hcn fun h => d2 h.1, if_neg (by decide), List.append_nil] at hrow
        (repeat' (first | refine awp_seq ?_ | (refine awp_region tabOk ?_; simp [hjn, hjn', z2, z2', d1', d1i, o1, d2, d2', wj]) | (refine awp_if ?_; simp [hjn, hjn', z2, z2', d1', d1i, o1, d2, d2', wj]) | refine awp_block ?_ | refine And.intro ?_ ?_ | intro _ | (refine awp_skip ?_; simp [hjn, hjn', z2, z2', d1', d1i, o1, d2, d2', wj]) | (refine awp_ret ?_; simp [hjn, hjn', z2, z2', d1', d1i, o1, d2, d2', wj]) | (refine awp_exit ?_; simp [hjn, hjn', z2, z2', d1', d1i, o1, d2, d2', wj])))
        exact ⟨j + 1, by omega, by omega, wk_tlE (by rw [hrow]) (by simp [wj, hrow])⟩
    · obtain rfl : j = N := by omega
      (repeat' (first | refine awp_seq ?_ | (refine awp_region tabOk ?_; simp) | (refine awp_if ?_; simp) | refine awp_block ?_ | refine And.intro ?_ ?_ | intro _ | (refine awp_skip ?_; simp) | (refine awp_ret ?_; simp) | (refine awp_exit ?_; simp)))
      exact ⟨i + 1, by omega, by omega, wk_tlE rfl (by simp [wi]; rfl)⟩
  · obtain rfl : i = N := by omega
    rw [← hP]
    (repeat' (first | refine awp_seq ?_ | (refine awp_region tabOk ?_; simp [-lenC, lF]) | (refine awp_if ?_; simp [-lenC, lF]) | refine awp_block ?_ | refine And.intro ?_ ?_ | intro _ | (refine awp_skip ?_; simp [-lenC, lF]) | (refine awp_ret ?_; simp [-lenC, lF]) | (refine awp_exit ?_; simp [-lenC, lF])))
    refine equalU16 (xs := F) (GSl.own ulen (by simp)) (GSl.own ulen (by simp)) (by omega) ?_
    ((try simp [-lenC, lF]); (repeat' (first | refine awp_seq ?_ | (refine awp_region tabOk ?_; simp [-lenC, lF]) | (refine awp_if ?_; simp [-lenC, lF]) | refine awp_block ?_ | refine And.intro ?_ ?_ | intro _ | (refine awp_skip ?_; simp [-lenC, lF]) | (refine awp_ret ?_; simp [-lenC, lF]) | (refine awp_exit ?_; simp [-lenC, lF]))))
    refine ⟨_, equalPairs (xs := P) (GSl.own plen (by simp)) (GSl.own plen (by simp)) hPl ⟨rfl, rfl⟩, ?_⟩
    obtain ⟨m1, hm1⟩ : ∃ m1, (if j0 < i0 then j0 else i0) = m1 := ⟨_, rfl⟩
    obtain ⟨m2, hm2⟩ : ∃ m2, (if i0 < j0 then j0 else i0) = m2 := ⟨_, rfl⟩
    have k1 : m1 < 0 ↔ (i0 < 0 ∨ j0 < 0) := by rw [← hm1]; split <;> omega
    have k2 : (n : Int) ≤ m2 ↔ ((n : Int) ≤ i0 ∨ (n : Int) ≤ j0) := by rw [← hm2]; split <;> omega
    have out : ¬(0 ≤ i0 ∧ i0 < l.length ∧ 0 ≤ j0 ∧ j0 < l.length) → X = 0 ∧ Y = 0 ∧ e = 1 := fun h => by
      rcases hB0 with ⟨_, g⟩ | ⟨x, y, s, t, rfl, rfl, g3, g4, _⟩
      · exact g
      · exact absurd ⟨by omega, by have := (List.getElem?_eq_some_iff.1 g3).1; omega, by omega, by have := (List.getElem?_eq_some_iff.1 g4).1; omega⟩ h
    by_cases c1 : m1 < 0
    · obtain ⟨rfl, rfl, rfl⟩ := out (by have := k1.1 c1; omega)
      ((try simp [hm1, hm2, c1]); (repeat' (first | refine awp_seq ?_ | (refine awp_region tabOk ?_; simp [hm1, hm2, c1]) | (refine awp_if ?_; simp [hm1, hm2, c1]) | refine awp_block ?_ | refine And.intro ?_ ?_ | intro _ | (refine awp_skip ?_; simp [hm1, hm2, c1]) | (refine awp_ret ?_; simp [hm1, hm2, c1]) | (refine awp_exit ?_; simp [hm1, hm2, c1]))))
      exact ⟨H, _, gcTo_none (fun _ => rfl), q⟩
    by_cases c2 : (n : Int) ≤ m2
    · obtain ⟨rfl, rfl, rfl⟩ := out (by have := k2.1 c2; omega)
      ((try simp [hm1, hm2, c1, c2]); (repeat' (first | refine awp_seq ?_ | (refine awp_region tabOk ?_; simp [hm1, hm2, c1, c2]) | (refine awp_if ?_; simp [hm1, hm2, c1, c2]) | refine awp_block ?_ | refine And.intro ?_ ?_ | intro _ | (refine awp_skip ?_; simp [hm1, hm2, c1, c2]) | (refine awp_ret ?_; simp [hm1, hm2, c1, c2]) | (refine awp_exit ?_; simp [hm1, hm2, c1, c2]))))
      exact ⟨H, _, gcTo_none (fun _ => rfl), q⟩
    ((try simp [hm1, hm2, c1, c2]); (repeat' (first | refine awp_seq ?_ | (refine awp_region tabOk ?_; simp [hm1, hm2, c1, c2]) | (refine awp_if ?_; simp [hm1, hm2, c1, c2]) | refine awp_block ?_ | refine And.intro ?_ ?_ | intro _ | (refine awp_skip ?_; simp [hm1, hm2, c1, c2]) | (refine awp_ret ?_; simp [hm1, hm2, c1, c2]) | (refine awp_exit ?_; simp [hm1, hm2, c1, c2]))))
    rcases hB0 with ⟨g, _⟩ | ⟨x, y, s, t, rfl, rfl, hs, ht, rfl, rfl, rfl⟩
    · exact absurd ⟨by omega, by omega, by omega, by omega⟩ g
    have z1 := hx x s hs
    obtain ⟨_, z1'⟩ := List.getElem?_eq_some_iff.1 z1
    have z2 := hx y t ht
    obtain ⟨_, z2'⟩ := List.getElem?_eq_some_iff.1 z2
    have e1 : x < n := by omega
    have e2 : y < n := by omega
    have e1' : (x : Int) < n := by omega
    have e2' : (y : Int) < n := by omega
    have b1 := hL.small (List.mem_of_getElem? hs)
    have b2 := hL.small (List.mem_of_getElem? ht)
    have o1 := u16_or (a := s) (b := t) (by omega) (by omega)
    have o2 := u16_and (a := s) (b := t) (by omega) (by omega)
    generalize s ||| t = S1 at *
    generalize s &&& t = S2 at *
    refine awp_draw tabOk mixed [] (by kernel_rfl) ?_
    simp [hcL, z1, z1', z2, z2', e1, e2, e1', e2', o1, o2]
    (repeat' (first | refine awp_seq ?_ | (refine awp_region tabOk ?_; simp) | (refine awp_if ?_; simp) | refine awp_block ?_ | refine And.intro ?_ ?_ | intro _ | (refine awp_skip ?_; simp) | (refine awp_ret ?_; simp) | (refine awp_exit ?_; simp)))
    exact ⟨H, _, gcTo_none (fun _ => rfl), q⟩
end Go.Proofs.Ytjjhogleiolngaa
