/- LatDowns: partref.Downs, the law. -/
import Derived.Test.YtjjhogleiolngaaLf
namespace Go.Proofs.Ytjjhogleiolngaa
set_option linter.unusedSimpArgs false
set_option linter.unusedVariables false
open Go.RowKit
attribute [local irreducible] AWP ACalls Wk GcTo
attribute [local simp] tab3 ti3 tab4 ti4 tab29 ti29 tab36 ti36 tab62 ti62 tab38 ti38 tab40 ti40 tab44 ti44 tab80 ti80 tab82 ti82
open Po Cl
theorem wk_gclA0 {N : Nat} {H0 A K : List Blk} {T : Nat → AV} {L' : List Blk} {l : List (Nat × AV)} (hK : K = H0 ++ A) (hA : ∀ b ∈ A, LowB K.length b) (ks : List Nat) (hg : GcOk K.length ks K.length [] L')
    (h : tlOkM (mStd K.length ks K.length) T l) : Wk N H0 T K (tl l) (K ++ L') := by
  have := wk_gclA (N := N) (T := T) (L := []) (L' := L') (l := l) hK hA ks (by rw [List.append_nil]; exact hg) rfl (by rw [List.append_nil]; exact h)
  rwa [List.append_nil] at this
set_option maxRecDepth 100000 in
set_option maxHeartbeats 2000000 in
theorem refDowns {H : List Blk} {a : Sc} {n : Nat} {l : List Pa} {Q : AV → List Blk → Prop} (ha : PSl H a l) (hn12 : n ≤ 12) (hl : l.length ≤ 600) (hb : Bd n l) (q : ∀ b L, USl (H ++ L) b (dnS n l) → Q (.c (.sc b)) (H ++ L)) :
    ACalls Try.prog 27 [.agg [.int .i64 n, a]] H Q := by
  refine acalls_of tabOk Try.func27 (by kernel_rfl) rfl (by kernel_rfl) ?_
  have hra := ha.ren
  have hgu := fun (m : Nat → Nat) (l : List Nat) => ren_gB (m := m) (enc := u16e) (fun x => rfl) l
  (repeat' (first | refine awp_seq ?_ | (refine awp_region tabOk ?_; simp) | (refine awp_if ?_; simp) | refine awp_block ?_ | refine And.intro ?_ ?_ | intro _ | (refine awp_skip ?_; simp) | (refine awp_ret ?_; simp) | (refine awp_exit ?_; simp)))
  refine closureL (ha.app _) (by omega) (by omega) hb (fun b L hLo hm => ?_)
  obtain ⟨K, hK, hK0, hKH⟩ : ∃ K : List Blk, K = H ++ [.own [.int .i64 n, a]] ++ L ∧ (∀ M : List Blk, (K ++ M)[H.length]? = some (.own [.int .i64 n, a])) ∧ ∃ M, K = H ++ M := ⟨_, rfl, by simp, ⟨_, List.append_assoc _ _ _⟩⟩
  rw [← hK] at hm hLo ⊢
  have hKA : K = H ++ ([.own [.int .i64 n, a]] ++ L) := by rw [hK, List.append_assoc]
  have hA : ∀ b ∈ ([.own [.int .i64 n, a]] ++ L : List Blk), LowB K.length b := fun b hb => by
    rcases List.mem_append.1 hb with h | h
    · simp at h; subst h
      intro m hm
      have := ha.renL (m := m) (fun i hi => hm i (by rw [hKA]; simp; omega))
      simp [this]
    · exact hLo b h
  have hK1 := hK0 []
  rw [List.append_nil] at hK1
  obtain ⟨bid, bcs, rfl, hb1, hb2, hb3⟩ := hm
  have hbK := fun M => lowc_of hb1 M
  have hlt0 : H.length < K.length := by have := (List.getElem?_eq_some_iff.1 hK1).1; exact this
  have hH0 : ∀ ks top, mStd K.length ks top H.length = H.length := fun ks top => mStd_low hlt0
  have hbid : ∀ ks top, mStd K.length ks top bid = bid := fun ks top => mStd_low (cells_lt hb1)
  have hsh := shl_i64 (b := n) (by omega)
  have h12 : 2 ^ n ≤ 2 ^ 12 := Nat.pow_le_pow_right (by decide) hn12
  obtain ⟨Z, hZ⟩ : ∃ Z, Z = 2 ^ n := ⟨_, rfl⟩
  unfold dnS at q
  rw [← hZ] at hsh h12 q
  rw [show (2 : Nat) ^ 12 = 4096 from rfl] at h12
  have hgK : ∃ A, K = H ++ A := hKH
  ((try simp [hsh, hK0, hK1]); (repeat' (first | refine awp_seq ?_ | (refine awp_region tabOk ?_; simp [hsh, hK0, hK1]) | (refine awp_if ?_; simp [hsh, hK0, hK1]) | refine awp_block ?_ | refine And.intro ?_ ?_ | intro _ | (refine awp_skip ?_; simp [hsh, hK0, hK1]) | (refine awp_ret ?_; simp [hsh, hK0, hK1]) | (refine awp_exit ?_; simp [hsh, hK0, hK1]))))
  refine awp_loop_at (α := {s : Nat // s ≤ Z}) (fun s => [(1, .c (.sc (.ptr H.length 0))), (3, .c (.sc (.sl bid 0 1 n n))), (4, .c (.sc (gV 1 K.length (dn (fun s => ra (clo l) n s n) s.1)))), (16, .c (.sc (.int .i64 Z))), (17, .c (.sc (.int .i64 s.1)))])
    (fun s => K ++ [gB u16e (dn (fun s => ra (clo l) n s n) s.1)]) (fun s => Z - s.1) ⟨0, by omega⟩ ?_ ?_
  · exact wk_gclA0 hKA hA [9] (gcOk_of (by decide) (by simp [dn])) (by simp [hH0, hbid, dn])
  rintro ⟨s, hs⟩
  by_cases hsz : s < Z
  · have ws := wrapS s (by omega)
    have hsz' : (s : Int) < Z := by omega
    (repeat' (first | refine awp_seq ?_ | (refine awp_region tabOk ?_; simp [hsz, hK0]) | (refine awp_if ?_; simp [hsz, hK0]) | refine awp_block ?_ | refine And.intro ?_ ?_ | intro _ | (refine awp_skip ?_; simp [hsz, hK0]) | (refine awp_ret ?_; simp [hsz, hK0]) | (refine awp_exit ?_; simp [hsz, hK0])))
    refine awp_loop_at (α := {k : Nat // k ≤ n}) (fun k => [(1, .c (.sc (.ptr H.length 0))), (3, .c (.sc (.sl bid 0 1 n n))), (4, .c (.sc (gV 1 K.length (dn (fun s => ra (clo l) n s n) s)))), (16, .c (.sc (.int .i64 Z))), (17, .c (.sc (.int .i64 s))), (5, .c (.sc (.int .i64 s))), (6, .c (.sc (.bool (ra (clo l) n s k.1)))), (21, .c (.sc (.int .i64 n))), (22, .c (.sc (.int .i64 k.1)))])
      (fun k => K ++ [gB u16e (dn (fun s => ra (clo l) n s n) s)]) (fun k => n - k.1) ⟨0, by omega⟩ (wk_tl (by simp [ra])) ?_
    rintro ⟨k, hk⟩
    by_cases hkn : k < n
    · have wk := wrapS k (by omega)
      obtain ⟨rid, c1, c2⟩ := hb3 k hkn
      obtain ⟨_, c1'⟩ := List.getElem?_eq_some_iff.1 c1
      have hkb : k < bcs.length := by omega
      have c2K := fun M => lowc_of c2 M
      (repeat' (first | refine awp_seq ?_ | (refine awp_region tabOk ?_; simp [hkn, hK0]) | (refine awp_if ?_; simp [hkn, hK0]) | refine awp_block ?_ | refine And.intro ?_ ?_ | intro _ | (refine awp_skip ?_; simp [hkn, hK0]) | (refine awp_ret ?_; simp [hkn, hK0]) | (refine awp_exit ?_; simp [hkn, hK0])))
      refine awp_loop_at (α := {j : Nat // j ≤ n}) (fun j => [(1, .c (.sc (.ptr H.length 0))), (3, .c (.sc (.sl bid 0 1 n n))), (4, .c (.sc (gV 1 K.length (dn (fun s => ra (clo l) n s n) s)))), (16, .c (.sc (.int .i64 Z))), (17, .c (.sc (.int .i64 s))), (5, .c (.sc (.int .i64 s))), (6, .c (.sc (.bool (ra (clo l) n s k && rb (clo l) s k j.1)))), (21, .c (.sc (.int .i64 n))), (22, .c (.sc (.int .i64 k))), (7, .c (.sc (.int .i64 k))), (26, .c (.sc (.int .i64 n))), (27, .c (.sc (.int .i64 j.1)))])
        (fun j => K ++ [gB u16e (dn (fun s => ra (clo l) n s n) s)]) (fun j => n - j.1) ⟨0, by omega⟩ (wk_tl (by simp [rb])) ?_
      rintro ⟨j, hj⟩
      by_cases hjn : j < n
      · have wj := wrapS j (by omega)
        have a1 := fnB_at (clo l k) hjn
        have hsk := shr_nat .i64 s k (by show k ≤ 64; omega)
        have hsj := shr_nat .i64 s j (by show j ≤ 64; omega)
        have hrb : (ra (clo l) n s k && rb (clo l) s k (j + 1)) = ((ra (clo l) n s k && rb (clo l) s k j) && !(clo l k j && s.testBit j && !s.testBit k)) := by rw [Bool.and_assoc]; rfl
        have hbk := bit_cases s k
        have hbj := bit_cases s j
        generalize s / 2 ^ k = y at *
        generalize s / 2 ^ j = z at *
        generalize s.testBit k = tk at *
        generalize s.testBit j = tj at *
        generalize (ra (clo l) n s k && rb (clo l) s k j) = r at *
        generalize hC : clo l k j = C at *
        have hty : (y : Int).tmod 2 = ((y % 2 : Nat) : Int) := (Int.ofNat_tmod y 2).symm
        have htz : (z : Int).tmod 2 = ((z % 2 : Nat) : Int) := (Int.ofNat_tmod z 2).symm
        rcases hbk with ⟨e1, rfl⟩ | ⟨e1, rfl⟩ <;> rcases hbj with ⟨e2, rfl⟩ | ⟨e2, rfl⟩
        all_goals
          rw [e1] at hty
          rw [e2] at htz
          cases r <;> cases C
          all_goals
            (repeat' (first | refine awp_seq ?_ | (refine awp_region tabOk ?_; simp [hjn, hkn, hbK, c1, c1', c2K, hkb, a1, hC, hsk, hsj, hty, htz, wj]) | (refine awp_if ?_; simp [hjn, hkn, hbK, c1, c1', c2K, hkb, a1, hC, hsk, hsj, hty, htz, wj]) | refine awp_block ?_ | refine And.intro ?_ ?_ | intro _ | (refine awp_skip ?_; simp [hjn, hkn, hbK, c1, c1', c2K, hkb, a1, hC, hsk, hsj, hty, htz, wj]) | (refine awp_ret ?_; simp [hjn, hkn, hbK, c1, c1', c2K, hkb, a1, hC, hsk, hsj, hty, htz, wj]) | (refine awp_exit ?_; simp [hjn, hkn, hbK, c1, c1', c2K, hkb, a1, hC, hsk, hsj, hty, htz, wj])))
            exact ⟨j + 1, by omega, by omega, wk_tl (by simp [wj, hrb])⟩
      · obtain rfl : j = n := by omega
        (repeat' (first | refine awp_seq ?_ | (refine awp_region tabOk ?_; simp) | (refine awp_if ?_; simp) | refine awp_block ?_ | refine And.intro ?_ ?_ | intro _ | (refine awp_skip ?_; simp) | (refine awp_ret ?_; simp) | (refine awp_exit ?_; simp)))
        exact ⟨k + 1, by omega, by omega, wk_tl (by simp [wk, ra])⟩
    · obtain rfl : k = n := by omega
      have hds := dn_succ (fun s => ra (clo l) k s k) s
      have hdl := dn_len (fun s => ra (clo l) k s k) s
      have wu := wrap_u16 (n := s) (by omega)
      cases hr : ra (clo l) k s k with
      | true =>
        rw [hr, if_pos rfl] at hds
        cases hO : dn (fun s => ra (clo l) k s k) s with
        | nil =>
          rw [hO] at hds
          (repeat' (first | refine awp_seq ?_ | (refine awp_region tabOk ?_; simp [wu, maxLen, ws]) | (refine awp_if ?_; simp [wu, maxLen, ws]) | refine awp_block ?_ | refine And.intro ?_ ?_ | intro _ | (refine awp_skip ?_; simp [wu, maxLen, ws]) | (refine awp_ret ?_; simp [wu, maxLen, ws]) | (refine awp_exit ?_; simp [wu, maxLen, ws])))
          refine ⟨s + 1, by omega, by omega, ?_⟩
          rw [hds]
          exact wk_gclA hKA hA [2] (gcOk_of (by decide) (by simp [gB, u16e])) rfl (by simp [ws, hH0, hbid])
        | cons o O =>
          rw [hO] at hds hdl
          obtain ⟨OF, hOF, hgB, hOFl, hOFt, hOFr⟩ := gB_own ulen uren o O
          rw [List.length_cons] at hdl
          rw [Nat.mul_one] at hOFl hOFt
          have hno : ¬O.length + 1 + 1 ≤ O.length + 1 := by omega
          have hml : (O.length + 1 + 1) * 2 ≤ 140737488355328 := by omega
          have hml1 : O.length + 1 + 1 ≤ 9223372036854775807 := by omega
          (repeat' (first | refine awp_seq ?_ | (refine awp_region tabOk ?_; simp [wu, maxLen, ws, hgB, hno, hml, hml1, hOFl, hOFt]) | (refine awp_if ?_; simp [wu, maxLen, ws, hgB, hno, hml, hml1, hOFl, hOFt]) | refine awp_block ?_ | refine And.intro ?_ ?_ | intro _ | (refine awp_skip ?_; simp [wu, maxLen, ws, hgB, hno, hml, hml1, hOFl, hOFt]) | (refine awp_ret ?_; simp [wu, maxLen, ws, hgB, hno, hml, hml1, hOFl, hOFt]) | (refine awp_exit ?_; simp [wu, maxLen, ws, hgB, hno, hml, hml1, hOFl, hOFt])))
          refine ⟨s + 1, by omega, by omega, ?_⟩
          rw [hds, gB_snoc, gV_snoc, ← hOF]
          exact wk_gclA hKA hA [2] (gcOk_of (by decide) (by simp [hOFr, u16e])) rfl (by simp [ws, hH0, hbid])
      | false =>
        rw [hr, if_neg (by decide), List.append_nil] at hds
        (repeat' (first | refine awp_seq ?_ | (refine awp_region tabOk ?_; simp [ws]) | (refine awp_if ?_; simp [ws]) | refine awp_block ?_ | refine And.intro ?_ ?_ | intro _ | (refine awp_skip ?_; simp [ws]) | (refine awp_ret ?_; simp [ws]) | (refine awp_exit ?_; simp [ws])))
        exact ⟨s + 1, by omega, by omega, wk_tlE (by rw [hds]) (by simp [ws, hds])⟩
  · obtain rfl : s = Z := by omega
    (repeat' (first | refine awp_seq ?_ | (refine awp_region tabOk ?_; simp) | (refine awp_if ?_; simp) | refine awp_block ?_ | refine And.intro ?_ ?_ | intro _ | (refine awp_skip ?_; simp) | (refine awp_ret ?_; simp) | (refine awp_exit ?_; simp)))
    rw [hKA, List.append_assoc]
    refine ⟨_, _, GcTo.refl (by simp), q _ _ ?_⟩
    have := GSl.own (H := H ++ ([.own [.int .i64 n, a]] ++ L) ++ [gB u16e (dn (fun s => ra (clo l) n s n) s)]) (id := K.length) (xs := dn (fun s => ra (clo l) n s n) s) (enc := u16e) (es := 1) ulen (by rw [hKA]; simp)
    rw [hKA, List.append_assoc] at this
    exact this
set_option maxRecDepth 100000 in
set_option maxHeartbeats 2000000 in
theorem downs_law {H : List Blk} {a : Sc} {n : Int} {l : List Pa} {Q : AV → List Blk → Prop} (ha : PSl H a l) (q : Q (.c (.sc (.bool true))) H) :
    ACalls Try.prog 4 [.agg [.int .i64 n, a]] H Q := by
  refine acalls_of tabOk Try.func4 (by kernel_rfl) rfl (by kernel_rfl) ?_
  have hra := ha.ren
  (repeat' (first | refine awp_seq ?_ | (refine awp_region tabOk ?_; simp) | (refine awp_if ?_; simp) | refine awp_block ?_ | refine And.intro ?_ ?_ | intro _ | (refine awp_skip ?_; simp) | (refine awp_ret ?_; simp) | (refine awp_exit ?_; simp)))
  refine posetErr (ha.app _) ?_
  ((try simp); (repeat' (first | refine awp_seq ?_ | (refine awp_region tabOk ?_; simp) | (refine awp_if ?_; simp) | refine awp_block ?_ | refine And.intro ?_ ?_ | intro _ | (refine awp_skip ?_; simp) | (refine awp_ret ?_; simp) | (refine awp_exit ?_; simp))))
  refine latDowns (ha.app _) (fun he => ?_) (fun he hn => ?_) (fun he hn b L hb => ?_)
  · ((try simp [he]); (repeat' (first | refine awp_seq ?_ | (refine awp_region tabOk ?_; simp [he]) | (refine awp_if ?_; simp [he]) | refine awp_block ?_ | refine And.intro ?_ ?_ | intro _ | (refine awp_skip ?_; simp [he]) | (refine awp_ret ?_; simp [he]) | (refine awp_exit ?_; simp [he]))))
    exact ⟨H, _, gcTo_none (fun _ => rfl), q⟩
  · ((try simp [he, hn]); (repeat' (first | refine awp_seq ?_ | (refine awp_region tabOk ?_; simp [he, hn]) | (refine awp_if ?_; simp [he, hn]) | refine awp_block ?_ | refine And.intro ?_ ?_ | intro _ | (refine awp_skip ?_; simp [he, hn]) | (refine awp_ret ?_; simp [he, hn]) | (refine awp_exit ?_; simp [he, hn]))))
    exact ⟨H, _, gcTo_none (fun _ => rfl), q⟩
  · obtain ⟨g1, g2, g3, g4⟩ := poErr_ok he
    obtain ⟨n, rfl⟩ := Int.eq_ofNat_of_zero_le g1
    rw [Int.toNat_natCast] at g4 hb
    obtain ⟨K, hK, hK0, hKH⟩ : ∃ K : List Blk, K = H ++ [.own [.int .i64 n, a]] ++ L ∧ (∀ M : List Blk, (K ++ M)[H.length]? = some (.own [.int .i64 n, a])) ∧ ∃ M, K = H ++ M := ⟨_, rfl, by simp, ⟨_, List.append_assoc _ _ _⟩⟩
    have haK : PSl K a l := by rw [hK]; exact (ha.app _).app L
    have hZ : 2 ^ n ≤ 2 ^ 12 := Nat.pow_le_pow_right (by decide) (by omega)
    have hlen : (dnS n l).length ≤ 4096 := Nat.le_trans (dn_len _ _) hZ
    rw [← hK] at hb ⊢
    have hK1 := hK0 []
    rw [List.append_nil] at hK1
    ((try simp [he, hn, hK0, hK1]); (repeat' (first | refine awp_seq ?_ | (refine awp_region tabOk ?_; simp [he, hn, hK0, hK1]) | (refine awp_if ?_; simp [he, hn, hK0, hK1]) | refine awp_block ?_ | refine And.intro ?_ ?_ | intro _ | (refine awp_skip ?_; simp [he, hn, hK0, hK1]) | (refine awp_ret ?_; simp [he, hn, hK0, hK1]) | (refine awp_exit ?_; simp [he, hn, hK0, hK1]))))
    refine refDowns haK (by omega) g3 g4 (fun b2 L2 hb2 => ?_)
    ((try simp); (repeat' (first | refine awp_seq ?_ | (refine awp_region tabOk ?_; simp) | (refine awp_if ?_; simp) | refine awp_block ?_ | refine And.intro ?_ ?_ | intro _ | (refine awp_skip ?_; simp) | (refine awp_ret ?_; simp) | (refine awp_exit ?_; simp))))
    refine equalU16 (hb.app L2) hb2 (by omega) ?_
    ((try simp); (repeat' (first | refine awp_seq ?_ | (refine awp_region tabOk ?_; simp) | (refine awp_if ?_; simp) | refine awp_block ?_ | refine And.intro ?_ ?_ | intro _ | (refine awp_skip ?_; simp) | (refine awp_ret ?_; simp) | (refine awp_exit ?_; simp))))
    exact ⟨H, _, gcTo_Kn hKH (fun _ => rfl), q⟩
end Go.Proofs.Ytjjhogleiolngaa
