/- partref.Vectors: the walk. -/
import Derived.Test.YtjjhogleiolngaaVh
namespace Go.Proofs.Ytjjhogleiolngaa
set_option linter.unusedSimpArgs false
set_option linter.unusedVariables false
open Go.RowKit
attribute [local irreducible] AWP ACalls Wk GcTo
attribute [local simp] tab3 ti3 tab4 ti4 tab23 ti23 tab24 ti24 tab28 ti28 tab80 ti80 tab82 ti82 tab135 ti135
open Hi Cl
theorem row_cell {cs : List Sc} {o : Nat} {a b c : Sc} (h : (cs.drop o).take 3 = [a, b, c]) : cs[o]? = some a := by
  have : ((cs.drop o).take 3)[0]? = some a := by rw [h]; rfl
  rw [List.getElem?_take_of_lt (by omega), List.getElem?_drop] at this
  simpa using this
/-- How many of the first i are causes of k, and of p. -/
noncomputable def pc (h : List Ev) (k i p : Nat) : Nat := (List.range i).countP fun x => (cau h x k || decide (x = k)) && decide (eP h x = p)
theorem pc_succ (h : List Ev) (k i p : Nat) : pc h k (i + 1) p = pc h k i p + if (cau h i k || decide (i = k)) && decide (eP h i = p) then 1 else 0 := by
  unfold pc
  rw [List.range_succ, List.countP_append, List.countP_singleton]
theorem pc_le (h : List Ev) (k i p : Nat) : pc h k i p ≤ i := by
  unfold pc
  have := List.countP_le_length (p := fun x => (cau h x k || decide (x = k)) && decide (eP h x = p)) (l := List.range i)
  simpa using this
open Classical in
theorem pc_vo {h : List Ev} (hR : Right h) {k : Nat} (hk : k < h.length) (p : Nat) : (pc h k h.length p : Int) = Vc.vo (eP h) (eM h) (eK h) k p := by
  rw [hR.cnt hk]
  congr 1
  unfold pc Vc.cnt
  apply List.countP_congr
  intro i _
  refine ⟨fun hh => decide_eq_true ?_, fun hh => ?_⟩
  · simp only [Bool.and_eq_true, Bool.or_eq_true, decide_eq_true_eq] at hh
    obtain ⟨a, b⟩ := hh
    refine ⟨?_, b⟩
    rcases a with a | a
    · exact .inr (of_decide_eq_true a)
    · exact .inl a
  · obtain ⟨a, b⟩ := of_decide_eq_true hh
    simp only [Bool.and_eq_true, Bool.or_eq_true, decide_eq_true_eq]
    refine ⟨?_, b⟩
    rcases a with a | a
    · exact .inr a
    · exact .inl (decide_eq_true a)
noncomputable def cT (h : List Ev) (k i : Nat) (r p : Nat) : Int := if r < k then Vc.vo (eP h) (eM h) (eK h) r p else if r = k then (pc h k i p : Int) else 0
theorem cT_at (h : List Ev) (k i p : Nat) : cT h k i k p = (pc h k i p : Int) := by simp [cT]
theorem cT_no {h : List Ev} {k i : Nat} (hn : (cau h i k || decide (i = k)) = false) : cT h k (i + 1) = cT h k i := by
  funext r p; unfold cT; rw [pc_succ, hn]; simp
theorem cT_yes {h : List Ev} {n k i : Nat} (hn : (cau h i k || decide (i = k)) = true) : tbC n (fun r' => if r' = k then (fun j' => if j' = eP h i then (pc h k i (eP h i) : Int) + 1 else cT h k i k j') else cT h k i r') = tbC n (cT h k (i + 1)) := by
  refine tbC_ext fun r j _ _ => ?_
  by_cases e : r = k
  · subst e
    rw [cT_at, if_pos rfl, pc_succ, hn]
    by_cases e2 : j = eP h i
    · subst e2; simp
    · have e3 : ¬eP h i = j := fun e => e2 e.symm
      simp [e2, e3, cT_at]
  · simp only [e, if_false]; unfold cT; simp [e]
theorem cT_next {h : List Ev} (hR : Right h) {k : Nat} (hk : k < h.length) (n : Nat) : tbC n (cT h k h.length) = tbC n (cT h (k + 1) 0) := by
  refine tbC_ext fun r j _ _ => ?_
  unfold cT
  by_cases e : r < k
  · rw [if_pos e, if_pos (by omega)]
  · rw [if_neg e]
    by_cases e2 : r = k
    · subst e2; rw [if_pos rfl, if_pos (by omega), pc_vo hR hk]
    · rw [if_neg e2, if_neg (by omega)]
      by_cases e3 : r = k + 1
      · rw [if_pos e3]; simp [pc]
      · rw [if_neg e3]
theorem cT_zero (h : List Ev) (n : Nat) : tbC n (fun _ _ => 0) = tbC n (cT h 0 0) := by
  refine tbC_ext fun r j _ _ => ?_
  unfold cT
  rw [if_neg (by omega)]
  split
  · simp [pc]
  · rfl
theorem tb_rep : ∀ n, (List.replicate n [Sc.int .i64 0, .int .i64 0, .int .i64 0, .int .i64 0, .int .i64 0, .int .i64 0]).flatten = tbC n (fun _ _ => 0) := by
  intro n
  show _ = fnC (n * 6) (fun _ => 0)
  rw [← fnC_rep]
  induction n with
  | zero => rfl
  | succ n ih => rw [List.replicate_succ, List.flatten_cons, ih, Nat.succ_mul, Nat.add_comm, ← List.replicate_append_replicate]; rfl
theorem tb_flat (n : Nat) (c : Nat → Nat → Int) : tbC n c = ((List.range n).map fun i => c i).flatMap Mt.vs := by
  apply List.ext_getElem?
  intro q
  have hl : (((List.range n).map fun i => c i).flatMap Mt.vs).length = n * 6 := by rw [flat_len vlen]; simp
  by_cases hq : q < n * 6
  · have e1 := tbC_at (n := n) (c := c) (r := q / 6) (j := q % 6) (by omega) (by omega)
    have e2 := flat_cell (enc := Mt.vs) (es := 6) vlen (xs := (List.range n).map fun i => c i) (i := q / 6) (j := q % 6) (x := c (q / 6)) (by rw [List.getElem?_map, List.getElem?_range (by omega)]; rfl) (by omega)
    rw [show q / 6 * 6 + q % 6 = q by omega] at e1 e2
    rw [e1, e2, Mt.vs_at _ (by omega)]
  · rw [List.getElem?_eq_none (by simp; omega), List.getElem?_eq_none (by omega)]
theorem tb_fin (h : List Ev) : tbC h.length (cT h h.length 0) = (vosL h).flatMap Mt.vs := by
  rw [show tbC h.length (cT h h.length 0) = tbC h.length (fun r => Vc.vo (eP h) (eM h) (eK h) r) from tbC_ext fun r j hr _ => by unfold cT; rw [if_pos hr], tb_flat]
  rfl
set_option maxRecDepth 100000 in
set_option maxHeartbeats 2000000 in
theorem refVectors {H : List Blk} {a : Sc} {h : List Ev} {Q : AV → List Blk → Prop} (ha : ESl H a h) (hR : Right h)
    (q : ∀ b L, VSl (H ++ L) b (vosL h) → Q (.c (.sc b)) (H ++ L)) :
    ACalls Try.prog 23 [.sc a] H Q := by
  refine acalls_of tabOk Try.func23 (by kernel_rfl) rfl (by kernel_rfl) ?_
  have la := ha.len (i := ti24) (e := 135) rfl
  have hra := ha.ren
  have hl := hR.len
  simp only [ti24] at la
  (repeat' (first | refine awp_seq ?_ | (refine awp_region tabOk ?_; simp) | (refine awp_if ?_; simp) | refine awp_block ?_ | refine And.intro ?_ ?_ | intro _ | (refine awp_skip ?_; simp) | (refine awp_ret ?_; simp) | (refine awp_exit ?_; simp)))
  refine causes ha hR (fun b L hb => ?_)
  obtain ⟨K, hK⟩ : ∃ K, K = H ++ L := ⟨_, rfl⟩
  have haK : ESl K a h := by rw [hK]; exact ha.app L
  have hraK := haK.ren
  rw [← hK] at hb ⊢
  obtain ⟨n, hn⟩ : ∃ n, h.length = n := ⟨_, rfl⟩
  rw [hn] at la hl hb
  obtain ⟨bid, bcs, rfl, hb1, hb2, hb3⟩ := hb
  have hbK := fun M => lowc_of hb1 M
  have hn1 : (n : Int) ≤ 9223372036854775807 := by omega
  have hn2 : 48 * (n : Int) ≤ 281474976710656 := by omega
  have hbid : ∀ ks top, mStd K.length ks top bid = bid := fun ks top => mStd_low (cells_lt hb1)
  ((try simp [-lenC, la, hn1, hn2]); (repeat' (first | refine awp_seq ?_ | (refine awp_region tabOk ?_; simp [-lenC, la, hn1, hn2]) | (refine awp_if ?_; simp [-lenC, la, hn1, hn2]) | refine awp_block ?_ | refine And.intro ?_ ?_ | intro _ | (refine awp_skip ?_; simp [-lenC, la, hn1, hn2]) | (refine awp_ret ?_; simp [-lenC, la, hn1, hn2]) | (refine awp_exit ?_; simp [-lenC, la, hn1, hn2]))))
  refine awp_loop_at (α := {k : Nat // k ≤ n}) (fun k => [(0, .c (.sc a)), (3, .c (.sc (.sl bid 0 1 n n))), (4, .c (.sc (.sl K.length 0 6 n n))), (13, .c (.sc (.int .i64 n))), (14, .c (.sc (.int .i64 k.1)))])
    (fun k => K ++ [.own (tbC n (cT h k.1 0))]) (fun k => n - k.1) ⟨0, by omega⟩ (wk_tlE (by simp [tb_rep, cT_zero h]) (by simp)) ?_
  rintro ⟨k, hk⟩
  by_cases hkn : k < n
  · have wk := wrapS k (by omega)
    (repeat' (first | refine awp_seq ?_ | (refine awp_region tabOk ?_; simp [-lenC, la, hkn]) | (refine awp_if ?_; simp [-lenC, la, hkn]) | refine awp_block ?_ | refine And.intro ?_ ?_ | intro _ | (refine awp_skip ?_; simp [-lenC, la, hkn]) | (refine awp_ret ?_; simp [-lenC, la, hkn]) | (refine awp_exit ?_; simp [-lenC, la, hkn])))
    refine awp_loop_at (α := {i : Nat // i ≤ n}) (fun i => [(0, .c (.sc a)), (3, .c (.sc (.sl bid 0 1 n n))), (4, .c (.sc (.sl K.length 0 6 n n))), (13, .c (.sc (.int .i64 n))), (14, .c (.sc (.int .i64 k))), (5, .c (.sc (.int .i64 k))), (18, .c (.sc (.int .i64 n))), (19, .c (.sc (.int .i64 i.1)))])
      (fun i => K ++ [.own (tbC n (cT h k i.1))]) (fun i => n - i.1) ⟨0, by omega⟩ (wk_tl (by simp)) ?_
    rintro ⟨i, hi⟩
    by_cases hin : i < n
    · have wi := wrapS i (by omega)
      obtain ⟨x, hx⟩ := at_lt (h := h) (i := i) (by omega)
      obtain ⟨id, off, cap, cs, rfl, hcap, hc, hrow⟩ := haK.row (i := i) (by omega)
      obtain ⟨r1, r2⟩ := hrow i x hx
      have hc2 := fun L => lowc_of hc L
      obtain ⟨rid, g1, g2⟩ := hb3 i hin
      obtain ⟨_, g1'⟩ := List.getElem?_eq_some_iff.1 g1
      have g2K := fun M => lowc_of g2 M
      have f1 := fnB_at (cau h i) hkn
      have hbx := (hR.ev i x hx).1
      have hP := eP_at hx
      rw [enc_def] at r1
      have r3 := row_cell r1
      obtain ⟨r4, r3'⟩ := List.getElem?_eq_some_iff.1 r3
      obtain ⟨xp, xk, xm⟩ := x
      obtain ⟨b1, b2, b3, b4⟩ := hbx
      simp only at b1 b2 b3 b4 hP r3 r3'
      obtain ⟨p, rfl⟩ := Int.eq_ofNat_of_zero_le b1
      rw [Int.toNat_natCast] at hP
      have hp6 : p < 6 := by omega
      have hp6' : (p : Int) < 6 := by omega
      have hib : i < bcs.length := by omega
      have hkp : k * 6 + p + 1 ≤ n * 6 := by omega
      have hat := tbC_at (n := n) (c := cT h k i) hkn hp6
      rw [cT_at] at hat
      obtain ⟨hat1, hat2⟩ := List.getElem?_eq_some_iff.1 hat
      have hpcl := pc_le h k i p
      have wp : IntKind.i64.wrap ((pc h k i p : Int) + 1) = (pc h k i p : Int) + 1 := wrap_in _ (by omega) (by omega)
      have hset := tbC_set (n := n) (c := cT h k i) hkn hp6 ((pc h k i p : Int) + 1)
      have hin2 : (i : Int) < h.length := by omega
      have hin3 : i < h.length := by omega
      have hyes := cT_yes (h := h) (n := n) (k := k) (i := i)
      rw [hP] at hyes
      by_cases hc1 : cau h i k = true
      · rw [hyes (by rw [hc1]; rfl)] at hset
        (repeat' (first | refine awp_seq ?_ | (refine awp_region tabOk ?_; simp [hin, hkn, hbK, g1, g1', g2K, f1, hc1, hib]) | (refine awp_if ?_; simp [hin, hkn, hbK, g1, g1', g2K, f1, hc1, hib]) | refine awp_block ?_ | refine And.intro ?_ ?_ | intro _ | (refine awp_skip ?_; simp [hin, hkn, hbK, g1, g1', g2K, f1, hc1, hib]) | (refine awp_ret ?_; simp [hin, hkn, hbK, g1, g1', g2K, f1, hc1, hib]) | (refine awp_exit ?_; simp [hin, hkn, hbK, g1, g1', g2K, f1, hc1, hib])))
        refine awp_draw tabOk mixed [] (by kernel_rfl) ?_
        simp [hin2, hin3, hin, hkn, hc2, r3, r3', r4, hp6, hp6', hat, hat2, wp, hkp, hset]
        (repeat' (first | refine awp_seq ?_ | (refine awp_region tabOk ?_; simp [wi]) | (refine awp_if ?_; simp [wi]) | refine awp_block ?_ | refine And.intro ?_ ?_ | intro _ | (refine awp_skip ?_; simp [wi]) | (refine awp_ret ?_; simp [wi]) | (refine awp_exit ?_; simp [wi])))
        exact ⟨i + 1, by omega, by omega, wk_tl (by simp [wi])⟩
      · have hc1' : cau h i k = false := by simpa using hc1
        by_cases hik : i = k
        · subst hik
          rw [hyes (by simp)] at hset
          (repeat' (first | refine awp_seq ?_ | (refine awp_region tabOk ?_; simp [hin, hkn, hbK, g1, g1', g2K, f1, hc1', hib]) | (refine awp_if ?_; simp [hin, hkn, hbK, g1, g1', g2K, f1, hc1', hib]) | refine awp_block ?_ | refine And.intro ?_ ?_ | intro _ | (refine awp_skip ?_; simp [hin, hkn, hbK, g1, g1', g2K, f1, hc1', hib]) | (refine awp_ret ?_; simp [hin, hkn, hbK, g1, g1', g2K, f1, hc1', hib]) | (refine awp_exit ?_; simp [hin, hkn, hbK, g1, g1', g2K, f1, hc1', hib])))
          refine awp_draw tabOk mixed [] (by kernel_rfl) ?_
          simp [hin2, hin3, hin, hkn, hc2, r3, r3', r4, hp6, hp6', hat, hat2, wp, hkp, hset]
          (repeat' (first | refine awp_seq ?_ | (refine awp_region tabOk ?_; simp [wi]) | (refine awp_if ?_; simp [wi]) | refine awp_block ?_ | refine And.intro ?_ ?_ | intro _ | (refine awp_skip ?_; simp [wi]) | (refine awp_ret ?_; simp [wi]) | (refine awp_exit ?_; simp [wi])))
          exact ⟨i + 1, by omega, by omega, wk_tl (by simp [wi])⟩
        · have hik' : ¬(i : Int) = k := by omega
          have hno := cT_no (h := h) (k := k) (i := i) (by rw [hc1']; simp [hik])
          (repeat' (first | refine awp_seq ?_ | (refine awp_region tabOk ?_; simp [hin, hkn, hbK, g1, g1', g2K, f1, hc1', hib, hik, hik', wi]) | (refine awp_if ?_; simp [hin, hkn, hbK, g1, g1', g2K, f1, hc1', hib, hik, hik', wi]) | refine awp_block ?_ | refine And.intro ?_ ?_ | intro _ | (refine awp_skip ?_; simp [hin, hkn, hbK, g1, g1', g2K, f1, hc1', hib, hik, hik', wi]) | (refine awp_ret ?_; simp [hin, hkn, hbK, g1, g1', g2K, f1, hc1', hib, hik, hik', wi]) | (refine awp_exit ?_; simp [hin, hkn, hbK, g1, g1', g2K, f1, hc1', hib, hik, hik', wi])))
          exact ⟨i + 1, by omega, by omega, wk_tlE (by rw [hno]) (by simp [wi])⟩
    · obtain rfl : i = n := by omega
      (repeat' (first | refine awp_seq ?_ | (refine awp_region tabOk ?_; simp) | (refine awp_if ?_; simp) | refine awp_block ?_ | refine And.intro ?_ ?_ | intro _ | (refine awp_skip ?_; simp) | (refine awp_ret ?_; simp) | (refine awp_exit ?_; simp)))
      refine ⟨k + 1, by omega, by omega, wk_tlE ?_ (by simp [wk])⟩
      have := cT_next hR (k := k) (by omega) i
      rw [hn] at this
      rw [this]
  · obtain rfl : k = n := by omega
    (repeat' (first | refine awp_seq ?_ | (refine awp_region tabOk ?_; simp) | (refine awp_if ?_; simp) | refine awp_block ?_ | refine And.intro ?_ ?_ | intro _ | (refine awp_skip ?_; simp) | (refine awp_ret ?_; simp) | (refine awp_exit ?_; simp)))
    have hfin := tb_fin h
    rw [hn] at hfin
    rw [hK, List.append_assoc]
    refine ⟨_, _, GcTo.refl (by simp), q _ _ ?_⟩
    have hlv : (vosL h).length = k := by rw [vosL_len, hn]
    have := GSl.ownC (H := H ++ L ++ [.own (tbC k (cT h k 0))]) (id := K.length) (cap := k) (cs := tbC k (cT h k 0)) (xs := vosL h) vlen (by rw [hK]; simp) (by rw [hlv, hfin]; exact flat_all vlen _ (by rw [hlv])) (by omega) (by rw [hlv]; simp)
    rw [hlv, hK, List.append_assoc] at this
    exact this
end Go.Proofs.Ytjjhogleiolngaa
