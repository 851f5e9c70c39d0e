/- partref.Closure: the walk. -/
import Derived.Test.YtjjhogleiolngaaVf
import Derived.Test.YtjjhogleiolngaaB2
namespace Go.Proofs.Ytjjhogleiolngaa
set_option linter.unusedSimpArgs false
set_option linter.unusedVariables false
open Go.RowKit
attribute [local irreducible] AWP ACalls Wk GcTo
attribute [local simp] tab3 ti3 tab4 ti4 tab36 ti36 tab47 ti47 tab62 ti62 tab80 ti80 tab82 ti82
open Cl
set_option maxRecDepth 100000 in
set_option maxHeartbeats 2000000 in
theorem closureL {H : List Blk} {a : Sc} {n : Nat} {l : List Pa} {Q : AV → List Blk → Prop} (ha : PSl H a l) (hn : n < 1000) (hl : l.length < 100000) (hb : Bd n l)
    (q : ∀ b L, (∀ x ∈ L, LowB (H ++ L).length x) → BM (H ++ L) b n (clo l) → Q (.c (.sc b)) (H ++ L)) :
    ACalls Try.prog 90 [.sc (.int .i64 n), .sc a] H Q := by
  refine acalls_of tabOk Try.func90 (by kernel_rfl) rfl (by kernel_rfl) ?_
  have la := ha.len (i := ti36) (e := 62) rfl
  have hra := ha.ren
  simp only [ti36] at la
  have hn1 : (n : Int) ≤ 9223372036854775807 := by omega
  have hn2 : 24 * (n : Int) ≤ 281474976710656 := by omega
  have hn3 : (n : Int) ≤ 281474976710656 := by omega
  (repeat' (first | refine awp_seq ?_ | (refine awp_region tabOk ?_; simp [hn1, hn2]) | (refine awp_if ?_; simp [hn1, hn2]) | refine awp_block ?_ | refine And.intro ?_ ?_ | intro _ | (refine awp_skip ?_; simp [hn1, hn2]) | (refine awp_ret ?_; simp [hn1, hn2]) | (refine awp_exit ?_; simp [hn1, hn2])))
  refine awp_loop_at (α := {k : Nat // k ≤ n}) (fun k => [(0, .c (.sc (.int .i64 n))), (1, .c (.sc a)), (5, .c (.sc (.sl H.length 0 1 n n))), (13, .c (.sc (.int .i64 n))), (14, .c (.sc (.int .i64 k.1)))])
    (fun k => H ++ .own (hdr (H.length + 1) n k.1) :: rowsB n k.1 (clo l)) (fun k => n - k.1) ⟨0, by omega⟩ (wk_tlE (by simp [hdr_zero, rowsB]) (by simp)) ?_
  rintro ⟨k, hk⟩
  by_cases hkn : k < n
  · have wr := wrapS k (by omega)
    obtain ⟨K0, hK0⟩ : ∃ K0, K0 = H ++ .own (hdr (H.length + 1) n k) :: rowsB n k (clo l) := ⟨_, rfl⟩
    have kl0 : K0.length = H.length + 1 + k := by rw [hK0]; simp; omega
    have kg0 : ∀ M : List Blk, (K0 ++ M)[H.length]? = some (.own (hdr (H.length + 1) n k)) := fun M => by rw [hK0, List.append_assoc]; simp
    have ks0 : ∀ (M : List Blk) (b : Blk), (K0 ++ M).set H.length b = K0.set H.length b ++ M := fun M b => setlow' (by omega)
    have kset : K0.set H.length (.own (hdr (H.length + 1) n (k + 1))) = H ++ .own (hdr (H.length + 1) n (k + 1)) :: rowsB n k (clo l) := by rw [hK0]; simp
    have hst := hdr_set (b := H.length + 1) (n := n) (k := k) hkn
    rw [← kl0] at hst
    rw [← hK0]
    have hk1 : k + 1 ≤ n := hkn
    (repeat' (first | refine awp_seq ?_ | (refine awp_region tabOk ?_; simp [hkn, hn3, hn1, kg0, ks0, hst, hk1]) | (refine awp_if ?_; simp [hkn, hn3, hn1, kg0, ks0, hst, hk1]) | refine awp_block ?_ | refine And.intro ?_ ?_ | intro _ | (refine awp_skip ?_; simp [hkn, hn3, hn1, kg0, ks0, hst, hk1]) | (refine awp_ret ?_; simp [hkn, hn3, hn1, kg0, ks0, hst, hk1]) | (refine awp_exit ?_; simp [hkn, hn3, hn1, kg0, ks0, hst, hk1])))
    obtain ⟨K, hK⟩ : ∃ K, K = H ++ .own (hdr (H.length + 1) n (k + 1)) :: rowsB n k (clo l) := ⟨_, rfl⟩
    have kl : K.length = H.length + 1 + k := by rw [hK]; simp; omega
    have kg : ∀ M : List Blk, (K ++ M)[H.length]? = some (.own (hdr (H.length + 1) n (k + 1))) := fun M => by rw [hK, List.append_assoc]; simp
    have hA : ∀ b ∈ (.own (hdr (H.length + 1) n (k + 1)) :: rowsB n k (clo l)), LowB (K.length + 1) b := fun b hb => by
      rcases List.mem_cons.1 hb with rfl | hb
      · exact hdr_low (by omega)
      · exact rowsB_low b hb
    have hk0 := hdr_at (b := H.length + 1) (k := k + 1) hkn
    rw [if_pos (by omega), ← kl] at hk0
    obtain ⟨_, hk0'⟩ := List.getElem?_eq_some_iff.1 hk0
    have hHK : ∀ ks top, mStd K.length ks top H.length = H.length := fun ks top => mStd_low (by omega)
    have hraK : ∀ ks top, renS (mStd K.length ks top) a = a := by
      have := (ha.app (.own (hdr (H.length + 1) n (k + 1)) :: rowsB n k (clo l))).ren
      rw [← hK] at this
      exact this
    refine awp_loop_at (α := {s : (Nat → Bool) × List Nat × List Nat // Bf n l k s.1 s.2.2 ∧ cF n s.1 + s.2.2.length ≤ n + 1})
      (fun s => [(0, .c (.sc (.int .i64 n))), (1, .c (.sc a)), (5, .c (.sc (.sl H.length 0 1 n n))), (13, .c (.sc (.int .i64 n))), (14, .c (.sc (.int .i64 k))), (6, .c (.sc (.int .i64 k))), (7, .c (.sc (.sl (K.length + 1) s.1.2.1.length 1 s.1.2.2.length s.1.2.2.length)))])
      (fun s => K ++ [.own (fnB n s.1.1), .own (intsC (nI (s.1.2.1 ++ s.1.2.2)))]) (fun s => cF n s.1.1 + s.1.2.2.length) ⟨(fun _ => false, [], [k]), Bf.start hkn, by simp [cF]⟩ (wk_tlE (by rw [kset, hK]; rfl) (by simp [kl, kl0])) ?_
    rintro ⟨⟨f, pre, td⟩, hB, hMM⟩
    simp only at hB hMM
    cases td with
    | nil =>
      (repeat' (first | refine awp_seq ?_ | (refine awp_region tabOk ?_; simp) | (refine awp_if ?_; simp) | refine awp_block ?_ | refine And.intro ?_ ?_ | intro _ | (refine awp_skip ?_; simp) | (refine awp_ret ?_; simp) | (refine awp_exit ?_; simp)))
      refine ⟨k + 1, by omega, by omega, ?_⟩
      refine wk_gclA1 hK hA [0] rfl (gcOk_of (L' := [.own (fnB n f)]) (by decide) (by simp)) ?_ (by simp [wr, hHK, hraK])
      rw [hK, rowsB_succ, fnB_ext (g := clo l k) fun b _ => hB.fin b]; simp
    | cons x td =>
      have hG := hB.take
      rw [List.length_cons] at hMM
      have hx0 : (intsC (nI (pre ++ x :: td)))[pre.length]? = some (.int .i64 x) := intsC_at _ (by simp [nI])
      obtain ⟨_, hx0'⟩ := List.getElem?_eq_some_iff.1 hx0
      (repeat' (first | refine awp_seq ?_ | (refine awp_region tabOk ?_; simp [-lenC, la, hx0, hx0']) | (refine awp_if ?_; simp [-lenC, la, hx0, hx0']) | refine awp_block ?_ | refine And.intro ?_ ?_ | intro _ | (refine awp_skip ?_; simp [-lenC, la, hx0, hx0']) | (refine awp_ret ?_; simp [-lenC, la, hx0, hx0']) | (refine awp_exit ?_; simp [-lenC, la, hx0, hx0'])))
      · trivial
      · rfl
      · omega
      refine awp_loop_at (α := {s : Nat × (Nat → Bool) × List Nat × List Nat // s.1 ≤ l.length ∧ Bg n l k x s.1 s.2.1 s.2.2.2 ∧ cF n s.2.1 + s.2.2.2.length = cF n f + td.length})
        (fun s => [(0, .c (.sc (.int .i64 n))), (1, .c (.sc a)), (5, .c (.sc (.sl H.length 0 1 n n))), (13, .c (.sc (.int .i64 n))), (14, .c (.sc (.int .i64 k))), (6, .c (.sc (.int .i64 k))), (7, .c (.sc (.sl (K.length + 1) s.1.2.2.1.length 1 s.1.2.2.2.length s.1.2.2.2.length))),
          (8, .c (.sc (.int .i64 x))), (32, .c (.sc a)), (33, .c (.sc (.int .i64 l.length))), (34, .c (.sc (.int .i64 s.1.1)))])
        (fun s => K ++ [.own (fnB n s.1.2.1), .own (intsC (nI (s.1.2.2.1 ++ s.1.2.2.2)))]) (fun s => l.length - s.1.1) ⟨(0, f, pre ++ [x], td), by simp, hG, rfl⟩ (wk_tlE (by simp) (by simp)) ?_
      rintro ⟨⟨j, g, pr, tl⟩, hj, hJ, hM⟩
      simp only at hj hJ hM
      by_cases hjl : j < l.length
      · obtain ⟨p, hp⟩ : ∃ p, l[j]? = some p := ⟨l[j], List.getElem?_eq_getElem hjl⟩
        obtain ⟨id, off, cap, cs, rfl, hcap, hc, hrow⟩ := GSl.at plen ha hjl
        obtain ⟨r1, r2⟩ := hrow j p hp
        have hc2 : ∀ L, Blk.cells? (K ++ L)[id]? = some cs := fun L => by rw [hK, List.append_assoc]; exact lowc_of hc _
        have hid : ∀ ks top, mStd K.length ks top id = id := fun ks top => mStd_low (by have := cells_lt hc; omega)
        have wj := wrapS j (by omega)
        obtain ⟨b1, b2, b3, b4⟩ := hb p (List.mem_of_getElem? hp)
        rw [penc_def] at r1
        obtain ⟨pa, pb⟩ := p
        simp only at b1 b2 b3 b4 r1
        obtain ⟨pa, rfl⟩ := Int.eq_ofNat_of_zero_le b1
        obtain ⟨pb, rfl⟩ := Int.eq_ofNat_of_zero_le b3
        have hpb : pb < n := by omega
        have b4' : (pb : Int) < n := b4
        have f1 := fnB_at g hpb
        by_cases e1 : pa = x
        · have e1' : (pa : Int) = x := by omega
          by_cases e2 : g pb = true
          · (repeat' (first | refine awp_seq ?_ | (refine awp_region tabOk ?_; simp [hjl, hc2, r1, r2]) | (refine awp_if ?_; simp [hjl, hc2, r1, r2]) | refine awp_block ?_ | refine And.intro ?_ ?_ | intro _ | (refine awp_skip ?_; simp [hjl, hc2, r1, r2]) | (refine awp_ret ?_; simp [hjl, hc2, r1, r2]) | (refine awp_exit ?_; simp [hjl, hc2, r1, r2])))
            refine awp_draw tabOk mixed [] (by kernel_rfl) ?_
            simp [e1, kg, hkn, hk0, hk0', hpb, b4', f1, e2]
            (repeat' (first | refine awp_seq ?_ | (refine awp_region tabOk ?_; simp [wj]) | (refine awp_if ?_; simp [wj]) | refine awp_block ?_ | refine And.intro ?_ ?_ | intro _ | (refine awp_skip ?_; simp [wj]) | (refine awp_ret ?_; simp [wj]) | (refine awp_exit ?_; simp [wj])))
            exact ⟨j + 1, by omega, g, pr, tl, ⟨by omega, hJ.skip hp (fun _ => by simpa using e2), hM⟩, wk_gclA1 hK hA [0, 1] rfl (gcOk_of (by decide) (by simp)) rfl (by simp [hHK, hid, wj])⟩
          · have e2' : g pb = false := by simpa using e2
            have st := fnB_set g hpb true
            rw [show (fun j => if j = pb then true else g j) = setF g pb from rfl] at st
            have hcf := cF_set e2' hpb
            have hdt : List.take tl.length (List.drop pr.length (nI (pr ++ tl))) = nI tl := by
              rw [nI_app, ← nI_len pr, List.drop_left, ← nI_len tl, List.take_of_length_le (Nat.le_refl _)]
            have hno : ¬tl.length + 1 ≤ tl.length := by omega
            have hml : (tl.length + 1) * 8 ≤ 140737488355328 := by omega
            have hml1 : tl.length + 1 ≤ 9223372036854775807 := by omega
            have hpb1 : pb + 1 ≤ n := hpb
            (repeat' (first | refine awp_seq ?_ | (refine awp_region tabOk ?_; simp [hjl, hc2, r1, r2]) | (refine awp_if ?_; simp [hjl, hc2, r1, r2]) | refine awp_block ?_ | refine And.intro ?_ ?_ | intro _ | (refine awp_skip ?_; simp [hjl, hc2, r1, r2]) | (refine awp_ret ?_; simp [hjl, hc2, r1, r2]) | (refine awp_exit ?_; simp [hjl, hc2, r1, r2])))
            refine awp_draw tabOk mixed [] (by kernel_rfl) ?_
            simp [e1, kg, hkn, hk0, hk0', hpb, b4', f1, e2']
            (repeat' (first | refine awp_seq ?_ | (refine awp_region tabOk ?_; simp) | (refine awp_if ?_; simp) | refine awp_block ?_ | refine And.intro ?_ ?_ | intro _ | (refine awp_skip ?_; simp) | (refine awp_ret ?_; simp) | (refine awp_exit ?_; simp)))
            refine awp_draw tabOk mixed [] (by kernel_rfl) ?_
            simp [kg, hkn, hk0, hk0', hpb, b4', st, hpb1]
            (repeat' (first | refine awp_seq ?_ | (refine awp_region tabOk ?_; simp [wj, hno, hml, hml1, hdt, maxLen]) | (refine awp_if ?_; simp [wj, hno, hml, hml1, hdt, maxLen]) | refine awp_block ?_ | refine And.intro ?_ ?_ | intro _ | (refine awp_skip ?_; simp [wj, hno, hml, hml1, hdt, maxLen]) | (refine awp_ret ?_; simp [wj, hno, hml, hml1, hdt, maxLen]) | (refine awp_exit ?_; simp [wj, hno, hml, hml1, hdt, maxLen])))
            exact ⟨j + 1, by omega, setF g pb, [], tl ++ [pb], ⟨by omega, hJ.push hp (by simp [e1]) rfl hpb, by rw [List.length_append, List.length_singleton]; omega⟩,
              wk_gclA1 hK hA [0, 4] rfl (gcOk_of (by decide) (by simp [nI_app, intsC, nI])) rfl (by simp [hHK, hid, wj])⟩
        · have e1' : ¬(pa : Int) = x := by omega
          (repeat' (first | refine awp_seq ?_ | (refine awp_region tabOk ?_; simp [hjl, hc2, r1, r2]) | (refine awp_if ?_; simp [hjl, hc2, r1, r2]) | refine awp_block ?_ | refine And.intro ?_ ?_ | intro _ | (refine awp_skip ?_; simp [hjl, hc2, r1, r2]) | (refine awp_ret ?_; simp [hjl, hc2, r1, r2]) | (refine awp_exit ?_; simp [hjl, hc2, r1, r2])))
          refine awp_draw tabOk mixed [] (by kernel_rfl) ?_
          simp [e1, e1', kg, hkn, hk0, hk0', hpb, b4', f1]
          (repeat' (first | refine awp_seq ?_ | (refine awp_region tabOk ?_; simp [wj]) | (refine awp_if ?_; simp [wj]) | refine awp_block ?_ | refine And.intro ?_ ?_ | intro _ | (refine awp_skip ?_; simp [wj]) | (refine awp_ret ?_; simp [wj]) | (refine awp_exit ?_; simp [wj])))
          exact ⟨j + 1, by omega, g, pr, tl, ⟨by omega, hJ.skip hp (fun e => absurd e e1'), hM⟩, wk_gclA1 hK hA [0, 1] rfl (gcOk_of (by decide) (by simp)) rfl (by simp [hHK, hid, wj])⟩
      · obtain rfl : j = l.length := by omega
        (repeat' (first | refine awp_seq ?_ | (refine awp_region tabOk ?_; simp [hjl]) | (refine awp_if ?_; simp [hjl]) | refine awp_block ?_ | refine And.intro ?_ ?_ | intro _ | (refine awp_skip ?_; simp [hjl]) | (refine awp_ret ?_; simp [hjl]) | (refine awp_exit ?_; simp [hjl])))
        exact ⟨g, pr, tl, by omega, ⟨hJ.done, by omega⟩, wk_tl (by simp)⟩
  · obtain rfl : k = n := by omega
    (repeat' (first | refine awp_seq ?_ | (refine awp_region tabOk ?_; simp) | (refine awp_if ?_; simp) | refine awp_block ?_ | refine And.intro ?_ ?_ | intro _ | (refine awp_skip ?_; simp) | (refine awp_ret ?_; simp) | (refine awp_exit ?_; simp)))
    exact ⟨_, _, GcTo.refl (by simp), q _ _ (fun x hx => by
      rcases List.mem_cons.1 hx with rfl | hx
      · exact hdr_low (by simp; omega)
      · exact rowsB_low x hx) BM.of⟩
theorem closure {H : List Blk} {a : Sc} {n : Nat} {l : List Pa} {Q : AV → List Blk → Prop} (ha : PSl H a l) (hn : n < 1000) (hl : l.length < 100000) (hb : Bd n l)
    (q : ∀ b L, BM (H ++ L) b n (clo l) → Q (.c (.sc b)) (H ++ L)) :
    ACalls Try.prog 90 [.sc (.int .i64 n), .sc a] H Q := closureL ha hn hl hb fun b L _ hm => q b L hm
theorem LowB.mono {n m : Nat} {b : Blk} (h : LowB n b) (hm : n ≤ m) : LowB m b := fun f hf => h f fun i hi => hf i (by omega)
theorem GSl.renL {α : Type} {es : Nat} {enc : α → List Sc} {H : List Blk} {a : Sc} {xs : List α} (h : GSl es enc H a xs) {m : Nat → Nat} (hm : ∀ i, i < H.length → m i = i) : renS m a = a := by
  rcases h with ⟨rfl, rfl | rfl⟩ | ⟨id, off, cap, cs, rfl, h1, h2, h3, h4⟩
  · rfl
  · rfl
  · rw [renS_sl, hm _ (cells_lt h3)]
end Go.Proofs.Ytjjhogleiolngaa
