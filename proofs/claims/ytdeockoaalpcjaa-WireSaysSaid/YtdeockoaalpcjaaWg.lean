/- WireSays: wire.Read, partref.NoteRead. -/
import Derived.Test.YtdeockoaalpcjaaWe
namespace Go.Proofs.Ytdeockoaalpcjaa
set_option linter.unusedSimpArgs false
set_option linter.unusedVariables false
open Go.RowKit
attribute [local irreducible] AWP ACalls Wk GcTo
attribute [local simp] tab3 ti3 tab9 ti9 tab5 ti5 tab81 ti81 tab74 ti74 tab38 ti38 tab22 ti22
open Wi
namespace Wi
theorem bys_ext (s : ByteArray) (a b : Nat) : bys (s.extract a b) = ((bys s).drop a).take (b - a) := by
  unfold bys
  rw [ByteArray.data_extract, Array.toList_extract, List.extract_eq_take_drop, List.map_take, List.map_drop]
theorem bys_cons {s : ByteArray} {a : Nat} (h : a < s.size) : (bys s).drop a = bat s a :: (bys s).drop (a + 1) := by
  obtain ⟨h2, e⟩ := List.getElem?_eq_some_iff.1 (bys_at h)
  rw [List.drop_eq_getElem_cons h2, e]
def thr (s : ByteArray) (i : Nat) : Nat := bat s i + 256 * bat s (i + 1) + 65536 * bat s (i + 2)
theorem thr_lt (s : ByteArray) (i : Nat) : thr s i ≤ 16777215 := by
  have := bat_lt s i; have := bat_lt s (i + 1); have := bat_lt s (i + 2); unfold thr; omega
theorem leN_thr {s : ByteArray} {a : Nat} (h : a + 3 ≤ s.size) : leN (bys (s.extract a (a + 3))) = thr s a := by
  rw [bys_ext, Nat.add_sub_cancel_left, bys_cons (by omega), bys_cons (a := a + 1) (by omega), bys_cons (a := a + 2) (by omega)]
  simp [leN, thr]; omega
theorem ext_size {s : ByteArray} {a b : Nat} (h1 : a ≤ b) (h2 : b ≤ s.size) : (s.extract a b).size = b - a := by
  rw [ByteArray.size_extract]; omega
/-- The last four bytes as a number are c just if each is c's own. -/
theorem leN_four {s : ByteArray} {k c : Nat} (h : k + 4 = s.size) (hc : c < 4294967296) : leN (bys (s.extract k s.size)) = c ↔ ∀ i, i < 4 → bat s (k + i) = c / 2 ^ (8 * i) % 256 := by
  rw [bys_ext, show s.size - k = 4 by omega, bys_cons (by omega), bys_cons (a := k + 1) (by omega), bys_cons (a := k + 2) (by omega), bys_cons (a := k + 3) (by omega)]
  have h0 := bat_lt s k
  have h1 := bat_lt s (k + 1)
  have h2 := bat_lt s (k + 2)
  have h3 := bat_lt s (k + 3)
  constructor
  · intro e i hi
    simp [leN] at e
    match i, hi with
    | 0, _ => simp; omega
    | 1, _ => show _ = c / 256 % 256; omega
    | 2, _ => show _ = c / 65536 % 256; omega
    | 3, _ => show _ = c / 16777216 % 256; omega
  · intro e
    have e0 : bat s k = c % 256 := by have := e 0 (by omega); simpa using this
    have e1 : bat s (k + 1) = c / 256 % 256 := e 1 (by omega)
    have e2 : bat s (k + 2) = c / 65536 % 256 := e 2 (by omega)
    have e3 : bat s (k + 3) = c / 16777216 % 256 := e 3 (by omega)
    simp [leN]; omega
end Wi
theorem threeT {H : List Blk} {id i : Nat} {s : ByteArray} {Q : AV → List Blk → Prop} (hH : Blk.cells? H[id]? = some [.str s]) (hi : i + 3 ≤ s.size) (hn : i < 1000000) (q : Q (.c (.sc (.int .i64 (thr s i : Nat)))) H) :
    ACalls Try.prog 113 [.sc (.int .i64 i), .sc (.ptr id 0)] H Q := three hH hi hn q
namespace Nt
/-- The note that a text of bytes spells; its first j cells At alone. -/
def of (s : ByteArray) (j : Nat) : Nt := ⟨bat s 0, bat s 1, bat s 2, (thr s 3 : Nat), (thr s 6 : Nat), fun i => if i < j then ((thr s (9 + 3 * i) : Nat) : Int) else 0, s.extract 27 (s.size - 4)⟩
theorem of_set (s : ByteArray) {j : Nat} (h : j < 6) : (of s j).cs.set (5 + j) (.int .i64 (thr s (9 + 3 * j) : Nat)) = (of s (j + 1)).cs := by
  match j, h with | 0, _ => rfl | 1, _ => rfl | 2, _ => rfl | 3, _ => rfl | 4, _ => rfl | 5, _ => rfl
theorem of_lit (a b c d e : Int) (t : ByteArray) : ([.int .i64 a, .int .i64 b, .int .i64 c, .int .i64 d, .int .i64 e, .int .i64 0, .int .i64 0, .int .i64 0, .int .i64 0, .int .i64 0, .int .i64 0, .str t] : List Sc) = (⟨a, b, c, d, e, fun _ => 0, t⟩ : Nt).cs := rfl
def sumBad (s : ByteArray) : Prop := ¬crc (s.extract 0 (s.size - 4)) = leN (bys (s.extract (s.size - 4) s.size))
instance (s : ByteArray) : Decidable (sumBad s) := by unfold sumBad; infer_instance
def rdE (s : ByteArray) : Int := if 231 < s.size then 2 else if s.size < 31 then 3 else if sumBad s then 5 else if 5 < bat s 1 ∨ 5 < bat s 2 then 1 else 0
def rdN (s : ByteArray) : Nt := if rdE s = 0 then of s 6 else zero
theorem of_err {s : ByteArray} (h1 : s.size ≤ 231) (h2 : 31 ≤ s.size) : (of s 6).err = if 5 < bat s 1 ∨ 5 < bat s 2 then 1 else 0 := by
  have hk := bat_lt s 0
  have h3 := thr_lt s 3
  have h6 := thr_lt s 6
  have hno : (of s 6).atBad 6 0 = 0 := by
    rw [atBad_no]
    · rw [if_neg]
      show ¬200 < (s.extract 27 (s.size - 4)).size
      rw [ext_size (by omega) (by omega)]; omega
    · intro i _ hi
      show ¬((if i < 6 then ((thr s (9 + 3 * i) : Nat) : Int) else 0) < 0 ∨ 16777215 < (if i < 6 then ((thr s (9 + 3 * i) : Nat) : Int) else 0))
      have := thr_lt s (9 + 3 * i)
      split <;> omega
  unfold err
  rw [hno]
  have e : (of s 6).headBad ↔ (5 < bat s 1 ∨ 5 < bat s 2) := by
    unfold headBad
    show (((bat s 0 : Nat) : Int) < 0 ∨ 255 < ((bat s 0 : Nat) : Int) ∨ ((bat s 1 : Nat) : Int) < 0 ∨ 5 < ((bat s 1 : Nat) : Int) ∨ ((bat s 2 : Nat) : Int) < 0 ∨ 5 < ((bat s 2 : Nat) : Int) ∨ ((thr s 3 : Nat) : Int) < 0 ∨ 16777215 < ((thr s 3 : Nat) : Int) ∨ ((thr s 6 : Nat) : Int) < 0 ∨ 16777215 < ((thr s 6 : Nat) : Int)) ↔ _
    omega
  by_cases h : (of s 6).headBad
  · rw [if_pos h, if_pos (e.1 h)]
  · rw [if_neg h, if_neg fun h' => h (e.2 h')]
end Nt
set_option maxRecDepth 100000 in
set_option maxHeartbeats 1000000 in
theorem wireRead {H : List Blk} {s : ByteArray} {Q : AV → List Blk → Prop} (hs : s.size ≤ 9223372036854775807) (q : Q (.tup [.agg (Nt.rdN s).cs, .sc (.int .i64 (Nt.rdE s))]) H) :
    ACalls Try.prog 46 [.sc (.str s)] H Q := by
  refine acalls_of tabOk Try.func46 (by kernel_rfl) rfl (by kernel_rfl) ?_
  by_cases c1 : 231 < s.size
  · have e1 : Nt.rdE s = 2 := if_pos c1
    have e2 : Nt.rdN s = Nt.zero := if_neg (by rw [e1]; decide)
    rw [e1, e2] at q
    have c1' : (231 : Int) < s.size := by omega
    (repeat' (first | refine awp_seq ?_ | (refine awp_region tabOk ?_; simp [c1', Nt.zero_cs]) | (refine awp_if ?_; simp [c1', Nt.zero_cs]) | refine awp_block ?_ | refine And.intro ?_ ?_ | intro _ | (refine awp_skip ?_; simp [c1', Nt.zero_cs]) | (refine awp_ret ?_; simp [c1', Nt.zero_cs]) | (refine awp_exit ?_; simp [c1', Nt.zero_cs])))
    exact ⟨H, _, gcTo_none (fun _ => rfl), q⟩
  have c1' : ¬(231 : Int) < s.size := by omega
  have w4 := wrap_in ((s.size : Int) - 4) (by omega) (by omega)
  by_cases c2 : s.size < 31
  · have e1 : Nt.rdE s = 3 := by unfold Nt.rdE; rw [if_neg c1, if_pos c2]
    have e2 : Nt.rdN s = Nt.zero := if_neg (by rw [e1]; decide)
    rw [e1, e2] at q
    have c2' : (s.size : Int) - 4 < 27 := by omega
    (repeat' (first | refine awp_seq ?_ | (refine awp_region tabOk ?_; simp [c1', w4, c2', Nt.zero_cs]) | (refine awp_if ?_; simp [c1', w4, c2', Nt.zero_cs]) | refine awp_block ?_ | refine And.intro ?_ ?_ | intro _ | (refine awp_skip ?_; simp [c1', w4, c2', Nt.zero_cs]) | (refine awp_ret ?_; simp [c1', w4, c2', Nt.zero_cs]) | (refine awp_exit ?_; simp [c1', w4, c2', Nt.zero_cs])))
    exact ⟨H, _, gcTo_none (fun _ => rfl), q⟩
  obtain ⟨k, hk⟩ : ∃ k, s.size = k + 4 := ⟨s.size - 4, by omega⟩
  have c2' : ¬(s.size : Int) - 4 < 27 := by omega
  have ek : (s.size : Int) - 4 = (k : Int) := by omega
  have ek2 : s.size - 4 = k := by omega
  have hkn : (k : Int) ≤ s.size := by omega
  have hkn2 : k ≤ s.size := by omega
  have hcl := crc_lt (s.extract 0 k)
  have wc := wrap_in (crc (s.extract 0 k) : Int) (by omega) (by omega)
  rw [ek] at w4 c2'
  have sz1 : (s.extract 0 k).size = k := by rw [ext_size (by omega) (by omega)]; omega
  have sz2 : (s.extract k s.size).size = 4 := by rw [ext_size (by omega) (by omega)]; omega
  (repeat' (first | refine awp_seq ?_ | (refine awp_region tabOk ?_; simp [c1', ek, w4, c2', Nt.zero_cs]) | (refine awp_if ?_; simp [c1', ek, w4, c2', Nt.zero_cs]) | refine awp_block ?_ | refine And.intro ?_ ?_ | intro _ | (refine awp_skip ?_; simp [c1', ek, w4, c2', Nt.zero_cs]) | (refine awp_ret ?_; simp [c1', ek, w4, c2', Nt.zero_cs]) | (refine awp_exit ?_; simp [c1', ek, w4, c2', Nt.zero_cs])))
  refine awp_draw tabOk mixed [] (by kernel_rfl) ?_
  simp [hkn, hkn2]
  refine ⟨_, [], wireSum (by rw [sz1]; omega) ⟨rfl, by simp⟩, ?_⟩
  simp [wc, hkn, hkn2]
  refine ⟨_, [], wireGet (by rw [sz2]; omega) ⟨rfl, by simp⟩, ?_⟩
  simp
  by_cases hb : Nt.sumBad s
  · have e1 : Nt.rdE s = 5 := by unfold Nt.rdE; rw [if_neg c1, if_neg c2, if_pos hb]
    have e2 : Nt.rdN s = Nt.zero := if_neg (by rw [e1]; decide)
    rw [e1, e2] at q
    unfold Nt.sumBad at hb
    rw [ek2] at hb
    have hb' : ¬((crc (s.extract 0 k) : Nat) : Int) = ((leN (bys (s.extract k s.size)) : Nat) : Int) := by omega
    (repeat' (first | refine awp_seq ?_ | (refine awp_region tabOk ?_; simp [hb', Nt.zero_cs]) | (refine awp_if ?_; simp [hb', Nt.zero_cs]) | refine awp_block ?_ | refine And.intro ?_ ?_ | intro _ | (refine awp_skip ?_; simp [hb', Nt.zero_cs]) | (refine awp_ret ?_; simp [hb', Nt.zero_cs]) | (refine awp_exit ?_; simp [hb', Nt.zero_cs])))
    exact ⟨H, _, gcTo_none (fun _ => rfl), q⟩
  have hb2 := hb
  unfold Nt.sumBad at hb2
  rw [ek2, Classical.not_not] at hb2
  have hb' : ((crc (s.extract 0 k) : Nat) : Int) = ((leN (bys (s.extract k s.size)) : Nat) : Int) := by omega
  have b0 : (s[0]?.getD 0).toNat = bat s 0 := rfl
  have b1 : (s[1]?.getD 0).toNat = bat s 1 := rfl
  have b2 : (s[2]?.getD 0).toNat = bat s 2 := rfl
  have d0 : ∀ h, (s[0]'h).toNat = bat s 0 := fun h => by unfold bat; rw [getElem?_pos s 0 h]; rfl
  have d1 : ∀ h, (s[1]'h).toNat = bat s 1 := fun h => by unfold bat; rw [getElem?_pos s 1 h]; rfl
  have d2 : ∀ h, (s[2]'h).toNat = bat s 2 := fun h => by unfold bat; rw [getElem?_pos s 2 h]; rfl
  have l0 := bat_lt s 0
  have l1 := bat_lt s 1
  have l2 := bat_lt s 2
  have w0 := wrap_in (bat s 0 : Int) (by omega) (by omega)
  have w1 := wrap_in (bat s 1 : Int) (by omega) (by omega)
  have w2 := wrap_in (bat s 2 : Int) (by omega) (by omega)
  have n0 : 0 < s.size := by omega
  have n1 : 1 < s.size := by omega
  have n2 : 2 < s.size := by omega
  have m0 : (0 : Int) < s.size := by omega
  have m1 : (1 : Int) < s.size := by omega
  have m2 : (2 : Int) < s.size := by omega
  have m6 : (6 : Int) ≤ s.size := by omega
  have m9 : (9 : Int) ≤ s.size := by omega
  have mk : (27 : Int) ≤ k := by omega
  have t3 := leN_thr (s := s) (a := 3) (by omega)
  have t6 := leN_thr (s := s) (a := 6) (by omega)
  have of0 : (⟨bat s 0, bat s 1, bat s 2, (thr s 3 : Nat), (thr s 6 : Nat), fun _ => 0, s.extract 27 k⟩ : Nt) = Nt.of s 0 := by unfold Nt.of; rw [ek2]; simp
  (repeat' (first | refine awp_seq ?_ | (refine awp_region tabOk ?_; simp [hb', Nt.zero_cs]) | (refine awp_if ?_; simp [hb', Nt.zero_cs]) | refine awp_block ?_ | refine And.intro ?_ ?_ | intro _ | (refine awp_skip ?_; simp [hb', Nt.zero_cs]) | (refine awp_ret ?_; simp [hb', Nt.zero_cs]) | (refine awp_exit ?_; simp [hb', Nt.zero_cs])))
  refine awp_draw tabOk mixed [] (by kernel_rfl) ?_
  simp [b0, b1, b2, d0, d1, d2, w0, w1, w2, n0, n1, n2, m0, m1, m2, m6, m9, mk, hkn, hkn2]
  refine ⟨_, [], wireGet (s := s.extract 3 6) (by rw [ext_size (by omega) (by omega)]; omega) ⟨rfl, by simp⟩, ?_⟩
  simp [b0, b1, b2, d0, d1, d2, w0, w1, w2, n0, n1, n2, m0, m1, m2, m6, m9, mk, hkn, hkn2, t3]
  refine ⟨_, [], wireGet (s := s.extract 6 9) (by rw [ext_size (by omega) (by omega)]; omega) ⟨rfl, by simp⟩, ?_⟩
  simp [b0, b1, b2, d0, d1, d2, w0, w1, w2, n0, n1, n2, m0, m1, m2, m6, m9, mk, hkn, hkn2, t3, t6]
  (repeat' (first | refine awp_seq ?_ | (refine awp_region tabOk ?_; simp [Nt.of_lit, of0]) | (refine awp_if ?_; simp [Nt.of_lit, of0]) | refine awp_block ?_ | refine And.intro ?_ ?_ | intro _ | (refine awp_skip ?_; simp [Nt.of_lit, of0]) | (refine awp_ret ?_; simp [Nt.of_lit, of0]) | (refine awp_exit ?_; simp [Nt.of_lit, of0])))
  refine awp_loop_at (α := {j : Nat // j ≤ 6}) (fun j => [(0, .c (.sc (.str s))), (2, .c (.sc (.ptr H.length 0))), (5, .c (.sc (.ptr (H.length + 1) 0))), (48, .c (.sc (.int .i64 j.1)))])
    (fun j => H ++ [.own Nt.zero.cs, .own (Nt.of s j.1).cs]) (fun j => 6 - j.1) ⟨0, by omega⟩ (wk_tl (by simp)) ?_
  rintro ⟨j, hj⟩
  by_cases hjl : j < 6
  · have hj6 : (j : Int) < 6 := by omega
    have wj := wrapS j (by omega)
    have g1 := wrap_in (3 * (j : Int)) (by omega) (by omega)
    have g2 := wrap_in (9 + 3 * (j : Int)) (by omega) (by omega)
    have g3 := wrap_in (12 + 3 * (j : Int)) (by omega) (by omega)
    have i1 : (9 + 3 * (j : Int)).toNat = 9 + 3 * j := by omega
    have i2 : (12 + 3 * (j : Int)).toNat = 12 + 3 * j := by omega
    have i3 : (0 : Int) ≤ 9 + 3 * (j : Int) := by omega
    have i4 : 9 + 3 * (j : Int) ≤ 12 + 3 * (j : Int) := by omega
    have i5 : 12 + 3 * (j : Int) ≤ s.size := by omega
    have tj := leN_thr (s := s) (a := 9 + 3 * j) (by omega)
    rw [show 9 + 3 * j + 3 = 12 + 3 * j by omega] at tj
    have st := Nt.of_set s hjl
    have c9 : 5 + j + 1 ≤ 12 := by omega
    (repeat' (first | refine awp_seq ?_ | (refine awp_region tabOk ?_; simp [hj6, g1, g2, g3, i1, i2, i3, i4, i5]) | (refine awp_if ?_; simp [hj6, g1, g2, g3, i1, i2, i3, i4, i5]) | refine awp_block ?_ | refine And.intro ?_ ?_ | intro _ | (refine awp_skip ?_; simp [hj6, g1, g2, g3, i1, i2, i3, i4, i5]) | (refine awp_ret ?_; simp [hj6, g1, g2, g3, i1, i2, i3, i4, i5]) | (refine awp_exit ?_; simp [hj6, g1, g2, g3, i1, i2, i3, i4, i5])))
    refine wireGet (s := s.extract (9 + 3 * j) (12 + 3 * j)) (by rw [ext_size (by omega) (by omega)]; omega) ?_
    rw [tj]
    ((try simp [hj6, st, c9, hjl]); (repeat' (first | refine awp_seq ?_ | (refine awp_region tabOk ?_; simp [hj6, st, c9, hjl]) | (refine awp_if ?_; simp [hj6, st, c9, hjl]) | refine awp_block ?_ | refine And.intro ?_ ?_ | intro _ | (refine awp_skip ?_; simp [hj6, st, c9, hjl]) | (refine awp_ret ?_; simp [hj6, st, c9, hjl]) | (refine awp_exit ?_; simp [hj6, st, c9, hjl]))))
    exact ⟨j + 1, by omega, by omega, wk_tl (by simp [wj])⟩
  · obtain rfl : j = 6 := by omega
    have hoe := Nt.of_err (s := s) (by omega) (by omega)
    (repeat' (first | refine awp_seq ?_ | (refine awp_region tabOk ?_; simp) | (refine awp_if ?_; simp) | refine awp_block ?_ | refine And.intro ?_ ?_ | intro _ | (refine awp_skip ?_; simp) | (refine awp_ret ?_; simp) | (refine awp_exit ?_; simp)))
    refine wireCheck ?_
    rw [hoe]
    by_cases hf : 5 < bat s 1 ∨ 5 < bat s 2
    · have e1 : Nt.rdE s = 1 := by unfold Nt.rdE; rw [if_neg c1, if_neg c2, if_neg hb, if_pos hf]
      have e2 : Nt.rdN s = Nt.zero := if_neg (by rw [e1]; decide)
      rw [e1, e2] at q
      rw [if_pos hf]
      ((try simp [Nt.zero_cs]); (repeat' (first | refine awp_seq ?_ | (refine awp_region tabOk ?_; simp [Nt.zero_cs]) | (refine awp_if ?_; simp [Nt.zero_cs]) | refine awp_block ?_ | refine And.intro ?_ ?_ | intro _ | (refine awp_skip ?_; simp [Nt.zero_cs]) | (refine awp_ret ?_; simp [Nt.zero_cs]) | (refine awp_exit ?_; simp [Nt.zero_cs]))))
      exact ⟨H, _, gcTo_none (fun _ => rfl), q⟩
    · have e1 : Nt.rdE s = 0 := by unfold Nt.rdE; rw [if_neg c1, if_neg c2, if_neg hb, if_neg hf]
      have e2 : Nt.rdN s = Nt.of s 6 := if_pos e1
      rw [e1, e2] at q
      rw [if_neg hf]
      ((try simp); (repeat' (first | refine awp_seq ?_ | (refine awp_region tabOk ?_; simp) | (refine awp_if ?_; simp) | refine awp_block ?_ | refine And.intro ?_ ?_ | intro _ | (refine awp_skip ?_; simp) | (refine awp_ret ?_; simp) | (refine awp_exit ?_; simp))))
      exact ⟨H, _, gcTo_none (fun _ => rfl), q⟩
set_option maxRecDepth 100000 in
set_option maxHeartbeats 1000000 in
theorem noteRead {H : List Blk} {s : ByteArray} {Q : AV → List Blk → Prop} (hs : s.size ≤ 9223372036854775807) (q : Q (.tup [.agg (Nt.rdN s).cs, .sc (.int .i64 (Nt.rdE s))]) H) :
    ACalls Try.prog 47 [.sc (.str s)] H Q := by
  refine acalls_of tabOk Try.func47 (by kernel_rfl) rfl (by kernel_rfl) ?_
  by_cases c1 : 231 < s.size
  · have e1 : Nt.rdE s = 2 := if_pos c1
    have e2 : Nt.rdN s = Nt.zero := if_neg (by rw [e1]; decide)
    rw [e1, e2] at q
    have c1' : (231 : Int) < s.size := by omega
    (repeat' (first | refine awp_seq ?_ | (refine awp_region tabOk ?_; simp [c1', Nt.zero_cs]) | (refine awp_if ?_; simp [c1', Nt.zero_cs]) | refine awp_block ?_ | refine And.intro ?_ ?_ | intro _ | (refine awp_skip ?_; simp [c1', Nt.zero_cs]) | (refine awp_ret ?_; simp [c1', Nt.zero_cs]) | (refine awp_exit ?_; simp [c1', Nt.zero_cs])))
    exact ⟨H, _, gcTo_none (fun _ => rfl), q⟩
  have c1' : ¬(231 : Int) < s.size := by omega
  by_cases c2 : s.size < 31
  · have e1 : Nt.rdE s = 3 := by unfold Nt.rdE; rw [if_neg c1, if_pos c2]
    have e2 : Nt.rdN s = Nt.zero := if_neg (by rw [e1]; decide)
    rw [e1, e2] at q
    have c2' : (s.size : Int) < 31 := by omega
    (repeat' (first | refine awp_seq ?_ | (refine awp_region tabOk ?_; simp [c1', c2', Nt.zero_cs]) | (refine awp_if ?_; simp [c1', c2', Nt.zero_cs]) | refine awp_block ?_ | refine And.intro ?_ ?_ | intro _ | (refine awp_skip ?_; simp [c1', c2', Nt.zero_cs]) | (refine awp_ret ?_; simp [c1', c2', Nt.zero_cs]) | (refine awp_exit ?_; simp [c1', c2', Nt.zero_cs])))
    exact ⟨H, _, gcTo_none (fun _ => rfl), q⟩
  obtain ⟨k, hk⟩ : ∃ k, s.size = k + 4 := ⟨s.size - 4, by omega⟩
  have c2' : ¬(s.size : Int) < 31 := by omega
  have ek2 : s.size - 4 = k := by omega
  have w4 : IntKind.i64.wrap ((s.size : Int) - 4) = (k : Int) := by rw [wrap_in _ (by omega) (by omega)]; omega
  have hkn : (k : Int) ≤ s.size := by omega
  have b0 : (s[0]?.getD 0).toNat = bat s 0 := rfl
  have b1 : (s[1]?.getD 0).toNat = bat s 1 := rfl
  have b2 : (s[2]?.getD 0).toNat = bat s 2 := rfl
  have d0 : ∀ h, (s[0]'h).toNat = bat s 0 := fun h => by unfold bat; rw [getElem?_pos s 0 h]; rfl
  have d1 : ∀ h, (s[1]'h).toNat = bat s 1 := fun h => by unfold bat; rw [getElem?_pos s 1 h]; rfl
  have d2 : ∀ h, (s[2]'h).toNat = bat s 2 := fun h => by unfold bat; rw [getElem?_pos s 2 h]; rfl
  have l0 := bat_lt s 0
  have l1 := bat_lt s 1
  have l2 := bat_lt s 2
  have w0 := wrap_in (bat s 0 : Int) (by omega) (by omega)
  have w1 := wrap_in (bat s 1 : Int) (by omega) (by omega)
  have w2 := wrap_in (bat s 2 : Int) (by omega) (by omega)
  have n0 : 0 < s.size := by omega
  have n1 : 1 < s.size := by omega
  have n2 : 2 < s.size := by omega
  have m0 : (0 : Int) < s.size := by omega
  have m1 : (1 : Int) < s.size := by omega
  have m2 : (2 : Int) < s.size := by omega
  have mk : (27 : Int) ≤ k := by omega
  have of0 : (⟨bat s 0, bat s 1, bat s 2, (thr s 3 : Nat), (thr s 6 : Nat), fun _ => 0, s.extract 27 k⟩ : Nt) = Nt.of s 0 := by unfold Nt.of; rw [ek2]; simp
  (repeat' (first | refine awp_seq ?_ | (refine awp_region tabOk ?_; simp [c1', c2', Nt.zero_cs]) | (refine awp_if ?_; simp [c1', c2', Nt.zero_cs]) | refine awp_block ?_ | refine And.intro ?_ ?_ | intro _ | (refine awp_skip ?_; simp [c1', c2', Nt.zero_cs]) | (refine awp_ret ?_; simp [c1', c2', Nt.zero_cs]) | (refine awp_exit ?_; simp [c1', c2', Nt.zero_cs])))
  refine awp_draw tabOk mixed [] (by kernel_rfl) ?_
  simp [b0, b1, b2, d0, d1, d2, w0, w1, w2, w4, n0, n1, n2, m0, m1, m2, mk, hkn]
  (repeat' (first | refine awp_seq ?_ | (refine awp_region tabOk ?_; simp) | (refine awp_if ?_; simp) | refine awp_block ?_ | refine And.intro ?_ ?_ | intro _ | (refine awp_skip ?_; simp) | (refine awp_ret ?_; simp) | (refine awp_exit ?_; simp)))
  refine threeT (s := s) (i := 3) ?_ (by omega) (by omega) ?_
  · simp
  ((try simp); (repeat' (first | refine awp_seq ?_ | (refine awp_region tabOk ?_; simp) | (refine awp_if ?_; simp) | refine awp_block ?_ | refine And.intro ?_ ?_ | intro _ | (refine awp_skip ?_; simp) | (refine awp_ret ?_; simp) | (refine awp_exit ?_; simp))))
  refine threeT (s := s) (i := 6) ?_ (by omega) (by omega) ?_
  · simp
  ((try simp); (repeat' (first | refine awp_seq ?_ | (refine awp_region tabOk ?_; simp) | (refine awp_if ?_; simp) | refine awp_block ?_ | refine And.intro ?_ ?_ | intro _ | (refine awp_skip ?_; simp) | (refine awp_ret ?_; simp) | (refine awp_exit ?_; simp))))
  refine awp_loop_at (α := {j : Nat // j ≤ 6}) (fun j => [(1, .c (.sc (.ptr H.length 0))), (2, .c (.sc (.ptr (H.length + 1) 0))), (4, .c (.sc (.int .i64 s.size))), (5, .c (.sc (.ptr (H.length + 2) 0))), (6, .c (.sc (.fn 113 [(H.length, 0)]))), (39, .c (.sc (.int .i64 j.1)))])
    (fun j => H ++ [.own [.str s], .own Nt.zero.cs, .own (Nt.of s j.1).cs]) (fun j => 6 - j.1) ⟨0, by omega⟩ (wk_tlH (by rw [Nt.of_lit, of0]) (by simp)) ?_
  rintro ⟨j, hj⟩
  by_cases hjl : j < 6
  · have hj6 : (j : Int) < 6 := by omega
    have wj := wrapS j (by omega)
    have g1 := wrap_in (3 * (j : Int)) (by omega) (by omega)
    have g2 : IntKind.i64.wrap (9 + 3 * (j : Int)) = ((9 + 3 * j : Nat) : Int) := by rw [wrap_in _ (by omega) (by omega)]; omega
    have st := Nt.of_set s hjl
    have c9 : 5 + j + 1 ≤ 12 := by omega
    obtain ⟨a, ha⟩ : ∃ a, 9 + 3 * j = a := ⟨_, rfl⟩
    rw [ha] at g2 st
    (repeat' (first | refine awp_seq ?_ | (refine awp_region tabOk ?_; simp [hj6, g1, g2]) | (refine awp_if ?_; simp [hj6, g1, g2]) | refine awp_block ?_ | refine And.intro ?_ ?_ | intro _ | (refine awp_skip ?_; simp [hj6, g1, g2]) | (refine awp_ret ?_; simp [hj6, g1, g2]) | (refine awp_exit ?_; simp [hj6, g1, g2])))
    refine threeT (s := s) (i := a) ?_ (by omega) (by omega) ?_
    · simp
    ((try simp [hj6, st, c9, hjl]); (repeat' (first | refine awp_seq ?_ | (refine awp_region tabOk ?_; simp [hj6, st, c9, hjl]) | (refine awp_if ?_; simp [hj6, st, c9, hjl]) | refine awp_block ?_ | refine And.intro ?_ ?_ | intro _ | (refine awp_skip ?_; simp [hj6, st, c9, hjl]) | (refine awp_ret ?_; simp [hj6, st, c9, hjl]) | (refine awp_exit ?_; simp [hj6, st, c9, hjl]))))
    exact ⟨j + 1, by omega, by omega, wk_tl (by simp [wj])⟩
  · obtain rfl : j = 6 := by omega
    have hcl := crc_lt (s.extract 0 k)
    have sz1 : (s.extract 0 k).size = k := by rw [ext_size (by omega) (by omega)]; omega
    have hfour := leN_four (s := s) (k := k) (c := crc (s.extract 0 k)) (by omega) hcl
    have hsb : Nt.sumBad s ↔ ¬∀ i, i < 4 → bat s (k + i) = crc (s.extract 0 k) / 2 ^ (8 * i) % 256 := by
      rw [← hfour]; unfold Nt.sumBad; rw [ek2]
      constructor <;> intro h h' <;> exact h h'.symm
    (repeat' (first | refine awp_seq ?_ | (refine awp_region tabOk ?_; simp [w4, hkn]) | (refine awp_if ?_; simp [w4, hkn]) | refine awp_block ?_ | refine And.intro ?_ ?_ | intro _ | (refine awp_skip ?_; simp [w4, hkn]) | (refine awp_ret ?_; simp [w4, hkn]) | (refine awp_exit ?_; simp [w4, hkn])))
    refine refSum (by rw [sz1]; omega) ?_
    generalize crc (s.extract 0 k) = c at *
    ((try simp [w4, hkn]); (repeat' (first | refine awp_seq ?_ | (refine awp_region tabOk ?_; simp [w4, hkn]) | (refine awp_if ?_; simp [w4, hkn]) | refine awp_block ?_ | refine And.intro ?_ ?_ | intro _ | (refine awp_skip ?_; simp [w4, hkn]) | (refine awp_ret ?_; simp [w4, hkn]) | (refine awp_exit ?_; simp [w4, hkn]))))
    refine awp_loop_at (α := {i : Nat // i ≤ 4 ∧ ∀ i', i' < i → bat s (k + i') = c / 2 ^ (8 * i') % 256}) (fun i => [(1, .c (.sc (.ptr H.length 0))), (2, .c (.sc (.ptr (H.length + 1) 0))), (4, .c (.sc (.int .i64 s.size))), (5, .c (.sc (.ptr (H.length + 2) 0))), (8, .c (.sc (.int .u32 c))), (56, .c (.sc (.int .i64 i.1)))])
      (fun _ => H ++ [.own [.str s], .own Nt.zero.cs, .own (Nt.of s 6).cs]) (fun i => 4 - i.1) ⟨0, by omega, fun i h => by omega⟩ (wk_tl (by simp)) ?_
    rintro ⟨i, hi, hall⟩
    by_cases hil : i < 4
    · have hi4 : (i : Int) < 4 := by omega
      have wi := wrapS i (by omega)
      have g1 : IntKind.i64.wrap ((k : Int) + i) = ((k + i : Nat) : Int) := by rw [wrap_in _ (by omega) (by omega)]; omega
      have g2 : IntKind.i64.wrap (8 * (i : Int)) = ((8 * i : Nat) : Int) := by rw [wrap_in _ (by omega) (by omega)]; omega
      have hlt : k + i < s.size := by omega
      have bb : (s[k + i]?.getD 0).toNat = bat s (k + i) := rfl
      have dd : ∀ h, (s[k + i]'h).toNat = bat s (k + i) := fun h => by unfold bat; rw [getElem?_pos s (k + i) h]; rfl
      have hb := bat_lt s (k + i)
      have wb := wrap_u32 (n := bat s (k + i)) (by omega)
      have hsh := shr_at .u32 c (8 * i) (by show 8 * i ≤ 32; omega)
      have hsl : c / 2 ^ (8 * i) < 2 ^ 32 := Nat.lt_of_le_of_lt (Nat.div_le_self _ _) hcl
      have hand : bitsOf .u32 .and ((c / 2 ^ (8 * i) : Nat) : Int) 255 = ((c / 2 ^ (8 * i) % 256 : Nat) : Int) := by
        generalize c / 2 ^ (8 * i) = y at *
        simp only [bitsOf, BitVec.ofInt_natCast]
        show IntKind.u32.wrap ((BitVec.ofNat 32 y &&& 255#32).toNat : Int) = _
        rw [BitVec.toNat_and, BitVec.toNat_ofNat, BitVec.toNat_ofNat, Nat.mod_eq_of_lt hsl, show 255 % 2 ^ 32 = 2 ^ 8 - 1 from rfl, Nat.and_two_pow_sub_one_eq_mod, wrap_u32 (by omega)]
      have hb1 : bat s (k + i) = c / 2 ^ (8 * i) % 256 ∨ ¬bat s (k + i) = c / 2 ^ (8 * i) % 256 := Classical.em _
      have hnext : bat s (k + i) = c / 2 ^ (8 * i) % 256 → ∀ i', i' < i + 1 → bat s (k + i') = c / 2 ^ (8 * i') % 256 := fun h i' hi' => by
        by_cases e : i' = i
        · subst e; exact h
        · exact hall i' (by omega)
      have hbad : ¬bat s (k + i) = c / 2 ^ (8 * i) % 256 → Nt.sumBad s := fun h => hsb.2 fun hh => h (hh i hil)
      generalize c / 2 ^ (8 * i) = y at *
      generalize y % 256 = z at *
      generalize 8 * i = i8 at *
      have g3 : (k : Int) + i = ((k + i : Nat) : Int) := by omega
      generalize bat s (k + i) = b at *
      generalize k + i = ki at *
      (repeat' (first | refine awp_seq ?_ | (refine awp_region tabOk ?_; simp [hi4]) | (refine awp_if ?_; simp [hi4]) | refine awp_block ?_ | refine And.intro ?_ ?_ | intro _ | (refine awp_skip ?_; simp [hi4]) | (refine awp_ret ?_; simp [hi4]) | (refine awp_exit ?_; simp [hi4])))
      refine awp_draw tabOk mixed [] (by kernel_rfl) ?_
      rcases hb1 with hb1 | hb1
      · have hn := hnext hb1
        subst hb1
        simp [w4, g1, g2, hlt, bb, dd, wb, hsh, hand]
        (repeat' (first | refine awp_seq ?_ | (refine awp_region tabOk ?_; simp) | (refine awp_if ?_; simp) | refine awp_block ?_ | refine And.intro ?_ ?_ | intro _ | (refine awp_skip ?_; simp) | (refine awp_ret ?_; simp) | (refine awp_exit ?_; simp)))
        exact ⟨i + 1, by omega, ⟨by omega, hn⟩, wk_tl (by simp [wi])⟩
      · have hbz : ¬(b : Int) = z := by omega
        have e1 : Nt.rdE s = 5 := by unfold Nt.rdE; rw [if_neg c1, if_neg c2, if_pos (hbad hb1)]
        have e2 : Nt.rdN s = Nt.zero := if_neg (by rw [e1]; decide)
        rw [e1, e2] at q
        simp [w4, g1, g2, hlt, bb, dd, wb, hsh, hand, hbz]
        (repeat' (first | refine awp_seq ?_ | (refine awp_region tabOk ?_; simp [Nt.zero_cs]) | (refine awp_if ?_; simp [Nt.zero_cs]) | refine awp_block ?_ | refine And.intro ?_ ?_ | intro _ | (refine awp_skip ?_; simp [Nt.zero_cs]) | (refine awp_ret ?_; simp [Nt.zero_cs]) | (refine awp_exit ?_; simp [Nt.zero_cs])))
        exact ⟨H, _, gcTo_none (fun _ => rfl), q⟩
    · obtain rfl : i = 4 := by omega
      have hb : ¬Nt.sumBad s := fun h => hsb.1 h hall
      have x1 : (Nt.of s 6).src = (bat s 1 : Nat) := rfl
      have x2 : (Nt.of s 6).dst = (bat s 2 : Nat) := rfl
      by_cases hf : 5 < bat s 1 ∨ 5 < bat s 2
      · have e1 : Nt.rdE s = 1 := by unfold Nt.rdE; rw [if_neg c1, if_neg c2, if_neg hb, if_pos hf]
        have e2 : Nt.rdN s = Nt.zero := if_neg (by rw [e1]; decide)
        rw [e1, e2] at q
        (repeat' (first | refine awp_seq ?_ | (refine awp_region tabOk ?_; simp [Nt.zero_cs, x1, x2]) | (refine awp_if ?_; simp [Nt.zero_cs, x1, x2]) | refine awp_block ?_ | refine And.intro ?_ ?_ | intro _ | (refine awp_skip ?_; simp [Nt.zero_cs, x1, x2]) | (refine awp_ret ?_; simp [Nt.zero_cs, x1, x2]) | (refine awp_exit ?_; simp [Nt.zero_cs, x1, x2])))
        · exact ⟨H, _, gcTo_none (fun _ => rfl), q⟩
        · rename_i hh
          split at hh <;> omega
      · have e1 : Nt.rdE s = 0 := by unfold Nt.rdE; rw [if_neg c1, if_neg c2, if_neg hb, if_neg hf]
        have e2 : Nt.rdN s = Nt.of s 6 := if_pos e1
        rw [e1, e2] at q
        (repeat' (first | refine awp_seq ?_ | (refine awp_region tabOk ?_; simp [Nt.zero_cs, x1, x2]) | (refine awp_if ?_; simp [Nt.zero_cs, x1, x2]) | refine awp_block ?_ | refine And.intro ?_ ?_ | intro _ | (refine awp_skip ?_; simp [Nt.zero_cs, x1, x2]) | (refine awp_ret ?_; simp [Nt.zero_cs, x1, x2]) | (refine awp_exit ?_; simp [Nt.zero_cs, x1, x2])))
        · rename_i hh
          split at hh <;> omega
        · exact ⟨H, _, gcTo_none (fun _ => rfl), q⟩
end Go.Proofs.Ytdeockoaalpcjaa
