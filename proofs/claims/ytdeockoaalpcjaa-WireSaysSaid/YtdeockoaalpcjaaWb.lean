/- WireSays: the two sums. -/
import Derived.Test.YtdeockoaalpcjaaB2
import Derived.Test.YtdeockoaalpcjaaWa
namespace Go.Proofs.Ytdeockoaalpcjaa
set_option linter.unusedSimpArgs false
set_option linter.unusedVariables false
open Go.RowKit
attribute [local irreducible] AWP ACalls Wk GcTo
attribute [local simp] tab3 ti3 tab9 ti9 tab5 ti5 tab81 ti81 tab191 ti191
open Wi
namespace Wi
theorem wrap_u32 {n : Nat} (h : n < 4294967296) : IntKind.u32.wrap (n : Int) = n := by
  simp only [IntKind.wrap, IntKind.signed, IntKind.bits]; simp; omega
theorem wrap_u64 {n : Nat} (h : n < 18446744073709551616) : IntKind.u64.wrap (n : Int) = n := by
  simp only [IntKind.wrap, IntKind.signed, IntKind.bits]; simp; omega
theorem wrap_u8 (n : Nat) : IntKind.u8.wrap (n : Int) = ((n % 256 : Nat) : Int) := by
  simp only [IntKind.wrap, IntKind.signed, IntKind.bits]; simp
theorem u32_and1 {a : Nat} (ha : a < 2 ^ 32) : bitsOf .u32 .and a 1 = ((a % 2 : Nat) : Int) := by
  have e : (BitVec.ofInt 32 1) = 1#32 := rfl
  simp only [bitsOf, BitVec.ofInt_natCast]
  show IntKind.u32.wrap ((BitVec.ofNat 32 a &&& 1#32).toNat : Int) = _
  rw [BitVec.toNat_and, BitVec.toNat_ofNat, BitVec.toNat_ofNat, Nat.mod_eq_of_lt ha, show 1 % 2 ^ 32 = 1 from rfl, Nat.and_one_is_mod, wrap_u32 (by omega)]
theorem shr_at (k : IntKind) (a b : Nat) (h : b ≤ k.bits) : shrOf k a b = ((a / 2 ^ b : Nat) : Int) := by
  unfold shrOf
  rw [Int.toNat_natCast, Nat.min_eq_left h]
  rw [Int.fdiv_eq_ediv_of_nonneg _ (by exact Int.le_of_lt (Int.pow_pos (by decide)))]
  simp
theorem u32_not {a : Nat} (ha : a < 2 ^ 32) : bitsOf .u32 .xor IntKind.u32.max a = ((4294967295 - a : Nat) : Int) := by
  have e : IntKind.u32.max = ((4294967295 : Nat) : Int) := rfl
  rw [e, uxor32 (by decide) ha]
  congr 1
  have h1 : (BitVec.ofNat 32 4294967295 ^^^ BitVec.ofNat 32 a).toNat = 4294967295 ^^^ a := by
    rw [BitVec.toNat_xor, BitVec.toNat_ofNat, BitVec.toNat_ofNat, Nat.mod_eq_of_lt ha]
  rw [← h1, show BitVec.ofNat 32 4294967295 = BitVec.allOnes 32 from rfl, BitVec.allOnes_xor, BitVec.toNat_not, BitVec.toNat_ofNat, Nat.mod_eq_of_lt ha]
theorem uxor64 {a b : Nat} (ha : a < 2 ^ 32) (hb : b < 2 ^ 32) : bitsOf .u64 .xor a b = ((a ^^^ b : Nat) : Int) := by
  have hx := Nat.xor_lt_two_pow ha hb
  simp only [bitsOf, BitVec.ofInt_natCast, BitVec.toNat_xor, BitVec.toNat_ofNat]
  show IntKind.u64.wrap (((a % 2 ^ 64) ^^^ (b % 2 ^ 64) : Nat)) = _
  rw [Nat.mod_eq_of_lt (by omega), Nat.mod_eq_of_lt (by omega), wrap_u64 (by omega)]
theorem tmod_at (a b : Nat) : ((a : Int)).tmod (b : Int) = ((a % b : Nat) : Int) := (Int.ofNat_tmod a b).symm
theorem tdiv_at (a b : Nat) : ((a : Int)).tdiv (b : Int) = ((a / b : Nat) : Int) := (Int.ofNat_tdiv a b).symm
end Wi
set_option maxRecDepth 100000 in
theorem wireSum {H : List Blk} {s : ByteArray} {Q : AV → List Blk → Prop} (hs : s.size ≤ 9223372036854775807) (q : Q (.c (.sc (.int .u32 (crc s : Nat)))) H) :
    ACalls Try.prog 48 [.sc (.str s)] H Q := by
  refine acalls_of tabOk Try.func48 (by kernel_rfl) rfl (by kernel_rfl) ?_
  have sg : IntKind.u32.signed = false := rfl
  (repeat' (first | refine awp_seq ?_ | (refine awp_region tabOk ?_; simp) | (refine awp_if ?_; simp) | refine awp_block ?_ | refine And.intro ?_ ?_ | intro _ | (refine awp_skip ?_; simp) | (refine awp_ret ?_; simp) | (refine awp_exit ?_; simp)))
  refine awp_loop_at (α := {p : Nat × Nat // p.1 ≤ s.size ∧ p.2 = sumN 4294967295 ((bys s).take p.1) ∧ p.2 < 2 ^ 32}) (fun p => [(0, .c (.sc (.str s))), (3, .c (.sc (.int .u32 p.1.2))), (6, .c (.sc (.int .i64 s.size))), (7, .c (.sc (.int .i64 p.1.1)))]) (fun _ => H) (fun p => s.size - p.1.1) ⟨(0, 4294967295), by simp, rfl, by decide⟩ (wk_tl (by simp)) ?_
  rintro ⟨⟨i, c⟩, hi, hc, hc32⟩
  simp only at hi hc hc32
  by_cases hlt : i < s.size
  · have wr := wrapS i (by omega)
    have hb := bat_lt s i
    have b1 : (s[i]?.getD 0).toNat = bat s i := rfl
    have b2 : ∀ h, (s[i]'h).toNat = bat s i := fun h => by unfold bat; rw [getElem?_pos s i h]; rfl
    have wb := wrap_u32 (n := bat s i) (by omega)
    have hx := uxor32 hc32 (b := bat s i) (by omega)
    have hxl := Nat.xor_lt_two_pow (x := c) (y := bat s i) (n := 32) hc32 (by omega)
    have hnx : sumN 4294967295 ((bys s).take (i + 1)) = itP 8 (c ^^^ bat s i) := by
      rw [take_snoc (bys_at hlt), sumN_app, ← hc]; rfl
    obtain ⟨x, hx'⟩ : ∃ x, c ^^^ bat s i = x := ⟨_, rfl⟩
    rw [hx'] at hx hxl hnx
    (repeat' (first | refine awp_seq ?_ | (refine awp_region tabOk ?_; simp [hlt, b1, b2, wb, hx]) | (refine awp_if ?_; simp [hlt, b1, b2, wb, hx]) | refine awp_block ?_ | refine And.intro ?_ ?_ | intro _ | (refine awp_skip ?_; simp [hlt, b1, b2, wb, hx]) | (refine awp_ret ?_; simp [hlt, b1, b2, wb, hx]) | (refine awp_exit ?_; simp [hlt, b1, b2, wb, hx])))
    refine awp_loop_at (α := {p : Nat × Nat // p.1 ≤ 8 ∧ p.2 = itP p.1 x}) (fun p => [(0, .c (.sc (.str s))), (3, .c (.sc (.int .u32 p.1.2))), (6, .c (.sc (.int .i64 s.size))), (7, .c (.sc (.int .i64 i))), (16, .c (.sc (.int .i64 p.1.1)))]) (fun _ => H) (fun p => 8 - p.1.1) ⟨(0, x), by simp, rfl⟩ (wk_tl (by simp)) ?_
    rintro ⟨⟨k, y⟩, hk, hy⟩
    simp only at hk hy
    by_cases hkl : k < 8
    · have hyl : y < 2 ^ 32 := by rw [hy]; exact itP_lt hxl k
      have hk8 : (k : Int) < 8 := by omega
      have wk := wrapS k (by omega)
      have hnx2 : itP (k + 1) x = stepP y := by rw [hy]; rfl
      have ha := u32_and1 hyl
      have hsh : shrOf .u32 y 1 = ((y / 2 : Nat) : Int) := shr_at .u32 y 1 (by decide)
      have hx2 : bitsOf .u32 .xor ((y / 2 : Nat) : Int) 2197175160 = ((y / 2 ^^^ poly : Nat) : Int) := uxor32 (a := y / 2) (b := poly) (by omega) (by decide)
      have hst : stepP y = if y % 2 = 1 then y / 2 ^^^ poly else y / 2 := rfl
      generalize y / 2 = h at *
      generalize y % 2 = r at *
      generalize h ^^^ poly = z at *
      by_cases hr : r = 1
      · subst hr
        (repeat' (first | refine awp_seq ?_ | (refine awp_region tabOk ?_; simp [hk8, ha, hsh, hx2]) | (refine awp_if ?_; simp [hk8, ha, hsh, hx2]) | refine awp_block ?_ | refine And.intro ?_ ?_ | intro _ | (refine awp_skip ?_; simp [hk8, ha, hsh, hx2]) | (refine awp_ret ?_; simp [hk8, ha, hsh, hx2]) | (refine awp_exit ?_; simp [hk8, ha, hsh, hx2])))
        exact ⟨k + 1, by omega, z, ⟨by omega, by rw [hnx2, hst]; rfl⟩, wk_tl (by simp [wk])⟩
      · rw [if_neg hr] at hst
        have hr2 : ¬(r : Int) = 1 := by omega
        (repeat' (first | refine awp_seq ?_ | (refine awp_region tabOk ?_; simp [hk8, ha, hsh, hx2, hr2]) | (refine awp_if ?_; simp [hk8, ha, hsh, hx2, hr2]) | refine awp_block ?_ | refine And.intro ?_ ?_ | intro _ | (refine awp_skip ?_; simp [hk8, ha, hsh, hx2, hr2]) | (refine awp_ret ?_; simp [hk8, ha, hsh, hx2, hr2]) | (refine awp_exit ?_; simp [hk8, ha, hsh, hx2, hr2])))
        exact ⟨k + 1, by omega, h, ⟨by omega, by rw [hnx2, hst]⟩, wk_tl (by simp [wk])⟩
    · obtain rfl : k = 8 := by omega
      (repeat' (first | refine awp_seq ?_ | (refine awp_region tabOk ?_; simp) | (refine awp_if ?_; simp) | refine awp_block ?_ | refine And.intro ?_ ?_ | intro _ | (refine awp_skip ?_; simp) | (refine awp_ret ?_; simp) | (refine awp_exit ?_; simp)))
      exact ⟨i + 1, by omega, y, ⟨by omega, by rw [hnx, hy], by rw [hy]; exact itP_lt hxl 8⟩, wk_tl (by simp [wr])⟩
  · obtain rfl : i = s.size := by omega
    have hn := u32_not hc32
    have e : crc s = 4294967295 - c := by unfold crc; rw [hc, List.take_of_length_le (by rw [bys_len]; exact Nat.le_refl _)]
    rw [← e] at hn
    (repeat' (first | refine awp_seq ?_ | (refine awp_region tabOk ?_; simp [hlt, hn, sg]) | (refine awp_if ?_; simp [hlt, hn, sg]) | refine awp_block ?_ | refine And.intro ?_ ?_ | intro _ | (refine awp_skip ?_; simp [hlt, hn, sg]) | (refine awp_ret ?_; simp [hlt, hn, sg]) | (refine awp_exit ?_; simp [hlt, hn, sg])))
    exact ⟨H, _, GcTo.refl (Nat.le_refl _), q⟩
set_option maxRecDepth 100000 in
theorem refSum {H : List Blk} {s : ByteArray} {Q : AV → List Blk → Prop} (hs : s.size ≤ 9223372036854775807) (q : Q (.c (.sc (.int .u32 (crc s : Nat)))) H) :
    ACalls Try.prog 49 [.sc (.str s)] H Q := by
  refine acalls_of tabOk Try.func49 (by kernel_rfl) rfl (by kernel_rfl) ?_
  (repeat' (first | refine awp_seq ?_ | (refine awp_region tabOk ?_; simp) | (refine awp_if ?_; simp) | refine awp_block ?_ | refine And.intro ?_ ?_ | intro _ | (refine awp_skip ?_; simp) | (refine awp_ret ?_; simp) | (refine awp_exit ?_; simp)))
  refine awp_loop_at (α := {p : Nat × Nat // p.1 ≤ s.size ∧ p.2 = sumN 4294967295 ((bys s).take p.1) ∧ p.2 < 2 ^ 32}) (fun p => [(0, .c (.sc (.str s))), (3, .c (.sc (.int .u64 p.1.2))), (8, .c (.sc (.int .i64 s.size))), (9, .c (.sc (.int .i64 p.1.1)))]) (fun _ => H) (fun p => s.size - p.1.1) ⟨(0, 4294967295), by simp, rfl, by decide⟩ (wk_tl (by simp)) ?_
  rintro ⟨⟨i, c⟩, hi, hc, hc32⟩
  simp only at hi hc hc32
  by_cases hlt : i < s.size
  · have wr := wrapS i (by omega)
    have hb := bat_lt s i
    have b1 : (s[i]?.getD 0).toNat = bat s i := rfl
    have b2 : ∀ h, (s[i]'h).toNat = bat s i := fun h => by unfold bat; rw [getElem?_pos s i h]; rfl
    have wb := wrap_u64 (n := bat s i) (by omega)
    have hnx : sumN 4294967295 ((bys s).take (i + 1)) = itR (bat s i) 8 c := by
      rw [take_snoc (bys_at hlt), sumN_app, ← hc]; exact it8 _ _ hb
    (repeat' (first | refine awp_seq ?_ | (refine awp_region tabOk ?_; simp [hlt]) | (refine awp_if ?_; simp [hlt]) | refine awp_block ?_ | refine And.intro ?_ ?_ | intro _ | (refine awp_skip ?_; simp [hlt]) | (refine awp_ret ?_; simp [hlt]) | (refine awp_exit ?_; simp [hlt])))
    refine awp_loop_at (α := {p : Nat × Nat // p.1 ≤ 8 ∧ p.2 = itR (bat s i) p.1 c}) (fun p => [(0, .c (.sc (.str s))), (3, .c (.sc (.int .u64 p.1.2))), (4, .c (.sc (.int .i64 i))), (8, .c (.sc (.int .i64 s.size))), (9, .c (.sc (.int .i64 i))), (12, .c (.sc (.int .i64 p.1.1)))]) (fun _ => H) (fun p => 8 - p.1.1) ⟨(0, c), by simp, rfl⟩ (wk_tl (by simp)) ?_
    rintro ⟨⟨k, y⟩, hk, hy⟩
    simp only at hk hy
    by_cases hkl : k < 8
    · have hyl : y < 2 ^ 32 := by rw [hy]; exact itR_lt hc32 k
      have hk8 : (k : Int) < 8 := by omega
      have wk := wrapS k (by omega)
      have hnx2 : itR (bat s i) (k + 1) c = stepR (bat s i) k y := by rw [hy]; rfl
      have hsh := shr_at .u64 (bat s i) k (by show k ≤ 64; omega)
      have hm1 := tmod_at y 2
      have hm2 := tmod_at (bat s i / 2 ^ k) 2
      have hq : IntKind.u64.wrap ((y : Int) / 2) = ((y / 2 : Nat) : Int) := by
        have := wrap_u64 (n := y / 2) (by omega)
        rw [← this]; congr 1
      have hx2 : bitsOf .u64 .xor ((y / 2 : Nat) : Int) 2197175160 = ((y / 2 ^^^ poly : Nat) : Int) := uxor64 (a := y / 2) (b := poly) (by omega) (by decide)
      have hst : stepR (bat s i) k y = if y % 2 = (bat s i / 2 ^ k) % 2 then y / 2 else y / 2 ^^^ poly := rfl
      rw [show ((2 : Nat) : Int) = 2 from rfl] at hm1 hm2
      generalize bat s i / 2 ^ k = v at *
      generalize y / 2 = h at *
      generalize y % 2 = r at *
      generalize v % 2 = r2 at *
      generalize h ^^^ poly = z at *
      by_cases hr : r = r2
      · rw [if_pos hr] at hst
        have hr2 : (r : Int) = r2 := by omega
        (repeat' (first | refine awp_seq ?_ | (refine awp_region tabOk ?_; simp [hlt, hk8, b1, b2, wb, hsh, hm1, hm2, hq, hx2, hr2]) | (refine awp_if ?_; simp [hlt, hk8, b1, b2, wb, hsh, hm1, hm2, hq, hx2, hr2]) | refine awp_block ?_ | refine And.intro ?_ ?_ | intro _ | (refine awp_skip ?_; simp [hlt, hk8, b1, b2, wb, hsh, hm1, hm2, hq, hx2, hr2]) | (refine awp_ret ?_; simp [hlt, hk8, b1, b2, wb, hsh, hm1, hm2, hq, hx2, hr2]) | (refine awp_exit ?_; simp [hlt, hk8, b1, b2, wb, hsh, hm1, hm2, hq, hx2, hr2])))
        exact ⟨k + 1, by omega, h, ⟨by omega, by rw [hnx2, hst]⟩, wk_tl (by simp [wk])⟩
      · rw [if_neg hr] at hst
        have hr2 : ¬(r : Int) = r2 := by omega
        (repeat' (first | refine awp_seq ?_ | (refine awp_region tabOk ?_; simp [hlt, hk8, b1, b2, wb, hsh, hm1, hm2, hq, hx2, hr2]) | (refine awp_if ?_; simp [hlt, hk8, b1, b2, wb, hsh, hm1, hm2, hq, hx2, hr2]) | refine awp_block ?_ | refine And.intro ?_ ?_ | intro _ | (refine awp_skip ?_; simp [hlt, hk8, b1, b2, wb, hsh, hm1, hm2, hq, hx2, hr2]) | (refine awp_ret ?_; simp [hlt, hk8, b1, b2, wb, hsh, hm1, hm2, hq, hx2, hr2]) | (refine awp_exit ?_; simp [hlt, hk8, b1, b2, wb, hsh, hm1, hm2, hq, hx2, hr2])))
        exact ⟨k + 1, by omega, z, ⟨by omega, by rw [hnx2, hst]⟩, wk_tl (by simp [wk])⟩
    · obtain rfl : k = 8 := by omega
      (repeat' (first | refine awp_seq ?_ | (refine awp_region tabOk ?_; simp) | (refine awp_if ?_; simp) | refine awp_block ?_ | refine And.intro ?_ ?_ | intro _ | (refine awp_skip ?_; simp) | (refine awp_ret ?_; simp) | (refine awp_exit ?_; simp)))
      exact ⟨i + 1, by omega, y, ⟨by omega, by rw [hnx, hy], by rw [hy]; exact itR_lt hc32 8⟩, wk_tl (by simp [wr])⟩
  · obtain rfl : i = s.size := by omega
    have e : crc s = 4294967295 - c := by unfold crc; rw [hc, List.take_of_length_le (by rw [bys_len]; exact Nat.le_refl _)]
    have h1 : IntKind.u64.wrap (4294967295 - (c : Int)) = (crc s : Nat) := by
      have := wrap_u64 (n := 4294967295 - c) (by omega)
      rw [e]; rw [← this]; congr 1; omega
    have h2 := wrap_u32 (crc_lt s)
    (repeat' (first | refine awp_seq ?_ | (refine awp_region tabOk ?_; simp [hlt, h1, h2]) | (refine awp_if ?_; simp [hlt, h1, h2]) | refine awp_block ?_ | refine And.intro ?_ ?_ | intro _ | (refine awp_skip ?_; simp [hlt, h1, h2]) | (refine awp_ret ?_; simp [hlt, h1, h2]) | (refine awp_exit ?_; simp [hlt, h1, h2])))
    exact ⟨H, _, GcTo.refl (Nat.le_refl _), q⟩
end Go.Proofs.Ytdeockoaalpcjaa
