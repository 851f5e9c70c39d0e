/- What math/bits.OnesCount8, math/bits.TrailingZeros8 and partref.size return. -/
import Derived.Test.YtdeockoaalpcjaaProg
import Derived.Test.YtdeockoaalpcjaaW
import Derived.WalkKit
import Derived.WalkSpells
import Derived.WalkLawsBesides
import Derived.Lib.BitFns
import Derived.Lib.Hide
namespace Go.Proofs.Ytdeockoaalpcjaa
open Go.RowKit

theorem pop8_pc : ∀ n : Fin 256, Lib.pop8 (n.val : Int) = (pc n.val : Int) := by unfold pc; decide +kernel
theorem oc8 (x : Int) (w : World) (h0 : 0 ≤ x) (h1 : x ≤ 255) : Calls Try.prog 102 #[.int .u8 x] w fun e w' => e = .returned (.int .i64 (pc x.toNat)) ∧ w = w' := by
  have e := pop8_pc ⟨x.toNat, by omega⟩
  simp only [Int.toNat_of_nonneg h0] at e
  have l := pc_le x.toNat
  have E : wrap64 (Lib.pop8 x) = (pc x.toNat : Int) := by rw [e]; unfold wrap64; omega
  have H := Lib.hid E
  clear E e
  go_enter Try.func102, Try.ntmps102
  go_wp2
  go_ret
  refine ⟨?_, rfl⟩
  rw [← H.out]; rfl
theorem ntz8_le : ∀ n : Fin 256, Lib.ntz8 (n.val : Int) = (Lib.trailingZeros8 n.val : Int) ∧ Lib.trailingZeros8 n.val ≤ 8 := by decide +kernel
theorem tz8 (x : Int) (w : World) (h0 : 0 ≤ x) (h1 : x ≤ 255) : Calls Try.prog 104 #[.int .u8 x] w fun e w' => e = .returned (.int .i64 (Lib.trailingZeros8 x.toNat)) ∧ w = w' := by
  have e := ntz8_le ⟨x.toNat, by omega⟩
  simp only [Int.toNat_of_nonneg h0] at e
  have E : wrap64 (Lib.ntz8 x) = (Lib.trailingZeros8 x.toNat : Int) := by rw [e.1]; have := e.2; unfold wrap64; omega
  have H := Lib.hid E
  clear E e
  go_enter Try.func104, Try.ntmps104
  go_wp2
  go_ret
  refine ⟨?_, rfl⟩
  rw [← H.out]; rfl
set_option maxHeartbeats 1000000 in
theorem size_any (x : Int) (w : World) (h0 : 0 ≤ x) (h1 : x ≤ 65535) : Calls Try.prog 103 #[.int .u16 x] w fun e w' => e = .returned (.int .i64 (pc x.toNat)) ∧ w = w' := by
  obtain ⟨n, rfl⟩ := Int.eq_ofNat_of_zero_le h0
  go_enter Try.func103, Try.ntmps103
  go_wp2
  go_loop [0, 3] (fun s c => ∃ m k : Nat, m < 65536 ∧ k + pc m = pc n ∧ s = .int .u16 m ∧ c = .int .i64 k) (fun s _ => (intOf s).toNat)
  case atStart => exact ⟨n, 0, by omega, by omega, rfl, rfl⟩
  case round =>
    obtain ⟨m, k, hm, hk, rfl, rfl⟩ := hrel
    have hs := pc_step m hm
    have hle := pc_le n
    have hkk : k ≤ 16 := by omega
    have Hk := Lib.hid hk; clear hk
    have Hs := Lib.hid hs; clear hs
    by_cases h : m = 0
    · subst h
      go_wp2
      go_ret
      have := Hk.out; rw [pc_zero] at this
      exact ⟨by simp; omega, rfl⟩
    · have hpos : 0 < m := by omega
      clear h
      go_wp2
      all_goals
        go_round
        case rel => exact ⟨m / 2, k + m % 2, by omega, by have := Hs.out; have := Hk.out; omega, by go_num, by go_num⟩
        case measure => simp [intOf]; omega
end Go.Proofs.Ytdeockoaalpcjaa
