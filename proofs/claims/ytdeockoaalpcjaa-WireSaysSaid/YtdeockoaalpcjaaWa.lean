/- WireSays: sums, numbers in bytes, in plain arithmetic. No program stands here. -/
import Derived.Test.YtdeockoaalpcjaaS2
set_option linter.unusedVariables false
namespace Go.Proofs.Ytdeockoaalpcjaa
open Go.RowKit
namespace Wi
def poly : Nat := 2197175160
/-- One bit of the program's sum, of the reference's. -/
def stepP (c : Nat) : Nat := if c % 2 = 1 then (c / 2) ^^^ poly else c / 2
def stepR (b k c : Nat) : Nat := if c % 2 = (b / 2 ^ k) % 2 then c / 2 else (c / 2) ^^^ poly
def itP : Nat → Nat → Nat
  | 0, c => c
  | k + 1, c => stepP (itP k c)
def itR (b : Nat) : Nat → Nat → Nat
  | 0, c => c
  | k + 1, c => stepR b k (itR b k c)
theorem it_eq (b c : Nat) : ∀ k, itP k (c ^^^ b) = itR b k c ^^^ (b / 2 ^ k)
  | 0 => by simp [itP, itR]
  | k + 1 => by
    have ih := it_eq b c k
    simp only [itP, itR, ih, stepP, stepR]
    have h2 : b / 2 ^ (k + 1) = b / 2 ^ k / 2 := by rw [Nat.pow_succ, Nat.div_div_eq_div_mul]
    rw [h2, Nat.xor_div_two]
    have hx : ((itR b k c ^^^ b / 2 ^ k) % 2 = 1) ↔ ¬(itR b k c % 2 = (b / 2 ^ k) % 2) := by
      rw [Nat.xor_mod_two_eq_one]; omega
    by_cases h : itR b k c % 2 = (b / 2 ^ k) % 2
    · rw [if_neg (by rw [hx]; simp [h]), if_pos h]
    · rw [if_pos (hx.2 h), if_neg h]
      rw [Nat.xor_assoc, Nat.xor_assoc, Nat.xor_comm (b / 2 ^ k / 2)]
theorem it8 (b c : Nat) (h : b < 256) : itP 8 (c ^^^ b) = itR b 8 c := by
  rw [it_eq, Nat.div_eq_of_lt (by omega), Nat.xor_zero]
def sumN (c : Nat) : List Nat → Nat
  | [] => c
  | b :: r => sumN (itP 8 (c ^^^ b)) r
theorem sumN_app (c : Nat) : ∀ l r, sumN c (l ++ r) = sumN (sumN c l) r
  | [], _ => rfl
  | b :: l, r => sumN_app _ l r
theorem stepP_lt {c : Nat} (h : c < 2 ^ 32) : stepP c < 2 ^ 32 := by
  unfold stepP; split
  · exact Nat.xor_lt_two_pow (by omega) (by decide)
  · omega
theorem itP_lt {c : Nat} (h : c < 2 ^ 32) : ∀ k, itP k c < 2 ^ 32
  | 0 => h
  | k + 1 => stepP_lt (itP_lt h k)
theorem stepR_lt {b k c : Nat} (h : c < 2 ^ 32) : stepR b k c < 2 ^ 32 := by
  unfold stepR; split
  · omega
  · exact Nat.xor_lt_two_pow (by omega) (by decide)
theorem itR_lt {b c : Nat} (h : c < 2 ^ 32) : ∀ k, itR b k c < 2 ^ 32
  | 0 => h
  | k + 1 => stepR_lt (itR_lt h k)
theorem sumN_lt : ∀ (l : List Nat) {c : Nat}, c < 2 ^ 32 → (∀ b ∈ l, b < 256) → sumN c l < 2 ^ 32
  | [], _, h, _ => h
  | b :: l, c, h, hb => sumN_lt l (itP_lt (Nat.xor_lt_two_pow h (Nat.lt_of_lt_of_le (hb b (by simp)) (by decide))) 8) fun x hx => hb x (by simp [hx])
/-- The bytes of a text. -/
def bat (s : ByteArray) (i : Nat) : Nat := (s[i]?.getD 0).toNat
theorem bat_lt (s : ByteArray) (i : Nat) : bat s i < 256 := (s[i]?.getD 0).toNat_lt
def bys (s : ByteArray) : List Nat := s.data.toList.map (·.toNat)
theorem bys_len (s : ByteArray) : (bys s).length = s.size := by unfold bys; rw [List.length_map]; rfl
theorem bys_at {s : ByteArray} {i : Nat} (h : i < s.size) : (bys s)[i]? = some (bat s i) := by
  unfold bys bat
  rw [getElem?_pos s i h, List.getElem?_map, List.getElem?_eq_getElem (by simpa using h)]
  simp [ByteArray.getElem_eq_getElem_data]
theorem bys_lt (s : ByteArray) : ∀ b ∈ bys s, b < 256 := fun b hb => by
  simp only [bys, List.mem_map] at hb
  obtain ⟨x, _, rfl⟩ := hb; exact x.toNat_lt
def crc (s : ByteArray) : Nat := 4294967295 - sumN 4294967295 (bys s)
theorem crc_lt (s : ByteArray) : crc s < 4294967296 := by unfold crc; omega
theorem uxor32 {a b : Nat} (ha : a < 2 ^ 32) (hb : b < 2 ^ 32) : bitsOf .u32 .xor a b = ((a ^^^ b : Nat) : Int) := by
  have hx := Nat.xor_lt_two_pow ha hb
  simp only [bitsOf, BitVec.ofInt_natCast, BitVec.toNat_xor, BitVec.toNat_ofNat]
  show IntKind.u32.wrap (((a % 2 ^ 32) ^^^ (b % 2 ^ 32) : Nat)) = _
  rw [Nat.mod_eq_of_lt ha, Nat.mod_eq_of_lt hb]
  simp only [IntKind.wrap, IntKind.signed, IntKind.bits]
  simp; omega
end Wi
end Go.Proofs.Ytdeockoaalpcjaa
