/- Words that every text of this seat uses: bit counts, worlds, small laws of numbers and lists. No program stands here. -/
import Derived.Below
import Derived.RowKit3
import Derived.Lib.Hide
import Derived.Laws.BitsAllLaws
import Derived.OwnWalk
import Derived.Deep.Draws
namespace Go.Proofs.Ytdeockoaalpcjaa
open Go.RowKit

def pcF : Nat → Nat → Nat
  | 0, _ => 0
  | f + 1, n => n % 2 + pcF f (n / 2)
theorem pcF_more : ∀ (f n : Nat), n < 2 ^ f → pcF (f + 1) n = pcF f n
  | 0, n, h => by simp [pcF]; simp at h; omega
  | f + 1, n, h => by
    have := pcF_more f (n / 2) (by rw [Nat.pow_succ] at h; omega)
    rw [pcF, this]; rfl
theorem pcF_le : ∀ (f n : Nat), pcF f n ≤ f
  | 0, n => by simp [pcF]
  | f + 1, n => by have := pcF_le f (n / 2); simp only [pcF]; omega
theorem pcF_zero : ∀ f, pcF f 0 = 0
  | 0 => rfl
  | f + 1 => by simp [pcF, pcF_zero f]
theorem pcF_step (m : Nat) (h : m < 65536) : pcF 16 m = m % 2 + pcF 16 (m / 2) := by
  have := pcF_more 15 (m / 2) (by omega)
  rw [this]; rfl
/-- How many bits of a number below 65536 are set. -/
def pc (n : Nat) : Nat := pcF 16 n
theorem pc_le (n : Nat) : pc n ≤ 16 := pcF_le 16 n
theorem pc_zero : pc 0 = 0 := pcF_zero 16
theorem pc_step (m : Nat) (h : m < 65536) : pc m = m % 2 + pc (m / 2) := pcF_step m h
attribute [irreducible] pc
theorem pw_drewN {B : Nat} {w W : World} (h : Below B w W) (n : Nat) : Below B w (W.drewN n) := ⟨h.os, h.tape, h.output, h.size, h.block⟩
theorem bcell {W w1 : World} (hb : Below W.heap.size W w1) : (∀ b o, b < W.heap.size → w1.cell? ⟨b, o, none⟩ = W.cell? ⟨b, o, none⟩) ∧ (∀ b o, b < W.heap.size → w1.frozen? ⟨b, o, none⟩ = W.frozen? ⟨b, o, none⟩) ∧ W.heap.size ≤ w1.heap.size :=
  ⟨fun b o h => hb.cell (p := ⟨b, o, none⟩) h, fun b o h => hb.frozen (p := ⟨b, o, none⟩) h, hb.size⟩
def stay (m g : Nat) : Nat := m &&& (255 - g)
theorem stay_sub : ∀ m g : Fin 256, m.val - (m.val &&& g.val) = stay m.val g.val := by decide +kernel
theorem or_63 (g c : Nat) : (g ||| c) / 64 = 0 ↔ g ≤ 63 ∧ c ≤ 63 := by
  constructor
  · intro h
    have h1 : g ≤ g ||| c := Nat.left_le_or
    have h2 : c ≤ g ||| c := Nat.right_le_or
    omega
  · intro ⟨h1, h2⟩
    have := Nat.or_lt_two_pow (x := g) (y := c) (n := 6) (by omega) (by omega)
    omega
end Go.Proofs.Ytdeockoaalpcjaa
