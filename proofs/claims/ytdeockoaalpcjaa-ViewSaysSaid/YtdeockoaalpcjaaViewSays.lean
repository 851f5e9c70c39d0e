/- The walk of the law partlaw.ViewSays: it returns true, and writes nothing that was there. -/
import Derived.Test.YtdeockoaalpcjaaView
import Derived.Test.YtdeockoaalpcjaaQ
import Derived.Test.YtdeockoaalpcjaaFit
namespace Go.Proofs.Ytdeockoaalpcjaa
open Go.RowKit

theorem bit_tmod (m k : Nat) : ((m : Int) / 2 ^ k).tmod 2 = ((m / 2 ^ k % 2 : Nat) : Int) := by
  have e : (m : Int) / 2 ^ k = ((m / 2 ^ k : Nat) : Int) := by simp
  rw [e, Int.tmod_eq_emod_of_nonneg (Int.natCast_nonneg _)]
  rfl
def bsum (n : Nat) : Nat → Nat
  | 0 => 0
  | k + 1 => bsum n k + n / 2 ^ k % 2
theorem bsum_le (n : Nat) : ∀ k, bsum n k ≤ k
  | 0 => by simp [bsum]
  | k + 1 => by have := bsum_le n k; simp only [bsum]; omega
theorem bsum_pc : ∀ m : Fin 64, bsum m.val 6 = pc m.val := by unfold pc; decide +kernel

theorem tz_law : ∀ m : Fin 64, 0 < m.val → Lib.trailingZeros8 m.val ≤ 5 ∧ m.val / 2 ^ Lib.trailingZeros8 m.val % 2 = 1 ∧ ∀ k : Fin 6, k.val < Lib.trailingZeros8 m.val → m.val / 2 ^ k.val % 2 = 0 := by decide +kernel

set_option maxRecDepth 100000 in
set_option maxHeartbeats 4000000 in
theorem viewSays_any (n1 n2 : Int) (m1 m2 g c : Nat) (w : World) (h0 : m1 < 256) (h1 : m2 < 256) (hg : g < 256) (hcm : c < 256) :
    Calls Try.prog 4 #[.agg #[.int .i64 n1, .int .u8 m1], .agg #[.int .i64 n2, .int .u8 m2], .int .u8 g, .int .u8 c] w
    fun e w' => e = .returned (.bool true) ∧ Below w.heap.size w w' := by
  go_enter Try.func4, Try.ntmps4
  go_wp2
  refine wp_forget (fun W => Below w.heap.size w W ∧ W.cell? ⟨w.heap.size, 0, none⟩ = some (.int .i64 n1) ∧ W.cell? ⟨w.heap.size, 1, none⟩ = some (.int .u8 m1) ∧ W.cell? ⟨w.heap.size + 1, 0, none⟩ = some (.int .i64 n2) ∧ W.cell? ⟨w.heap.size + 1, 1, none⟩ = some (.int .u8 m2) ∧ w.heap.size + 1 < W.heap.size) ⟨by repeat (first | assumption | exact Below.refl _ _ | refine Below.setCell ?_ (by first | omega | (simp; done) | (simp; omega)) _ | refine Below.alloc ?_ (by first | omega | (simp; done) | (simp; omega)) _ | refine pw_drewN ?_ _), by simp, by simp, by simp, by simp, by simp⟩ ?_
  rintro W ⟨hB, k0, k1, k2, k3, hz⟩
  refine wp_region_below (by kernel_rfl) (by kernel_rfl) ?_
  refine quietB (v := .agg #[.int .i64 n1, .int .u8 m1]) rfl (fun w' hw' => by have c0 := keepc hw' k0; have c1 := keepc hw' k1; go_simp) ?_
  refine quietB (v := .int .i64 (viewErr n1 m1)) rfl (fun w' hw' => by go_simp; exact below_call hw' (viewErr_any _ _ _ (by omega) (by omega))) ?_
  refine quietB (v := .agg #[.int .i64 n2, .int .u8 m2]) rfl (fun w' hw' => by have c0 := keepc hw' k2; have c1 := keepc hw' k3; go_simp) ?_
  refine quietB (v := .int .i64 (viewErr n2 m2)) rfl (fun w' hw' => by go_simp; exact below_call hw' (viewErr_any _ _ _ (by omega) (by omega))) ?_
  refine quietB (v := .int .i64 (viewErr n1 m1)) rfl (fun w' hw' => by go_simp) ?_
  refine quietB (v := .int .i64 (viewErr n2 m2)) rfl (fun w' hw' => by go_simp) ?_
  refine wpQuiet_nil ?_
  intro W1 hb1
  replace k0 := keepc hb1 k0
  replace k1 := keepc hb1 k1
  replace k2 := keepc hb1 k2
  replace k3 := keepc hb1 k3
  have hB1 := hB.trans (hb1.mono hB.size)
  have hz1 := hb1.size
  clear hb1 hB
  go_wp2_with fail
  refine (next_any n1 m1 g c _ h0 hg hcm).mono ?_
  rintro e W2 ⟨rfl, hb2⟩
  replace k0 := keepc hb2 k0
  replace k1 := keepc hb2 k1
  replace k2 := keepc hb2 k2
  replace k3 := keepc hb2 k3
  have hB2 := hB1.trans (hb2.mono hB1.size)
  have hz2 := hb2.size
  have z0 : w.heap.size < W2.heap.size := by omega
  have z1 : w.heap.size + 1 < W2.heap.size := by omega
  clear hb2
  go_wp2_with fail
  refine calls_forget (fun W => Below w.heap.size w W ∧ W.cell? ⟨w.heap.size, 0, none⟩ = some (.int .i64 n1) ∧ W.cell? ⟨w.heap.size, 1, none⟩ = some (.int .u8 m1) ∧ W.cell? ⟨w.heap.size + 1, 0, none⟩ = some (.int .i64 n2) ∧ W.cell? ⟨w.heap.size + 1, 1, none⟩ = some (.int .u8 m2) ∧ W.cell? ⟨W2.heap.size, 0, none⟩ = some (.int .i64 (nextNum n1 m1 g c)) ∧ W.cell? ⟨W2.heap.size, 1, none⟩ = some (.int .u8 (nextMem n1 m1 g c)) ∧ W2.heap.size < W.heap.size) ?_ ?_
  · exact ⟨by repeat (first | assumption | exact Below.refl _ _ | refine Below.setCell ?_ (by first | omega | (simp; done) | (simp; omega)) _ | refine Below.alloc ?_ (by first | omega | (simp; done) | (simp; omega)) _ | refine pw_drewN ?_ _), keepa k0, keepa k1, keepa k2, keepa k3, by simp, by simp, by simp⟩
  clear k0 k1 k2 k3
  rintro W3 ⟨hB3, k0, k1, k2, k3, k4, k5, hz3⟩
  refine (nextView_any n1 m1 g c _ h0 hg hcm).mono ?_
  rintro e W4 ⟨rfl, hb4⟩
  replace k0 := keepc hb4 k0
  replace k1 := keepc hb4 k1
  replace k2 := keepc hb4 k2
  replace k3 := keepc hb4 k3
  replace k4 := keepc hb4 k4
  replace k5 := keepc hb4 k5
  have hB4 := hB3.trans (hb4.mono hB3.size)
  have hz4 := hb4.size
  have z0 : w.heap.size < W4.heap.size := by omega
  have z1 : w.heap.size + 1 < W4.heap.size := by omega
  have z2 : W2.heap.size < W4.heap.size := by omega
  clear hb4 hB1 hB2 hB3
  go_wp2_with fail
  refine calls_forget (fun W => Below w.heap.size w W ∧ W.cell? ⟨w.heap.size, 0, none⟩ = some (.int .i64 n1) ∧ W.cell? ⟨w.heap.size, 1, none⟩ = some (.int .u8 m1) ∧ W.cell? ⟨w.heap.size + 1, 0, none⟩ = some (.int .i64 n2) ∧ W.cell? ⟨w.heap.size + 1, 1, none⟩ = some (.int .u8 m2) ∧ W.cell? ⟨W2.heap.size, 0, none⟩ = some (.int .i64 (nextNum n1 m1 g c)) ∧ W.cell? ⟨W2.heap.size, 1, none⟩ = some (.int .u8 (nextMem n1 m1 g c)) ∧ W.cell? ⟨W4.heap.size, 0, none⟩ = some (.int .i64 (nextNum n1 m1 g c)) ∧ W.cell? ⟨W4.heap.size, 1, none⟩ = some (.int .u8 (nextMem n1 m1 g c)) ∧ W4.heap.size < W.heap.size) ?_ ?_
  · exact ⟨by repeat (first | assumption | exact Below.refl _ _ | refine Below.setCell ?_ (by first | omega | (simp; done) | (simp; omega)) _ | refine Below.alloc ?_ (by first | omega | (simp; done) | (simp; omega)) _ | refine pw_drewN ?_ _), keepa k0, keepa k1, keepa k2, keepa k3, keepa k4, keepa k5, by simp, by simp, by simp⟩
  clear k0 k1 k2 k3 k4 k5
  rintro W5 ⟨hB5, k0, k1, k2, k3, k4, k5, k6, k7, hz5⟩
  refine (follows_any n1 n2 m1 m2 _ h0 h1).mono ?_
  rintro e W6 ⟨rfl, hb6⟩
  replace k0 := keepc hb6 k0
  replace k1 := keepc hb6 k1
  replace k2 := keepc hb6 k2
  replace k3 := keepc hb6 k3
  replace k4 := keepc hb6 k4
  replace k5 := keepc hb6 k5
  replace k6 := keepc hb6 k6
  replace k7 := keepc hb6 k7
  have hB6 := hB5.trans (hb6.mono hB5.size)
  clear hb6 hB4 hB5
  go_wp2_with fail
  refine (first_any n1 m1 _ h0).mono ?_
  rintro e W7 ⟨rfl, hb7⟩
  replace k0 := keepc hb7 k0
  replace k1 := keepc hb7 k1
  replace k2 := keepc hb7 k2
  replace k3 := keepc hb7 k3
  replace k4 := keepc hb7 k4
  replace k5 := keepc hb7 k5
  replace k6 := keepc hb7 k6
  replace k7 := keepc hb7 k7
  have hB7 := hB6.trans (hb7.mono hB6.size)
  clear hb7 hB6
  go_wp2_with fail
  refine (viewCheck_any n1 m1 _ (by omega) (by omega)).mono ?_
  rintro e W8 ⟨rfl, hb8⟩
  replace k0 := keepc hb8 k0
  replace k1 := keepc hb8 k1
  replace k2 := keepc hb8 k2
  replace k3 := keepc hb8 k3
  replace k4 := keepc hb8 k4
  replace k5 := keepc hb8 k5
  replace k6 := keepc hb8 k6
  replace k7 := keepc hb8 k7
  have hB8 := hB7.trans (hb8.mono hB7.size)
  clear hb8 hB7
  by_cases hv : viewErr n1 m1 = 0
  · have hE : followsE n1 n2 m1 m2 = viewErr n2 m2 := by unfold followsE; rw [if_pos hv]
    have hF : firstOf n1 m1 = Lib.trailingZeros8 m1 := by unfold firstOf; rw [if_pos hv]
    have hm := viewErr_ok hv
    obtain ⟨t5, tb, tlo⟩ := tz_law ⟨m1, by omega⟩ (by simp; omega)
    simp only at t5 tb tlo
    obtain ⟨T, hT⟩ : ∃ T, T = Lib.trailingZeros8 m1 := ⟨_, rfl⟩
    rw [← hT] at t5 tb tlo hF
    have HT := Lib.hid hT
    clear hT
    have Hb := Lib.hid tb
    have Hl := Lib.hid tlo
    clear tb tlo
    go_wp2
    go_loop [19] (fun f => ∃ k : Nat, k ≤ T ∧ f = .int .i64 k) (fun f => T - (intOf f).toNat)
    case atStart => exact ⟨0, by omega, rfl⟩
    case round =>
      obtain ⟨k, hk, rfl⟩ := hrel
      have hk5 : k ≤ 5 := by omega
      by_cases hlt : k < T
      · have hbit := Hl.out ⟨k, by omega⟩ hlt
        have hb' : (((m1 : Int) / 2 ^ k).tmod 2 == 0) = true := by rw [bit_tmod]; simp only at hbit; rw [hbit]; rfl
        clear hbit
        go_wp2
        go_round
        case rel => exact ⟨k + 1, by omega, by go_num⟩
        case measure => simp [intOf]; omega
      · obtain rfl : k = T := by omega
        have hb' : (((m1 : Int) / 2 ^ k).tmod 2 == 0) = false := by rw [bit_tmod, Hb.out]; rfl
        by_cases hv2 : viewErr n2 m2 = 0
        · have hR : followsR n1 n2 m1 m2 = followsB n1 n2 m1 m2 := by unfold followsR; simp [hv, hv2]
          have hm2 := viewErr_ok hv2
          have e3 := u8_and_nat m1 m2 h0 h1
          have hand : m1 &&& m2 ≤ m1 := Nat.and_le_left
          go_wp2
          go_loop [20, 21, 108] (fun a b p => ∃ j : Nat, j ≤ 6 ∧ p = .int .i64 j ∧ a = .int .i64 (bsum (m1 &&& m2) j) ∧ b = .int .i64 (bsum m1 j)) (fun _ _ p => 6 - (intOf p).toNat)
          case atStart => exact ⟨0, by omega, rfl, rfl, rfl⟩
          case round =>
            obtain ⟨j, hj, rfl, rfl, rfl⟩ := hrel
            have l1 := bsum_le (m1 &&& m2) j
            have l2 := bsum_le m1 j
            have b1 := bit_tmod m1 j
            have b2 := bit_tmod (m1 &&& m2) j
            have d1 : m1 / 2 ^ j % 2 ≤ 1 := by omega
            have d2 : (m1 &&& m2) / 2 ^ j % 2 ≤ 1 := by omega
            by_cases hlt : j < 6
            · have s1 : bsum m1 (j + 1) = bsum m1 j + m1 / 2 ^ j % 2 := rfl
              have s2 : bsum (m1 &&& m2) (j + 1) = bsum (m1 &&& m2) j + (m1 &&& m2) / 2 ^ j % 2 := rfl
              have S1 := Lib.hid s1
              have S2 := Lib.hid s2
              clear s1 s2
              go_wp2
              go_round
              case rel => exact ⟨j + 1, by omega, by go_num, by rw [S2.out]; go_num, by rw [S1.out]; go_num⟩
              case measure => simp [intOf]; omega
            · obtain rfl : j = 6 := by omega
              have q1 := bsum_pc ⟨m1, by omega⟩
              have q2 := bsum_pc ⟨m1 &&& m2, by omega⟩
              simp only at q1 q2
              rw [q1, q2] at *
              have p1 := pc_le m1
              have p2 := pc_le (m1 &&& m2)
              by_cases hn : n2 = n1 + 1
              · subst hn
                have hfb : followsB n1 (n1 + 1) m1 m2 = decide ((pc m1 : Int) < 2 * (pc (m1 &&& m2) : Int)) := by unfold followsB; simp; omega
                go_wp2
                go_ret
                exact ⟨rfl, hB8⟩
              · have hfb : followsB n1 n2 m1 m2 = false := by unfold followsB; simp [hn]
                have hn' : (n2 == n1 + 1) = false := by simpa using hn
                go_wp2
                go_ret
                exact ⟨rfl, hB8⟩
        · have hR : followsR n1 n2 m1 m2 = false := by unfold followsR; simp [hv2]
          have hv2' : (viewErr n2 m2 != 0) = true := by simpa using hv2
          clear hv2
          go_wp2
          go_ret
          exact ⟨rfl, hB8⟩
  · have hR : followsR n1 n2 m1 m2 = false := by unfold followsR; simp [hv]
    have hE : followsE n1 n2 m1 m2 = viewErr n1 m1 := by unfold followsE; rw [if_neg hv]
    have hF : firstOf n1 m1 = 0 := by unfold firstOf; rw [if_neg hv]
    have hv' : (viewErr n1 m1 != 0) = true := by simpa using hv
    clear hv
    go_wp2
    go_ret
    exact ⟨rfl, hB8⟩

theorem viewSays_law (W : World) (cs0 : Array Value) (w0 : Fit W [.int .i64, .int .u8] cs0.toList) (cs1 : Array Value) (w1 : Fit W [.int .i64, .int .u8] cs1.toList) (a2 : Int) (w2 : (Lit.int .u8 a2).wf = true) (a3 : Int) (w3 : (Lit.int .u8 a3).wf = true) :
    Calls Try.prog 4 #[.agg cs0, .agg cs1, .int .u8 a2, .int .u8 a3] W fun e w' => e = .returned (.bool true) ∧ Below W.heap.size W w' := by
  obtain ⟨l0⟩ := cs0
  obtain ⟨l1⟩ := cs1
  obtain ⟨u1, v1, e, f1, g1⟩ := w0.cons_inv
  obtain ⟨n1, rfl, _⟩ := f1.int_inv
  obtain ⟨u2, v2, rfl, f2, g2⟩ := g1.cons_inv
  obtain ⟨m1, rfl, b1⟩ := f2.int_inv
  obtain rfl := g2.nil_inv
  simp only at e
  subst e
  obtain ⟨u3, v3, e, f3, g3⟩ := w1.cons_inv
  obtain ⟨n2, rfl, _⟩ := f3.int_inv
  obtain ⟨u4, v4, rfl, f4, g4⟩ := g3.cons_inv
  obtain ⟨m2, rfl, b2⟩ := f4.int_inv
  obtain rfl := g4.nil_inv
  simp only at e
  subst e
  have b1 := bounds_u8 b1
  have b2 := bounds_u8 b2
  have w2 := bounds_u8 w2
  have w3 := bounds_u8 w3
  obtain ⟨m1, rfl⟩ := Int.eq_ofNat_of_zero_le b1.1
  obtain ⟨m2, rfl⟩ := Int.eq_ofNat_of_zero_le b2.1
  obtain ⟨g, rfl⟩ := Int.eq_ofNat_of_zero_le w2.1
  obtain ⟨c, rfl⟩ := Int.eq_ofNat_of_zero_le w3.1
  exact viewSays_any n1 n2 m1 m2 g c W (by omega) (by omega) (by omega) (by omega)

end Go.Proofs.Ytdeockoaalpcjaa
