/- What the functions of package view and their references return. -/
import Derived.Test.YtdeockoaalpcjaaBits
import Derived.BigQuiet
import Derived.Deep.RegionWith
namespace Go.Proofs.Ytdeockoaalpcjaa
open Go.RowKit

def viewErr (num mem : Int) : Int := if num < 0 ∨ 16777215 < num ∨ mem < 1 ∨ 63 < mem then 1 else 0
set_option maxHeartbeats 1000000 in
theorem viewErr_any (num mem : Int) (w : World) (h0 : 0 ≤ mem) (h1 : mem ≤ 255) : Calls Try.prog 15 #[.agg #[.int .i64 num, .int .u8 mem]] w fun e w' => e = .returned (.int .i64 (viewErr num mem)) ∧ Below w.heap.size w w' := by
  go_enter Try.func15, Try.ntmps15
  go_wp2
  all_goals
    go_ret
    refine ⟨by simp [viewErr]; omega, (Below.refl _ _).alloc (by simp) _⟩
set_option maxHeartbeats 1000000 in
theorem viewCheck_any (num mem : Int) (w : World) (h0 : 0 ≤ mem) (h1 : mem ≤ 255) : Calls Try.prog 20 #[.agg #[.int .i64 num, .int .u8 mem]] w fun e w' => e = .returned (.int .i64 (viewErr num mem)) ∧ Below w.heap.size w w' := by
  go_enter Try.func20, Try.ntmps20
  go_wp2
  all_goals
    go_ret
    refine ⟨by simp_all [viewErr]; try omega, (Below.refl _ _).alloc (by simp) _⟩

theorem viewErr_ok {num mem : Int} (h : viewErr num mem = 0) : 0 ≤ num ∧ num ≤ 16777215 ∧ 1 ≤ mem ∧ mem ≤ 63 := by
  unfold viewErr at h
  split at h <;> omega
attribute [irreducible] viewErr

def nextBad (num : Int) (m g c : Nat) : Int :=
  if viewErr num m ≠ 0 then viewErr num m
  else if 63 < g ∨ 63 < c ∨ 0 < g &&& c then 1
  else if num = 16777215 then 8
  else if 2 * pc (stay m g) ≤ pc m then 11 else 0
def nextNum (num : Int) (m g c : Nat) : Int := if nextBad num m g c = 0 then num + 1 else 0
def nextMem (num : Int) (m g c : Nat) : Nat := if nextBad num m g c = 0 then stay m g ||| c else 0

set_option maxHeartbeats 2000000 in
theorem next_any (num : Int) (m g c : Nat) (w : World) (h0 : m < 256) (h1 : g < 256) (h2 : c < 256) : Calls Try.prog 16 #[.agg #[.int .i64 num, .int .u8 m], .int .u8 g, .int .u8 c] w
    fun e w' => e = .returned (.tuple #[.agg #[.int .i64 (nextNum num m g c), .int .u8 (nextMem num m g c)], .int .i64 (nextBad num m g c)]) ∧ Below w.heap.size w w' := by
  have e1 := u8_or_nat g c h1 h2
  have e2 := u8_and_nat g c h1 h2
  have e3 := u8_andNot_nat m g h0 h1
  go_enter Try.func16, Try.ntmps16
  go_wp2_with (go_at_call 20; refine (viewCheck_any num m _ (by omega) (by omega)).mono ?_; rintro e w1 ⟨rfl, hb1⟩; obtain ⟨hc1, hf1, hz1⟩ := bcell hb1; simp at hz1)
  · have h : viewErr num m ≠ 0 := by simpa using ‹(viewErr num ↑m != 0) = true›
    have hb : nextBad num m g c = viewErr num m := by simp [nextBad, h]
    rw [nextNum, nextMem, hb, if_neg h, if_neg h]
    exact bodyPost_ret (v := .tuple #[.agg #[.int .i64 0, .int .u8 0], .int .i64 (viewErr num m)]) (by simp [results, Try.results16, go_sem, hc1]) rfl ⟨rfl, by repeat (first | exact Below.refl _ _ | refine Below.setCell ?_ (by simp; try omega) _ | refine Below.alloc ?_ (by simp; try omega) _ | refine pw_drewN ?_ _ | refine Below.trans ?_ (hb1.mono (by simp; try omega)))⟩
  · have h : viewErr num m = 0 := by simpa using ‹(viewErr num ↑m != 0) = false›
    have h3 : g &&& c ≠ 0 := by have := ‹(((g &&& c : Nat) : Int) != 0) = true›; simp at this; omega
    have hb : nextBad num m g c = 1 := by rw [nextBad, if_neg (by simpa using h), if_pos (by omega)]
    rw [nextNum, nextMem, hb, if_neg (by decide), if_neg (by decide)]
    exact bodyPost_ret (v := .tuple #[.agg #[.int .i64 0, .int .u8 0], .int .i64 1]) (by simp [results, Try.results16, go_sem, hc1]) rfl ⟨rfl, by repeat (first | exact Below.refl _ _ | refine Below.setCell ?_ (by simp; try omega) _ | refine Below.alloc ?_ (by simp; try omega) _ | refine pw_drewN ?_ _ | refine Below.trans ?_ (hb1.mono (by simp; try omega)))⟩
  · have h : viewErr num m = 0 := by simpa using ‹(viewErr num ↑m != 0) = false›
    have h3 : g &&& c = 0 := by have := ‹(((g &&& c : Nat) : Int) != 0) = false›; simp at this; omega
    have h4 : g ≤ 63 ∧ c ≤ 63 := (or_63 g c).1 (by have := ‹((g ||| c : Nat) : Int) / 64 = 0›; omega)
    have h5 : num = 16777215 := by simpa using ‹(num == 16777215) = true›
    subst h5
    have hb : nextBad 16777215 m g c = 8 := by rw [nextBad, if_neg (by simpa using h), if_neg (by omega), if_pos rfl]
    rw [nextNum, nextMem, hb, if_neg (by decide), if_neg (by decide)]
    exact bodyPost_ret (v := .tuple #[.agg #[.int .i64 0, .int .u8 0], .int .i64 8]) (by simp [results, Try.results16, go_sem, hc1]) rfl ⟨rfl, by repeat (first | exact Below.refl _ _ | refine Below.setCell ?_ (by simp; try omega) _ | refine Below.alloc ?_ (by simp; try omega) _ | refine pw_drewN ?_ _ | refine Below.trans ?_ (hb1.mono (by simp; try omega)))⟩
  · have h : viewErr num m = 0 := by simpa using ‹(viewErr num ↑m != 0) = false›
    have h3 : g &&& c = 0 := by have := ‹(((g &&& c : Nat) : Int) != 0) = false›; simp at this; omega
    have h4 : g ≤ 63 ∧ c ≤ 63 := (or_63 g c).1 (by have := ‹((g ||| c : Nat) : Int) / 64 = 0›; omega)
    have h5 : num ≠ 16777215 := by simpa using ‹(num == 16777215) = false›
    have hs : m &&& (255 - g) < 256 := Nat.lt_of_le_of_lt Nat.and_le_left h0
    have hpn := pc_le (m &&& (255 - g))
    have hpm := pc_le m
    have hnum := viewErr_ok h
    have e4 : bits BinOp.or IntKind.u8 ((m &&& (255 - g) : Nat) : Int) (c : Int) = ((m &&& (255 - g) ||| c : Nat) : Int) := u8_or_nat _ _ hs h2
    have H := Lib.hid h
    clear h
    go_quiet ((go_at_call 102; exact Calls.quiet_of_same ((oc8 _ _ (by omega) (by omega)).mono fun _ _ h => ⟨h.1, h.2.symm⟩)))
    go_wp2
    · have h6 : 2 * pc (stay m g) ≤ pc m := by
        have : 2 * ((pc (m &&& (255 - g)) : Nat) : Int) ≤ (pc m : Int) := by assumption
        unfold stay; omega
      have hb : nextBad num m g c = 11 := by rw [nextBad, if_neg (by simpa using H.out), if_neg (by omega), if_neg h5, if_pos h6]
      rw [nextNum, nextMem, hb, if_neg (by decide), if_neg (by decide)]
      exact bodyPost_ret (v := .tuple #[.agg #[.int .i64 0, .int .u8 0], .int .i64 11]) (by simp [results, Try.results16, go_sem, hc1]) rfl ⟨rfl, by repeat (first | exact Below.refl _ _ | refine Below.setCell ?_ (by simp; try omega) _ | refine Below.alloc ?_ (by simp; try omega) _ | refine pw_drewN ?_ _ | refine Below.trans ?_ (hb1.mono (by simp; try omega)))⟩
    · have h6 : ¬ 2 * pc (stay m g) ≤ pc m := by
        have : (pc m : Int) < 2 * ((pc (m &&& (255 - g)) : Nat) : Int) := by assumption
        unfold stay; omega
      have hb : nextBad num m g c = 0 := by rw [nextBad, if_neg (by simpa using H.out), if_neg (by omega), if_neg h5, if_neg h6]
      rw [nextNum, nextMem, hb, if_pos rfl, if_pos rfl]
      exact bodyPost_ret (v := .tuple #[.agg #[.int .i64 (num + 1), .int .u8 ((stay m g ||| c : Nat) : Int)], .int .i64 0]) (by simp [results, Try.results16, go_sem, hc1, stay]) rfl ⟨rfl, by repeat (first | exact Below.refl _ _ | refine Below.setCell ?_ (by simp; try omega) _ | refine Below.alloc ?_ (by simp; try omega) _ | refine pw_drewN ?_ _ | refine Below.trans ?_ (hb1.mono (by simp; try omega)))⟩
  · have h : viewErr num m = 0 := by simpa using ‹(viewErr num ↑m != 0) = false›
    have h4 : ¬ (g ≤ 63 ∧ c ≤ 63) := fun hh => by
      have := (or_63 g c).2 hh
      have : ¬ ((g ||| c : Nat) : Int) / 64 = 0 := by assumption
      omega
    have hb : nextBad num m g c = 1 := by rw [nextBad, if_neg (by simpa using h), if_pos (by omega)]
    rw [nextNum, nextMem, hb, if_neg (by decide), if_neg (by decide)]
    exact bodyPost_ret (v := .tuple #[.agg #[.int .i64 0, .int .u8 0], .int .i64 1]) (by simp [results, Try.results16, go_sem, hc1]) rfl ⟨rfl, by repeat (first | exact Below.refl _ _ | refine Below.setCell ?_ (by simp; try omega) _ | refine Below.alloc ?_ (by simp; try omega) _ | refine pw_drewN ?_ _ | refine Below.trans ?_ (hb1.mono (by simp; try omega)))⟩

set_option maxHeartbeats 2000000 in
theorem nextView_any (num : Int) (m g c : Nat) (w : World) (h0 : m < 256) (h1 : g < 256) (h2 : c < 256) : Calls Try.prog 17 #[.agg #[.int .i64 num, .int .u8 m], .int .u8 g, .int .u8 c] w
    fun e w' => e = .returned (.tuple #[.agg #[.int .i64 (nextNum num m g c), .int .u8 (nextMem num m g c)], .int .i64 (nextBad num m g c)]) ∧ Below w.heap.size w w' := by
  have e2 := u8_and_nat g c h1 h2
  have e3 := u8_and_nat m g h0 h1
  have e5 : IntKind.u8.wrap ((m : Int) - ((m &&& g : Nat) : Int)) = ((m &&& (255 - g) : Nat) : Int) := by
    have := stay_sub ⟨m, h0⟩ ⟨g, h1⟩
    have h3 : m &&& g ≤ m := Nat.and_le_left
    have h4 : m &&& (255 - g) ≤ m := Nat.and_le_left
    simp only [stay] at this
    rw [IntKind.wrap_u8']
    omega
  go_enter Try.func17, Try.ntmps17
  go_wp2_with (go_at_call 15; refine (viewErr_any num m _ (by omega) (by omega)).mono ?_; rintro e w1 ⟨rfl, hb1⟩; obtain ⟨hc1, hf1, hz1⟩ := bcell hb1; simp at hz1)
  · have h : viewErr num m ≠ 0 := by simpa using ‹(viewErr num ↑m != 0) = true›
    have hb : nextBad num m g c = viewErr num m := by simp [nextBad, h]
    rw [nextNum, nextMem, hb, if_neg h, if_neg h]
    exact bodyPost_ret (v := .tuple #[.agg #[.int .i64 0, .int .u8 0], .int .i64 (viewErr num m)]) (by simp [results, Try.results17, go_sem, hc1]) rfl ⟨rfl, by repeat (first | exact Below.refl _ _ | refine Below.setCell ?_ (by simp; try omega) _ | refine Below.alloc ?_ (by simp; try omega) _ | refine pw_drewN ?_ _ | refine Below.trans ?_ (hb1.mono (by simp; try omega)))⟩
  · have h : viewErr num m = 0 := by simpa using ‹(viewErr num ↑m != 0) = false›
    have h3 : (63 < (g : Int) ∨ 63 < (c : Int)) ∨ 0 < g &&& c := by assumption
    have hb : nextBad num m g c = 1 := by rw [nextBad, if_neg (by simpa using h), if_pos (by omega)]
    rw [nextNum, nextMem, hb, if_neg (by decide), if_neg (by decide)]
    exact bodyPost_ret (v := .tuple #[.agg #[.int .i64 0, .int .u8 0], .int .i64 1]) (by simp [results, Try.results17, go_sem, hc1]) rfl ⟨rfl, by repeat (first | exact Below.refl _ _ | refine Below.setCell ?_ (by simp; try omega) _ | refine Below.alloc ?_ (by simp; try omega) _ | refine pw_drewN ?_ _ | refine Below.trans ?_ (hb1.mono (by simp; try omega)))⟩
  · have h : viewErr num m = 0 := by simpa using ‹(viewErr num ↑m != 0) = false›
    have h3 : ((g : Int) ≤ 63 ∧ (c : Int) ≤ 63) ∧ ¬ 0 < g &&& c := by assumption
    have h5 : num = 16777215 := by simpa using ‹(num == 16777215) = true›
    subst h5
    have hb : nextBad 16777215 m g c = 8 := by rw [nextBad, if_neg (by simpa using h), if_neg (by omega), if_pos rfl]
    rw [nextNum, nextMem, hb, if_neg (by decide), if_neg (by decide)]
    exact bodyPost_ret (v := .tuple #[.agg #[.int .i64 0, .int .u8 0], .int .i64 8]) (by simp [results, Try.results17, go_sem, hc1]) rfl ⟨rfl, by repeat (first | exact Below.refl _ _ | refine Below.setCell ?_ (by simp; try omega) _ | refine Below.alloc ?_ (by simp; try omega) _ | refine pw_drewN ?_ _ | refine Below.trans ?_ (hb1.mono (by simp; try omega)))⟩
  · have h : viewErr num m = 0 := by simpa using ‹(viewErr num ↑m != 0) = false›
    have h3 : ((g : Int) ≤ 63 ∧ (c : Int) ≤ 63) ∧ ¬ 0 < g &&& c := by assumption
    have h5 : num ≠ 16777215 := by simpa using ‹(num == 16777215) = false›
    have hs : m &&& (255 - g) < 256 := Nat.lt_of_le_of_lt Nat.and_le_left h0
    have hpn := pc_le (m &&& (255 - g))
    have hpm := pc_le m
    have hnum := viewErr_ok h
    have e4 : bits BinOp.or IntKind.u8 ((m &&& (255 - g) : Nat) : Int) (c : Int) = ((m &&& (255 - g) ||| c : Nat) : Int) := u8_or_nat _ _ hs h2
    have H := Lib.hid h
    clear h
    go_quiet ((go_at_call 103; exact Calls.quiet_of_same ((size_any _ _ (by omega) (by omega)).mono fun _ _ h => ⟨h.1, h.2.symm⟩)))
    go_wp2
    · have h6 : ¬ 2 * pc (stay m g) ≤ pc m := by
        have : (pc m : Int) < 2 * ((pc (m &&& (255 - g)) : Nat) : Int) := by assumption
        unfold stay; omega
      have hb : nextBad num m g c = 0 := by rw [nextBad, if_neg (by simpa using H.out), if_neg (by omega), if_neg h5, if_neg h6]
      rw [nextNum, nextMem, hb, if_pos rfl, if_pos rfl]
      exact bodyPost_ret (v := .tuple #[.agg #[.int .i64 (num + 1), .int .u8 ((stay m g ||| c : Nat) : Int)], .int .i64 0]) (by simp [results, Try.results17, go_sem, hc1, stay]) rfl ⟨rfl, by repeat (first | exact Below.refl _ _ | refine Below.setCell ?_ (by simp; try omega) _ | refine Below.alloc ?_ (by simp; try omega) _ | refine pw_drewN ?_ _ | refine Below.trans ?_ (hb1.mono (by simp; try omega)))⟩
    · have h6 : 2 * pc (stay m g) ≤ pc m := by
        have : 2 * ((pc (m &&& (255 - g)) : Nat) : Int) ≤ (pc m : Int) := by assumption
        unfold stay; omega
      have hb : nextBad num m g c = 11 := by rw [nextBad, if_neg (by simpa using H.out), if_neg (by omega), if_neg h5, if_pos h6]
      rw [nextNum, nextMem, hb, if_neg (by decide), if_neg (by decide)]
      exact bodyPost_ret (v := .tuple #[.agg #[.int .i64 0, .int .u8 0], .int .i64 11]) (by simp [results, Try.results17, go_sem, hc1]) rfl ⟨rfl, by repeat (first | exact Below.refl _ _ | refine Below.setCell ?_ (by simp; try omega) _ | refine Below.alloc ?_ (by simp; try omega) _ | refine pw_drewN ?_ _ | refine Below.trans ?_ (hb1.mono (by simp; try omega)))⟩
  all_goals
    have h : viewErr num m = 0 := by simpa using ‹(viewErr num ↑m != 0) = false›
    have h4 : 63 < g ∨ 63 < c := by omega
    have hb : nextBad num m g c = 1 := by rw [nextBad, if_neg (by simpa using h), if_pos (by omega)]
    rw [nextNum, nextMem, hb, if_neg (by decide), if_neg (by decide)]
    exact bodyPost_ret (v := .tuple #[.agg #[.int .i64 0, .int .u8 0], .int .i64 1]) (by simp [results, Try.results17, go_sem, hc1]) rfl ⟨rfl, by repeat (first | exact Below.refl _ _ | refine Below.setCell ?_ (by simp; try omega) _ | refine Below.alloc ?_ (by simp; try omega) _ | refine pw_drewN ?_ _ | refine Below.trans ?_ (hb1.mono (by simp; try omega)))⟩

def firstOf (num : Int) (m : Nat) : Int := if viewErr num m = 0 then Lib.trailingZeros8 m else 0
set_option maxHeartbeats 2000000 in
theorem first_any (num : Int) (m : Nat) (w : World) (h0 : m < 256) : Calls Try.prog 19 #[.agg #[.int .i64 num, .int .u8 m]] w
    fun e w' => e = .returned (.tuple #[.int .i64 (firstOf num m), .int .i64 (viewErr num m)]) ∧ Below w.heap.size w w' := by
  go_enter Try.func19, Try.ntmps19
  go_wp2_with (first | (go_at_call 20; refine (viewCheck_any num m _ (by omega) (by omega)).mono ?_; rintro e w1 ⟨rfl, hb1⟩; obtain ⟨hc1, hf1, hz1⟩ := bcell hb1; simp at hz1) | (go_at_call 104; refine (tz8 m _ (by omega) (by omega)).mono ?_; rintro e w2 ⟨rfl, rfl⟩))
  · have h : viewErr num m ≠ 0 := by simpa using ‹(viewErr num ↑m != 0) = true›
    rw [firstOf, if_neg h]
    go_ret2
    exact ⟨rfl, by repeat (first | exact Below.refl _ _ | refine Below.setCell ?_ (by simp; try omega) _ | refine Below.alloc ?_ (by simp; try omega) _ | refine pw_drewN ?_ _ | refine Below.trans ?_ (hb1.mono (by simp; try omega)))⟩
  · have h : viewErr num m = 0 := by simpa using ‹(viewErr num ↑m != 0) = false›
    rw [firstOf, if_pos h, h]
    go_ret2
    exact ⟨rfl, by repeat (first | exact Below.refl _ _ | refine Below.setCell ?_ (by simp; try omega) _ | refine Below.alloc ?_ (by simp; try omega) _ | refine pw_drewN ?_ _ | refine Below.trans ?_ (hb1.mono (by simp; try omega)))⟩

def followsB (n1 n2 : Int) (m1 m2 : Nat) : Bool := decide (n2 = n1 + 1) && decide (pc m1 < 2 * pc (m1 &&& m2))

set_option maxHeartbeats 2000000 in
theorem follows_1 (n1 n2 : Int) (m1 m2 : Nat) (w : World) (h0 : m1 < 256) (_h1 : m2 < 256) (hv : (viewErr n1 m1 != 0) = true) :
    Calls Try.prog 18 #[.agg #[.int .i64 n1, .int .u8 m1], .agg #[.int .i64 n2, .int .u8 m2]] w
    fun e w' => e = .returned (.tuple #[.bool false, .int .i64 (viewErr n1 m1)]) ∧ Below w.heap.size w w' := by
  go_enter Try.func18, Try.ntmps18
  go_wp2_with (go_at_call 20; refine (viewCheck_any _ _ _ (by omega) (by omega)).mono ?_; rintro e w1 ⟨rfl, hb1⟩; obtain ⟨hc1, hf1, hz1⟩ := bcell hb1; simp at hz1)
  go_ret2
  exact ⟨rfl, by repeat (first | exact Below.refl _ _ | refine Below.setCell ?_ (by first | omega | (simp; done) | (simp; omega)) _ | refine Below.alloc ?_ (by first | omega | (simp; done) | (simp; omega)) _ | refine pw_drewN ?_ _ | refine Below.trans ?_ (hb1.mono (by first | omega | (simp; done) | (simp; omega))))⟩
set_option maxHeartbeats 2000000 in
theorem follows_2 (n1 n2 : Int) (m1 m2 : Nat) (w : World) (h0 : m1 < 256) (h1 : m2 < 256) (hv : viewErr n1 m1 = 0) (hv2 : (viewErr n2 m2 != 0) = true) :
    Calls Try.prog 18 #[.agg #[.int .i64 n1, .int .u8 m1], .agg #[.int .i64 n2, .int .u8 m2]] w
    fun e w' => e = .returned (.tuple #[.bool false, .int .i64 (viewErr n2 m2)]) ∧ Below w.heap.size w w' := by
  go_enter Try.func18, Try.ntmps18
  go_wp2_with fail
  refine (viewCheck_any n1 m1 _ (by omega) (by omega)).mono ?_; rintro e w1 ⟨rfl, hb1⟩; obtain ⟨hc1, hf1, hz1⟩ := bcell hb1; simp at hz1
  go_wp2_with fail
  refine (viewCheck_any n2 m2 _ (by omega) (by omega)).mono ?_; rintro e w2 ⟨rfl, hb2⟩; obtain ⟨hc2, hf2, hz2⟩ := bcell hb2
  go_wp2
  go_ret2
  exact ⟨rfl, by repeat (first | exact Below.refl _ _ | refine Below.setCell ?_ (by first | omega | (simp; done) | (simp; omega)) _ | refine Below.alloc ?_ (by first | omega | (simp; done) | (simp; omega)) _ | refine pw_drewN ?_ _ | refine Below.trans ?_ (hb2.mono (by first | omega | (simp; done) | (simp; omega))) | refine Below.trans ?_ (hb1.mono (by first | omega | (simp; done) | (simp; omega))))⟩
set_option maxHeartbeats 2000000 in
theorem follows_3 (n1 n2 : Int) (m1 m2 : Nat) (w : World) (h0 : m1 < 256) (h1 : m2 < 256) (hv : viewErr n1 m1 = 0) (hv2 : viewErr n2 m2 = 0) :
    Calls Try.prog 18 #[.agg #[.int .i64 n1, .int .u8 m1], .agg #[.int .i64 n2, .int .u8 m2]] w
    fun e w' => e = .returned (.tuple #[.bool (followsB n1 n2 m1 m2), .int .i64 0]) ∧ Below w.heap.size w w' := by
  have hn1 := viewErr_ok hv
  have hn2 := viewErr_ok hv2
  have ha : m1 &&& m2 < 256 := Nat.lt_of_le_of_lt Nat.and_le_left h0
  have hp1 := pc_le m1
  have hp2 := pc_le (m1 &&& m2)
  have e1 := u8_and_nat m1 m2 h0 h1
  by_cases hn : n2 = n1 + 1
  · subst hn
    go_enter Try.func18, Try.ntmps18
    go_wp2_with fail
    refine (viewCheck_any _ m1 _ (by omega) (by omega)).mono ?_; rintro e w1 ⟨rfl, hb1⟩; obtain ⟨hc1, hf1, hz1⟩ := bcell hb1; simp at hz1
    go_wp2_with fail
    refine (viewCheck_any _ m2 _ (by omega) (by omega)).mono ?_; rintro e w2 ⟨rfl, hb2⟩; obtain ⟨hc2, hf2, hz2⟩ := bcell hb2
    have k0 : w2.cell? ⟨w.heap.size, 0, none⟩ = some (.int .i64 n1) := by rw [hc2 _ _ (by omega), hc1 _ _ (by simp; try omega)]; simp
    have k1 : w2.cell? ⟨w.heap.size, 1, none⟩ = some (.int .u8 m1) := by rw [hc2 _ _ (by omega), hc1 _ _ (by simp; try omega)]; simp
    have k2 : w2.cell? ⟨w.heap.size + 1, 0, none⟩ = some (.int .i64 (n1 + 1)) := by rw [hc2 _ _ (by omega), hc1 _ _ (by simp; try omega)]; simp
    have k3 : w2.cell? ⟨w.heap.size + 1, 1, none⟩ = some (.int .u8 m2) := by rw [hc2 _ _ (by omega), hc1 _ _ (by simp; try omega)]; simp
    clear hc1 hc2 hf1 hf2
    go_wp2
    go_quiet ((go_at_call 102; exact Calls.quiet_of_same ((oc8 _ _ (by omega) (by omega)).mono fun _ _ h => ⟨h.1, h.2.symm⟩)))
    go_wp2
    go_ret2
    exact ⟨by simp [followsB]; omega, by repeat (first | exact Below.refl _ _ | refine Below.setCell ?_ (by first | omega | (simp; done) | (simp; omega)) _ | refine Below.alloc ?_ (by first | omega | (simp; done) | (simp; omega)) _ | refine pw_drewN ?_ _ | refine Below.trans ?_ (hb2.mono (by first | omega | (simp; done) | (simp; omega))) | refine Below.trans ?_ (hb1.mono (by first | omega | (simp; done) | (simp; omega))))⟩
  · have hd : (n2 == n1 + 1) = false := by simpa using hn
    clear hn
    go_enter Try.func18, Try.ntmps18
    go_wp2_with fail
    refine (viewCheck_any _ m1 _ (by omega) (by omega)).mono ?_; rintro e w1 ⟨rfl, hb1⟩; obtain ⟨hc1, hf1, hz1⟩ := bcell hb1; simp at hz1
    go_wp2_with fail
    refine (viewCheck_any _ m2 _ (by omega) (by omega)).mono ?_; rintro e w2 ⟨rfl, hb2⟩; obtain ⟨hc2, hf2, hz2⟩ := bcell hb2
    have k0 : w2.cell? ⟨w.heap.size, 0, none⟩ = some (.int .i64 n1) := by rw [hc2 _ _ (by omega), hc1 _ _ (by simp; try omega)]; simp
    have k1 : w2.cell? ⟨w.heap.size, 1, none⟩ = some (.int .u8 m1) := by rw [hc2 _ _ (by omega), hc1 _ _ (by simp; try omega)]; simp
    have k2 : w2.cell? ⟨w.heap.size + 1, 0, none⟩ = some (.int .i64 n2) := by rw [hc2 _ _ (by omega), hc1 _ _ (by simp; try omega)]; simp
    have k3 : w2.cell? ⟨w.heap.size + 1, 1, none⟩ = some (.int .u8 m2) := by rw [hc2 _ _ (by omega), hc1 _ _ (by simp; try omega)]; simp
    clear hc1 hc2 hf1 hf2
    go_wp2
    go_quiet (fail)
    go_wp2
    go_ret2
    exact ⟨by have hd' : n2 ≠ n1 + 1 := by simpa using hd
              simp [followsB, hd'], by repeat (first | exact Below.refl _ _ | refine Below.setCell ?_ (by first | omega | (simp; done) | (simp; omega)) _ | refine Below.alloc ?_ (by first | omega | (simp; done) | (simp; omega)) _ | refine pw_drewN ?_ _ | refine Below.trans ?_ (hb2.mono (by first | omega | (simp; done) | (simp; omega))) | refine Below.trans ?_ (hb1.mono (by first | omega | (simp; done) | (simp; omega))))⟩

def followsE (n1 n2 : Int) (m1 m2 : Nat) : Int := if viewErr n1 m1 = 0 then viewErr n2 m2 else viewErr n1 m1
def followsR (n1 n2 : Int) (m1 m2 : Nat) : Bool := decide (viewErr n1 m1 = 0) && (decide (viewErr n2 m2 = 0) && followsB n1 n2 m1 m2)
theorem follows_any (n1 n2 : Int) (m1 m2 : Nat) (w : World) (h0 : m1 < 256) (h1 : m2 < 256) :
    Calls Try.prog 18 #[.agg #[.int .i64 n1, .int .u8 m1], .agg #[.int .i64 n2, .int .u8 m2]] w
    fun e w' => e = .returned (.tuple #[.bool (followsR n1 n2 m1 m2), .int .i64 (followsE n1 n2 m1 m2)]) ∧ Below w.heap.size w w' := by
  by_cases a : viewErr n1 m1 = 0
  · by_cases b : viewErr n2 m2 = 0
    · rw [followsR, followsE, if_pos a, b]
      simpa [a, b] using follows_3 n1 n2 m1 m2 w h0 h1 a b
    · rw [followsR, followsE, if_pos a]
      simpa [a, b] using follows_2 n1 n2 m1 m2 w h0 h1 a (by simpa using b)
  · rw [followsR, followsE, if_neg a]
    simpa [a] using follows_1 n1 n2 m1 m2 w h0 h1 (by simpa using a)
attribute [irreducible] followsE followsR firstOf nextBad nextNum nextMem

end Go.Proofs.Ytdeockoaalpcjaa
