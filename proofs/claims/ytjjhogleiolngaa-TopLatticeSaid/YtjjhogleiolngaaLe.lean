/- LatDowns: bits of sets, slices of uint16, lat.Downs. -/
import Derived.Test.YtjjhogleiolngaaLd
namespace Go.Proofs.Ytjjhogleiolngaa
set_option linter.unusedSimpArgs false
set_option linter.unusedVariables false
open Go.RowKit
attribute [local irreducible] AWP ACalls Wk GcTo
attribute [local simp] tab3 ti3 tab4 ti4 tab29 ti29 tab36 ti36 tab62 ti62 tab38 ti38 tab40 ti40 tab44 ti44 tab140 ti140
open Po Cl
theorem wrap_u16 {n : Nat} (h : n < 65536) : IntKind.u16.wrap (n : Int) = n := by
  simp only [IntKind.wrap, IntKind.signed, IntKind.bits]; simp; omega
theorem shr_nat (k : IntKind) (a b : Nat) (h : b ≤ k.bits) : shrOf k a b = ((a / 2 ^ b : Nat) : Int) := by
  unfold shrOf
  rw [Int.toNat_natCast, Nat.min_eq_left h]
  rw [Int.fdiv_eq_ediv_of_nonneg _ (by exact Int.le_of_lt (Int.pow_pos (by decide)))]
  simp
theorem shl_i64 {b : Nat} (h : b ≤ 60) : shlOf .i64 1 b = ((2 ^ b : Nat) : Int) := by
  unfold shlOf
  rw [Int.toNat_natCast, Nat.min_eq_left (show b ≤ IntKind.i64.bits by show b ≤ 64; omega), Int.one_mul]
  have h1 : 2 ^ b ≤ 2 ^ 60 := Nat.pow_le_pow_right (by decide) h
  have : ((2 : Int) ^ b) = ((2 ^ b : Nat) : Int) := by push_cast; rfl
  rw [this]
  have e60 : (2 : Nat) ^ 60 = 1152921504606846976 := rfl
  generalize 2 ^ b = z at *
  exact wrap_in _ (by omega) (by omega)
theorem shl_u16 {b : Nat} (h : b ≤ 15) : shlOf .u16 1 b = ((2 ^ b : Nat) : Int) := by
  unfold shlOf
  rw [Int.toNat_natCast, Nat.min_eq_left (show b ≤ IntKind.u16.bits by show b ≤ 16; omega), Int.one_mul]
  have h1 : 2 ^ b ≤ 2 ^ 15 := Nat.pow_le_pow_right (by decide) h
  have : ((2 : Int) ^ b) = ((2 ^ b : Nat) : Int) := by push_cast; rfl
  rw [this]
  have e15 : (2 : Nat) ^ 15 = 32768 := rfl
  generalize 2 ^ b = z at *
  exact wrap_u16 (by omega)
theorem u16_or {a b : Nat} (ha : a < 2 ^ 16) (hb : b < 2 ^ 16) : bitsOf .u16 .or a b = ((a ||| b : Nat) : Int) := by
  have hx := Nat.or_lt_two_pow ha hb
  simp only [bitsOf, BitVec.ofInt_natCast, BitVec.toNat_or, BitVec.toNat_ofNat]
  show IntKind.u16.wrap (((a % 2 ^ 16) ||| (b % 2 ^ 16) : Nat)) = _
  rw [Nat.mod_eq_of_lt ha, Nat.mod_eq_of_lt hb, wrap_u16 (by omega)]
theorem u16_and {a b : Nat} (ha : a < 2 ^ 16) (hb : b < 2 ^ 16) : bitsOf .u16 .and a b = ((a &&& b : Nat) : Int) := by
  have hx := Nat.and_lt_two_pow a hb
  simp only [bitsOf, BitVec.ofInt_natCast, BitVec.toNat_and, BitVec.toNat_ofNat]
  show IntKind.u16.wrap (((a % 2 ^ 16) &&& (b % 2 ^ 16) : Nat)) = _
  rw [Nat.mod_eq_of_lt ha, Nat.mod_eq_of_lt hb, wrap_u16 (by omega)]
theorem i64_and1 {a : Nat} (ha : a < 2 ^ 62) : bitsOf .i64 .and a 1 = ((a % 2 : Nat) : Int) := by
  simp only [bitsOf, BitVec.ofInt_natCast]
  show IntKind.i64.wrap ((BitVec.ofNat 64 a &&& 1#64).toNat : Int) = _
  rw [BitVec.toNat_and, BitVec.toNat_ofNat, BitVec.toNat_ofNat, Nat.mod_eq_of_lt (by omega), show 1 % 2 ^ 64 = 1 from rfl, Nat.and_one_is_mod, wrap_in _ (by omega) (by omega)]
theorem bit_cases (s k : Nat) : (s / 2 ^ k % 2 = 0 ∧ s.testBit k = false) ∨ (s / 2 ^ k % 2 = 1 ∧ s.testBit k = true) := by
  rw [Nat.testBit_eq_decide_div_mod_eq]
  have := Nat.mod_two_eq_zero_or_one (s / 2 ^ k)
  rcases this with h | h
  · exact .inl ⟨h, by rw [h]; rfl⟩
  · exact .inr ⟨h, by rw [h]; rfl⟩
def fnU (n : Nat) (f : Nat → Nat) : List Sc := (List.range n).map fun j => .int .u16 (f j : Nat)
section
variable {n : Nat} (f : Nat → Nat)
@[simp] theorem fnU_len : (fnU n f).length = n := by simp [fnU]
theorem fnU_at {i : Nat} (h : i < n) : (fnU n f)[i]? = some (.int .u16 (f i : Nat)) := by simp [fnU, h]
@[simp] theorem fnU_ren (m : Nat → Nat) : (fnU n f).map (renS m) = fnU n f := by unfold fnU; rw [List.map_map]; rfl
theorem fnU_set {i : Nat} (h : i < n) (x : Nat) : (fnU n f).set i (.int .u16 x) = fnU n (fun j => if j = i then x else f j) := by
  apply List.ext_getElem?
  intro q
  rw [List.getElem?_set]
  by_cases hq : q < n
  · rw [fnU_at _ hq, fnU_at _ hq]
    by_cases e : i = q
    · subst e; simp [h]
    · rw [if_neg e, if_neg (fun e' => e e'.symm)]
  · rw [List.getElem?_eq_none (l := fnU n _) (by simp; omega), List.getElem?_eq_none (by simp; omega), if_neg (by omega)]
end
def u16e (s : Nat) : List Sc := [.int .u16 (s : Nat)]
theorem ulen (s : Nat) : (u16e s).length = 1 := rfl
theorem uren (f : Nat → Nat) (s : Nat) : (u16e s).map (renS f) = u16e s := rfl
abbrev USl (H : List Blk) (a : Sc) (xs : List Nat) : Prop := GSl 1 u16e H a xs
set_option maxRecDepth 100000 in
theorem equalU16 {H : List Blk} {a b : Sc} {xs : List Nat} {Q : AV → List Blk → Prop} (ha : USl H a xs) (hb : USl H b xs) (hn : xs.length < 1000000000)
    (q : Q (.c (.sc (.bool true))) H) : ACalls Try.prog 26 [.sc a, .sc b] H Q := by
  refine acalls_of tabOk Try.func26 (by kernel_rfl) rfl (by kernel_rfl) ?_
  have la := ha.len (i := ti40) (e := 44) rfl
  have lb := hb.len (i := ti40) (e := 44) rfl
  simp only [ti40] at la lb
  (repeat' (first | refine awp_seq ?_ | (refine awp_region tabOk ?_; simp [-lenC, la, lb]) | (refine awp_if ?_; simp [-lenC, la, lb]) | refine awp_block ?_ | refine And.intro ?_ ?_ | intro _ | (refine awp_skip ?_; simp [-lenC, la, lb]) | (refine awp_ret ?_; simp [-lenC, la, lb]) | (refine awp_exit ?_; simp [-lenC, la, lb])))
  refine awp_loop_at (α := {i : Nat // i ≤ xs.length}) (fun i => [(0, .c (.sc a)), (1, .c (.sc b)), (12, .c (.sc (.int .i64 xs.length))), (13, .c (.sc (.int .i64 i.1)))]) (fun _ => H) (fun i => xs.length - i.1) ⟨0, by omega⟩ (wk_tl (by simp)) ?_
  rintro ⟨i, hi⟩
  by_cases hlt : i < xs.length
  · obtain ⟨id, off, cap, cs, rfl, hcap, hc, hx⟩ := GSl.at ulen ha hlt
    obtain ⟨id', off', cap', cs', rfl, hcap', hc', hx'⟩ := GSl.at ulen hb hlt
    have wr := wrapS i (by omega)
    obtain ⟨r1, r2⟩ := hx i _ (List.getElem?_eq_getElem hlt)
    obtain ⟨r1', r2'⟩ := hx' i _ (List.getElem?_eq_getElem hlt)
    rw [Nat.mul_one] at r1 r1' r2 r2'
    have z1 : cs[off + i]? = some (.int .u16 (xs[i] : Nat)) := by
      have : ((cs.drop (off + i)).take 1)[0]? = some (.int .u16 (xs[i] : Nat)) := by rw [r1]; rfl
      rw [List.getElem?_take_of_lt (by omega), List.getElem?_drop] at this
      exact this
    have z2 : cs'[off' + i]? = some (.int .u16 (xs[i] : Nat)) := by
      have : ((cs'.drop (off' + i)).take 1)[0]? = some (.int .u16 (xs[i] : Nat)) := by rw [r1']; rfl
      rw [List.getElem?_take_of_lt (by omega), List.getElem?_drop] at this
      exact this
    obtain ⟨_, z1'⟩ := List.getElem?_eq_some_iff.1 z1
    obtain ⟨_, z2'⟩ := List.getElem?_eq_some_iff.1 z2
    (repeat' (first | refine awp_seq ?_ | (refine awp_region tabOk ?_; simp [hlt]) | (refine awp_if ?_; simp [hlt]) | refine awp_block ?_ | refine And.intro ?_ ?_ | intro _ | (refine awp_skip ?_; simp [hlt]) | (refine awp_ret ?_; simp [hlt]) | (refine awp_exit ?_; simp [hlt])))
    refine awp_draw tabOk mixed [] (by kernel_rfl) ?_
    simp [hlt, hc, hc', z1, z2, z1', z2', r2, r2']
    (repeat' (first | refine awp_seq ?_ | (refine awp_region tabOk ?_; simp [wr]) | (refine awp_if ?_; simp [wr]) | refine awp_block ?_ | refine And.intro ?_ ?_ | intro _ | (refine awp_skip ?_; simp [wr]) | (refine awp_ret ?_; simp [wr]) | (refine awp_exit ?_; simp [wr])))
    exact ⟨i + 1, by omega, by omega, wk_tl (by simp [wr])⟩
  · obtain rfl : i = xs.length := by omega
    (repeat' (first | refine awp_seq ?_ | (refine awp_region tabOk ?_; simp [hlt]) | (refine awp_if ?_; simp [hlt]) | refine awp_block ?_ | refine And.intro ?_ ?_ | intro _ | (refine awp_skip ?_; simp [hlt]) | (refine awp_ret ?_; simp [hlt]) | (refine awp_exit ?_; simp [hlt])))
    exact ⟨H, _, GcTo.refl (Nat.le_refl _), q⟩
end Go.Proofs.Ytjjhogleiolngaa
