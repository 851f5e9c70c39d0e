/- WireSays: wire.put, wire.get, slices.Grow, slices.Concat over ints. -/
import Derived.Test.YtdeockoaalpcjaaWc
namespace Go.Proofs.Ytdeockoaalpcjaa
set_option linter.unusedSimpArgs false
set_option linter.unusedVariables false
open Go.RowKit
attribute [local irreducible] AWP ACalls Wk GcTo
attribute [local simp] tab3 ti3 tab9 ti9 tab5 ti5 tab81 ti81 tab191 ti191 tab24 ti24 tab187 ti187 tab25 ti25
open Wi
theorem gapS {H L : List Blk} {id : Nat} {b : Blk} (k : Nat) : (H.set id b ++ L)[H.length + k]? = L[k]? := by
  have := gap (H := H.set id b) (L := L) k
  rwa [List.length_set] at this
theorem gapS0 {H L : List Blk} {id : Nat} {b : Blk} : (H.set id b ++ L)[H.length]? = L[0]? := by
  have := gap0 (H := H.set id b) (L := L)
  rwa [List.length_set] at this
theorem sapS {H L : List Blk} {id : Nat} {b : Blk} (k : Nat) (c : Blk) : (H.set id b ++ L).set (H.length + k) c = H.set id b ++ L.set k c := by
  have := sap (H := H.set id b) (L := L) k c
  rwa [List.length_set] at this
theorem sapS0 {H L : List Blk} {id : Nat} {b : Blk} (c : Blk) : (H.set id b ++ L).set H.length c = H.set id b ++ L.set 0 c := by
  have := sap0 (H := H.set id b) (L := L) c
  rwa [List.length_set] at this
theorem wk_tlH {N : Nat} {H0 H H' : List Blk} {T : Nat → AV} {l : List (Nat × AV)} (hH : H = H') (h : tlOk T l) : Wk N H0 T H (tl l) H' := by subst hH; exact wk_tl h
theorem setlow {H L : List Blk} {id : Nat} {b : Blk} (h : id < H.length) : (H ++ L).set id b = H.set id b ++ L := List.set_append_left _ _ h
namespace Wi
def bytesC (l : List UInt8) : List Sc := l.map fun b => .int .u8 b.toNat
@[simp] theorem bytesC_len (l : List UInt8) : (bytesC l).length = l.length := by simp [bytesC]
theorem bytesC_app (a b : List UInt8) : bytesC (a ++ b) = bytesC a ++ bytesC b := by simp [bytesC]
theorem bytesC_u8 (l : List UInt8) : (bytesC l).all isU8 = true := by
  simp only [bytesC, List.all_map, List.all_eq_true]
  intro b _
  have := b.toNat_lt
  simp [isU8]; omega
theorem bytesC_to (l : List UInt8) : (bytesC l).map toU8 = l := by
  simp only [bytesC, List.map_map]
  conv => rhs; rw [← List.map_id l]
  refine List.map_congr_left fun b _ => ?_
  simp [toU8, Sc.toI]
@[simp] theorem bytesC_ren (m : Nat → Nat) (l : List UInt8) : (bytesC l).map (renS m) = bytesC l := ren_plain (by simp [bytesC, plainS])
theorem bytesC_one (n : Nat) : [Sc.int .u8 ((n % 256 : Nat) : Int)] = bytesC [UInt8.ofNat n] := by simp [bytesC]
/-- A number's lowest bytes. -/
def le : Nat → Nat → List UInt8
  | 0, _ => []
  | k + 1, n => UInt8.ofNat n :: le k (n / 256)
@[simp] theorem le_len : ∀ k n, (le k n).length = k
  | 0, _ => rfl
  | k + 1, n => by simp [le, le_len k]
/-- Bytes as a number. -/
def leN : List Nat → Nat
  | [] => 0
  | b :: r => b + 256 * leN r
theorem leN_lt : ∀ {l : List Nat}, (∀ b ∈ l, b < 256) → leN l < 256 ^ l.length
  | [], _ => by simp [leN]
  | b :: r, h => by
    have := leN_lt (l := r) fun x hx => h x (by simp [hx])
    have := h b (by simp)
    simp only [leN, List.length_cons, Nat.pow_succ]; omega
theorem i64_or {a b : Nat} (ha : a < 2 ^ 48) (hb : b < 256) : bitsOf .i64 .or ((a * 256 : Nat) : Int) b = ((b + 256 * a : Nat) : Int) := by
  have e : a * 256 ||| b = b + 256 * a := by
    have := Nat.shiftLeft_add_eq_or_of_lt (i := 8) hb a
    rw [Nat.shiftLeft_eq] at this
    rw [show (2 : Nat) ^ 8 = 256 from rfl] at this
    rw [← this]; omega
  simp only [bitsOf, BitVec.ofInt_natCast, BitVec.toNat_or, BitVec.toNat_ofNat]
  show IntKind.i64.wrap (((a * 256 % 2 ^ 64) ||| (b % 2 ^ 64) : Nat)) = _
  rw [Nat.mod_eq_of_lt (by omega), Nat.mod_eq_of_lt (by omega), e, wrap_in _ (by omega) (by omega)]
end Wi
set_option maxRecDepth 100000 in
theorem wirePut3 {H : List Blk} {id m n : Nat} {l : List UInt8} {Q : AV → List Blk → Prop} (hH : H[id]? = some (.own (bytesC l))) (hm : m = l.length) (hl : m < 1000000) (hn : n < 4294967296)
    (q : Q (.c (.sc (.sl (H.length + 5) 0 1 (m + 3) (m + 3)))) (H.set id .dead ++ [.own (bytesC [UInt8.ofNat n]), .dead, .own (bytesC [UInt8.ofNat (n / 256)]), .dead, .own (bytesC [UInt8.ofNat (n / 256 / 256)]), .own (bytesC (l ++ le 3 n))])) :
    ACalls Try.prog 111 [.sc (.sl id 0 1 m m), .sc (.int .u32 n), .sc (.int .i64 3)] H Q := by
  subst hm
  refine acalls_of tabOk Try.func111 (by kernel_rfl) rfl (by kernel_rfl) ?_
  have hid : id < H.length := (List.getElem?_eq_some_iff.1 hH).1
  have hHL := fun L => low_of hH L
  have tk : ∀ x : List UInt8, (bytesC x).take x.length = bytesC x := fun x => List.take_of_length_le (by simp)
  have u8 := fun k : Nat => wrap_u8 k
  have sh : ∀ k : Nat, shrOf .u32 k 8 = ((k / 256 : Nat) : Int) := fun k => shr_at .u32 k 8 (by decide)
  (repeat' (first | refine awp_seq ?_ | (refine awp_region tabOk ?_; simp) | (refine awp_if ?_; simp) | refine awp_block ?_ | refine And.intro ?_ ?_ | intro _ | (refine awp_skip ?_; simp) | (refine awp_ret ?_; simp) | (refine awp_exit ?_; simp)))
  refine awp_loop_at (α := {i : Nat // i ≤ 3}) (fun i => match i.1 with
      | 0 => [(0, .c (.sc (.sl id 0 1 l.length l.length))), (1, .c (.sc (.int .u32 n))), (7, .c (.sc (.int .i64 3))), (8, .c (.sc (.int .i64 0)))]
      | 1 => [(0, .c (.sc (.sl (H.length + 1) 0 1 (l.length + 1) (l.length + 1)))), (1, .c (.sc (.int .u32 (n / 256 : Nat)))), (7, .c (.sc (.int .i64 3))), (8, .c (.sc (.int .i64 1)))]
      | 2 => [(0, .c (.sc (.sl (H.length + 3) 0 1 (l.length + 2) (l.length + 2)))), (1, .c (.sc (.int .u32 (n / 256 / 256 : Nat)))), (7, .c (.sc (.int .i64 3))), (8, .c (.sc (.int .i64 2)))]
      | _ => [(0, .c (.sc (.sl (H.length + 5) 0 1 (l.length + 3) (l.length + 3)))), (7, .c (.sc (.int .i64 3))), (8, .c (.sc (.int .i64 3)))])
    (fun i => match i.1 with
      | 0 => H
      | 1 => H.set id .dead ++ [.own (bytesC [UInt8.ofNat n]), .own (bytesC (l ++ le 1 n))]
      | 2 => H.set id .dead ++ [.own (bytesC [UInt8.ofNat n]), .dead, .own (bytesC [UInt8.ofNat (n / 256)]), .own (bytesC (l ++ le 2 n))]
      | _ => H.set id .dead ++ [.own (bytesC [UInt8.ofNat n]), .dead, .own (bytesC [UInt8.ofNat (n / 256)]), .dead, .own (bytesC [UInt8.ofNat (n / 256 / 256)]), .own (bytesC (l ++ le 3 n))]) (fun i => 3 - i.1) ⟨0, by omega⟩ (by exact wk_tl (by simp)) ?_
  rintro ⟨i, hi⟩
  have w1 : IntKind.i64.wrap 1 = 1 := wrap_in _ (by omega) (by omega)
  have w2 : IntKind.i64.wrap 2 = 2 := wrap_in _ (by omega) (by omega)
  have w3 : IntKind.i64.wrap 3 = 3 := wrap_in _ (by omega) (by omega)
  have u1 : IntKind.u8.wrap ((n : Int) / 256) = (n : Int) / 256 % 256 := by have := wrap_u8 (n / 256); simpa using this
  have u2 : IntKind.u8.wrap ((n : Int) / 256 / 256) = (n : Int) / 256 / 256 % 256 := by have := wrap_u8 (n / 256 / 256); simpa using this
  have s1 : shrOf .u32 ((n : Int) / 256) 8 = (n : Int) / 256 / 256 := by have := sh (n / 256); simpa using this
  match i, hi with
  | 0, _ =>
    have hd := u8 n
    (repeat' (first | refine awp_seq ?_ | (refine awp_region tabOk ?_; simp [u8, hH, hHL, setlow hid, tk, maxLen, sh]) | (refine awp_if ?_; simp [u8, hH, hHL, setlow hid, tk, maxLen, sh]) | refine awp_block ?_ | refine And.intro ?_ ?_ | intro _ | (refine awp_skip ?_; simp [u8, hH, hHL, setlow hid, tk, maxLen, sh]) | (refine awp_ret ?_; simp [u8, hH, hHL, setlow hid, tk, maxLen, sh]) | (refine awp_exit ?_; simp [u8, hH, hHL, setlow hid, tk, maxLen, sh])))
    · omega
    · omega
    exact ⟨1, by omega, by omega, wk_tlH (by simp [bytesC, le]) (by simp [w1])⟩
  | 1, _ =>
    have t1 : (bytesC (l ++ le 1 n)).take (l.length + 1) = bytesC (l ++ le 1 n) := List.take_of_length_le (by simp)
    (repeat' (first | refine awp_seq ?_ | (refine awp_region tabOk ?_; simp [u8, gapS, gapS0, sapS, sapS0, t1, maxLen, sh]) | (refine awp_if ?_; simp [u8, gapS, gapS0, sapS, sapS0, t1, maxLen, sh]) | refine awp_block ?_ | refine And.intro ?_ ?_ | intro _ | (refine awp_skip ?_; simp [u8, gapS, gapS0, sapS, sapS0, t1, maxLen, sh]) | (refine awp_ret ?_; simp [u8, gapS, gapS0, sapS, sapS0, t1, maxLen, sh]) | (refine awp_exit ?_; simp [u8, gapS, gapS0, sapS, sapS0, t1, maxLen, sh])))
    · omega
    · omega
    exact ⟨2, by omega, by omega, wk_tlH (by simp [bytesC, le, u1]) (by simp [w2, s1])⟩
  | 2, _ =>
    have t1 : (bytesC (l ++ le 2 n)).take (l.length + 2) = bytesC (l ++ le 2 n) := List.take_of_length_le (by simp)
    (repeat' (first | refine awp_seq ?_ | (refine awp_region tabOk ?_; simp [u8, gapS, gapS0, sapS, sapS0, t1, maxLen, sh]) | (refine awp_if ?_; simp [u8, gapS, gapS0, sapS, sapS0, t1, maxLen, sh]) | refine awp_block ?_ | refine And.intro ?_ ?_ | intro _ | (refine awp_skip ?_; simp [u8, gapS, gapS0, sapS, sapS0, t1, maxLen, sh]) | (refine awp_ret ?_; simp [u8, gapS, gapS0, sapS, sapS0, t1, maxLen, sh]) | (refine awp_exit ?_; simp [u8, gapS, gapS0, sapS, sapS0, t1, maxLen, sh])))
    · omega
    · omega
    exact ⟨3, by omega, by omega, wk_tlH (by simp [bytesC, le, u2]) (by simp [w3])⟩
  | 3, _ =>
    (repeat' (first | refine awp_seq ?_ | (refine awp_region tabOk ?_; simp) | (refine awp_if ?_; simp) | refine awp_block ?_ | refine And.intro ?_ ?_ | intro _ | (refine awp_skip ?_; simp) | (refine awp_ret ?_; simp) | (refine awp_exit ?_; simp)))
    exact ⟨_, _, GcTo.refl (by simp), q⟩
set_option maxRecDepth 100000 in
theorem wirePut4 {H : List Blk} {id m n : Nat} {l : List UInt8} {Q : AV → List Blk → Prop} (hH : H[id]? = some (.own (bytesC l))) (hm : m = l.length) (hl : m < 1000000) (hn : n < 4294967296)
    (q : Q (.c (.sc (.sl (H.length + 7) 0 1 (m + 4) (m + 4)))) (H.set id .dead ++ [.own (bytesC [UInt8.ofNat n]), .dead, .own (bytesC [UInt8.ofNat (n / 256)]), .dead, .own (bytesC [UInt8.ofNat (n / 256 / 256)]), .dead, .own (bytesC [UInt8.ofNat (n / 256 / 256 / 256)]), .own (bytesC (l ++ le 4 n))])) :
    ACalls Try.prog 111 [.sc (.sl id 0 1 m m), .sc (.int .u32 n), .sc (.int .i64 4)] H Q := by
  subst hm
  refine acalls_of tabOk Try.func111 (by kernel_rfl) rfl (by kernel_rfl) ?_
  have hid : id < H.length := (List.getElem?_eq_some_iff.1 hH).1
  have hHL := fun L => low_of hH L
  have tk : ∀ x : List UInt8, (bytesC x).take x.length = bytesC x := fun x => List.take_of_length_le (by simp)
  have u8 := fun k : Nat => wrap_u8 k
  have sh : ∀ k : Nat, shrOf .u32 k 8 = ((k / 256 : Nat) : Int) := fun k => shr_at .u32 k 8 (by decide)
  (repeat' (first | refine awp_seq ?_ | (refine awp_region tabOk ?_; simp) | (refine awp_if ?_; simp) | refine awp_block ?_ | refine And.intro ?_ ?_ | intro _ | (refine awp_skip ?_; simp) | (refine awp_ret ?_; simp) | (refine awp_exit ?_; simp)))
  refine awp_loop_at (α := {i : Nat // i ≤ 4}) (fun i => match i.1 with
      | 0 => [(0, .c (.sc (.sl id 0 1 l.length l.length))), (1, .c (.sc (.int .u32 n))), (7, .c (.sc (.int .i64 4))), (8, .c (.sc (.int .i64 0)))]
      | 1 => [(0, .c (.sc (.sl (H.length + 1) 0 1 (l.length + 1) (l.length + 1)))), (1, .c (.sc (.int .u32 (n / 256 : Nat)))), (7, .c (.sc (.int .i64 4))), (8, .c (.sc (.int .i64 1)))]
      | 2 => [(0, .c (.sc (.sl (H.length + 3) 0 1 (l.length + 2) (l.length + 2)))), (1, .c (.sc (.int .u32 (n / 256 / 256 : Nat)))), (7, .c (.sc (.int .i64 4))), (8, .c (.sc (.int .i64 2)))]
      | 3 => [(0, .c (.sc (.sl (H.length + 5) 0 1 (l.length + 3) (l.length + 3)))), (1, .c (.sc (.int .u32 (n / 256 / 256 / 256 : Nat)))), (7, .c (.sc (.int .i64 4))), (8, .c (.sc (.int .i64 3)))]
      | _ => [(0, .c (.sc (.sl (H.length + 7) 0 1 (l.length + 4) (l.length + 4)))), (7, .c (.sc (.int .i64 4))), (8, .c (.sc (.int .i64 4)))])
    (fun i => match i.1 with
      | 0 => H
      | 1 => H.set id .dead ++ [.own (bytesC [UInt8.ofNat n]), .own (bytesC (l ++ le 1 n))]
      | 2 => H.set id .dead ++ [.own (bytesC [UInt8.ofNat n]), .dead, .own (bytesC [UInt8.ofNat (n / 256)]), .own (bytesC (l ++ le 2 n))]
      | 3 => H.set id .dead ++ [.own (bytesC [UInt8.ofNat n]), .dead, .own (bytesC [UInt8.ofNat (n / 256)]), .dead, .own (bytesC [UInt8.ofNat (n / 256 / 256)]), .own (bytesC (l ++ le 3 n))]
      | _ => H.set id .dead ++ [.own (bytesC [UInt8.ofNat n]), .dead, .own (bytesC [UInt8.ofNat (n / 256)]), .dead, .own (bytesC [UInt8.ofNat (n / 256 / 256)]), .dead, .own (bytesC [UInt8.ofNat (n / 256 / 256 / 256)]), .own (bytesC (l ++ le 4 n))]) (fun i => 4 - i.1) ⟨0, by omega⟩ (by exact wk_tl (by simp)) ?_
  rintro ⟨i, hi⟩
  have w1 : IntKind.i64.wrap 1 = 1 := wrap_in _ (by omega) (by omega)
  have w2 : IntKind.i64.wrap 2 = 2 := wrap_in _ (by omega) (by omega)
  have w3 : IntKind.i64.wrap 3 = 3 := wrap_in _ (by omega) (by omega)
  have w4 : IntKind.i64.wrap 4 = 4 := wrap_in _ (by omega) (by omega)
  have u3 : IntKind.u8.wrap ((n : Int) / 256 / 256 / 256) = (n : Int) / 256 / 256 / 256 % 256 := by have := wrap_u8 (n / 256 / 256 / 256); simpa using this
  have s2 : shrOf .u32 ((n : Int) / 256 / 256) 8 = (n : Int) / 256 / 256 / 256 := by have := sh (n / 256 / 256); simpa using this
  have u1 : IntKind.u8.wrap ((n : Int) / 256) = (n : Int) / 256 % 256 := by have := wrap_u8 (n / 256); simpa using this
  have u2 : IntKind.u8.wrap ((n : Int) / 256 / 256) = (n : Int) / 256 / 256 % 256 := by have := wrap_u8 (n / 256 / 256); simpa using this
  have s1 : shrOf .u32 ((n : Int) / 256) 8 = (n : Int) / 256 / 256 := by have := sh (n / 256); simpa using this
  match i, hi with
  | 0, _ =>
    have hd := u8 n
    (repeat' (first | refine awp_seq ?_ | (refine awp_region tabOk ?_; simp [u8, hH, hHL, setlow hid, tk, maxLen, sh]) | (refine awp_if ?_; simp [u8, hH, hHL, setlow hid, tk, maxLen, sh]) | refine awp_block ?_ | refine And.intro ?_ ?_ | intro _ | (refine awp_skip ?_; simp [u8, hH, hHL, setlow hid, tk, maxLen, sh]) | (refine awp_ret ?_; simp [u8, hH, hHL, setlow hid, tk, maxLen, sh]) | (refine awp_exit ?_; simp [u8, hH, hHL, setlow hid, tk, maxLen, sh])))
    · omega
    · omega
    exact ⟨1, by omega, by omega, wk_tlH (by simp [bytesC, le]) (by simp [w1])⟩
  | 1, _ =>
    have t1 : (bytesC (l ++ le 1 n)).take (l.length + 1) = bytesC (l ++ le 1 n) := List.take_of_length_le (by simp)
    (repeat' (first | refine awp_seq ?_ | (refine awp_region tabOk ?_; simp [u8, gapS, gapS0, sapS, sapS0, t1, maxLen, sh]) | (refine awp_if ?_; simp [u8, gapS, gapS0, sapS, sapS0, t1, maxLen, sh]) | refine awp_block ?_ | refine And.intro ?_ ?_ | intro _ | (refine awp_skip ?_; simp [u8, gapS, gapS0, sapS, sapS0, t1, maxLen, sh]) | (refine awp_ret ?_; simp [u8, gapS, gapS0, sapS, sapS0, t1, maxLen, sh]) | (refine awp_exit ?_; simp [u8, gapS, gapS0, sapS, sapS0, t1, maxLen, sh])))
    · omega
    · omega
    exact ⟨2, by omega, by omega, wk_tlH (by simp [bytesC, le, u1]) (by simp [w2, s1])⟩
  | 2, _ =>
    have t1 : (bytesC (l ++ le 2 n)).take (l.length + 2) = bytesC (l ++ le 2 n) := List.take_of_length_le (by simp)
    (repeat' (first | refine awp_seq ?_ | (refine awp_region tabOk ?_; simp [u8, gapS, gapS0, sapS, sapS0, t1, maxLen, sh]) | (refine awp_if ?_; simp [u8, gapS, gapS0, sapS, sapS0, t1, maxLen, sh]) | refine awp_block ?_ | refine And.intro ?_ ?_ | intro _ | (refine awp_skip ?_; simp [u8, gapS, gapS0, sapS, sapS0, t1, maxLen, sh]) | (refine awp_ret ?_; simp [u8, gapS, gapS0, sapS, sapS0, t1, maxLen, sh]) | (refine awp_exit ?_; simp [u8, gapS, gapS0, sapS, sapS0, t1, maxLen, sh])))
    · omega
    · omega
    exact ⟨3, by omega, by omega, wk_tlH (by simp [bytesC, le, u2]) (by simp [w3, s2])⟩
  | 3, _ =>
    have t1 : (bytesC (l ++ le 3 n)).take (l.length + 3) = bytesC (l ++ le 3 n) := List.take_of_length_le (by simp)
    (repeat' (first | refine awp_seq ?_ | (refine awp_region tabOk ?_; simp [u8, gapS, gapS0, sapS, sapS0, t1, maxLen, sh]) | (refine awp_if ?_; simp [u8, gapS, gapS0, sapS, sapS0, t1, maxLen, sh]) | refine awp_block ?_ | refine And.intro ?_ ?_ | intro _ | (refine awp_skip ?_; simp [u8, gapS, gapS0, sapS, sapS0, t1, maxLen, sh]) | (refine awp_ret ?_; simp [u8, gapS, gapS0, sapS, sapS0, t1, maxLen, sh]) | (refine awp_exit ?_; simp [u8, gapS, gapS0, sapS, sapS0, t1, maxLen, sh])))
    · omega
    · omega
    exact ⟨4, by omega, by omega, wk_tlH (by simp [bytesC, le, u3]) (by simp [w4])⟩
  | 4, _ =>
    (repeat' (first | refine awp_seq ?_ | (refine awp_region tabOk ?_; simp) | (refine awp_if ?_; simp) | refine awp_block ?_ | refine And.intro ?_ ?_ | intro _ | (refine awp_skip ?_; simp) | (refine awp_ret ?_; simp) | (refine awp_exit ?_; simp)))
    exact ⟨_, _, GcTo.refl (by simp), q⟩
set_option maxRecDepth 100000 in
theorem wireGet {H : List Blk} {s : ByteArray} {Q : AV → List Blk → Prop} (hs : s.size ≤ 6) (q : Q (.c (.sc (.int .i64 (leN (bys s) : Nat)))) H) :
    ACalls Try.prog 112 [.sc (.str s)] H Q := by
  refine acalls_of tabOk Try.func112 (by kernel_rfl) rfl (by kernel_rfl) ?_
  have w0 : IntKind.i64.wrap ((s.size : Int) - 1) = (s.size : Int) - 1 := wrap_in _ (by omega) (by omega)
  (repeat' (first | refine awp_seq ?_ | (refine awp_region tabOk ?_; simp [w0]) | (refine awp_if ?_; simp [w0]) | refine awp_block ?_ | refine And.intro ?_ ?_ | intro _ | (refine awp_skip ?_; simp [w0]) | (refine awp_ret ?_; simp [w0]) | (refine awp_exit ?_; simp [w0])))
  refine awp_loop_at (α := {p : Nat × Nat // p.1 ≤ s.size ∧ p.2 = leN ((bys s).drop p.1) ∧ p.2 < 256 ^ (s.size - p.1)}) (fun p => [(0, .c (.sc (.str s))), (3, .c (.sc (.int .i64 p.1.2))), (4, .c (.sc (.int .i64 ((p.1.1 : Int) - 1))))]) (fun _ => H) (fun p => p.1.1) ⟨(s.size, 0), by simp, by rw [List.drop_of_length_le (by rw [bys_len]; exact Nat.le_refl _)]; rfl, by simp⟩ (wk_tl (by simp)) ?_
  rintro ⟨⟨i, v⟩, hi, hv, hvl⟩
  simp only at hi hv hvl
  by_cases h0 : i = 0
  · subst h0
    have hv : v = leN (bys s) := hv
    rw [← hv] at q
    (repeat' (first | refine awp_seq ?_ | (refine awp_region tabOk ?_; simp) | (refine awp_if ?_; simp) | refine awp_block ?_ | refine And.intro ?_ ?_ | intro _ | (refine awp_skip ?_; simp) | (refine awp_ret ?_; simp) | (refine awp_exit ?_; simp)))
    exact ⟨H, _, GcTo.refl (Nat.le_refl _), q⟩
  · obtain ⟨j, rfl⟩ : ∃ j, i = j + 1 := ⟨i - 1, by omega⟩
    have hb := bat_lt s j
    have hv48 : v < 2 ^ 48 := Nat.lt_of_lt_of_le hvl (by
      have : 256 ^ (s.size - (j + 1)) ≤ 256 ^ 6 := Nat.pow_le_pow_right (by omega) (by omega)
      exact Nat.le_trans this (by decide))
    have b1 : (s[j]?.getD 0).toNat = bat s j := rfl
    have b2 : ∀ h, (s[j]'h).toNat = bat s j := fun h => by unfold bat; rw [getElem?_pos s j h]; rfl
    have hlt : j < s.size := by omega
    have hjl : (j : Int) < s.size := by omega
    have e1 : ((j : Int) + 1) - 1 = j := by omega
    have wb := wrap_in (bat s j : Int) (by omega) (by omega)
    have hsl : shlOf .i64 (v : Int) 8 = ((v * 256 : Nat) : Int) := by
      unfold shlOf
      show IntKind.i64.wrap ((v : Int) * 256) = _
      rw [wrap_in _ (by omega) (by omega)]; simp
    have hor := i64_or hv48 hb
    have hd : (bys s).drop j = bat s j :: (bys s).drop (j + 1) := by
      have := bys_at hlt
      obtain ⟨h, e⟩ := List.getElem?_eq_some_iff.1 this
      rw [List.drop_eq_getElem_cons h, e]
    have hnv : leN ((bys s).drop j) = bat s j + 256 * v := by rw [hd, leN, hv]
    have hpw : bat s j + 256 * v < 256 ^ (s.size - j) := by
      rw [show s.size - j = (s.size - (j + 1)) + 1 by omega, Nat.pow_succ]; omega
    have wj : IntKind.i64.wrap ((j : Int) - 1) = (j : Int) - 1 := wrap_in _ (by omega) (by omega)
    generalize v * 256 = v2 at *
    obtain ⟨z, hz⟩ : ∃ z, bat s j + 256 * v = z := ⟨_, rfl⟩
    rw [hz] at hor hnv hpw
    (repeat' (first | refine awp_seq ?_ | (refine awp_region tabOk ?_; simp [e1, hlt, hjl, b1, b2, wb, hsl, hor]) | (refine awp_if ?_; simp [e1, hlt, hjl, b1, b2, wb, hsl, hor]) | refine awp_block ?_ | refine And.intro ?_ ?_ | intro _ | (refine awp_skip ?_; simp [e1, hlt, hjl, b1, b2, wb, hsl, hor]) | (refine awp_ret ?_; simp [e1, hlt, hjl, b1, b2, wb, hsl, hor]) | (refine awp_exit ?_; simp [e1, hlt, hjl, b1, b2, wb, hsl, hor])))
    exact ⟨j, by omega, z, ⟨by omega, hnv.symm, hpw⟩, wk_tl (by simp [wj])⟩
end Go.Proofs.Ytdeockoaalpcjaa
