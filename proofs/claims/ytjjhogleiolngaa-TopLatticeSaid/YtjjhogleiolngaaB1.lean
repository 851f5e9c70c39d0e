/- Words for walks by the abstract machine: where blocks stand, slices as lists. No program stands here. -/
import Derived.Test.YtjjhogleiolngaaA12
namespace Go.Proofs.Ytjjhogleiolngaa
open Go.RowKit
section
variable {H L : List Blk}
@[simp] theorem gap (k : Nat) : (H ++ L)[H.length + k]? = L[k]? := by rw [List.getElem?_append_right (by omega), Nat.add_sub_cancel_left]
@[simp] theorem gap0 : (H ++ L)[H.length]? = L[0]? := by rw [List.getElem?_append_right (by omega), Nat.sub_self]
@[simp] theorem sap (k : Nat) (b : Blk) : (H ++ L).set (H.length + k) b = H ++ L.set k b := by rw [List.set_append_right _ _ (by omega), Nat.add_sub_cancel_left]
@[simp] theorem sap0 (b : Blk) : (H ++ L).set H.length b = H ++ L.set 0 b := by rw [List.set_append_right _ _ (by omega), Nat.sub_self]
theorem low_of {id : Nat} {b : Blk} (h : H[id]? = some b) (L : List Blk) : (H ++ L)[id]? = some b := by
  rw [List.getElem?_append_left (List.getElem?_eq_some_iff.1 h).1]; exact h
theorem lowc_of {id : Nat} {cs : List Sc} (h : Blk.cells? H[id]? = some cs) (L : List Blk) : Blk.cells? (H ++ L)[id]? = some cs := by
  cases hb : H[id]? with
  | none => rw [hb] at h; cases h
  | some b => rw [low_of hb, ← hb]; exact h
end
theorem splice_all {xs ys : List Sc} (h : xs.length = ys.length) : splice 0 xs ys = xs := by
  apply List.ext_getElem?
  intro j
  rw [splice_get xs 0 ys j (by omega)]
  split
  · rfl
  · rw [List.getElem?_eq_none (by omega), List.getElem?_eq_none (by omega)]
/-- GcOk, asked one by one. -/
def gcL (n : Nat) (ks : List Nat) (top : Nat) (L : List Blk) : List Nat → List Blk → Prop
  | [], [] => True
  | k :: r, b :: L' => (b = .dead ∨ L[k]? = some (renB (mStd n ks top) b)) ∧ gcL n ks top L r L'
  | _, _ => False
theorem gcL_at {n : Nat} {ks : List Nat} {top : Nat} {L : List Blk} : ∀ {r : List Nat} {L' : List Blk}, gcL n ks top L r L' → L'.length = r.length ∧ ∀ (j : Nat) (b : Blk), L'[j]? = some b → b = .dead ∨ ∃ k, r[j]? = some k ∧ L[k]? = some (renB (mStd n ks top) b)
  | [], [], _ => ⟨rfl, fun j b h => by simp at h⟩
  | k :: r, b :: L', h => by
    obtain ⟨e, f⟩ := gcL_at h.2
    refine ⟨by simp [e], fun j c hc => ?_⟩
    cases j with
    | zero => simp at hc; subst hc; rcases h.1 with q | q; exact .inl q; exact .inr ⟨k, rfl, q⟩
    | succ j => simpa using f j c (by simpa using hc)
  | [], _ :: _, h => h.elim
  | _ :: _, [], h => h.elim
theorem gcOk_of {n : Nat} {ks : List Nat} {top : Nat} {L L' : List Blk} (h2 : ks.Nodup) (h : gcL n ks top L ks L') : GcOk n ks top L L' :=
  ⟨(gcL_at h).1, h2, (gcL_at h).2⟩
/-- Cells that hold no block's number. -/
def plainS : Sc → Bool
  | .int _ _ | .bool _ | .str _ | .nilp | .nils | .sle | .nilf | .nilm | .top => true
  | _ => false
theorem ren_plain {m : Nat → Nat} : ∀ {cs : List Sc}, cs.all plainS = true → cs.map (renS m) = cs
  | [], _ => rfl
  | c :: cs, h => by
    simp only [List.all_cons, Bool.and_eq_true] at h
    rw [List.map_cons, ren_plain h.2]
    have := h.1
    cases c <;> first | rfl | cases this
def intsC (xs : List Int) : List Sc := xs.map fun x => .int .i64 x
@[simp] theorem ren_intsC {m : Nat → Nat} (xs : List Int) : (intsC xs).map (renS m) = intsC xs := ren_plain (by simp [intsC, plainS])
@[simp] theorem intsC_len (xs : List Int) : (intsC xs).length = xs.length := by simp [intsC]
@[simp] theorem intsC_add (xs ys : List Int) : intsC xs ++ intsC ys = intsC (xs ++ ys) := by simp [intsC]
@[simp] theorem intsC_take (xs : List Int) (n : Nat) : (intsC xs).take n = intsC (xs.take n) := by simp [intsC, List.map_take]
@[simp] theorem intsC_drop (xs : List Int) (n : Nat) : (intsC xs).drop n = intsC (xs.drop n) := by simp [intsC, List.map_drop]
theorem intsC_one (x : Int) : [Sc.int .i64 x] = intsC [x] := rfl
theorem intsC_at (xs : List Int) {i : Nat} {x : Int} (h : xs[i]? = some x) : (intsC xs)[i]? = some (.int .i64 x) := by simp [intsC, h]
/-- A list of ints as a slice that the function itself made: nil when empty, else the block id. -/
def intV (id : Nat) (xs : List Int) : Sc := match xs with | [] => .nils | _ :: _ => .sl id 0 1 xs.length xs.length
def intB (xs : List Int) : Blk := match xs with | [] => .dead | _ :: _ => .own (intsC xs)
@[simp] theorem ren_intV (m : Nat → Nat) (id : Nat) (xs : List Int) : renS m (intV id xs) = intV (m id) xs := by cases xs <;> rfl
@[simp] theorem ren_intB (m : Nat → Nat) (xs : List Int) : renB m (intB xs) = intB xs := by cases xs; rfl; exact congrArg Blk.own (ren_intsC _)
@[simp] theorem intB_nil : intB [] = .dead := rfl
@[simp] theorem intV_nil (id : Nat) : intV id [] = .nils := rfl
@[simp] theorem intB_cons (x : Int) (r : List Int) : intB (x :: r) = .own (intsC (x :: r)) := rfl
@[simp] theorem intV_cons (id : Nat) (x : Int) (r : List Int) : intV id (x :: r) = .sl id 0 1 (r.length + 1) (r.length + 1) := rfl
attribute [simp] gcL mStd_0 mStd_at
end Go.Proofs.Ytjjhogleiolngaa
