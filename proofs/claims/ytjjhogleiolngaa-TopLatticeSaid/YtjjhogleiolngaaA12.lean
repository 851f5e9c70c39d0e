/- The abstract machine: rules in the form in which simp walks them. No program stands here. -/
import Derived.Test.YtjjhogleiolngaaA19
namespace Go.Proofs.Ytjjhogleiolngaa
open Go.RowKit

/-- Slots by a list; the others are unknown. -/
def tl : List (Nat × AV) → Nat → AV
  | [], _ => .c .top
  | (k, v) :: r, i => if i = k then v else tl r i
def tlOk (T : Nat → AV) : List (Nat × AV) → Prop
  | [] => True
  | (k, v) :: r => T k = v ∧ tlOk T r
theorem tl_of {T : Nat → AV} : ∀ {l : List (Nat × AV)}, tlOk T l → ∀ i, tl l i = .c .top ∨ tl l i = T i
  | [], _, _ => .inl rfl
  | (k, v) :: r, h, i => by
    simp only [tlOk] at h
    simp only [tl]
    split
    · rename_i e; subst e; exact .inr h.1.symm
    · exact tl_of h.2 i
theorem wk_tl {N : Nat} {H0 H : List Blk} {T : Nat → AV} {l : List (Nat × AV)} (h : tlOk T l) : Wk N H0 T H (tl l) H := wk_forget (tl_of h)
/-- The same, with blocks let go or named anew. -/
def tlOkM (m : Nat → Nat) (T : Nat → AV) : List (Nat × AV) → Prop
  | [] => True
  | (k, v) :: r => T k = renV m v ∧ tlOkM m T r
theorem tl_ofM {m : Nat → Nat} {T : Nat → AV} : ∀ {l : List (Nat × AV)}, tlOkM m T l → ∀ i, tl l i = .c .top ∨ renV m (tl l i) = T i
  | [], _, _ => .inl rfl
  | (k, v) :: r, h, i => by
    simp only [tlOkM] at h
    simp only [tl]
    split
    · rename_i e; subst e; exact .inr h.1.symm
    · exact tl_ofM h.2 i
theorem wk_gcl {N : Nat} {H0 : List Blk} {T : Nat → AV} {L L' : List Blk} {l : List (Nat × AV)} (ks : List Nat) (hg : GcOk H0.length ks (H0 ++ L).length L L') (h : tlOkM (mStd H0.length ks (H0 ++ L).length) T l) :
    Wk N H0 T (H0 ++ L) (tl l) (H0 ++ L') := wk_gc ks hg (tl_ofM h)

def condA (T : Nat → AV) (c : Operand) (A B : Prop) : Prop :=
  match (ev T c).ac with
  | .sc (.bool t) => (ev T c).gd = true ∧ (t = true → A) ∧ (t = false → B)
  | _ => False
section
variable {P : Program} {tab : TypeId → Option TI} {N : Nat} {H0 : List Blk} {Q : Exit → (Nat → AV) → List Blk → Prop} {T : Nat → AV} {H : List Blk}
theorem awp_if {c : Operand} {x y : Code} (h : condA T c (AWP P N H0 x Q T H) (AWP P N H0 y Q T H)) : AWP P N H0 (.cond c x y) Q T H := by
  unfold condA at h
  split at h
  · rename_i t ht; exact awp_cond ht h.1 h.2.1 h.2.2
  · exact h.elim
/-- A loop: the state is one of a family. -/
theorem awp_loop_at {α : Type} {c : Code} (I : α → List (Nat × AV)) (J : α → List Blk) (m : α → Nat) (x0 : α) (h0 : Wk N H0 T H (tl (I x0)) (J x0))
    (round : ∀ x, AWP P N H0 c (nx (fun T' H' => ∃ y, m y < m x ∧ Wk N H0 T' H' (tl (I y)) (J y)) Q) (tl (I x)) (J x)) : AWP P N H0 (.loop c) Q T H :=
  awp_wk h0 (awp_loop (fun x => (tl (I x), J x)) m round x0)
end
theorem wrapS (i : Nat) (h : i < 9223372036854775807) : IntKind.i64.wrap ((i : Int) + 1) = ((i + 1 : Nat) : Int) := by
  rw [IntKind.wrap_i64]; omega
theorem wrap_in (n : Int) (h0 : -9223372036854775808 ≤ n) (h1 : n ≤ 9223372036854775807) : IntKind.i64.wrap n = n := by
  rw [IntKind.wrap_i64]; omega

@[simp] theorem cells_own (cs : List Sc) : Blk.cells? (some (.own cs)) = some cs := rfl
@[simp] theorem cells_ro (cs : List Sc) : Blk.cells? (some (.ro cs)) = some cs := rfl
@[simp] theorem tl_nil (i : Nat) : tl [] i = .c .top := rfl
@[simp] theorem tl_cons (k : Nat) (v : AV) (r : List (Nat × AV)) (i : Nat) : tl ((k, v) :: r) i = if i = k then v else tl r i := rfl
@[simp] theorem renB_o (m : Nat → Nat) (cs : List Sc) : renB m (.own cs) = .own (cs.map (renS m)) := rfl
@[simp] theorem renB_r (m : Nat → Nat) (cs : List Sc) : renB m (.ro cs) = .ro (cs.map (renS m)) := rfl
@[simp] theorem renB_m (m : Nat → Nat) (kk kv : IntKind) (es : List (Int × Int)) : renB m (.mapB kk kv es) = .mapB kk kv es := rfl
@[simp] theorem renB_d (m : Nat → Nat) : renB m .dead = .dead := rfl
@[simp] theorem renS_ptr (m : Nat → Nat) (id off : Nat) : renS m (.ptr id off) = .ptr (m id) off := rfl
@[simp] theorem renS_sl (m : Nat → Nat) (id off es len cap : Nat) : renS m (.sl id off es len cap) = .sl (m id) off es len cap := rfl
@[simp] theorem renS_fn (m : Nat → Nat) (f : FuncId) (cs : List (Nat × Nat)) : renS m (.fn f cs) = .fn f (cs.map fun p => (m p.1, p.2)) := rfl
@[simp] theorem renS_mp (m : Nat → Nat) (id : Nat) : renS m (.mp id) = .mp (m id) := rfl
@[simp] theorem renS_int (m : Nat → Nat) (k : IntKind) (n : Int) : renS m (.int k n) = .int k n := rfl
@[simp] theorem renS_bool (m : Nat → Nat) (b : Bool) : renS m (.bool b) = .bool b := rfl
@[simp] theorem renS_str (m : Nat → Nat) (b : ByteArray) : renS m (.str b) = .str b := rfl
@[simp] theorem renS_nilp (m : Nat → Nat) : renS m .nilp = .nilp := rfl
@[simp] theorem renS_nils (m : Nat → Nat) : renS m .nils = .nils := rfl
@[simp] theorem renS_sle (m : Nat → Nat) : renS m .sle = .sle := rfl
@[simp] theorem renS_nilf (m : Nat → Nat) : renS m .nilf = .nilf := rfl
@[simp] theorem renS_nilm (m : Nat → Nat) : renS m .nilm = .nilm := rfl
@[simp] theorem renS_top (m : Nat → Nat) : renS m .top = .top := rfl
attribute [simp] mapKK opsA stepA stepG opQ opM ev flatV absV absS AV.ac AV.gd putD upd nx nxB condA T0 binC binI binS eqC eqS eqSs okS okSs pickC lenC bnd ints caps argsC capsC partsC sliceC ldC AC.cells
  fillS splice retQ ressC resC tupC tlOk tlOkM renV renC Sc.toI Sc.toB Sc.toS srcC Value.oneCell' stepD stepDG opsD upsOk apartF rdOf wrOf rdC
end Go.Proofs.Ytjjhogleiolngaa
