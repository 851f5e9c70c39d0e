/- PulseSays: a Pulse as cells; what its functions yield. No program stands here. -/
import Derived.Test.YtdeockoaalpcjaaB1
namespace Go.Proofs.Ytdeockoaalpcjaa
open Go.RowKit
structure Pu where
  me : Int
  now : Int
  l : Nat → Int
  w : Nat → Int
  d : Nat → Bool
namespace Pu
def ls (f : Nat → Int) : List Sc := [.int .i64 (f 0), .int .i64 (f 1), .int .i64 (f 2), .int .i64 (f 3), .int .i64 (f 4), .int .i64 (f 5)]
def ds (f : Nat → Bool) : List Sc := [.bool (f 0), .bool (f 1), .bool (f 2), .bool (f 3), .bool (f 4), .bool (f 5)]
def cs (p : Pu) : List Sc := .int .i64 p.me :: .int .i64 p.now :: (ls p.l ++ ls p.w ++ ds p.d)
def setL (p : Pu) (k : Nat) (x : Int) : Pu := { p with l := fun j => if j = k then x else p.l j }
def setW (p : Pu) (k : Nat) (x : Int) : Pu := { p with w := fun j => if j = k then x else p.w j }
def setD (p : Pu) (k : Nat) (x : Bool) : Pu := { p with d := fun j => if j = k then x else p.d j }
def setNow (p : Pu) (x : Int) : Pu := { p with now := x }
variable (p : Pu)
@[simp] theorem ren_cs (m : Nat → Nat) : p.cs.map (renS m) = p.cs := rfl
@[simp] theorem prj0 (k : Nat) (x : Int) : (p.setL k x).me = p.me := rfl
@[simp] theorem prj1 (k : Nat) (x : Int) : (p.setL k x).now = p.now := rfl
@[simp] theorem prj2 (k : Nat) (x : Int) : (p.setL k x).w = p.w := rfl
@[simp] theorem prj3 (k : Nat) (x : Int) : (p.setL k x).d = p.d := rfl
@[simp] theorem prj4 (k : Nat) (x : Int) : (p.setW k x).me = p.me := rfl
@[simp] theorem prj5 (k : Nat) (x : Int) : (p.setW k x).now = p.now := rfl
@[simp] theorem prj6 (k : Nat) (x : Int) : (p.setW k x).l = p.l := rfl
@[simp] theorem prj7 (k : Nat) (x : Int) : (p.setW k x).d = p.d := rfl
@[simp] theorem prj8 (k : Nat) (x : Bool) : (p.setD k x).me = p.me := rfl
@[simp] theorem prj9 (k : Nat) (x : Bool) : (p.setD k x).now = p.now := rfl
@[simp] theorem prj10 (k : Nat) (x : Bool) : (p.setD k x).l = p.l := rfl
@[simp] theorem prj11 (k : Nat) (x : Bool) : (p.setD k x).w = p.w := rfl
@[simp] theorem prj12 (x : Int) : (p.setNow x).me = p.me := rfl
@[simp] theorem prj13 (x : Int) : (p.setNow x).now = x := rfl
@[simp] theorem prj14 (x : Int) : (p.setNow x).l = p.l := rfl
@[simp] theorem prj15 (x : Int) : (p.setNow x).w = p.w := rfl
@[simp] theorem prj16 (x : Int) : (p.setNow x).d = p.d := rfl
@[simp] theorem len : p.cs.length = 20 := rfl
@[simp] theorem at_me : p.cs[0]? = some (.int .i64 p.me) := rfl
@[simp] theorem at_now : p.cs[1]? = some (.int .i64 p.now) := rfl
theorem at_l {k : Nat} (h : k < 6) : p.cs[2 + k]? = some (.int .i64 (p.l k)) := by
  match k, h with | 0, _ => rfl | 1, _ => rfl | 2, _ => rfl | 3, _ => rfl | 4, _ => rfl | 5, _ => rfl
theorem at_w {k : Nat} (h : k < 6) : p.cs[8 + k]? = some (.int .i64 (p.w k)) := by
  match k, h with | 0, _ => rfl | 1, _ => rfl | 2, _ => rfl | 3, _ => rfl | 4, _ => rfl | 5, _ => rfl
theorem at_d {k : Nat} (h : k < 6) : p.cs[14 + k]? = some (.bool (p.d k)) := by
  match k, h with | 0, _ => rfl | 1, _ => rfl | 2, _ => rfl | 3, _ => rfl | 4, _ => rfl | 5, _ => rfl
@[simp] theorem set_now (x : Int) : p.cs.set 1 (.int .i64 x) = (p.setNow x).cs := rfl
theorem set_l {k : Nat} (h : k < 6) (x : Int) : p.cs.set (2 + k) (.int .i64 x) = (p.setL k x).cs := by
  match k, h with | 0, _ => rfl | 1, _ => rfl | 2, _ => rfl | 3, _ => rfl | 4, _ => rfl | 5, _ => rfl
theorem set_w {k : Nat} (h : k < 6) (x : Int) : p.cs.set (8 + k) (.int .i64 x) = (p.setW k x).cs := by
  match k, h with | 0, _ => rfl | 1, _ => rfl | 2, _ => rfl | 3, _ => rfl | 4, _ => rfl | 5, _ => rfl
theorem set_d {k : Nat} (h : k < 6) (x : Bool) : p.cs.set (14 + k) (.bool x) = (p.setD k x).cs := by
  match k, h with | 0, _ => rfl | 1, _ => rfl | 2, _ => rfl | 3, _ => rfl | 4, _ => rfl | 5, _ => rfl
@[simp] theorem all : p.cs.take 20 = p.cs := rfl
@[simp] theorem doubts : (p.cs.drop 14).take 6 = ds p.d := rfl
@[simp] theorem dlen (d : Nat → Bool) : (ds d).length = 6 := rfl
theorem ds_at (d : Nat → Bool) {k : Nat} (h : k < 6) : (ds d)[k]? = some (.bool (d k)) := by
  match k, h with | 0, _ => rfl | 1, _ => rfl | 2, _ => rfl | 3, _ => rfl | 4, _ => rfl | 5, _ => rfl
@[simp] theorem over (q : Pu) : splice 0 p.cs q.cs = p.cs := splice_all rfl
def zero : Pu := ⟨0, 0, fun _ => 0, fun _ => 0, fun _ => false⟩
theorem zero_cs : ([.int .i64 0, .int .i64 0, .int .i64 0, .int .i64 0, .int .i64 0, .int .i64 0, .int .i64 0, .int .i64 0, .int .i64 0, .int .i64 0, .int .i64 0, .int .i64 0, .int .i64 0, .int .i64 0, .bool false, .bool false, .bool false, .bool false, .bool false, .bool false] : List Sc) = zero.cs := rfl
/-- The errors. -/
def bad (i : Nat) : Bool := decide (p.l i < 0) || decide (p.now < p.l i) || decide (p.w i < 1) || decide (1000 < p.w i)
def scan : Nat → Nat → Int
  | 0, _ => 0
  | n + 1, i => if p.bad i then 1 else if p.d i && decide ((i : Int) = p.me) then 4 else scan n (i + 1)
def err : Int := if decide (p.me < 0) || decide (5 < p.me) || decide (p.now < 0) || decide (16777215 < p.now) then 1 else p.scan 6 0
end Pu
end Go.Proofs.Ytdeockoaalpcjaa
