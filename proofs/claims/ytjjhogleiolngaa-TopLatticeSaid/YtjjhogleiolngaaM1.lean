/- MatSays: a Matrix as cells; what its functions yield. No program stands here. -/
import Derived.Test.YtjjhogleiolngaaB1
namespace Go.Proofs.Ytjjhogleiolngaa
open Go.RowKit
structure Mt where
  n : Int
  me : Int
  a : Nat → Nat → Int
namespace Mt
def rs (f : Nat → Nat → Int) : List Sc := (List.range 36).map fun q => .int .i64 (f (q / 6) (q % 6))
def cs (p : Mt) : List Sc := .int .i64 p.n :: .int .i64 p.me :: rs p.a
def setA (p : Mt) (i j : Nat) (x : Int) : Mt := { p with a := fun i' j' => if i' = i ∧ j' = j then x else p.a i' j' }
variable (p : Mt)
@[simp] theorem setA_n (i j : Nat) (x : Int) : (p.setA i j x).n = p.n := rfl
@[simp] theorem setA_me (i j : Nat) (x : Int) : (p.setA i j x).me = p.me := rfl
@[simp] theorem rs_len (f : Nat → Nat → Int) : (rs f).length = 36 := by simp [rs]
@[simp] theorem len : p.cs.length = 38 := by simp [cs]
@[simp] theorem at_n : p.cs[0]? = some (.int .i64 p.n) := rfl
@[simp] theorem at_me : p.cs[1]? = some (.int .i64 p.me) := rfl
@[simp] theorem at_n' (h : 0 < p.cs.length) : p.cs[0] = .int .i64 p.n := rfl
@[simp] theorem at_me' (h : 1 < p.cs.length) : p.cs[1] = .int .i64 p.me := rfl
theorem rs_at (f : Nat → Nat → Int) {i j : Nat} (hi : i < 6) (hj : j < 6) : (rs f)[i * 6 + j]? = some (.int .i64 (f i j)) := by
  unfold rs
  rw [List.getElem?_map, List.getElem?_range (by omega)]
  simp only [Option.map_some, show (i * 6 + j) / 6 = i by omega, show (i * 6 + j) % 6 = j by omega]
theorem at_a {i j : Nat} (hi : i < 6) (hj : j < 6) : p.cs[2 + i * 6 + j]? = some (.int .i64 (p.a i j)) := by
  rw [show 2 + i * 6 + j = (i * 6 + j) + 1 + 1 by omega]; exact rs_at p.a hi hj
theorem set_a {i j : Nat} (hi : i < 6) (hj : j < 6) (x : Int) : p.cs.set (2 + i * 6 + j) (.int .i64 x) = (p.setA i j x).cs := by
  rw [show 2 + i * 6 + j = (i * 6 + j) + 1 + 1 by omega]
  show Sc.int .i64 p.n :: Sc.int .i64 p.me :: (rs p.a).set (i * 6 + j) (.int .i64 x) = Sc.int .i64 p.n :: Sc.int .i64 p.me :: rs (p.setA i j x).a
  congr 2
  apply List.ext_getElem?
  intro q
  rw [List.getElem?_set]
  by_cases hq : q < 36
  · have e := rs_at p.a (i := q / 6) (j := q % 6) (by omega) (by omega)
    have e' := rs_at (p.setA i j x).a (i := q / 6) (j := q % 6) (by omega) (by omega)
    rw [show q / 6 * 6 + q % 6 = q by omega] at e e'
    rw [e, e']
    by_cases h : i * 6 + j = q
    · rw [if_pos h, if_pos (by simp; omega)]
      have : q / 6 = i ∧ q % 6 = j := by omega
      simp [setA, this]
    · rw [if_neg h]
      have : ¬ (q / 6 = i ∧ q % 6 = j) := by omega
      simp [setA, this]
  · rw [if_neg (by omega), List.getElem?_eq_none (by simp; omega), List.getElem?_eq_none (by simp; omega)]
@[simp] theorem all : p.cs.take 38 = p.cs := List.take_of_length_le (by simp)
@[simp] theorem over (q : Mt) : splice 0 p.cs q.cs = p.cs := splice_all (by simp)
@[simp] theorem ren_cs (m : Nat → Nat) : p.cs.map (renS m) = p.cs := ren_plain (by simp [cs, rs, plainS])
def vs (g : Nat → Int) : List Sc := [.int .i64 (g 0), .int .i64 (g 1), .int .i64 (g 2), .int .i64 (g 3), .int .i64 (g 4), .int .i64 (g 5)]
@[simp] theorem vs_len (g : Nat → Int) : (vs g).length = 6 := rfl
@[simp] theorem vs_all (g : Nat → Int) : (vs g).take 6 = vs g := rfl
@[simp] theorem vs_over (f g : Nat → Int) : splice 0 (vs f) (vs g) = vs f := splice_all rfl
@[simp] theorem vs_ren (m : Nat → Nat) (g : Nat → Int) : (vs g).map (renS m) = vs g := rfl
theorem vs_at (g : Nat → Int) {k : Nat} (h : k < 6) : (vs g)[k]? = some (.int .i64 (g k)) := by
  match k, h with | 0, _ => rfl | 1, _ => rfl | 2, _ => rfl | 3, _ => rfl | 4, _ => rfl | 5, _ => rfl
theorem vs_set (g : Nat → Int) {k : Nat} (h : k < 6) (x : Int) : (vs g).set k (.int .i64 x) = vs (fun j => if j = k then x else g j) := by
  match k, h with | 0, _ => rfl | 1, _ => rfl | 2, _ => rfl | 3, _ => rfl | 4, _ => rfl | 5, _ => rfl
@[simp] theorem rows : (p.cs.drop 2).take 36 = rs p.a := List.take_of_length_le (by simp)
theorem rs_row (f : Nat → Nat → Int) {i : Nat} (h : i < 6) : ((rs f).drop (i * 6)).take 6 = vs (f i) := by
  apply List.ext_getElem?
  intro k
  by_cases hk : k < 6
  · rw [List.getElem?_take_of_lt hk, List.getElem?_drop, rs_at f h hk, vs_at _ hk]
  · rw [List.getElem?_eq_none (by simp; omega), List.getElem?_eq_none (by simp; omega)]
theorem cs_row {i : Nat} (h : i < 6) : (p.cs.drop (2 + i * 6)).take 6 = vs (p.a i) := by
  rw [← rs_row p.a h, show 2 + i * 6 = i * 6 + 1 + 1 by omega]; rfl
@[simp] theorem rs_ren (m : Nat → Nat) (f : Nat → Nat → Int) : (rs f).map (renS m) = rs f := ren_plain (by simp [rs, plainS])
def zero : Mt := ⟨0, 0, fun _ _ => 0⟩
theorem zero_cs : ([.int .i64 0, .int .i64 0, .int .i64 0, .int .i64 0, .int .i64 0, .int .i64 0, .int .i64 0, .int .i64 0, .int .i64 0, .int .i64 0, .int .i64 0, .int .i64 0, .int .i64 0, .int .i64 0, .int .i64 0, .int .i64 0, .int .i64 0, .int .i64 0, .int .i64 0, .int .i64 0, .int .i64 0, .int .i64 0, .int .i64 0, .int .i64 0, .int .i64 0, .int .i64 0, .int .i64 0, .int .i64 0, .int .i64 0, .int .i64 0, .int .i64 0, .int .i64 0, .int .i64 0, .int .i64 0, .int .i64 0, .int .i64 0, .int .i64 0, .int .i64 0] : List Sc) = zero.cs := rfl
/-- Why cell i j is refused. -/
def bad (i j : Nat) : Int := if p.a i j < 0 ∨ 16777215 < p.a i j then 1 else if ((p.n ≤ (if i < j then (j : Int) else (i : Int)) ∧ ¬p.a i j = 0) ∨ p.a p.me.toNat j < p.a i j) then 4 else 0
def row (i : Nat) : Nat → Nat → Int
  | 0, _ => 0
  | n + 1, j => if p.bad i j = 0 then row i n (j + 1) else p.bad i j
def scan : Nat → Nat → Int
  | 0, _ => 0
  | n + 1, i => if p.row i 6 0 = 0 then scan n (i + 1) else p.row i 6 0
def err : Int := if p.n < 1 ∨ 6 < p.n ∨ p.me < 0 ∨ p.n ≤ p.me then 1 else p.scan 6 0
end Mt
end Go.Proofs.Ytjjhogleiolngaa
