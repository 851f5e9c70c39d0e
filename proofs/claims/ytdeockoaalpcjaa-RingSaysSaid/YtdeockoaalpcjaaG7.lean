/- RingSays: tokens of the halving, in plain lists. No program stands here. -/
import Derived.Test.YtdeockoaalpcjaaG5
import Derived.Test.YtdeockoaalpcjaaG6
set_option linter.unusedVariables false
namespace Go.Proofs.Ytdeockoaalpcjaa.Rg
open Go.RowKit
def sumL {α : Type} (g : α → Nat) : List α → Nat
  | [] => 0
  | x :: r => g x + sumL g r
theorem sumL_app {α : Type} (g : α → Nat) : ∀ a b : List α, sumL g (a ++ b) = sumL g a + sumL g b
  | [], b => by simp [sumL]
  | x :: a, b => by simp only [List.cons_append, sumL, sumL_app g a b]; omega
structure Tok where
  i : Nat
  b : Bool
  j : Nat
def wOf (n : Nat) (b : Bool) : Nat := if b then 1 else n - 1
def Tok.enc (n far : Nat) (t : Tok) : List Sc := [.int .i64 t.i, .int .i64 (pos n (wOf n t.b) t.i t.j : Nat), .int .i64 (if t.b then 1 else -1), .int .i64 (far - t.j : Nat)]
def Tok.pr (l : List Int) (far : Nat) (t : Tok) : Nat × Bool := probeA l (wOf l.length t.b) t.i far
structure Tok.Ok (l : List Int) (far : Nat) (t : Tok) : Prop where
  i : t.i < l.length
  j : t.j < far
  p : t.pr l far = lookA l (wOf l.length t.b) t.i far (far - t.j) (t.j + 1)
def Tok.rem (l : List Int) (far : Nat) (t : Tok) : Nat := (t.pr l far).1 - t.j
def Tok.hit (l : List Int) (far k : Nat) (t : Tok) : Nat := if t.i = k ∧ (t.pr l far).2 = true then 1 else 0
theorem Tok.Ok.ge {l : List Int} {far : Nat} {t : Tok} (h : t.Ok l far) : t.j ≤ (t.pr l far).1 := by
  have := look_ge l (wOf l.length t.b) t.i far (far - t.j) (t.j + 1) (by have := h.j; omega)
  rw [h.p]; omega
def toks (left : List Nat) : List Tok := left.flatMap fun i => [⟨i, true, 0⟩, ⟨i, false, 0⟩]
theorem toks_snoc (a : List Nat) (i : Nat) : toks (a ++ [i]) = toks a ++ [⟨i, true, 0⟩, ⟨i, false, 0⟩] := by simp [toks]
theorem toks_ok {l : List Int} {far : Nat} {left : List Nat} (h1 : 1 ≤ far) (h : ∀ i ∈ left, i < l.length) : ∀ t ∈ toks left, t.Ok l far := by
  intro t ht
  simp only [toks, List.mem_flatMap] at ht
  obtain ⟨i, hi, ht⟩ := ht
  simp at ht
  rcases ht with rfl | rfl <;> exact ⟨h i hi, by simp; omega, rfl⟩
theorem toks_rem (l : List Int) (far : Nat) : ∀ left, sumL (Tok.rem l far) (toks left) = costs l far left
  | [] => rfl
  | i :: r => by
    have e : toks (i :: r) = ⟨i, true, 0⟩ :: ⟨i, false, 0⟩ :: toks r := rfl
    rw [e]
    simp only [sumL, costs, toks_rem l far r, Tok.rem, Tok.pr, cost, wOf]
    simp; omega
def want (l : List Int) (far : Nat) (left : List Nat) (k : Nat) : Nat := if k ∈ left then (if (probeA l 1 k far).2 then 1 else 0) + (if (probeA l (l.length - 1) k far).2 then 1 else 0) else 0
theorem toks_hit (l : List Int) (far k : Nat) : ∀ left : List Nat, left.Nodup → sumL (Tok.hit l far k) (toks left) = want l far left k
  | [], _ => rfl
  | i :: r, hd => by
    have e : toks (i :: r) = ⟨i, true, 0⟩ :: ⟨i, false, 0⟩ :: toks r := rfl
    rw [List.nodup_cons] at hd
    rw [e]
    simp only [sumL, toks_hit l far k r hd.2, Tok.hit, Tok.pr, wOf, want, List.mem_cons]
    by_cases hk : k = i
    · subst hk
      simp [hd.1]
    · have hk2 : ¬i = k := fun e => hk e.symm
      simp [hk, hk2]
theorem want_two (l : List Int) (far : Nat) (left : List Nat) (k : Nat) : want l far left k = 2 ↔ k ∈ left ∧ ok l far k = true := by
  unfold want ok
  by_cases h : k ∈ left
  · cases h1 : (probeA l 1 k far).2 <;> cases h2 : (probeA l (l.length - 1) k far).2 <;> simp [h]
  · simp [h]
theorem next_is {l : List Int} {far : Nat} {left : List Nat} (h : LeftOk l far left) : (List.range l.length).filter (fun k => decide (want l far left k = 2)) = left.filter (ok l far) := by
  obtain ⟨q, rfl⟩ := h.of
  rw [List.filter_filter]
  refine List.filter_congr fun k hk => ?_
  rw [Bool.eq_iff_iff, decide_eq_true_iff, want_two, List.mem_filter, Bool.and_eq_true]
  constructor
  · rintro ⟨⟨_, a⟩, b⟩; exact ⟨b, a⟩
  · rintro ⟨a, b⟩; exact ⟨⟨hk, b⟩, a⟩
theorem pos_step_t {n i j : Nat} (hn : 0 < n) : (pos n (wOf n true) i j + 1 + n) % n = pos n (wOf n true) i (j + 1) := by
  rw [Nat.add_mod_right, pos_succ]; rfl
theorem pos_step_f {n i j : Nat} (hn : 0 < n) : (pos n (wOf n false) i j + (n - 1)) % n = pos n (wOf n false) i (j + 1) := by
  rw [pos_succ]; rfl
/-- Numbers by a function. -/
def bk (f : Nat → Int) (n : Nat) : List Int := (List.range n).map f
@[simp] theorem bk_len (f : Nat → Int) (n : Nat) : (bk f n).length = n := by simp [bk]
theorem bk_at (f : Nat → Int) {n i : Nat} (h : i < n) : (bk f n)[i]? = some (f i) := by simp [bk, h]
theorem bk_set (f : Nat → Int) {n i : Nat} (h : i < n) (v : Int) : (intsC (bk f n)).set i (.int .i64 v) = intsC (bk (fun j => if j = i then v else f j) n) := by
  apply List.ext_getElem?
  intro q
  rw [List.getElem?_set]
  by_cases hq : q < n
  · rw [intsC_at _ (bk_at _ hq)]
    by_cases e : i = q
    · subst e; rw [if_pos rfl, if_pos (by simpa using h), intsC_at _ (bk_at _ h), if_pos rfl]
    · rw [if_neg e, intsC_at _ (bk_at _ hq), if_neg (fun h => e h.symm)]
  · have e1 : ¬i = q := by omega
    rw [if_neg e1, List.getElem?_eq_none (by simp; omega), List.getElem?_eq_none (by simp; omega)]
theorem bk_congr {f g : Nat → Int} {n : Nat} (h : ∀ i, i < n → f i = g i) : bk f n = bk g n :=
  List.map_congr_left fun i hi => h i (List.mem_range.1 hi)
theorem bk_zero (n : Nat) : (List.replicate n [Sc.int .i64 0]).flatten = intsC (bk (fun _ => 0) n) := by
  apply List.ext_getElem?
  intro q
  rw [zeros_get]
  by_cases hq : q < n
  · rw [if_pos (by simpa using hq), intsC_at _ (bk_at _ hq)]; simp [Nat.mod_one]
  · rw [if_neg (by simpa using hq), List.getElem?_eq_none (by simp; omega)]
theorem bk_range (n : Nat) : bk (fun j => (j : Int)) n = nI (List.range n) := rfl
end Go.Proofs.Ytdeockoaalpcjaa.Rg
