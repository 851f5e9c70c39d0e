/- Histories: events as cells, why one is refused, in plain words; and what that gives. No program stands here. -/
import Derived.Test.YtjjhogleiolngaaS3
import Derived.Test.YtjjhogleiolngaaN1
import Derived.Test.YtjjhogleiolngaaVm
set_option linter.unusedVariables false
namespace Go.Proofs.Ytjjhogleiolngaa
open Go.RowKit
structure Ev where
  p : Int
  k : Int
  m : Int
  deriving DecidableEq
def Ev.enc (x : Ev) : List Sc := [.int .i64 x.p, .int .i64 x.k, .int .i64 x.m]
theorem elen (x : Ev) : x.enc.length = 3 := rfl
abbrev ESl (H : List Blk) (a : Sc) (xs : List Ev) : Prop := GSl 3 Ev.enc H a xs
namespace Hi
def inB (x : Ev) : Prop := 0 ≤ x.p ∧ x.p ≤ 5 ∧ 0 ≤ x.m ∧ x.m ≤ 29
instance (x : Ev) : Decidable (inB x) := by unfold inB; infer_instance
def sentBy (l : List Ev) (m : Int) : Int := l.foldl (fun s y => if y.k = 2 ∧ y.m = m then y.p else s) (-1)
def okEv (l : List Ev) (x : Ev) : Prop := (x.k = 1 ∧ x.m = 0) ∨ (x.k = 2 ∧ sentBy l x.m < 0) ∨ (x.k = 3 ∧ 0 ≤ sentBy l x.m ∧ ¬sentBy l x.m = x.p ∧ x ∉ l)
instance (l : List Ev) (x : Ev) : Decidable (okEv l x) := by unfold okEv; infer_instance
def evE (l : List Ev) (x : Ev) : Int := if inB x then (if okEv l x then 0 else 4) else 1
def scanE (h : List Ev) : Nat → Nat → Int
  | 0, _ => 0
  | n + 1, i => match h[i]? with
    | none => 0
    | some x => if evE (h.take i) x = 0 then scanE h n (i + 1) else evE (h.take i) x
def hErr (h : List Ev) : Int := if 60 < h.length then 2 else scanE h h.length 0
theorem scanE_step {h : List Ev} {i : Nat} {x : Ev} (hx : h[i]? = some x) : scanE h (h.length - i) i = if evE (h.take i) x = 0 then scanE h (h.length - (i + 1)) (i + 1) else evE (h.take i) x := by
  have hi := (List.getElem?_eq_some_iff.1 hx).1
  obtain ⟨k, hk⟩ : ∃ k, h.length - i = k + 1 := ⟨h.length - i - 1, by omega⟩
  rw [hk, show h.length - (i + 1) = k by omega]
  simp only [scanE, hx]
theorem scan_ok {h : List Ev} : ∀ n i, i + n = h.length → scanE h n i = 0 → ∀ j x, i ≤ j → h[j]? = some x → inB x ∧ okEv (h.take j) x := by
  intro n
  induction n with
  | zero => intro i hi _ j x hj hx; have := (List.getElem?_eq_some_iff.1 hx).1; omega
  | succ n ih =>
    intro i hi hs j x hj hx
    obtain ⟨y, hy⟩ : ∃ y, h[i]? = some y := ⟨h[i]'(by omega), List.getElem?_eq_getElem (by omega)⟩
    simp only [scanE, hy] at hs
    by_cases he : evE (h.take i) y = 0
    · rw [if_pos he] at hs
      by_cases e : j = i
      · subst e
        rw [hy] at hx; cases hx
        unfold evE at he
        split at he
        · next h1 =>
          split at he
          · next h2 => exact ⟨h1, h2⟩
          · cases he
        · cases he
      · exact ih (i + 1) (by omega) hs j x (by omega) hx
    · rw [if_neg he] at hs; exact absurd hs he
structure Right (h : List Ev) : Prop where
  len : h.length ≤ 60
  ev : ∀ j x, h[j]? = some x → inB x ∧ okEv (h.take j) x
theorem right_of {h : List Ev} (e : hErr h = 0) : Right h := by
  unfold hErr at e
  split at e
  · cases e
  · exact ⟨by omega, fun j x hx => scan_ok h.length 0 (by omega) e j x (by omega) hx⟩
theorem sentBy_nil (m : Int) : sentBy [] m = -1 := rfl
theorem sentBy_snoc (l : List Ev) (x : Ev) (m : Int) : sentBy (l ++ [x]) m = if x.k = 2 ∧ x.m = m then x.p else sentBy l m := by
  unfold sentBy; rw [List.foldl_append]; rfl
theorem sentBy_cases (m : Int) : ∀ (l : List Ev), (sentBy l m = -1 ∧ ∀ y ∈ l, ¬(y.k = 2 ∧ y.m = m)) ∨ ∃ y ∈ l, y.k = 2 ∧ y.m = m ∧ sentBy l m = y.p := by
  have key : ∀ n (l : List Ev), l.length = n → (sentBy l m = -1 ∧ ∀ y ∈ l, ¬(y.k = 2 ∧ y.m = m)) ∨ ∃ y ∈ l, y.k = 2 ∧ y.m = m ∧ sentBy l m = y.p := by
    intro n
    induction n with
    | zero => intro l hl; have := List.length_eq_zero_iff.1 hl; subst this; exact .inl ⟨rfl, fun y hy => by cases hy⟩
    | succ n ih =>
      intro l hl
      obtain ⟨l', x, rfl⟩ : ∃ l' x, l = l' ++ [x] := by
        have hne : l ≠ [] := by intro e; subst e; cases hl
        exact ⟨l.dropLast, l.getLast hne, (List.dropLast_concat_getLast hne).symm⟩
      rw [sentBy_snoc]
      by_cases hx : x.k = 2 ∧ x.m = m
      · exact .inr ⟨x, by simp, hx.1, hx.2, if_pos hx⟩
      · rw [if_neg hx]
        rcases ih l' (by simpa using hl) with ⟨h1, h2⟩ | ⟨y, h1, h2⟩
        · exact .inl ⟨h1, fun y hy => by
            rcases List.mem_append.1 hy with h | h
            · exact h2 y h
            · simp at h; subst h; exact hx⟩
        · exact .inr ⟨y, by simp [h1], h2⟩
  exact fun l => key _ l rfl
theorem sentBy_ge {l : List Ev} (hl : ∀ y ∈ l, inB y) (m : Int) : -1 ≤ sentBy l m ∧ sentBy l m ≤ 5 := by
  rcases sentBy_cases m l with ⟨h, _⟩ | ⟨y, h1, _, _, h⟩
  · omega
  · have := hl y h1; unfold inB at this; omega
section
variable (h : List Ev)
def eP (i : Nat) : Nat := match h[i]? with | some x => x.p.toNat | none => 0
def eM (i : Nat) : Nat := match h[i]? with | some x => x.m.toNat | none => 0
def eK (i : Nat) : Int := match h[i]? with | some x => x.k | none => 0
end
section
variable {h : List Ev}
theorem eP_at {i : Nat} {x : Ev} (hx : h[i]? = some x) : eP h i = x.p.toNat := by simp [eP, hx]
theorem eM_at {i : Nat} {x : Ev} (hx : h[i]? = some x) : eM h i = x.m.toNat := by simp [eM, hx]
theorem eK_at {i : Nat} {x : Ev} (hx : h[i]? = some x) : eK h i = x.k := by simp [eK, hx]
theorem Right.inb (hR : Right h) {x : Ev} (hx : x ∈ h) : inB x := by
  obtain ⟨j, hj⟩ := List.getElem?_of_mem hx
  exact (hR.ev j x hj).1
theorem at_lt {i : Nat} (hi : i < h.length) : ∃ x, h[i]? = some x := ⟨h[i], List.getElem?_eq_getElem hi⟩
theorem Right.uniq (hR : Right h) : ∀ i j, i < h.length → j < h.length → eK h i = 2 → eK h j = 2 → eM h i = eM h j → i = j := by
  have key : ∀ i j, i < j → j < h.length → eK h i = 2 → eK h j = 2 → eM h i = eM h j → False := by
    intro i j hij hj h1 h2 h3
    obtain ⟨x, hx⟩ := at_lt (h := h) (i := i) (by omega)
    obtain ⟨y, hy⟩ := at_lt hj
    rw [eK_at hx] at h1
    rw [eK_at hy] at h2
    rw [eM_at hx, eM_at hy] at h3
    have bx := (hR.ev i x hx).1
    obtain ⟨by', oy⟩ := hR.ev j y hy
    unfold inB at bx by'
    have hm : x.m = y.m := by omega
    rcases oy with ⟨h, _⟩ | ⟨_, hs⟩ | ⟨h, _⟩
    · omega
    · rcases sentBy_cases y.m (h.take j) with ⟨_, hn⟩ | ⟨z, hz, _, _, hz4⟩
      · exact hn x (List.mem_of_getElem? (i := i) (by rw [List.getElem?_take_of_lt hij]; exact hx)) ⟨h1, hm⟩
      · have := hR.inb (List.mem_of_mem_take hz); unfold inB at this; omega
    · omega
  intro i j hi hj h1 h2 h3
  rcases Nat.lt_trichotomy i j with h | h | h
  · exact (key i j h hj h1 h2 h3).elim
  · exact h
  · exact (key j i h hi h2 h1 h3.symm).elim
theorem Right.send (hR : Right h) : ∀ i, i < h.length → eK h i = 3 → ∃ j, j < i ∧ eK h j = 2 ∧ eM h j = eM h i := by
  intro i hi h1
  obtain ⟨x, hx⟩ := at_lt hi
  rw [eK_at hx] at h1
  obtain ⟨_, ox⟩ := hR.ev i x hx
  rcases ox with ⟨h, _⟩ | ⟨h, _⟩ | ⟨_, hs, _⟩
  · omega
  · omega
  · rcases sentBy_cases x.m (h.take i) with ⟨h1, _⟩ | ⟨y, hy, h2, h3, _⟩
    · omega
    · obtain ⟨j, hj⟩ := List.getElem?_of_mem hy
      have hlt : j < i := by have := (List.getElem?_eq_some_iff.1 hj).1; rw [List.length_take] at this; omega
      rw [List.getElem?_take_of_lt hlt] at hj
      exact ⟨j, hlt, by rw [eK_at hj]; exact h2, by rw [eM_at hj, eM_at hx, h3]⟩
/-- The vectors of a right history. -/
def vosL (h : List Ev) : List (Nat → Int) := (List.range h.length).map fun i => Vc.vo (eP h) (eM h) (eK h) i
theorem vosL_at {i : Nat} (hi : i < h.length) : (vosL h)[i]? = some (Vc.vo (eP h) (eM h) (eK h) i) := by simp [vosL, hi]
@[simp] theorem vosL_len : (vosL h).length = h.length := by simp [vosL]
def DD (h : List Ev) : Nat → Nat → Prop := Vc.D h.length (eP h) (eM h) (eK h)
theorem Right.cnt (hR : Right h) {k : Nat} (hk : k < h.length) (p : Nat) : Vc.vo (eP h) (eM h) (eK h) k p = (Vc.cnt h.length (eP h) (fun i => Vc.R h.length (eP h) (eM h) (eK h) i k) p : Int) :=
  Vc.vo_cnt hR.uniq hR.send k hk p
end
end Hi
end Go.Proofs.Ytjjhogleiolngaa
