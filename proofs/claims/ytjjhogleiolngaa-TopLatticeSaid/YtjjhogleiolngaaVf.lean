/- partref.Closure: who is ahead of whom, by going on. -/
import Derived.Test.YtjjhogleiolngaaVa
namespace Go.Proofs.Ytjjhogleiolngaa
set_option linter.unusedSimpArgs false
set_option linter.unusedVariables false
open Go.RowKit
structure Pa where
  a : Int
  b : Int
  deriving DecidableEq
def Pa.enc (x : Pa) : List Sc := [.int .i64 x.a, .int .i64 x.b]
theorem plen (x : Pa) : x.enc.length = 2 := rfl
theorem penc_def (x : Pa) : x.enc = [.int .i64 x.a, .int .i64 x.b] := rfl
abbrev PSl (H : List Blk) (a : Sc) (xs : List Pa) : Prop := GSl 2 Pa.enc H a xs
theorem wk_gclA1 {N : Nat} {H0 A K H' : List Blk} {T : Nat → AV} {L L' : List Blk} {l : List (Nat × AV)} (hK : K = H0 ++ A) (hA : ∀ b ∈ A, LowB (K.length + 1) b) (ks : List Nat) (h1 : ks[0]? = some 0) (hg : GcOk K.length ks (K ++ L).length L L') (hH : K ++ L' = H')
    (h : tlOkM (mStd K.length ks (K ++ L).length) T l) : Wk N H0 T (K ++ L) (tl l) H' := by
  subst hH
  intro ρ0 w0 ρ a w h0 hs
  obtain ⟨h1, h2⟩ := gc_relA hK h0 hs.rel hs.stp hg (fun b hb => hA b hb _ fun i hi => by
    by_cases e : i = K.length
    · subst e; rw [mStd_0, h1]; rfl
    · exact mStd_low (by omega))
  refine ⟨_, hs.dfr, ⟨hs.slots.1, fun i hi => ?_⟩, h1, by rw [hK]; simp, h2⟩
  rcases tl_ofM h i with e | e
  · rw [e]; exact trivial
  · have := hs.slots.2 i hi
    rw [← e] at this
    exact relV_ren this
namespace Cl
def Rl (l : List Pa) (x y : Nat) : Prop := ∃ p ∈ l, p.a = x ∧ p.b = y
open Classical in
noncomputable def clo (l : List Pa) (x y : Nat) : Bool := decide (Relation.TransGen (Rl l) x y)
def Bd (n : Nat) (l : List Pa) : Prop := ∀ p ∈ l, 0 ≤ p.a ∧ p.a < n ∧ 0 ≤ p.b ∧ p.b < n
def cF (n : Nat) (f : Nat → Bool) : Nat := (List.range n).countP fun i => !f i
def setF (f : Nat → Bool) (b : Nat) : Nat → Bool := fun j => if j = b then true else f j
theorem cF_set {f : Nat → Bool} {b : Nat} (h : f b = false) : ∀ {n : Nat}, b < n → cF n (setF f b) + 1 = cF n f := by
  have key : ∀ n, cF n (setF f b) + (if b < n then 1 else 0) = cF n f := by
    intro n
    induction n with
    | zero => rfl
    | succ n ih =>
      unfold cF at ih ⊢
      rw [List.range_succ, List.countP_append, List.countP_append, List.countP_singleton, List.countP_singleton]
      by_cases e : n = b
      · subst e
        have h1 : setF f n n = true := if_pos rfl
        simp only [h, h1, Nat.lt_irrefl, if_false] at ih ⊢
        simp; omega
      · have h1 : setF f b n = f n := if_neg e
        rw [h1]
        by_cases hb : b < n
        · simp only [hb, if_true, show b < n + 1 by omega] at ih ⊢; omega
        · simp only [hb, if_false, show ¬b < n + 1 by omega] at ih ⊢; omega
  intro n hb
  have := key n
  rw [if_pos hb] at this
  exact this
def nI (l : List Nat) : List Int := l.map fun (x : Nat) => (x : Int)
@[simp] theorem nI_len (l : List Nat) : (nI l).length = l.length := by simp [nI]
theorem nI_app (l m : List Nat) : nI (l ++ m) = nI l ++ nI m := by simp [nI]
/-- From k on: the row, what is still to do. -/
structure Bf (n : Nat) (l : List Pa) (k : Nat) (f : Nat → Bool) (td : List Nat) : Prop where
  snd : ∀ b, f b = true → Relation.TransGen (Rl l) k b
  tdo : ∀ x ∈ td, (x = k ∨ f x = true) ∧ x < n
  cls : ∀ x, (x = k ∨ f x = true) → x ∉ td → ∀ y, Rl l x y → f y = true
/-- While the pairs are gone through for what was taken. -/
structure Bg (n : Nat) (l : List Pa) (k : Nat) (at_ : Nat) (j : Nat) (f : Nat → Bool) (td : List Nat) : Prop where
  lt : at_ < n ∧ (at_ = k ∨ f at_ = true)
  snd : ∀ b, f b = true → Relation.TransGen (Rl l) k b
  tdo : ∀ x ∈ td, (x = k ∨ f x = true) ∧ x < n
  cls : ∀ x, (x = k ∨ f x = true) → x ∉ td → x ≠ at_ → ∀ y, Rl l x y → f y = true
  got : ∀ p ∈ l.take j, p.a = (at_ : Int) → f p.b.toNat = true
theorem Bf.start {n : Nat} {l : List Pa} {k : Nat} (hk : k < n) : Bf n l k (fun _ => false) [k] :=
  ⟨fun b h => (by cases h), fun x hx => (by simp at hx; subst hx; exact ⟨.inl rfl, hk⟩), fun x hx hn => (by
    rcases hx with rfl | h
    · exact absurd (by simp) hn
    · cases h)⟩
theorem Bf.take {n : Nat} {l : List Pa} {k : Nat} {f : Nat → Bool} {x : Nat} {td : List Nat} (h : Bf n l k f (x :: td)) : Bg n l k x 0 f td :=
  ⟨⟨(h.tdo x (by simp)).2, (h.tdo x (by simp)).1⟩, h.snd, fun y hy => h.tdo y (by simp [hy]), fun y h1 h2 h3 => h.cls y h1 (by simp [h2, h3]), fun p hp => by simp at hp⟩
theorem Bg.done {n : Nat} {l : List Pa} {k x : Nat} {f : Nat → Bool} {td : List Nat} (h : Bg n l k x l.length f td) : Bf n l k f td :=
  ⟨h.snd, h.tdo, fun y h1 h2 z hz => by
    by_cases e : y = x
    · subst e
      obtain ⟨p, hp, e1, e2⟩ := hz
      have := h.got p (by rw [List.take_length]; exact hp) e1
      rwa [e2, Int.toNat_natCast] at this
    · exact h.cls y h1 h2 e z hz⟩
theorem Bg.skip {n : Nat} {l : List Pa} {k x j : Nat} {f : Nat → Bool} {td : List Nat} {p : Pa} (h : Bg n l k x j f td) (hp : l[j]? = some p) (hs : p.a = (x : Int) → f p.b.toNat = true) : Bg n l k x (j + 1) f td :=
  ⟨h.lt, h.snd, h.tdo, h.cls, fun q hq e => by
    rw [take_snoc hp] at hq
    rcases List.mem_append.1 hq with hq | hq
    · exact h.got q hq e
    · simp at hq; subst hq; exact hs e⟩
theorem Bg.push {n : Nat} {l : List Pa} {k x j b : Nat} {f : Nat → Bool} {td : List Nat} {p : Pa} (h : Bg n l k x j f td) (hp : l[j]? = some p) (ha : p.a = (x : Int)) (hb : p.b = (b : Int)) (hn : b < n) : Bg n l k x (j + 1) (setF f b) (td ++ [b]) := by
  have up : ∀ y, f y = true → setF f b y = true := fun y hy => by unfold setF; split <;> first | rfl | exact hy
  have hr : Rl l x b := ⟨p, List.mem_of_getElem? hp, ha, hb⟩
  refine ⟨⟨h.lt.1, h.lt.2.imp id (up _)⟩, fun y hy => ?_, fun y hy => ?_, fun y h1 h2 h3 z hz => ?_, fun q hq e => ?_⟩
  · unfold setF at hy
    split at hy
    · rename_i e; subst e
      rcases h.lt.2 with rfl | h2
      · exact .single hr
      · exact .tail (h.snd _ h2) hr
    · exact h.snd y hy
  · rcases List.mem_append.1 hy with hy | hy
    · exact ⟨(h.tdo y hy).1.imp id (up _), (h.tdo y hy).2⟩
    · simp at hy; subst hy; exact ⟨.inr (if_pos rfl), hn⟩
  · have n1 : y ∉ td := fun e => h2 (by simp [e])
    have n2 : ¬y = b := fun e => h2 (by simp [e])
    refine up _ (h.cls y ?_ n1 h3 z hz)
    rcases h1 with h1 | h1
    · exact .inl h1
    · unfold setF at h1; rw [if_neg n2] at h1; exact .inr h1
  · rw [take_snoc hp] at hq
    rcases List.mem_append.1 hq with hq | hq
    · exact up _ (h.got q hq e)
    · simp at hq; subst hq; rw [hb, Int.toNat_natCast]; exact if_pos rfl
open Classical in
theorem Bf.fin {n : Nat} {l : List Pa} {k : Nat} {f : Nat → Bool} (h : Bf n l k f []) (b : Nat) : f b = clo l k b := by
  have key : Relation.TransGen (Rl l) k b → f b = true := fun t => by
    induction t with
    | single d => exact h.cls k (.inl rfl) (by simp) _ d
    | tail _ d ih => exact h.cls _ (.inr ih) (by simp) _ d
  unfold clo
  cases e : f b with
  | true => exact (decide_eq_true (h.snd b e)).symm
  | false => refine (decide_eq_false fun t => ?_).symm; rw [key t] at e; cases e
end Cl
end Go.Proofs.Ytjjhogleiolngaa
