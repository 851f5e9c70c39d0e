/- CausalSays: what hearing a mail does, in plain words. No program stands here, but for the removal from an empty hold. -/
import Derived.Test.YtdeockoaalpcjaaCf
namespace Go.Proofs.Ytdeockoaalpcjaa
set_option linter.unusedSimpArgs false
set_option linter.unusedVariables false
open Go.RowKit
attribute [local irreducible] AWP ACalls Wk GcTo
attribute [local simp] tab3 ti3 tab4 ti4 tab38 ti38 tab86 ti86 tab88 ti88 tab84 ti84
def runM : Nat → (Nat → Int) → List Ma → List Ma → (Nat → Int) × List Ma × List Ma
  | 0, s, h, o => (s, h, o)
  | n + 1, s, h, o => match h.findIdx? fun x => decide (x.Rd s) with
    | none => (s, h, o)
    | some k => match h[k]? with
      | none => (s, h, o)
      | some x => runM n (bump s x.k) (h.eraseIdx k) (o ++ [x])
theorem runM_stop {n : Nat} {s : Nat → Int} {h o : List Ma} (hn : ∀ x ∈ h, decide (x.Rd s) = false) : runM n s h o = (s, h, o) := by
  cases n with
  | zero => rfl
  | succ n =>
    have : h.findIdx? (fun x => decide (x.Rd s)) = none := List.findIdx?_eq_none_iff.2 hn
    simp only [runM, this]
theorem runM_step {s : Nat → Int} {h o : List Ma} {k : Nat} {x : Ma} (hx : h[k]? = some x) (hr : decide (x.Rd s) = true) (hb : ∀ y ∈ h.take k, decide (y.Rd s) = false) : runM h.length s h o = runM (h.eraseIdx k).length (bump s x.k) (h.eraseIdx k) (o ++ [x]) := by
  obtain ⟨hk, hxe⟩ := List.getElem?_eq_some_iff.1 hx
  have hf : h.findIdx? (fun x => decide (x.Rd s)) = some k := by
    rw [List.findIdx?_eq_some_iff_getElem]
    refine ⟨hk, by rw [hxe]; exact hr, fun j hj => ?_⟩
    have : h[j]'(by omega) ∈ h.take k := List.mem_of_getElem? (i := j) (by rw [List.getElem?_take_of_lt hj]; exact List.getElem?_eq_getElem (by omega))
    rw [hb _ this]; simp
  have hl : (h.eraseIdx k).length = h.length - 1 := List.length_eraseIdx_of_lt hk
  obtain ⟨n, hn⟩ : ∃ n, h.length = n + 1 := ⟨h.length - 1, by omega⟩
  rw [hl, hn, Nat.add_sub_cancel]
  simp only [runM, hf, hx]
structure HR where
  e : Int
  me : Int
  seen : Nat → Int
  hold : List Ma
  out : List Ma
def lateM (s : Nat → Int) (x : Ma) : Bool := decide (x.at_ x.k ≤ s x.k)
def endM (me : Int) (r : (Nat → Int) × List Ma × List Ma) : HR := ⟨0, me, r.1, r.2.1.filter fun x => !lateM r.1 x, r.2.2⟩
def hearR (me : Int) (seen : Nat → Int) (xs : List Ma) (m : Ma) : HR :=
  if m.src = me ∨ m.at_ m.k ≤ seen m.k ∨ twinM xs xs.length m = true then ⟨0, me, seen, xs, []⟩
  else if m.Rd seen then endM me (runM xs.length (bump seen m.k) xs [m])
  else if xs.length = 40 then ⟨8, 0, fun _ => 0, [], []⟩ else ⟨0, me, seen, xs ++ [m], []⟩
/-- What is seen stays within bounds. -/
def Sb (s : Nat → Int) : Prop := ∀ j, j < 6 → 0 ≤ s j ∧ s j ≤ 9223372036854775807
theorem Sb.bump {s : Nat → Int} {x : Ma} (h : Sb s) (hx : x.Rd s) (hw : x.wf) (hr : x.Rt) : Sb (bump s x.k) := by
  intro j hj
  unfold Go.Proofs.Ytdeockoaalpcjaa.bump
  by_cases e : j = x.k
  · rw [if_pos e]
    have h1 := hx.1
    have h2 := hw x.k hr.k6.1
    have h3 := h x.k hr.k6.1
    omega
  · rw [if_neg e]; exact h j hj
theorem bump_wrap {s : Nat → Int} {x : Ma} (h : Sb s) (hx : x.Rd s) (hw : x.wf) (hr : x.Rt) : IntKind.i64.wrap (s x.k + 1) = s x.k + 1 := by
  have h1 := hx.1
  have h2 := hw x.k hr.k6.1
  have h3 := h x.k hr.k6.1
  exact wrap_in _ (by omega) (by omega)
theorem err_ok {me : Int} {seen : Nat → Int} {xs : List Ma} (he : caErr me seen xs = 0) : 0 ≤ me ∧ me ≤ 5 ∧ Wn (fun _ => 0) seen ∧ xs.length ≤ 40 ∧ scanM me seen xs xs.length 0 = 0 := by
  unfold caErr at he
  split at he
  · cases he
  · next h =>
    split at he
    · cases he
    · refine ⟨by omega, by omega, ?_, by omega, he⟩
      by_cases hw : Wn (fun _ => 0) seen
      · exact hw
      · exact absurd (.inr (.inr hw)) h
theorem scan_ok {me : Int} {seen : Nat → Int} {xs : List Ma} (h : scanM me seen xs xs.length 0 = 0) : ∀ x ∈ xs, x.Rt := by
  have key : ∀ n i, i + n = xs.length → scanM me seen xs n i = 0 → ∀ j x, i ≤ j → xs[j]? = some x → x.Rt := by
    intro n
    induction n with
    | zero => intro i hi _ j x hj hx; have := (List.getElem?_eq_some_iff.1 hx).1; omega
    | succ n ih =>
      intro i hi hs j x hj hx
      obtain ⟨m, hm⟩ : ∃ m, xs[i]? = some m := ⟨xs[i]'(by omega), List.getElem?_eq_getElem (by omega)⟩
      simp only [scanM, hm] at hs
      by_cases hb : badM me seen xs i m
      · rw [if_pos hb] at hs; cases hs
      · rw [if_neg hb] at hs
        by_cases e : j = i
        · subst e
          rw [hm] at hx; cases hx
          by_cases hr : x.Rt
          · exact hr
          · exact absurd (.inl hr) hb
        · exact ih (i + 1) (by omega) hs j x (by omega) hx
  intro x hx
  obtain ⟨j, hj⟩ := List.getElem?_of_mem hx
  exact key _ 0 (by omega) h j x (by omega) hj
set_option maxRecDepth 100000 in
theorem deleteFuncNone {H : List Blk} {a : Sc} {f : FuncId} {caps : List (Nat × Nat)} {Q : AV → List Blk → Prop} (ha : a = .nils ∨ a = .sle) (q : Q (.c (.sc a)) H) :
    ACalls Try.prog 123 [.sc a, .sc (.fn f caps)] H Q := by
  refine acalls_of tabOk Try.func123 (by kernel_rfl) rfl (by kernel_rfl) ?_
  have hm : MSl H a [] := .inl ⟨rfl, ha⟩
  (repeat' (first | refine awp_seq ?_ | (refine awp_region tabOk ?_; simp) | (refine awp_if ?_; simp) | refine awp_block ?_ | refine And.intro ?_ ?_ | intro _ | (refine awp_skip ?_; simp) | (refine awp_ret ?_; simp) | (refine awp_exit ?_; simp)))
  refine indexMail (p := fun _ => false) hm (by simp) (fun x hx => by simp at hx) (fun _ => ?_) (fun i x hx => by simp at hx)
  ((try simp); (repeat' (first | refine awp_seq ?_ | (refine awp_region tabOk ?_; simp) | (refine awp_if ?_; simp) | refine awp_block ?_ | refine And.intro ?_ ?_ | intro _ | (refine awp_skip ?_; simp) | (refine awp_ret ?_; simp) | (refine awp_exit ?_; simp))))
  exact ⟨H, _, GcTo.refl (Nat.le_refl _), q⟩
end Go.Proofs.Ytdeockoaalpcjaa
