/- RingSays: Check, RingErr, Round. -/
import Derived.Test.YtdeockoaalpcjaaS1
import Derived.Test.YtdeockoaalpcjaaG2
import Derived.Test.YtdeockoaalpcjaaS2
namespace Go.Proofs.Ytdeockoaalpcjaa
set_option linter.unusedSimpArgs false
set_option linter.unusedVariables false
open Go.RowKit
attribute [local irreducible] AWP ACalls Wk GcTo
attribute [local simp] tab3 ti3 tab24 ti24 tab22 ti22
namespace Rg
def errS (l : List Int) : Nat → Nat → Int
  | 0, _ => 0
  | n + 1, i => if val l i < 0 ∨ 16777215 < val l i then 1 else if val l i ∈ l.take i then 4 else errS l n (i + 1)
def err (l : List Int) : Int := if l.length < 1 ∨ 30 < l.length then 1 else errS l l.length 0
theorem errS_step (l : List Int) {i : Nat} (h : i < l.length) : errS l (l.length - i) i = if val l i < 0 ∨ 16777215 < val l i then 1 else if val l i ∈ l.take i then 4 else errS l (l.length - (i + 1)) (i + 1) := by
  obtain ⟨k, hk⟩ : ∃ k, l.length - i = k + 1 := ⟨l.length - i - 1, by omega⟩
  rw [hk, show l.length - (i + 1) = k by omega]; rfl
theorem val_at {l : List Int} {i : Nat} (h : i < l.length) : l[i]? = some (val l i) := by
  unfold val; rw [List.getD_eq_getElem?_getD, List.getElem?_eq_getElem h]; rfl
structure Right (l : List Int) : Prop where
  n1 : 1 ≤ l.length
  n2 : l.length ≤ 30
  lo : ∀ i, i < l.length → 0 ≤ val l i ∧ val l i ≤ 16777215
  nd : l.Nodup
theorem right_of {l : List Int} (h : err l = 0) : Right l := by
  unfold err at h
  split at h
  · cases h
  · rename_i hn
    have key : ∀ k i, i + k = l.length → errS l k i = 0 → (∀ j, i ≤ j → j < l.length → (0 ≤ val l j ∧ val l j ≤ 16777215) ∧ val l j ∉ l.take j) := by
      intro k
      induction k with
      | zero => intro i h1 _ j h2 h3; omega
      | succ k ih =>
        intro i h1 h2 j h3 h4
        unfold errS at h2
        split at h2
        · cases h2
        · rename_i hb
          split at h2
          · cases h2
          · rename_i hm
            by_cases e : j = i
            · subst e; exact ⟨by omega, hm⟩
            · exact ih (i + 1) (by omega) h2 j (by omega) h4
    have key := key l.length 0 (by omega) h
    refine ⟨by omega, by omega, fun i hi => (key i (by omega) hi).1, ?_⟩
    rw [List.Nodup, List.pairwise_iff_getElem]
    intro i j hi hj hij e
    refine (key j (by omega) hj).2 ?_
    have e2 : val l j = l[j] := by have := val_at hj; rw [List.getElem?_eq_getElem hj] at this; exact (Option.some.inj this).symm
    rw [e2, ← e]
    exact List.mem_of_getElem? (i := i) (by rw [List.getElem?_take_of_lt hij, List.getElem?_eq_getElem hi])
end Rg
open Rg
set_option maxRecDepth 100000 in
theorem ringCheck {H : List Blk} {a : Sc} {l : List Int} {Q : AV → List Blk → Prop} (ha : ISl H a l) (q : Q (.c (.sc (.int .i64 (err l)))) H) :
    ACalls Try.prog 32 [.sc a] H Q := by
  refine acalls_of tabOk Try.func32 (by kernel_rfl) rfl (by kernel_rfl) ?_
  have la := ha.len
  by_cases h1 : l.length < 1 ∨ 30 < l.length
  · have e : err l = 1 := if_pos h1
    rw [e] at q
    rcases h1 with h1 | h1
    · have h1' : (l.length : Int) < 1 := by omega
      (repeat' (first | refine awp_seq ?_ | (refine awp_region tabOk ?_; simp [-lenC, la, h1']) | (refine awp_if ?_; simp [-lenC, la, h1']) | refine awp_block ?_ | refine And.intro ?_ ?_ | intro _ | (refine awp_skip ?_; simp [-lenC, la, h1']) | (refine awp_ret ?_; simp [-lenC, la, h1']) | (refine awp_exit ?_; simp [-lenC, la, h1'])))
      exact ⟨H, _, GcTo.refl (Nat.le_refl _), q⟩
    · have h1' : ¬(l.length : Int) < 1 := by omega
      have h2' : (30 : Int) < l.length := by omega
      (repeat' (first | refine awp_seq ?_ | (refine awp_region tabOk ?_; simp [-lenC, la, h1', h2']) | (refine awp_if ?_; simp [-lenC, la, h1', h2']) | refine awp_block ?_ | refine And.intro ?_ ?_ | intro _ | (refine awp_skip ?_; simp [-lenC, la, h1', h2']) | (refine awp_ret ?_; simp [-lenC, la, h1', h2']) | (refine awp_exit ?_; simp [-lenC, la, h1', h2'])))
      exact ⟨H, _, GcTo.refl (Nat.le_refl _), q⟩
  · have e : err l = errS l l.length 0 := if_neg h1
    have h1' : ¬(l.length : Int) < 1 := by omega
    have h2' : ¬(30 : Int) < l.length := by omega
    (repeat' (first | refine awp_seq ?_ | (refine awp_region tabOk ?_; simp [-lenC, la, h1', h2']) | (refine awp_if ?_; simp [-lenC, la, h1', h2']) | refine awp_block ?_ | refine And.intro ?_ ?_ | intro _ | (refine awp_skip ?_; simp [-lenC, la, h1', h2']) | (refine awp_ret ?_; simp [-lenC, la, h1', h2']) | (refine awp_exit ?_; simp [-lenC, la, h1', h2'])))
    refine awp_loop_at (α := {i : Nat // i ≤ l.length ∧ err l = errS l (l.length - i) i}) (fun i => [(0, .c (.sc a)), (13, .c (.sc a)), (14, .c (.sc (.int .i64 l.length))), (15, .c (.sc (.int .i64 i.1)))]) (fun _ => H) (fun i => l.length - i.1) ⟨0, by omega, e⟩ (wk_tl (by simp)) ?_
    rintro ⟨i, hi, he⟩
    by_cases hlt : i < l.length
    · obtain ⟨id, off, cap, cs, rfl, hcap, hc, hx⟩ := ha.at hlt
      have hci := hx i _ (val_at hlt)
      have wr := wrapS i (by omega)
      have c1 : i ≤ cap := by omega
      rw [errS_step l hlt] at he
      by_cases hb : val l i < 0 ∨ 16777215 < val l i
      · rw [if_pos hb] at he
        rw [he] at q
        rcases hb with hb | hb
        · (repeat' (first | refine awp_seq ?_ | (refine awp_region tabOk ?_; simp [hlt, hc, hci, hb]) | (refine awp_if ?_; simp [hlt, hc, hci, hb]) | refine awp_block ?_ | refine And.intro ?_ ?_ | intro _ | (refine awp_skip ?_; simp [hlt, hc, hci, hb]) | (refine awp_ret ?_; simp [hlt, hc, hci, hb]) | (refine awp_exit ?_; simp [hlt, hc, hci, hb])))
          exact ⟨H, _, GcTo.refl (Nat.le_refl _), q⟩
        · have hb0 : ¬val l i < 0 := by omega
          (repeat' (first | refine awp_seq ?_ | (refine awp_region tabOk ?_; simp [hlt, hc, hci, hb, hb0]) | (refine awp_if ?_; simp [hlt, hc, hci, hb, hb0]) | refine awp_block ?_ | refine And.intro ?_ ?_ | intro _ | (refine awp_skip ?_; simp [hlt, hc, hci, hb, hb0]) | (refine awp_ret ?_; simp [hlt, hc, hci, hb, hb0]) | (refine awp_exit ?_; simp [hlt, hc, hci, hb, hb0])))
          exact ⟨H, _, GcTo.refl (Nat.le_refl _), q⟩
      · rw [if_neg hb] at he
        have hb0 : ¬val l i < 0 := by omega
        have hb1 : ¬16777215 < val l i := by omega
        (repeat' (first | refine awp_seq ?_ | (refine awp_region tabOk ?_; simp [hlt, hc, hci, hb0, hb1, c1]) | (refine awp_if ?_; simp [hlt, hc, hci, hb0, hb1, c1]) | refine awp_block ?_ | refine And.intro ?_ ?_ | intro _ | (refine awp_skip ?_; simp [hlt, hc, hci, hb0, hb1, c1]) | (refine awp_ret ?_; simp [hlt, hc, hci, hb0, hb1, c1]) | (refine awp_exit ?_; simp [hlt, hc, hci, hb0, hb1, c1])))
        refine containsInt (xs := l.take i) ?_ (by simp; omega) ?_
        · refine .inr ⟨id, off, cap, cs, ?_, ?_, hc, fun j x hj => ?_⟩
          · rw [List.length_take, Nat.min_eq_left (by omega)]
          · simp; omega
          · have hji : j < i := by have := (List.getElem?_eq_some_iff.1 hj).1; simp at this; omega
            rw [List.getElem?_take_of_lt hji] at hj
            exact hx j x hj
        · by_cases hm : val l i ∈ l.take i
          · rw [if_pos hm] at he
            rw [he] at q
            ((try simp [hm]); (repeat' (first | refine awp_seq ?_ | (refine awp_region tabOk ?_; simp [hm]) | (refine awp_if ?_; simp [hm]) | refine awp_block ?_ | refine And.intro ?_ ?_ | intro _ | (refine awp_skip ?_; simp [hm]) | (refine awp_ret ?_; simp [hm]) | (refine awp_exit ?_; simp [hm]))))
            exact ⟨H, _, GcTo.refl (Nat.le_refl _), q⟩
          · rw [if_neg hm] at he
            ((try simp [hm, wr]); (repeat' (first | refine awp_seq ?_ | (refine awp_region tabOk ?_; simp [hm, wr]) | (refine awp_if ?_; simp [hm, wr]) | refine awp_block ?_ | refine And.intro ?_ ?_ | intro _ | (refine awp_skip ?_; simp [hm, wr]) | (refine awp_ret ?_; simp [hm, wr]) | (refine awp_exit ?_; simp [hm, wr]))))
            exact ⟨i + 1, by omega, ⟨by omega, he⟩, wk_tl (by simp)⟩
    · obtain rfl : i = l.length := by omega
      (repeat' (first | refine awp_seq ?_ | (refine awp_region tabOk ?_; simp [hlt]) | (refine awp_if ?_; simp [hlt]) | refine awp_block ?_ | refine And.intro ?_ ?_ | intro _ | (refine awp_skip ?_; simp [hlt]) | (refine awp_ret ?_; simp [hlt]) | (refine awp_exit ?_; simp [hlt])))
      rw [he, Nat.sub_self] at q
      exact ⟨H, _, GcTo.refl (Nat.le_refl _), q⟩
set_option maxRecDepth 100000 in
theorem ringErr {H : List Blk} {a : Sc} {l : List Int} {Q : AV → List Blk → Prop} (ha : ISl H a l) (q : Q (.c (.sc (.int .i64 (err l)))) H) :
    ACalls Try.prog 29 [.sc a] H Q := by
  refine acalls_of tabOk Try.func29 (by kernel_rfl) rfl (by kernel_rfl) ?_
  have la := ha.len
  by_cases h1 : l.length < 1 ∨ 30 < l.length
  · have e : err l = 1 := if_pos h1
    rw [e] at q
    rcases h1 with h1 | h1
    · have h1' : (l.length : Int) = 0 := by omega
      (repeat' (first | refine awp_seq ?_ | (refine awp_region tabOk ?_; simp [-lenC, la, h1']) | (refine awp_if ?_; simp [-lenC, la, h1']) | refine awp_block ?_ | refine And.intro ?_ ?_ | intro _ | (refine awp_skip ?_; simp [-lenC, la, h1']) | (refine awp_ret ?_; simp [-lenC, la, h1']) | (refine awp_exit ?_; simp [-lenC, la, h1'])))
      exact ⟨H, _, GcTo.refl (Nat.le_refl _), q⟩
    · have h1' : ¬(l.length : Int) = 0 := by omega
      have h2' : (30 : Int) < l.length := by omega
      (repeat' (first | refine awp_seq ?_ | (refine awp_region tabOk ?_; simp [-lenC, la, h1', h2']) | (refine awp_if ?_; simp [-lenC, la, h1', h2']) | refine awp_block ?_ | refine And.intro ?_ ?_ | intro _ | (refine awp_skip ?_; simp [-lenC, la, h1', h2']) | (refine awp_ret ?_; simp [-lenC, la, h1', h2']) | (refine awp_exit ?_; simp [-lenC, la, h1', h2'])))
      exact ⟨H, _, GcTo.refl (Nat.le_refl _), q⟩
  · have e : err l = errS l l.length 0 := if_neg h1
    have h1' : ¬l = [] := fun e => by rw [e] at h1; simp at h1
    have h2' : ¬(30 : Int) < l.length := by omega
    (repeat' (first | refine awp_seq ?_ | (refine awp_region tabOk ?_; simp [-lenC, la, h1', h2']) | (refine awp_if ?_; simp [-lenC, la, h1', h2']) | refine awp_block ?_ | refine And.intro ?_ ?_ | intro _ | (refine awp_skip ?_; simp [-lenC, la, h1', h2']) | (refine awp_ret ?_; simp [-lenC, la, h1', h2']) | (refine awp_exit ?_; simp [-lenC, la, h1', h2'])))
    refine awp_loop_at (α := {i : Nat // i ≤ l.length ∧ err l = errS l (l.length - i) i}) (fun i => [(0, .c (.sc a)), (13, .c (.sc a)), (14, .c (.sc (.int .i64 l.length))), (15, .c (.sc (.int .i64 i.1)))]) (fun _ => H) (fun i => l.length - i.1) ⟨0, by omega, e⟩ (wk_tl (by simp)) ?_
    rintro ⟨i, hi, he⟩
    by_cases hlt : i < l.length
    · have ha' := ha
      obtain ⟨id, off, cap, cs, rfl, hcap, hc, hx⟩ := ha.at hlt
      have hci := hx i _ (val_at hlt)
      have wr := wrapS i (by omega)
      rw [errS_step l hlt] at he
      by_cases hb : val l i < 0 ∨ 16777215 < val l i
      · rw [if_pos hb] at he
        rw [he] at q
        rcases hb with hb | hb
        · (repeat' (first | refine awp_seq ?_ | (refine awp_region tabOk ?_; simp [hlt, hc, hci, hb]) | (refine awp_if ?_; simp [hlt, hc, hci, hb]) | refine awp_block ?_ | refine And.intro ?_ ?_ | intro _ | (refine awp_skip ?_; simp [hlt, hc, hci, hb]) | (refine awp_ret ?_; simp [hlt, hc, hci, hb]) | (refine awp_exit ?_; simp [hlt, hc, hci, hb])))
          exact ⟨H, _, GcTo.refl (Nat.le_refl _), q⟩
        · have hb0 : ¬val l i < 0 := by omega
          (repeat' (first | refine awp_seq ?_ | (refine awp_region tabOk ?_; simp [hlt, hc, hci, hb, hb0]) | (refine awp_if ?_; simp [hlt, hc, hci, hb, hb0]) | refine awp_block ?_ | refine And.intro ?_ ?_ | intro _ | (refine awp_skip ?_; simp [hlt, hc, hci, hb, hb0]) | (refine awp_ret ?_; simp [hlt, hc, hci, hb, hb0]) | (refine awp_exit ?_; simp [hlt, hc, hci, hb, hb0])))
          exact ⟨H, _, GcTo.refl (Nat.le_refl _), q⟩
      · rw [if_neg hb] at he
        have hb0 : ¬val l i < 0 := by omega
        have hb1 : ¬16777215 < val l i := by omega
        (repeat' (first | refine awp_seq ?_ | (refine awp_region tabOk ?_; simp [hlt, hc, hci, hb0, hb1]) | (refine awp_if ?_; simp [hlt, hc, hci, hb0, hb1]) | refine awp_block ?_ | refine And.intro ?_ ?_ | intro _ | (refine awp_skip ?_; simp [hlt, hc, hci, hb0, hb1]) | (refine awp_ret ?_; simp [hlt, hc, hci, hb0, hb1]) | (refine awp_exit ?_; simp [hlt, hc, hci, hb0, hb1])))
        refine indexInt ha' (by omega) (fun hv => ?_) (fun j hj hv => ?_)
        · exact absurd (List.mem_of_getElem? (val_at hlt)) hv
        · by_cases hji : j < i
          · have hm : val l i ∈ l.take i := List.mem_of_getElem? (i := j) (by rw [List.getElem?_take_of_lt hji]; exact hj)
            rw [if_pos hm] at he
            rw [he] at q
            have hne : ¬(j : Int) = i := by omega
            ((try simp [hne]); (repeat' (first | refine awp_seq ?_ | (refine awp_region tabOk ?_; simp [hne]) | (refine awp_if ?_; simp [hne]) | refine awp_block ?_ | refine And.intro ?_ ?_ | intro _ | (refine awp_skip ?_; simp [hne]) | (refine awp_ret ?_; simp [hne]) | (refine awp_exit ?_; simp [hne]))))
            exact ⟨H, _, GcTo.refl (Nat.le_refl _), q⟩
          · have hij : j = i := by
              rcases Nat.lt_or_ge i j with h | h
              · exact absurd (List.mem_of_getElem? (i := i) (by rw [List.getElem?_take_of_lt h]; exact val_at hlt)) hv
              · omega
            subst hij
            rw [if_neg hv] at he
            ((try simp [wr]); (repeat' (first | refine awp_seq ?_ | (refine awp_region tabOk ?_; simp [wr]) | (refine awp_if ?_; simp [wr]) | refine awp_block ?_ | refine And.intro ?_ ?_ | intro _ | (refine awp_skip ?_; simp [wr]) | (refine awp_ret ?_; simp [wr]) | (refine awp_exit ?_; simp [wr]))))
            exact ⟨j + 1, by omega, ⟨by omega, he⟩, wk_tl (by simp)⟩
    · obtain rfl : i = l.length := by omega
      (repeat' (first | refine awp_seq ?_ | (refine awp_region tabOk ?_; simp [hlt]) | (refine awp_if ?_; simp [hlt]) | refine awp_block ?_ | refine And.intro ?_ ?_ | intro _ | (refine awp_skip ?_; simp [hlt]) | (refine awp_ret ?_; simp [hlt]) | (refine awp_exit ?_; simp [hlt])))
      rw [he, Nat.sub_self] at q
      exact ⟨H, _, GcTo.refl (Nat.le_refl _), q⟩
end Go.Proofs.Ytdeockoaalpcjaa
