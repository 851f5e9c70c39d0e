/- PulseSays: PulseErr and Check. -/
import Derived.Test.YtdeockoaalpcjaaB2
import Derived.Test.YtdeockoaalpcjaaP1
namespace Go.Proofs.Ytdeockoaalpcjaa
set_option linter.unusedSimpArgs false
set_option linter.unusedVariables false
open Go.RowKit
attribute [local irreducible] AWP ACalls Wk GcTo
attribute [local simp] tab60 ti60 tab3 ti3 tab37 ti37 tab58 ti58 tab4 ti4 tab22 ti22
set_option maxRecDepth 100000 in
theorem pulseErr (H : List Blk) (p : Pu) :
    ACalls Try.prog 35 [.agg p.cs] H fun r H' => r = .c (.sc (.int .i64 p.err)) ∧ H' = H := by
  refine acalls_of tabOk Try.func35 (by kernel_rfl) rfl (by kernel_rfl) ?_
  (repeat' (first | refine awp_seq ?_ | (refine awp_region tabOk ?_; simp) | (refine awp_if ?_; simp) | refine awp_block ?_ | refine And.intro ?_ ?_ | intro _ | (refine awp_skip ?_; simp) | (refine awp_ret ?_; simp) | (refine awp_exit ?_; simp)))
  · rename_i h
    have e : p.err = 1 := by unfold Pu.err; rw [if_pos (by simp; omega)]
    exact ⟨H, _, gcTo_none (fun _ => rfl), by rw [e], rfl⟩
  · rename_i h1 h2 h3 h4
    have e : p.err = p.scan 6 0 := by unfold Pu.err; rw [if_neg (by simp; omega)]
    refine awp_loop_at (α := {i : Nat // i ≤ 6 ∧ p.err = p.scan (6 - i) i}) (fun i => [(1, .c (.sc (.ptr H.length 0))), (22, .c (.sc (.int .i64 i.1)))]) (fun _ => H ++ [.own p.cs]) (fun i => 6 - i.1) ⟨0, by omega, e⟩ (wk_tl (by simp)) ?_
    rintro ⟨i, hi, he⟩
    by_cases hlt : i < 6
    · have hl := p.at_l hlt
      have hw := p.at_w hlt
      have hd := p.at_d hlt
      have hs : p.scan (6 - i) i = if p.bad i then 1 else if p.d i && decide ((i : Int) = p.me) then 4 else p.scan (6 - (i + 1)) (i + 1) := by
        obtain ⟨k, hk⟩ : ∃ k, 6 - i = k + 1 := ⟨5 - i, by omega⟩
        rw [hk, show 6 - (i + 1) = k by omega]; rfl
      have hi6 : (i : Int) < 6 := by omega
      have wr := wrapS i (by omega)
      (repeat' (first | refine awp_seq ?_ | (refine awp_region tabOk ?_; simp [hlt, hi6, hl, hw, hd, wr]) | (refine awp_if ?_; simp [hlt, hi6, hl, hw, hd, wr]) | refine awp_block ?_ | refine And.intro ?_ ?_ | intro _ | (refine awp_skip ?_; simp [hlt, hi6, hl, hw, hd, wr]) | (refine awp_ret ?_; simp [hlt, hi6, hl, hw, hd, wr]) | (refine awp_exit ?_; simp [hlt, hi6, hl, hw, hd, wr])))
      refine awp_draw tabOk mixed [] (by kernel_rfl) ?_
      simp [hlt, hi6, hl, hw, hd]
      (repeat' (first | refine awp_seq ?_ | (refine awp_region tabOk ?_; simp [hlt, hi6, hl, hw, hd, wr]) | (refine awp_if ?_; simp [hlt, hi6, hl, hw, hd, wr]) | refine awp_block ?_ | refine And.intro ?_ ?_ | intro _ | (refine awp_skip ?_; simp [hlt, hi6, hl, hw, hd, wr]) | (refine awp_ret ?_; simp [hlt, hi6, hl, hw, hd, wr]) | (refine awp_exit ?_; simp [hlt, hi6, hl, hw, hd, wr])))
      · rename_i h
        have eb : p.bad i = true := by unfold Pu.bad; simp; omega
        have e1 : p.err = 1 := by rw [he, hs, if_pos eb]
        exact ⟨H, _, gcTo_none (fun _ => rfl), by rw [e1], rfl⟩
      · rename_i a1 a2 a3 a4 a5 a6
        have eb : ¬ p.bad i = true := by unfold Pu.bad; simp; omega
        have e1 : p.err = 4 := by rw [he, hs, if_neg eb, if_pos (by simp [a5, a6])]
        exact ⟨H, _, gcTo_none (fun _ => rfl), by rw [e1], rfl⟩
      · rename_i a1 a2 a3 a4 a5
        have eb : ¬ p.bad i = true := by unfold Pu.bad; simp; omega
        have e1 : p.err = p.scan (6 - (i + 1)) (i + 1) := by rw [he, hs, if_neg eb, if_neg (by simpa using a5)]
        exact ⟨i + 1, by omega, ⟨by omega, e1⟩, wk_tl (by simp)⟩
    · obtain rfl : i = 6 := by omega
      (repeat' (first | refine awp_seq ?_ | (refine awp_region tabOk ?_; simp [hlt]) | (refine awp_if ?_; simp [hlt]) | refine awp_block ?_ | refine And.intro ?_ ?_ | intro _ | (refine awp_skip ?_; simp [hlt]) | (refine awp_ret ?_; simp [hlt]) | (refine awp_exit ?_; simp [hlt])))
      exact ⟨H, _, gcTo_none (fun _ => rfl), by rw [he]; rfl, rfl⟩
set_option maxRecDepth 100000 in
theorem pulseCheck (H : List Blk) (p : Pu) :
    ACalls Try.prog 40 [.agg p.cs] H fun r H' => r = .c (.sc (.int .i64 p.err)) ∧ H' = H := by
  refine acalls_of tabOk Try.func40 (by kernel_rfl) rfl (by kernel_rfl) ?_
  (repeat' (first | refine awp_seq ?_ | (refine awp_region tabOk ?_; simp) | (refine awp_if ?_; simp) | refine awp_block ?_ | refine And.intro ?_ ?_ | intro _ | (refine awp_skip ?_; simp) | (refine awp_ret ?_; simp) | (refine awp_exit ?_; simp)))
  · rename_i h
    have e : p.err = 1 := by unfold Pu.err; rw [if_pos (by simp; omega)]
    exact ⟨H, _, gcTo_none (fun _ => rfl), by rw [e], rfl⟩
  · rename_i h1 h2 h3 h4
    have e : p.err = p.scan 6 0 := by unfold Pu.err; rw [if_neg (by simp; omega)]
    refine awp_loop_at (α := {i : Nat // i ≤ 6 ∧ p.err = p.scan (6 - i) i}) (fun i => [(1, .c (.sc (.ptr H.length 0))), (22, .c (.sc (.int .i64 i.1)))]) (fun _ => H ++ [.own p.cs]) (fun i => 6 - i.1) ⟨0, by omega, e⟩ (wk_tl (by simp)) ?_
    rintro ⟨i, hi, he⟩
    by_cases hlt : i < 6
    · have hl := p.at_l hlt
      have hw := p.at_w hlt
      have hd := p.at_d hlt
      have hs : p.scan (6 - i) i = if p.bad i then 1 else if p.d i && decide ((i : Int) = p.me) then 4 else p.scan (6 - (i + 1)) (i + 1) := by
        obtain ⟨k, hk⟩ : ∃ k, 6 - i = k + 1 := ⟨5 - i, by omega⟩
        rw [hk, show 6 - (i + 1) = k by omega]; rfl
      have hi6 : (i : Int) < 6 := by omega
      have wr := wrapS i (by omega)
      (repeat' (first | refine awp_seq ?_ | (refine awp_region tabOk ?_; simp [hlt, hi6, hl, hw, hd, wr]) | (refine awp_if ?_; simp [hlt, hi6, hl, hw, hd, wr]) | refine awp_block ?_ | refine And.intro ?_ ?_ | intro _ | (refine awp_skip ?_; simp [hlt, hi6, hl, hw, hd, wr]) | (refine awp_ret ?_; simp [hlt, hi6, hl, hw, hd, wr]) | (refine awp_exit ?_; simp [hlt, hi6, hl, hw, hd, wr])))
      refine awp_draw tabOk mixed [] (by kernel_rfl) ?_
      simp [hlt, hi6, hl, hw, hd]
      (repeat' (first | refine awp_seq ?_ | (refine awp_region tabOk ?_; simp [hlt, hi6, hl, hw, hd, wr]) | (refine awp_if ?_; simp [hlt, hi6, hl, hw, hd, wr]) | refine awp_block ?_ | refine And.intro ?_ ?_ | intro _ | (refine awp_skip ?_; simp [hlt, hi6, hl, hw, hd, wr]) | (refine awp_ret ?_; simp [hlt, hi6, hl, hw, hd, wr]) | (refine awp_exit ?_; simp [hlt, hi6, hl, hw, hd, wr])))
      · rename_i h
        have eb : p.bad i = true := by unfold Pu.bad; simp; omega
        have e1 : p.err = 1 := by rw [he, hs, if_pos eb]
        exact ⟨H, _, gcTo_none (fun _ => rfl), by rw [e1], rfl⟩
      · rename_i a1 a2 a3 a4 a5 a6
        have eb : ¬ p.bad i = true := by unfold Pu.bad; simp; omega
        have e1 : p.err = 4 := by rw [he, hs, if_neg eb, if_pos (by simp [a5, a6])]
        exact ⟨H, _, gcTo_none (fun _ => rfl), by rw [e1], rfl⟩
      · rename_i a1 a2 a3 a4 a5
        have eb : ¬ p.bad i = true := by unfold Pu.bad; simp; omega
        have e1 : p.err = p.scan (6 - (i + 1)) (i + 1) := by rw [he, hs, if_neg eb, if_neg (by simpa using a5)]
        exact ⟨i + 1, by omega, ⟨by omega, e1⟩, wk_tl (by simp)⟩
    · obtain rfl : i = 6 := by omega
      (repeat' (first | refine awp_seq ?_ | (refine awp_region tabOk ?_; simp [hlt]) | (refine awp_if ?_; simp [hlt]) | refine awp_block ?_ | refine And.intro ?_ ?_ | intro _ | (refine awp_skip ?_; simp [hlt]) | (refine awp_ret ?_; simp [hlt]) | (refine awp_exit ?_; simp [hlt])))
      exact ⟨H, _, gcTo_none (fun _ => rfl), by rw [he]; rfl, rfl⟩
theorem pulseErr_c {H : List Blk} {p : Pu} {Q : AV → List Blk → Prop} (h : Q (.c (.sc (.int .i64 p.err))) H) : ACalls Try.prog 35 [.agg p.cs] H Q :=
  (pulseErr H p).mono fun _ _ ⟨a, b⟩ => a ▸ b ▸ h
theorem pulseCheck_c {H : List Blk} {p : Pu} {Q : AV → List Blk → Prop} (h : Q (.c (.sc (.int .i64 p.err))) H) : ACalls Try.prog 40 [.agg p.cs] H Q :=
  (pulseCheck H p).mono fun _ _ ⟨a, b⟩ => a ▸ b ▸ h
end Go.Proofs.Ytdeockoaalpcjaa
