/- PulseSays: Tick. -/
import Derived.Test.YtdeockoaalpcjaaP3
namespace Go.Proofs.Ytdeockoaalpcjaa
set_option linter.unusedSimpArgs false
set_option linter.unusedVariables false
open Go.RowKit
attribute [local irreducible] AWP ACalls Wk GcTo
attribute [local simp] tab60 ti60 tab3 ti3 tab37 ti37 tab58 ti58 tab4 ti4 tab22 ti22 tab24 ti24
namespace Pu
/-- The time runs on. -/
def tk (p : Pu) : Pu := (p.setNow (IntKind.i64.wrap (p.now + 1))).setL p.me.toNat (IntKind.i64.wrap (p.now + 1))
/-- Who is late now. -/
def late (p : Pu) (i : Nat) : Bool := !decide ((i : Int) = p.me) && (!p.d i && decide (p.w i < IntKind.i64.wrap (p.now - p.l i)))
def mark (q : Pu) (i : Nat) : Pu := { q with d := fun j => (decide (j < i) && q.late j) || q.d j }
def marked (q : Pu) (i : Nat) : List Int := ((List.range i).filter q.late).map Int.ofNat
theorem mark_0 (q : Pu) : q.mark 0 = q := by unfold mark; simp
theorem mark_yes (q : Pu) {i : Nat} (h : q.late i = true) : (q.mark i).setD i true = q.mark (i + 1) := by
  unfold mark setD; congr; funext j
  by_cases h1 : j = i
  · subst h1; simp [h]
  · by_cases h2 : j < i
    · simp [h1, h2, show j < i + 1 by omega]
    · simp [h1, h2, show ¬ j < i + 1 by omega]
theorem mark_no (q : Pu) {i : Nat} (h : q.late i = false) : q.mark (i + 1) = q.mark i := by
  unfold mark; congr; funext j
  by_cases h1 : j = i
  · subst h1; simp [h]
  · by_cases h2 : j < i
    · simp [h2, show j < i + 1 by omega]
    · simp [h2, show ¬ j < i + 1 by omega]
theorem marked_yes (q : Pu) {i : Nat} (h : q.late i = true) : q.marked (i + 1) = q.marked i ++ [(i : Int)] := by simp [marked, List.range_succ, h]
theorem marked_no (q : Pu) {i : Nat} (h : q.late i = false) : q.marked (i + 1) = q.marked i := by simp [marked, List.range_succ, h]
@[simp] theorem mark_me (q : Pu) (i : Nat) : (q.mark i).me = q.me := rfl
@[simp] theorem mark_now (q : Pu) (i : Nat) : (q.mark i).now = q.now := rfl
@[simp] theorem mark_l (q : Pu) (i : Nat) : (q.mark i).l = q.l := rfl
@[simp] theorem mark_w (q : Pu) (i : Nat) : (q.mark i).w = q.w := rfl
@[simp] theorem mark_d (q : Pu) (i : Nat) : (q.mark i).d i = q.d i := by simp [mark]
theorem marked_len (q : Pu) (i : Nat) : (q.marked i).length ≤ i := by
  unfold marked; rw [List.length_map]; exact Nat.le_trans (List.length_filter_le _ _) (by simp)
theorem scan_me (p : Pu) (h : p.err = 0) : 0 ≤ p.me ∧ p.me < 6 := by
  unfold err at h
  split at h
  · cases h
  · rename_i h'; simp at h'; omega
end Pu
set_option maxRecDepth 100000 in
theorem pulseTick {H : List Blk} {p : Pu} {Q : AV → List Blk → Prop} (q0 : ¬p.err = 0 → Q (.tup [.agg Pu.zero.cs, .sc .nils, .sc (.int .i64 p.err)]) (H ++ [.dead]))
    (q1 : p.err = 0 → p.now = 16777215 → Q (.tup [.agg Pu.zero.cs, .sc .nils, .sc (.int .i64 8)]) (H ++ [.dead]))
    (q2 : p.err = 0 → ¬p.now = 16777215 → Q (.tup [.agg (p.tk.mark 6).cs, .sc (intV H.length (p.tk.marked 6)), .sc (.int .i64 0)]) (H ++ [intB (p.tk.marked 6)])) :
    ACalls Try.prog 37 [.agg p.cs] H Q := by
  refine acalls_of tabOk Try.func37 (by kernel_rfl) rfl (by kernel_rfl) ?_
  (repeat' (first | refine awp_seq ?_ | (refine awp_region tabOk ?_; simp [Pu.zero_cs]) | (refine awp_if ?_; simp [Pu.zero_cs]) | refine awp_block ?_ | refine And.intro ?_ ?_ | intro _ | (refine awp_skip ?_; simp [Pu.zero_cs]) | (refine awp_ret ?_; simp [Pu.zero_cs]) | (refine awp_exit ?_; simp [Pu.zero_cs])))
  refine pulseCheck_c ?_
  by_cases he : p.err = 0
  · have hme := p.scan_me he
    by_cases hn : p.now = 16777215
    · (repeat' (first | refine awp_seq ?_ | (refine awp_region tabOk ?_; simp [Pu.zero_cs, he, hn]) | (refine awp_if ?_; simp [Pu.zero_cs, he, hn]) | refine awp_block ?_ | refine And.intro ?_ ?_ | intro _ | (refine awp_skip ?_; simp [Pu.zero_cs, he, hn]) | (refine awp_ret ?_; simp [Pu.zero_cs, he, hn]) | (refine awp_exit ?_; simp [Pu.zero_cs, he, hn])))
      exact ⟨_, _, gcTo_std [9] (gcOk_of (by decide) (by simp)) (by simp), q1 he hn⟩
    · have hk : p.me.toNat < 6 := by omega
      have h1 : 2 + p.me.toNat ≤ 19 := by omega
      have sl := fun q : Pu => q.set_l hk
      (repeat' (first | refine awp_seq ?_ | (refine awp_region tabOk ?_; simp [Pu.zero_cs, he, hn, h1, sl, hme.1, hme.2]) | (refine awp_if ?_; simp [Pu.zero_cs, he, hn, h1, sl, hme.1, hme.2]) | refine awp_block ?_ | refine And.intro ?_ ?_ | intro _ | (refine awp_skip ?_; simp [Pu.zero_cs, he, hn, h1, sl, hme.1, hme.2]) | (refine awp_ret ?_; simp [Pu.zero_cs, he, hn, h1, sl, hme.1, hme.2]) | (refine awp_exit ?_; simp [Pu.zero_cs, he, hn, h1, sl, hme.1, hme.2])))
      have e0 : ((p.setNow (IntKind.i64.wrap (p.now + 1))).setL p.me.toNat (IntKind.i64.wrap (p.now + 1))) = p.tk := rfl
      rw [e0]
      refine awp_loop_at (α := {i : Nat // i ≤ 6}) (fun i => [(1, .c (.sc (.ptr H.length 0))), (2, .c (.sc (.ptr (H.length + 1) 0))), (6, .c (.sc (intV (H.length + 2) (p.tk.marked i)))), (28, .c (.sc (.int .i64 i.1)))]) (fun i => H ++ [.own (p.tk.mark i).cs, .own Pu.zero.cs, intB (p.tk.marked i)]) (fun i => 6 - i.1) ⟨0, by omega⟩
        (wk_gcl [0, 1, 5] (gcOk_of (by decide) (by simp [Pu.mark_0, Pu.marked, intB])) (by simp [Pu.marked, intV])) ?_
      rintro ⟨i, hi⟩
      by_cases hlt : i < 6
      · have hi6 : (i : Int) < 6 := by omega
        have wr := wrapS i (by omega)
        have al := fun q : Pu => q.at_l hlt
        have aw := fun q : Pu => q.at_w hlt
        have ad := fun q : Pu => q.at_d hlt
        have sd := fun q : Pu => q.set_d hlt
        have g1 : 14 + i ≤ 19 := by omega
        (repeat' (first | refine awp_seq ?_ | (refine awp_region tabOk ?_; simp [hlt, hi6, wr]) | (refine awp_if ?_; simp [hlt, hi6, wr]) | refine awp_block ?_ | refine And.intro ?_ ?_ | intro _ | (refine awp_skip ?_; simp [hlt, hi6, wr]) | (refine awp_ret ?_; simp [hlt, hi6, wr]) | (refine awp_exit ?_; simp [hlt, hi6, wr])))
        refine awp_draw tabOk mixed [] (by kernel_rfl) ?_
        simp [hlt, hi6, al, aw, ad]
        (repeat' (first | refine awp_seq ?_ | (refine awp_region tabOk ?_; simp [hlt, hi6, wr]) | (refine awp_if ?_; simp [hlt, hi6, wr]) | refine awp_block ?_ | refine And.intro ?_ ?_ | intro _ | (refine awp_skip ?_; simp [hlt, hi6, wr]) | (refine awp_ret ?_; simp [hlt, hi6, wr]) | (refine awp_exit ?_; simp [hlt, hi6, wr])))
        · exact g1
        · rename_i a1 a2 a3
          have hL : p.tk.late i = true := by simp [Pu.late, a1, a2, a3]
          have hml := p.tk.marked_len i
          cases hm : p.tk.marked i with
          | nil =>
            simp [hm, intV, intB, maxLen]
            (repeat' (first | refine awp_seq ?_ | (refine awp_region tabOk ?_; simp [wr, sd]) | (refine awp_if ?_; simp [wr, sd]) | refine awp_block ?_ | refine And.intro ?_ ?_ | intro _ | (refine awp_skip ?_; simp [wr, sd]) | (refine awp_ret ?_; simp [wr, sd]) | (refine awp_exit ?_; simp [wr, sd])))
            refine ⟨i + 1, by omega, by omega, ?_⟩
            rw [← p.tk.mark_yes hL, p.tk.marked_yes hL, hm]
            exact wk_gcl [0, 1, 4] (gcOk_of (by decide) (by simp [intB, intsC, renS])) (by simp [intV])
          | cons x r =>
            rw [hm] at hml
            simp at hml
            simp [hm, intV, intB, maxLen, intsC_one]
            (repeat' (first | refine awp_seq ?_ | (refine awp_region tabOk ?_; simp [wr, sd]) | (refine awp_if ?_; simp [wr, sd]) | refine awp_block ?_ | refine And.intro ?_ ?_ | intro _ | (refine awp_skip ?_; simp [wr, sd]) | (refine awp_ret ?_; simp [wr, sd]) | (refine awp_exit ?_; simp [wr, sd])))
            · omega
            · omega
            refine ⟨i + 1, by omega, by omega, ?_⟩
            rw [← p.tk.mark_yes hL, p.tk.marked_yes hL, hm]
            exact wk_gcl [0, 1, 4] (gcOk_of (by decide) (by simp [intB, intsC_one])) (by simp [intV])
        · rename_i a1
          have hL : p.tk.late i = false := by
            unfold Pu.late
            cases hq : (!decide ((i : Int) = p.tk.me) && (!p.tk.d i && decide (p.tk.w i < IntKind.i64.wrap (p.tk.now - p.tk.l i)))) with
            | false => rfl
            | true => simp at hq a1; have := a1 hq.1 hq.2.1; omega
          refine ⟨i + 1, by omega, by omega, ?_⟩
          rw [p.tk.mark_no hL, p.tk.marked_no hL]
          exact wk_tl (by simp)
      · obtain rfl : i = 6 := by omega
        (repeat' (first | refine awp_seq ?_ | (refine awp_region tabOk ?_; simp [hlt]) | (refine awp_if ?_; simp [hlt]) | refine awp_block ?_ | refine And.intro ?_ ?_ | intro _ | (refine awp_skip ?_; simp [hlt]) | (refine awp_ret ?_; simp [hlt]) | (refine awp_exit ?_; simp [hlt])))
        refine ⟨H ++ [intB (p.tk.marked 6)], _, gcTo_std [2] (gcOk_of (by decide) ?_) ?_, q2 he hn⟩
        · cases p.tk.marked 6 <;> simp [intB]
        · cases p.tk.marked 6 <;> simp [intV]
  · (repeat' (first | refine awp_seq ?_ | (refine awp_region tabOk ?_; simp [Pu.zero_cs, he]) | (refine awp_if ?_; simp [Pu.zero_cs, he]) | refine awp_block ?_ | refine And.intro ?_ ?_ | intro _ | (refine awp_skip ?_; simp [Pu.zero_cs, he]) | (refine awp_ret ?_; simp [Pu.zero_cs, he]) | (refine awp_exit ?_; simp [Pu.zero_cs, he])))
    exact ⟨_, _, gcTo_std [9] (gcOk_of (by decide) (by simp)) (by simp), q0 he⟩
namespace Pu
def tickP (p : Pu) : Pu := if p.now = 16777215 then zero else p.tk.mark 6
def tickL (p : Pu) : List Int := if p.now = 16777215 then [] else p.tk.marked 6
def tickE (p : Pu) : Int := if p.now = 16777215 then 8 else 0
end Pu
theorem pulseTick_c {H : List Blk} {p : Pu} {Q : AV → List Blk → Prop} (he : p.err = 0) (q : Q (.tup [.agg p.tickP.cs, .sc (intV H.length p.tickL), .sc (.int .i64 p.tickE)]) (H ++ [intB p.tickL])) :
    ACalls Try.prog 37 [.agg p.cs] H Q :=
  pulseTick (fun h => (h he).elim) (fun _ h => by unfold Pu.tickP Pu.tickL Pu.tickE at q; simp only [if_pos h] at q; exact q) (fun _ h => by unfold Pu.tickP Pu.tickL Pu.tickE at q; simp only [if_neg h] at q; exact q)
end Go.Proofs.Ytdeockoaalpcjaa
