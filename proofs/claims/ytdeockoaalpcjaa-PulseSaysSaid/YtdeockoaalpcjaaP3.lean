/- PulseSays: New, Hear, Lead. -/
import Derived.Test.YtdeockoaalpcjaaP2
namespace Go.Proofs.Ytdeockoaalpcjaa
set_option linter.unusedSimpArgs false
set_option linter.unusedVariables false
open Go.RowKit
attribute [local irreducible] AWP ACalls Wk GcTo
attribute [local simp] tab60 ti60 tab3 ti3 tab37 ti37 tab58 ti58 tab4 ti4 tab22 ti22
namespace Pu
def or0 (e : Int) (q : Pu) : Pu := if e = 0 then q else zero
def newT (me wait : Int) (i : Nat) : Pu := ⟨me, 0, fun _ => 0, fun j => if j < i then wait else 0, fun _ => false⟩
theorem newT_set (me wait : Int) (i : Nat) : (newT me wait i).setW i wait = newT me wait (i + 1) := by
  unfold newT setW; congr; funext j; by_cases h : j = i <;> by_cases h' : j < i <;> simp [h, h'] <;> omega
def newP (me wait : Int) : Pu := newT me wait 6
theorem newT_all (me wait : Int) : newT me wait 6 = newP me wait := rfl
theorem or0_ne {e : Int} (h : ¬e = 0) (q : Pu) : or0 e q = zero := if_neg h
theorem or0_eq {e : Int} (h : e = 0) (q : Pu) : or0 e q = q := if_pos h
theorem newT_0 (me wait : Int) : zero.cs.set 0 (.int .i64 me) = (newT me wait 0).cs := rfl
end Pu
set_option maxRecDepth 100000 in
theorem pulseNew {H : List Blk} {me wait : Int} {Q : AV → List Blk → Prop} (q0 : (Pu.newP me wait).err = 0 → Q (.tup [.agg (Pu.newP me wait).cs, .sc (.int .i64 0)]) H)
    (q1 : ¬(Pu.newP me wait).err = 0 → Q (.tup [.agg Pu.zero.cs, .sc (.int .i64 (Pu.newP me wait).err)]) H) :
    ACalls Try.prog 36 [.sc (.int .i64 me), .sc (.int .i64 wait)] H Q := by
  refine acalls_of tabOk Try.func36 (by kernel_rfl) rfl (by kernel_rfl) ?_
  (repeat' (first | refine awp_seq ?_ | (refine awp_region tabOk ?_; simp [Pu.zero_cs, Pu.newT_0 me wait]) | (refine awp_if ?_; simp [Pu.zero_cs, Pu.newT_0 me wait]) | refine awp_block ?_ | refine And.intro ?_ ?_ | intro _ | (refine awp_skip ?_; simp [Pu.zero_cs, Pu.newT_0 me wait]) | (refine awp_ret ?_; simp [Pu.zero_cs, Pu.newT_0 me wait]) | (refine awp_exit ?_; simp [Pu.zero_cs, Pu.newT_0 me wait])))
  refine awp_loop_at (α := {i : Nat // i ≤ 6}) (fun i => [(1, .c (.sc (.int .i64 wait))), (4, .c (.sc (.ptr H.length 0))), (6, .c (.sc (.ptr (H.length + 1) 0))), (11, .c (.sc (.int .i64 i.1)))]) (fun i => H ++ [.own Pu.zero.cs, .own (Pu.newT me wait i.1).cs]) (fun i => 6 - i.1) ⟨0, by omega⟩ (wk_tl (by simp)) ?_
  rintro ⟨i, hi⟩
  by_cases hlt : i < 6
  · have hw := (Pu.newT me wait i).at_w hlt
    have hs := (Pu.newT me wait i).set_w hlt wait
    rw [Pu.newT_set] at hs
    have hi6 : (i : Int) < 6 := by omega
    have hb : 8 + i + 1 ≤ 20 := by omega
    have wr := wrapS i (by omega)
    (repeat' (first | refine awp_seq ?_ | (refine awp_region tabOk ?_; simp [hlt, hi6, hw, wr, hs, hb]) | (refine awp_if ?_; simp [hlt, hi6, hw, wr, hs, hb]) | refine awp_block ?_ | refine And.intro ?_ ?_ | intro _ | (refine awp_skip ?_; simp [hlt, hi6, hw, wr, hs, hb]) | (refine awp_ret ?_; simp [hlt, hi6, hw, wr, hs, hb]) | (refine awp_exit ?_; simp [hlt, hi6, hw, wr, hs, hb])))
    exact ⟨i + 1, by omega, by omega, wk_tl (by simp)⟩
  · obtain rfl : i = 6 := by omega
    (repeat' (first | refine awp_seq ?_ | (refine awp_region tabOk ?_; simp [hlt]) | (refine awp_if ?_; simp [hlt]) | refine awp_block ?_ | refine And.intro ?_ ?_ | intro _ | (refine awp_skip ?_; simp [hlt]) | (refine awp_ret ?_; simp [hlt]) | (refine awp_exit ?_; simp [hlt])))
    refine pulseCheck_c ?_
    rw [Pu.newT_all]
    (repeat' (first | refine awp_seq ?_ | (refine awp_region tabOk ?_; simp [Pu.zero_cs]) | (refine awp_if ?_; simp [Pu.zero_cs]) | refine awp_block ?_ | refine And.intro ?_ ?_ | intro _ | (refine awp_skip ?_; simp [Pu.zero_cs]) | (refine awp_ret ?_; simp [Pu.zero_cs]) | (refine awp_exit ?_; simp [Pu.zero_cs])))
    · rename_i h; exact ⟨H, _, gcTo_none (fun _ => rfl), q1 h⟩
    · rename_i h; exact ⟨H, _, gcTo_none (fun _ => rfl), q0 h⟩
namespace Pu
def up (x : Int) : Int := if IntKind.i64.wrap (x + 1) < 1000 then IntKind.i64.wrap (x + 1) else 1000
def hear (p : Pu) (m : Nat) : Pu := ((bif p.d m then (p.setD m false).setW m (up (p.w m)) else p)).setL m p.now
end Pu
set_option maxRecDepth 100000 in
theorem pulseHear {H : List Blk} {p : Pu} {m : Int} {Q : AV → List Blk → Prop} 
      (q0 : ¬p.err = 0 → Q (.tup [.agg Pu.zero.cs, .sc (.bool false), .sc (.int .i64 p.err)]) H)
      (q1 : p.err = 0 → (m < 0 ∨ 5 < m ∨ m = p.me) → Q (.tup [.agg Pu.zero.cs, .sc (.bool false), .sc (.int .i64 1)]) H)
      (q2 : p.err = 0 → ∀ k : Nat, m = k → k < 6 → ¬(k : Int) = p.me → Q (.tup [.agg (p.hear k).cs, .sc (.bool (p.d k)), .sc (.int .i64 0)]) H) :
    ACalls Try.prog 38 [.agg p.cs, .sc (.int .i64 m)] H Q := by
  refine acalls_of tabOk Try.func38 (by kernel_rfl) rfl (by kernel_rfl) ?_
  (repeat' (first | refine awp_seq ?_ | (refine awp_region tabOk ?_; simp [Pu.zero_cs]) | (refine awp_if ?_; simp [Pu.zero_cs]) | refine awp_block ?_ | refine And.intro ?_ ?_ | intro _ | (refine awp_skip ?_; simp [Pu.zero_cs]) | (refine awp_ret ?_; simp [Pu.zero_cs]) | (refine awp_exit ?_; simp [Pu.zero_cs])))
  refine pulseCheck_c ?_
  by_cases he : p.err = 0
  · by_cases hm : 0 ≤ m ∧ m < 6
    · obtain ⟨k, rfl⟩ := Int.eq_ofNat_of_zero_le hm.1
      have hk : k < 6 := by omega
      have hi6 : (k : Int) < 6 := by omega
      have al := fun q : Pu => q.at_l hk
      have aw := fun q : Pu => q.at_w hk
      have ad := fun q : Pu => q.at_d hk
      have sl := fun q : Pu => q.set_l hk
      have sw := fun q : Pu => q.set_w hk
      have sd := fun q : Pu => q.set_d hk
      have h1 : 14 + k + 1 ≤ 20 := by omega
      have h2 : 8 + k + 1 ≤ 20 := by omega
      have h3 : 2 + k + 1 ≤ 20 := by omega
      (repeat' (first | refine awp_seq ?_ | (refine awp_region tabOk ?_; simp [Pu.zero_cs, he, hi6, al, aw, ad, sl, sw, sd, h1, h2, h3]) | (refine awp_if ?_; simp [Pu.zero_cs, he, hi6, al, aw, ad, sl, sw, sd, h1, h2, h3]) | refine awp_block ?_ | refine And.intro ?_ ?_ | intro _ | (refine awp_skip ?_; simp [Pu.zero_cs, he, hi6, al, aw, ad, sl, sw, sd, h1, h2, h3]) | (refine awp_ret ?_; simp [Pu.zero_cs, he, hi6, al, aw, ad, sl, sw, sd, h1, h2, h3]) | (refine awp_exit ?_; simp [Pu.zero_cs, he, hi6, al, aw, ad, sl, sw, sd, h1, h2, h3])))
      · rename_i h; exact ⟨H, _, gcTo_none (fun _ => rfl), q1 he (by omega)⟩
      · rename_i h h'; exact ⟨H, _, gcTo_none (fun _ => rfl), by have := q2 he k rfl hk h; unfold Pu.hear at this; rw [h'] at this ⊢; exact this⟩
      · rename_i h h'; exact ⟨H, _, gcTo_none (fun _ => rfl), by have := q2 he k rfl hk h; unfold Pu.hear at this; rw [h'] at this ⊢; exact this⟩
    · by_cases hn : m < 0
      · (repeat' (first | refine awp_seq ?_ | (refine awp_region tabOk ?_; simp [Pu.zero_cs, he, hn]) | (refine awp_if ?_; simp [Pu.zero_cs, he, hn]) | refine awp_block ?_ | refine And.intro ?_ ?_ | intro _ | (refine awp_skip ?_; simp [Pu.zero_cs, he, hn]) | (refine awp_ret ?_; simp [Pu.zero_cs, he, hn]) | (refine awp_exit ?_; simp [Pu.zero_cs, he, hn])))
        exact ⟨H, _, gcTo_none (fun _ => rfl), q1 he (by omega)⟩
      · have hg : 6 ≤ m := by omega
        (repeat' (first | refine awp_seq ?_ | (refine awp_region tabOk ?_; simp [Pu.zero_cs, he, hn, hg]) | (refine awp_if ?_; simp [Pu.zero_cs, he, hn, hg]) | refine awp_block ?_ | refine And.intro ?_ ?_ | intro _ | (refine awp_skip ?_; simp [Pu.zero_cs, he, hn, hg]) | (refine awp_ret ?_; simp [Pu.zero_cs, he, hn, hg]) | (refine awp_exit ?_; simp [Pu.zero_cs, he, hn, hg])))
        exact ⟨H, _, gcTo_none (fun _ => rfl), q1 he (by omega)⟩
  · (repeat' (first | refine awp_seq ?_ | (refine awp_region tabOk ?_; simp [Pu.zero_cs, he]) | (refine awp_if ?_; simp [Pu.zero_cs, he]) | refine awp_block ?_ | refine And.intro ?_ ?_ | intro _ | (refine awp_skip ?_; simp [Pu.zero_cs, he]) | (refine awp_ret ?_; simp [Pu.zero_cs, he]) | (refine awp_exit ?_; simp [Pu.zero_cs, he])))
    exact ⟨H, _, gcTo_none (fun _ => rfl), q0 he⟩
namespace Pu
def leadS (p : Pu) : Nat → Nat → Int
  | 0, _ => p.me
  | n + 1, i => if p.d i then leadS p n (i + 1) else i
def lead (p : Pu) : Int := p.leadS 6 0
end Pu
set_option maxRecDepth 100000 in
theorem pulseLead {H : List Blk} {p : Pu} {Q : AV → List Blk → Prop} (q0 : ¬p.err = 0 → Q (.tup [.sc (.int .i64 0), .sc (.int .i64 p.err)]) H) (q1 : p.err = 0 → Q (.tup [.sc (.int .i64 p.lead), .sc (.int .i64 0)]) H) :
    ACalls Try.prog 39 [.agg p.cs] H Q := by
  refine acalls_of tabOk Try.func39 (by kernel_rfl) rfl (by kernel_rfl) ?_
  (repeat' (first | refine awp_seq ?_ | (refine awp_region tabOk ?_; simp [Pu.zero_cs]) | (refine awp_if ?_; simp [Pu.zero_cs]) | refine awp_block ?_ | refine And.intro ?_ ?_ | intro _ | (refine awp_skip ?_; simp [Pu.zero_cs]) | (refine awp_ret ?_; simp [Pu.zero_cs]) | (refine awp_exit ?_; simp [Pu.zero_cs])))
  refine pulseCheck_c ?_
  by_cases he : p.err = 0
  · (repeat' (first | refine awp_seq ?_ | (refine awp_region tabOk ?_; simp [Pu.zero_cs, he]) | (refine awp_if ?_; simp [Pu.zero_cs, he]) | refine awp_block ?_ | refine And.intro ?_ ?_ | intro _ | (refine awp_skip ?_; simp [Pu.zero_cs, he]) | (refine awp_ret ?_; simp [Pu.zero_cs, he]) | (refine awp_exit ?_; simp [Pu.zero_cs, he])))
    refine awp_loop_at (α := {i : Nat // i ≤ 6 ∧ p.lead = p.leadS (6 - i) i}) (fun i => [(1, .c (.sc (.ptr H.length 0))), (13, .c (.agg (Pu.ds p.d))), (14, .c (.sc (.int .i64 i.1)))]) (fun i => H ++ [.own p.cs]) (fun i => 6 - i.1) ⟨0, by omega, rfl⟩ (wk_tl (by simp)) ?_
    rintro ⟨i, hi, hl⟩
    by_cases hlt : i < 6
    · have hs : p.leadS (6 - i) i = if p.d i then p.leadS (6 - (i + 1)) (i + 1) else i := by
        obtain ⟨k, hk⟩ : ∃ k, 6 - i = k + 1 := ⟨5 - i, by omega⟩
        rw [hk, show 6 - (i + 1) = k by omega]; rfl
      have hd := Pu.ds_at p.d hlt
      have hi6 : (i : Int) < 6 := by omega
      have wr := wrapS i (by omega)
      (repeat' (first | refine awp_seq ?_ | (refine awp_region tabOk ?_; simp [hlt, hi6, hd, wr]) | (refine awp_if ?_; simp [hlt, hi6, hd, wr]) | refine awp_block ?_ | refine And.intro ?_ ?_ | intro _ | (refine awp_skip ?_; simp [hlt, hi6, hd, wr]) | (refine awp_ret ?_; simp [hlt, hi6, hd, wr]) | (refine awp_exit ?_; simp [hlt, hi6, hd, wr])))
      · rename_i h; refine ⟨H, _, gcTo_none (fun _ => rfl), ?_⟩; rw [h] at hs; have := q1 he; rw [hl, hs] at this; exact this
      · rename_i h; rw [h] at hs; exact ⟨i + 1, by omega, ⟨by omega, by rw [hl, hs]; rfl⟩, wk_tl (by simp)⟩
    · obtain rfl : i = 6 := by omega
      (repeat' (first | refine awp_seq ?_ | (refine awp_region tabOk ?_; simp [hlt]) | (refine awp_if ?_; simp [hlt]) | refine awp_block ?_ | refine And.intro ?_ ?_ | intro _ | (refine awp_skip ?_; simp [hlt]) | (refine awp_ret ?_; simp [hlt]) | (refine awp_exit ?_; simp [hlt])))
      refine ⟨H, _, gcTo_none (fun _ => rfl), ?_⟩; have := q1 he; rw [hl] at this; exact this
  · (repeat' (first | refine awp_seq ?_ | (refine awp_region tabOk ?_; simp [Pu.zero_cs, he]) | (refine awp_if ?_; simp [Pu.zero_cs, he]) | refine awp_block ?_ | refine And.intro ?_ ?_ | intro _ | (refine awp_skip ?_; simp [Pu.zero_cs, he]) | (refine awp_ret ?_; simp [Pu.zero_cs, he]) | (refine awp_exit ?_; simp [Pu.zero_cs, he])))
    exact ⟨H, _, gcTo_none (fun _ => rfl), q0 he⟩
end Go.Proofs.Ytdeockoaalpcjaa
