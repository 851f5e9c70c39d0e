/- PulseSays: the law. -/
import Derived.Test.YtdeockoaalpcjaaP4
import Derived.Test.YtdeockoaalpcjaaP5
namespace Go.Proofs.Ytdeockoaalpcjaa
set_option linter.unusedSimpArgs false
set_option linter.unusedVariables false
open Go.RowKit
attribute [local irreducible] AWP ACalls Wk GcTo
attribute [local simp] tab60 ti60 tab3 ti3 tab37 ti37 tab58 ti58 tab4 ti4 tab22 ti22 tab24 ti24 tab70 ti70
theorem newP_lit (a b : Int) : (((((((Pu.zero.cs.set 0 (.int .i64 a)).set 8 (.int .i64 b)).set 9 (.int .i64 b)).set 10 (.int .i64 b)).set 11 (.int .i64 b)).set 12 (.int .i64 b)).set 13 (.int .i64 b)) = (Pu.newP a b).cs := rfl
theorem eqS_refl : ∀ {cs : List Sc}, cs.all (fun c => match c with | .int _ _ | .bool _ | .str _ => true | _ => false) = true → eqSs cs cs = true
  | [], _ => rfl
  | c :: cs, h => by
    simp only [List.all_cons, Bool.and_eq_true] at h
    simp only [eqSs, eqS_refl h.2, Bool.and_true]
    have := h.1
    cases c <;> first | (simp [eqS]; done) | cases this
@[simp] theorem eq_cs (p : Pu) : eqSs p.cs p.cs = true := eqS_refl rfl
@[simp] theorem ok_cs (p : Pu) : okSs [.int .i64, .int .i64, .int .i64, .int .i64, .int .i64, .int .i64, .int .i64, .int .i64, .int .i64, .int .i64, .int .i64, .int .i64, .int .i64, .int .i64, .bool, .bool, .bool, .bool, .bool, .bool] p.cs = true := rfl
theorem scan_new (p : Pu) (h : ∀ j, p.d j = false) : ∀ n i, p.scan n i = 0 ∨ p.scan n i = 1
  | 0, _ => .inl rfl
  | n + 1, i => by
    unfold Pu.scan
    rw [h i]
    split
    · exact .inr rfl
    · simpa using scan_new p h n (i + 1)
theorem err_new (a b : Int) (h : ¬(Pu.newP a b).err = 0) : (Pu.newP a b).err = 1 := by
  unfold Pu.err at h ⊢
  split
  · rfl
  · rename_i h'
    rw [if_neg h'] at h
    exact (scan_new _ (fun _ => rfl) 6 0).resolve_left h
theorem scan_at (p : Pu) : ∀ n i, p.scan n i = 0 → ∀ j, i ≤ j → j < i + n → p.d j = true → ¬(j : Int) = p.me
  | 0, i, _, j, h1, h2, _ => by omega
  | n + 1, i, h, j, h1, h2, hd => by
    unfold Pu.scan at h
    split at h
    · cases h
    split at h
    · cases h
    rename_i h3
    by_cases e : j = i
    · subst e; intro e; exact h3 (by simp [hd, e])
    · exact scan_at p n (i + 1) h j (by omega) (by omega) hd
theorem me_free (p : Pu) (h : p.err = 0) : p.d p.me.toNat = false := by
  have hme := p.scan_me h
  unfold Pu.err at h
  split at h
  · cases h
  cases hd : p.d p.me.toNat with
  | false => rfl
  | true => exact (scan_at p 6 0 h p.me.toNat (by omega) (by omega) hd (by omega)).elim
theorem lead_idx (p : Pu) : ∀ n i, (∃ j, i ≤ j ∧ j < i + n ∧ p.d j = false) → idxS (fun i => false == p.d i) n i = p.leadS n i
  | 0, i, ⟨j, h1, h2, _⟩ => by omega
  | n + 1, i, ⟨j, h1, h2, h3⟩ => by
    unfold idxS Pu.leadS
    cases hd : p.d i with
    | false => simp
    | true =>
      rw [if_neg (by decide), if_pos rfl]
      refine lead_idx p n (i + 1) ⟨j, ?_, by omega, h3⟩
      by_cases e : j = i
      · subst e; rw [hd] at h3; cases h3
      · omega
theorem lead_is (p : Pu) (h : p.err = 0) : idxS (fun i => false == p.d i) 6 0 = p.lead :=
  lead_idx p 6 0 ⟨p.me.toNat, by omega, by have := p.scan_me h; omega, me_free p h⟩
@[simp] theorem tk_me (p : Pu) : p.tk.me = p.me := rfl
@[simp] theorem tk_d (p : Pu) : p.tk.d = p.d := rfl
@[simp] theorem tk_w (p : Pu) : p.tk.w = p.w := rfl
theorem tk_l (p : Pu) (h : p.err = 0) (i : Nat) (hi : ¬(i : Int) = p.me) : p.tk.l i = p.l i := by
  have := p.scan_me h
  exact if_neg (by omega)
theorem late_no (p : Pu) (h : p.err = 0) (i : Nat) (a1 : ¬(i : Int) = p.me → p.d i = false → IntKind.i64.wrap (p.tk.now - p.l i) ≤ p.w i) : p.tk.late i = false := by
  unfold Pu.late
  by_cases h0 : (i : Int) = p.me
  · simp [h0]
  · rw [tk_l p h i h0]
    cases hd : p.d i with
    | true => simp [hd]
    | false =>
      have := a1 h0 hd
      have e : decide (p.tk.w i < IntKind.i64.wrap (p.tk.now - p.l i)) = false := decide_eq_false (by simp only [tk_w]; omega)
      simp only [e, Bool.and_false]
namespace Pu
def newR (a b : Int) : Pu := if (newP a b).err = 0 then newP a b else zero
def hearBad (p : Pu) (m : Int) : Prop := m < 0 ∨ 5 < m ∨ m = p.me
instance (p : Pu) (m : Int) : Decidable (p.hearBad m) := by unfold hearBad; infer_instance
def hearP (p : Pu) (m : Int) : Pu := if p.hearBad m then zero else p.hear m.toNat
def hearF (p : Pu) (m : Int) : Bool := if p.hearBad m then false else p.d m.toNat
def hearE (p : Pu) (m : Int) : Int := if p.hearBad m then 1 else 0
end Pu
theorem up_is (x : Int) : (if 1000 < IntKind.i64.wrap (x + 1) then 1000 else IntKind.i64.wrap (x + 1)) = Pu.up x := by
  unfold Pu.up; split <;> split <;> omega
theorem newR_is (a b : Int) : Pu.newR a b = if (Pu.newP a b).err = 0 then Pu.newP a b else Pu.zero := rfl
theorem pulseNew_c {H : List Blk} {me wait : Int} {Q : AV → List Blk → Prop} (q : Q (.tup [.agg (Pu.newR me wait).cs, .sc (.int .i64 (Pu.newP me wait).err)]) H) :
    ACalls Try.prog 36 [.sc (.int .i64 me), .sc (.int .i64 wait)] H Q :=
  pulseNew (fun h => by rw [newR_is, if_pos h, h] at q; exact q) (fun h => by rw [newR_is, if_neg h] at q; exact q)
theorem pulseHear_c {H : List Blk} {p : Pu} {m : Int} {Q : AV → List Blk → Prop} (he : p.err = 0) (q : Q (.tup [.agg (p.hearP m).cs, .sc (.bool (p.hearF m)), .sc (.int .i64 (p.hearE m))]) H) :
    ACalls Try.prog 38 [.agg p.cs, .sc (.int .i64 m)] H Q := by
  refine pulseHear (fun h => (h he).elim) (fun _ h => ?_) (fun _ k hk h6 hm => ?_)
  · have h' : p.hearBad m := h
    unfold Pu.hearP Pu.hearF Pu.hearE at q; simp only [if_pos h'] at q; exact q
  · subst hk
    have h' : ¬ p.hearBad (k : Int) := by unfold Pu.hearBad; omega
    unfold Pu.hearP Pu.hearF Pu.hearE at q; simp only [if_neg h'] at q; exact q
set_option maxHeartbeats 4000000 in
set_option maxRecDepth 100000 in
theorem pulse_law {H : List Blk} {p : Pu} {a b m : Int} {Q : AV → List Blk → Prop} (q0 : ∀ H', Q (.c (.sc (.bool true))) H') :
    ACalls Try.prog 7 [.agg p.cs, .sc (.int .i64 a), .sc (.int .i64 b), .sc (.int .i64 m)] H Q := by
  refine acalls_of tabOk Try.func7 (by kernel_rfl) rfl (by kernel_rfl) ?_
  by_cases he : p.err = 0
  · have hme := p.scan_me he
    have hk : p.me.toNat < 6 := by omega
    have h1 : 2 + p.me.toNat ≤ 19 := by omega
    have slm := fun q : Pu => q.set_l hk
    have dat := fun (i : Nat) (h : i < 6) => p.at_d h
    have etk : ((p.setNow (IntKind.i64.wrap (p.now + 1))).setL p.me.toNat (IntKind.i64.wrap (p.now + 1))) = p.tk := rfl
    (repeat' (first | refine awp_seq ?_ | (refine awp_region tabOk ?_; simp [Pu.zero_cs]) | (refine awp_if ?_; simp [Pu.zero_cs]) | refine awp_block ?_ | refine And.intro ?_ ?_ | intro _ | (refine awp_skip ?_; simp [Pu.zero_cs]) | (refine awp_ret ?_; simp [Pu.zero_cs]) | (refine awp_exit ?_; simp [Pu.zero_cs])))
    refine pulseErr_c ?_
    ((try simp [Pu.zero_cs]); (repeat' (first | refine awp_seq ?_ | (refine awp_region tabOk ?_; simp [Pu.zero_cs]) | (refine awp_if ?_; simp [Pu.zero_cs]) | refine awp_block ?_ | refine And.intro ?_ ?_ | intro _ | (refine awp_skip ?_; simp [Pu.zero_cs]) | (refine awp_ret ?_; simp [Pu.zero_cs]) | (refine awp_exit ?_; simp [Pu.zero_cs]))))
    refine pulseNew_c ?_
    ((try simp [Pu.zero_cs, newP_lit]); (repeat' (first | refine awp_seq ?_ | (refine awp_region tabOk ?_; simp [Pu.zero_cs, newP_lit]) | (refine awp_if ?_; simp [Pu.zero_cs, newP_lit]) | refine awp_block ?_ | refine And.intro ?_ ?_ | intro _ | (refine awp_skip ?_; simp [Pu.zero_cs, newP_lit]) | (refine awp_ret ?_; simp [Pu.zero_cs, newP_lit]) | (refine awp_exit ?_; simp [Pu.zero_cs, newP_lit]))))
    refine pulseTick_c he ?_
    ((try simp [Pu.zero_cs, newP_lit]); (repeat' (first | refine awp_seq ?_ | (refine awp_region tabOk ?_; simp [Pu.zero_cs, newP_lit]) | (refine awp_if ?_; simp [Pu.zero_cs, newP_lit]) | refine awp_block ?_ | refine And.intro ?_ ?_ | intro _ | (refine awp_skip ?_; simp [Pu.zero_cs, newP_lit]) | (refine awp_ret ?_; simp [Pu.zero_cs, newP_lit]) | (refine awp_exit ?_; simp [Pu.zero_cs, newP_lit]))))
    refine pulseHear_c he ?_
    ((try simp [Pu.zero_cs, newP_lit]); (repeat' (first | refine awp_seq ?_ | (refine awp_region tabOk ?_; simp [Pu.zero_cs, newP_lit]) | (refine awp_if ?_; simp [Pu.zero_cs, newP_lit]) | refine awp_block ?_ | refine And.intro ?_ ?_ | intro _ | (refine awp_skip ?_; simp [Pu.zero_cs, newP_lit]) | (refine awp_ret ?_; simp [Pu.zero_cs, newP_lit]) | (refine awp_exit ?_; simp [Pu.zero_cs, newP_lit]))))
    refine pulseLead (fun h => (h he).elim) (fun _ => ?_)
    ((try simp [Pu.zero_cs, newP_lit]); (repeat' (first | refine awp_seq ?_ | (refine awp_region tabOk ?_; simp [Pu.zero_cs, newP_lit]) | (refine awp_if ?_; simp [Pu.zero_cs, newP_lit]) | refine awp_block ?_ | refine And.intro ?_ ?_ | intro _ | (refine awp_skip ?_; simp [Pu.zero_cs, newP_lit]) | (refine awp_ret ?_; simp [Pu.zero_cs, newP_lit]) | (refine awp_exit ?_; simp [Pu.zero_cs, newP_lit]))))
    refine pulseErr_c ?_
    by_cases hN : (Pu.newP a b).err = 0
    all_goals (
      have hX := newR_is a b
      simp only [hN, if_true, if_false] at hX
      have hN1 := err_new a b
      simp only [hN, not_true, not_false_eq_true, false_implies, true_implies] at hN1
      ((try simp [Pu.zero_cs, newP_lit, hN, hX, hN1]); (repeat' (first | refine awp_seq ?_ | (refine awp_region tabOk ?_; simp [Pu.zero_cs, newP_lit, hN, hX, hN1]) | (refine awp_if ?_; simp [Pu.zero_cs, newP_lit, hN, hX, hN1]) | refine awp_block ?_ | refine And.intro ?_ ?_ | intro _ | (refine awp_skip ?_; simp [Pu.zero_cs, newP_lit, hN, hX, hN1]) | (refine awp_ret ?_; simp [Pu.zero_cs, newP_lit, hN, hX, hN1]) | (refine awp_exit ?_; simp [Pu.zero_cs, newP_lit, hN, hX, hN1]))))
      refine pulseCheck_c ?_
      ((try simp [Pu.zero_cs, newP_lit, he, maxLen]); (repeat' (first | refine awp_seq ?_ | (refine awp_region tabOk ?_; simp [Pu.zero_cs, newP_lit, he, maxLen]) | (refine awp_if ?_; simp [Pu.zero_cs, newP_lit, he, maxLen]) | refine awp_block ?_ | refine And.intro ?_ ?_ | intro _ | (refine awp_skip ?_; simp [Pu.zero_cs, newP_lit, he, maxLen]) | (refine awp_ret ?_; simp [Pu.zero_cs, newP_lit, he, maxLen]) | (refine awp_exit ?_; simp [Pu.zero_cs, newP_lit, he, maxLen]))))
      refine indexBool (cs := p.cs) ?_ (by decide) dat ?_
      · simp
      rw [lead_is p he]
      ((try simp [Pu.zero_cs, newP_lit, he, hme.1, hme.2, h1, slm]); (repeat' (first | refine awp_seq ?_ | (refine awp_region tabOk ?_; simp [Pu.zero_cs, newP_lit, he, hme.1, hme.2, h1, slm]) | (refine awp_if ?_; simp [Pu.zero_cs, newP_lit, he, hme.1, hme.2, h1, slm]) | refine awp_block ?_ | refine And.intro ?_ ?_ | intro _ | (refine awp_skip ?_; simp [Pu.zero_cs, newP_lit, he, hme.1, hme.2, h1, slm]) | (refine awp_ret ?_; simp [Pu.zero_cs, newP_lit, he, hme.1, hme.2, h1, slm]) | (refine awp_exit ?_; simp [Pu.zero_cs, newP_lit, he, hme.1, hme.2, h1, slm]))))
      rw [etk]
      refine awp_loop_at (α := {i : Nat // i ≤ 6}) (fun i => [(3, .c (.sc (.int .i64 m))), (4, .c (.sc (.ptr H.length 0))), (10, .c (.sc (.ptr (H.length + 1) 0))), (13, .c (.sc (.ptr (H.length + 4) 0))), (14, .c (.sc (intV (H.length + 3) p.tickL))), (15, .c (.sc (.int .i64 p.tickE))), (16, .c (.sc (.ptr (H.length + 5) 0))), (17, .c (.sc (.bool (p.hearF m)))), (18, .c (.sc (.int .i64 (p.hearE m)))), (23, .c (.sc (.ptr (H.length + 7) 0))), (24, .c (.sc (intV (H.length + 8) (p.tk.marked i)))), (143, .c (.sc (.int .i64 i.1)))])
        (fun i => H ++ [.own p.cs, .own Pu.zero.cs, .dead, intB p.tickL, .own p.tickP.cs, .own (p.hearP m).cs, .dead, .own (p.tk.mark i).cs, intB (p.tk.marked i)]) (fun i => 6 - i.1) ⟨0, by omega⟩
        (wk_gcl [0, 1, 22, 3, 4, 5, 26, 7, 28] (gcOk_of (by decide) (by simp [Pu.mark_0, Pu.marked])) (by simp [Pu.marked])) ?_
      rintro ⟨i, hi⟩
      by_cases hlt : i < 6
      · have hi6 : (i : Int) < 6 := by omega
        have wr := wrapS i (by omega)
        have al := fun q : Pu => q.at_l hlt
        have aw := fun q : Pu => q.at_w hlt
        have ad := fun q : Pu => q.at_d hlt
        have sd := fun q : Pu => q.set_d hlt
        have g1 : 14 + i ≤ 19 := by omega
        (repeat' (first | refine awp_seq ?_ | (refine awp_region tabOk ?_; simp [hlt, hi6, wr]) | (refine awp_if ?_; simp [hlt, hi6, wr]) | refine awp_block ?_ | refine And.intro ?_ ?_ | intro _ | (refine awp_skip ?_; simp [hlt, hi6, wr]) | (refine awp_ret ?_; simp [hlt, hi6, wr]) | (refine awp_exit ?_; simp [hlt, hi6, wr])))
        refine awp_draw tabOk mixed [] (by kernel_rfl) ?_
        simp [hlt, hi6, al, aw, ad]
        (repeat' (first | refine awp_seq ?_ | (refine awp_region tabOk ?_; simp [hlt, hi6, wr]) | (refine awp_if ?_; simp [hlt, hi6, wr]) | refine awp_block ?_ | refine And.intro ?_ ?_ | intro _ | (refine awp_skip ?_; simp [hlt, hi6, wr]) | (refine awp_ret ?_; simp [hlt, hi6, wr]) | (refine awp_exit ?_; simp [hlt, hi6, wr])))
        · exact g1
        · rename_i a1 a2 a3
          have hL : p.tk.late i = true := by simp [Pu.late, tk_l p he i a1, a1, a2, a3]
          have hml := p.tk.marked_len i
          cases hm : p.tk.marked i with
          | nil =>
            simp [hm, maxLen]
            (repeat' (first | refine awp_seq ?_ | (refine awp_region tabOk ?_; simp [wr, sd]) | (refine awp_if ?_; simp [wr, sd]) | refine awp_block ?_ | refine And.intro ?_ ?_ | intro _ | (refine awp_skip ?_; simp [wr, sd]) | (refine awp_ret ?_; simp [wr, sd]) | (refine awp_exit ?_; simp [wr, sd])))
            refine ⟨i + 1, by omega, by omega, ?_⟩
            rw [← p.tk.mark_yes hL, p.tk.marked_yes hL, hm]
            exact wk_gcl [0, 1, 22, 3, 4, 5, 26, 7, 10] (gcOk_of (by decide) (by simp [intsC_one])) (by simp)
          | cons x r =>
            rw [hm] at hml
            simp at hml
            simp [hm, maxLen, intsC_one]
            (repeat' (first | refine awp_seq ?_ | (refine awp_region tabOk ?_; simp [wr, sd]) | (refine awp_if ?_; simp [wr, sd]) | refine awp_block ?_ | refine And.intro ?_ ?_ | intro _ | (refine awp_skip ?_; simp [wr, sd]) | (refine awp_ret ?_; simp [wr, sd]) | (refine awp_exit ?_; simp [wr, sd])))
            · omega
            · omega
            refine ⟨i + 1, by omega, by omega, ?_⟩
            rw [← p.tk.mark_yes hL, p.tk.marked_yes hL, hm]
            exact wk_gcl [0, 1, 22, 3, 4, 5, 26, 7, 10] (gcOk_of (by decide) (by simp [intsC_one])) (by simp)
        · rename_i a1
          have hL : p.tk.late i = false := late_no p he i a1
          refine ⟨i + 1, by omega, by omega, ?_⟩
          rw [p.tk.mark_no hL, p.tk.marked_no hL]
          exact wk_tl (by simp)
      · obtain rfl : i = 6 := by omega
        by_cases hn : p.now = 16777215
        · have t1 : p.tickP = Pu.zero := if_pos hn
          have t2 : p.tickL = [] := if_pos hn
          have t3 : p.tickE = 8 := if_pos hn
          by_cases hb : p.hearBad m
          · have y1 : p.hearP m = Pu.zero := if_pos hb
            have y2 : p.hearF m = false := if_pos hb
            have y3 : p.hearE m = 1 := if_pos hb
            rcases hb with hb | hb | hb
            · (repeat' (first | refine awp_seq ?_ | (refine awp_region tabOk ?_; simp [Pu.zero_cs, hlt, hn, t1, t2, t3, hb, y1, y2, y3]) | (refine awp_if ?_; simp [Pu.zero_cs, hlt, hn, t1, t2, t3, hb, y1, y2, y3]) | refine awp_block ?_ | refine And.intro ?_ ?_ | intro _ | (refine awp_skip ?_; simp [Pu.zero_cs, hlt, hn, t1, t2, t3, hb, y1, y2, y3]) | (refine awp_ret ?_; simp [Pu.zero_cs, hlt, hn, t1, t2, t3, hb, y1, y2, y3]) | (refine awp_exit ?_; simp [Pu.zero_cs, hlt, hn, t1, t2, t3, hb, y1, y2, y3]))); exact ⟨_, _, GcTo.refl (by simp), q0 _⟩
            · (repeat' (first | refine awp_seq ?_ | (refine awp_region tabOk ?_; simp [Pu.zero_cs, hlt, hn, t1, t2, t3, hb, y1, y2, y3]) | (refine awp_if ?_; simp [Pu.zero_cs, hlt, hn, t1, t2, t3, hb, y1, y2, y3]) | refine awp_block ?_ | refine And.intro ?_ ?_ | intro _ | (refine awp_skip ?_; simp [Pu.zero_cs, hlt, hn, t1, t2, t3, hb, y1, y2, y3]) | (refine awp_ret ?_; simp [Pu.zero_cs, hlt, hn, t1, t2, t3, hb, y1, y2, y3]) | (refine awp_exit ?_; simp [Pu.zero_cs, hlt, hn, t1, t2, t3, hb, y1, y2, y3]))); exact ⟨_, _, GcTo.refl (by simp), q0 _⟩
            · subst hb
              (repeat' (first | refine awp_seq ?_ | (refine awp_region tabOk ?_; simp [Pu.zero_cs, hlt, hn, t1, t2, t3, y1, y2, y3]) | (refine awp_if ?_; simp [Pu.zero_cs, hlt, hn, t1, t2, t3, y1, y2, y3]) | refine awp_block ?_ | refine And.intro ?_ ?_ | intro _ | (refine awp_skip ?_; simp [Pu.zero_cs, hlt, hn, t1, t2, t3, y1, y2, y3]) | (refine awp_ret ?_; simp [Pu.zero_cs, hlt, hn, t1, t2, t3, y1, y2, y3]) | (refine awp_exit ?_; simp [Pu.zero_cs, hlt, hn, t1, t2, t3, y1, y2, y3]))); exact ⟨_, _, GcTo.refl (by simp), q0 _⟩
          · have y1 : p.hearP m = p.hear m.toNat := if_neg hb
            have y2 : p.hearF m = p.d m.toNat := if_neg hb
            have y3 : p.hearE m = 0 := if_neg hb
            have b1 : ¬m < 0 := by unfold Pu.hearBad at hb; omega
            have b2 : ¬5 < m := by unfold Pu.hearBad at hb; omega
            have b3 : ¬m = p.me := by unfold Pu.hearBad at hb; omega
            obtain ⟨k, rfl⟩ := Int.eq_ofNat_of_zero_le (Int.not_lt.1 b1)
            have hk6 : k < 6 := by omega
            have hi6 : (k : Int) < 6 := by omega
            have al := fun q : Pu => q.at_l hk6
            have aw := fun q : Pu => q.at_w hk6
            have ad := fun q : Pu => q.at_d hk6
            have sl := fun q : Pu => q.set_l hk6
            have sw := fun q : Pu => q.set_w hk6
            have sd := fun q : Pu => q.set_d hk6
            have c1 : 14 + k ≤ 19 := by omega
            have c2 : 8 + k ≤ 19 := by omega
            have c3 : 2 + k ≤ 19 := by omega
            simp only [Int.toNat_natCast] at y1 y2
            cases hd : p.d k with
            | false =>
              have y4 : p.hear k = p.setL k p.now := by unfold Pu.hear; rw [hd]; rfl
              rw [y4] at y1; rw [hd] at y2
              (repeat' (first | refine awp_seq ?_ | (refine awp_region tabOk ?_; simp [Pu.zero_cs, hlt, hn, t1, t2, t3, b1, b2, b3, y1, y2, y3, hi6, al, aw, ad, sl, sw, sd, c1, c2, c3, hd, up_is]) | (refine awp_if ?_; simp [Pu.zero_cs, hlt, hn, t1, t2, t3, b1, b2, b3, y1, y2, y3, hi6, al, aw, ad, sl, sw, sd, c1, c2, c3, hd, up_is]) | refine awp_block ?_ | refine And.intro ?_ ?_ | intro _ | (refine awp_skip ?_; simp [Pu.zero_cs, hlt, hn, t1, t2, t3, b1, b2, b3, y1, y2, y3, hi6, al, aw, ad, sl, sw, sd, c1, c2, c3, hd, up_is]) | (refine awp_ret ?_; simp [Pu.zero_cs, hlt, hn, t1, t2, t3, b1, b2, b3, y1, y2, y3, hi6, al, aw, ad, sl, sw, sd, c1, c2, c3, hd, up_is]) | (refine awp_exit ?_; simp [Pu.zero_cs, hlt, hn, t1, t2, t3, b1, b2, b3, y1, y2, y3, hi6, al, aw, ad, sl, sw, sd, c1, c2, c3, hd, up_is])))
              all_goals exact ⟨_, _, GcTo.refl (by simp), q0 _⟩
            | true =>
              have y4 : p.hear k = ((p.setL k p.now).setD k false).setW k (Pu.up (p.w k)) := by unfold Pu.hear; rw [hd]; rfl
              rw [y4] at y1; rw [hd] at y2
              (repeat' (first | refine awp_seq ?_ | (refine awp_region tabOk ?_; simp [Pu.zero_cs, hlt, hn, t1, t2, t3, b1, b2, b3, y1, y2, y3, hi6, al, aw, ad, sl, sw, sd, c1, c2, c3, hd, up_is]) | (refine awp_if ?_; simp [Pu.zero_cs, hlt, hn, t1, t2, t3, b1, b2, b3, y1, y2, y3, hi6, al, aw, ad, sl, sw, sd, c1, c2, c3, hd, up_is]) | refine awp_block ?_ | refine And.intro ?_ ?_ | intro _ | (refine awp_skip ?_; simp [Pu.zero_cs, hlt, hn, t1, t2, t3, b1, b2, b3, y1, y2, y3, hi6, al, aw, ad, sl, sw, sd, c1, c2, c3, hd, up_is]) | (refine awp_ret ?_; simp [Pu.zero_cs, hlt, hn, t1, t2, t3, b1, b2, b3, y1, y2, y3, hi6, al, aw, ad, sl, sw, sd, c1, c2, c3, hd, up_is]) | (refine awp_exit ?_; simp [Pu.zero_cs, hlt, hn, t1, t2, t3, b1, b2, b3, y1, y2, y3, hi6, al, aw, ad, sl, sw, sd, c1, c2, c3, hd, up_is])))
              all_goals exact ⟨_, _, GcTo.refl (by simp), q0 _⟩
        · have t1 : p.tickP = p.tk.mark 6 := if_neg hn
          have t2 : p.tickL = p.tk.marked 6 := if_neg hn
          have t3 : p.tickE = 0 := if_neg hn
          by_cases hb : p.hearBad m
          · have y1 : p.hearP m = Pu.zero := if_pos hb
            have y2 : p.hearF m = false := if_pos hb
            have y3 : p.hearE m = 1 := if_pos hb
            rcases hb with hb | hb | hb
            · (repeat' (first | refine awp_seq ?_ | (refine awp_region tabOk ?_; simp [Pu.zero_cs, hlt, hn, t1, t2, t3, hb, y1, y2, y3]) | (refine awp_if ?_; simp [Pu.zero_cs, hlt, hn, t1, t2, t3, hb, y1, y2, y3]) | refine awp_block ?_ | refine And.intro ?_ ?_ | intro _ | (refine awp_skip ?_; simp [Pu.zero_cs, hlt, hn, t1, t2, t3, hb, y1, y2, y3]) | (refine awp_ret ?_; simp [Pu.zero_cs, hlt, hn, t1, t2, t3, hb, y1, y2, y3]) | (refine awp_exit ?_; simp [Pu.zero_cs, hlt, hn, t1, t2, t3, hb, y1, y2, y3]))); refine ⟨_, equalInt (ISl.own (xs := p.tk.marked 6) ?_) (ISl.own (xs := p.tk.marked 6) ?_) (by have := p.tk.marked_len 6; omega) ⟨rfl, rfl⟩, ?_⟩; simp; simp; ((try simp [Pu.zero_cs, hlt, hn, t1, t2, t3, hb, y1, y2, y3]); (repeat' (first | refine awp_seq ?_ | (refine awp_region tabOk ?_; simp [Pu.zero_cs, hlt, hn, t1, t2, t3, hb, y1, y2, y3]) | (refine awp_if ?_; simp [Pu.zero_cs, hlt, hn, t1, t2, t3, hb, y1, y2, y3]) | refine awp_block ?_ | refine And.intro ?_ ?_ | intro _ | (refine awp_skip ?_; simp [Pu.zero_cs, hlt, hn, t1, t2, t3, hb, y1, y2, y3]) | (refine awp_ret ?_; simp [Pu.zero_cs, hlt, hn, t1, t2, t3, hb, y1, y2, y3]) | (refine awp_exit ?_; simp [Pu.zero_cs, hlt, hn, t1, t2, t3, hb, y1, y2, y3])))); exact ⟨_, _, GcTo.refl (by simp), q0 _⟩
            · (repeat' (first | refine awp_seq ?_ | (refine awp_region tabOk ?_; simp [Pu.zero_cs, hlt, hn, t1, t2, t3, hb, y1, y2, y3]) | (refine awp_if ?_; simp [Pu.zero_cs, hlt, hn, t1, t2, t3, hb, y1, y2, y3]) | refine awp_block ?_ | refine And.intro ?_ ?_ | intro _ | (refine awp_skip ?_; simp [Pu.zero_cs, hlt, hn, t1, t2, t3, hb, y1, y2, y3]) | (refine awp_ret ?_; simp [Pu.zero_cs, hlt, hn, t1, t2, t3, hb, y1, y2, y3]) | (refine awp_exit ?_; simp [Pu.zero_cs, hlt, hn, t1, t2, t3, hb, y1, y2, y3]))); refine ⟨_, equalInt (ISl.own (xs := p.tk.marked 6) ?_) (ISl.own (xs := p.tk.marked 6) ?_) (by have := p.tk.marked_len 6; omega) ⟨rfl, rfl⟩, ?_⟩; simp; simp; ((try simp [Pu.zero_cs, hlt, hn, t1, t2, t3, hb, y1, y2, y3]); (repeat' (first | refine awp_seq ?_ | (refine awp_region tabOk ?_; simp [Pu.zero_cs, hlt, hn, t1, t2, t3, hb, y1, y2, y3]) | (refine awp_if ?_; simp [Pu.zero_cs, hlt, hn, t1, t2, t3, hb, y1, y2, y3]) | refine awp_block ?_ | refine And.intro ?_ ?_ | intro _ | (refine awp_skip ?_; simp [Pu.zero_cs, hlt, hn, t1, t2, t3, hb, y1, y2, y3]) | (refine awp_ret ?_; simp [Pu.zero_cs, hlt, hn, t1, t2, t3, hb, y1, y2, y3]) | (refine awp_exit ?_; simp [Pu.zero_cs, hlt, hn, t1, t2, t3, hb, y1, y2, y3])))); exact ⟨_, _, GcTo.refl (by simp), q0 _⟩
            · subst hb
              (repeat' (first | refine awp_seq ?_ | (refine awp_region tabOk ?_; simp [Pu.zero_cs, hlt, hn, t1, t2, t3, y1, y2, y3]) | (refine awp_if ?_; simp [Pu.zero_cs, hlt, hn, t1, t2, t3, y1, y2, y3]) | refine awp_block ?_ | refine And.intro ?_ ?_ | intro _ | (refine awp_skip ?_; simp [Pu.zero_cs, hlt, hn, t1, t2, t3, y1, y2, y3]) | (refine awp_ret ?_; simp [Pu.zero_cs, hlt, hn, t1, t2, t3, y1, y2, y3]) | (refine awp_exit ?_; simp [Pu.zero_cs, hlt, hn, t1, t2, t3, y1, y2, y3]))); refine ⟨_, equalInt (ISl.own (xs := p.tk.marked 6) ?_) (ISl.own (xs := p.tk.marked 6) ?_) (by have := p.tk.marked_len 6; omega) ⟨rfl, rfl⟩, ?_⟩; simp; simp; ((try simp [Pu.zero_cs, hlt, hn, t1, t2, t3, y1, y2, y3]); (repeat' (first | refine awp_seq ?_ | (refine awp_region tabOk ?_; simp [Pu.zero_cs, hlt, hn, t1, t2, t3, y1, y2, y3]) | (refine awp_if ?_; simp [Pu.zero_cs, hlt, hn, t1, t2, t3, y1, y2, y3]) | refine awp_block ?_ | refine And.intro ?_ ?_ | intro _ | (refine awp_skip ?_; simp [Pu.zero_cs, hlt, hn, t1, t2, t3, y1, y2, y3]) | (refine awp_ret ?_; simp [Pu.zero_cs, hlt, hn, t1, t2, t3, y1, y2, y3]) | (refine awp_exit ?_; simp [Pu.zero_cs, hlt, hn, t1, t2, t3, y1, y2, y3])))); exact ⟨_, _, GcTo.refl (by simp), q0 _⟩
          · have y1 : p.hearP m = p.hear m.toNat := if_neg hb
            have y2 : p.hearF m = p.d m.toNat := if_neg hb
            have y3 : p.hearE m = 0 := if_neg hb
            have b1 : ¬m < 0 := by unfold Pu.hearBad at hb; omega
            have b2 : ¬5 < m := by unfold Pu.hearBad at hb; omega
            have b3 : ¬m = p.me := by unfold Pu.hearBad at hb; omega
            obtain ⟨k, rfl⟩ := Int.eq_ofNat_of_zero_le (Int.not_lt.1 b1)
            have hk6 : k < 6 := by omega
            have hi6 : (k : Int) < 6 := by omega
            have al := fun q : Pu => q.at_l hk6
            have aw := fun q : Pu => q.at_w hk6
            have ad := fun q : Pu => q.at_d hk6
            have sl := fun q : Pu => q.set_l hk6
            have sw := fun q : Pu => q.set_w hk6
            have sd := fun q : Pu => q.set_d hk6
            have c1 : 14 + k ≤ 19 := by omega
            have c2 : 8 + k ≤ 19 := by omega
            have c3 : 2 + k ≤ 19 := by omega
            simp only [Int.toNat_natCast] at y1 y2
            cases hd : p.d k with
            | false =>
              have y4 : p.hear k = p.setL k p.now := by unfold Pu.hear; rw [hd]; rfl
              rw [y4] at y1; rw [hd] at y2
              (repeat' (first | refine awp_seq ?_ | (refine awp_region tabOk ?_; simp [Pu.zero_cs, hlt, hn, t1, t2, t3, b1, b2, b3, y1, y2, y3, hi6, al, aw, ad, sl, sw, sd, c1, c2, c3, hd, up_is]) | (refine awp_if ?_; simp [Pu.zero_cs, hlt, hn, t1, t2, t3, b1, b2, b3, y1, y2, y3, hi6, al, aw, ad, sl, sw, sd, c1, c2, c3, hd, up_is]) | refine awp_block ?_ | refine And.intro ?_ ?_ | intro _ | (refine awp_skip ?_; simp [Pu.zero_cs, hlt, hn, t1, t2, t3, b1, b2, b3, y1, y2, y3, hi6, al, aw, ad, sl, sw, sd, c1, c2, c3, hd, up_is]) | (refine awp_ret ?_; simp [Pu.zero_cs, hlt, hn, t1, t2, t3, b1, b2, b3, y1, y2, y3, hi6, al, aw, ad, sl, sw, sd, c1, c2, c3, hd, up_is]) | (refine awp_exit ?_; simp [Pu.zero_cs, hlt, hn, t1, t2, t3, b1, b2, b3, y1, y2, y3, hi6, al, aw, ad, sl, sw, sd, c1, c2, c3, hd, up_is])))
              refine ⟨_, equalInt (ISl.own (xs := p.tk.marked 6) ?_) (ISl.own (xs := p.tk.marked 6) ?_) (by have := p.tk.marked_len 6; omega) ⟨rfl, rfl⟩, ?_⟩
              · simp
              · simp
              ((try simp [Pu.zero_cs, hlt, hn, t1, t2, t3, b1, b2, b3, y1, y2, y3, hi6, al, aw, ad, sl, sw, sd, c1, c2, c3, hd, up_is]); (repeat' (first | refine awp_seq ?_ | (refine awp_region tabOk ?_; simp [Pu.zero_cs, hlt, hn, t1, t2, t3, b1, b2, b3, y1, y2, y3, hi6, al, aw, ad, sl, sw, sd, c1, c2, c3, hd, up_is]) | (refine awp_if ?_; simp [Pu.zero_cs, hlt, hn, t1, t2, t3, b1, b2, b3, y1, y2, y3, hi6, al, aw, ad, sl, sw, sd, c1, c2, c3, hd, up_is]) | refine awp_block ?_ | refine And.intro ?_ ?_ | intro _ | (refine awp_skip ?_; simp [Pu.zero_cs, hlt, hn, t1, t2, t3, b1, b2, b3, y1, y2, y3, hi6, al, aw, ad, sl, sw, sd, c1, c2, c3, hd, up_is]) | (refine awp_ret ?_; simp [Pu.zero_cs, hlt, hn, t1, t2, t3, b1, b2, b3, y1, y2, y3, hi6, al, aw, ad, sl, sw, sd, c1, c2, c3, hd, up_is]) | (refine awp_exit ?_; simp [Pu.zero_cs, hlt, hn, t1, t2, t3, b1, b2, b3, y1, y2, y3, hi6, al, aw, ad, sl, sw, sd, c1, c2, c3, hd, up_is]))))
              all_goals exact ⟨_, _, GcTo.refl (by simp), q0 _⟩
            | true =>
              have y4 : p.hear k = ((p.setL k p.now).setD k false).setW k (Pu.up (p.w k)) := by unfold Pu.hear; rw [hd]; rfl
              rw [y4] at y1; rw [hd] at y2
              (repeat' (first | refine awp_seq ?_ | (refine awp_region tabOk ?_; simp [Pu.zero_cs, hlt, hn, t1, t2, t3, b1, b2, b3, y1, y2, y3, hi6, al, aw, ad, sl, sw, sd, c1, c2, c3, hd, up_is]) | (refine awp_if ?_; simp [Pu.zero_cs, hlt, hn, t1, t2, t3, b1, b2, b3, y1, y2, y3, hi6, al, aw, ad, sl, sw, sd, c1, c2, c3, hd, up_is]) | refine awp_block ?_ | refine And.intro ?_ ?_ | intro _ | (refine awp_skip ?_; simp [Pu.zero_cs, hlt, hn, t1, t2, t3, b1, b2, b3, y1, y2, y3, hi6, al, aw, ad, sl, sw, sd, c1, c2, c3, hd, up_is]) | (refine awp_ret ?_; simp [Pu.zero_cs, hlt, hn, t1, t2, t3, b1, b2, b3, y1, y2, y3, hi6, al, aw, ad, sl, sw, sd, c1, c2, c3, hd, up_is]) | (refine awp_exit ?_; simp [Pu.zero_cs, hlt, hn, t1, t2, t3, b1, b2, b3, y1, y2, y3, hi6, al, aw, ad, sl, sw, sd, c1, c2, c3, hd, up_is])))
              refine ⟨_, equalInt (ISl.own (xs := p.tk.marked 6) ?_) (ISl.own (xs := p.tk.marked 6) ?_) (by have := p.tk.marked_len 6; omega) ⟨rfl, rfl⟩, ?_⟩
              · simp
              · simp
              ((try simp [Pu.zero_cs, hlt, hn, t1, t2, t3, b1, b2, b3, y1, y2, y3, hi6, al, aw, ad, sl, sw, sd, c1, c2, c3, hd, up_is]); (repeat' (first | refine awp_seq ?_ | (refine awp_region tabOk ?_; simp [Pu.zero_cs, hlt, hn, t1, t2, t3, b1, b2, b3, y1, y2, y3, hi6, al, aw, ad, sl, sw, sd, c1, c2, c3, hd, up_is]) | (refine awp_if ?_; simp [Pu.zero_cs, hlt, hn, t1, t2, t3, b1, b2, b3, y1, y2, y3, hi6, al, aw, ad, sl, sw, sd, c1, c2, c3, hd, up_is]) | refine awp_block ?_ | refine And.intro ?_ ?_ | intro _ | (refine awp_skip ?_; simp [Pu.zero_cs, hlt, hn, t1, t2, t3, b1, b2, b3, y1, y2, y3, hi6, al, aw, ad, sl, sw, sd, c1, c2, c3, hd, up_is]) | (refine awp_ret ?_; simp [Pu.zero_cs, hlt, hn, t1, t2, t3, b1, b2, b3, y1, y2, y3, hi6, al, aw, ad, sl, sw, sd, c1, c2, c3, hd, up_is]) | (refine awp_exit ?_; simp [Pu.zero_cs, hlt, hn, t1, t2, t3, b1, b2, b3, y1, y2, y3, hi6, al, aw, ad, sl, sw, sd, c1, c2, c3, hd, up_is]))))
              all_goals exact ⟨_, _, GcTo.refl (by simp), q0 _⟩)
  · (repeat' (first | refine awp_seq ?_ | (refine awp_region tabOk ?_; simp [Pu.zero_cs]) | (refine awp_if ?_; simp [Pu.zero_cs]) | refine awp_block ?_ | refine And.intro ?_ ?_ | intro _ | (refine awp_skip ?_; simp [Pu.zero_cs]) | (refine awp_ret ?_; simp [Pu.zero_cs]) | (refine awp_exit ?_; simp [Pu.zero_cs])))
    refine pulseErr_c ?_
    ((try simp [Pu.zero_cs]); (repeat' (first | refine awp_seq ?_ | (refine awp_region tabOk ?_; simp [Pu.zero_cs]) | (refine awp_if ?_; simp [Pu.zero_cs]) | refine awp_block ?_ | refine And.intro ?_ ?_ | intro _ | (refine awp_skip ?_; simp [Pu.zero_cs]) | (refine awp_ret ?_; simp [Pu.zero_cs]) | (refine awp_exit ?_; simp [Pu.zero_cs]))))
    refine pulseNew (fun hN => ?_) (fun hN => ?_)
    · ((try simp [Pu.zero_cs, newP_lit]); (repeat' (first | refine awp_seq ?_ | (refine awp_region tabOk ?_; simp [Pu.zero_cs, newP_lit]) | (refine awp_if ?_; simp [Pu.zero_cs, newP_lit]) | refine awp_block ?_ | refine And.intro ?_ ?_ | intro _ | (refine awp_skip ?_; simp [Pu.zero_cs, newP_lit]) | (refine awp_ret ?_; simp [Pu.zero_cs, newP_lit]) | (refine awp_exit ?_; simp [Pu.zero_cs, newP_lit]))))
      refine pulseTick (fun _ => ?_) (fun h => (he h).elim) (fun h => (he h).elim)
      ((try simp [Pu.zero_cs, newP_lit]); (repeat' (first | refine awp_seq ?_ | (refine awp_region tabOk ?_; simp [Pu.zero_cs, newP_lit]) | (refine awp_if ?_; simp [Pu.zero_cs, newP_lit]) | refine awp_block ?_ | refine And.intro ?_ ?_ | intro _ | (refine awp_skip ?_; simp [Pu.zero_cs, newP_lit]) | (refine awp_ret ?_; simp [Pu.zero_cs, newP_lit]) | (refine awp_exit ?_; simp [Pu.zero_cs, newP_lit]))))
      refine pulseHear (fun _ => ?_) (fun h => (he h).elim) (fun h => (he h).elim)
      ((try simp [Pu.zero_cs, newP_lit]); (repeat' (first | refine awp_seq ?_ | (refine awp_region tabOk ?_; simp [Pu.zero_cs, newP_lit]) | (refine awp_if ?_; simp [Pu.zero_cs, newP_lit]) | refine awp_block ?_ | refine And.intro ?_ ?_ | intro _ | (refine awp_skip ?_; simp [Pu.zero_cs, newP_lit]) | (refine awp_ret ?_; simp [Pu.zero_cs, newP_lit]) | (refine awp_exit ?_; simp [Pu.zero_cs, newP_lit]))))
      refine pulseLead (fun _ => ?_) (fun h => (he h).elim)
      ((try simp [Pu.zero_cs, newP_lit]); (repeat' (first | refine awp_seq ?_ | (refine awp_region tabOk ?_; simp [Pu.zero_cs, newP_lit]) | (refine awp_if ?_; simp [Pu.zero_cs, newP_lit]) | refine awp_block ?_ | refine And.intro ?_ ?_ | intro _ | (refine awp_skip ?_; simp [Pu.zero_cs, newP_lit]) | (refine awp_ret ?_; simp [Pu.zero_cs, newP_lit]) | (refine awp_exit ?_; simp [Pu.zero_cs, newP_lit]))))
      refine pulseErr_c ?_
      ((try simp [Pu.zero_cs, newP_lit, hN]); (repeat' (first | refine awp_seq ?_ | (refine awp_region tabOk ?_; simp [Pu.zero_cs, newP_lit, hN]) | (refine awp_if ?_; simp [Pu.zero_cs, newP_lit, hN]) | refine awp_block ?_ | refine And.intro ?_ ?_ | intro _ | (refine awp_skip ?_; simp [Pu.zero_cs, newP_lit, hN]) | (refine awp_ret ?_; simp [Pu.zero_cs, newP_lit, hN]) | (refine awp_exit ?_; simp [Pu.zero_cs, newP_lit, hN]))))
      refine pulseCheck_c ?_
      ((try simp [Pu.zero_cs, newP_lit, he, maxLen]); (repeat' (first | refine awp_seq ?_ | (refine awp_region tabOk ?_; simp [Pu.zero_cs, newP_lit, he, maxLen]) | (refine awp_if ?_; simp [Pu.zero_cs, newP_lit, he, maxLen]) | refine awp_block ?_ | refine And.intro ?_ ?_ | intro _ | (refine awp_skip ?_; simp [Pu.zero_cs, newP_lit, he, maxLen]) | (refine awp_ret ?_; simp [Pu.zero_cs, newP_lit, he, maxLen]) | (refine awp_exit ?_; simp [Pu.zero_cs, newP_lit, he, maxLen]))))
      exact ⟨_, _, GcTo.refl (by simp), q0 _⟩
    · have hN1 := err_new a b hN
      ((try simp [Pu.zero_cs, newP_lit]); (repeat' (first | refine awp_seq ?_ | (refine awp_region tabOk ?_; simp [Pu.zero_cs, newP_lit]) | (refine awp_if ?_; simp [Pu.zero_cs, newP_lit]) | refine awp_block ?_ | refine And.intro ?_ ?_ | intro _ | (refine awp_skip ?_; simp [Pu.zero_cs, newP_lit]) | (refine awp_ret ?_; simp [Pu.zero_cs, newP_lit]) | (refine awp_exit ?_; simp [Pu.zero_cs, newP_lit]))))
      refine pulseTick (fun _ => ?_) (fun h => (he h).elim) (fun h => (he h).elim)
      ((try simp [Pu.zero_cs, newP_lit]); (repeat' (first | refine awp_seq ?_ | (refine awp_region tabOk ?_; simp [Pu.zero_cs, newP_lit]) | (refine awp_if ?_; simp [Pu.zero_cs, newP_lit]) | refine awp_block ?_ | refine And.intro ?_ ?_ | intro _ | (refine awp_skip ?_; simp [Pu.zero_cs, newP_lit]) | (refine awp_ret ?_; simp [Pu.zero_cs, newP_lit]) | (refine awp_exit ?_; simp [Pu.zero_cs, newP_lit]))))
      refine pulseHear (fun _ => ?_) (fun h => (he h).elim) (fun h => (he h).elim)
      ((try simp [Pu.zero_cs, newP_lit]); (repeat' (first | refine awp_seq ?_ | (refine awp_region tabOk ?_; simp [Pu.zero_cs, newP_lit]) | (refine awp_if ?_; simp [Pu.zero_cs, newP_lit]) | refine awp_block ?_ | refine And.intro ?_ ?_ | intro _ | (refine awp_skip ?_; simp [Pu.zero_cs, newP_lit]) | (refine awp_ret ?_; simp [Pu.zero_cs, newP_lit]) | (refine awp_exit ?_; simp [Pu.zero_cs, newP_lit]))))
      refine pulseLead (fun _ => ?_) (fun h => (he h).elim)
      ((try simp [Pu.zero_cs, newP_lit]); (repeat' (first | refine awp_seq ?_ | (refine awp_region tabOk ?_; simp [Pu.zero_cs, newP_lit]) | (refine awp_if ?_; simp [Pu.zero_cs, newP_lit]) | refine awp_block ?_ | refine And.intro ?_ ?_ | intro _ | (refine awp_skip ?_; simp [Pu.zero_cs, newP_lit]) | (refine awp_ret ?_; simp [Pu.zero_cs, newP_lit]) | (refine awp_exit ?_; simp [Pu.zero_cs, newP_lit]))))
      refine pulseErr_c ?_
      ((try simp [Pu.zero_cs, newP_lit, hN1]); (repeat' (first | refine awp_seq ?_ | (refine awp_region tabOk ?_; simp [Pu.zero_cs, newP_lit, hN1]) | (refine awp_if ?_; simp [Pu.zero_cs, newP_lit, hN1]) | refine awp_block ?_ | refine And.intro ?_ ?_ | intro _ | (refine awp_skip ?_; simp [Pu.zero_cs, newP_lit, hN1]) | (refine awp_ret ?_; simp [Pu.zero_cs, newP_lit, hN1]) | (refine awp_exit ?_; simp [Pu.zero_cs, newP_lit, hN1]))))
      refine pulseCheck_c ?_
      ((try simp [Pu.zero_cs, newP_lit, he, maxLen]); (repeat' (first | refine awp_seq ?_ | (refine awp_region tabOk ?_; simp [Pu.zero_cs, newP_lit, he, maxLen]) | (refine awp_if ?_; simp [Pu.zero_cs, newP_lit, he, maxLen]) | refine awp_block ?_ | refine And.intro ?_ ?_ | intro _ | (refine awp_skip ?_; simp [Pu.zero_cs, newP_lit, he, maxLen]) | (refine awp_ret ?_; simp [Pu.zero_cs, newP_lit, he, maxLen]) | (refine awp_exit ?_; simp [Pu.zero_cs, newP_lit, he, maxLen]))))
      exact ⟨_, _, GcTo.refl (by simp), q0 _⟩
end Go.Proofs.Ytdeockoaalpcjaa
