/- MatSays: mat.Meet, mat.Firm, partref.Meet, partref.FirmRow. -/
import Derived.Test.YtdeockoaalpcjaaM4
namespace Go.Proofs.Ytdeockoaalpcjaa
set_option linter.unusedSimpArgs false
set_option linter.unusedVariables false
open Go.RowKit
attribute [local irreducible] AWP ACalls Wk GcTo
attribute [local simp] tab41 ti41 tab3 ti3 tab38 ti38 tab39 ti39 tab22 ti22
namespace Mt
def setRow (p : Mt) (i : Nat) (g : Nat → Int) : Mt := { p with a := fun i' j' => if i' = i then g j' else p.a i' j' }
theorem rs_ext {f g : Nat → Nat → Int} (h : ∀ i j, i < 6 → j < 6 → f i j = g i j) : rs f = rs g := by
  unfold rs
  refine List.map_congr_left fun q hq => ?_
  rw [List.mem_range] at hq
  rw [h _ _ (by omega) (by omega)]
theorem cs_ext {p q : Mt} (h1 : p.n = q.n) (h2 : p.me = q.me) (h : ∀ i j, i < 6 → j < 6 → p.a i j = q.a i j) : p.cs = q.cs := by
  unfold cs; rw [h1, h2, rs_ext h]
theorem set_row (p : Mt) {i : Nat} (h : i < 6) (g : Nat → Int) : splice (2 + i * 6) (vs g) p.cs = (p.setRow i g).cs := by
  simp only [vs, splice]
  have e0 : ∀ (p : Mt) (x : Int), p.cs.set (2 + i * 6) (.int .i64 x) = (p.setA i 0 x).cs := fun p x => p.set_a (j := 0) h (by omega) x
  have e1 : ∀ (p : Mt) (x : Int), p.cs.set (2 + i * 6 + 1) (.int .i64 x) = (p.setA i 1 x).cs := fun p x => p.set_a (j := 1) h (by omega) x
  have e2 : ∀ (p : Mt) (x : Int), p.cs.set (2 + i * 6 + 1 + 1) (.int .i64 x) = (p.setA i 2 x).cs := fun p x => p.set_a (j := 2) h (by omega) x
  have e3 : ∀ (p : Mt) (x : Int), p.cs.set (2 + i * 6 + 1 + 1 + 1) (.int .i64 x) = (p.setA i 3 x).cs := fun p x => p.set_a (j := 3) h (by omega) x
  have e4 : ∀ (p : Mt) (x : Int), p.cs.set (2 + i * 6 + 1 + 1 + 1 + 1) (.int .i64 x) = (p.setA i 4 x).cs := fun p x => p.set_a (j := 4) h (by omega) x
  have e5 : ∀ (p : Mt) (x : Int), p.cs.set (2 + i * 6 + 1 + 1 + 1 + 1 + 1) (.int .i64 x) = (p.setA i 5 x).cs := fun p x => p.set_a (j := 5) h (by omega) x
  rw [e0, e1, e2, e3, e4, e5]
  refine cs_ext rfl rfl fun i' j' _ hj => ?_
  simp only [setA, setRow]
  by_cases e : i' = i
  · subst e
    match j', hj with | 0, _ => simp | 1, _ => simp | 2, _ => simp | 3, _ => simp | 4, _ => simp | 5, _ => simp
  · simp [e]
/-- Rows below i, and of row i the cells below j, are the greater ones. -/
def m1 (p o : Mt) (i j : Nat) : Mt := { p with a := fun i' j' => if i' < i ∨ i' = i ∧ j' < j then mx (p.a i' j') (o.a i' j') else p.a i' j' }
/-- Then of one's own row the cells below j. -/
def m2 (p o : Mt) (j : Nat) : Mt := { p with a := fun i' j' => if i' = p.me.toNat ∧ j' < j then mx (mx (p.a i' j') (o.a i' j')) (o.a o.me.toNat j') else mx (p.a i' j') (o.a i' j') }
theorem m1_0 (p o : Mt) : p.m1 o 0 0 = p := by simp [m1]
theorem m1_at (p o : Mt) (i j : Nat) : (p.m1 o i j).a i j = p.a i j := by simp [m1]
theorem m1_row (p o : Mt) (i : Nat) : (p.m1 o i 0).a i = p.a i := by funext j; simp [m1]
theorem m1_next (p o : Mt) (i : Nat) : (p.m1 o i 6).cs = (p.m1 o (i + 1) 0).cs := cs_ext rfl rfl fun i' j' _ hj => by
  simp only [m1]
  by_cases e : i' < i
  · simp [e, show i' < i + 1 by omega]
  · by_cases e2 : i' = i
    · simp [e2, hj]
    · simp [e, e2, show ¬i' < i + 1 by omega]
theorem m1_step (p o : Mt) {i j : Nat} (hi : i < 6) (hj : j < 6) : (p.m1 o i j).cs.set (2 + i * 6 + j) (.int .i64 (mx (p.a i j) (o.a i j))) = (p.m1 o i (j + 1)).cs := by
  rw [set_a _ hi hj]
  refine cs_ext rfl rfl fun i' j' _ _ => ?_
  simp only [setA, m1]
  by_cases e : i' = i ∧ j' = j
  · simp [e]
  · by_cases e1 : i' < i ∨ i' = i ∧ j' < j
    · rw [if_neg e, if_pos e1, if_pos (by omega)]
    · rw [if_neg e, if_neg e1, if_neg (by omega)]
theorem m1_whole (p o : Mt) {i : Nat} (hi : i < 6) : splice (2 + i * 6) (vs (fun j => mx (p.a i j) (o.a i j))) (p.m1 o i 0).cs = (p.m1 o (i + 1) 0).cs := by
  rw [set_row _ hi]
  refine cs_ext rfl rfl fun i' j' _ _ => ?_
  simp only [setRow, m1]
  by_cases e : i' = i
  · simp [e]
  · by_cases e1 : i' < i
    · simp [e, e1, show i' < i + 1 by omega]
    · simp [e, e1, show ¬i' < i + 1 by omega]
theorem m1_all (p o : Mt) : (p.m1 o 6 0).cs = (p.m2 o 0).cs := cs_ext rfl rfl fun i' j' hi _ => by simp [m1, m2, hi]
theorem m2_at (p o : Mt) (j : Nat) : (p.m2 o j).a p.me.toNat j = mx (p.a p.me.toNat j) (o.a p.me.toNat j) := by simp [m2]
theorem m2_row (p o : Mt) : (p.m2 o 0).a p.me.toNat = fun j => mx (p.a p.me.toNat j) (o.a p.me.toNat j) := by funext j; simp [m2]
theorem m2_step (p o : Mt) {j : Nat} (hi : p.me.toNat < 6) (hj : j < 6) : (p.m2 o j).cs.set (2 + p.me.toNat * 6 + j) (.int .i64 (mx (mx (p.a p.me.toNat j) (o.a p.me.toNat j)) (o.a o.me.toNat j))) = (p.m2 o (j + 1)).cs := by
  rw [set_a _ hi hj]
  refine cs_ext rfl rfl fun i' j' _ _ => ?_
  simp only [setA, m2]
  by_cases e : i' = p.me.toNat ∧ j' = j
  · simp [e]
  · by_cases e1 : i' = p.me.toNat ∧ j' < j
    · rw [if_neg e, if_pos e1, if_pos (by omega)]
    · rw [if_neg e, if_neg e1, if_neg (by omega)]
theorem m2_whole (p o : Mt) (hi : p.me.toNat < 6) : splice (2 + p.me.toNat * 6) (vs (fun j => mx (mx (p.a p.me.toNat j) (o.a p.me.toNat j)) (o.a o.me.toNat j))) (p.m2 o 0).cs = (p.m2 o 6).cs := by
  rw [set_row _ hi]
  refine cs_ext rfl rfl fun i' j' _ hj => ?_
  simp only [setRow, m2]
  by_cases e : i' = p.me.toNat
  · simp [e, hj]
  · simp [e]
@[simp] theorem m1_me (p o : Mt) (i j : Nat) : (p.m1 o i j).me = p.me := rfl
@[simp] theorem m2_me (p o : Mt) (j : Nat) : (p.m2 o j).me = p.me := rfl
def meet (p o : Mt) : Mt := p.m2 o 6
def meetBad (p o : Mt) : Prop := ¬p.n = o.n ∨ p.me = o.me
instance (p o : Mt) : Decidable (meetBad p o) := by unfold meetBad; infer_instance
def meetM (p o : Mt) : Mt := if ¬p.err = 0 then zero else if ¬o.err = 0 then zero else if p.meetBad o then zero else p.meet o
def meetE (p o : Mt) : Int := if ¬p.err = 0 then p.err else if ¬o.err = 0 then o.err else if p.meetBad o then 1 else 0
/-- The least of the rows below k. -/
def least (p : Mt) (s : Int) (j : Nat) : Nat → Int
  | 0 => s
  | k + 1 => mn (least p s j k) (p.a k j)
theorem least_le (p : Mt) (s : Int) (j : Nat) : ∀ k, least p s j k ≤ s ∧ ∀ i, i < k → least p s j k ≤ p.a i j
  | 0 => ⟨Int.le_refl _, fun i hi => by omega⟩
  | k + 1 => by
    obtain ⟨h1, h2⟩ := least_le p s j k
    unfold least mn
    refine ⟨by split <;> omega, fun i hi => ?_⟩
    by_cases e : i = k
    · subst e; split <;> omega
    · have := h2 i (by omega); split <;> omega
theorem least_is (p : Mt) (s : Int) (j : Nat) : ∀ k, least p s j k = s ∨ ∃ i, i < k ∧ least p s j k = p.a i j
  | 0 => .inl rfl
  | k + 1 => by
    unfold least mn
    split
    · exact .inr ⟨k, by omega, rfl⟩
    · rcases least_is p s j k with h | ⟨i, hi, h⟩
      · exact .inl h
      · exact .inr ⟨i, by omega, h⟩
theorem least_any (p : Mt) (j n x y : Nat) (hx : x < n) (hy : y < n) : least p (p.a x j) j n = least p (p.a y j) j n := by
  obtain ⟨a1, a2⟩ := least_le p (p.a x j) j n
  obtain ⟨b1, b2⟩ := least_le p (p.a y j) j n
  apply Int.le_antisymm
  · rcases least_is p (p.a y j) j n with h | ⟨i, hi, h⟩
    · rw [h]; exact a2 y hy
    · rw [h]; exact a2 i hi
  · rcases least_is p (p.a x j) j n with h | ⟨i, hi, h⟩
    · rw [h]; exact b2 x hx
    · rw [h]; exact b2 i hi
def firm (p : Mt) (j : Nat) : Int := least p (p.a p.me.toNat j) j p.n.toNat
def firmV (p : Mt) : List Sc := if ¬p.err = 0 then vs (fun _ => 0) else vs p.firm
def upto (f : Nat → Int) (i : Nat) : Nat → Int := fun j => if j < i then f j else 0
theorem upto_set (f : Nat → Int) {i : Nat} (h : i < 6) : (vs (upto f i)).set i (.int .i64 (f i)) = vs (upto f (i + 1)) := by
  rw [vs_set _ h]
  refine vs_ext fun j _ => ?_
  unfold upto
  by_cases e : j = i
  · subst e; simp
  · by_cases hj : j < i
    · simp [e, hj, show j < i + 1 by omega]
    · simp [e, hj, show ¬j < i + 1 by omega]
theorem upto_0 (f : Nat → Int) : vs (upto f 0) = [.int .i64 0, .int .i64 0, .int .i64 0, .int .i64 0, .int .i64 0, .int .i64 0] := rfl
theorem upto_6 (f : Nat → Int) : vs (upto f 6) = vs f := vs_ext fun j h => by simp [upto, h]
end Mt
set_option maxRecDepth 100000 in
theorem matMeet {H : List Blk} {p o : Mt} {Q : AV → List Blk → Prop} (q : Q (.tup [.agg (p.meetM o).cs, .sc (.int .i64 (p.meetE o))]) H) :
    ACalls Try.prog 24 [.agg p.cs, .agg o.cs] H Q := by
  refine acalls_of tabOk Try.func24 (by kernel_rfl) rfl (by kernel_rfl) ?_
  (repeat' (first | refine awp_seq ?_ | (refine awp_region tabOk ?_; simp [Mt.zero_cs]) | (refine awp_if ?_; simp [Mt.zero_cs]) | refine awp_block ?_ | refine And.intro ?_ ?_ | intro _ | (refine awp_skip ?_; simp [Mt.zero_cs]) | (refine awp_ret ?_; simp [Mt.zero_cs]) | (refine awp_exit ?_; simp [Mt.zero_cs])))
  refine matCheck ?_
  unfold Mt.meetM Mt.meetE at q
  by_cases he : p.err = 0
  · simp only [he, not_true, if_false] at q
    ((try simp [he, Mt.zero_cs]); (repeat' (first | refine awp_seq ?_ | (refine awp_region tabOk ?_; simp [he, Mt.zero_cs]) | (refine awp_if ?_; simp [he, Mt.zero_cs]) | refine awp_block ?_ | refine And.intro ?_ ?_ | intro _ | (refine awp_skip ?_; simp [he, Mt.zero_cs]) | (refine awp_ret ?_; simp [he, Mt.zero_cs]) | (refine awp_exit ?_; simp [he, Mt.zero_cs]))))
    refine matCheck ?_
    by_cases ho : o.err = 0
    · simp only [ho, not_true, if_false] at q
      obtain ⟨g1, g2, g3, g4⟩ := Mt.err_me he
      obtain ⟨g5, g6, g7, g8⟩ := Mt.err_me ho
      by_cases hb : p.meetBad o
      · simp only [hb, if_true] at q
        rcases hb with hb | hb
        · have hb' : ¬o.n = p.n := fun e => hb e.symm
          ((try simp [ho, hb', Mt.zero_cs]); (repeat' (first | refine awp_seq ?_ | (refine awp_region tabOk ?_; simp [ho, hb', Mt.zero_cs]) | (refine awp_if ?_; simp [ho, hb', Mt.zero_cs]) | refine awp_block ?_ | refine And.intro ?_ ?_ | intro _ | (refine awp_skip ?_; simp [ho, hb', Mt.zero_cs]) | (refine awp_ret ?_; simp [ho, hb', Mt.zero_cs]) | (refine awp_exit ?_; simp [ho, hb', Mt.zero_cs]))))
          exact ⟨H, _, gcTo_none (fun _ => rfl), q⟩
        · by_cases hn : o.n = p.n
          · ((try simp [ho, hn, hb, Mt.zero_cs]); (repeat' (first | refine awp_seq ?_ | (refine awp_region tabOk ?_; simp [ho, hn, hb, Mt.zero_cs]) | (refine awp_if ?_; simp [ho, hn, hb, Mt.zero_cs]) | refine awp_block ?_ | refine And.intro ?_ ?_ | intro _ | (refine awp_skip ?_; simp [ho, hn, hb, Mt.zero_cs]) | (refine awp_ret ?_; simp [ho, hn, hb, Mt.zero_cs]) | (refine awp_exit ?_; simp [ho, hn, hb, Mt.zero_cs]))))
            exact ⟨H, _, gcTo_none (fun _ => rfl), q⟩
          · ((try simp [ho, hn, hb, Mt.zero_cs]); (repeat' (first | refine awp_seq ?_ | (refine awp_region tabOk ?_; simp [ho, hn, hb, Mt.zero_cs]) | (refine awp_if ?_; simp [ho, hn, hb, Mt.zero_cs]) | refine awp_block ?_ | refine And.intro ?_ ?_ | intro _ | (refine awp_skip ?_; simp [ho, hn, hb, Mt.zero_cs]) | (refine awp_ret ?_; simp [ho, hn, hb, Mt.zero_cs]) | (refine awp_exit ?_; simp [ho, hn, hb, Mt.zero_cs]))))
            exact ⟨H, _, gcTo_none (fun _ => rfl), q⟩
      · simp only [hb, if_false] at q
        have hn : o.n = p.n := by unfold Mt.meetBad at hb; omega
        have hm : ¬o.me = p.me := by unfold Mt.meetBad at hb; omega
        ((try simp [ho, hn, hm, Mt.zero_cs]); (repeat' (first | refine awp_seq ?_ | (refine awp_region tabOk ?_; simp [ho, hn, hm, Mt.zero_cs]) | (refine awp_if ?_; simp [ho, hn, hm, Mt.zero_cs]) | refine awp_block ?_ | refine And.intro ?_ ?_ | intro _ | (refine awp_skip ?_; simp [ho, hn, hm, Mt.zero_cs]) | (refine awp_ret ?_; simp [ho, hn, hm, Mt.zero_cs]) | (refine awp_exit ?_; simp [ho, hn, hm, Mt.zero_cs]))))
        refine awp_loop_at (α := {i : Nat // i ≤ 6}) (fun i => [(2, .c (.sc (.ptr H.length 0))), (3, .c (.sc (.ptr (H.length + 1) 0))), (4, .c (.sc (.ptr (H.length + 2) 0))), (34, .c (.sc (.int .i64 i.1)))]) (fun i => H ++ [.own (p.m1 o i.1 0).cs, .own o.cs, .own Mt.zero.cs]) (fun i => 6 - i.1) ⟨0, by omega⟩ (wk_gcl [0, 1, 2] (gcOk_of (by decide) (by simp [Mt.m1_0])) (by simp)) ?_
        rintro ⟨i, hi⟩
        by_cases hlt : i < 6
        · have hi6 : (i : Int) < 6 := by omega
          have wr := wrapS i (by omega)
          have r1 := (p.m1 o i 0).cs_row hlt
          rw [Mt.m1_row] at r1
          have r2 := o.cs_row hlt
          have st := p.m1_whole o hlt
          have c1 : 2 + i * 6 + 6 ≤ 38 := by omega
          (repeat' (first | refine awp_seq ?_ | (refine awp_region tabOk ?_; simp [hi6, hlt]) | (refine awp_if ?_; simp [hi6, hlt]) | refine awp_block ?_ | refine And.intro ?_ ?_ | intro _ | (refine awp_skip ?_; simp [hi6, hlt]) | (refine awp_ret ?_; simp [hi6, hlt]) | (refine awp_exit ?_; simp [hi6, hlt])))
          refine awp_draw tabOk mixed [] (by kernel_rfl) ?_
          simp [hi6, hlt, r1, r2, st, c1]
          refine ⟨_, [], vectMax ⟨rfl, by simp⟩, ?_⟩
          simp [hi6, hlt, r1, r2, st, c1]
          (repeat' (first | refine awp_seq ?_ | (refine awp_region tabOk ?_; simp [wr, hi6, hlt]) | (refine awp_if ?_; simp [wr, hi6, hlt]) | refine awp_block ?_ | refine And.intro ?_ ?_ | intro _ | (refine awp_skip ?_; simp [wr, hi6, hlt]) | (refine awp_ret ?_; simp [wr, hi6, hlt]) | (refine awp_exit ?_; simp [wr, hi6, hlt])))
          exact ⟨i + 1, by omega, by omega, wk_tl (by simp)⟩
        · obtain rfl : i = 6 := by omega
          have hk : p.me.toNat < 6 := by omega
          have hk2 : o.me.toNat < 6 := by omega
          have hm6 : p.me < 6 := by omega
          have hm7 : o.me < 6 := by omega
          rw [Mt.m1_all]
          have r1 := (p.m2 o 0).cs_row hk
          rw [Mt.m2_row] at r1
          have r2 := o.cs_row hk2
          have st := p.m2_whole o hk
          have c1 : 2 + p.me.toNat * 6 + 6 ≤ 38 := by omega
          have c2 : 2 + o.me.toNat * 6 + 6 ≤ 38 := by omega
          (repeat' (first | refine awp_seq ?_ | (refine awp_region tabOk ?_; simp [Mt.zero_cs]) | (refine awp_if ?_; simp [Mt.zero_cs]) | refine awp_block ?_ | refine And.intro ?_ ?_ | intro _ | (refine awp_skip ?_; simp [Mt.zero_cs]) | (refine awp_ret ?_; simp [Mt.zero_cs]) | (refine awp_exit ?_; simp [Mt.zero_cs])))
          refine awp_draw tabOk mixed [] (by kernel_rfl) ?_
          simp [hm6, hm7, g3, g7, r1, r2, st, c1, c2]
          refine ⟨_, [], vectMax ⟨rfl, by simp⟩, ?_⟩
          simp [hm6, hm7, g3, g7, r1, r2, st, c1, c2]
          (repeat' (first | refine awp_seq ?_ | (refine awp_region tabOk ?_; simp [Mt.zero_cs]) | (refine awp_if ?_; simp [Mt.zero_cs]) | refine awp_block ?_ | refine And.intro ?_ ?_ | intro _ | (refine awp_skip ?_; simp [Mt.zero_cs]) | (refine awp_ret ?_; simp [Mt.zero_cs]) | (refine awp_exit ?_; simp [Mt.zero_cs])))
          exact ⟨H, _, gcTo_none (fun _ => rfl), q⟩
    · simp only [ho, not_false_eq_true, if_true] at q
      ((try simp [ho, Mt.zero_cs]); (repeat' (first | refine awp_seq ?_ | (refine awp_region tabOk ?_; simp [ho, Mt.zero_cs]) | (refine awp_if ?_; simp [ho, Mt.zero_cs]) | refine awp_block ?_ | refine And.intro ?_ ?_ | intro _ | (refine awp_skip ?_; simp [ho, Mt.zero_cs]) | (refine awp_ret ?_; simp [ho, Mt.zero_cs]) | (refine awp_exit ?_; simp [ho, Mt.zero_cs]))))
      exact ⟨H, _, gcTo_none (fun _ => rfl), q⟩
  · simp only [he, not_false_eq_true, if_true] at q
    ((try simp [he, Mt.zero_cs]); (repeat' (first | refine awp_seq ?_ | (refine awp_region tabOk ?_; simp [he, Mt.zero_cs]) | (refine awp_if ?_; simp [he, Mt.zero_cs]) | refine awp_block ?_ | refine And.intro ?_ ?_ | intro _ | (refine awp_skip ?_; simp [he, Mt.zero_cs]) | (refine awp_ret ?_; simp [he, Mt.zero_cs]) | (refine awp_exit ?_; simp [he, Mt.zero_cs]))))
    exact ⟨H, _, gcTo_none (fun _ => rfl), q⟩
end Go.Proofs.Ytdeockoaalpcjaa
