/- MatSays: vect.Max, Min; mat.New, Did. -/
import Derived.Test.YtdeockoaalpcjaaM3
namespace Go.Proofs.Ytdeockoaalpcjaa
set_option linter.unusedSimpArgs false
set_option linter.unusedVariables false
open Go.RowKit
attribute [local irreducible] AWP ACalls Wk GcTo
attribute [local simp] tab41 ti41 tab3 ti3 tab38 ti38 tab39 ti39 tab22 ti22
def mx (a b : Int) : Int := if a < b then b else a
def mn (a b : Int) : Int := if b < a then b else a
namespace Mt
def up2 (op : Int → Int → Int) (f g : Nat → Int) (i : Nat) : Nat → Int := fun j => if j < i then op (f j) (g j) else f j
theorem vs_ext {f g : Nat → Int} (h : ∀ j, j < 6 → f j = g j) : vs f = vs g := by
  unfold vs; rw [h 0 (by omega), h 1 (by omega), h 2 (by omega), h 3 (by omega), h 4 (by omega), h 5 (by omega)]
theorem vs_up (op : Int → Int → Int) (f g : Nat → Int) {i : Nat} (h : i < 6) : (vs (up2 op f g i)).set i (.int .i64 (op (f i) (g i))) = vs (up2 op f g (i + 1)) := by
  rw [vs_set _ h]
  refine vs_ext fun j _ => ?_
  unfold up2
  by_cases e : j = i
  · subst e; simp
  · by_cases hj : j < i
    · simp [e, hj, show j < i + 1 by omega]
    · simp [e, hj, show ¬j < i + 1 by omega]
theorem up2_0 (op : Int → Int → Int) (f g : Nat → Int) : up2 op f g 0 = f := by funext j; simp [up2]
theorem up2_at (op : Int → Int → Int) (f g : Nat → Int) (i : Nat) : up2 op f g i i = f i := by simp [up2]
theorem up2_6 (op : Int → Int → Int) (f g : Nat → Int) : vs (up2 op f g 6) = vs (fun j => op (f j) (g j)) := vs_ext fun j h => by simp [up2, h]
end Mt
set_option maxRecDepth 100000 in
theorem vectMax {H : List Blk} {f g : Nat → Int} {Q : AV → List Blk → Prop} (q : Q (.c (.agg (Mt.vs fun j => mx (f j) (g j)))) H) :
    ACalls Try.prog 105 [.agg (Mt.vs f), .agg (Mt.vs g)] H Q := by
  refine acalls_of tabOk Try.func105 (by kernel_rfl) rfl (by kernel_rfl) ?_
  have ov := fun g : Nat → Int => splice_all (xs := Mt.vs g) (ys := [.int .i64 0, .int .i64 0, .int .i64 0, .int .i64 0, .int .i64 0, .int .i64 0]) rfl
  (repeat' (first | refine awp_seq ?_ | (refine awp_region tabOk ?_; simp) | (refine awp_if ?_; simp) | refine awp_block ?_ | refine And.intro ?_ ?_ | intro _ | (refine awp_skip ?_; simp) | (refine awp_ret ?_; simp) | (refine awp_exit ?_; simp)))
  refine awp_loop_at (α := {i : Nat // i ≤ 6}) (fun i => [(2, .c (.sc (.ptr H.length 0))), (3, .c (.sc (.ptr (H.length + 1) 0))), (4, .c (.sc (.ptr (H.length + 2) 0))), (6, .c (.sc (.int .i64 i.1)))]) (fun i => H ++ [.own (Mt.vs (Mt.up2 mx f g i.1)), .own (Mt.vs g), .own [.int .i64 0, .int .i64 0, .int .i64 0, .int .i64 0, .int .i64 0, .int .i64 0]]) (fun i => 6 - i.1) ⟨0, by omega⟩ (wk_gcl [0, 1, 2] (gcOk_of (by decide) (by simp [Mt.up2_0])) (by simp)) ?_
  rintro ⟨i, hi⟩
  by_cases hlt : i < 6
  · have hi6 : (i : Int) < 6 := by omega
    have wr := wrapS i (by omega)
    have a1 := Mt.vs_at (Mt.up2 mx f g i) hlt
    rw [Mt.up2_at] at a1
    have a2 := Mt.vs_at g hlt
    have st : (Mt.vs (Mt.up2 mx f g i)).set i (.int .i64 (if f i < g i then g i else f i)) = _ := Mt.vs_up mx f g hlt
    have c1 : i + 1 ≤ 6 := by omega
    (repeat' (first | refine awp_seq ?_ | (refine awp_region tabOk ?_; simp [hi6, hlt]) | (refine awp_if ?_; simp [hi6, hlt]) | refine awp_block ?_ | refine And.intro ?_ ?_ | intro _ | (refine awp_skip ?_; simp [hi6, hlt]) | (refine awp_ret ?_; simp [hi6, hlt]) | (refine awp_exit ?_; simp [hi6, hlt])))
    refine awp_draw tabOk mixed [] (by kernel_rfl) ?_
    simp [hi6, hlt, a1, a2, st, c1]
    (repeat' (first | refine awp_seq ?_ | (refine awp_region tabOk ?_; simp [wr, hi6, hlt]) | (refine awp_if ?_; simp [wr, hi6, hlt]) | refine awp_block ?_ | refine And.intro ?_ ?_ | intro _ | (refine awp_skip ?_; simp [wr, hi6, hlt]) | (refine awp_ret ?_; simp [wr, hi6, hlt]) | (refine awp_exit ?_; simp [wr, hi6, hlt])))
    exact ⟨i + 1, by omega, by omega, wk_tl (by simp)⟩
  · obtain rfl : i = 6 := by omega
    rw [← Mt.up2_6] at q
    (repeat' (first | refine awp_seq ?_ | (refine awp_region tabOk ?_; simp [ov]) | (refine awp_if ?_; simp [ov]) | refine awp_block ?_ | refine And.intro ?_ ?_ | intro _ | (refine awp_skip ?_; simp [ov]) | (refine awp_ret ?_; simp [ov]) | (refine awp_exit ?_; simp [ov])))
    exact ⟨H, _, gcTo_none (fun _ => rfl), q⟩
set_option maxRecDepth 100000 in
theorem vectMin {H : List Blk} {f g : Nat → Int} {Q : AV → List Blk → Prop} (q : Q (.c (.agg (Mt.vs fun j => mn (f j) (g j)))) H) :
    ACalls Try.prog 106 [.agg (Mt.vs f), .agg (Mt.vs g)] H Q := by
  refine acalls_of tabOk Try.func106 (by kernel_rfl) rfl (by kernel_rfl) ?_
  have ov := fun g : Nat → Int => splice_all (xs := Mt.vs g) (ys := [.int .i64 0, .int .i64 0, .int .i64 0, .int .i64 0, .int .i64 0, .int .i64 0]) rfl
  (repeat' (first | refine awp_seq ?_ | (refine awp_region tabOk ?_; simp) | (refine awp_if ?_; simp) | refine awp_block ?_ | refine And.intro ?_ ?_ | intro _ | (refine awp_skip ?_; simp) | (refine awp_ret ?_; simp) | (refine awp_exit ?_; simp)))
  refine awp_loop_at (α := {i : Nat // i ≤ 6}) (fun i => [(2, .c (.sc (.ptr H.length 0))), (3, .c (.sc (.ptr (H.length + 1) 0))), (4, .c (.sc (.ptr (H.length + 2) 0))), (6, .c (.sc (.int .i64 i.1)))]) (fun i => H ++ [.own (Mt.vs (Mt.up2 mn f g i.1)), .own (Mt.vs g), .own [.int .i64 0, .int .i64 0, .int .i64 0, .int .i64 0, .int .i64 0, .int .i64 0]]) (fun i => 6 - i.1) ⟨0, by omega⟩ (wk_gcl [0, 1, 2] (gcOk_of (by decide) (by simp [Mt.up2_0])) (by simp)) ?_
  rintro ⟨i, hi⟩
  by_cases hlt : i < 6
  · have hi6 : (i : Int) < 6 := by omega
    have wr := wrapS i (by omega)
    have a1 := Mt.vs_at (Mt.up2 mn f g i) hlt
    rw [Mt.up2_at] at a1
    have a2 := Mt.vs_at g hlt
    have st : (Mt.vs (Mt.up2 mn f g i)).set i (.int .i64 (if g i < f i then g i else f i)) = _ := Mt.vs_up mn f g hlt
    have c1 : i + 1 ≤ 6 := by omega
    (repeat' (first | refine awp_seq ?_ | (refine awp_region tabOk ?_; simp [hi6, hlt]) | (refine awp_if ?_; simp [hi6, hlt]) | refine awp_block ?_ | refine And.intro ?_ ?_ | intro _ | (refine awp_skip ?_; simp [hi6, hlt]) | (refine awp_ret ?_; simp [hi6, hlt]) | (refine awp_exit ?_; simp [hi6, hlt])))
    refine awp_draw tabOk mixed [] (by kernel_rfl) ?_
    simp [hi6, hlt, a1, a2, st, c1]
    (repeat' (first | refine awp_seq ?_ | (refine awp_region tabOk ?_; simp [wr, hi6, hlt]) | (refine awp_if ?_; simp [wr, hi6, hlt]) | refine awp_block ?_ | refine And.intro ?_ ?_ | intro _ | (refine awp_skip ?_; simp [wr, hi6, hlt]) | (refine awp_ret ?_; simp [wr, hi6, hlt]) | (refine awp_exit ?_; simp [wr, hi6, hlt])))
    exact ⟨i + 1, by omega, by omega, wk_tl (by simp)⟩
  · obtain rfl : i = 6 := by omega
    rw [← Mt.up2_6] at q
    (repeat' (first | refine awp_seq ?_ | (refine awp_region tabOk ?_; simp [ov]) | (refine awp_if ?_; simp [ov]) | refine awp_block ?_ | refine And.intro ?_ ?_ | intro _ | (refine awp_skip ?_; simp [ov]) | (refine awp_ret ?_; simp [ov]) | (refine awp_exit ?_; simp [ov])))
    exact ⟨H, _, gcTo_none (fun _ => rfl), q⟩
namespace Mt
def fr (n me : Int) : Mt := ⟨n, me, fun _ _ => 0⟩
def newM (n me : Int) : Mt := if (fr n me).err = 0 then fr n me else zero
theorem fr_cs (n me : Int) : (zero.cs.set 0 (.int .i64 n)).set 1 (.int .i64 me) = (fr n me).cs := rfl
def didM (p : Mt) : Mt := if ¬p.err = 0 then zero else if p.a p.me.toNat p.me.toNat = 16777215 then zero else p.setA p.me.toNat p.me.toNat (IntKind.i64.wrap (p.a p.me.toNat p.me.toNat + 1))
def didE (p : Mt) : Int := if ¬p.err = 0 then p.err else if p.a p.me.toNat p.me.toNat = 16777215 then 8 else 0
theorem err_me {p : Mt} (h : p.err = 0) : 1 ≤ p.n ∧ p.n ≤ 6 ∧ 0 ≤ p.me ∧ p.me < p.n := by
  unfold err at h; split at h
  · cases h
  · omega
end Mt
set_option maxRecDepth 100000 in
theorem matNew {H : List Blk} {n me : Int} {Q : AV → List Blk → Prop} (q : Q (.tup [.agg (Mt.newM n me).cs, .sc (.int .i64 (Mt.fr n me).err)]) H) :
    ACalls Try.prog 22 [.sc (.int .i64 n), .sc (.int .i64 me)] H Q := by
  refine acalls_of tabOk Try.func22 (by kernel_rfl) rfl (by kernel_rfl) ?_
  (repeat' (first | refine awp_seq ?_ | (refine awp_region tabOk ?_; simp [Mt.zero_cs, Mt.fr_cs]) | (refine awp_if ?_; simp [Mt.zero_cs, Mt.fr_cs]) | refine awp_block ?_ | refine And.intro ?_ ?_ | intro _ | (refine awp_skip ?_; simp [Mt.zero_cs, Mt.fr_cs]) | (refine awp_ret ?_; simp [Mt.zero_cs, Mt.fr_cs]) | (refine awp_exit ?_; simp [Mt.zero_cs, Mt.fr_cs])))
  refine matCheck ?_
  by_cases he : (Mt.fr n me).err = 0
  · have e : Mt.newM n me = Mt.fr n me := if_pos he
    rw [e, he] at q
    ((try simp [he, Mt.zero_cs]); (repeat' (first | refine awp_seq ?_ | (refine awp_region tabOk ?_; simp [he, Mt.zero_cs]) | (refine awp_if ?_; simp [he, Mt.zero_cs]) | refine awp_block ?_ | refine And.intro ?_ ?_ | intro _ | (refine awp_skip ?_; simp [he, Mt.zero_cs]) | (refine awp_ret ?_; simp [he, Mt.zero_cs]) | (refine awp_exit ?_; simp [he, Mt.zero_cs]))))
    exact ⟨H, _, gcTo_none (fun _ => rfl), q⟩
  · have e : Mt.newM n me = Mt.zero := if_neg he
    rw [e] at q
    ((try simp [he, Mt.zero_cs]); (repeat' (first | refine awp_seq ?_ | (refine awp_region tabOk ?_; simp [he, Mt.zero_cs]) | (refine awp_if ?_; simp [he, Mt.zero_cs]) | refine awp_block ?_ | refine And.intro ?_ ?_ | intro _ | (refine awp_skip ?_; simp [he, Mt.zero_cs]) | (refine awp_ret ?_; simp [he, Mt.zero_cs]) | (refine awp_exit ?_; simp [he, Mt.zero_cs]))))
    exact ⟨H, _, gcTo_none (fun _ => rfl), q⟩
set_option maxRecDepth 100000 in
theorem matDid {H : List Blk} {p : Mt} {Q : AV → List Blk → Prop} (q : Q (.tup [.agg p.didM.cs, .sc (.int .i64 p.didE)]) H) :
    ACalls Try.prog 23 [.agg p.cs] H Q := by
  refine acalls_of tabOk Try.func23 (by kernel_rfl) rfl (by kernel_rfl) ?_
  (repeat' (first | refine awp_seq ?_ | (refine awp_region tabOk ?_; simp [Mt.zero_cs]) | (refine awp_if ?_; simp [Mt.zero_cs]) | refine awp_block ?_ | refine And.intro ?_ ?_ | intro _ | (refine awp_skip ?_; simp [Mt.zero_cs]) | (refine awp_ret ?_; simp [Mt.zero_cs]) | (refine awp_exit ?_; simp [Mt.zero_cs])))
  refine matCheck ?_
  by_cases he : p.err = 0
  · obtain ⟨g1, g2, g3, g4⟩ := Mt.err_me he
    have hk : p.me.toNat < 6 := by omega
    have hm6 : p.me < 6 := by omega
    have a1 := p.at_a hk hk
    have st := fun x : Int => p.set_a hk hk x
    have c1 : 2 + p.me.toNat * 6 + p.me.toNat + 1 ≤ 38 := by omega
    ((try simp [he, Mt.zero_cs]); (repeat' (first | refine awp_seq ?_ | (refine awp_region tabOk ?_; simp [he, Mt.zero_cs]) | (refine awp_if ?_; simp [he, Mt.zero_cs]) | refine awp_block ?_ | refine And.intro ?_ ?_ | intro _ | (refine awp_skip ?_; simp [he, Mt.zero_cs]) | (refine awp_ret ?_; simp [he, Mt.zero_cs]) | (refine awp_exit ?_; simp [he, Mt.zero_cs]))))
    refine awp_draw tabOk mixed [] (by kernel_rfl) ?_
    by_cases hx : p.a p.me.toNat p.me.toNat = 16777215
    · have e1 : p.didM = Mt.zero := by unfold Mt.didM; rw [if_neg (by simp [he]), if_pos hx]
      have e2 : p.didE = 8 := by unfold Mt.didE; rw [if_neg (by simp [he]), if_pos hx]
      rw [e1, e2] at q
      simp [hm6, g3, a1]
      (repeat' (first | refine awp_seq ?_ | (refine awp_region tabOk ?_; simp [hx, Mt.zero_cs]) | (refine awp_if ?_; simp [hx, Mt.zero_cs]) | refine awp_block ?_ | refine And.intro ?_ ?_ | intro _ | (refine awp_skip ?_; simp [hx, Mt.zero_cs]) | (refine awp_ret ?_; simp [hx, Mt.zero_cs]) | (refine awp_exit ?_; simp [hx, Mt.zero_cs])))
      exact ⟨H, _, gcTo_none (fun _ => rfl), q⟩
    · have e1 : p.didM = p.setA p.me.toNat p.me.toNat (IntKind.i64.wrap (p.a p.me.toNat p.me.toNat + 1)) := by unfold Mt.didM; rw [if_neg (by simp [he]), if_neg hx]
      have e2 : p.didE = 0 := by unfold Mt.didE; rw [if_neg (by simp [he]), if_neg hx]
      rw [e1, e2] at q
      simp [hm6, g3, a1]
      (repeat' (first | refine awp_seq ?_ | (refine awp_region tabOk ?_; simp [hx, Mt.zero_cs]) | (refine awp_if ?_; simp [hx, Mt.zero_cs]) | refine awp_block ?_ | refine And.intro ?_ ?_ | intro _ | (refine awp_skip ?_; simp [hx, Mt.zero_cs]) | (refine awp_ret ?_; simp [hx, Mt.zero_cs]) | (refine awp_exit ?_; simp [hx, Mt.zero_cs])))
      refine awp_draw tabOk mixed [] (by kernel_rfl) ?_
      simp [hm6, g3, a1, st, c1]
      (repeat' (first | refine awp_seq ?_ | (refine awp_region tabOk ?_; simp [hm6, g3, a1, st, c1]) | (refine awp_if ?_; simp [hm6, g3, a1, st, c1]) | refine awp_block ?_ | refine And.intro ?_ ?_ | intro _ | (refine awp_skip ?_; simp [hm6, g3, a1, st, c1]) | (refine awp_ret ?_; simp [hm6, g3, a1, st, c1]) | (refine awp_exit ?_; simp [hm6, g3, a1, st, c1])))
      exact ⟨H, _, gcTo_none (fun _ => rfl), q⟩
  · have e1 : p.didM = Mt.zero := if_pos he
    have e2 : p.didE = p.err := if_pos he
    rw [e1, e2] at q
    ((try simp [he, Mt.zero_cs]); (repeat' (first | refine awp_seq ?_ | (refine awp_region tabOk ?_; simp [he, Mt.zero_cs]) | (refine awp_if ?_; simp [he, Mt.zero_cs]) | refine awp_block ?_ | refine And.intro ?_ ?_ | intro _ | (refine awp_skip ?_; simp [he, Mt.zero_cs]) | (refine awp_ret ?_; simp [he, Mt.zero_cs]) | (refine awp_exit ?_; simp [he, Mt.zero_cs]))))
    exact ⟨H, _, gcTo_none (fun _ => rfl), q⟩
end Go.Proofs.Ytdeockoaalpcjaa
